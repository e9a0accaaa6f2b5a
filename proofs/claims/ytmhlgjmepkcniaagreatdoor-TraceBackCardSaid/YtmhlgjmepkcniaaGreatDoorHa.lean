/- slices.AppendSeq at a number's bytes: its contract for the third layer. -/
import Derived.Test.YtmhlgjmepkcniaaGreatDoorTa2
namespace Go.Proofs.YtmhlgjmepkcniaaGreatDoor
open Go Go.Cw Go.Dw Go.Proofs
set_option linter.unusedVariables false
def bytesN (n : Int) : List (List D) := (uptoB n 8).map fun x => [.v (.int .u8 x)]
noncomputable def s15_F (a : List (List D)) : Option (List (List D)) := aC a fun r a => aL r fun es r => aN r <| aC a fun r a => aF r fun r' r => aP r' fun r'' r' => aI .u64 r'' fun n r'' => aN r'' <| aN r' <| aN r <| aZ a (if es.length ≤ 1000000 then some [[.l (es ++ bytesN n)]] else none)
noncomputable def s15 : FSp := ⟨[⟨false, [.l 0 5 [.v (.int .u8)]], false⟩, ⟨false, [.f 26 [.p 2 40 [.v (.int .u64)]]], false⟩], [⟨false, [.l 0 5 [.v (.int .u8)]], false⟩], [], s15_F⟩
theorem recs_bytes {w : World} {Z : Nat → Nat → Prop} : ∀ l : List Int, Recs w Z [.v (.int .u8)] (l.map fun x => [.v (.int .u8 x)]) (l.map fun x => [.int .u8 x]) []
 | [] => .nil
 | x :: l => .cons (f := []) (fs := []) (.cons (f := []) (fs := []) (.v rfl (by simp [Ck.fits])) .nil) (recs_bytes l)
theorem flat_bytes (l : List Int) : (l.map fun x => [Value.int .u8 x]).flatten = intsB l := by
 induction l with
 | nil => rfl
 | cons x l ih => simp only [List.map_cons, List.flatten_cons, ih]; rfl
theorem Recs.appN {w : World} {Z : Nat → Nat → Prop} {sub : List Shp} : ∀ {a b : List (List D)} {c e : List (List Value)} {f g : List Nat}, Recs w Z sub a c f → Recs w Z sub b e g → Recs w Z sub (a ++ b) (c ++ e) (f ++ g)
 | [], _, _, _, _, _, .nil, k => k
 | x :: a, b, _, _, _, _, .cons h1 h2, k => by
   rw [List.append_assoc]
   exact .cons h1 (Recs.appN h2 k)
theorem recs_nof {w : World} {Z : Nat → Nat → Prop} : ∀ {es : List (List D)} {css : List (List Value)} {f : List Nat}, Recs w Z [.v (.int .u8)] es css f → f = []
 | [], _, _, .nil => rfl
 | e :: es, _, _, .cons h1 h2 => by
   cases h1 with
   | cons a b =>
     cases b
     cases a
     simpa using recs_nof h2
theorem reps_u64 {w : World} {Z : Nat → Nat → Prop} {ds : List D} {cs : List Value} {f : List Nat} (h : Reps w Z [.v (.int .u64)] ds cs f) : ∃ n, ds = [.v (.int .u64 n)] ∧ cs = [.int .u64 n] := by
 cases h with
 | cons a b =>
   cases b
   cases a with
   | v h1 h2 =>
     rename_i v
     cases v <;> first | (simp [Ck.fits] at h2; done) | skip
     rename_i k n
     obtain rfl : IntKind.u64 = k := by simpa [Ck.fits] using h2
     exact ⟨_, rfl, rfl⟩
theorem s15_ok : FOk Tryz.prog glT 15 s15 := by
 intro a w Z vs f hpre hR hn hd hz h0 hG
 have hR : RepA w Z [⟨false, [.l 0 5 [.v (.int .u8)]], false⟩, ⟨false, [.f 26 [.p 2 40 [.v (.int .u64)]]], false⟩] a vs f := hR
 cases hR with
 | nilp h1 _ => simp [Pm.nilp] at h1
 | cons h1 h2 h3 =>
   cases h3 with
   | nilp k1 _ => simp [Pm.nilp] at k1
   | cons k1 k2 k3 =>
     cases k3
     cases h1 with
     | cons h4 h5 =>
       cases h5
       cases k1 with
       | cons k4 k5 =>
         cases k5
         rename_i x0 v0 f0 x1 v1 f1
         obtain ⟨es, rfl⟩ : ∃ es, x0 = .l es := by cases h4 <;> exact ⟨_, rfl⟩
         cases k4 with
         | fn k6 =>
           cases k6 with
           | cons k7 k8 =>
             cases k8
             cases k7 with
             | ptr m0 m1 m2 =>
               rename_i p cs
               obtain ⟨nv, rfl, rfl⟩ := reps_u64 m2
               obtain ⟨q, hq, hqz, hqc⟩ := m1 (by simp)
               obtain rfl := Option.some.inj hq
               have hp : w.cell? p = some (.int .u64 nv) := hqc 0 _ rfl
               have hF : ∀ n0, s15_F [[.l es], [.f [.p [.v (.int .u64 n0)]]]] = if es.length ≤ 1000000 then some [[.l (es ++ bytesN n0)]] else none := fun _ => rfl
               have hpre' : (s15_F [[.l es], [.f [.p [.v (.int .u64 nv)]]]]).isSome = true := hpre
               have hout : s15.spec.out [[.l es], [.f [.p [.v (.int .u64 nv)]]]] = (s15_F [[.l es], [.f [.p [.v (.int .u64 nv)]]]]).getD [] := rfl
               rw [hF] at hpre' hout
               split at hpre'
               ·rename_i hle
                rw [hout, if_pos hle]
                obtain ⟨css, fs, g1, g2, g3⟩ := h4.owns
                obtain rfl := recs_nof g2
                have hsl : ∃ A l c, v0 = .slice A l c := by cases h4 <;> exact ⟨_, _, _, rfl⟩
                have hob : ∀ g, v0.ownBlock = some g → g ∈ f0 := fun g hg => by
                 rcases g3 with ⟨e1, _⟩ | ⟨b, e1, e2⟩
                 ·rw [e1] at hg; cases hg
                 ·rw [e1] at hg
                  obtain rfl := Option.some.inj hg
                  rw [e2]; exact List.mem_cons_self ..
                have hf0 : ∀ g ∈ f0, g < w.heap.size := fun g hg => h4.lt g hg
                have hpf : ¬ p.block ∈ f0 := fun hm => (hd _ (by simpa using hm)).2 _ hqz
                refine Calls.mono (callsIn_wide.1 (seq_in Fence.wide 3 trivial trivial rfl (by decide) f0 v0 css.flatten es.length p nv w g1 hob hsl hp hpf hle)) ?_
                rintro e w' ⟨v', rfl, hrow, hbk, hFr⟩
                have e1 : css.flatten ++ intsB (uptoB nv 8) = (css ++ (uptoB nv 8).map fun x => [Value.int .u8 x]).flatten := by rw [List.flatten_append, flat_bytes]
                have hR2 : Recs w' Z [.v (.int .u8)] (es ++ bytesN nv) (css ++ (uptoB nv 8).map fun x => [Value.int .u8 x]) ([] ++ []) :=
                 Recs.appN (Recs.kept (fun m k hk hm => hFr.block k hk (fun hmf => (hd k (by simpa using hmf)).2 _ hm)) (fun _ _ h => h) g2 (fun _ h => by cases h)) (recs_bytes _)
                have hlen : (es ++ bytesN nv).length = es.length + 8 := by simp [bytesN, uptoB_length]
                rw [e1, ← hlen] at hrow
                have hZ : ∀ m k, Z m k → k < w'.heap.size := fun m k hk => Nat.lt_of_lt_of_le (hz m k hk).1 hFr.size
                obtain ⟨fr, hrep, hfr, hnd⟩ : ∃ fr, Rep w' Z (.l 0 5 [.v (.int .u8)]) (.l (es ++ bytesN nv)) v' fr ∧ (∀ g ∈ fr, v'.ownBlock = some g) ∧ fr.Nodup := by
                 rcases owns_rep hrow hR2 (by decide) with ⟨_, _, _, h⟩ | ⟨b, hb, h⟩
                 ·exact ⟨[], h, (fun _ h => by cases h), .nil⟩
                 ·exact ⟨[b], h, (fun g hg => by rw [List.mem_singleton.1 hg]; exact hb), by simp⟩
                refine ⟨[v'], rfl, hFr.mono (fun k _ hk => by simpa using hk), fr, Z, hnd, fun k hk => ?_, fun m k hk => ⟨.inl hk, fun hh => ?_, hZ m k hk⟩, ?_⟩
                ·rcases hbk k (hfr k hk) with h | h
                 ·exact .inl (by simpa using h)
                 ·exact .inr h
                ·rcases hbk k (hfr k hh) with h | h
                 ·exact (hd k (by simpa using h)).2 _ hk
                 ·have := (hz m k hk).1
                  omega
                ·have hA := RepA.cons (p := ⟨false, [.l 0 5 [.v (.int .u8)]], false⟩) (ys := [v']) (.cons (f := fr) (fs := []) hrep .nil) (fun _ => rfl) (RepA.nil (w := w') (Z := Z))
                 rw [List.append_nil, List.append_nil] at hA
                 exact hA
               ·cases hpre'
end Go.Proofs.YtmhlgjmepkcniaaGreatDoor
