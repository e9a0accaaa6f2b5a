/- Ev: lives answers true, in any world. -/
import Derived.Test.YtmhlgjmepkcniaaGreatDoorEvX2
import Derived.Test.YtmhlgjmepkcniaaGreatDoorEvL3
import Derived.Test.YtmhlgjmepkcniaaGreatDoorEvL4
import Derived.Test.YtmhlgjmepkcniaaGreatDoorEvL5
import Derived.Test.YtmhlgjmepkcniaaGreatDoorEvL6
import Derived.Test.YtmhlgjmepkcniaaGreatDoorEvL9
import Derived.Test.YtmhlgjmepkcniaaGreatDoorEvL10
import Derived.Test.YtmhlgjmepkcniaaGreatDoorEvL11
import Derived.Test.YtmhlgjmepkcniaaGreatDoorEvK
namespace Go.Proofs.YtmhlgjmepkcniaaGreatDoor
open Go Go.Cw Go.Ev
set_option maxRecDepth 1000000

theorem dstB_seqs {n : Nat} : ∀ {c : Code}, dstB n c = true → ∀ c' ∈ seqs c, dstB n c' = true := by
 intro c
 induction c with
 | seq a b iha ihb =>
   intro h c' hc
   simp only [dstB, Bool.and_eq_true] at h
   rcases List.mem_append.1 hc with hc | hc
   ·exact iha h.1 c' hc
   ·exact ihb h.2 c' hc
 | _ =>
   intro h c' hc
   obtain rfl := List.mem_singleton.1 hc
   exact h

theorem fnL_at : (Tryz.prog).funcs[11]? = some fnL := by kernel_rfl
theorem fnL_some : fnL.body.isSome = true := by kernel_rfl
theorem fnL_body : fnL.body = some (fnL.body.getD .skip) := by
 obtain ⟨c, hc⟩ := Option.isSome_iff_exists.1 fnL_some
 rw [hc]; rfl
theorem dstL : ∀ c ∈ codeL, dstB fnL.ntmps c = true := dstB_seqs (prR.dst 11 fnL _ fnL_at fnL_body)

theorem pc {w0 : World} {Q : Exit → Act → World → Prop} {i k j : Nat} (hj : i + k = j) {s s' : Env × H} {keep : List Tmp} {call : Fcall} (hk : FnOk cxR call) (hp : cutT keep (evL cxR call ((codeL.drop i).take k) s.1 s.2) = some s')
 (hn : ∀ σ (a : Act) w, EnvR σ s'.1 a.tmps → a.defers = [] → fnL.ntmps ≤ a.tmps.size → WR cxR.gl w0 s'.2 σ w → wpL cxR.P Q (codeL.drop j) a w) :
 ∀ σ (a : Act) w, EnvR σ s.1 a.tmps → a.defers = [] → fnL.ntmps ≤ a.tmps.size → WR cxR.gl w0 s.2 σ w → wpL cxR.P Q (codeL.drop i) a w := by
 intro σ a w hE hD hsz hW
 have e : codeL.drop i = (codeL.drop i).take k ++ codeL.drop j := by rw [← hj, ← List.drop_drop, List.take_append_drop]
 rw [e]
 exact cut_ok hk mixedR (e' := s'.1) (h' := s'.2) hp (fun c hc => dstL c (List.mem_of_mem_drop (List.mem_of_mem_take hc))) hE hD hsz hW hn

theorem lives_ok {w : World} (hg : ∀ x ∈ cxR.gl, ∃ cs' rest t, Box w x.1 (cs' ++ rest) t ∧ VRs (fun _ => none) x.2 cs') : Calls (Tryz.prog) 11 #[] w fun e w' => e = .returned (.bool true) ∧ Fr F0 w w' := by
 refine run_ok (cx := cxR) fnL_at fnL_body fun a hE hD hn => ?_
 refine pc (i := 0) (k := 3) rfl (s := st0) m0 piece3 (pc (k := 1) rfl m0 piece4 (pc (k := 1) rfl m0 piece5 (pc (k := 1) rfl m1 piece6 (pc (k := 3) rfl m0 piece9 (pc (k := 1) rfl m0 piece10 (?_)))))) (fun _ => none) a w hE hD hn (start_ok hg)
 intro σ a w' hE hD hn hW
 have h := piece11
 unfold finB at h
 split at h
 ·cases h
 ·rename_i x e h' hne hf
  exact last_ok m0 mixedR (x := x) hf (by cases x with
   | ex id => exact absurd rfl (hne id)
   | nm => rfl
   | rt => rfl) h (fun c hc => dstL c (List.mem_of_mem_drop hc)) hE hD hn hW
 ·cases h
end Go.Proofs.YtmhlgjmepkcniaaGreatDoor
