/-
  The given statements of one layer. No condition.
-/
import Derived.Test.YtmcgndbfoebcnaaGreatPartF
import Derived.Test.YtmcgndbfoebcnaaGreatPartC
import Derived.Test.YtmcgndbfoebcnaaGreatRows
import Derived.WalkKit
import Derived.ProofKit
import Derived.OpenShut
namespace Go.Proofs.YtmcgndbfoebcnaaGreat
open Go.ChangeShapes Go.WideShapes Go.ChangeAt Go.RowKit TL

theorem own : ownKnob Tryz.prog.godebug = none := by kernel_rfl
section
variable {H : Type} {enc : TypeId × Value → H} {w : World}
end
section
variable {W : World} {K : Value → PH → Prop}
theorem StageKnown_den'   (hk : ∀ h', (whole W).Sub h' → K (.bool true) h') :
    CallH Tryz.prog id_law22_StageKnown [] K (whole W) := StageKnown_den  hk
end
set_option maxRecDepth 100000 in
theorem stageKnown_lifted (os : Os) (started : os.Started) (H : Type) (enc : TypeId × Value → H) :
    ReturnsInHanded {} Tryz.checked os 15 .any (Rows.stageKnownSpec.pre6 enc Tryz.prog Tryz.f15 Rows.stageKnownRow.domain false) (Rows.stageKnownSpec.post enc Tryz.prog Tryz.f15 false true false false) := by
  refine returnsInHanded_of_change (C := Tryz.checked) own started (by kernel_rfl) Tryz.func15
    (ChangeSpec.witness6 (enc := enc) (C := Tryz.checked) false ⟨#[], #[], []⟩ 8 (by kernel_rfl) (by kernel_rfl) (by kernel_rfl) (by kernel_rfl)) ?_
  intro W base args ds gs before hval0 hW hcnd _
  have hW' := hW
  obtain ⟨p, q, hA0, hV, rfl, hfz, hnd⟩ := hW
  have hA : DataW.TrodAll enc Tryz.prog W 0 (fun _ => true) true [] args.toList ds p := hA0
  obtain ⟨rfl, rfl, rfl⟩ := trodAll_none hA
  obtain ⟨rfl, rfl⟩ := trodVars_none hV
  simp only [List.append_nil] at hW'
  refine (law_call (f := 15) (StageKnown_den'  fun h' hs => ⟨rfl, hs⟩)).mono fun e W' ⟨he, hg⟩ => ?_
  subst he
  exact ⟨_, rfl, law_post (pa := _) (pv := []) hW' (fun _ _ _ => (trodAll_cons_mk (shut_bool (t := 4) (by kernel_rfl) _) trodAll_mk0)) (fun sp hsp => all_stays (by kernel_rfl) hg (by decide +kernel) hA (fun x hx => hW'.lt x hx) sp hsp) (fun _ _ => rfl) (by simp)
    hg (ok_one (t := 4) (by kernel_rfl) rfl (okWide_bool_mk (by kernel_rfl) _))⟩
set_option maxHeartbeats 100000000 in
set_option maxRecDepth 100000 in
theorem stageKnown_closed : joinedFacts Tryz.prog 15 Tryz.f15 Rows.stageKnownSpec Rows.stageKnownRow = true := by
  unfold joinedFacts
  simp only [Bool.and_eq_true]
  repeat' refine And.intro ?_ ?_
  all_goals (as_aux_lemma => kernel_rfl)
theorem stageKnown_over : Rows.stageKnownRow.holds Tryz.pinned (OpenSpec.ofChange Rows.stageKnownSpec) :=
  OpenClaim.holds_of_wide 15 Tryz.f15 rfl rfl rfl rfl rfl rfl rfl ⟨rfl, rfl, rfl, rfl, rfl⟩ rfl rfl rfl rfl rfl (by kernel_rfl) Tryz.func15 stageKnown_closed
    (of_decide_eq_true (by kernel_rfl)) (by unfold Func.isWrapper; first | (rw [if_pos (by decide +kernel)]; kernel_rfl) | (rw [if_neg (by decide +kernel)]; exact ⟨rfl, rfl⟩))
    (fun os started H enc _ => stageKnown_lifted os started H enc)
theorem stageKnown_holds : Rows.StageKnownSaid := stageKnown_over
#print axioms stageKnown_holds
end Go.Proofs.YtmcgndbfoebcnaaGreat
