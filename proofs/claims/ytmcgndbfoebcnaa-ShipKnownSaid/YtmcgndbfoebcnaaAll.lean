/-
  The given statements of one layer. No condition.
-/
import Derived.Test.YtmcgndbfoebcnaaShip
import Derived.Test.YtmcgndbfoebcnaaLibD
import Derived.Test.YtmcgndbfoebcnaaRows
import Derived.WalkKit
import Derived.ProofKit
import Derived.OpenShut
namespace Go.Proofs.Ytmcgndbfoebcnaa
open Go.ChangeShapes Go.WideShapes Go.ChangeAt Go.RowKit TL

theorem own : ownKnob Try.prog.godebug = none := by kernel_rfl
section
variable {H : Type} {enc : TypeId × Value → H} {w : World}
end
section
variable {W : World} {K : Value → PH → Prop}
theorem ShipKnown_den'   (hk : ∀ h', (whole W).Sub h' → K (.bool true) h') :
    CallH Try.prog id_law20_ShipKnown [] K (whole W) := ShipKnown_den  hk
end
set_option maxRecDepth 100000 in
theorem shipKnown_lifted (os : Os) (started : os.Started) (H : Type) (enc : TypeId × Value → H) :
    ReturnsInHanded {} Try.checked os 7 .any (Rows.shipKnownSpec.pre6 enc Try.prog Try.f7 Rows.shipKnownRow.domain false) (Rows.shipKnownSpec.post enc Try.prog Try.f7 false true false false) := by
  refine returnsInHanded_of_change (C := Try.checked) own started (by kernel_rfl) Try.func7
    (ChangeSpec.witness6 (enc := enc) (C := Try.checked) false ⟨#[], #[], []⟩ 8 (by kernel_rfl) (by kernel_rfl) (by kernel_rfl) (by kernel_rfl)) ?_
  intro W base args ds gs before hval0 hW hcnd _
  have hW' := hW
  obtain ⟨p, q, hA0, hV, rfl, hfz, hnd⟩ := hW
  have hA : DataW.TrodAll enc Try.prog W 0 (fun _ => true) true [] args.toList ds p := hA0
  obtain ⟨rfl, rfl, rfl⟩ := trodAll_none hA
  obtain ⟨rfl, rfl⟩ := trodVars_none hV
  simp only [List.append_nil] at hW'
  refine (law_call (f := 7) (ShipKnown_den'  fun h' hs => ⟨rfl, hs⟩)).mono fun e W' ⟨he, hg⟩ => ?_
  subst he
  exact ⟨_, rfl, law_post (pa := _) (pv := []) hW' (fun _ _ _ => (trodAll_cons_mk (shut_bool (t := 4) (by kernel_rfl) _) trodAll_mk0)) (fun sp hsp => all_stays (by kernel_rfl) hg (by decide +kernel) hA (fun x hx => hW'.lt x hx) sp hsp) (fun _ _ => rfl) (by simp)
    hg (ok_one (t := 4) (by kernel_rfl) rfl (okWide_bool_mk (by kernel_rfl) _))⟩
theorem shipKnown_over : Rows.shipKnownRow.holds Try.pinned (OpenSpec.ofChange Rows.shipKnownSpec) :=
  OpenClaim.holds_of_wide 7 Try.f7 rfl rfl rfl rfl rfl rfl rfl ⟨rfl, rfl, rfl, rfl, rfl⟩ rfl rfl rfl rfl rfl (by kernel_rfl) Try.func7 (by kernel_rfl)
    (of_decide_eq_true (by kernel_rfl)) (by unfold Func.isWrapper; first | (rw [if_pos (by decide +kernel)]; kernel_rfl) | (rw [if_neg (by decide +kernel)]; exact ⟨rfl, rfl⟩))
    (fun os started H enc _ => shipKnown_lifted os started H enc)
theorem shipKnown_holds : Rows.ShipKnownSaid := shipKnown_over
#print axioms shipKnown_holds
end Go.Proofs.Ytmcgndbfoebcnaa
