/-
  The given statements NetPlays and NetCounts. No condition.
-/
import Derived.Test.YtlgcgalfaljpeaaMore
import Derived.Test.YtlgcgalfaljpeaaFour
namespace Go.Proofs.Ytlgcgalfaljpeaa
open Go.ChangeShapes Go.WideShapes Go.ChangeAt Go.RowKit TL

set_option maxRecDepth 100000 in
theorem netPlays_lifted (os : Os) (started : os.Started) (H : Type) (enc : TypeId × Value → H) :
    ReturnsInHanded {} Try.checked os 6 .any (Rows.netPlaysSpec.pre6 enc Try.prog Try.f6 Rows.netPlaysRow.domain false) (Rows.netPlaysSpec.post enc Try.prog Try.f6 false true false false) := by
  refine returnsInHanded_of_change (C := Try.checked) own started (by kernel_rfl) Try.func6
    (ChangeSpec.witness6 (enc := enc) (C := Try.checked) false ⟨#[], #[.slice none 0 0], []⟩ 8 (by kernel_rfl) (by kernel_rfl) (by kernel_rfl) (by kernel_rfl)) ?_
  intro W base args ds gs before hval0 hW hcnd _
  have hW' := hW
  obtain ⟨p, q, hA0, hV, rfl, hfz, hnd⟩ := hW
  have hA : DataW.TrodAll enc Try.prog W 0 (fun _ => true) true [34] args.toList ds p := hA0
  obtain ⟨v0, d0, rfl, rfl, t0⟩ := trodAll_one hA
  obtain ⟨rfl, rfl⟩ := trodVars_none hV
  simp only [List.append_nil] at hW'
  obtain ⟨a0, l0, c0, rfl, h0⟩ := open_rows (E := EncAct) (e := 44) (by kernel_rfl) (by kernel_rfl) hAct t0 (one_slice (e := 44) (by kernel_rfl) (hval0 0 34 v0 rfl rfl))
  refine (law_call (f := 6) (NetPlays_den h0 fun h' hs => ⟨rfl, hs⟩)).mono fun e W' ⟨he, hg⟩ => ?_
  subst he
  exact ⟨_, rfl, law_post (pa := _) (pv := []) hW' (fun _ _ _ => (trodAll_cons_mk (shut_bool (t := 4) (by kernel_rfl) _) trodAll_mk0)) (fun sp hsp => all_stays (by kernel_rfl) hg (by decide +kernel) hA (fun x hx => hW'.lt x hx) sp hsp) (fun _ _ => rfl) (by simp)
    hg (ok_one (t := 4) (by kernel_rfl) rfl (okWide_bool_mk (by kernel_rfl) _))⟩
theorem netPlays_over : Rows.netPlaysRow.holds Try.pinned (OpenSpec.ofChange Rows.netPlaysSpec) :=
  OpenClaim.holds_of_wide 6 Try.f6 rfl rfl rfl rfl rfl rfl rfl ⟨rfl, rfl, rfl, rfl, rfl⟩ rfl rfl rfl rfl rfl (by kernel_rfl) Try.func6 (by kernel_rfl)
    (of_decide_eq_true (by kernel_rfl)) (by unfold Func.isWrapper; first | (rw [if_pos (by decide +kernel)]; kernel_rfl) | (rw [if_neg (by decide +kernel)]; exact ⟨rfl, rfl⟩))
    (fun os started H enc _ => netPlays_lifted os started H enc)
theorem netPlays_holds : Rows.NetPlaysSaid := netPlays_over
#print axioms netPlays_holds

set_option maxRecDepth 100000 in
theorem netCounts_lifted (os : Os) (started : os.Started) (H : Type) (enc : TypeId × Value → H) :
    ReturnsInHanded {} Try.checked os 7 .any (Rows.netCountsSpec.pre6 enc Try.prog Try.f7 Rows.netCountsRow.domain false) (Rows.netCountsSpec.post enc Try.prog Try.f7 false true false false) := by
  refine returnsInHanded_of_change (C := Try.checked) own started (by kernel_rfl) Try.func7
    (ChangeSpec.witness6 (enc := enc) (C := Try.checked) false ⟨#[], #[.slice none 0 0], []⟩ 8 (by kernel_rfl) (by kernel_rfl) (by kernel_rfl) (by kernel_rfl)) ?_
  intro W base args ds gs before hval0 hW hcnd _
  have hW' := hW
  obtain ⟨p, q, hA0, hV, rfl, hfz, hnd⟩ := hW
  have hA : DataW.TrodAll enc Try.prog W 0 (fun _ => true) true [34] args.toList ds p := hA0
  obtain ⟨v0, d0, rfl, rfl, t0⟩ := trodAll_one hA
  obtain ⟨rfl, rfl⟩ := trodVars_none hV
  simp only [List.append_nil] at hW'
  obtain ⟨a0, l0, c0, rfl, h0⟩ := open_rows (E := EncAct) (e := 44) (by kernel_rfl) (by kernel_rfl) hAct t0 (one_slice (e := 44) (by kernel_rfl) (hval0 0 34 v0 rfl rfl))
  refine (law_call (f := 7) (NetCounts_den h0 fun h' hs => ⟨rfl, hs⟩)).mono fun e W' ⟨he, hg⟩ => ?_
  subst he
  exact ⟨_, rfl, law_post (pa := _) (pv := []) hW' (fun _ _ _ => (trodAll_cons_mk (shut_bool (t := 4) (by kernel_rfl) _) trodAll_mk0)) (fun sp hsp => all_stays (by kernel_rfl) hg (by decide +kernel) hA (fun x hx => hW'.lt x hx) sp hsp) (fun _ _ => rfl) (by simp)
    hg (ok_one (t := 4) (by kernel_rfl) rfl (okWide_bool_mk (by kernel_rfl) _))⟩
theorem netCounts_over : Rows.netCountsRow.holds Try.pinned (OpenSpec.ofChange Rows.netCountsSpec) :=
  OpenClaim.holds_of_wide 7 Try.f7 rfl rfl rfl rfl rfl rfl rfl ⟨rfl, rfl, rfl, rfl, rfl⟩ rfl rfl rfl rfl rfl (by kernel_rfl) Try.func7 (by kernel_rfl)
    (of_decide_eq_true (by kernel_rfl)) (by unfold Func.isWrapper; first | (rw [if_pos (by decide +kernel)]; kernel_rfl) | (rw [if_neg (by decide +kernel)]; exact ⟨rfl, rfl⟩))
    (fun os started H enc _ => netCounts_lifted os started H enc)
theorem netCounts_holds : Rows.NetCountsSaid := netCounts_over
#print axioms netCounts_holds

end Go.Proofs.Ytlgcgalfaljpeaa
