/-
  The given statements of one layer. No condition.
-/
import Derived.Test.YtgibhmeaikodjaaRef
import Derived.Test.YtgibhmeaikodjaaLibD
import Derived.Test.YtgibhmeaikodjaaRows
import Derived.WalkKit
import Derived.ProofKit
import Derived.OpenShut
namespace Go.Proofs.Ytgibhmeaikodjaa
open Go.ChangeShapes Go.WideShapes Go.ChangeAt Go.RowKit TL

theorem own : ownKnob Try.prog.godebug = none := by kernel_rfl
section
variable {H : Type} {enc : TypeId × Value → H} {w : World}
set_option maxRecDepth 100000 in
theorem hPr (n : Nat) (cs : List Value) (y : DataW H × List MemPlace) (h : DataW.trod enc Try.prog w 0 (fun _ => true) true n 37 cs = some y) : ∃ x, cs = EncPr.enc x ∧ True := by
  have hs0 := dT_ok 5 (ks := [.str, .str]) (by kernel_rfl) h
  obtain ⟨x0, _, rfl, _, hs1⟩ := sT_str hs0
  obtain ⟨x1, _, rfl, _, hs2⟩ := sT_str hs1
  cases sT_nil hs2
  obtain ⟨y0, rfl⟩ := ex_mk x0
  obtain ⟨y1, rfl⟩ := ex_mk x1
  exact ⟨⟨y0, y1⟩, rfl, trivial⟩
set_option maxRecDepth 100000 in
theorem oPrs {v : Value} (h : Trd enc Try.prog w 34 v) (h1 : one1 v = true) : ∃ (a : Option Addr) (l : List PrR) (c : Nat), v = .slice a l.length c ∧ SR EncPr (whole w) a l := by
  obtain ⟨a, l, c, h1, h2, _, _, _⟩ := open_rowsQ (E := EncPr) (Q := fun _ => True) (e := 37) (by kernel_rfl) (by kernel_rfl) hPr h h1
  exact ⟨a, l, c, h1, h2⟩
set_option maxRecDepth 100000 in
theorem oPrs' {v : Value} {d : DataW H} {ps : List MemPlace} {r : Reach} {base : Nat} (h : DataW.Trod enc Try.prog w 0 (fun _ => true) true 34 v d ps) (hv : Value.okWide Try.prog w r base 34 v) :
    ∃ (a : Option Addr) (l : List PrR) (c : Nat), v = .slice a l.length c ∧ SR EncPr (whole w) a l := oPrs ⟨d, ps, h⟩ (one_slice (e := 37) (by kernel_rfl) hv)
set_option maxRecDepth 100000 in
theorem hMt (n : Nat) (cs : List Value) (y : DataW H × List MemPlace) (h : DataW.trod enc Try.prog w 0 (fun _ => true) true n 82 cs = some y) : ∃ x, cs = EncMt.enc x ∧ True := by
  have hs0 := dT_ok 5 (ks := [.str, .bool]) (by kernel_rfl) h
  obtain ⟨x0, _, rfl, _, hs1⟩ := sT_str hs0
  obtain ⟨x1, _, rfl, hs2⟩ := sT_bool hs1
  cases sT_nil hs2
  obtain ⟨y0, rfl⟩ := ex_mk x0
  exact ⟨⟨y0, x1⟩, rfl, trivial⟩
set_option maxRecDepth 100000 in
theorem oMts {v : Value} (h : Trd enc Try.prog w 44 v) (h1 : one1 v = true) : ∃ (a : Option Addr) (l : List Mt) (c : Nat), v = .slice a l.length c ∧ SR EncMt (whole w) a l := by
  obtain ⟨a, l, c, h1, h2, _, _, _⟩ := open_rowsQ (E := EncMt) (Q := fun _ => True) (e := 82) (by kernel_rfl) (by kernel_rfl) hMt h h1
  exact ⟨a, l, c, h1, h2⟩
set_option maxRecDepth 100000 in
theorem oMts' {v : Value} {d : DataW H} {ps : List MemPlace} {r : Reach} {base : Nat} (h : DataW.Trod enc Try.prog w 0 (fun _ => true) true 44 v d ps) (hv : Value.okWide Try.prog w r base 44 v) :
    ∃ (a : Option Addr) (l : List Mt) (c : Nat), v = .slice a l.length c ∧ SR EncMt (whole w) a l := oMts ⟨d, ps, h⟩ (one_slice (e := 82) (by kernel_rfl) hv)
end
section
variable {W : World} {K : Value → PH → Prop}
theorem OmapFilters_den' {q0A : Option Addr} {q0 : List PrR} {q0C : Nat} {q1A : Option Addr} {q1 : List Mt} {q1C : Nat} (hq0 : SR EncPr (whole W) q0A q0) (hq1 : SR EncMt (whole W) q1A q1) (hk : ∀ h', (whole W).Sub h' → K (.bool true) h') :
    CallH Try.prog id_law13_OmapFilters [.slice q0A q0.length q0C, .slice q1A q1.length q1C] K (whole W) := OmapFilters_den hq0 hq1 hk
end
set_option maxRecDepth 100000 in
theorem omapFilters_lifted (os : Os) (started : os.Started) (H : Type) (enc : TypeId × Value → H) :
    ReturnsInHanded {} Try.checked os 7 .any (Rows.omapFiltersSpec.pre6 enc Try.prog Try.f7 Rows.omapFiltersRow.domain false) (Rows.omapFiltersSpec.post enc Try.prog Try.f7 false true false false) := by
  refine returnsInHanded_of_change (C := Try.checked) own started (by kernel_rfl) Try.func7
    (ChangeSpec.witness6 (enc := enc) (C := Try.checked) false ⟨#[], #[.slice none 0 0, .slice none 0 0], []⟩ 8 (by kernel_rfl) (by kernel_rfl) (by kernel_rfl) (by kernel_rfl)) ?_
  intro W base args ds gs before hval0 hW hcnd _
  have hW' := hW
  obtain ⟨p, q, hA0, hV, rfl, hfz, hnd⟩ := hW
  have hA : DataW.TrodAll enc Try.prog W 0 (fun _ => true) true [34, 44] args.toList ds p := hA0
  obtain ⟨v0, v1, d0, d1, p0, p1, rfl, rfl, rfl, t0, t1⟩ := trodAll_two hA
  obtain ⟨rfl, rfl⟩ := trodVars_none hV
  simp only [List.append_nil] at hW'
  obtain ⟨q0A, q0, q0C, rfl, hq0⟩ := oPrs' t0 (hval0 0 34 v0 rfl rfl)
  obtain ⟨q1A, q1, q1C, rfl, hq1⟩ := oMts' t1 (hval0 1 44 v1 rfl rfl)
  refine (law_call (f := 7) (OmapFilters_den' hq0 hq1 fun h' hs => ⟨rfl, hs⟩)).mono fun e W' ⟨he, hg⟩ => ?_
  subst he
  exact ⟨_, rfl, law_post (pa := _) (pv := []) hW' (fun _ _ _ => (trodAll_cons_mk (shut_bool (t := 4) (by kernel_rfl) _) trodAll_mk0)) (fun sp hsp => all_stays (by kernel_rfl) hg (by decide +kernel) hA (fun x hx => hW'.lt x hx) sp hsp) (fun _ _ => rfl) (by simp)
    hg (ok_one (t := 4) (by kernel_rfl) rfl (okWide_bool_mk (by kernel_rfl) _))⟩
theorem omapFilters_over : Rows.omapFiltersRow.holds Try.pinned (OpenSpec.ofChange Rows.omapFiltersSpec) :=
  OpenClaim.holds_of_wide 7 Try.f7 rfl rfl rfl rfl rfl rfl rfl ⟨rfl, rfl, rfl, rfl, rfl⟩ rfl rfl rfl rfl rfl (by kernel_rfl) Try.func7 (by kernel_rfl)
    (of_decide_eq_true (by kernel_rfl)) (by unfold Func.isWrapper; first | (rw [if_pos (by decide +kernel)]; kernel_rfl) | (rw [if_neg (by decide +kernel)]; exact ⟨rfl, rfl⟩))
    (fun os started H enc _ => omapFilters_lifted os started H enc)
theorem omapFilters_holds : Rows.OmapFiltersSaid := omapFilters_over
#print axioms omapFilters_holds
end Go.Proofs.Ytgibhmeaikodjaa
