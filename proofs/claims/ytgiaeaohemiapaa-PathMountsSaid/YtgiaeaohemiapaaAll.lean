/-
  The given statements of layer path. No condition.
-/
import Derived.Test.YtgiaeaohemiapaaPath
import Derived.Test.YtgiaeaohemiapaaLibD
import Derived.Test.YtgiaeaohemiapaaRows
import Derived.WalkKit
import Derived.ProofKit
import Derived.OpenShut
namespace Go.Proofs.Ytgiaeaohemiapaa
open Go.ChangeShapes Go.WideShapes Go.ChangeAt Go.RowKit TL

theorem own : ownKnob Try.prog.godebug = none := by kernel_rfl
theorem hMt {H : Type} {enc : TypeId × Value → H} {w : World} (n : Nat) (cs : List Value) (y : DataW H × List MemPlace) (h : DataW.trod enc Try.prog w 0 (fun _ => true) true n 33 cs = some y) : ∃ x, cs = EncMt.enc x := by
  have hs := dTy_ok 5 (ks := [.str, .bool]) (by kernel_rfl) h
  obtain ⟨d, _, rfl, _, hs⟩ := sh_str hs
  obtain ⟨b, vs, hb, hs2⟩ := sh_bool hs
  cases sh_nil hs2
  subst hb
  obtain ⟨d, rfl⟩ := ex_mk d
  exact ⟨⟨d, b⟩, rfl⟩
section
variable {W : World} {a : Option Addr} {l : List Mt} {c : Nat} {K : Value → PH → Prop} {p q r : ByteArray}
theorem PathCuts_den' (_ : p.size ≤ maxLen) (_ : q.size ≤ maxLen) (hk : ∀ h', (whole W).Sub h' → K (.bool true) h') : CallH Try.prog id_law11_PathCuts [.string p, .string q] K (whole W) := by
  obtain ⟨p, rfl⟩ := ex_mk p
  obtain ⟨q, rfl⟩ := ex_mk q
  exact PathCuts_den hk
theorem PathBack_den' (_ : p.size ≤ maxLen) (_ : q.size ≤ maxLen) (hk : ∀ h', (whole W).Sub h' → K (.bool true) h') : CallH Try.prog id_law11_PathBack [.string p, .string q] K (whole W) := by
  obtain ⟨p, rfl⟩ := ex_mk p
  obtain ⟨q, rfl⟩ := ex_mk q
  exact PathBack_den hk
theorem PathSides_den' (_ : p.size ≤ maxLen) (_ : q.size ≤ maxLen) (_ : r.size ≤ maxLen) (hk : ∀ h', (whole W).Sub h' → K (.bool true) h') : CallH Try.prog id_law11_PathSides [.string p, .string q, .string r] K (whole W) := by
  obtain ⟨p, rfl⟩ := ex_mk p
  obtain ⟨q, rfl⟩ := ex_mk q
  obtain ⟨r, rfl⟩ := ex_mk r
  exact PathSides_den hk
theorem PathMounts_den' (hl : SR EncMt (whole W) a l) (hc : l.length ≤ c ∧ c ≤ maxLen) (_ : p.size ≤ maxLen) (hk : ∀ h', (whole W).Sub h' → K (.bool true) h') : CallH Try.prog id_law11_PathMounts [.slice a l.length c, .string p] K (whole W) := by
  obtain ⟨p, rfl⟩ := ex_mk p
  exact PathMounts_den hl hc.1 hk
theorem PathFilter_den' (hl : SR EncMt (whole W) a l) (hc : l.length ≤ c ∧ c ≤ maxLen) (_ : p.size ≤ maxLen) (_ : q.size ≤ maxLen) (hk : ∀ h', (whole W).Sub h' → K (.bool true) h') : CallH Try.prog id_law11_PathFilter [.slice a l.length c, .string p, .string q] K (whole W) := by
  obtain ⟨p, rfl⟩ := ex_mk p
  obtain ⟨q, rfl⟩ := ex_mk q
  exact PathFilter_den hl hc.1 hk
theorem PathKnown_den' (hk : ∀ h', (whole W).Sub h' → K (.bool true) h') : CallH Try.prog id_law11_PathKnown [] K (whole W) := PathKnown_den hk
end
set_option maxRecDepth 100000 in
theorem pathCuts_lifted (os : Os) (started : os.Started) (H : Type) (enc : TypeId × Value → H) :
    ReturnsInHanded {} Try.checked os 3 .any (Rows.pathCutsSpec.pre6 enc Try.prog Try.f3 Rows.pathCutsRow.domain false) (Rows.pathCutsSpec.post enc Try.prog Try.f3 false true false false) := by
  refine returnsInHanded_of_change (C := Try.checked) own started (by kernel_rfl) Try.func3
    (ChangeSpec.witness6 (enc := enc) (C := Try.checked) false ⟨#[], #[.string ⟨#[]⟩, .string ⟨#[]⟩], []⟩ 8 (by kernel_rfl) (by kernel_rfl) (by kernel_rfl) (by kernel_rfl)) ?_
  intro W base args ds gs before hval0 hW hcnd _
  have hW' := hW
  obtain ⟨p, q, hA0, hV, rfl, hfz, hnd⟩ := hW
  have hA : DataW.TrodAll enc Try.prog W 0 (fun _ => true) true [9, 9] args.toList ds p := hA0
  obtain ⟨v0, v1, d0, d1, p0, p1, rfl, rfl, rfl, t0, t1⟩ := trodAll_two hA
  obtain ⟨rfl, rfl⟩ := trodVars_none hV
  simp only [List.append_nil] at hW'
  obtain ⟨s0, rfl, h0⟩ := open_str (by kernel_rfl) t0 (hval0 0 9 v0 rfl rfl)
  obtain ⟨s1, rfl, h1⟩ := open_str (by kernel_rfl) t1 (hval0 1 9 v1 rfl rfl)
  refine (law_call (f := 3) (PathCuts_den' h0 h1 fun h' hs => ⟨rfl, hs⟩)).mono fun e W' ⟨he, hg⟩ => ?_
  subst he
  exact ⟨_, rfl, law_post (pa := _) (pv := []) hW' (fun _ _ _ => (trodAll_cons_mk (shut_bool (t := 4) (by kernel_rfl) _) trodAll_mk0)) (fun sp hsp => all_stays (by kernel_rfl) hg (by decide +kernel) hA (fun x hx => hW'.lt x hx) sp hsp) (fun _ _ => rfl) (by simp)
    hg (ok_one (t := 4) (by kernel_rfl) rfl (okWide_bool_mk (by kernel_rfl) _))⟩
theorem pathCuts_over : Rows.pathCutsRow.holds Try.pinned (OpenSpec.ofChange Rows.pathCutsSpec) :=
  OpenClaim.holds_of_wide 3 Try.f3 rfl rfl rfl rfl rfl rfl rfl ⟨rfl, rfl, rfl, rfl, rfl⟩ rfl rfl rfl rfl rfl (by kernel_rfl) Try.func3 (by kernel_rfl)
    (of_decide_eq_true (by kernel_rfl)) (by unfold Func.isWrapper; first | (rw [if_pos (by decide +kernel)]; kernel_rfl) | (rw [if_neg (by decide +kernel)]; exact ⟨rfl, rfl⟩))
    (fun os started H enc _ => pathCuts_lifted os started H enc)
theorem pathCuts_holds : Rows.PathCutsSaid := pathCuts_over
#print axioms pathCuts_holds

set_option maxRecDepth 100000 in
theorem pathBack_lifted (os : Os) (started : os.Started) (H : Type) (enc : TypeId × Value → H) :
    ReturnsInHanded {} Try.checked os 4 .any (Rows.pathBackSpec.pre6 enc Try.prog Try.f4 Rows.pathBackRow.domain false) (Rows.pathBackSpec.post enc Try.prog Try.f4 false true false false) := by
  refine returnsInHanded_of_change (C := Try.checked) own started (by kernel_rfl) Try.func4
    (ChangeSpec.witness6 (enc := enc) (C := Try.checked) false ⟨#[], #[.string ⟨#[]⟩, .string ⟨#[]⟩], []⟩ 8 (by kernel_rfl) (by kernel_rfl) (by kernel_rfl) (by kernel_rfl)) ?_
  intro W base args ds gs before hval0 hW hcnd _
  have hW' := hW
  obtain ⟨p, q, hA0, hV, rfl, hfz, hnd⟩ := hW
  have hA : DataW.TrodAll enc Try.prog W 0 (fun _ => true) true [9, 9] args.toList ds p := hA0
  obtain ⟨v0, v1, d0, d1, p0, p1, rfl, rfl, rfl, t0, t1⟩ := trodAll_two hA
  obtain ⟨rfl, rfl⟩ := trodVars_none hV
  simp only [List.append_nil] at hW'
  obtain ⟨s0, rfl, h0⟩ := open_str (by kernel_rfl) t0 (hval0 0 9 v0 rfl rfl)
  obtain ⟨s1, rfl, h1⟩ := open_str (by kernel_rfl) t1 (hval0 1 9 v1 rfl rfl)
  refine (law_call (f := 4) (PathBack_den' h0 h1 fun h' hs => ⟨rfl, hs⟩)).mono fun e W' ⟨he, hg⟩ => ?_
  subst he
  exact ⟨_, rfl, law_post (pa := _) (pv := []) hW' (fun _ _ _ => (trodAll_cons_mk (shut_bool (t := 4) (by kernel_rfl) _) trodAll_mk0)) (fun sp hsp => all_stays (by kernel_rfl) hg (by decide +kernel) hA (fun x hx => hW'.lt x hx) sp hsp) (fun _ _ => rfl) (by simp)
    hg (ok_one (t := 4) (by kernel_rfl) rfl (okWide_bool_mk (by kernel_rfl) _))⟩
theorem pathBack_over : Rows.pathBackRow.holds Try.pinned (OpenSpec.ofChange Rows.pathBackSpec) :=
  OpenClaim.holds_of_wide 4 Try.f4 rfl rfl rfl rfl rfl rfl rfl ⟨rfl, rfl, rfl, rfl, rfl⟩ rfl rfl rfl rfl rfl (by kernel_rfl) Try.func4 (by kernel_rfl)
    (of_decide_eq_true (by kernel_rfl)) (by unfold Func.isWrapper; first | (rw [if_pos (by decide +kernel)]; kernel_rfl) | (rw [if_neg (by decide +kernel)]; exact ⟨rfl, rfl⟩))
    (fun os started H enc _ => pathBack_lifted os started H enc)
theorem pathBack_holds : Rows.PathBackSaid := pathBack_over
#print axioms pathBack_holds

set_option maxRecDepth 100000 in
theorem pathSides_lifted (os : Os) (started : os.Started) (H : Type) (enc : TypeId × Value → H) :
    ReturnsInHanded {} Try.checked os 5 .any (Rows.pathSidesSpec.pre6 enc Try.prog Try.f5 Rows.pathSidesRow.domain false) (Rows.pathSidesSpec.post enc Try.prog Try.f5 false true false false) := by
  refine returnsInHanded_of_change (C := Try.checked) own started (by kernel_rfl) Try.func5
    (ChangeSpec.witness6 (enc := enc) (C := Try.checked) false ⟨#[], #[.string ⟨#[]⟩, .string ⟨#[]⟩, .string ⟨#[]⟩], []⟩ 8 (by kernel_rfl) (by kernel_rfl) (by kernel_rfl) (by kernel_rfl)) ?_
  intro W base args ds gs before hval0 hW hcnd _
  have hW' := hW
  obtain ⟨p, q, hA0, hV, rfl, hfz, hnd⟩ := hW
  have hA : DataW.TrodAll enc Try.prog W 0 (fun _ => true) true [9, 9, 9] args.toList ds p := hA0
  obtain ⟨v0, v1, v2, d0, d1, d2, p0, p1, p2, rfl, rfl, rfl, t0, t1, t2⟩ := trodAll_three hA
  obtain ⟨rfl, rfl⟩ := trodVars_none hV
  simp only [List.append_nil] at hW'
  obtain ⟨s0, rfl, h0⟩ := open_str (by kernel_rfl) t0 (hval0 0 9 v0 rfl rfl)
  obtain ⟨s1, rfl, h1⟩ := open_str (by kernel_rfl) t1 (hval0 1 9 v1 rfl rfl)
  obtain ⟨s2, rfl, h2⟩ := open_str (by kernel_rfl) t2 (hval0 2 9 v2 rfl rfl)
  refine (law_call (f := 5) (PathSides_den' h0 h1 h2 fun h' hs => ⟨rfl, hs⟩)).mono fun e W' ⟨he, hg⟩ => ?_
  subst he
  exact ⟨_, rfl, law_post (pa := _) (pv := []) hW' (fun _ _ _ => (trodAll_cons_mk (shut_bool (t := 4) (by kernel_rfl) _) trodAll_mk0)) (fun sp hsp => all_stays (by kernel_rfl) hg (by decide +kernel) hA (fun x hx => hW'.lt x hx) sp hsp) (fun _ _ => rfl) (by simp)
    hg (ok_one (t := 4) (by kernel_rfl) rfl (okWide_bool_mk (by kernel_rfl) _))⟩
theorem pathSides_over : Rows.pathSidesRow.holds Try.pinned (OpenSpec.ofChange Rows.pathSidesSpec) :=
  OpenClaim.holds_of_wide 5 Try.f5 rfl rfl rfl rfl rfl rfl rfl ⟨rfl, rfl, rfl, rfl, rfl⟩ rfl rfl rfl rfl rfl (by kernel_rfl) Try.func5 (by kernel_rfl)
    (of_decide_eq_true (by kernel_rfl)) (by unfold Func.isWrapper; first | (rw [if_pos (by decide +kernel)]; kernel_rfl) | (rw [if_neg (by decide +kernel)]; exact ⟨rfl, rfl⟩))
    (fun os started H enc _ => pathSides_lifted os started H enc)
theorem pathSides_holds : Rows.PathSidesSaid := pathSides_over
#print axioms pathSides_holds

set_option maxRecDepth 100000 in
theorem pathMounts_lifted (os : Os) (started : os.Started) (H : Type) (enc : TypeId × Value → H) :
    ReturnsInHanded {} Try.checked os 6 .any (Rows.pathMountsSpec.pre6 enc Try.prog Try.f6 Rows.pathMountsRow.domain false) (Rows.pathMountsSpec.post enc Try.prog Try.f6 false true false false) := by
  refine returnsInHanded_of_change (C := Try.checked) own started (by kernel_rfl) Try.func6
    (ChangeSpec.witness6 (enc := enc) (C := Try.checked) false ⟨#[], #[.slice none 0 0, .string ⟨#[]⟩], []⟩ 8 (by kernel_rfl) (by kernel_rfl) (by kernel_rfl) (by kernel_rfl)) ?_
  intro W base args ds gs before hval0 hW hcnd _
  have hW' := hW
  obtain ⟨p, q, hA0, hV, rfl, hfz, hnd⟩ := hW
  have hA : DataW.TrodAll enc Try.prog W 0 (fun _ => true) true [30, 9] args.toList ds p := hA0
  obtain ⟨v0, v1, d0, d1, p0, p1, rfl, rfl, rfl, t0, t1⟩ := trodAll_two hA
  obtain ⟨rfl, rfl⟩ := trodVars_none hV
  simp only [List.append_nil] at hW'
  obtain ⟨a0, l0, c0, rfl, h0, hc0⟩ := open_rows (E := EncMt) (e := 33) (by kernel_rfl) (by kernel_rfl) hMt t0 (one_slice (e := 33) (by kernel_rfl) (hval0 0 30 v0 rfl rfl))
  obtain ⟨s1, rfl, h1⟩ := open_str (by kernel_rfl) t1 (hval0 1 9 v1 rfl rfl)
  refine (law_call (f := 6) (PathMounts_den' h0 hc0 h1 fun h' hs => ⟨rfl, hs⟩)).mono fun e W' ⟨he, hg⟩ => ?_
  subst he
  exact ⟨_, rfl, law_post (pa := _) (pv := []) hW' (fun _ _ _ => (trodAll_cons_mk (shut_bool (t := 4) (by kernel_rfl) _) trodAll_mk0)) (fun sp hsp => all_stays (by kernel_rfl) hg (by decide +kernel) hA (fun x hx => hW'.lt x hx) sp hsp) (fun _ _ => rfl) (by simp)
    hg (ok_one (t := 4) (by kernel_rfl) rfl (okWide_bool_mk (by kernel_rfl) _))⟩
theorem pathMounts_over : Rows.pathMountsRow.holds Try.pinned (OpenSpec.ofChange Rows.pathMountsSpec) :=
  OpenClaim.holds_of_wide 6 Try.f6 rfl rfl rfl rfl rfl rfl rfl ⟨rfl, rfl, rfl, rfl, rfl⟩ rfl rfl rfl rfl rfl (by kernel_rfl) Try.func6 (by kernel_rfl)
    (of_decide_eq_true (by kernel_rfl)) (by unfold Func.isWrapper; first | (rw [if_pos (by decide +kernel)]; kernel_rfl) | (rw [if_neg (by decide +kernel)]; exact ⟨rfl, rfl⟩))
    (fun os started H enc _ => pathMounts_lifted os started H enc)
theorem pathMounts_holds : Rows.PathMountsSaid := pathMounts_over
#print axioms pathMounts_holds

set_option maxRecDepth 100000 in
theorem pathFilter_lifted (os : Os) (started : os.Started) (H : Type) (enc : TypeId × Value → H) :
    ReturnsInHanded {} Try.checked os 7 .any (Rows.pathFilterSpec.pre6 enc Try.prog Try.f7 Rows.pathFilterRow.domain false) (Rows.pathFilterSpec.post enc Try.prog Try.f7 false true false false) := by
  refine returnsInHanded_of_change (C := Try.checked) own started (by kernel_rfl) Try.func7
    (ChangeSpec.witness6 (enc := enc) (C := Try.checked) false ⟨#[], #[.slice none 0 0, .string ⟨#[]⟩, .string ⟨#[]⟩], []⟩ 8 (by kernel_rfl) (by kernel_rfl) (by kernel_rfl) (by kernel_rfl)) ?_
  intro W base args ds gs before hval0 hW hcnd _
  have hW' := hW
  obtain ⟨p, q, hA0, hV, rfl, hfz, hnd⟩ := hW
  have hA : DataW.TrodAll enc Try.prog W 0 (fun _ => true) true [30, 9, 9] args.toList ds p := hA0
  obtain ⟨v0, v1, v2, d0, d1, d2, p0, p1, p2, rfl, rfl, rfl, t0, t1, t2⟩ := trodAll_three hA
  obtain ⟨rfl, rfl⟩ := trodVars_none hV
  simp only [List.append_nil] at hW'
  obtain ⟨a0, l0, c0, rfl, h0, hc0⟩ := open_rows (E := EncMt) (e := 33) (by kernel_rfl) (by kernel_rfl) hMt t0 (one_slice (e := 33) (by kernel_rfl) (hval0 0 30 v0 rfl rfl))
  obtain ⟨s1, rfl, h1⟩ := open_str (by kernel_rfl) t1 (hval0 1 9 v1 rfl rfl)
  obtain ⟨s2, rfl, h2⟩ := open_str (by kernel_rfl) t2 (hval0 2 9 v2 rfl rfl)
  refine (law_call (f := 7) (PathFilter_den' h0 hc0 h1 h2 fun h' hs => ⟨rfl, hs⟩)).mono fun e W' ⟨he, hg⟩ => ?_
  subst he
  exact ⟨_, rfl, law_post (pa := _) (pv := []) hW' (fun _ _ _ => (trodAll_cons_mk (shut_bool (t := 4) (by kernel_rfl) _) trodAll_mk0)) (fun sp hsp => all_stays (by kernel_rfl) hg (by decide +kernel) hA (fun x hx => hW'.lt x hx) sp hsp) (fun _ _ => rfl) (by simp)
    hg (ok_one (t := 4) (by kernel_rfl) rfl (okWide_bool_mk (by kernel_rfl) _))⟩
theorem pathFilter_over : Rows.pathFilterRow.holds Try.pinned (OpenSpec.ofChange Rows.pathFilterSpec) :=
  OpenClaim.holds_of_wide 7 Try.f7 rfl rfl rfl rfl rfl rfl rfl ⟨rfl, rfl, rfl, rfl, rfl⟩ rfl rfl rfl rfl rfl (by kernel_rfl) Try.func7 (by kernel_rfl)
    (of_decide_eq_true (by kernel_rfl)) (by unfold Func.isWrapper; first | (rw [if_pos (by decide +kernel)]; kernel_rfl) | (rw [if_neg (by decide +kernel)]; exact ⟨rfl, rfl⟩))
    (fun os started H enc _ => pathFilter_lifted os started H enc)
theorem pathFilter_holds : Rows.PathFilterSaid := pathFilter_over
#print axioms pathFilter_holds

set_option maxRecDepth 100000 in
theorem pathKnown_lifted (os : Os) (started : os.Started) (H : Type) (enc : TypeId × Value → H) :
    ReturnsInHanded {} Try.checked os 8 .any (Rows.pathKnownSpec.pre6 enc Try.prog Try.f8 Rows.pathKnownRow.domain false) (Rows.pathKnownSpec.post enc Try.prog Try.f8 false true false false) := by
  refine returnsInHanded_of_change (C := Try.checked) own started (by kernel_rfl) Try.func8
    (ChangeSpec.witness6 (enc := enc) (C := Try.checked) false ⟨#[], #[], []⟩ 8 (by kernel_rfl) (by kernel_rfl) (by kernel_rfl) (by kernel_rfl)) ?_
  intro W base args ds gs before hval0 hW hcnd _
  have hW' := hW
  obtain ⟨p, q, hA0, hV, rfl, hfz, hnd⟩ := hW
  have hA : DataW.TrodAll enc Try.prog W 0 (fun _ => true) true [] args.toList ds p := hA0
  obtain ⟨rfl, rfl, rfl⟩ := trodAll_none hA
  obtain ⟨rfl, rfl⟩ := trodVars_none hV
  simp only [List.append_nil] at hW'
  refine (law_call (f := 8) (PathKnown_den'  fun h' hs => ⟨rfl, hs⟩)).mono fun e W' ⟨he, hg⟩ => ?_
  subst he
  exact ⟨_, rfl, law_post (pa := _) (pv := []) hW' (fun _ _ _ => (trodAll_cons_mk (shut_bool (t := 4) (by kernel_rfl) _) trodAll_mk0)) (fun sp hsp => all_stays (by kernel_rfl) hg (by decide +kernel) hA (fun x hx => hW'.lt x hx) sp hsp) (fun _ _ => rfl) (by simp)
    hg (ok_one (t := 4) (by kernel_rfl) rfl (okWide_bool_mk (by kernel_rfl) _))⟩
theorem pathKnown_over : Rows.pathKnownRow.holds Try.pinned (OpenSpec.ofChange Rows.pathKnownSpec) :=
  OpenClaim.holds_of_wide 8 Try.f8 rfl rfl rfl rfl rfl rfl rfl ⟨rfl, rfl, rfl, rfl, rfl⟩ rfl rfl rfl rfl rfl (by kernel_rfl) Try.func8 (by kernel_rfl)
    (of_decide_eq_true (by kernel_rfl)) (by unfold Func.isWrapper; first | (rw [if_pos (by decide +kernel)]; kernel_rfl) | (rw [if_neg (by decide +kernel)]; exact ⟨rfl, rfl⟩))
    (fun os started H enc _ => pathKnown_lifted os started H enc)
theorem pathKnown_holds : Rows.PathKnownSaid := pathKnown_over
#print axioms pathKnown_holds

end Go.Proofs.Ytgiaeaohemiapaa
