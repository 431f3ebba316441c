/-
  The given statements of layer pack. No condition.
-/
import Derived.Test.YtbhkdimcdimcbaaLaw
import Derived.Test.YtbhkdimcdimcbaaLibD
import Derived.Test.YtbhkdimcdimcbaaRows
import Derived.WalkKit
import Derived.ProofKit
import Derived.OpenShut
namespace Go.Proofs.Ytbhkdimcdimcbaa
open Go.ChangeShapes Go.WideShapes Go.ChangeAt Go.RowKit TL

theorem own : ownKnob Try.prog.godebug = none := by kernel_rfl
theorem hIt {H : Type} {enc : TypeId × Value → H} {w : World} (n : Nat) (cs : List Value) (y : DataW H × List MemPlace) (h : DataW.trod enc Try.prog w 0 (fun _ => true) true n 32 cs = some y) : ∃ x, cs = EncIt.enc x := by
  have hs := dTy_ok 5 (ks := [.int .u8, .int .u64, .int .i64, .str, .int .u8, .int .i64]) (by kernel_rfl) h
  obtain ⟨a, _, rfl, ha, hs⟩ := sh_int hs
  obtain ⟨b, _, rfl, hb, hs⟩ := sh_int hs
  obtain ⟨c, _, rfl, hc, hs⟩ := sh_int hs
  obtain ⟨d, _, rfl, hd, hs⟩ := sh_str hs
  obtain ⟨e, _, rfl, he, hs⟩ := sh_int hs
  obtain ⟨f, _, rfl, hf, hs⟩ := sh_int hs
  cases sh_nil hs
  obtain ⟨d, rfl⟩ := ex_mk d
  rw [size_mk] at hd
  have ha := wf_u8 ha
  have hb := wf_u64 hb
  have he := wf_u8 he
  refine ⟨⟨UInt8.ofNat a.toNat, b.toNat, c, d, UInt8.ofNat e.toNat, f, by omega, wf_i64 hc, wf_i64 hf, maxLen_le hd⟩, ?_⟩
  simp only [EncIt]
  rw [u8 (n := a.toNat) (by omega), u8 (n := e.toNat) (by omega), Int.toNat_of_nonneg ha.1, Int.toNat_of_nonneg hb.1, Int.toNat_of_nonneg he.1]
section
variable {W : World} {a a2 : Option Addr} {l l2 : List It} {c c2 : Nat} {K : Value → PH → Prop}
theorem PackSpells_den' (hl : SR EncIt (whole W) a l) (hc : l.length ≤ c ∧ c ≤ maxLen) (hk : ∀ h', (whole W).Sub h' → K (.bool true) h') : CallH Try.prog id_law01_PackSpells [.slice a l.length c] K (whole W) := PackSpells_den hl hc.1 hk
theorem PackSizes_den' {n i : Int} {s : ByteArray} (h0 : (Lit.int .u64 n).wf = true) (h1 : (Lit.int .i64 i).wf = true) (_ : s.size ≤ maxLen) (hk : ∀ h', (whole W).Sub h' → K (.bool true) h') : CallH Try.prog id_law01_PackSizes [.int .u64 n, .int .i64 i, .string s] K (whole W) := by
  obtain ⟨s, rfl⟩ := ex_mk s
  have h0 := wf_u64 h0
  have := PackSizes_den (n := n.toNat) (s := s) (by omega) (wf_i64 h1) hk
  rw [Int.toNat_of_nonneg h0.1] at this
  exact this
theorem PackBounds_den' {s : ByteArray} {m : Int} (_ : s.size ≤ maxLen) (h1 : (Lit.int .i64 m).wf = true) (hk : ∀ h', (whole W).Sub h' → K (.bool true) h') : CallH Try.prog id_law01_PackBounds [.string s, .int .i64 m] K (whole W) := by
  obtain ⟨s, rfl⟩ := ex_mk s
  exact PackBounds_den (wf_i64 h1) hk
theorem PackTells_den' {s : ByteArray} {b : Bool} (_ : s.size ≤ maxLen) (hl : SR EncIt (whole W) a l) (_ : l.length ≤ c ∧ c ≤ maxLen) (hk : ∀ h', (whole W).Sub h' → K (.bool true) h') : CallH Try.prog id_law01_PackTells [.string s, .slice a l.length c, .bool b] K (whole W) := by
  obtain ⟨s, rfl⟩ := ex_mk s
  exact PackTells_den hl hk
theorem PackKnown_den' (hk : ∀ h', (whole W).Sub h' → K (.bool true) h') : CallH Try.prog id_law01_PackKnown [] K (whole W) := PackKnown_den hk
theorem PackReturns_den' {s t : ByteArray} (hl : SR EncIt (whole W) a l) (_ : l.length ≤ c ∧ c ≤ maxLen) (_ : s.size ≤ maxLen) (_ : t.size ≤ maxLen) (hk : ∀ h', (whole W).Sub h' → K (.bool true) h') : CallH Try.prog id_law01_PackReturns [.slice a l.length c, .string s, .string t] K (whole W) := by
  obtain ⟨s, rfl⟩ := ex_mk s
  obtain ⟨t, rfl⟩ := ex_mk t
  exact PackReturns_den hl hk
theorem PackCuts_den' {k : Int} (hl : SR EncIt (whole W) a l) (_ : l.length ≤ c ∧ c ≤ maxLen) (_ : (Lit.int .i64 k).wf = true) (hk : ∀ h', (whole W).Sub h' → K (.bool true) h') : CallH Try.prog id_law01_PackCuts [.slice a l.length c, .int .i64 k] K (whole W) := PackCuts_den hl hk
theorem PackFollows_den' (hl : SR EncIt (whole W) a l) (_ : l.length ≤ c ∧ c ≤ maxLen) (hm : SR EncIt (whole W) a2 l2) (_ : l2.length ≤ c2 ∧ c2 ≤ maxLen) (hk : ∀ h', (whole W).Sub h' → K (.bool true) h') : CallH Try.prog id_law01_PackFollows [.slice a l.length c, .slice a2 l2.length c2] K (whole W) := PackFollows_den hl hm hk
end
set_option maxRecDepth 100000 in
theorem packSpells_lifted (os : Os) (started : os.Started) (H : Type) (enc : TypeId × Value → H) :
    ReturnsInHanded {} Try.checked os 3 .any (Rows.packSpellsSpec.pre6 enc Try.prog Try.f3 Rows.packSpellsRow.domain false) (Rows.packSpellsSpec.post enc Try.prog Try.f3 false true false false) := by
  refine returnsInHanded_of_change (C := Try.checked) own started (by kernel_rfl) Try.func3
    (ChangeSpec.witness6 (enc := enc) (C := Try.checked) false ⟨#[], #[.slice none 0 0], []⟩ 8 (by kernel_rfl) (by kernel_rfl) (by kernel_rfl) (by kernel_rfl)) ?_
  intro W base args ds gs before hval0 hW hcnd _
  have hW' := hW
  obtain ⟨p, q, hA0, hV, rfl, hfz, hnd⟩ := hW
  have hA : DataW.TrodAll enc Try.prog W 0 (fun _ => true) true [22] args.toList ds p := hA0
  obtain ⟨v0, d0, rfl, rfl, t0⟩ := trodAll_one hA
  obtain ⟨rfl, rfl⟩ := trodVars_none hV
  simp only [List.append_nil] at hW'
  obtain ⟨a0, l0, c0, rfl, h0, hc0⟩ := open_rows (E := EncIt) (e := 32) (by kernel_rfl) (by kernel_rfl) hIt t0 (one_slice (e := 32) (by kernel_rfl) (hval0 0 22 v0 rfl rfl))
  refine (law_call (f := 3) (PackSpells_den' h0 hc0 fun h' hs => ⟨rfl, hs⟩)).mono fun e W' ⟨he, hg⟩ => ?_
  subst he
  exact ⟨_, rfl, law_post (pa := _) (pv := []) hW' (fun _ _ _ => (trodAll_cons_mk (shut_bool (t := 4) (by kernel_rfl) _) trodAll_mk0)) (fun sp hsp => all_stays (by kernel_rfl) hg (by decide +kernel) hA (fun x hx => hW'.lt x hx) sp hsp) (fun _ _ => rfl) (by simp)
    hg (ok_one (t := 4) (by kernel_rfl) rfl (okWide_bool_mk (by kernel_rfl) _))⟩
theorem packSpells_over : Rows.packSpellsRow.holds Try.pinned (OpenSpec.ofChange Rows.packSpellsSpec) :=
  OpenClaim.holds_of_wide 3 Try.f3 rfl rfl rfl rfl rfl rfl rfl ⟨rfl, rfl, rfl, rfl, rfl⟩ rfl rfl rfl rfl rfl (by kernel_rfl) Try.func3 (by kernel_rfl)
    (of_decide_eq_true (by kernel_rfl)) (by unfold Func.isWrapper; first | (rw [if_pos (by decide +kernel)]; kernel_rfl) | (rw [if_neg (by decide +kernel)]; exact ⟨rfl, rfl⟩))
    (fun os started H enc _ => packSpells_lifted os started H enc)
theorem packSpells_holds : Rows.PackSpellsSaid := packSpells_over
#print axioms packSpells_holds

set_option maxRecDepth 100000 in
theorem packSizes_lifted (os : Os) (started : os.Started) (H : Type) (enc : TypeId × Value → H) :
    ReturnsInHanded {} Try.checked os 4 .any (Rows.packSizesSpec.pre6 enc Try.prog Try.f4 Rows.packSizesRow.domain false) (Rows.packSizesSpec.post enc Try.prog Try.f4 false true false false) := by
  refine returnsInHanded_of_change (C := Try.checked) own started (by kernel_rfl) Try.func4
    (ChangeSpec.witness6 (enc := enc) (C := Try.checked) false ⟨#[], #[.int .u64 0, .int .i64 0, .string ⟨#[]⟩], []⟩ 8 (by kernel_rfl) (by kernel_rfl) (by kernel_rfl) (by kernel_rfl)) ?_
  intro W base args ds gs before hval0 hW hcnd _
  have hW' := hW
  obtain ⟨p, q, hA0, hV, rfl, hfz, hnd⟩ := hW
  have hA : DataW.TrodAll enc Try.prog W 0 (fun _ => true) true [30, 2, 9] args.toList ds p := hA0
  obtain ⟨v0, v1, v2, d0, d1, d2, p0, p1, p2, rfl, rfl, rfl, t0, t1, t2⟩ := trodAll_three hA
  obtain ⟨rfl, rfl⟩ := trodVars_none hV
  simp only [List.append_nil] at hW'
  obtain ⟨n0, rfl, h0⟩ := open_int (k := .u64) (by kernel_rfl) t0 (hval0 0 30 v0 rfl rfl)
  obtain ⟨n1, rfl, h1⟩ := open_int (k := .i64) (by kernel_rfl) t1 (hval0 1 2 v1 rfl rfl)
  obtain ⟨s2, rfl, h2⟩ := open_str (by kernel_rfl) t2 (hval0 2 9 v2 rfl rfl)
  refine (law_call (f := 4) (PackSizes_den' h0 h1 h2 fun h' hs => ⟨rfl, hs⟩)).mono fun e W' ⟨he, hg⟩ => ?_
  subst he
  exact ⟨_, rfl, law_post (pa := _) (pv := []) hW' (fun _ _ _ => (trodAll_cons_mk (shut_bool (t := 4) (by kernel_rfl) _) trodAll_mk0)) (fun sp hsp => all_stays (by kernel_rfl) hg (by decide +kernel) hA (fun x hx => hW'.lt x hx) sp hsp) (fun _ _ => rfl) (by simp)
    hg (ok_one (t := 4) (by kernel_rfl) rfl (okWide_bool_mk (by kernel_rfl) _))⟩
theorem packSizes_over : Rows.packSizesRow.holds Try.pinned (OpenSpec.ofChange Rows.packSizesSpec) :=
  OpenClaim.holds_of_wide 4 Try.f4 rfl rfl rfl rfl rfl rfl rfl ⟨rfl, rfl, rfl, rfl, rfl⟩ rfl rfl rfl rfl rfl (by kernel_rfl) Try.func4 (by kernel_rfl)
    (of_decide_eq_true (by kernel_rfl)) (by unfold Func.isWrapper; first | (rw [if_pos (by decide +kernel)]; kernel_rfl) | (rw [if_neg (by decide +kernel)]; exact ⟨rfl, rfl⟩))
    (fun os started H enc _ => packSizes_lifted os started H enc)
theorem packSizes_holds : Rows.PackSizesSaid := packSizes_over
#print axioms packSizes_holds

set_option maxRecDepth 100000 in
theorem packBounds_lifted (os : Os) (started : os.Started) (H : Type) (enc : TypeId × Value → H) :
    ReturnsInHanded {} Try.checked os 5 .any (Rows.packBoundsSpec.pre6 enc Try.prog Try.f5 Rows.packBoundsRow.domain false) (Rows.packBoundsSpec.post enc Try.prog Try.f5 false true false false) := by
  refine returnsInHanded_of_change (C := Try.checked) own started (by kernel_rfl) Try.func5
    (ChangeSpec.witness6 (enc := enc) (C := Try.checked) false ⟨#[], #[.string ⟨#[]⟩, .int .i64 0], []⟩ 8 (by kernel_rfl) (by kernel_rfl) (by kernel_rfl) (by kernel_rfl)) ?_
  intro W base args ds gs before hval0 hW hcnd _
  have hW' := hW
  obtain ⟨p, q, hA0, hV, rfl, hfz, hnd⟩ := hW
  have hA : DataW.TrodAll enc Try.prog W 0 (fun _ => true) true [9, 3] args.toList ds p := hA0
  obtain ⟨v0, v1, d0, d1, p0, p1, rfl, rfl, rfl, t0, t1⟩ := trodAll_two hA
  obtain ⟨rfl, rfl⟩ := trodVars_none hV
  simp only [List.append_nil] at hW'
  obtain ⟨s0, rfl, h0⟩ := open_str (by kernel_rfl) t0 (hval0 0 9 v0 rfl rfl)
  obtain ⟨n1, rfl, h1⟩ := open_int (k := .i64) (by kernel_rfl) t1 (hval0 1 3 v1 rfl rfl)
  refine (law_call (f := 5) (PackBounds_den' h0 h1 fun h' hs => ⟨rfl, hs⟩)).mono fun e W' ⟨he, hg⟩ => ?_
  subst he
  exact ⟨_, rfl, law_post (pa := _) (pv := []) hW' (fun _ _ _ => (trodAll_cons_mk (shut_bool (t := 4) (by kernel_rfl) _) trodAll_mk0)) (fun sp hsp => all_stays (by kernel_rfl) hg (by decide +kernel) hA (fun x hx => hW'.lt x hx) sp hsp) (fun _ _ => rfl) (by simp)
    hg (ok_one (t := 4) (by kernel_rfl) rfl (okWide_bool_mk (by kernel_rfl) _))⟩
theorem packBounds_over : Rows.packBoundsRow.holds Try.pinned (OpenSpec.ofChange Rows.packBoundsSpec) :=
  OpenClaim.holds_of_wide 5 Try.f5 rfl rfl rfl rfl rfl rfl rfl ⟨rfl, rfl, rfl, rfl, rfl⟩ rfl rfl rfl rfl rfl (by kernel_rfl) Try.func5 (by kernel_rfl)
    (of_decide_eq_true (by kernel_rfl)) (by unfold Func.isWrapper; first | (rw [if_pos (by decide +kernel)]; kernel_rfl) | (rw [if_neg (by decide +kernel)]; exact ⟨rfl, rfl⟩))
    (fun os started H enc _ => packBounds_lifted os started H enc)
theorem packBounds_holds : Rows.PackBoundsSaid := packBounds_over
#print axioms packBounds_holds

set_option maxRecDepth 100000 in
theorem packTells_lifted (os : Os) (started : os.Started) (H : Type) (enc : TypeId × Value → H) :
    ReturnsInHanded {} Try.checked os 6 .any (Rows.packTellsSpec.pre6 enc Try.prog Try.f6 Rows.packTellsRow.domain false) (Rows.packTellsSpec.post enc Try.prog Try.f6 false true false false) := by
  refine returnsInHanded_of_change (C := Try.checked) own started (by kernel_rfl) Try.func6
    (ChangeSpec.witness6 (enc := enc) (C := Try.checked) false ⟨#[], #[.string ⟨#[]⟩, .slice none 0 0, .bool false], []⟩ 8 (by kernel_rfl) (by kernel_rfl) (by kernel_rfl) (by kernel_rfl)) ?_
  intro W base args ds gs before hval0 hW hcnd _
  have hW' := hW
  obtain ⟨p, q, hA0, hV, rfl, hfz, hnd⟩ := hW
  have hA : DataW.TrodAll enc Try.prog W 0 (fun _ => true) true [9, 22, 4] args.toList ds p := hA0
  obtain ⟨v0, v1, v2, d0, d1, d2, p0, p1, p2, rfl, rfl, rfl, t0, t1, t2⟩ := trodAll_three hA
  obtain ⟨rfl, rfl⟩ := trodVars_none hV
  simp only [List.append_nil] at hW'
  obtain ⟨s0, rfl, h0⟩ := open_str (by kernel_rfl) t0 (hval0 0 9 v0 rfl rfl)
  obtain ⟨a1, l1, c1, rfl, h1, hc1⟩ := open_rows (E := EncIt) (e := 32) (by kernel_rfl) (by kernel_rfl) hIt t1 (one_slice (e := 32) (by kernel_rfl) (hval0 1 22 v1 rfl rfl))
  obtain ⟨b2, rfl⟩ := open_bool (by kernel_rfl) t2 (hval0 2 4 v2 rfl rfl)
  refine (law_call (f := 6) (PackTells_den' h0 h1 hc1 fun h' hs => ⟨rfl, hs⟩)).mono fun e W' ⟨he, hg⟩ => ?_
  subst he
  exact ⟨_, rfl, law_post (pa := _) (pv := []) hW' (fun _ _ _ => (trodAll_cons_mk (shut_bool (t := 4) (by kernel_rfl) _) trodAll_mk0)) (fun sp hsp => all_stays (by kernel_rfl) hg (by decide +kernel) hA (fun x hx => hW'.lt x hx) sp hsp) (fun _ _ => rfl) (by simp)
    hg (ok_one (t := 4) (by kernel_rfl) rfl (okWide_bool_mk (by kernel_rfl) _))⟩
theorem packTells_over : Rows.packTellsRow.holds Try.pinned (OpenSpec.ofChange Rows.packTellsSpec) :=
  OpenClaim.holds_of_wide 6 Try.f6 rfl rfl rfl rfl rfl rfl rfl ⟨rfl, rfl, rfl, rfl, rfl⟩ rfl rfl rfl rfl rfl (by kernel_rfl) Try.func6 (by kernel_rfl)
    (of_decide_eq_true (by kernel_rfl)) (by unfold Func.isWrapper; first | (rw [if_pos (by decide +kernel)]; kernel_rfl) | (rw [if_neg (by decide +kernel)]; exact ⟨rfl, rfl⟩))
    (fun os started H enc _ => packTells_lifted os started H enc)
theorem packTells_holds : Rows.PackTellsSaid := packTells_over
#print axioms packTells_holds

set_option maxRecDepth 100000 in
theorem packKnown_lifted (os : Os) (started : os.Started) (H : Type) (enc : TypeId × Value → H) :
    ReturnsInHanded {} Try.checked os 7 .any (Rows.packKnownSpec.pre6 enc Try.prog Try.f7 Rows.packKnownRow.domain false) (Rows.packKnownSpec.post enc Try.prog Try.f7 false true false false) := by
  refine returnsInHanded_of_change (C := Try.checked) own started (by kernel_rfl) Try.func7
    (ChangeSpec.witness6 (enc := enc) (C := Try.checked) false ⟨#[], #[], []⟩ 8 (by kernel_rfl) (by kernel_rfl) (by kernel_rfl) (by kernel_rfl)) ?_
  intro W base args ds gs before hval0 hW hcnd _
  have hW' := hW
  obtain ⟨p, q, hA0, hV, rfl, hfz, hnd⟩ := hW
  have hA : DataW.TrodAll enc Try.prog W 0 (fun _ => true) true [] args.toList ds p := hA0
  obtain ⟨rfl, rfl, rfl⟩ := trodAll_none hA
  obtain ⟨rfl, rfl⟩ := trodVars_none hV
  simp only [List.append_nil] at hW'
  refine (law_call (f := 7) (PackKnown_den'  fun h' hs => ⟨rfl, hs⟩)).mono fun e W' ⟨he, hg⟩ => ?_
  subst he
  exact ⟨_, rfl, law_post (pa := _) (pv := []) hW' (fun _ _ _ => (trodAll_cons_mk (shut_bool (t := 4) (by kernel_rfl) _) trodAll_mk0)) (fun sp hsp => all_stays (by kernel_rfl) hg (by decide +kernel) hA (fun x hx => hW'.lt x hx) sp hsp) (fun _ _ => rfl) (by simp)
    hg (ok_one (t := 4) (by kernel_rfl) rfl (okWide_bool_mk (by kernel_rfl) _))⟩
theorem packKnown_over : Rows.packKnownRow.holds Try.pinned (OpenSpec.ofChange Rows.packKnownSpec) :=
  OpenClaim.holds_of_wide 7 Try.f7 rfl rfl rfl rfl rfl rfl rfl ⟨rfl, rfl, rfl, rfl, rfl⟩ rfl rfl rfl rfl rfl (by kernel_rfl) Try.func7 (by kernel_rfl)
    (of_decide_eq_true (by kernel_rfl)) (by unfold Func.isWrapper; first | (rw [if_pos (by decide +kernel)]; kernel_rfl) | (rw [if_neg (by decide +kernel)]; exact ⟨rfl, rfl⟩))
    (fun os started H enc _ => packKnown_lifted os started H enc)
theorem packKnown_holds : Rows.PackKnownSaid := packKnown_over
#print axioms packKnown_holds

set_option maxRecDepth 100000 in
theorem packReturns_lifted (os : Os) (started : os.Started) (H : Type) (enc : TypeId × Value → H) :
    ReturnsInHanded {} Try.checked os 8 .any (Rows.packReturnsSpec.pre6 enc Try.prog Try.f8 Rows.packReturnsRow.domain false) (Rows.packReturnsSpec.post enc Try.prog Try.f8 false true false false) := by
  refine returnsInHanded_of_change (C := Try.checked) own started (by kernel_rfl) Try.func8
    (ChangeSpec.witness6 (enc := enc) (C := Try.checked) false ⟨#[], #[.slice none 0 0, .string ⟨#[]⟩, .string ⟨#[]⟩], []⟩ 8 (by kernel_rfl) (by kernel_rfl) (by kernel_rfl) (by kernel_rfl)) ?_
  intro W base args ds gs before hval0 hW hcnd _
  have hW' := hW
  obtain ⟨p, q, hA0, hV, rfl, hfz, hnd⟩ := hW
  have hA : DataW.TrodAll enc Try.prog W 0 (fun _ => true) true [22, 9, 9] args.toList ds p := hA0
  obtain ⟨v0, v1, v2, d0, d1, d2, p0, p1, p2, rfl, rfl, rfl, t0, t1, t2⟩ := trodAll_three hA
  obtain ⟨rfl, rfl⟩ := trodVars_none hV
  simp only [List.append_nil] at hW'
  obtain ⟨a0, l0, c0, rfl, h0, hc0⟩ := open_rows (E := EncIt) (e := 32) (by kernel_rfl) (by kernel_rfl) hIt t0 (one_slice (e := 32) (by kernel_rfl) (hval0 0 22 v0 rfl rfl))
  obtain ⟨s1, rfl, h1⟩ := open_str (by kernel_rfl) t1 (hval0 1 9 v1 rfl rfl)
  obtain ⟨s2, rfl, h2⟩ := open_str (by kernel_rfl) t2 (hval0 2 9 v2 rfl rfl)
  refine (law_call (f := 8) (PackReturns_den' h0 hc0 h1 h2 fun h' hs => ⟨rfl, hs⟩)).mono fun e W' ⟨he, hg⟩ => ?_
  subst he
  exact ⟨_, rfl, law_post (pa := _) (pv := []) hW' (fun _ _ _ => (trodAll_cons_mk (shut_bool (t := 4) (by kernel_rfl) _) trodAll_mk0)) (fun sp hsp => all_stays (by kernel_rfl) hg (by decide +kernel) hA (fun x hx => hW'.lt x hx) sp hsp) (fun _ _ => rfl) (by simp)
    hg (ok_one (t := 4) (by kernel_rfl) rfl (okWide_bool_mk (by kernel_rfl) _))⟩
theorem packReturns_over : Rows.packReturnsRow.holds Try.pinned (OpenSpec.ofChange Rows.packReturnsSpec) :=
  OpenClaim.holds_of_wide 8 Try.f8 rfl rfl rfl rfl rfl rfl rfl ⟨rfl, rfl, rfl, rfl, rfl⟩ rfl rfl rfl rfl rfl (by kernel_rfl) Try.func8 (by kernel_rfl)
    (of_decide_eq_true (by kernel_rfl)) (by unfold Func.isWrapper; first | (rw [if_pos (by decide +kernel)]; kernel_rfl) | (rw [if_neg (by decide +kernel)]; exact ⟨rfl, rfl⟩))
    (fun os started H enc _ => packReturns_lifted os started H enc)
theorem packReturns_holds : Rows.PackReturnsSaid := packReturns_over
#print axioms packReturns_holds

set_option maxRecDepth 100000 in
theorem packCuts_lifted (os : Os) (started : os.Started) (H : Type) (enc : TypeId × Value → H) :
    ReturnsInHanded {} Try.checked os 9 .any (Rows.packCutsSpec.pre6 enc Try.prog Try.f9 Rows.packCutsRow.domain false) (Rows.packCutsSpec.post enc Try.prog Try.f9 false true false false) := by
  refine returnsInHanded_of_change (C := Try.checked) own started (by kernel_rfl) Try.func9
    (ChangeSpec.witness6 (enc := enc) (C := Try.checked) false ⟨#[], #[.slice none 0 0, .int .i64 0], []⟩ 8 (by kernel_rfl) (by kernel_rfl) (by kernel_rfl) (by kernel_rfl)) ?_
  intro W base args ds gs before hval0 hW hcnd _
  have hW' := hW
  obtain ⟨p, q, hA0, hV, rfl, hfz, hnd⟩ := hW
  have hA : DataW.TrodAll enc Try.prog W 0 (fun _ => true) true [22, 3] args.toList ds p := hA0
  obtain ⟨v0, v1, d0, d1, p0, p1, rfl, rfl, rfl, t0, t1⟩ := trodAll_two hA
  obtain ⟨rfl, rfl⟩ := trodVars_none hV
  simp only [List.append_nil] at hW'
  obtain ⟨a0, l0, c0, rfl, h0, hc0⟩ := open_rows (E := EncIt) (e := 32) (by kernel_rfl) (by kernel_rfl) hIt t0 (one_slice (e := 32) (by kernel_rfl) (hval0 0 22 v0 rfl rfl))
  obtain ⟨n1, rfl, h1⟩ := open_int (k := .i64) (by kernel_rfl) t1 (hval0 1 3 v1 rfl rfl)
  refine (law_call (f := 9) (PackCuts_den' h0 hc0 h1 fun h' hs => ⟨rfl, hs⟩)).mono fun e W' ⟨he, hg⟩ => ?_
  subst he
  exact ⟨_, rfl, law_post (pa := _) (pv := []) hW' (fun _ _ _ => (trodAll_cons_mk (shut_bool (t := 4) (by kernel_rfl) _) trodAll_mk0)) (fun sp hsp => all_stays (by kernel_rfl) hg (by decide +kernel) hA (fun x hx => hW'.lt x hx) sp hsp) (fun _ _ => rfl) (by simp)
    hg (ok_one (t := 4) (by kernel_rfl) rfl (okWide_bool_mk (by kernel_rfl) _))⟩
theorem packCuts_over : Rows.packCutsRow.holds Try.pinned (OpenSpec.ofChange Rows.packCutsSpec) :=
  OpenClaim.holds_of_wide 9 Try.f9 rfl rfl rfl rfl rfl rfl rfl ⟨rfl, rfl, rfl, rfl, rfl⟩ rfl rfl rfl rfl rfl (by kernel_rfl) Try.func9 (by kernel_rfl)
    (of_decide_eq_true (by kernel_rfl)) (by unfold Func.isWrapper; first | (rw [if_pos (by decide +kernel)]; kernel_rfl) | (rw [if_neg (by decide +kernel)]; exact ⟨rfl, rfl⟩))
    (fun os started H enc _ => packCuts_lifted os started H enc)
theorem packCuts_holds : Rows.PackCutsSaid := packCuts_over
#print axioms packCuts_holds

set_option maxRecDepth 100000 in
theorem packFollows_lifted (os : Os) (started : os.Started) (H : Type) (enc : TypeId × Value → H) :
    ReturnsInHanded {} Try.checked os 10 .any (Rows.packFollowsSpec.pre6 enc Try.prog Try.f10 Rows.packFollowsRow.domain false) (Rows.packFollowsSpec.post enc Try.prog Try.f10 false true false false) := by
  refine returnsInHanded_of_change (C := Try.checked) own started (by kernel_rfl) Try.func10
    (ChangeSpec.witness6 (enc := enc) (C := Try.checked) false ⟨#[], #[.slice none 0 0, .slice none 0 0], []⟩ 8 (by kernel_rfl) (by kernel_rfl) (by kernel_rfl) (by kernel_rfl)) ?_
  intro W base args ds gs before hval0 hW hcnd _
  have hW' := hW
  obtain ⟨p, q, hA0, hV, rfl, hfz, hnd⟩ := hW
  have hA : DataW.TrodAll enc Try.prog W 0 (fun _ => true) true [22, 22] args.toList ds p := hA0
  obtain ⟨v0, v1, d0, d1, p0, p1, rfl, rfl, rfl, t0, t1⟩ := trodAll_two hA
  obtain ⟨rfl, rfl⟩ := trodVars_none hV
  simp only [List.append_nil] at hW'
  obtain ⟨a0, l0, c0, rfl, h0, hc0⟩ := open_rows (E := EncIt) (e := 32) (by kernel_rfl) (by kernel_rfl) hIt t0 (one_slice (e := 32) (by kernel_rfl) (hval0 0 22 v0 rfl rfl))
  obtain ⟨a1, l1, c1, rfl, h1, hc1⟩ := open_rows (E := EncIt) (e := 32) (by kernel_rfl) (by kernel_rfl) hIt t1 (one_slice (e := 32) (by kernel_rfl) (hval0 1 22 v1 rfl rfl))
  refine (law_call (f := 10) (PackFollows_den' h0 hc0 h1 hc1 fun h' hs => ⟨rfl, hs⟩)).mono fun e W' ⟨he, hg⟩ => ?_
  subst he
  exact ⟨_, rfl, law_post (pa := _) (pv := []) hW' (fun _ _ _ => (trodAll_cons_mk (shut_bool (t := 4) (by kernel_rfl) _) trodAll_mk0)) (fun sp hsp => all_stays (by kernel_rfl) hg (by decide +kernel) hA (fun x hx => hW'.lt x hx) sp hsp) (fun _ _ => rfl) (by simp)
    hg (ok_one (t := 4) (by kernel_rfl) rfl (okWide_bool_mk (by kernel_rfl) _))⟩
theorem packFollows_over : Rows.packFollowsRow.holds Try.pinned (OpenSpec.ofChange Rows.packFollowsSpec) :=
  OpenClaim.holds_of_wide 10 Try.f10 rfl rfl rfl rfl rfl rfl rfl ⟨rfl, rfl, rfl, rfl, rfl⟩ rfl rfl rfl rfl rfl (by kernel_rfl) Try.func10 (by kernel_rfl)
    (of_decide_eq_true (by kernel_rfl)) (by unfold Func.isWrapper; first | (rw [if_pos (by decide +kernel)]; kernel_rfl) | (rw [if_neg (by decide +kernel)]; exact ⟨rfl, rfl⟩))
    (fun os started H enc _ => packFollows_lifted os started H enc)
theorem packFollows_holds : Rows.PackFollowsSaid := packFollows_over
#print axioms packFollows_holds

end Go.Proofs.Ytbhkdimcdimcbaa
