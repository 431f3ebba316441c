/-
  The given statements NetKnown, NetOrder, NetRoom, NetParted. No condition.
-/
import Derived.Test.YtlgcgalfaljpeaaNet
import Derived.Test.YtlgcgalfaljpeaaLibD
import Derived.Test.YtlgcgalfaljpeaaRows
import Derived.WalkKit
import Derived.ProofKit
import Derived.OpenShut
namespace Go.Proofs.Ytlgcgalfaljpeaa
open Go.ChangeShapes Go.WideShapes Go.ChangeAt Go.RowKit TL

theorem own : ownKnob Try.prog.godebug = none := by kernel_rfl
theorem hAct {H : Type} {enc : TypeId × Value → H} {w : World} (n : Nat) (cs : List Value) (y : DataW H × List MemPlace) (h : DataW.trod enc Try.prog w 0 (fun _ => true) true n 44 cs = some y) : ∃ x, cs = EncAct.enc x := by
  have hs := dTy_ok 5 (ks := [.int .i64, .int .i64, .int .i64, .str, .int .i64, .int .u8]) (by kernel_rfl) h
  obtain ⟨a, _, rfl, _, hs⟩ := sh_int hs
  obtain ⟨b, _, rfl, _, hs⟩ := sh_int hs
  obtain ⟨c, _, rfl, _, hs⟩ := sh_int hs
  obtain ⟨d, _, rfl, _, hs⟩ := sh_str hs
  obtain ⟨e, _, rfl, _, hs⟩ := sh_int hs
  obtain ⟨f, _, rfl, _, hs⟩ := sh_int hs
  cases sh_nil hs
  exact ⟨⟨a, ⟨b, c, d⟩, e, f⟩, rfl⟩
theorem NetRoom_den' {W : World} {a : Option Addr} {l : List TL.Act} {c : Nat} {n : Int} {K : Value → PH → Prop} (hl : SR EncAct (whole W) a l) (hn : (Lit.int .u8 n).wf = true) (hk : ∀ h', (whole W).Sub h' → K (.bool true) h') :
    CallH Try.prog id_law08_NetRoom [.slice a l.length c, .int .u8 n] K (whole W) := by
  refine NetRoom_den ?_ hl hk
  simp only [Lit.wf, Bool.and_eq_true, decide_eq_true_eq] at hn
  simpa [IntKind.min, IntKind.signed] using hn.1
set_option maxRecDepth 100000 in
theorem netKnown_lifted (os : Os) (started : os.Started) (H : Type) (enc : TypeId × Value → H) :
    ReturnsInHanded {} Try.checked os 3 .any (Rows.netKnownSpec.pre6 enc Try.prog Try.f3 Rows.netKnownRow.domain false) (Rows.netKnownSpec.post enc Try.prog Try.f3 false true false false) := by
  refine returnsInHanded_of_change (C := Try.checked) own started (by kernel_rfl) Try.func3
    (ChangeSpec.witness6 (enc := enc) (C := Try.checked) false ⟨#[], #[], []⟩ 8 (by kernel_rfl) (by kernel_rfl) (by kernel_rfl) (by kernel_rfl)) ?_
  intro W base args ds gs before hval0 hW hcnd _
  have hW' := hW
  obtain ⟨p, q, hA0, hV, rfl, hfz, hnd⟩ := hW
  have hA : DataW.TrodAll enc Try.prog W 0 (fun _ => true) true [] args.toList ds p := hA0
  obtain ⟨rfl, rfl, rfl⟩ := trodAll_none hA
  obtain ⟨rfl, rfl⟩ := trodVars_none hV
  simp only [List.append_nil] at hW'
  refine (law_call (f := 3) (NetKnown_den  fun h' hs => ⟨rfl, hs⟩)).mono fun e W' ⟨he, hg⟩ => ?_
  subst he
  exact ⟨_, rfl, law_post (pa := _) (pv := []) hW' (fun _ _ _ => (trodAll_cons_mk (shut_bool (t := 4) (by kernel_rfl) _) trodAll_mk0)) (fun sp hsp => all_stays (by kernel_rfl) hg (by decide +kernel) hA (fun x hx => hW'.lt x hx) sp hsp) (fun _ _ => rfl) (by simp)
    hg (ok_one (t := 4) (by kernel_rfl) rfl (okWide_bool_mk (by kernel_rfl) _))⟩
theorem netKnown_over : Rows.netKnownRow.holds Try.pinned (OpenSpec.ofChange Rows.netKnownSpec) :=
  OpenClaim.holds_of_wide 3 Try.f3 rfl rfl rfl rfl rfl rfl rfl ⟨rfl, rfl, rfl, rfl, rfl⟩ rfl rfl rfl rfl rfl (by kernel_rfl) Try.func3 (by kernel_rfl)
    (of_decide_eq_true (by kernel_rfl)) (by unfold Func.isWrapper; first | (rw [if_pos (by decide +kernel)]; kernel_rfl) | (rw [if_neg (by decide +kernel)]; exact ⟨rfl, rfl⟩))
    (fun os started H enc _ => netKnown_lifted os started H enc)
theorem netKnown_holds : Rows.NetKnownSaid := netKnown_over
#print axioms netKnown_holds

set_option maxRecDepth 100000 in
theorem netOrder_lifted (os : Os) (started : os.Started) (H : Type) (enc : TypeId × Value → H) :
    ReturnsInHanded {} Try.checked os 4 .any (Rows.netOrderSpec.pre6 enc Try.prog Try.f4 Rows.netOrderRow.domain false) (Rows.netOrderSpec.post enc Try.prog Try.f4 false true false false) := by
  refine returnsInHanded_of_change (C := Try.checked) own started (by kernel_rfl) Try.func4
    (ChangeSpec.witness6 (enc := enc) (C := Try.checked) false ⟨#[], #[.slice none 0 0], []⟩ 8 (by kernel_rfl) (by kernel_rfl) (by kernel_rfl) (by kernel_rfl)) ?_
  intro W base args ds gs before hval0 hW hcnd _
  have hW' := hW
  obtain ⟨p, q, hA0, hV, rfl, hfz, hnd⟩ := hW
  have hA : DataW.TrodAll enc Try.prog W 0 (fun _ => true) true [34] args.toList ds p := hA0
  obtain ⟨v0, d0, rfl, rfl, t0⟩ := trodAll_one hA
  obtain ⟨rfl, rfl⟩ := trodVars_none hV
  simp only [List.append_nil] at hW'
  obtain ⟨a0, l0, c0, rfl, h0⟩ := open_rows (E := EncAct) (e := 44) (by kernel_rfl) (by kernel_rfl) hAct t0 (one_slice (e := 44) (by kernel_rfl) (hval0 0 34 v0 rfl rfl))
  refine (law_call (f := 4) (NetOrder_den h0 fun h' hs => ⟨rfl, hs⟩)).mono fun e W' ⟨he, hg⟩ => ?_
  subst he
  exact ⟨_, rfl, law_post (pa := _) (pv := []) hW' (fun _ _ _ => (trodAll_cons_mk (shut_bool (t := 4) (by kernel_rfl) _) trodAll_mk0)) (fun sp hsp => all_stays (by kernel_rfl) hg (by decide +kernel) hA (fun x hx => hW'.lt x hx) sp hsp) (fun _ _ => rfl) (by simp)
    hg (ok_one (t := 4) (by kernel_rfl) rfl (okWide_bool_mk (by kernel_rfl) _))⟩
theorem netOrder_over : Rows.netOrderRow.holds Try.pinned (OpenSpec.ofChange Rows.netOrderSpec) :=
  OpenClaim.holds_of_wide 4 Try.f4 rfl rfl rfl rfl rfl rfl rfl ⟨rfl, rfl, rfl, rfl, rfl⟩ rfl rfl rfl rfl rfl (by kernel_rfl) Try.func4 (by kernel_rfl)
    (of_decide_eq_true (by kernel_rfl)) (by unfold Func.isWrapper; first | (rw [if_pos (by decide +kernel)]; kernel_rfl) | (rw [if_neg (by decide +kernel)]; exact ⟨rfl, rfl⟩))
    (fun os started H enc _ => netOrder_lifted os started H enc)
theorem netOrder_holds : Rows.NetOrderSaid := netOrder_over
#print axioms netOrder_holds

set_option maxRecDepth 100000 in
theorem netRoom_lifted (os : Os) (started : os.Started) (H : Type) (enc : TypeId × Value → H) :
    ReturnsInHanded {} Try.checked os 5 .any (Rows.netRoomSpec.pre6 enc Try.prog Try.f5 Rows.netRoomRow.domain false) (Rows.netRoomSpec.post enc Try.prog Try.f5 false true false false) := by
  refine returnsInHanded_of_change (C := Try.checked) own started (by kernel_rfl) Try.func5
    (ChangeSpec.witness6 (enc := enc) (C := Try.checked) false ⟨#[], #[.slice none 0 0, .int .u8 0], []⟩ 8 (by kernel_rfl) (by kernel_rfl) (by kernel_rfl) (by kernel_rfl)) ?_
  intro W base args ds gs before hval0 hW hcnd _
  have hW' := hW
  obtain ⟨p, q, hA0, hV, rfl, hfz, hnd⟩ := hW
  have hA : DataW.TrodAll enc Try.prog W 0 (fun _ => true) true [34, 5] args.toList ds p := hA0
  obtain ⟨v0, v1, d0, d1, p0, p1, rfl, rfl, rfl, t0, t1⟩ := trodAll_two hA
  obtain ⟨rfl, rfl⟩ := trodVars_none hV
  simp only [List.append_nil] at hW'
  obtain ⟨a0, l0, c0, rfl, h0⟩ := open_rows (E := EncAct) (e := 44) (by kernel_rfl) (by kernel_rfl) hAct t0 (one_slice (e := 44) (by kernel_rfl) (hval0 0 34 v0 rfl rfl))
  obtain ⟨n1, rfl, h1⟩ := open_int (k := .u8) (by kernel_rfl) t1 (hval0 1 5 v1 rfl rfl)
  refine (law_call (f := 5) (NetRoom_den' h0 h1 fun h' hs => ⟨rfl, hs⟩)).mono fun e W' ⟨he, hg⟩ => ?_
  subst he
  exact ⟨_, rfl, law_post (pa := _) (pv := []) hW' (fun _ _ _ => (trodAll_cons_mk (shut_bool (t := 4) (by kernel_rfl) _) trodAll_mk0)) (fun sp hsp => all_stays (by kernel_rfl) hg (by decide +kernel) hA (fun x hx => hW'.lt x hx) sp hsp) (fun _ _ => rfl) (by simp)
    hg (ok_one (t := 4) (by kernel_rfl) rfl (okWide_bool_mk (by kernel_rfl) _))⟩
theorem netRoom_over : Rows.netRoomRow.holds Try.pinned (OpenSpec.ofChange Rows.netRoomSpec) :=
  OpenClaim.holds_of_wide 5 Try.f5 rfl rfl rfl rfl rfl rfl rfl ⟨rfl, rfl, rfl, rfl, rfl⟩ rfl rfl rfl rfl rfl (by kernel_rfl) Try.func5 (by kernel_rfl)
    (of_decide_eq_true (by kernel_rfl)) (by unfold Func.isWrapper; first | (rw [if_pos (by decide +kernel)]; kernel_rfl) | (rw [if_neg (by decide +kernel)]; exact ⟨rfl, rfl⟩))
    (fun os started H enc _ => netRoom_lifted os started H enc)
theorem netRoom_holds : Rows.NetRoomSaid := netRoom_over
#print axioms netRoom_holds

set_option maxRecDepth 100000 in
theorem netParted_lifted (os : Os) (started : os.Started) (H : Type) (enc : TypeId × Value → H) :
    ReturnsInHanded {} Try.checked os 8 .any (Rows.netPartedSpec.pre6 enc Try.prog Try.f8 Rows.netPartedRow.domain false) (Rows.netPartedSpec.post enc Try.prog Try.f8 false true false false) := by
  refine returnsInHanded_of_change (C := Try.checked) own started (by kernel_rfl) Try.func8
    (ChangeSpec.witness6 (enc := enc) (C := Try.checked) false ⟨#[], #[.slice none 0 0], []⟩ 8 (by kernel_rfl) (by kernel_rfl) (by kernel_rfl) (by kernel_rfl)) ?_
  intro W base args ds gs before hval0 hW hcnd _
  have hW' := hW
  obtain ⟨p, q, hA0, hV, rfl, hfz, hnd⟩ := hW
  have hA : DataW.TrodAll enc Try.prog W 0 (fun _ => true) true [34] args.toList ds p := hA0
  obtain ⟨v0, d0, rfl, rfl, t0⟩ := trodAll_one hA
  obtain ⟨rfl, rfl⟩ := trodVars_none hV
  simp only [List.append_nil] at hW'
  obtain ⟨a0, l0, c0, rfl, h0⟩ := open_rows (E := EncAct) (e := 44) (by kernel_rfl) (by kernel_rfl) hAct t0 (one_slice (e := 44) (by kernel_rfl) (hval0 0 34 v0 rfl rfl))
  refine (law_call (f := 8) (NetParted_den h0 fun h' hs => ⟨rfl, hs⟩)).mono fun e W' ⟨he, hg⟩ => ?_
  subst he
  exact ⟨_, rfl, law_post (pa := _) (pv := []) hW' (fun _ _ _ => (trodAll_cons_mk (shut_bool (t := 4) (by kernel_rfl) _) trodAll_mk0)) (fun sp hsp => all_stays (by kernel_rfl) hg (by decide +kernel) hA (fun x hx => hW'.lt x hx) sp hsp) (fun _ _ => rfl) (by simp)
    hg (ok_one (t := 4) (by kernel_rfl) rfl (okWide_bool_mk (by kernel_rfl) _))⟩
theorem netParted_over : Rows.netPartedRow.holds Try.pinned (OpenSpec.ofChange Rows.netPartedSpec) :=
  OpenClaim.holds_of_wide 8 Try.f8 rfl rfl rfl rfl rfl rfl rfl ⟨rfl, rfl, rfl, rfl, rfl⟩ rfl rfl rfl rfl rfl (by kernel_rfl) Try.func8 (by kernel_rfl)
    (of_decide_eq_true (by kernel_rfl)) (by unfold Func.isWrapper; first | (rw [if_pos (by decide +kernel)]; kernel_rfl) | (rw [if_neg (by decide +kernel)]; exact ⟨rfl, rfl⟩))
    (fun os started H enc _ => netParted_lifted os started H enc)
theorem netParted_holds : Rows.NetPartedSaid := netParted_over
#print axioms netParted_holds

end Go.Proofs.Ytlgcgalfaljpeaa
