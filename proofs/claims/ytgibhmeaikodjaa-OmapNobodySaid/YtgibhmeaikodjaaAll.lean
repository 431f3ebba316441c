/-
  The given statements of one layer. No condition.
-/
import Derived.Test.YtgibhmeaikodjaaRef
import Derived.Test.YtgibhmeaikodjaaLibD
import Derived.Test.YtgibhmeaikodjaaRows
import Derived.WalkKit
import Derived.ProofKit
import Derived.OpenShut
namespace Go.Proofs.Ytgibhmeaikodjaa
open Go.ChangeShapes Go.WideShapes Go.ChangeAt Go.RowKit TL

theorem own : ownKnob Try.prog.godebug = none := by kernel_rfl
section
variable {H : Type} {enc : TypeId × Value → H} {w : World}
set_option maxRecDepth 100000 in
theorem hOp (n : Nat) (cs : List Value) (y : DataW H × List MemPlace) (h : DataW.trod enc Try.prog w 0 (fun _ => true) true n 31 cs = some y) : ∃ x, cs = EncOp.enc x ∧ True := by
  have hs0 := dT_ok 5 (ks := [.int .u8, .str, .str]) (by kernel_rfl) h
  obtain ⟨x0, _, rfl, _, hs1⟩ := sT_int hs0
  obtain ⟨x1, _, rfl, _, hs2⟩ := sT_str hs1
  obtain ⟨x2, _, rfl, _, hs3⟩ := sT_str hs2
  cases sT_nil hs3
  obtain ⟨y1, rfl⟩ := ex_mk x1
  obtain ⟨y2, rfl⟩ := ex_mk x2
  exact ⟨⟨x0, y1, y2⟩, rfl, trivial⟩
set_option maxRecDepth 100000 in
theorem oOps {v : Value} (h : Trd enc Try.prog w 29 v) (h1 : one1 v = true) : ∃ (a : Option Addr) (l : List OpR) (c : Nat), v = .slice a l.length c ∧ SR EncOp (whole w) a l := by
  obtain ⟨a, l, c, h1, h2, _, _, _⟩ := open_rowsQ (E := EncOp) (Q := fun _ => True) (e := 31) (by kernel_rfl) (by kernel_rfl) hOp h h1
  exact ⟨a, l, c, h1, h2⟩
set_option maxRecDepth 100000 in
theorem oOps' {v : Value} {d : DataW H} {ps : List MemPlace} {r : Reach} {base : Nat} (h : DataW.Trod enc Try.prog w 0 (fun _ => true) true 29 v d ps) (hv : Value.okWide Try.prog w r base 29 v) :
    ∃ (a : Option Addr) (l : List OpR) (c : Nat), v = .slice a l.length c ∧ SR EncOp (whole w) a l := oOps ⟨d, ps, h⟩ (one_slice (e := 31) (by kernel_rfl) hv)
set_option maxRecDepth 100000 in
theorem oStr' {v : Value} {d : DataW H} {ps : List MemPlace} {r : Reach} {base : Nat} (h : DataW.Trod enc Try.prog w 0 (fun _ => true) true 9 v d ps) (hv : Value.okWide Try.prog w r base 9 v) :
    ∃ p : List UInt8, v = .string (mk p) ∧ p.length ≤ maxLen := by
  obtain ⟨s, rfl, hs⟩ := open_str (by kernel_rfl) h hv
  obtain ⟨p, rfl⟩ := ex_mk s
  exact ⟨p, rfl, by rw [size_mk] at hs; exact hs⟩
end
section
variable {W : World} {K : Value → PH → Prop}
theorem OmapNobody_den' {q0A : Option Addr} {q0 : List OpR} {q0C : Nat} {q1 : List UInt8} (hq0 : SR EncOp (whole W) q0A q0) (_ : q1.length ≤ maxLen) (hk : ∀ h', (whole W).Sub h' → K (.bool true) h') :
    CallH Try.prog id_law13_OmapNobody [.slice q0A q0.length q0C, .string (mk q1)] K (whole W) := OmapNobody_den hq0 hk
end
set_option maxRecDepth 100000 in
theorem omapNobody_lifted (os : Os) (started : os.Started) (H : Type) (enc : TypeId × Value → H) :
    ReturnsInHanded {} Try.checked os 9 .any (Rows.omapNobodySpec.pre6 enc Try.prog Try.f9 Rows.omapNobodyRow.domain false) (Rows.omapNobodySpec.post enc Try.prog Try.f9 false true false false) := by
  refine returnsInHanded_of_change (C := Try.checked) own started (by kernel_rfl) Try.func9
    (ChangeSpec.witness6 (enc := enc) (C := Try.checked) false ⟨#[], #[.slice none 0 0, .string ⟨#[]⟩], []⟩ 8 (by kernel_rfl) (by kernel_rfl) (by kernel_rfl) (by kernel_rfl)) ?_
  intro W base args ds gs before hval0 hW hcnd _
  have hW' := hW
  obtain ⟨p, q, hA0, hV, rfl, hfz, hnd⟩ := hW
  have hA : DataW.TrodAll enc Try.prog W 0 (fun _ => true) true [29, 9] args.toList ds p := hA0
  obtain ⟨v0, v1, d0, d1, p0, p1, rfl, rfl, rfl, t0, t1⟩ := trodAll_two hA
  obtain ⟨rfl, rfl⟩ := trodVars_none hV
  simp only [List.append_nil] at hW'
  obtain ⟨q0A, q0, q0C, rfl, hq0⟩ := oOps' t0 (hval0 0 29 v0 rfl rfl)
  obtain ⟨q1, rfl, hq1⟩ := oStr' t1 (hval0 1 9 v1 rfl rfl)
  refine (law_call (f := 9) (OmapNobody_den' hq0 hq1 fun h' hs => ⟨rfl, hs⟩)).mono fun e W' ⟨he, hg⟩ => ?_
  subst he
  exact ⟨_, rfl, law_post (pa := _) (pv := []) hW' (fun _ _ _ => (trodAll_cons_mk (shut_bool (t := 4) (by kernel_rfl) _) trodAll_mk0)) (fun sp hsp => all_stays (by kernel_rfl) hg (by decide +kernel) hA (fun x hx => hW'.lt x hx) sp hsp) (fun _ _ => rfl) (by simp)
    hg (ok_one (t := 4) (by kernel_rfl) rfl (okWide_bool_mk (by kernel_rfl) _))⟩
theorem omapNobody_over : Rows.omapNobodyRow.holds Try.pinned (OpenSpec.ofChange Rows.omapNobodySpec) :=
  OpenClaim.holds_of_wide 9 Try.f9 rfl rfl rfl rfl rfl rfl rfl ⟨rfl, rfl, rfl, rfl, rfl⟩ rfl rfl rfl rfl rfl (by kernel_rfl) Try.func9 (by kernel_rfl)
    (of_decide_eq_true (by kernel_rfl)) (by unfold Func.isWrapper; first | (rw [if_pos (by decide +kernel)]; kernel_rfl) | (rw [if_neg (by decide +kernel)]; exact ⟨rfl, rfl⟩))
    (fun os started H enc _ => omapNobody_lifted os started H enc)
theorem omapNobody_holds : Rows.OmapNobodySaid := omapNobody_over
#print axioms omapNobody_holds
end Go.Proofs.Ytgibhmeaikodjaa
