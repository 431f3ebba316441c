/-
  The given statements of one layer. No condition.
-/
import Derived.Test.YtmcgndbfoebcnaaGreatPartF
import Derived.Test.YtmcgndbfoebcnaaGreatPartD
import Derived.Test.YtmcgndbfoebcnaaGreatRows
import Derived.WalkKit
import Derived.ProofKit
import Derived.OpenShut
namespace Go.Proofs.YtmcgndbfoebcnaaGreat
open Go.ChangeShapes Go.WideShapes Go.ChangeAt Go.RowKit TL

theorem own : ownKnob Tryz.prog.godebug = none := by kernel_rfl
section
variable {H : Type} {enc : TypeId × Value → H} {w : World}
set_option maxRecDepth 100000 in
theorem hPr (n : Nat) (cs : List Value) (y : DataW H × List MemPlace) (h : DataW.trod enc Tryz.prog w 0 (fun _ => true) true n 101 cs = some y) : ∃ x, cs = EncPr.enc x ∧ True := by
  have hs0 := dT_ok 5 (ks := [.str, .str]) (by kernel_rfl) h
  obtain ⟨x0, _, rfl, _, hs1⟩ := sT_str hs0
  obtain ⟨x1, _, rfl, _, hs2⟩ := sT_str hs1
  cases sT_nil hs2
  obtain ⟨y0, rfl⟩ := ex_mk x0
  obtain ⟨y1, rfl⟩ := ex_mk x1
  exact ⟨⟨y0, y1⟩, rfl, trivial⟩
set_option maxRecDepth 100000 in
theorem oPrs {v : Value} (h : Trd enc Tryz.prog w 27 v) (h1 : one1 v = true) : ∃ (a : Option Addr) (l : List PrR) (c : Nat), v = .slice a l.length c ∧ SR EncPr (whole w) a l := by
  obtain ⟨a, l, c, h1, h2, _, _, _⟩ := open_rowsQ (E := EncPr) (Q := fun _ => True) (e := 101) (by kernel_rfl) (by kernel_rfl) hPr h h1
  exact ⟨a, l, c, h1, h2⟩
set_option maxRecDepth 100000 in
theorem oPrs' {v : Value} {d : DataW H} {ps : List MemPlace} {r : Reach} {base : Nat} (h : DataW.Trod enc Tryz.prog w 0 (fun _ => true) true 27 v d ps) (hv : Value.okWide Tryz.prog w r base 27 v) :
    ∃ (a : Option Addr) (l : List PrR) (c : Nat), v = .slice a l.length c ∧ SR EncPr (whole w) a l := oPrs ⟨d, ps, h⟩ (one_slice (e := 101) (by kernel_rfl) hv)
end
section
variable {W : World} {K : Value → PH → Prop}
theorem StageNobody_den' {q0 : Int} {q1 : Int} {q2 : Int} {q3A : Option Addr} {q3 : List PrR} {q3C : Nat} (_ : (Lit.int .u8 q0).wf = true) (_ : (Lit.int .i64 q1).wf = true) (_ : (Lit.int .i64 q2).wf = true) (hq3 : SR EncPr (whole W) q3A q3) (hk : ∀ h', (whole W).Sub h' → K (.bool true) h') :
    CallH Tryz.prog id_law22_StageNobody [.int .u8 q0, .int .i64 q1, .int .i64 q2, .slice q3A q3.length q3C] K (whole W) := StageNobody_den    hq3 hk
end
set_option maxRecDepth 100000 in
theorem stageNobody_lifted (os : Os) (started : os.Started) (H : Type) (enc : TypeId × Value → H) :
    ReturnsInHanded {} Tryz.checked os 13 .any (Rows.stageNobodySpec.pre6 enc Tryz.prog Tryz.f13 Rows.stageNobodyRow.domain false) (Rows.stageNobodySpec.post enc Tryz.prog Tryz.f13 false true false false) := by
  refine returnsInHanded_of_change (C := Tryz.checked) own started (by kernel_rfl) Tryz.func13
    (ChangeSpec.witness6 (enc := enc) (C := Tryz.checked) false ⟨#[], #[.int .u8 0, .int .i64 0, .int .i64 0, .slice none 0 0], []⟩ 8 (by kernel_rfl) (by kernel_rfl) (by kernel_rfl) (by kernel_rfl)) ?_
  intro W base args ds gs before hval0 hW hcnd _
  have hW' := hW
  obtain ⟨p, q, hA0, hV, rfl, hfz, hnd⟩ := hW
  have hA : DataW.TrodAll enc Tryz.prog W 0 (fun _ => true) true [5, 3, 3, 27] args.toList ds p := hA0
  obtain ⟨v0, v1, v2, v3, d0, d1, d2, d3, p0, p1, p2, p3, rfl, rfl, rfl, t0, t1, t2, t3⟩ := trodAll_four hA
  obtain ⟨rfl, rfl⟩ := trodVars_none hV
  simp only [List.append_nil] at hW'
  obtain ⟨n0, rfl, h0⟩ := open_int (k := .u8) (by kernel_rfl) t0 (hval0 0 5 v0 rfl rfl)
  obtain ⟨n1, rfl, h1⟩ := open_int (k := .i64) (by kernel_rfl) t1 (hval0 1 3 v1 rfl rfl)
  obtain ⟨n2, rfl, h2⟩ := open_int (k := .i64) (by kernel_rfl) t2 (hval0 2 3 v2 rfl rfl)
  obtain ⟨q3A, q3, q3C, rfl, hq3⟩ := oPrs' t3 (hval0 3 27 v3 rfl rfl)
  refine (law_call (f := 13) (StageNobody_den' h0 h1 h2 hq3 fun h' hs => ⟨rfl, hs⟩)).mono fun e W' ⟨he, hg⟩ => ?_
  subst he
  exact ⟨_, rfl, law_post (pa := _) (pv := []) hW' (fun _ _ _ => (trodAll_cons_mk (shut_bool (t := 4) (by kernel_rfl) _) trodAll_mk0)) (fun sp hsp => all_stays (by kernel_rfl) hg (by decide +kernel) hA (fun x hx => hW'.lt x hx) sp hsp) (fun _ _ => rfl) (by simp)
    hg (ok_one (t := 4) (by kernel_rfl) rfl (okWide_bool_mk (by kernel_rfl) _))⟩
set_option maxHeartbeats 100000000 in
set_option maxRecDepth 100000 in
theorem stageNobody_closed : joinedFacts Tryz.prog 13 Tryz.f13 Rows.stageNobodySpec Rows.stageNobodyRow = true := by
  unfold joinedFacts
  simp only [Bool.and_eq_true]
  repeat' refine And.intro ?_ ?_
  all_goals (as_aux_lemma => kernel_rfl)
theorem stageNobody_over : Rows.stageNobodyRow.holds Tryz.pinned (OpenSpec.ofChange Rows.stageNobodySpec) :=
  OpenClaim.holds_of_wide 13 Tryz.f13 rfl rfl rfl rfl rfl rfl rfl ⟨rfl, rfl, rfl, rfl, rfl⟩ rfl rfl rfl rfl rfl (by kernel_rfl) Tryz.func13 stageNobody_closed
    (of_decide_eq_true (by kernel_rfl)) (by unfold Func.isWrapper; first | (rw [if_pos (by decide +kernel)]; kernel_rfl) | (rw [if_neg (by decide +kernel)]; exact ⟨rfl, rfl⟩))
    (fun os started H enc _ => stageNobody_lifted os started H enc)
theorem stageNobody_holds : Rows.StageNobodySaid := stageNobody_over
#print axioms stageNobody_holds
end Go.Proofs.YtmcgndbfoebcnaaGreat
