/-
  The given statements of one layer. No condition.
-/
import Derived.Test.YtmcgndbfoebcnaaGreatPartG
import Derived.Test.YtmcgndbfoebcnaaGreatPartC
import Derived.Test.YtmcgndbfoebcnaaGreatRows
import Derived.WalkKit
import Derived.ProofKit
import Derived.OpenShut
namespace Go.Proofs.YtmcgndbfoebcnaaGreat
open Go.ChangeShapes Go.WideShapes Go.ChangeAt Go.RowKit TL

theorem own : ownKnob Tryz.prog.godebug = none := by kernel_rfl
section
variable {H : Type} {enc : TypeId × Value → H} {w : World}
set_option maxRecDepth 100000 in
theorem hPr (n : Nat) (cs : List Value) (y : DataW H × List MemPlace) (h : DataW.trod enc Tryz.prog w 0 (fun _ => true) true n 101 cs = some y) : ∃ x, cs = EncPr.enc x ∧ True := by
  have hs0 := dT_ok 5 (ks := [.str, .str]) (by kernel_rfl) h
  obtain ⟨x0, _, rfl, _, hs1⟩ := sT_str hs0
  obtain ⟨x1, _, rfl, _, hs2⟩ := sT_str hs1
  cases sT_nil hs2
  obtain ⟨y0, rfl⟩ := ex_mk x0
  obtain ⟨y1, rfl⟩ := ex_mk x1
  exact ⟨⟨y0, y1⟩, rfl, trivial⟩
set_option maxRecDepth 100000 in
theorem oPrs {v : Value} (h : Trd enc Tryz.prog w 27 v) (h1 : one1 v = true) : ∃ (a : Option Addr) (l : List PrR) (c : Nat), v = .slice a l.length c ∧ SR EncPr (whole w) a l := by
  obtain ⟨a, l, c, h1, h2, _, _, _⟩ := open_rowsQ (E := EncPr) (Q := fun _ => True) (e := 101) (by kernel_rfl) (by kernel_rfl) hPr h h1
  exact ⟨a, l, c, h1, h2⟩
set_option maxRecDepth 100000 in
theorem oPrs' {v : Value} {d : DataW H} {ps : List MemPlace} {r : Reach} {base : Nat} (h : DataW.Trod enc Tryz.prog w 0 (fun _ => true) true 27 v d ps) (hv : Value.okWide Tryz.prog w r base 27 v) :
    ∃ (a : Option Addr) (l : List PrR) (c : Nat), v = .slice a l.length c ∧ SR EncPr (whole w) a l := oPrs ⟨d, ps, h⟩ (one_slice (e := 101) (by kernel_rfl) hv)
set_option maxRecDepth 100000 in
theorem hPs (n : Nat) (cs : List Value) (y : DataW H × List MemPlace) (h : DataW.trod enc Tryz.prog w 0 (fun _ => true) true n 27 cs = some y) : ∃ x, cs = EncPs.enc x ∧ SR EncPr (whole w) x.a x.ps := by
  have hs0 := dT_ok 5 (ks := [.sl 27]) (by kernel_rfl) h
  obtain ⟨v, _, rfl, o1, t1, hs1⟩ := sT_sl hs0
  cases sT_nil hs1
  obtain ⟨a, ps, c, rfl, hps⟩ := oPrs t1 o1
  exact ⟨⟨a, c, ps⟩, rfl, hps⟩
set_option maxRecDepth 100000 in
theorem oPss {v : Value} (h : Trd enc Tryz.prog w 122 v) (h1 : one1 v = true) : ∃ (a : Option Addr) (l : List PsR) (c : Nat), v = .slice a l.length c ∧ SR EncPs (whole w) a l ∧ ∀ x ∈ l, SR EncPr (whole w) x.a x.ps := by
  obtain ⟨a, l, c, h1, h2, _, _, h3⟩ := open_rowsQ (E := EncPs) (e := 27) (by kernel_rfl) (by kernel_rfl) hPs h h1
  exact ⟨a, l, c, h1, h2, h3⟩
set_option maxRecDepth 100000 in
theorem oPss' {v : Value} {d : DataW H} {ps : List MemPlace} {r : Reach} {base : Nat} (h : DataW.Trod enc Tryz.prog w 0 (fun _ => true) true 122 v d ps) (hv : Value.okWide Tryz.prog w r base 122 v) :
    ∃ (a : Option Addr) (l : List PsR) (c : Nat), v = .slice a l.length c ∧ SR EncPs (whole w) a l ∧ ∀ x ∈ l, SR EncPr (whole w) x.a x.ps := oPss ⟨d, ps, h⟩ (one_slice (e := 27) (by kernel_rfl) hv)
set_option maxRecDepth 100000 in
theorem hAc22 (n : Nat) (cs : List Value) (y : DataW H × List MemPlace) (h : DataW.trod enc Tryz.prog w 0 (fun _ => true) true n 133 cs = some y) : ∃ x, cs = EncAc22.enc x ∧ True := by
  have hs0 := dT_ok 5 (ks := [.int .u8, .int .i64, .int .i64, .int .i64, .int .i64, .int .u8]) (by kernel_rfl) h
  obtain ⟨x0, _, rfl, _, hs1⟩ := sT_int hs0
  obtain ⟨x1, _, rfl, _, hs2⟩ := sT_int hs1
  obtain ⟨x2, _, rfl, _, hs3⟩ := sT_int hs2
  obtain ⟨x3, _, rfl, _, hs4⟩ := sT_int hs3
  obtain ⟨x4, _, rfl, _, hs5⟩ := sT_int hs4
  obtain ⟨x5, _, rfl, _, hs6⟩ := sT_int hs5
  cases sT_nil hs6
  exact ⟨⟨x0, x1, x2, x3, x4, x5⟩, rfl, trivial⟩
set_option maxRecDepth 100000 in
theorem oActs22 {v : Value} (h : Trd enc Tryz.prog w 123 v) (h1 : one1 v = true) : ∃ (a : Option Addr) (l : List Ac22) (c : Nat), v = .slice a l.length c ∧ SR EncAc22 (whole w) a l := by
  obtain ⟨a, l, c, h1, h2, _, _, _⟩ := open_rowsQ (E := EncAc22) (Q := fun _ => True) (e := 133) (by kernel_rfl) (by kernel_rfl) hAc22 h h1
  exact ⟨a, l, c, h1, h2⟩
set_option maxRecDepth 100000 in
theorem oActs22' {v : Value} {d : DataW H} {ps : List MemPlace} {r : Reach} {base : Nat} (h : DataW.Trod enc Tryz.prog w 0 (fun _ => true) true 123 v d ps) (hv : Value.okWide Tryz.prog w r base 123 v) :
    ∃ (a : Option Addr) (l : List Ac22) (c : Nat), v = .slice a l.length c ∧ SR EncAc22 (whole w) a l := oActs22 ⟨d, ps, h⟩ (one_slice (e := 133) (by kernel_rfl) hv)
end
section
variable {W : World} {K : Value → PH → Prop}
theorem StagePlays_den' {q0A : Option Addr} {q0 : List PsR} {q0C : Nat} {q1A : Option Addr} {q1 : List PrR} {q1C : Nat} {q2 : Int} {q3A : Option Addr} {q3 : List Ac22} {q3C : Nat} (hq0 : SR EncPs (whole W) q0A q0) (kq0 : ∀ r ∈ q0, SR EncPr (whole W) r.a r.ps) (hq1 : SR EncPr (whole W) q1A q1) (_ : (Lit.int .i64 q2).wf = true) (hq3 : SR EncAc22 (whole W) q3A q3) (hk : ∀ h', (whole W).Sub h' → K (.bool true) h') :
    CallH Tryz.prog id_law22_StagePlays [.slice q0A q0.length q0C, .slice q1A q1.length q1C, .int .i64 q2, .slice q3A q3.length q3C] K (whole W) := StagePlays_den hq0 kq0 hq1  hq3 hk
end
set_option maxRecDepth 100000 in
theorem stagePlays_lifted (os : Os) (started : os.Started) (H : Type) (enc : TypeId × Value → H) :
    ReturnsInHanded {} Tryz.checked os 16 .any (Rows.stagePlaysSpec.pre6 enc Tryz.prog Tryz.f16 Rows.stagePlaysRow.domain false) (Rows.stagePlaysSpec.post enc Tryz.prog Tryz.f16 false true false false) := by
  refine returnsInHanded_of_change (C := Tryz.checked) own started (by kernel_rfl) Tryz.func16
    (ChangeSpec.witness6 (enc := enc) (C := Tryz.checked) false ⟨#[], #[.slice none 0 0, .slice none 0 0, .int .i64 0, .slice none 0 0], []⟩ 8 (by kernel_rfl) (by kernel_rfl) (by kernel_rfl) (by kernel_rfl)) ?_
  intro W base args ds gs before hval0 hW hcnd _
  have hW' := hW
  obtain ⟨p, q, hA0, hV, rfl, hfz, hnd⟩ := hW
  have hA : DataW.TrodAll enc Tryz.prog W 0 (fun _ => true) true [122, 27, 3, 123] args.toList ds p := hA0
  obtain ⟨v0, v1, v2, v3, d0, d1, d2, d3, p0, p1, p2, p3, rfl, rfl, rfl, t0, t1, t2, t3⟩ := trodAll_four hA
  obtain ⟨rfl, rfl⟩ := trodVars_none hV
  simp only [List.append_nil] at hW'
  obtain ⟨q0A, q0, q0C, rfl, hq0, kq0⟩ := oPss' t0 (hval0 0 122 v0 rfl rfl)
  obtain ⟨q1A, q1, q1C, rfl, hq1⟩ := oPrs' t1 (hval0 1 27 v1 rfl rfl)
  obtain ⟨n2, rfl, h2⟩ := open_int (k := .i64) (by kernel_rfl) t2 (hval0 2 3 v2 rfl rfl)
  obtain ⟨q3A, q3, q3C, rfl, hq3⟩ := oActs22' t3 (hval0 3 123 v3 rfl rfl)
  refine (law_call (f := 16) (StagePlays_den' hq0 kq0 hq1 h2 hq3 fun h' hs => ⟨rfl, hs⟩)).mono fun e W' ⟨he, hg⟩ => ?_
  subst he
  exact ⟨_, rfl, law_post (pa := _) (pv := []) hW' (fun _ _ _ => (trodAll_cons_mk (shut_bool (t := 4) (by kernel_rfl) _) trodAll_mk0)) (fun sp hsp => all_stays (by kernel_rfl) hg (by decide +kernel) hA (fun x hx => hW'.lt x hx) sp hsp) (fun _ _ => rfl) (by simp)
    hg (ok_one (t := 4) (by kernel_rfl) rfl (okWide_bool_mk (by kernel_rfl) _))⟩
set_option maxHeartbeats 100000000 in
set_option maxRecDepth 100000 in
theorem stagePlays_closed : joinedFacts Tryz.prog 16 Tryz.f16 Rows.stagePlaysSpec Rows.stagePlaysRow = true := by
  unfold joinedFacts
  simp only [Bool.and_eq_true]
  repeat' refine And.intro ?_ ?_
  all_goals (as_aux_lemma => kernel_rfl)
theorem stagePlays_over : Rows.stagePlaysRow.holds Tryz.pinned (OpenSpec.ofChange Rows.stagePlaysSpec) :=
  OpenClaim.holds_of_wide 16 Tryz.f16 rfl rfl rfl rfl rfl rfl rfl ⟨rfl, rfl, rfl, rfl, rfl⟩ rfl rfl rfl rfl rfl (by kernel_rfl) Tryz.func16 stagePlays_closed
    (of_decide_eq_true (by kernel_rfl)) (by unfold Func.isWrapper; first | (rw [if_pos (by decide +kernel)]; kernel_rfl) | (rw [if_neg (by decide +kernel)]; exact ⟨rfl, rfl⟩))
    (fun os started H enc _ => stagePlays_lifted os started H enc)
theorem stagePlays_holds : Rows.StagePlaysSaid := stagePlays_over
#print axioms stagePlays_holds
end Go.Proofs.YtmcgndbfoebcnaaGreat
