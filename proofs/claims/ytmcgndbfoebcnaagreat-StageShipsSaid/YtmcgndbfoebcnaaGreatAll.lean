/-
  The given statements of one layer. No condition.
-/
import Derived.Test.YtmcgndbfoebcnaaGreatPartG
import Derived.Test.YtmcgndbfoebcnaaGreatPartC
import Derived.Test.YtmcgndbfoebcnaaGreatRows
import Derived.WalkKit
import Derived.ProofKit
import Derived.OpenShut
namespace Go.Proofs.YtmcgndbfoebcnaaGreat
open Go.ChangeShapes Go.WideShapes Go.ChangeAt Go.RowKit TL

theorem own : ownKnob Tryz.prog.godebug = none := by kernel_rfl
section
variable {H : Type} {enc : TypeId × Value → H} {w : World}
set_option maxRecDepth 100000 in
theorem hOp (n : Nat) (cs : List Value) (y : DataW H × List MemPlace) (h : DataW.trod enc Tryz.prog w 0 (fun _ => true) true n 222 cs = some y) : ∃ x, cs = EncOp.enc x ∧ True := by
  have hs0 := dT_ok 5 (ks := [.int .u8, .str, .str]) (by kernel_rfl) h
  obtain ⟨x0, _, rfl, _, hs1⟩ := sT_int hs0
  obtain ⟨x1, _, rfl, _, hs2⟩ := sT_str hs1
  obtain ⟨x2, _, rfl, _, hs3⟩ := sT_str hs2
  cases sT_nil hs3
  obtain ⟨y1, rfl⟩ := ex_mk x1
  obtain ⟨y2, rfl⟩ := ex_mk x2
  exact ⟨⟨x0, y1, y2⟩, rfl, trivial⟩
set_option maxRecDepth 100000 in
theorem oOps {v : Value} (h : Trd enc Tryz.prog w 63 v) (h1 : one1 v = true) : ∃ (a : Option Addr) (l : List OpR) (c : Nat), v = .slice a l.length c ∧ SR EncOp (whole w) a l := by
  obtain ⟨a, l, c, h1, h2, _, _, _⟩ := open_rowsQ (E := EncOp) (Q := fun _ => True) (e := 222) (by kernel_rfl) (by kernel_rfl) hOp h h1
  exact ⟨a, l, c, h1, h2⟩
set_option maxRecDepth 100000 in
theorem oOps' {v : Value} {d : DataW H} {ps : List MemPlace} {r : Reach} {base : Nat} (h : DataW.Trod enc Tryz.prog w 0 (fun _ => true) true 63 v d ps) (hv : Value.okWide Tryz.prog w r base 63 v) :
    ∃ (a : Option Addr) (l : List OpR) (c : Nat), v = .slice a l.length c ∧ SR EncOp (whole w) a l := oOps ⟨d, ps, h⟩ (one_slice (e := 222) (by kernel_rfl) hv)
set_option maxRecDepth 100000 in
theorem hPr (n : Nat) (cs : List Value) (y : DataW H × List MemPlace) (h : DataW.trod enc Tryz.prog w 0 (fun _ => true) true n 101 cs = some y) : ∃ x, cs = EncPr.enc x ∧ True := by
  have hs0 := dT_ok 5 (ks := [.str, .str]) (by kernel_rfl) h
  obtain ⟨x0, _, rfl, _, hs1⟩ := sT_str hs0
  obtain ⟨x1, _, rfl, _, hs2⟩ := sT_str hs1
  cases sT_nil hs2
  obtain ⟨y0, rfl⟩ := ex_mk x0
  obtain ⟨y1, rfl⟩ := ex_mk x1
  exact ⟨⟨y0, y1⟩, rfl, trivial⟩
set_option maxRecDepth 100000 in
theorem oPrs {v : Value} (h : Trd enc Tryz.prog w 27 v) (h1 : one1 v = true) : ∃ (a : Option Addr) (l : List PrR) (c : Nat), v = .slice a l.length c ∧ SR EncPr (whole w) a l := by
  obtain ⟨a, l, c, h1, h2, _, _, _⟩ := open_rowsQ (E := EncPr) (Q := fun _ => True) (e := 101) (by kernel_rfl) (by kernel_rfl) hPr h h1
  exact ⟨a, l, c, h1, h2⟩
set_option maxRecDepth 100000 in
theorem oPrs' {v : Value} {d : DataW H} {ps : List MemPlace} {r : Reach} {base : Nat} (h : DataW.Trod enc Tryz.prog w 0 (fun _ => true) true 27 v d ps) (hv : Value.okWide Tryz.prog w r base 27 v) :
    ∃ (a : Option Addr) (l : List PrR) (c : Nat), v = .slice a l.length c ∧ SR EncPr (whole w) a l := oPrs ⟨d, ps, h⟩ (one_slice (e := 101) (by kernel_rfl) hv)
set_option maxRecDepth 100000 in
theorem hInt (n : Nat) (cs : List Value) (y : DataW H × List MemPlace) (h : DataW.trod enc Tryz.prog w 0 (fun _ => true) true n 3 cs = some y) : ∃ x, cs = EncI.enc x ∧ True := by
  have hs0 := dT_ok 5 (ks := [.int .i64]) (by kernel_rfl) h
  obtain ⟨x0, _, rfl, _, hs1⟩ := sT_int hs0
  cases sT_nil hs1
  exact ⟨x0, rfl, trivial⟩
set_option maxRecDepth 100000 in
theorem oInts {v : Value} (h : Trd enc Tryz.prog w 52 v) (h1 : one1 v = true) : ∃ (a : Option Addr) (l : List Int) (c : Nat), v = .slice a l.length c ∧ SR EncI (whole w) a l := by
  obtain ⟨a, l, c, h1, h2, _, _, _⟩ := open_rowsQ (E := EncI) (Q := fun _ => True) (e := 3) (by kernel_rfl) (by kernel_rfl) hInt h h1
  exact ⟨a, l, c, h1, h2⟩
set_option maxRecDepth 100000 in
theorem oInts' {v : Value} {d : DataW H} {ps : List MemPlace} {r : Reach} {base : Nat} (h : DataW.Trod enc Tryz.prog w 0 (fun _ => true) true 52 v d ps) (hv : Value.okWide Tryz.prog w r base 52 v) :
    ∃ (a : Option Addr) (l : List Int) (c : Nat), v = .slice a l.length c ∧ SR EncI (whole w) a l := oInts ⟨d, ps, h⟩ (one_slice (e := 3) (by kernel_rfl) hv)
set_option maxRecDepth 100000 in
theorem hOs (n : Nat) (cs : List Value) (y : DataW H × List MemPlace) (h : DataW.trod enc Tryz.prog w 0 (fun _ => true) true n 63 cs = some y) : ∃ x, cs = EncOs.enc x ∧ SR EncOp (whole w) x.a x.ops := by
  have hs0 := dT_ok 5 (ks := [.sl 63]) (by kernel_rfl) h
  obtain ⟨v, _, rfl, o1, t1, hs1⟩ := sT_sl hs0
  cases sT_nil hs1
  obtain ⟨a, ops, c, rfl, hops⟩ := oOps t1 o1
  exact ⟨⟨a, c, ops⟩, rfl, hops⟩
set_option maxRecDepth 100000 in
theorem oRows {v : Value} (h : Trd enc Tryz.prog w 51 v) (h1 : one1 v = true) : ∃ (a : Option Addr) (l : List OsR) (c : Nat), v = .slice a l.length c ∧ SR EncOs (whole w) a l ∧ ∀ x ∈ l, SR EncOp (whole w) x.a x.ops := by
  obtain ⟨a, l, c, h1, h2, _, _, h3⟩ := open_rowsQ (E := EncOs) (e := 63) (by kernel_rfl) (by kernel_rfl) hOs h h1
  exact ⟨a, l, c, h1, h2, h3⟩
set_option maxRecDepth 100000 in
theorem oRows' {v : Value} {d : DataW H} {ps : List MemPlace} {r : Reach} {base : Nat} (h : DataW.Trod enc Tryz.prog w 0 (fun _ => true) true 51 v d ps) (hv : Value.okWide Tryz.prog w r base 51 v) :
    ∃ (a : Option Addr) (l : List OsR) (c : Nat), v = .slice a l.length c ∧ SR EncOs (whole w) a l ∧ ∀ x ∈ l, SR EncOp (whole w) x.a x.ops := oRows ⟨d, ps, h⟩ (one_slice (e := 63) (by kernel_rfl) hv)
set_option maxRecDepth 100000 in
theorem oRow' {v : Value} {d : DataW H} {ps : List MemPlace} {r : Reach} {base : Nat} (h : DataW.Trod enc Tryz.prog w 0 (fun _ => true) true 54 v d ps) (hv : Value.okWide Tryz.prog w r base 54 v) :
    ∃ (r0 r1 : Int) (rA : Option Addr) (rows : List OsR) (rC : Nat) (eA : Option Addr) (eps : List Int) (eC : Nat) (pA : Option Addr) (prs : List PrR) (pC : Nat),
      v = rowV r0 r1 rA rows rC eA eps eC pA prs pC ∧ RowOk (whole w) rA rows eA eps pA prs := by
  obtain ⟨vs, rfl, hs⟩ := open_aggT 6 (ks := [.int .i64, .int .i64, .sl 51, .sl 52, .sl 27]) (by kernel_rfl) (by kernel_rfl) h hv
  obtain ⟨r0, _, rfl, _, hs1⟩ := sT_int hs
  obtain ⟨r1, _, rfl, _, hs2⟩ := sT_int hs1
  obtain ⟨v2, _, rfl, o2, t2, hs3⟩ := sT_sl hs2
  obtain ⟨rA, rows, rC, rfl, h2, h2'⟩ := oRows t2 o2
  obtain ⟨v3, _, rfl, o3, t3, hs4⟩ := sT_sl hs3
  obtain ⟨eA, eps, eC, rfl, h3⟩ := oInts t3 o3
  obtain ⟨v4, _, rfl, o4, t4, hs5⟩ := sT_sl hs4
  obtain ⟨pA, prs, pC, rfl, h4⟩ := oPrs t4 o4
  cases sT_nil hs5
  exact ⟨r0, r1, rA, rows, rC, eA, eps, eC, pA, prs, pC, rfl, h2, h2', h3, h4⟩
end
section
variable {W : World} {K : Value → PH → Prop}
theorem StageShips_den' {q0r0 q0r1 : Int} {q0A : Option Addr} {q0 : List OsR} {q0C : Nat} {q0eA : Option Addr} {q0e : List Int} {q0eC : Nat} {q0pA : Option Addr} {q0p : List PrR} {q0pC : Nat} {q1A : Option Addr} {q1 : List PrR} {q1C : Nat} {q2A : Option Addr} {q2 : List Int} {q2C : Nat} (hq0 : RowOk (whole W) q0A q0 q0eA q0e q0pA q0p) (hq1 : SR EncPr (whole W) q1A q1) (hq2 : SR EncI (whole W) q2A q2) (hk : ∀ h', (whole W).Sub h' → K (.bool true) h') :
    CallH Tryz.prog id_law22_StageShips [rowV q0r0 q0r1 q0A q0 q0C q0eA q0e q0eC q0pA q0p q0pC, .slice q1A q1.length q1C, .slice q2A q2.length q2C] K (whole W) := StageShips_den hq0 hq1 hq2 hk
end
set_option maxRecDepth 100000 in
theorem stageShips_lifted (os : Os) (started : os.Started) (H : Type) (enc : TypeId × Value → H) :
    ReturnsInHanded {} Tryz.checked os 17 .any (Rows.stageShipsSpec.pre6 enc Tryz.prog Tryz.f17 Rows.stageShipsRow.domain false) (Rows.stageShipsSpec.post enc Tryz.prog Tryz.f17 false true false false) := by
  refine returnsInHanded_of_change (C := Tryz.checked) own started (by kernel_rfl) Tryz.func17
    (ChangeSpec.witness6 (enc := enc) (C := Tryz.checked) false ⟨#[], #[.agg #[.int .i64 0, .int .i64 0, .slice none 0 0, .slice none 0 0, .slice none 0 0], .slice none 0 0, .slice none 0 0], []⟩ 8 (by kernel_rfl) (by kernel_rfl) (by kernel_rfl) (by kernel_rfl)) ?_
  intro W base args ds gs before hval0 hW hcnd _
  have hW' := hW
  obtain ⟨p, q, hA0, hV, rfl, hfz, hnd⟩ := hW
  have hA : DataW.TrodAll enc Tryz.prog W 0 (fun _ => true) true [54, 27, 52] args.toList ds p := hA0
  obtain ⟨v0, v1, v2, d0, d1, d2, p0, p1, p2, rfl, rfl, rfl, t0, t1, t2⟩ := trodAll_three hA
  obtain ⟨rfl, rfl⟩ := trodVars_none hV
  simp only [List.append_nil] at hW'
  obtain ⟨q0r0, q0r1, q0A, q0, q0C, q0eA, q0e, q0eC, q0pA, q0p, q0pC, rfl, hq0⟩ := oRow' t0 (hval0 0 54 v0 rfl rfl)
  obtain ⟨q1A, q1, q1C, rfl, hq1⟩ := oPrs' t1 (hval0 1 27 v1 rfl rfl)
  obtain ⟨q2A, q2, q2C, rfl, hq2⟩ := oInts' t2 (hval0 2 52 v2 rfl rfl)
  refine (law_call (f := 17) (StageShips_den' hq0 hq1 hq2 fun h' hs => ⟨rfl, hs⟩)).mono fun e W' ⟨he, hg⟩ => ?_
  subst he
  exact ⟨_, rfl, law_post (pa := _) (pv := []) hW' (fun _ _ _ => (trodAll_cons_mk (shut_bool (t := 4) (by kernel_rfl) _) trodAll_mk0)) (fun sp hsp => all_stays (by kernel_rfl) hg (by decide +kernel) hA (fun x hx => hW'.lt x hx) sp hsp) (fun _ _ => rfl) (by simp)
    hg (ok_one (t := 4) (by kernel_rfl) rfl (okWide_bool_mk (by kernel_rfl) _))⟩
set_option maxHeartbeats 100000000 in
set_option maxRecDepth 100000 in
theorem stageShips_closed : joinedFacts Tryz.prog 17 Tryz.f17 Rows.stageShipsSpec Rows.stageShipsRow = true := by
  unfold joinedFacts
  simp only [Bool.and_eq_true]
  repeat' refine And.intro ?_ ?_
  all_goals (as_aux_lemma => kernel_rfl)
theorem stageShips_over : Rows.stageShipsRow.holds Tryz.pinned (OpenSpec.ofChange Rows.stageShipsSpec) :=
  OpenClaim.holds_of_wide 17 Tryz.f17 rfl rfl rfl rfl rfl rfl rfl ⟨rfl, rfl, rfl, rfl, rfl⟩ rfl rfl rfl rfl rfl (by kernel_rfl) Tryz.func17 stageShips_closed
    (of_decide_eq_true (by kernel_rfl)) (by unfold Func.isWrapper; first | (rw [if_pos (by decide +kernel)]; kernel_rfl) | (rw [if_neg (by decide +kernel)]; exact ⟨rfl, rfl⟩))
    (fun os started H enc _ => stageShips_lifted os started H enc)
theorem stageShips_holds : Rows.StageShipsSaid := stageShips_over
#print axioms stageShips_holds
end Go.Proofs.YtmcgndbfoebcnaaGreat
