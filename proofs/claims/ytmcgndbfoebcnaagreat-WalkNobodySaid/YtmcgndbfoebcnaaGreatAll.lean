/-
  The given statements of one layer. No condition.
-/
import Derived.Test.YtmcgndbfoebcnaaGreatWalkC
import Derived.Test.YtmcgndbfoebcnaaGreatLibD
import Derived.Test.YtmcgndbfoebcnaaGreatRows
import Derived.WalkKit
import Derived.ProofKit
import Derived.OpenShut
namespace Go.Proofs.YtmcgndbfoebcnaaGreat
open Go.ChangeShapes Go.WideShapes Go.ChangeAt Go.RowKit TL

theorem own : ownKnob Tryz.prog.godebug = none := by kernel_rfl
section
variable {H : Type} {enc : TypeId × Value → H} {w : World}
theorem trodAll_five {t0 t1 t2 t3 t4 : TypeId} {args : Array Value} {ds : List (DataW H)} {ps : List MemPlace} (h : DataW.TrodAll enc Tryz.prog w 0 (fun _ => true) true [t0, t1, t2, t3, t4] args.toList ds ps) :
    ∃ v0 v1 v2 v3 v4 d0 d1 d2 d3 d4 p0 p1 p2 p3 p4, args = #[v0, v1, v2, v3, v4] ∧ ds = [d0, d1, d2, d3, d4] ∧ ps = p0 ++ p1 ++ p2 ++ p3 ++ p4 ∧ DataW.Trod enc Tryz.prog w 0 (fun _ => true) true t0 v0 d0 p0 ∧ DataW.Trod enc Tryz.prog w 0 (fun _ => true) true t1 v1 d1 p1 ∧ DataW.Trod enc Tryz.prog w 0 (fun _ => true) true t2 v2 d2 p2 ∧ DataW.Trod enc Tryz.prog w 0 (fun _ => true) true t3 v3 d3 p3 ∧ DataW.Trod enc Tryz.prog w 0 (fun _ => true) true t4 v4 d4 p4 := by
  obtain ⟨v0, vs, d0, ds0, p0, q0, hargs, rfl, rfl, h0, r0⟩ := trodAll_cons h
  obtain ⟨v1, vs1, d1, ds1, p1, q1, rfl, rfl, rfl, h1, r1⟩ := trodAll_cons r0
  obtain ⟨v2, vs2, d2, ds2, p2, q2, rfl, rfl, rfl, h2, r2⟩ := trodAll_cons r1
  obtain ⟨v3, vs3, d3, ds3, p3, q3, rfl, rfl, rfl, h3, r3⟩ := trodAll_cons r2
  obtain ⟨v4, vs4, d4, ds4, p4, q4, rfl, rfl, rfl, h4, r4⟩ := trodAll_cons r3
  obtain ⟨rfl, rfl, rfl⟩ := trodAll_nil r4
  exact ⟨v0, v1, v2, v3, v4, d0, d1, d2, d3, d4, p0, p1, p2, p3, p4, by cases args; simp_all, rfl, by simp, h0, h1, h2, h3, h4⟩
set_option maxRecDepth 100000 in
theorem oHash' {v : Value} {d : DataW H} {ps : List MemPlace} {r : Reach} {base : Nat} (h : DataW.Trod enc Tryz.prog w 0 (fun _ => true) true 46 v d ps) (hv : Value.okWide Tryz.prog w r base 46 v) :
    ∃ x : List UInt8, v = .agg (((bi x).map (Value.int .u8) ++ [])).toArray ∧ x.length = 32 := by
  obtain ⟨vs, rfl, hs⟩ := open_aggT 6 (ks := [.ints .u8 32]) (by kernel_rfl) (by kernel_rfl) h hv
  obtain ⟨l, _, rfl, hl, hw, hs1⟩ := sT_ints hs
  cases sT_nil hs1
  refine ⟨l.map fun n => UInt8.ofNat n.toNat, ?_, by rw [List.length_map, hl]⟩
  have : bi (l.map fun n => UInt8.ofNat n.toNat) = l := by
    unfold bi
    rw [List.map_map]
    conv => rhs; rw [← List.map_id l]
    apply List.map_congr_left
    intro n hn
    have := wf_u8 (hw n hn)
    simp only [Function.comp, id]
    rw [UInt8.toNat_ofNat', Nat.mod_eq_of_lt (by omega)]
    omega
  rw [this]
set_option maxRecDepth 100000 in
theorem hPr (n : Nat) (cs : List Value) (y : DataW H × List MemPlace) (h : DataW.trod enc Tryz.prog w 0 (fun _ => true) true n 101 cs = some y) : ∃ x, cs = EncPr.enc x ∧ True := by
  have hs0 := dT_ok 5 (ks := [.str, .str]) (by kernel_rfl) h
  obtain ⟨x0, _, rfl, _, hs1⟩ := sT_str hs0
  obtain ⟨x1, _, rfl, _, hs2⟩ := sT_str hs1
  cases sT_nil hs2
  obtain ⟨y0, rfl⟩ := ex_mk x0
  obtain ⟨y1, rfl⟩ := ex_mk x1
  exact ⟨⟨y0, y1⟩, rfl, trivial⟩
set_option maxRecDepth 100000 in
theorem oPrs {v : Value} (h : Trd enc Tryz.prog w 27 v) (h1 : one1 v = true) : ∃ (a : Option Addr) (l : List PrR) (c : Nat), v = .slice a l.length c ∧ SR EncPr (whole w) a l := by
  obtain ⟨a, l, c, h1, h2, _, _, _⟩ := open_rowsQ (E := EncPr) (Q := fun _ => True) (e := 101) (by kernel_rfl) (by kernel_rfl) hPr h h1
  exact ⟨a, l, c, h1, h2⟩
set_option maxRecDepth 100000 in
theorem oPrs' {v : Value} {d : DataW H} {ps : List MemPlace} {r : Reach} {base : Nat} (h : DataW.Trod enc Tryz.prog w 0 (fun _ => true) true 27 v d ps) (hv : Value.okWide Tryz.prog w r base 27 v) :
    ∃ (a : Option Addr) (l : List PrR) (c : Nat), v = .slice a l.length c ∧ SR EncPr (whole w) a l := oPrs ⟨d, ps, h⟩ (one_slice (e := 101) (by kernel_rfl) hv)
end
section
variable {W : World} {K : Value → PH → Prop}
theorem WalkNobody_den' {q0 : Int} {q1 : Int} {q2 : List UInt8} {q3 : List UInt8} {q4A : Option Addr} {q4 : List PrR} {q4C : Nat} (_ : (Lit.int .i64 q0).wf = true) (_ : (Lit.int .i64 q1).wf = true) (hq2 : q2.length = 32) (hq3 : q3.length = 32) (hq4 : SR EncPr (whole W) q4A q4) (hk : ∀ h', (whole W).Sub h' → K (.bool true) h') :
    CallH Tryz.prog id_law16_WalkNobody [.int .i64 q0, .int .i64 q1, .agg (((bi q2).map (Value.int .u8) ++ [])).toArray, .agg (((bi q3).map (Value.int .u8) ++ [])).toArray, .slice q4A q4.length q4C] K (whole W) := WalkNobody_den   hq2 hq3 hq4 hk
end
set_option maxRecDepth 100000 in
theorem walkNobody_lifted (os : Os) (started : os.Started) (H : Type) (enc : TypeId × Value → H) :
    ReturnsInHanded {} Tryz.checked os 6 .any (Rows.walkNobodySpec.pre6 enc Tryz.prog Tryz.f6 Rows.walkNobodyRow.domain false) (Rows.walkNobodySpec.post enc Tryz.prog Tryz.f6 false true false false) := by
  refine returnsInHanded_of_change (C := Tryz.checked) own started (by kernel_rfl) Tryz.func6
    (ChangeSpec.witness6 (enc := enc) (C := Tryz.checked) false ⟨#[], #[.int .i64 0, .int .i64 0, .agg (Array.replicate 32 (.int .u8 0)), .agg (Array.replicate 32 (.int .u8 0)), .slice none 0 0], []⟩ 8 (by kernel_rfl) (by kernel_rfl) (by kernel_rfl) (by kernel_rfl)) ?_
  intro W base args ds gs before hval0 hW hcnd _
  have hW' := hW
  obtain ⟨p, q, hA0, hV, rfl, hfz, hnd⟩ := hW
  have hA : DataW.TrodAll enc Tryz.prog W 0 (fun _ => true) true [3, 3, 46, 46, 27] args.toList ds p := hA0
  obtain ⟨v0, v1, v2, v3, v4, d0, d1, d2, d3, d4, p0, p1, p2, p3, p4, rfl, rfl, rfl, t0, t1, t2, t3, t4⟩ := trodAll_five hA
  obtain ⟨rfl, rfl⟩ := trodVars_none hV
  simp only [List.append_nil] at hW'
  obtain ⟨n0, rfl, h0⟩ := open_int (k := .i64) (by kernel_rfl) t0 (hval0 0 3 v0 rfl rfl)
  obtain ⟨n1, rfl, h1⟩ := open_int (k := .i64) (by kernel_rfl) t1 (hval0 1 3 v1 rfl rfl)
  obtain ⟨q2, rfl, hq2⟩ := oHash' t2 (hval0 2 46 v2 rfl rfl)
  obtain ⟨q3, rfl, hq3⟩ := oHash' t3 (hval0 3 46 v3 rfl rfl)
  obtain ⟨q4A, q4, q4C, rfl, hq4⟩ := oPrs' t4 (hval0 4 27 v4 rfl rfl)
  refine (law_call (f := 6) (WalkNobody_den' h0 h1 hq2 hq3 hq4 fun h' hs => ⟨rfl, hs⟩)).mono fun e W' ⟨he, hg⟩ => ?_
  subst he
  exact ⟨_, rfl, law_post (pa := _) (pv := []) hW' (fun _ _ _ => (trodAll_cons_mk (shut_bool (t := 4) (by kernel_rfl) _) trodAll_mk0)) (fun sp hsp => all_stays (by kernel_rfl) hg (by decide +kernel) hA (fun x hx => hW'.lt x hx) sp hsp) (fun _ _ => rfl) (by simp)
    hg (ok_one (t := 4) (by kernel_rfl) rfl (okWide_bool_mk (by kernel_rfl) _))⟩
set_option maxHeartbeats 100000000 in
set_option maxRecDepth 100000 in
theorem walkNobody_closed : joinedFacts Tryz.prog 6 Tryz.f6 Rows.walkNobodySpec Rows.walkNobodyRow = true := by
  unfold joinedFacts
  simp only [Bool.and_eq_true]
  repeat' refine And.intro ?_ ?_
  all_goals (as_aux_lemma => kernel_rfl)
theorem walkNobody_over : Rows.walkNobodyRow.holds Tryz.pinned (OpenSpec.ofChange Rows.walkNobodySpec) :=
  OpenClaim.holds_of_wide 6 Tryz.f6 rfl rfl rfl rfl rfl rfl rfl ⟨rfl, rfl, rfl, rfl, rfl⟩ rfl rfl rfl rfl rfl (by kernel_rfl) Tryz.func6 walkNobody_closed
    (of_decide_eq_true (by kernel_rfl)) (by unfold Func.isWrapper; first | (rw [if_pos (by decide +kernel)]; kernel_rfl) | (rw [if_neg (by decide +kernel)]; exact ⟨rfl, rfl⟩))
    (fun os started H enc _ => walkNobody_lifted os started H enc)
theorem walkNobody_holds : Rows.WalkNobodySaid := walkNobody_over
#print axioms walkNobody_holds
end Go.Proofs.YtmcgndbfoebcnaaGreat
