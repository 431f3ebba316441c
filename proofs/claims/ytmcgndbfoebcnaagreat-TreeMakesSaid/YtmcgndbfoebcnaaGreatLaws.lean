/-
  Statements of layer tree beside the document's answer: what is set and dropped; trees of pairs. No condition.
-/
import Derived.Test.YtmcgndbfoebcnaaGreatTreeB
namespace TL
open Go Go.Proofs
variable {h : PH} {K : Value → PH → Prop} {p v : List UInt8} {b : Nat}

theorem RfAt.tree {h' : PH} {a : Option Addr} {c : Nat} {S S2 : List PrR} {B' : List Nat} (x : RfAt h a c S) (y : Tr b h S2) (d : Chg [b] B' h h') : RfAt h' a c S := ⟨y.keep d x.sr prStr, x.le, x.up, x.n, x.p⟩
theorem may_len {S : List PrR} (hm : mayB S = true) : ∀ x ∈ S, x.p.length ≤ 1000000 := fun x hx => by have := ok_len ((may_ok hm).1 x hx); omega
theorem TreePlays_den {lA : Option Addr} {lC : Nat} {l : List OpR} (hl : SR EncOp h lA l) (hk : ∀ h', h.Sub h' → K (.bool true) h') : CallH Tryz.prog id_law15_TreePlays [.slice lA l.length lC] K h := by
  refine F_law15_TreePlays_ok (cGreatT hl ⟨_, rfl, fun _ => wk (PH.Sub.rf _) hk, fun hg => cNew fun b h1 hbn x1 c1 => ⟨_, rfl, ?_⟩⟩)
  obtain ⟨n150, hgl⟩ := gTA_no hg
  refine LoopP.ind (fun (z : Int × (Option Addr × Nat × Nat) × Unit) h' => ∃ (i : Nat) (S : List PrR), z.1 = i ∧ i ≤ l.length ∧ Tr b h' S ∧ RfAt h' z.2.1.1 z.2.1.2.2 S ∧ z.2.1.2.1 = S.length ∧ Chg [] [b] h h') (fun z _ => (l.length - z.1).toNat) ?_ ⟨0, [], rfl, Nat.zero_le _, x1, ⟨.inl rfl, Nat.zero_le _, List.Pairwise.nil, by simp, by simp⟩, rfl, c1⟩
  rintro ⟨zi, ⟨mA, mN, mC⟩, u⟩ h2 ⟨i, S, hzi, hi, x2, m2, hmN, c2⟩
  dsimp only at hzi m2 hmN
  subst hzi hmN
  dsimp only
  have h48 := x2.le
  have hm := x2.may
  refine ⟨fun e => ?_, fun e => ?_⟩
  · have e : i < l.length := by simpa using e
    have hit : ((i : Nat) : Int).toNat = i := by omega
    have hw : IntKind.wrap .i64 (((i : Nat) : Int) + (1 : Int)) = ((i + 1 : Nat) : Int) := by rw [wrap64] <;> omega
    rw [hit, hw]
    refine ⟨fun (st : (Option Addr × Nat × Nat) × Unit) h' => ∃ S' : List PrR, Tr b h' S' ∧ RfAt h' st.1.1 st.1.2.2 S' ∧ st.1.2.1 = S'.length ∧ Chg [] [b] h h', ?_, ?_⟩
    rotate_left
    · rintro ⟨⟨a, n, c⟩, u⟩ h3 ⟨S', q1, q2, q3, q4⟩
      exact ⟨⟨i + 1, S', rfl, by omega, q1, q2, q3, q4⟩, by omega⟩
    obtain ⟨b0, o0, hA, hr⟩ := (hl.sub c2.sub0).get e
    obtain ⟨gp, gv⟩ := hgl _ (List.getElem_mem e)
    refine ⟨b0, o0, ⟨hA, by omega, by omega⟩, l[i].k, mk l[i].p, mk l[i].v, hr _ 0 3 rfl (by decide), cRGet m2 ⟨_, _, rfl, fun ek => ?_, fun ek => ⟨fun ek1 => ?_, fun ek1 => ⟨S, x2, m2, rfl, c2⟩⟩⟩⟩
    · refine cRCut (by omega) ⟨_, _, _, rfl, fun (st : Int × (Option Addr × Nat × Nat) × Unit) h' => st.1 = ((setV S l[i].p l[i].v).1 : Nat) ∧ Tr b h' S ∧ RfAt h' st.2.1.1 st.2.1.2.2 (setV S l[i].p l[i].v).2 ∧ st.2.1.2.1 = (setV S l[i].p l[i].v).2.length ∧ Chg [] [b] h h', ⟨fun e1 => ?_, fun e1 => ⟨fun e2 => ?_, fun e2 => ⟨fun e3 => ?_, fun e3 => ?_⟩⟩⟩, ?_⟩
      · have e1 : (cutV l[i].p).2.2 = false := by simpa using e1
        have hs : setV S l[i].p l[i].v = (20, S) := by unfold setV; rw [if_pos e1]
        rw [hs]; exact ⟨rfl, x2, m2, rfl, c2⟩
      · have e1 : ¬ (cutV l[i].p).2.2 = false := by simpa using e1
        have e2 : 32 < l[i].v.length := by rw [size_mk] at e2; simp at e2; omega
        have hs : setV S l[i].p l[i].v = (3, S) := by unfold setV; rw [if_neg e1, if_pos e2]
        rw [hs]; exact ⟨rfl, x2, m2, rfl, c2⟩
      · have e1 : ¬ (cutV l[i].p).2.2 = false := by simpa using e1
        have e2 : ¬ 32 < l[i].v.length := by rw [size_mk] at e2; simp at e2; omega
        have e3 : look S l[i].p = none ∧ 48 ≤ S.length := by
          simp only [Bool.and_eq_true, Bool.not_eq_true', Option.isSome_eq_false_iff, Option.isNone_iff_eq_none, decide_eq_true_eq] at e3
          exact ⟨e3.1, by omega⟩
        have hs : setV S l[i].p l[i].v = (6, S) := by unfold setV; rw [if_neg e1, if_neg e2, if_pos e3]
        rw [hs]; exact ⟨rfl, x2, m2, rfl, c2⟩
      · have e1 : ¬ (cutV l[i].p).2.2 = false := by simpa using e1
        have e2 : ¬ 32 < l[i].v.length := by rw [size_mk] at e2; simp at e2; omega
        have e3 : ¬ (look S l[i].p = none ∧ 48 ≤ S.length) := fun hh => by
          have : (!(look S l[i].p).isSome && decide (((S.length : Nat) : Int) ≥ 48)) = true := by rw [hh.1]; simp; omega
          rw [this] at e3; cases e3
        have hs : setV S l[i].p l[i].v = (0, ins S l[i].p l[i].v) := by unfold setV; rw [if_neg e1, if_neg e2, if_neg e3]
        rw [hs]
        exact cWith m2 (by omega) (by omega) fun a c h3 m3 s3 => ⟨_, _, _, rfl, rfl, x2.sub s3, m3, rfl, c2.onto s3⟩
      · rintro ⟨w, ⟨a, n, c⟩, u⟩ h3 ⟨q1, q2, q3, q4, q5⟩
        dsimp only at q1 q3 q4 ⊢
        subst q1 q4
        exact cSet q2 (by omega) (by omega) fun h4 x4 c4 => ⟨_, rfl, fun e4 => by simp at e4, fun _ => ⟨_, x4, q3.tree q2 c4, rfl, q5.trans c4⟩⟩
    · refine cDrop x2 (by omega) fun h3 x3 c3 => ⟨_, rfl, fun e4 => by simp at e4, fun _ => cWithout (m2.tree x2 c3) fun a c h4 m4 s4 => ⟨_, _, _, rfl, _, x3.sub s4, m4, rfl, (c2.trans c3).onto s4⟩⟩
  · refine cStands x2 m2.sr fun h3 s3 => ⟨_, rfl, fun _ => wk (c2.sub0.tr s3) hk, fun e2 => by cases e2⟩
theorem cOfFull {lA : Option Addr} {lC : Nat} {l : List PrR} (hl : SR EncPr h lA l) (hm : mayB l = true) (hn : l.length ≤ 1000000) (h48 : 48 < l.length) (hk : K (.tuple #[.pointer none, .int .i64 (6 : Int)]) h) :
    CallH Tryz.prog id_tree_Of [.slice lA l.length lC] K h :=
  F_tree_Of_ok (cMay hl hn (may_len hm) ⟨_, rfl, fun e => (by rw [hm] at e; cases e), fun _ => ⟨fun _ => hk, fun e => (by simp at e; omega)⟩⟩)
theorem gPrs_no' {l : List PrR} (hg : gPrs l = false) : l.length ≤ 200 ∧ ∀ o ∈ l, o.p.length ≤ 1000 ∧ o.v.length ≤ 1000 := by
  simp only [gPrs, Bool.or_eq_false_iff, decide_eq_false_iff_not, List.any_eq_false] at hg
  refine ⟨by omega, fun o ho => ?_⟩
  have := hg.2 o ho
  simp at this
  exact this
theorem TreeMakes_den {lA : Option Addr} {lC : Nat} {l : List PrR} {lv i : Int} (hl : SR EncPr h lA l) (hk : ∀ h', h.Sub h' → K (.bool true) h') : CallH Tryz.prog id_law15_TreeMakes [.slice lA l.length lC, .int .i64 lv, .int .i64 i] K h := by
  refine F_law15_TreeMakes_ok (cGreatPairs hl ⟨_, rfl, fun _ => wk (PH.Sub.rf _) hk, fun hg => ?_⟩)
  obtain ⟨n200, hgl⟩ := gPrs_no' hg
  have hs : ∀ x ∈ l, x.p.length ≤ 1000000 := fun x hx => by have := hgl x hx; omega
  by_cases hm : mayB l = true
  · by_cases h48 : 48 < l.length
    · refine cOfFull hl hm (by omega) h48 ⟨none, 6, rfl, fun st h' => h' = h ∧ st.1 = 6, ⟨fun _ => ⟨rfl, rfl⟩, fun e => by simp at e; omega⟩, ?_⟩
      rintro ⟨w, u⟩ h4 ⟨rfl, hw⟩
      dsimp only at hw
      subst hw
      refine ⟨fun st h' => h' = h4 ∧ st.1 = 6, cRMay hl (by omega) hs ⟨_, rfl, fun e => (by rw [hm] at e; cases e), fun _ => ⟨rfl, rfl⟩⟩, ?_⟩
      rintro ⟨w, u⟩ h5 ⟨rfl, hw⟩
      dsimp only at hw
      subst hw
      exact ⟨fun e => by simp at e, fun _ => ⟨fun _ => wk (PH.Sub.rf _) hk, fun e => by simp at e⟩⟩
    · refine cOfT hl hm (by omega) fun b h1 x1 hbn c1 => ⟨some ⟨b, 0, none⟩, 0, rfl, fun st h' => h' = h1 ∧ st.1 = 0, ⟨fun e => by simp at e; omega, fun _ => ⟨rfl, rfl⟩⟩, ?_⟩
      rintro ⟨w, u⟩ h4 ⟨rfl, hw⟩
      dsimp only at hw
      subst hw
      have l4 := hl.sub c1.sub0
      refine ⟨fun st h' => h' = h4 ∧ st.1 = 0, cRMay l4 (by omega) hs ⟨_, rfl, fun e => (by rw [hm] at e; cases e), fun _ => ⟨rfl, rfl⟩⟩, ?_⟩
      rintro ⟨w, u⟩ h5 ⟨rfl, hw⟩
      dsimp only at hw
      subst hw
      refine ⟨fun e => by simp at e, fun _ => ⟨fun e => by simp at e, fun _ => ?_⟩⟩
      have goes : ∀ {K2 : Value → PH → Prop}, (∀ h', h5.Sub h' → K2 (.bool true) h') → CallH Tryz.prog id_law15_stands [.pointer (some ⟨b, 0, none⟩), .slice lA l.length lC] K2 h5 := fun hk2 => cStands x1 l4 hk2
      by_cases hin : (0 ≤ lv ∧ lv ≤ 4 ∧ 0 ≤ i) ∧ i < ((2 ^ lv.toNat : Nat) : Int)
      · obtain ⟨⟨i1, i2, i3⟩, i4⟩ := hin
        obtain ⟨n, rfl⟩ : ∃ n : Nat, lv = n := ⟨lv.toNat, by omega⟩
        obtain ⟨m, rfl⟩ : ∃ m : Nat, i = m := ⟨i.toNat, by omega⟩
        have t0 : ((n : Nat) : Int).toNat = n := by omega
        rw [t0] at i4
        have i4 : m < 2 ^ n := Int.ofNat_lt.1 i4
        have tm : ((n : Nat) : Int).tmod 8 = n := by rw [Int.tmod_eq_emod_of_nonneg (by omega)]; omega
        have hs1 : shlV .i64 (1 : Int) (IntKind.wrap .u64 (((n : Nat) : Int).tmod (8 : Int))) = ((2 ^ n : Nat) : Int) := by
          rw [tm, wrap_u64 (by omega) (by omega), shl1 n (by omega)]
        have hth : ((((decide (((n : Nat) : Int) ≥ (0 : Int))) && (decide (((n : Nat) : Int) ≤ (4 : Int)))) && (decide (((m : Nat) : Int) ≥ (0 : Int)))) && (decide (((m : Nat) : Int) < ((2 ^ n : Nat) : Int)))) = true := by
          simp only [Bool.and_eq_true, decide_eq_true_eq]
          exact ⟨⟨⟨by omega, by omega⟩, by omega⟩, Int.ofNat_lt.2 i4⟩
        rw [hs1]
        refine cNode x1 (by omega) i4 ⟨bi _, by rw [bi_len, nd_len], true, rfl, fun _ => (by rw [tm, wrap_u64 (by omega) (by omega)]; omega), fun _ => ⟨fun e => (by cases e), fun _ => goes fun h6 s6 => ⟨_, rfl, fun _ => wk (c1.sub0.tr s6) hk, fun e => (by cases e)⟩⟩, fun e => ?_⟩
        rw [hth] at e; cases e
      · have hsh : ∀ n : Nat, n ≤ 4 → shlV .i64 (1 : Int) (IntKind.wrap .u64 (((n : Nat) : Int).tmod (8 : Int))) = ((2 ^ n : Nat) : Int) := fun n hn => by
          have tm : ((n : Nat) : Int).tmod 8 = n := by rw [Int.tmod_eq_emod_of_nonneg (by omega)]; omega
          rw [tm, wrap_u64 (by omega) (by omega), shl1 n (by omega)]
        have hno : ((((decide (lv ≥ (0 : Int))) && (decide (lv ≤ (4 : Int)))) && (decide (i ≥ (0 : Int)))) && (decide (i < (shlV .i64 (1 : Int) (IntKind.wrap .u64 (lv.tmod (8 : Int))))))) = false := by
          cases hb : ((((decide (lv ≥ (0 : Int))) && (decide (lv ≤ (4 : Int)))) && (decide (i ≥ (0 : Int)))) && (decide (i < (shlV .i64 (1 : Int) (IntKind.wrap .u64 (lv.tmod (8 : Int))))))) with
          | false => rfl
          | true =>
            simp only [Bool.and_eq_true, decide_eq_true_eq] at hb
            obtain ⟨⟨⟨b1, b2⟩, b3⟩, b4⟩ := hb
            obtain ⟨n, rfl⟩ : ∃ n : Nat, lv = n := ⟨lv.toNat, by omega⟩
            rw [hsh n (by omega)] at b4
            exact absurd ⟨⟨b1, b2, b3⟩, by rw [Int.toNat_natCast]; exact b4⟩ hin
        have hsome : (Option.isNone (some (⟨b, 0, none⟩ : Addr))) = false := rfl
        refine cNodeNo (fun e => ?_) ?_ ⟨List.replicate 32 0, by simp, false, rfl, fun e => ?_, fun _ => ⟨fun _ => ⟨fun _ => goes fun h6 s6 => ⟨_, rfl, fun _ => wk (c1.sub0.tr s6) hk, fun e => (by cases e)⟩, fun e => by simp at e⟩, fun e => (by cases e)⟩, fun e => ?_⟩
        · simp only [Bool.or_eq_false_iff, decide_eq_false_iff_not] at e; omega
        · rw [hsome, Bool.false_or]
          by_cases b1 : lv < 0
          · simp [b1]
          · by_cases b2 : 4 < lv
            · simp [b2]
            · by_cases b3 : i < 0
              · simp [b3]
              · obtain ⟨n, rfl⟩ : ∃ n : Nat, lv = n := ⟨lv.toNat, by omega⟩
                rw [shl1 n (by omega)]
                have : ¬ i < ((2 ^ n : Nat) : Int) := fun hh => hin ⟨⟨by omega, by omega, by omega⟩, by rw [Int.toNat_natCast]; exact hh⟩
                simp only [Bool.or_eq_true, decide_eq_true_eq]
                exact .inr (by omega)
        · simp only [Bool.and_eq_true, decide_eq_true_eq] at e
          obtain ⟨n, rfl⟩ : ∃ n : Nat, lv = n := ⟨lv.toNat, by omega⟩
          have tm : ((n : Nat) : Int).tmod 8 = n := by rw [Int.tmod_eq_emod_of_nonneg (by omega)]; omega
          rw [tm, wrap_u64 (by omega) (by omega)]; omega
        · rw [hno] at e; cases e
  · have hm : mayB l = false := by simpa using hm
    refine cOfNo hl (by omega) hs hm ⟨none, 1, rfl, fun _ h' => h' = h, ⟨fun _ => rfl, fun _ => rfl⟩, ?_⟩
    rintro _ h4 rfl
    refine ⟨fun st h' => h' = h4 ∧ st.1 = 1, cRMay hl (by omega) hs ⟨_, rfl, fun _ => ⟨rfl, rfl⟩, fun e => (by rw [hm] at e; cases e)⟩, ?_⟩
    rintro ⟨w, u⟩ h5 ⟨rfl, hw⟩
    dsimp only at hw
    subst hw
    exact ⟨fun e => by simp at e, fun _ => ⟨fun _ => wk (PH.Sub.rf _) hk, fun e => by simp at e⟩⟩
end TL
