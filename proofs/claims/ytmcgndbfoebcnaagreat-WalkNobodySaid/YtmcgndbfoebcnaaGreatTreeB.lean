/-
  slices.Grow, slices.Concat of a tree's parts. No condition.
-/
import Derived.Test.YtmcgndbfoebcnaaGreatTreeA
import Derived.Test.YtmcgndbfoebcnaaGreatLibD
import Derived.Shelf.SlSortCmp.InsertionK
import Derived.Lib.Bytealg
import Derived.Shelf.SlSortCmp.NoneTotal
import Derived.Lib.Walk
import Derived.WalkKit
import Derived.Shelf.SlSortCmp.WholeK
import Derived.Test.YtmcgndbfoebcnaaGreatProg
namespace TL
open Go Go.Proofs
variable {b : Nat} {h : PH} {K : Value → PH → Prop} {P : Nat → PtR} {g : Nat → List UInt8} {n : Nat} {S : List PrR}

theorem cGrow0 {n : Nat} (hn : n ≤ 1000000) (hk : ∀ a' c' B' h', Buf EncPr T_api_Pair B' h' a' 0 c' [] → Chg [] B' h h' → K (.slice a' 0 c') h') :
    CallH Tryz.prog id_slices_Grow_api_Pair_api_Pair [.slice none 0 0, .int .i64 (n : Int)] K h := by
  have w1 : IntKind.wrap .i64 ((n : Int) - (IntKind.wrap .i64 (((0 : Nat) : Int) - ((0 : Nat) : Int)))) = (n : Int) := by
    rw [wrap64 (n := ((0 : Nat) : Int) - ((0 : Nat) : Int)) (by omega) (by omega), wrap64 (by omega) (by omega)]; omega
  refine F_slices_Grow_api_Pair_api_Pair_ok ⟨fun _ h' => h' = h, ⟨fun e => by simp at e; omega, fun _ => rfl⟩, ?_⟩
  rintro _ h1 rfl
  rw [w1]
  refine ⟨fun e => ⟨by decide, ⟨by omega, by omega⟩, ?_⟩, fun _ => hk none 0 [] h1 (Buf.nil _ _ _ _) (Chg.refl _ _)⟩
  have hb0 : Buf EncPr T_api_Pair [] h1 (slA none 2 (0 : Int) ((0 : Nat) : Int)) 0 0 [] := Buf.nil _ _ _ _
  rw [show ((n : Nat) : Int).toNat = n by omega, rep_z]
  refine hb0.append (new := List.replicate n zPr) (by simp) rfl rfl (by simp; omega) fun a' c' B' h' hb' hc' _ => ?_
  have e : 0 < n := by simp at e; omega
  have hle := hb'.le
  obtain ⟨b', ha', hB'⟩ := hb'.spot (by omega)
  refine ⟨⟨by omega, by omega, by omega, by omega⟩, ?_⟩
  rw [slA0 a' (fun x ex => by rw [ha'] at ex; cases ex; rfl)]
  have ht := hb'.take (i := 0) (by omega)
  rw [List.take_zero] at ht
  exact hk a' c' B' h' ht hc'
def catP (P : Nat → PtR) (i : Nat) : List PrR := (List.range i).flatMap fun j => (P j).ps
theorem catP_succ (P : Nat → PtR) (i : Nat) : catP P (i + 1) = catP P i ++ (P i).ps := by
  unfold catP; rw [List.range_succ, List.flatMap_append]; simp
theorem catP_len (hl : ∀ i, i < 16 → (P i).ps.length ≤ 48) : ∀ i, i ≤ 16 → (catP P i).length ≤ i * 48
  | 0, _ => by simp [catP]
  | i + 1, h => by
    rw [catP_succ, List.length_append]
    have := catP_len hl i (by omega)
    have := hl i (by omega)
    omega
theorem cConcat (t : Tb b h P g n) (hl : ∀ i, i < 16 → (P i).ps.length ≤ 48) (hk : ∀ a' c' B' h', Buf EncPr T_api_Pair B' h' a' (catP P 16).length c' (catP P 16) → Chg [] B' h h' → K (.slice a' (catP P 16).length c') h') :
    CallH Tryz.prog id_slices_Concat_api_Pair_api_Pair [.slice (some ⟨b, 0, none⟩) 16 16] K h := by
  have h16 := catP_len hl 16 (by omega)
  refine F_slices_Concat_api_Pair_api_Pair_ok (LoopP.ind (fun (z : Int × Int × Unit) h' => ∃ i : Nat, z.1 = ((catP P i).length : Nat) ∧ z.2.1 = i ∧ i ≤ 16 ∧ h' = h) (fun z _ => (16 - z.2.1).toNat) ?_ ⟨0, rfl, rfl, by omega, rfl⟩)
  rintro ⟨zs, zi, u⟩ h1 ⟨i, hzs, hzi, hi, rfl⟩
  dsimp only at hzs hzi
  subst hzs hzi
  dsimp only
  refine ⟨fun e => ?_, fun e => ?_⟩
  · have e : i < 16 := by simp at e; omega
    have hit : ((i : Nat) : Int).toNat = i := by omega
    have hli := catP_len hl (i + 1) (by omega)
    rw [catP_succ, List.length_append] at hli
    have w1 : IntKind.wrap .i64 (((catP P i).length : Nat) + (((P i).ps.length : Nat) : Int)) = (((catP P (i + 1)).length : Nat) : Int) := by
      rw [catP_succ, List.length_append, wrap64] <;> omega
    refine ⟨b, 0, ⟨rfl, by omega, by omega⟩, (P i).a, (P i).ps.length, (P i).c, ?_, ?_⟩
    · rw [hit]; exact t.part e (by omega)
    · rw [w1]
      exact ⟨fun e => by simp at e; omega, fun _ => ⟨⟨i + 1, rfl, by rw [wrap64] <;> omega, by omega, rfl⟩, by rw [wrap64] <;> omega⟩⟩
  · have e : i = 16 := by simp at e; omega
    subst e
    refine cGrow0 (by omega) fun a2 c2 B2 h2 hb2 hc2 => ⟨_, _, _, rfl, LoopP.ind (fun (z : (Option Addr × Nat × Nat) × Int × Unit) h' => ∃ (i : Nat) (B' : List Nat), z.2.1 = i ∧ i ≤ 16 ∧ Buf EncPr T_api_Pair B' h' z.1.1 z.1.2.1 z.1.2.2 (catP P i) ∧ Chg [] B' h1 h') (fun z _ => (16 - z.2.1).toNat) ?_ ⟨0, B2, rfl, by omega, hb2, hc2⟩⟩
    rintro ⟨⟨oA, oN, oC⟩, zi, u⟩ h3 ⟨i, B3, hzi, hi, hb3, hc3⟩
    dsimp only at hzi hb3
    subst hzi
    dsimp only
    have hn3 := hb3.1
    refine ⟨fun e => ?_, fun e => ?_⟩
    · have e : i < 16 := by simp at e; omega
      have hit : ((i : Nat) : Int).toNat = i := by omega
      have t3 := t.sub hc3.sub0
      have hli := catP_len hl i (by omega)
      have hpi := hl i e
      refine ⟨b, 0, ⟨rfl, by omega, by omega⟩, (P i).a, (P i).ps.length, (P i).c, ?_, EncPr.row (P i).ps, (t3.rows i e).src, ?_⟩
      · rw [hit]; exact t3.part e (by omega)
      · refine hb3.append (new := (P i).ps) rfl rfl rfl (by omega) fun a' c' B' h' hb' hc' _ => ⟨⟨i + 1, B', by rw [wrap64] <;> omega, by omega, ?_, hc3.trans hc'⟩, by rw [wrap64] <;> omega⟩
        rw [catP_succ]; exact hb'
    · have e : i = 16 := by simp at e; omega
      subst e
      subst hn3
      exact hk _ _ _ _ hb3 hc3
theorem perm_parts : ∀ (m : Nat) (S : List PrR), (∀ x ∈ S, bkt x.p < m) → ((List.range m).flatMap fun i => partB S i).Perm S
  | 0, S, h => by
    have : S = [] := by
      cases S with
      | nil => rfl
      | cons x r => have := h x List.mem_cons_self; omega
    subst this; exact List.Perm.refl _
  | m + 1, S, h => by
    rw [List.range_succ, List.flatMap_append]
    have h1 := perm_parts m (S.filter fun x => !(bkt x.p == m)) fun x hx => by
      obtain ⟨hx, hn⟩ := List.mem_filter.1 hx
      have := h x hx
      simp at hn; omega
    have h2 : ((List.range m).flatMap fun i => partB (S.filter fun x => !(bkt x.p == m)) i) = (List.range m).flatMap fun i => partB S i := by
      apply congrArg List.flatten
      apply List.map_congr_left
      intro i hi
      have hi := List.mem_range.1 hi
      unfold partB
      rw [List.filter_filter]
      apply List.filter_congr
      intro x _
      by_cases e : bkt x.p = i
      · simp [e]; omega
      · simp [e]
    rw [h2] at h1
    have h3 : ([m].flatMap fun i => partB S i) = S.filter fun x => bkt x.p == m := by simp [partB]
    rw [h3]
    refine (h1.append_right _).trans ?_
    refine List.perm_append_comm.trans ?_
    exact List.filter_append_perm _ _
/-- a rising row is one with its rows in whatever other row -/
theorem up_unique {l : List PrR} (hu : Up S) (hp : l.Perm S) (hs : l.Pairwise fun a b => ¬ b.p < a.p) : l = S := by
  have hnd : (l.map (·.p)).Nodup := (hp.map (·.p)).nodup_iff.2 hu.nodup
  have hul : Up l := by
    rw [List.Nodup, List.pairwise_map] at hnd
    exact (hs.and hnd).imp fun ⟨h1, h2⟩ => lt_of_not h1 (fun e => h2 e.symm)
  refine Up.ext hul hu fun p => ?_
  cases e : look S p with
  | none =>
    rw [look_none] at e ⊢
    exact fun x hx => e x (hp.mem_iff.1 hx)
  | some v =>
    have := look_of_mem hul (hp.mem_iff.2 (look_mem e))
    exact this
end TL

namespace TL
open Go Go.Proofs
variable {B : List Nat} {h : PH} {K : Value → PH → Prop} {s p q k : List UInt8}

/-! ### The document's functions -/
theorem cRNamed (hk : K (.bool (namedB s)) h) : CallH Tryz.prog id_ref11_Named [.string (mk s)] K h := by
  refine F_ref11_Named_ok ?_
  unfold F_ref11_Named
  rw [size_mk]
  refine ⟨fun e => ?_, fun e => ?_⟩
  · have : namedB s = false := by
      simp only [Bool.or_eq_true, decide_eq_true_eq] at e
      cases hn : namedB s with
      | false => rfl
      | true =>
        simp only [namedB, Bool.and_eq_true, decide_eq_true_eq] at hn
        omega
    rw [this] at hk; exact hk
  · simp only [Bool.or_eq_false_iff, decide_eq_false_iff_not] at e
    refine LoopP.ind (fun (z : Int × Unit) h' => h' = h ∧ (0 ≤ z.1 ∧ z.1 ≤ s.length) ∧ (s.take z.1.toNat).all (fun b => decide (97 ≤ b.toNat) && decide (b.toNat ≤ 122)) = true) (fun z _ => (s.length - z.1).toNat) ?_ ⟨rfl, ⟨by decide, by show (0 : Int) ≤ _; omega⟩, by simp⟩
    rintro ⟨i, u⟩ h1 ⟨rfl, ⟨i0, i1⟩, ha⟩
    dsimp only at i0 i1 ha ⊢
    refine ⟨fun e => ?_, fun e => ?_⟩
    · have e : i < s.length := by simpa using e
      have hit : i.toNat < s.length := by omega
      have hb : byteAt (mk s) i = ((s[i.toNat]).toNat : Int) := by rw [byteAt_mk]; simp [List.getD, hit]
      rw [hb]
      refine ⟨⟨i0, e⟩, fun _ => ⟨i0, e⟩, fun e2 => ?_, fun e2 => ?_⟩
      · have : namedB s = false := by
          have hm := List.getElem_mem hit
          simp only [Bool.or_eq_true, decide_eq_true_eq] at e2
          cases hn : namedB s with
          | false => rfl
          | true =>
            simp only [namedB, Bool.and_eq_true, List.all_eq_true, decide_eq_true_eq] at hn
            have := hn.1 _ hm
            omega
        rw [this] at hk; exact hk
      · simp only [Bool.or_eq_false_iff, decide_eq_false_iff_not] at e2
        rw [wrap64 (n := i + 1) (by omega) (by omega)]
        refine ⟨⟨rfl, ⟨by omega, by omega⟩, ?_⟩, by omega⟩
        rw [show (i + 1).toNat = i.toNat + 1 by omega, List.take_succ_eq_append_getElem hit, List.all_append, ha]
        simp; omega
    · have e' : i = s.length := by simp at e; omega
      rw [e'] at ha
      simp only [Int.toNat_natCast, List.take_length] at ha
      have : namedB s = true := by
        unfold namedB; rw [ha]; simp; omega
      rw [this] at hk; exact hk
theorem cRKey (hk : K (.bool (keyB s)) h) : CallH Tryz.prog id_ref11_Key [.string (mk s)] K h := by
  refine F_ref11_Key_ok ?_
  unfold F_ref11_Key
  rw [size_mk]
  refine ⟨fun e => ?_, fun e => ?_⟩
  · have : keyB s = false := by
      simp only [Bool.or_eq_true, decide_eq_true_eq] at e
      cases hn : keyB s with
      | false => rfl
      | true =>
        simp only [keyB, Bool.and_eq_true, decide_eq_true_eq] at hn
        omega
    rw [this] at hk; exact hk
  · simp only [Bool.or_eq_false_iff, decide_eq_false_iff_not] at e
    refine LoopP.ind (fun (z : Int × Unit) h' => h' = h ∧ (0 ≤ z.1 ∧ z.1 ≤ s.length) ∧ (0 : UInt8) ∉ s.take z.1.toNat ∧ (47 : UInt8) ∉ s.take z.1.toNat) (fun z _ => (s.length - z.1).toNat) ?_ ⟨rfl, ⟨by decide, by show (0 : Int) ≤ _; omega⟩, by simp, by simp⟩
    rintro ⟨i, u⟩ h1 ⟨rfl, ⟨i0, i1⟩, ha, hb'⟩
    dsimp only at i0 i1 ha hb' ⊢
    refine ⟨fun e => ?_, fun e => ?_⟩
    · have e : i < s.length := by simpa using e
      have hit : i.toNat < s.length := by omega
      have hb : byteAt (mk s) i = ((s[i.toNat]).toNat : Int) := by rw [byteAt_mk]; simp [List.getD, hit]
      rw [hb]
      refine ⟨⟨i0, e⟩, fun _ => ⟨i0, e⟩, fun e2 => ?_, fun e2 => ?_⟩
      · have : keyB s = false := by
          have hm := List.getElem_mem hit
          simp only [Bool.or_eq_true, beq_iff_eq] at e2
          cases hn : keyB s with
          | false => rfl
          | true =>
            simp only [keyB, Bool.and_eq_true, decide_eq_true_eq] at hn
            exfalso
            rcases e2 with e2 | e2
            · exact hn.2.1 (by rw [show (0 : UInt8) = s[i.toNat] from UInt8.toNat_inj.1 (by show 0 = _; omega)]; exact hm)
            · exact hn.2.2 (by rw [show (47 : UInt8) = s[i.toNat] from UInt8.toNat_inj.1 (by show 47 = _; omega)]; exact hm)
        rw [this] at hk; exact hk
      · simp only [Bool.or_eq_false_iff, beq_eq_false_iff_ne] at e2
        rw [wrap64 (n := i + 1) (by omega) (by omega)]
        refine ⟨⟨rfl, ⟨by omega, by omega⟩, ?_, ?_⟩, by omega⟩
        · rw [show (i + 1).toNat = i.toNat + 1 by omega, List.take_succ_eq_append_getElem hit]
          intro hm
          rcases List.mem_append.1 hm with hm | hm
          · exact ha hm
          · rw [List.mem_singleton] at hm
            exact e2.1 (by rw [← hm]; rfl)
        · rw [show (i + 1).toNat = i.toNat + 1 by omega, List.take_succ_eq_append_getElem hit]
          intro hm
          rcases List.mem_append.1 hm with hm | hm
          · exact hb' hm
          · rw [List.mem_singleton] at hm
            exact e2.2 (by rw [← hm]; rfl)
    · have e' : i = s.length := by simp at e; omega
      rw [e'] at ha hb'
      simp only [Int.toNat_natCast, List.take_length] at ha hb'
      have : keyB s = true := by
        unfold keyB; simp [ha, hb']; omega
      rw [this] at hk; exact hk
theorem cRCut (hs : p.length ≤ 4611686018427387904) (hk : K (.tuple #[.string (mk (cutV p).1), .string (mk (cutV p).2.1), .bool (cutV p).2.2]) h) : CallH Tryz.prog id_ref11_Cut [.string (mk p)] K h := by
  refine F_ref11_Cut_ok (LoopP.ind (fun (z : Int × Unit) h' => h' = h ∧ (0 ≤ z.1 ∧ z.1 ≤ p.length) ∧ (47 : UInt8) ∉ p.take z.1.toNat) (fun z _ => (p.length - z.1).toNat) ?_ ⟨rfl, ⟨by decide, by show (0 : Int) ≤ _; omega⟩, by simp⟩)
  rintro ⟨i, u⟩ h1 ⟨rfl, ⟨i0, i1⟩, ha⟩
  dsimp only at i0 i1 ha ⊢
  rw [size_mk]
  refine ⟨fun e => ?_, fun e => ?_⟩
  · have e : i < p.length := by simpa using e
    have hit : i.toNat < p.length := by omega
    have hb : byteAt (mk p) i = ((p[i.toNat]).toNat : Int) := by rw [byteAt_mk]; simp [List.getD, hit]
    rw [hb, wrap64 (n := i + 1) (by omega) (by omega)]
    refine ⟨⟨i0, e⟩, fun e2 => ⟨⟨by omega, by omega, by omega⟩, ?_⟩, fun e2 => ?_⟩
    · have hc : p[i.toNat] = 47 := UInt8.toNat_inj.1 (by simp only [beq_iff_eq] at e2; show _ = 47; omega)
      have hsp : p = p.take i.toNat ++ 47 :: p.drop (i.toNat + 1) := by rw [← hc, ← List.drop_eq_getElem_cons hit, List.take_append_drop]
      have e1 : subS (mk p) 0 i = mk (p.take i.toNat) := by rw [subS_mk]; simp
      have e3 : subS (mk p) (i + 1) ((p.length : Nat) : Int) = mk (p.drop (i.toNat + 1)) := by
        rw [subS_mk, show (i + 1).toNat = i.toNat + 1 by omega, List.take_of_length_le (by rw [List.length_drop]; omega)]
      have hval : ∀ m k, cutB p = some (m, k) → m = p.take i.toNat ∧ k = p.drop (i.toNat + 1) := fun m k hmk => by
        obtain ⟨h1, h2, h3⟩ := cut_iff.1 hmk
        have ht1 := take_of (k := k) (named_no h2)
        have ht2 := take_of (m := p.take i.toNat) (k := p.drop (i.toNat + 1)) ha
        rw [← h1] at ht1
        rw [← hsp] at ht2
        rw [ht1] at ht2
        refine ⟨ht2, ?_⟩
        have h4 := h1.symm.trans hsp
        rw [ht2] at h4
        have := List.append_cancel_left h4
        injection this
      rw [e1, e3]
      refine cRNamed ⟨_, rfl, fun _ => ⟨by omega, by omega, by omega⟩, fun e4 => cRKey ⟨_, rfl, fun e5 => ⟨⟨by omega, by omega, by omega⟩, ⟨by omega, by omega, by omega⟩, ?_⟩, fun e5 => ?_⟩, fun e4 => ?_⟩
      · have : cutB p = some (p.take i.toNat, p.drop (i.toNat + 1)) := cut_iff.2 ⟨hsp, e4, e5⟩
        rw [cut_some this] at hk; exact hk
      · have : cutB p = none := by
          cases hc : cutB p with
          | none => rfl
          | some x =>
            obtain ⟨h1, h2⟩ := hval x.1 x.2 hc
            have := ((cut_iff (p := p) (m := x.1) (k := x.2)).1 hc).2.2
            rw [h2, e5] at this; cases this
        rw [cut_none this] at hk; exact hk
      · have : cutB p = none := by
          cases hc : cutB p with
          | none => rfl
          | some x =>
            obtain ⟨h1, h2⟩ := hval x.1 x.2 hc
            have := ((cut_iff (p := p) (m := x.1) (k := x.2)).1 hc).2.1
            rw [h1, e4] at this; cases this
        rw [cut_none this] at hk; exact hk
    · refine ⟨⟨rfl, ⟨by omega, by omega⟩, ?_⟩, by omega⟩
      rw [show (i + 1).toNat = i.toNat + 1 by omega, List.take_succ_eq_append_getElem hit]
      intro hm
      rcases List.mem_append.1 hm with hm | hm
      · exact ha hm
      · rw [List.mem_singleton] at hm
        rw [← hm] at e2; exact absurd e2 (by decide)
  · have e' : i = p.length := by simp at e; omega
    rw [e'] at ha
    simp only [Int.toNat_natCast, List.take_length] at ha
    have : cutB p = none := by unfold cutB; rw [if_neg ha]
    rw [cut_none this] at hk; exact hk
open Go Go.Proofs
variable {B : List Nat} {h : PH} {K : Value → PH → Prop} {s p q k : List UInt8}
variable {x : Option Addr} {S : List PrR}

/-! ### Texts in their order -/
theorem bl_irr (x : UInt8) : (decide (x < x)) = false := by simp
theorem lt_pre : ∀ (c a b : List UInt8), (c ++ a < c ++ b) ↔ a < b
  | [], _, _ => Iff.rfl
  | x :: c, a, b => by
    rw [List.cons_append, List.cons_append, List.cons_lt_cons_iff]
    constructor
    · rintro (h | ⟨_, h⟩)
      · exact absurd h (by simp)
      · exact (lt_pre c a b).1 h
    · intro h; exact .inr ⟨rfl, (lt_pre c a b).2 h⟩
theorem cLess {a b : List UInt8} (ha : a.length ≤ 4611686018427387904) (hk : K (.bool (decide (a < b))) h) : CallH Tryz.prog id_ref11_Less [.string (mk a), .string (mk b)] K h := by
  refine F_ref11_Less_ok (LoopP.ind (fun (z : Int × Unit) h' => ∃ i : Nat, z.1 = (i : Int) ∧ i ≤ a.length ∧ i ≤ b.length ∧ a.take i = b.take i ∧ h' = h) (fun z _ => (a.length - z.1).toNat) ?_ ⟨0, rfl, Nat.zero_le _, Nat.zero_le _, by simp, rfl⟩)
  rintro ⟨_, u⟩ h ⟨i, rfl, hi, hib, heq, rfl⟩
  dsimp only
  rw [size_mk, size_mk]
  refine ⟨fun e => ?_, fun e => ?_⟩
  · have e : i < a.length ∧ i < b.length := by simpa using e
    have hba : byteAt (mk a) (i : Int) = (a[i].toNat : Int) := by rw [byteAt_mk]; simp [List.getD, e.1]
    have hbb : byteAt (mk b) (i : Int) = (b[i].toNat : Int) := by rw [byteAt_mk]; simp [List.getD, e.2]
    rw [hba, hbb]
    refine ⟨⟨by omega, by omega⟩, ⟨by omega, by omega⟩, fun e2 => ⟨⟨by omega, by omega⟩, ⟨by omega, by omega⟩, ?_⟩, fun e2 => ?_⟩
    · have e2 : a[i].toNat ≠ b[i].toNat := by
        intro hh; rw [hh] at e2; simp at e2
      have hne : a[i] ≠ b[i] := fun hh => e2 (by rw [hh])
      have : (a < b) ↔ a[i] < b[i] := by
        have h1 : a = a.take i ++ a[i] :: a.drop (i + 1) := by rw [← List.drop_eq_getElem_cons e.1, List.take_append_drop]
        have h2 : b = a.take i ++ b[i] :: b.drop (i + 1) := by rw [heq, ← List.drop_eq_getElem_cons e.2, List.take_append_drop]
        have h3 : (a < b) ↔ (a.take i ++ a[i] :: a.drop (i + 1) < a.take i ++ b[i] :: b.drop (i + 1)) := by rw [← h1, ← h2]
        rw [h3, lt_pre, List.cons_lt_cons_iff]
        exact ⟨fun h => h.resolve_right fun h => hne h.1, .inl⟩
      have h4 : decide ((a[i].toNat : Int) < (b[i].toNat : Int)) = decide (a < b) := by
        rw [decide_eq_decide, this, UInt8.lt_iff_toNat_lt]; omega
      rw [h4]; exact hk
    · have e2 : a[i].toNat = b[i].toNat := by
        have : ((a[i].toNat : Int)) = (b[i].toNat : Int) := by simpa using e2
        omega
      have e2 : a[i] = b[i] := UInt8.toNat_inj.1 e2
      rw [wrap64 (n := (i : Int) + 1) (by omega) (by omega)]
      refine ⟨⟨i + 1, rfl, by omega, by omega, ?_, rfl⟩, by omega⟩
      rw [List.take_succ_eq_append_getElem e.1, List.take_succ_eq_append_getElem e.2, heq, e2]
  · have e : ¬ (i < a.length ∧ i < b.length) := by
      intro hh
      have : (decide ((i : Int) < (a.length : Int)) && decide ((i : Int) < (b.length : Int))) = true := by simp; omega
      rw [this] at e; cases e
    have : (a < b) ↔ a.length < b.length := by
      by_cases hia : i = a.length
      · subst hia
        rw [List.take_length] at heq
        have h2 : b = a ++ b.drop a.length := by conv => lhs; rw [← List.take_append_drop a.length b, ← heq]
        constructor
        · intro hlt
          rw [h2] at hlt
          have h5 : (a ++ [] < a ++ b.drop a.length) := by simpa using hlt
          rw [lt_pre] at h5
          cases hd : b.drop a.length with
          | nil => rw [hd] at h5; exact absurd h5 (List.lt_irrefl _)
          | cons y r =>
            have := congrArg List.length hd
            simp at this; omega
        · intro hlt
          have h5 : (a ++ [] < a ++ b.drop a.length) := by
            rw [lt_pre]
            cases hd : b.drop a.length with
            | nil => have := congrArg List.length hd; simp at this; omega
            | cons y r => exact List.nil_lt_cons _ _
          rw [← h2] at h5
          simpa using h5
      · have hib2 : i = b.length := by omega
        subst hib2
        rw [List.take_length] at heq
        have h2 : a = b ++ a.drop b.length := by conv => lhs; rw [← List.take_append_drop b.length a, heq]
        constructor
        · intro hlt
          rw [h2] at hlt
          have h5 : (b ++ a.drop b.length < b ++ []) := by simpa using hlt
          rw [lt_pre] at h5
          exact absurd h5 (List.not_lt_nil _)
        · intro hlt; omega
    have h4 : decide ((a.length : Int) < (b.length : Int)) = decide (a < b) := by
      rw [decide_eq_decide, this]; omega
    rw [h4]; exact hk

/-! ### Where a path is -/
def pos : List PrR → List UInt8 → Nat
  | [], _ => 0
  | x :: r, p => if x.p < p then pos r p + 1 else 0
theorem pos_le : ∀ (S : List PrR) (p : List UInt8), pos S p ≤ S.length
  | [], _ => Nat.le_refl _
  | x :: r, p => by unfold pos; split; have := pos_le r p; simp; omega; omega
theorem pos_eq {S : List PrR} {p : List UInt8} {i : Nat} (hi : i ≤ S.length) (h1 : ∀ j, (hj : j < S.length) → j < i → S[j].p < p) (h2 : (hj : i < S.length) → ¬ S[i].p < p) : pos S p = i := by
  induction S generalizing i with
  | nil => simp at hi; subst hi; rfl
  | cons x r ih =>
    unfold pos
    cases i with
    | zero => rw [if_neg (show ¬ x.p < p from h2 (by simp))]
    | succ i =>
      rw [if_pos (show x.p < p from h1 0 (by simp) (by omega)), ih (i := i) (by simpa using hi) (fun j hj hji => show r[j].p < p from h1 (j + 1) (by simpa using hj) (by omega)) (fun hj => show ¬ r[i].p < p from h2 (by simpa using hj))]
theorem posR_there {S : List PrR} (hu : Up S) {p : List UInt8} : (decide ((pos S p : Int) < (S.length : Int)) && (match S[pos S p]? with
    | some x => decide (x.p = p)
    | none => false)) = (look S p).isSome := by
  induction S with
  | nil => simp [pos, look]
  | cons x r ih =>
    obtain ⟨h1, h2⟩ := List.pairwise_cons.1 hu
    unfold pos look
    by_cases e : x.p < p
    · rw [if_pos e, if_neg (fun e2 => by rw [e2] at e; exact List.lt_irrefl _ e), List.getElem?_cons_succ, ← ih h2]
      congr 1
      rw [decide_eq_decide]; simp
    · rw [if_neg e]
      by_cases e2 : x.p = p
      · simp [e2]
      · have : look r p = none := look_none.2 fun y hy e3 => by
          have := h1 y hy
          rw [e3] at this; exact e this
        simp [e2, this]
theorem ins_pos {S : List PrR} (hu : Up S) (p v : List UInt8) : ins S p v = S.take (pos S p) ++ ⟨p, v⟩ :: S.drop (if (look S p).isSome = true then pos S p + 1 else pos S p) := by
  induction S with
  | nil => simp [ins, pos, look]
  | cons x r ih =>
    obtain ⟨h1, h2⟩ := List.pairwise_cons.1 hu
    unfold ins pos look
    by_cases e : x.p < p
    · have e3 : ¬ p < x.p := List.lt_asymm e
      have e4 : ¬ x.p = p := fun e2 => by rw [e2] at e; exact List.lt_irrefl _ e
      rw [if_pos e, if_neg e3, if_neg e4, if_neg e4, ih h2]
      split <;> simp
    · rw [if_neg e]
      by_cases e2 : x.p = p
      · rw [if_neg (fun h => by rw [e2] at h; exact List.lt_irrefl _ h), if_pos e2, if_pos e2]
        simp
      · have hp : p < x.p := lt_of_not e e2
        have : look r p = none := look_none.2 fun y hy e3 => by
          have := h1 y hy
          rw [e3] at this; exact e this
        rw [if_pos hp, if_neg e2, this]
        simp
theorem del_pos {S : List PrR} (hu : Up S) (p : List UInt8) : del S p = if (look S p).isSome = true then S.take (pos S p) ++ S.drop (pos S p + 1) else S := by
  induction S with
  | nil => simp [del, look]
  | cons x r ih =>
    obtain ⟨h1, h2⟩ := List.pairwise_cons.1 hu
    have hd : del (x :: r) p = if x.p = p then del r p else x :: del r p := by
      unfold del
      rw [List.filter_cons]
      by_cases e : x.p = p <;> simp [e]
    unfold pos look
    rw [hd]
    by_cases e2 : x.p = p
    · have : look r p = none := look_none.2 fun y hy e3 => by
        have := h1 y hy
        rw [e3, e2] at this; exact List.lt_irrefl _ this
      have hlt : ¬ x.p < p := fun h => by rw [e2] at h; exact List.lt_irrefl _ h
      rw [if_pos e2, if_pos e2, ih h2, this, if_neg hlt]
      simp
    · rw [if_neg e2, if_neg e2]
      by_cases e : x.p < p
      · rw [if_pos e, ih h2]
        split <;> simp
      · have : look r p = none := look_none.2 fun y hy e3 => by
          have := h1 y hy
          rw [e3] at this; exact e this
        rw [ih h2, this]
        simp

/-! ### The document's map -/
variable {mA : Option Addr} {mC : Nat} {v : List UInt8}
theorem cFindR (hl : SR EncPr h mA S) (hu : Up S) (hn : S.length ≤ 1000000) (hp : ∀ x ∈ S, x.p.length ≤ 1000000) (hk : K (.tuple #[.int .i64 (pos S p : Int), .bool (look S p).isSome]) h) : CallH Tryz.prog id_ref13_Map_find [.agg #[.slice mA S.length mC], .string (mk p)] K h := by
  refine F_ref13_Map_find_ok ⟨fun z h' => z.1 = (pos S p : Int) ∧ h' = h, ?_, ?_⟩
  · refine LoopP.ind (fun (z : Int × Unit) h' => ∃ i : Nat, z.1 = (i : Int) ∧ i ≤ S.length ∧ h' = h ∧ ∀ j, (hj : j < S.length) → j < i → S[j].p < p) (fun z _ => (S.length - z.1).toNat) ?_ ⟨0, rfl, Nat.zero_le _, rfl, fun _ _ h => absurd h (Nat.not_lt_zero _)⟩
    rintro ⟨_, u⟩ h1 ⟨i, rfl, hi, rfl, hj⟩
    dsimp only
    by_cases e : i < S.length
    · obtain ⟨b, o, hA, hr⟩ := hl.get e
      refine ⟨b, o, fun _ => ⟨hA, by omega, by omega⟩, mk S[i].p, fun _ => hr _ 0 1 (by simp [EncPr]) (by decide), fun _ => cLess (by have := hp _ (List.getElem_mem e); omega) ⟨_, rfl, fun e2 => ?_, fun e2 => ?_⟩, fun e2 => by simp at e2; omega⟩
      · have e2 : S[i].p < p := by simpa using e2
        rw [wrap64 (n := (i : Int) + 1) (by omega) (by omega)]
        refine ⟨⟨i + 1, rfl, by omega, rfl, fun j hj2 hji => ?_⟩, by omega⟩
        by_cases hji2 : j < i
        · exact hj j hj2 hji2
        · have : j = i := by omega
          subst this; exact e2
      · have e2 : ¬ S[i].p < p := by simpa using e2
        exact ⟨by rw [pos_eq hi hj fun _ => e2], rfl⟩
    · refine ⟨0, 0, fun e2 => by simp at e2; omega, mk [], fun e2 => by simp at e2; omega, fun e2 => by simp at e2; omega, fun _ => ⟨?_, rfl⟩⟩
      rw [pos_eq hi hj fun h => absurd h e]
  · rintro ⟨_, u⟩ h1 ⟨e, rfl⟩
    dsimp only at e ⊢
    subst e
    have hth := posR_there (p := p) hu
    by_cases e : pos S p < S.length
    · obtain ⟨b, o, hA, hr⟩ := hl.get e
      refine ⟨b, o, fun _ => ⟨hA, by omega, by omega⟩, mk S[pos S p].p, fun _ => hr _ 0 1 (by simp [EncPr]) (by decide), ?_⟩
      rw [List.getElem?_eq_getElem e] at hth
      rw [strEq_mk', hth]; exact hk
    · refine ⟨0, 0, fun e2 => by simp at e2; omega, mk [], fun e2 => by simp at e2; omega, ?_⟩
      have hno : decide ((pos S p : Int) < (S.length : Int)) = false := by simp; omega
      rw [hno, Bool.false_and] at hth ⊢
      rw [hth]; exact hk
/-- what the document's map is in memory -/
structure RfAt (h : PH) (a : Option Addr) (c : Nat) (S : List PrR) : Prop where
  sr : SR EncPr h a S
  le : S.length ≤ c
  up : Up S
  n : S.length ≤ 1000
  p : ∀ x ∈ S, x.p.length ≤ 1000000
theorem RfAt.sub {g : PH} (x : RfAt h mA mC S) (s : h.Sub g) : RfAt g mA mC S := ⟨x.sr.sub s, x.le, x.up, x.n, x.p⟩
theorem cWith (hx : RfAt h mA mC S) (hn : S.length ≤ 900) (hp : p.length ≤ 1000000) (hk : ∀ a c h', RfAt h' a c (ins S p v) → h.Sub h' → K (.agg #[.slice a (ins S p v).length c]) h') : CallH Tryz.prog id_ref13_Map_With [.agg #[.slice mA S.length mC], .string (mk p), .string (mk v)] K h := by
  have hle := hx.le
  have hpl := pos_le S p
  have hres : ∀ a c h' B', Buf EncPr T_api_Pair B' h' a (ins S p v).length c (ins S p v) → Chg [] B' h h' → K (.agg #[.slice a (ins S p v).length c]) h' := fun a c h' B' hb hc => by
    refine hk a c h' ⟨hb.sr, hb.le, hx.up.ins _ _, ?_, fun y hy => ?_⟩ hc.sub0
    · rw [ins_len _ _ _ hx.up]; split <;> omega
    · rcases ins_mem hy with rfl | hy
      · exact hp
      · exact hx.p y hy
  refine F_ref13_Map_With_ok (cFindR hx.sr hx.up (by omega) hx.p ⟨_, _, rfl, ⟨by omega, by omega, by omega, by omega⟩, EncPr.row ((S.drop 0).take (pos S p - 0)), ?_, ?_⟩)
  · exact hx.sr.part (lo := 0) (hi := pos S p) rfl (by omega) (by omega) (by simp; omega)
  · refine (Buf.nil EncPr T_api_Pair h none).append (new := (S.drop 0).take (pos S p - 0)) (by simp <;> omega) rfl rfl (by simp <;> omega) ?_
    intro a1 k1 B1 h1 b1 c1 _
    refine b1.append (new := [⟨p, v⟩]) rfl rfl rfl (by simp; omega) ?_
    intro a2 k2 B2 h2 b2 c2 _
    have c12 := c1.trans c2
    have hrow : ([] : List PrR) ++ (S.drop 0).take (pos S p - 0) ++ [⟨p, v⟩] = S.take (pos S p) ++ [⟨p, v⟩] := by simp
    rw [hrow] at b2
    have hlen : 0 + ((pos S p : Int).toNat - (0 : Int).toNat) + 1 = pos S p + 1 := by simp
    have hins := ins_pos hx.up p v
    refine ⟨fun e => ?_, fun e => ?_⟩
    · rw [e, if_pos rfl] at hins
      have hlt : pos S p < S.length := by
        have := posR_there (p := p) hx.up
        rw [e] at this
        simp only [Bool.and_eq_true, decide_eq_true_eq] at this
        omega
      rw [wrap64 (n := (pos S p : Int) + 1) (by omega) (by omega)]
      refine ⟨⟨by omega, by omega, by omega, by omega⟩, EncPr.row ((S.drop (pos S p + 1)).take (S.length - (pos S p + 1))), ?_, ?_⟩
      · have := (hx.sr.sub c12.sub0).part (mx := ((mC : Nat) : Int)) (L := (pos S p : Int) + 1) (lo := pos S p + 1) (hi := S.length) (by omega) (by omega) (by omega) (by omega)
        rw [show ((S.length : Nat) : Int).toNat - ((pos S p : Int) + 1).toNat = S.length - (pos S p + 1) by omega]
        exact this
      · refine b2.append (new := (S.drop (pos S p + 1)).take (S.length - (pos S p + 1))) (by simp <;> omega) rfl rfl (by simp <;> omega) ?_
        intro a3 k3 B3 h3 b3 c3 _
        rw [List.take_of_length_le (l := S.drop (pos S p + 1)) (by simp)] at b3
        have hf : S.take (pos S p) ++ [⟨p, v⟩] ++ S.drop (pos S p + 1) = ins S p v := by rw [hins]; simp
        rw [hf] at b3
        have hn3 := b3.1
        rw [hn3] at b3 ⊢
        exact hres a3 k3 h3 B3 b3 (c12.trans c3)
    · rw [e] at hins
      simp only [Bool.false_eq_true, if_false] at hins
      refine ⟨⟨by omega, by omega, by omega, by omega⟩, EncPr.row ((S.drop (pos S p)).take (S.length - pos S p)), ?_, ?_⟩
      · have := (hx.sr.sub c12.sub0).part (mx := ((mC : Nat) : Int)) (L := (pos S p : Int)) (lo := pos S p) (hi := S.length) (by omega) (by omega) (by omega) (by omega)
        rw [show ((S.length : Nat) : Int).toNat - (pos S p : Int).toNat = S.length - pos S p by omega]
        exact this
      · refine b2.append (new := (S.drop (pos S p)).take (S.length - pos S p)) (by simp) rfl rfl (by simp; omega) ?_
        intro a3 k3 B3 h3 b3 c3 _
        rw [List.take_of_length_le (l := S.drop (pos S p)) (by simp)] at b3
        have hf : S.take (pos S p) ++ [⟨p, v⟩] ++ S.drop (pos S p) = ins S p v := by rw [hins]; simp
        rw [hf] at b3
        have hn3 := b3.1
        rw [hn3] at b3 ⊢
        exact hres a3 k3 h3 B3 b3 (c12.trans c3)
theorem cWithout (hx : RfAt h mA mC S) (hk : ∀ a c h', RfAt h' a c (del S p) → h.Sub h' → K (.agg #[.slice a (del S p).length c]) h') : CallH Tryz.prog id_ref13_Map_Without [.agg #[.slice mA S.length mC], .string (mk p)] K h := by
  have hle := hx.le
  have hpl := pos_le S p
  have hl1000 := hx.n
  have hd := del_pos hx.up p
  have hres : ∀ a c h' B', Buf EncPr T_api_Pair B' h' a (del S p).length c (del S p) → Chg [] B' h h' → K (.agg #[.slice a (del S p).length c]) h' := fun a c h' B' hb hc =>
    hk a c h' ⟨hb.sr, hb.le, hx.up.del _, Nat.le_trans (del_len _ _) hx.n, fun y hy => hx.p y (List.mem_filter.1 hy).1⟩ hc.sub0
  refine F_ref13_Map_Without_ok (cFindR hx.sr hx.up (by omega) hx.p ⟨_, _, rfl, fun e => ?_, fun e => ?_⟩)
  · have e : (look S p).isSome = false := by simpa using e
    rw [e] at hd
    simp only [Bool.false_eq_true, if_false] at hd
    rw [hd] at hk
    exact hk mA mC h hx fun _ _ e => e
  · have e : (look S p).isSome = true := by simpa using e
    rw [e, if_pos rfl] at hd
    have hlt : pos S p < S.length := by
      have := posR_there (p := p) hx.up
      rw [e] at this
      simp only [Bool.and_eq_true, decide_eq_true_eq] at this
      omega
    refine ⟨⟨by omega, by omega, by omega, by omega⟩, EncPr.row ((S.drop 0).take (pos S p - 0)), hx.sr.part (lo := 0) (hi := pos S p) rfl (by omega) (by omega) (by simp; omega), ?_⟩
    refine (Buf.nil EncPr T_api_Pair h none).append (new := (S.drop 0).take (pos S p - 0)) (by simp <;> omega) rfl rfl (by simp <;> omega) ?_
    intro a1 k1 B1 h1 b1 c1 _
    have hrow : ([] : List PrR) ++ (S.drop 0).take (pos S p - 0) = S.take (pos S p) := by simp
    rw [hrow] at b1
    rw [wrap64 (n := (pos S p : Int) + 1) (by omega) (by omega)]
    refine ⟨⟨by omega, by omega, by omega, by omega⟩, EncPr.row ((S.drop (pos S p + 1)).take (S.length - (pos S p + 1))), ?_, ?_⟩
    · have := (hx.sr.sub c1.sub0).part (mx := ((mC : Nat) : Int)) (L := (pos S p : Int) + 1) (lo := pos S p + 1) (hi := S.length) (by omega) (by omega) (by omega) (by omega)
      rw [show ((S.length : Nat) : Int).toNat - ((pos S p : Int) + 1).toNat = S.length - (pos S p + 1) by omega]
      exact this
    · refine b1.append (new := (S.drop (pos S p + 1)).take (S.length - (pos S p + 1))) (by simp <;> omega) rfl rfl (by simp <;> omega) ?_
      intro a3 k3 B3 h3 b3 c3 _
      rw [List.take_of_length_le (l := S.drop (pos S p + 1)) (by simp), ← hd] at b3
      have hn3 := b3.1
      rw [hn3] at b3 ⊢
      exact hres a3 k3 h3 B3 b3 (c1.trans c3)
theorem cRGet (hx : RfAt h mA mC S) (hk : K (.tuple #[.string (mk ((look S p).getD [])), .bool (look S p).isSome]) h) : CallH Tryz.prog id_ref13_Map_Get [.agg #[.slice mA S.length mC], .string (mk p)] K h := by
  have hl1000 := hx.n
  refine F_ref13_Map_Get_ok (cFindR hx.sr hx.up (by omega) hx.p ⟨_, _, rfl, fun e => ?_, fun e => ?_⟩)
  · have e : look S p = none := by
      cases hl : look S p with
      | none => rfl
      | some y => rw [hl] at e; simp at e
    rw [e] at hk; exact hk
  · have e : (look S p).isSome = true := by simpa using e
    have hth := posR_there (p := p) hx.up
    rw [e] at hth
    simp only [Bool.and_eq_true, decide_eq_true_eq] at hth
    have hlt : pos S p < S.length := by omega
    rw [List.getElem?_eq_getElem hlt] at hth
    have hpp : S[pos S p].p = p := by simpa using hth.2
    have hlk := look_of_mem hx.up (List.getElem_mem hlt)
    rw [hpp] at hlk
    rw [hlk] at hk
    obtain ⟨b, o, hA, hr⟩ := hx.sr.get hlt
    exact ⟨b, o, ⟨hA, by omega, by omega⟩, mk S[pos S p].v, hr _ 1 1 (by simp [EncPr]) (by decide), hk⟩
end TL

namespace TL
open Go Go.Proofs
variable {h : PH} {K : Value → PH → Prop} {p v : List UInt8} {lA : Option Addr} {lC : Nat} {l : List PrR}

theorem u8_of {n : Nat} (hn : n < 256) : ((UInt8.ofNat n).toNat : Int) = (n : Int) := by
  rw [UInt8.toNat_ofNat', Nat.mod_eq_of_lt (by omega)]
theorem cNum12 {n : Nat} (hn : n < 18446744073709551616) (hk : ∀ h', h.Sub h' → K (.string (mk (numL n))) h') : CallH Tryz.prog id_ref12_Num [.int .u64 (n : Int)] K h := by
  refine F_ref12_Num_ok (LoopP.ind (fun (z : ByteArray × Int × Unit) h' => ∃ (s : List UInt8) (m : Nat), z.1 = mk s ∧ z.2.1 = m ∧ m < 18446744073709551616 ∧ s ++ numL m = numL n ∧ h.Sub h') (fun z _ => z.2.1.toNat) ?_ ⟨[], n, rfl, rfl, hn, rfl, PH.Sub.rf _⟩)
  rintro ⟨zs, zm, u⟩ h1 ⟨s, m, hzs, hzm, hm, he, s1⟩
  dsimp only at hzs hzm
  subst hzs hzm
  dsimp only
  have hlen := numL_le hn
  have hsl : s.length + (numL m).length ≤ 10 := by rw [← he] at hlen; simpa using hlen
  refine ⟨fun e => ?_, fun e => ?_⟩
  · have e : 128 ≤ m := by simp at e; omega
    have t1 : ((m : Nat) : Int).tmod 128 = ((m % 128 : Nat) : Int) := by rw [Int.tmod_eq_emod_of_nonneg (by omega)]; omega
    have t2 : ((m : Nat) : Int).tdiv 128 = ((m / 128 : Nat) : Int) := by rw [Int.tdiv_eq_ediv_of_nonneg (by omega)]; omega
    have w1 : IntKind.wrap .u8 (IntKind.wrap .u64 ((((m : Nat) : Int).tmod 128) + 128)) = ((UInt8.ofNat (128 + m % 128)).toNat : Int) := by
      rw [t1, wrap_u64 (by omega) (by omega), u8_of (by omega)]
      simp [IntKind.wrap, IntKind.bits, IntKind.signed]; omega
    rw [w1, t2, wrap_u64 (by omega) (by omega)]
    refine nwL fun b h2 _ hb2 c2 => ⟨_, SR.oneB hb2, ?_, ⟨s ++ [UInt8.ofNat (128 + m % 128)], m / 128, by rw [mk_append], rfl, by omega, ?_, s1.tr c2.sub0⟩, by omega⟩
    · rw [size_mk, size_mk]; simp; omega
    · rw [← he, numL_step hm e, List.append_assoc]; rfl
  · have e : m < 128 := by simp at e; omega
    have w1 : IntKind.wrap .u8 ((m : Nat) : Int) = ((UInt8.ofNat m).toNat : Int) := by
      rw [u8_of (by omega)]; simp [IntKind.wrap, IntKind.bits, IntKind.signed]; omega
    rw [w1]
    refine nwL fun b h2 _ hb2 c2 => ⟨_, SR.oneB hb2, ?_, ?_⟩
    · rw [size_mk, size_mk]; simp; omega
    · rw [mk_append, show s ++ [UInt8.ofNat m] = numL n by rw [← he, numL_small e]]
      exact hk _ (s1.tr c2.sub0)
theorem cText12 (hp : p.length ≤ 1000000) (hk : ∀ h', h.Sub h' → K (.string (mk (textL p))) h') : CallH Tryz.prog id_ref12_Text [.string (mk p)] K h := by
  refine F_ref12_Text_ok ?_
  unfold F_ref12_Text
  rw [size_mk, wrap_u64 (by omega) (by omega)]
  refine cNum12 (by omega) fun h1 s1 => ⟨_, rfl, ?_, ?_⟩
  · have := numL_le (n := p.length) (by omega)
    rw [size_mk]; omega
  · rw [mk_append]; exact hk h1 s1
theorem cROf14 (hp : p.length ≤ 1000000) (hk : ∀ h', h.Sub h' → K (.int .i64 (bkt p : Nat)) h') : CallH Tryz.prog id_ref14_Of [.string (mk p)] K h := by
  refine F_ref14_Of_ok (cRSum hp fun h1 s1 => ⟨bi (shaN p), by rw [bi_len, shaN_len], rfl, ?_⟩)
  have hne : shaN p ≠ [] := fun e => by have := shaN_len p; rw [e] at this; simp at this
  have hlt : ((shaN p).getD 0 0).toNat < 256 := UInt8.toNat_lt _
  have : IntKind.wrap .i64 ((IntKind.wrap .i64 (((bi (shaN p)).take 1).getD 0 0)).tdiv (16 : Int)) = ((bkt p : Nat) : Int) := by
    have e1 : IntKind.wrap .i64 ((((shaN p).getD 0 0).toNat : Nat) : Int) = ((((shaN p).getD 0 0).toNat : Nat) : Int) := wrap64 (by omega) (by omega)
    rw [bi_get _ hne, e1, Int.tdiv_eq_ediv_of_nonneg (by omega), wrap64 (by omega) (by omega)]
    unfold bkt; omega
  rw [this]
  exact hk h1 s1
theorem may_take {l : List PrR} {k : Nat} (h : mayB l = true) : mayB (l.take k) = true := by
  obtain ⟨h1, h2⟩ := may_ok h
  simp only [mayB, Bool.and_eq_true, List.all_eq_true, decide_eq_true_eq]
  exact ⟨fun x hx => h1 x (List.mem_of_mem_take hx), h2.sublist (List.take_sublist _ _)⟩
theorem cRMay (hl : SR EncPr h lA l) (hn : l.length ≤ 1000000) (hs : ∀ x ∈ l, x.p.length ≤ 1000000) (hk : K (.bool (mayB l)) h) : CallH Tryz.prog id_ref14_May [.slice lA l.length lC] K h := by
  refine F_ref14_May_ok (LoopP.ind (fun (z : Int × Unit) h' => ∃ k : Nat, z.1 = k ∧ k ≤ l.length ∧ h' = h ∧ mayB (l.take k) = true) (fun z _ => (l.length - z.1).toNat) ?_ ⟨0, rfl, by omega, rfl, by simp [mayB, Up]⟩)
  rintro ⟨zi, u⟩ h1 ⟨k, hzi, hkl, rfl, hm⟩
  dsimp only at hzi
  subst hzi
  dsimp only
  refine ⟨fun e => ?_, fun e => ?_⟩
  · have e : k < l.length := by simpa using e
    have hit : ((k : Nat) : Int).toNat = k := by omega
    have hmem := List.getElem_mem e
    obtain ⟨b, o, hA, hr⟩ := hl.get e
    have no : (okPr l[k] = false ∨ ¬ Up (l.take (k + 1))) → K (.bool false) h1 := fun hno => by
      have : mayB l = false := by
        cases hml : mayB l with
        | false => rfl
        | true =>
          obtain ⟨h1, h2⟩ := may_ok hml
          rcases hno with h | h
          · rw [h1 _ hmem] at h; cases h
          · exact absurd (h2.sublist (List.take_sublist _ _)) h
      rw [this] at hk; exact hk
    have yes : okPr l[k] = true → Up (l.take (k + 1)) → mayB (l.take (k + 1)) = true := fun h1 h2 => by
      simp only [mayB, Bool.and_eq_true, List.all_eq_true, decide_eq_true_eq]
      refine ⟨fun x hx => ?_, h2⟩
      rw [← List.take_append_getElem e] at hx
      rcases List.mem_append.1 hx with hx | hx
      · exact (may_ok hm).1 x hx
      · rw [List.mem_singleton] at hx; subst hx; exact h1
    have hw : IntKind.wrap .i64 (((k : Nat) : Int) + (1 : Int)) = ((k + 1 : Nat) : Int) := by rw [wrap64] <;> omega
    rw [hit, hw]
    refine ⟨b, o, ⟨hA, by omega, by omega⟩, _, hr _ 0 1 rfl (by decide), cRCut (by have := hs _ hmem; omega) ⟨_, _, _, rfl, b, o, fun _ => ⟨hA, by omega, by omega⟩, mk l[k].v, fun _ => hr _ 1 1 rfl (by decide), fun e2 => ?_, fun e2 => ?_⟩⟩
    · refine no (.inl ?_)
      rw [size_mk] at e2
      unfold okPr
      cases hc : (cutV l[k].p).2.2 with
      | false => rfl
      | true => rw [hc] at e2; simp at e2 ⊢; omega
    · have hok : okPr l[k] = true := by
        rw [size_mk] at e2
        unfold okPr
        cases hc : (cutV l[k].p).2.2 with
        | false => rw [hc] at e2; simp at e2
        | true => rw [hc] at e2; simp at e2 ⊢; omega
      by_cases e0 : k = 0
      · subst e0
        refine ⟨0, 0, fun e => by simp at e, mk [], fun e => by simp at e, 0, 0, fun e => by simp at e, mk [], fun e => by simp at e, fun e => by simp at e, fun _ => ⟨⟨1, rfl, by omega, rfl, yes hok ?_⟩, by omega⟩⟩
        cases l with
        | nil => simp at e
        | cons x r => simp [Up]
      · have ek : k - 1 < l.length := by omega
        obtain ⟨b2, o2, hA2, hr2⟩ := hl.get ek
        have hw1 : IntKind.wrap .i64 (((k : Nat) : Int) - (1 : Int)) = ((k - 1 : Nat) : Int) := by rw [wrap64] <;> omega
        have hit1 : ((k - 1 : Nat) : Int).toNat = k - 1 := by omega
        rw [hw1, hit1]
        refine ⟨b2, o2, fun _ => ⟨hA2, by omega, by omega⟩, mk l[k - 1].p, fun _ => hr2 _ 0 1 rfl (by decide), b, o, fun _ => ⟨hA, by omega, by omega⟩, mk l[k].p, fun _ => hr _ 0 1 rfl (by decide), fun _ => cLess (by have := hs _ (List.getElem_mem ek); omega) ⟨_, rfl, fun e3 => ?_, fun e3 => ?_⟩, fun e => by simp at e; omega⟩
        · have e3 : ¬ l[k - 1].p < l[k].p := by simpa using e3
          refine no (.inr fun hu => e3 ?_)
          have := List.pairwise_iff_getElem.1 hu (k - 1) k (by rw [List.length_take]; omega) (by rw [List.length_take]; omega) (by omega)
          simpa using this
        · have e3 : l[k - 1].p < l[k].p := by simpa using e3
          refine ⟨⟨k + 1, rfl, by omega, rfl, yes hok ?_⟩, by omega⟩
          rw [← List.take_append_getElem e]
          refine up_snoc (may_ok hm).2 fun y hy => ?_
          have hlast : (l.take k).getLast? = some l[k - 1] := by
            rw [List.getLast?_eq_getElem?, List.length_take, Nat.min_eq_left (by omega), List.getElem?_take, if_pos (by omega), List.getElem?_eq_getElem ek]
          rw [hlast] at hy; cases hy
          exact e3
  · have e : k = l.length := by simp at e; omega
    subst e
    rw [List.take_length] at hm
    rw [hm] at hk; exact hk
theorem cRPart {i : Nat} (hl : SR EncPr h lA l) (hn : l.length ≤ 1000000) (hs : ∀ x ∈ l, x.p.length ≤ 1000000) (hk : ∀ a' c' B' h', Buf EncPr T_api_Pair B' h' a' (partB l i).length c' (partB l i) → Chg [] B' h h' → K (.slice a' (partB l i).length c') h') :
    CallH Tryz.prog id_ref14_Part [.slice lA l.length lC, .int .i64 (i : Int)] K h := by
  refine F_ref14_Part_ok (LoopP.ind (fun (z : (Option Addr × Nat × Nat) × Int × Unit) h' => ∃ (k : Nat) (B' : List Nat), z.2.1 = k ∧ k ≤ l.length ∧ Buf EncPr T_api_Pair B' h' z.1.1 z.1.2.1 z.1.2.2 (partB (l.take k) i) ∧ Chg [] B' h h') (fun z _ => (l.length - z.2.1).toNat) ?_ ⟨0, [], rfl, by omega, Buf.nil _ _ _ _, Chg.refl _ _⟩)
  rintro ⟨⟨oA, oN, oC⟩, zi, u⟩ h1 ⟨k, B1, hzi, hi, hb, hc⟩
  dsimp only at hzi hb
  subst hzi
  dsimp only
  refine ⟨fun e => ?_, fun e => ?_⟩
  · have e : k < l.length := by simpa using e
    have hit : ((k : Nat) : Int).toNat = k := by omega
    obtain ⟨b, o, hA, hr⟩ := (hl.sub hc.sub0).get e
    have hm := List.getElem_mem e
    have hsn : l.take (k + 1) = l.take k ++ [l[k]] := (List.take_append_getElem e).symm
    have hon : oN ≤ k := by
      rw [hb.1]
      refine Nat.le_trans (List.length_filter_le _ _) ?_
      rw [List.length_take]; omega
    rw [hit]
    refine ⟨b, o, ⟨hA, by omega, by omega⟩, _, hr _ 0 1 rfl (by decide), cROf14 (hs _ hm) fun h2 s2 => ⟨_, rfl, fun e2 => ?_, fun e2 => ?_⟩⟩
    · have e2 : bkt l[k].p = i := by simp at e2; omega
      have hb2 := hb.sub s2
      refine ⟨b, o, ⟨hA, by omega, by omega⟩, _, _, rds_sub s2 (hr _ 0 2 rfl (by decide)), hb2.append (new := [l[k]]) rfl rfl rfl (by omega) fun a' c' B' h' hb' hc' _ => ⟨⟨k + 1, B', by rw [wrap64] <;> omega, by omega, ?_, (hc.onto s2).trans hc'⟩, by rw [wrap64] <;> omega⟩⟩
      have : partB (l.take (k + 1)) i = partB (l.take k) i ++ [l[k]] := by
        unfold partB; rw [hsn, List.filter_append]; simp [e2]
      rw [this]; exact hb'
    · have e2 : bkt l[k].p ≠ i := by simp at e2; omega
      refine ⟨⟨k + 1, B1, by rw [wrap64] <;> omega, by omega, ?_, hc.onto s2⟩, by rw [wrap64] <;> omega⟩
      have : partB (l.take (k + 1)) i = partB (l.take k) i := by
        unfold partB; rw [hsn, List.filter_append]; simp [e2]
      rw [this]; exact hb.sub s2
  · have e : k = l.length := by simp at e; omega
    rw [e, List.take_length] at hb
    have := hb.1
    subst this
    exact hk _ _ _ _ hb hc
/-- a page, whatever pairs there are: what Page tells -/
theorem cRPage {i : Nat} (hi : i < 16) (hl : SR EncPr h lA l) (hn : l.length ≤ 1000) (hs : ∀ x ∈ l, x.p.length ≤ 1000000) (hk : ∀ h', h.Sub h' → K (.tuple #[.string (mk (pageV i l).1), .int .i64 ((pageV i l).2 : Nat)]) h') :
    CallH Tryz.prog id_ref14_Page [.int .i64 (i : Int), .slice lA l.length lC] K h := by
  have hno : ¬ (mayB l = true ∧ (partB l i).length = l.length) → ∀ h', h.Sub h' → K (.tuple #[.string (⟨#[]⟩ : ByteArray), .int .i64 (1 : Int)]) h' := fun hn h' s => by
    have := hk h' s
    unfold pageV at this; rw [if_neg hn] at this; exact this
  refine F_ref14_Page_ok ⟨fun _ h' => h' = h ∧ mayB l = true, ⟨fun _ => cRMay hl (by omega) hs ⟨_, rfl, fun e => hno (fun hh => by rw [hh.1] at e; cases e) _ (PH.Sub.rf _), fun e => ⟨rfl, by simpa using e⟩⟩, fun e => by simp at e; omega⟩, ?_⟩
  rintro u h1 ⟨rfl, hm⟩
  obtain ⟨hok, _⟩ := may_ok hm
  rw [wrap_u64 (by omega) (by omega)]
  have hnl := numL_le (n := l.length) (by omega)
  refine cNum12 (by omega) fun h2 s2 => ⟨_, rfl, LoopP.ind (fun (z : ByteArray × Int × Unit) h' => ∃ k : Nat, z.1 = mk (numL l.length ++ (l.take k).flatMap prL) ∧ z.2.1 = k ∧ k ≤ l.length ∧ h1.Sub h' ∧ (∀ x ∈ l.take k, bkt x.p = i) ∧ ((l.take k).flatMap prL).length ≤ k * 200) (fun z _ => (l.length - z.2.1).toNat) ?_ ⟨0, by simp, rfl, by omega, s2, by simp, by simp⟩⟩
  rintro ⟨zs, zi, u⟩ h3 ⟨k, hzs, hzi, hkl, s3, hb, hlen⟩
  dsimp only at hzs hzi
  subst hzs hzi
  dsimp only
  refine ⟨fun e => ?_, fun e => ?_⟩
  · have e : k < l.length := by simpa using e
    have hit : ((k : Nat) : Int).toNat = k := by omega
    obtain ⟨b, o, hA, hr⟩ := (hl.sub s3).get e
    have hmem := List.getElem_mem e
    obtain ⟨o1, o2⟩ := ok_len (hok _ hmem)
    have n1 := numL_le (n := l[k].p.length) (by omega)
    have n2 := numL_le (n := l[k].v.length) (by omega)
    have hw : IntKind.wrap .i64 (((k : Nat) : Int) + (1 : Int)) = ((k + 1 : Nat) : Int) := by rw [wrap64] <;> omega
    rw [hit, hw]
    have hr1 := hr (o + k * 2) 0 1 rfl (by decide)
    have hr2 := hr (o + k * 2 + 1) 1 1 rfl (by decide)
    refine ⟨b, o, ⟨hA, by omega, by omega⟩, _, hr1, cROf14 (by omega) fun h4 s4 => ⟨_, rfl, fun e2 => ?_, fun e2 => ?_⟩⟩
    · have e2 : bkt l[k].p ≠ i := by simp at e2; omega
      refine hno (fun hh => ?_) _ (s3.tr s4)
      have : (partB l i) = l := List.filter_eq_self.2 (List.length_filter_eq_length_iff.1 hh.2)
      have := List.length_filter_eq_length_iff.1 hh.2 _ hmem
      simp at this; exact e2 this
    · have e2 : bkt l[k].p = i := by simp at e2; omega
      refine ⟨b, o, ⟨hA, by omega, by omega⟩, _, rds_sub s4 hr1, b, o, ⟨hA, by omega, by omega⟩, _, rds_sub s4 hr2, cText12 (by omega) fun h5 s5 => ⟨_, rfl, rds_sub (s4.tr s5) hr2, ?_, cText12 (by omega) fun h6 s6 => ⟨_, rfl, ?_, ⟨k + 1, ?_, rfl, by omega, ((s3.tr s4).tr s5).tr s6, ?_, ?_⟩, by omega⟩⟩⟩
      · rw [size_mk, size_mk]; simp only [List.length_append, textL]; omega
      · rw [mk_append, size_mk, size_mk]; simp only [List.length_append, textL]; omega
      · rw [mk_append, mk_append, ← List.take_append_getElem e, List.flatMap_append]; simp [prL]
      · intro x hx
        rw [← List.take_append_getElem e] at hx
        rcases List.mem_append.1 hx with hx | hx
        · exact hb x hx
        · rw [List.mem_singleton] at hx; subst hx; exact e2
      · rw [← List.take_append_getElem e, List.flatMap_append]
        simp only [List.length_append, List.flatMap_cons, List.flatMap_nil, List.length_nil, prL, textL]; omega
  · have e : k = l.length := by simp at e; omega
    subst e
    rw [List.take_length] at hb
    have hp : (partB l i).length = l.length := by rw [part_all hb]
    have hkk := hk h3 s3
    unfold pageV at hkk
    rw [if_pos ⟨hm, hp⟩] at hkk
    refine ⟨fun e => ?_, fun e => ?_⟩
    · rw [if_neg (by simp at e; omega)] at hkk; exact hkk
    · rw [if_pos (by simp at e; omega)] at hkk
      rw [List.take_length]; exact hkk
end TL

namespace TL
open Go Go.Proofs
variable {h : PH} {K : Value → PH → Prop} {p v : List UInt8} {lA : Option Addr} {lC : Nat} {l : List PrR}

theorem Chg.post {B B' : List Nat} {h g k : PH} (c : Chg B B' h g) (s : g.Sub k) : Chg B B' h k := ⟨fun b o hb e => s b o (c.1 b o hb e), c.2⟩
theorem cLeafText {i : Nat} (hi : i < 16) (hl : SR EncPr h lA l) (hm : mayB l = true) (h48 : l.length ≤ 48) (hk : ∀ h', h.Sub h' → K (.string (mk (leafT l i))) h') :
    CallH Tryz.prog id_ref15_LeafText [.slice lA l.length lC, .int .i64 (i : Int)] K h := by
  have hs : ∀ x ∈ l, x.p.length ≤ 1000000 := fun x hx => by have := ok_len ((may_ok hm).1 x hx); omega
  have hp := part_ok hm h48 i
  refine F_ref15_LeafText_ok (cRPart hl (by omega) hs fun a' c' B' h' hb hc => ⟨_, _, _, rfl, cRPage hi hb.sr (by have := hp.2.2; omega) (fun x hx => by have := ok_len ((may_ok hp.1).1 x hx); omega) fun h2 s2 => ⟨_, _, rfl, ?_, ?_⟩⟩)
  · have := page_len hp
    rw [page_ok hp, size_mk]; show ((1 + (pageL (partB l i)).length : Nat) : Int) ≤ _; omega
  · rw [page_ok hp, show (⟨#[76]⟩ : ByteArray) = mk [76] from rfl, mk_append]
    exact hk h2 (hc.sub0.tr s2)
abbrev H32 : Type := {x : List UInt8 // x.length = 32}
def EncH : Enc H32 where
  enc x := (bi x.1).map (Value.int .u8)
  k := 32
  len x := by rw [List.length_map, bi_len, x.2]
  one x v hv := by
    obtain ⟨n, _, rfl⟩ := List.mem_map.1 hv
    rfl
  pos := by decide
structure SlR where
  a : Option Addr
  n : Nat
  c : Nat
def EncSl : Enc SlR where
  enc r := [.slice r.a r.n r.c]
  k := 1
  len _ := rfl
  one o v hv := by
    simp only [List.mem_cons, List.not_mem_nil, or_false] at hv
    rcases hv with rfl; rfl
  pos := by decide
def nodeH (S : List PrR) (c : Nat) : H32 := ⟨nd S c, nd_len S c⟩
def lvRow (S : List PrR) (j m : Nat) : List H32 := (List.range m).map fun i => nodeH S (2 ^ j + i)
theorem lvRow_len (S : List PrR) (j m : Nat) : (lvRow S j m).length = m := by simp [lvRow]
theorem lvRow_get (S : List PrR) (j m i : Nat) (h : i < (lvRow S j m).length) : (lvRow S j m)[i] = nodeH S (2 ^ j + i) := by simp [lvRow]
theorem lvRow_succ (S : List PrR) (j m : Nat) : lvRow S j (m + 1) = lvRow S j m ++ [nodeH S (2 ^ j + m)] := by simp [lvRow, List.range_succ]
theorem set_range {α : Type} (f : Nat → α) {m k : Nat} (_ : k < m) (x : α) : ((List.range m).map f).set k x = (List.range m).map (upF f k x) := by
  apply List.ext_getElem
  · simp
  · intro i h1 h2
    simp only [List.getElem_set, List.getElem_map, List.getElem_range]
    unfold upF
    by_cases e : k = i
    · rw [if_pos e, if_pos e.symm]
    · rw [if_neg e, if_neg (Ne.symm e)]
/-- the block of five rows -/
def LvB (h : PH) (bv : Nat) (f : Nat → SlR) : Prop := ∃ T, Buf EncSl T [bv] h (some ⟨bv, 0, none⟩) 5 5 ((List.range 5).map f)
variable {bv : Nat} {f : Nat → SlR}
theorem LvB.get (x : LvB h bv f) {j o : Nat} (hj : j < 5) (ho : o = j) : h.rds bv o 1 = some [.slice (f j).a (f j).n (f j).c] := by
  obtain ⟨T, x⟩ := x
  have hlen : j < ((List.range 5).map f).length := by simpa using hj
  obtain ⟨b, o2, hA, hr⟩ := x.sr.get hlen
  cases hA
  have := hr o 0 1 (by show o = 0 + j * 1 + 0; omega) (by decide)
  simpa [EncSl] using this
theorem LvB.set (x : LvB h bv f) {j o : Nat} {r : SlR} {K : PH → Prop} (hj : j < 5) (ho : o = j) (hk : ∀ h', LvB h' bv (upF f j r) → Chg [bv] [bv] h h' → K h') : stH h bv o [.slice r.a r.n r.c] K := by
  obtain ⟨T, x⟩ := x
  refine x.setAt (i := j) (f := 0) (y := r) (vs := [.slice r.a r.n r.c]) (by simpa using hj) rfl (by show o = 0 + j * 1 + 0; omega) rfl (Nat.le_refl 1) fun h' x' c => hk h' ⟨T, ?_⟩ c
  rw [← set_range f hj]; exact x'
theorem LvB.there (x : LvB h bv f) : ∃ o, h bv = some o := by
  obtain ⟨T, _, ⟨h0, _⟩ | ⟨b', tail, ha, hB, hcell, _⟩⟩ := x
  · cases h0
  · cases ha; exact ⟨_, hcell⟩
theorem LvB.keep {h' : PH} (x : LvB h bv f) (e : ∀ o, h bv = some o → h' bv = some o) : LvB h' bv f := by
  obtain ⟨T, x⟩ := x
  exact ⟨T, x.keep fun b hb _ e2 => by simp at hb; subst hb; exact e _ e2⟩
theorem LvB.sub {h' : PH} (x : LvB h bv f) (s : h.Sub h') : LvB h' bv f := x.keep fun _ e => s _ _ e
def isIntV : Value → Bool
  | .int _ _ => true
  | _ => false
theorem LvB.quiet (x : LvB h bv f) : ∀ b ∈ [bv], ∀ cs T fr, h b = some (.cells cs T fr) → ∀ v ∈ cs.toList, isIntV v = false := fun b hb _ _ _ e v hv => by
  simp at hb; subst hb
  obtain ⟨T', _, ⟨h0, _⟩ | ⟨b', tail, ha, hB, hcell, htl, _⟩⟩ := x
  · cases h0
  · cases ha
    rw [hcell] at e; cases e
    have : tail = [] := List.length_eq_zero_iff.1 (by rw [htl]; rfl)
    subst this
    simp only [List.append_nil, Enc.row, List.mem_flatMap, List.mem_map] at hv
    obtain ⟨r, _, hr⟩ := hv
    simp only [EncSl, List.mem_cons, List.not_mem_nil, or_false] at hr
    subst hr; rfl
theorem LvB.off {h' : PH} {B' : List Nat} {a : Option Addr} {L : List H32} (x : LvB h bv f) (s : SR EncH h a L) (c : Chg [bv] B' h h') : SR EncH h' a L :=
  s.off isIntV (fun y => by
    have hl : (EncH.enc y).length = 32 := EncH.len y
    refine ⟨(EncH.enc y)[0], List.getElem_mem _, ?_⟩
    simp [EncH, isIntV]) x.quiet c
theorem hsh {x : List UInt8} (hx : x.length = 32) : (bi x).map (Value.int .u8) ++ [] = EncH.row [⟨x, hx⟩] := by simp [Enc.row, EncH]
theorem cLevels (hl : SR EncPr h lA l) (hm : mayB l = true) (h48 : l.length ≤ 48) (hk : ∀ bv f h', LvB h' bv f → (∀ j, j < 5 → (f j).n = 2 ^ j ∧ SR EncH h' (f j).a (lvRow l j (2 ^ j))) → h.Sub h' → K (.slice (some ⟨bv, 0, none⟩) 5 5) h') :
    CallH Tryz.prog id_ref15_Levels [.slice lA l.length lC] K h := by
  refine F_ref15_Levels_ok ⟨⟨by decide, by decide, by decide⟩, nwL (cs := [.slice none 0 0, .slice none 0 0, .slice none 0 0, .slice none 0 0, .slice none 0 0]) fun bv h1 hbn hb1 c1 => ?_⟩
  have x1 : LvB h1 bv fun _ => ⟨none, 0, 0⟩ := ⟨_, rfl, .inr ⟨bv, [], rfl, rfl, hb1, rfl, by decide⟩⟩
  refine LoopP.ind (fun (z : Int × Unit) h' => ∃ (i : Nat) (f : Nat → SlR) (B : List Nat), z.1 = i ∧ i ≤ 16 ∧ LvB h' bv f ∧ bv ∉ B ∧ Buf EncH T_api_Hash B h' (f 4).a (f 4).n (f 4).c (lvRow l 4 i) ∧ (∀ j, j < 4 → f j = ⟨none, 0, 0⟩) ∧ Chg [] (bv :: B) h h') (fun z _ => (16 - z.1).toNat) ?_ ⟨0, _, [], rfl, by omega, x1, by simp, Buf.nil _ _ _ _, fun _ _ => rfl, c1⟩
  rintro ⟨zi, u⟩ h2 ⟨i, f, B, hzi, hi, x2, nB, b2, f2, c2⟩
  dsimp only at hzi
  subst hzi
  dsimp only
  refine ⟨fun e => ?_, fun e => ?_⟩
  · have e : i < 16 := by simp at e; omega
    have hw : IntKind.wrap .i64 (((i : Nat) : Int) + (1 : Int)) = ((i + 1 : Nat) : Int) := by rw [wrap64] <;> omega
    have hg : ∀ {g : PH}, LvB g bv f → g.rds bv (0 + (4 : Int).toNat * 1) 1 = some [.slice (f 4).a (f 4).n (f 4).c] := fun x => x.get (j := 4) (by omega) rfl
    rw [hw]
    refine ⟨bv, 0, ⟨rfl, by decide, by decide⟩, _, _, _, hg x2, cLeafText e (hl.sub c2.sub0) hm h48 fun h3 s3 => ⟨_, rfl, hg (x2.sub s3), cRSum (by have := leafT_le hm h48 i; omega) fun h4 s4 => ⟨bi (shaN (leafT l i)), by rw [bi_len, shaN_len], rfl, hg ((x2.sub s3).sub s4), ?_⟩⟩⟩
    have hn : (f 4).n = i := by rw [b2.1, lvRow_len]
    refine ((b2.sub s3).sub s4).append (new := [⟨shaN (leafT l i), shaN_len _⟩]) rfl (hsh _) rfl (by omega) fun a' c' B' h5 b5 c5 _ => ⟨bv, 0, ⟨rfl, by decide, by decide⟩, ?_⟩
    obtain ⟨ob, hob⟩ := ((x2.sub s3).sub s4).there
    have nB5 : bv ∉ B' := c5.fresh hob nB
    have x5 : LvB h5 bv f := ((x2.sub s3).sub s4).keep fun o e => c5.keep e nB
    refine x5.set (j := 4) (r := ⟨a', (f 4).n + 1, c'⟩) (by omega) rfl fun h6 x6 c6 => ⟨⟨i + 1, _, B', rfl, by omega, x6, nB5, ?_, fun j hj => ?_, ?_⟩, by omega⟩
    · rw [upF_same]
      have hrow : lvRow l 4 i ++ [⟨shaN (leafT l i), shaN_len _⟩] = lvRow l 4 (i + 1) := by
        rw [lvRow_succ]
        congr 2
        apply Subtype.ext
        show _ = nd l (16 + i)
        unfold nd
        rw [node_leaf _ (by omega) (by omega), show 16 + i - 16 = i by omega]; rfl
      rw [hrow] at b5
      exact b5.chg c6 (notIn1 nB5)
    · rw [upF_ne _ _ (by omega)]; exact f2 j hj
    · exact ((c2.onto (s3.tr s4)).trans c5.tail).trans c6.head
  · have e : i = 16 := by simp at e; omega
    subst e
    refine LoopP.ind (fun (z : Int × Unit) h' => ∃ (q : Nat) (f : Nat → SlR), z.1 = (q : Int) - 1 ∧ q ≤ 4 ∧ LvB h' bv f ∧ (∀ j, j < 5 → q ≤ j → (f j).n = 2 ^ j ∧ SR EncH h' (f j).a (lvRow l j (2 ^ j))) ∧ (∀ j, j < q → f j = ⟨none, 0, 0⟩) ∧ Chg [] [bv] h h') (fun z _ => (z.1 + 1).toNat) ?_ ⟨4, f, rfl, by omega, x2, fun j h1 h2 => ?_, f2, c2.sub (by simp) (by simp)⟩
    · rintro ⟨zl, u⟩ h3 ⟨q, f, hzl, hq, x3, r3, f3, c3⟩
      dsimp only at hzl
      subst hzl
      dsimp only
      refine ⟨fun e => ?_, fun e => ?_⟩
      · have e : 1 ≤ q := by simp at e; omega
        obtain ⟨lv, rfl⟩ : ∃ lv, q = lv + 1 := ⟨q - 1, by omega⟩
        have w1 : IntKind.wrap .i64 ((((lv + 1 : Nat) : Int) - 1) + 1) = ((lv + 1 : Nat) : Int) := by rw [wrap64] <;> omega
        have w2 : IntKind.wrap .i64 ((((lv + 1 : Nat) : Int) - 1) - 1) = ((lv : Nat) : Int) - 1 := by rw [wrap64] <;> omega
        rw [w1, w2]
        have hp2 : 2 ^ (lv + 1) = 2 * 2 ^ lv := by rw [Nat.pow_succ]; omega
        have hp8 : 2 ^ lv ≤ 8 := Nat.pow_le_pow_right (n := 2) (by decide) (show lv ≤ 3 by omega)
        refine LoopP.ind (fun (z : Int × Unit) h' => ∃ (i : Nat) (f' : Nat → SlR) (B : List Nat), z.1 = i ∧ i ≤ 2 ^ lv ∧ LvB h' bv f' ∧ bv ∉ B ∧ Buf EncH T_api_Hash B h' (f' lv).a (f' lv).n (f' lv).c (lvRow l lv i) ∧ (∀ j, j ≠ lv → f' j = f j) ∧ Chg [bv] (bv :: B) h3 h' ∧ Chg [] (bv :: B) h h') (fun z _ => (((2 ^ lv : Nat) : Int) - z.1).toNat) ?_ ⟨0, f, [], rfl, Nat.zero_le _, x3, by simp, by rw [f3 lv (by omega)]; exact Buf.nil _ _ _ _, fun _ _ => rfl, Chg.refl _ _, c3⟩
        rintro ⟨zi, u⟩ h4 ⟨i, f', B, hzi, hi, x4, nB, b4, f4, c34, c4⟩
        dsimp only at hzi
        subst hzi
        dsimp only
        have hup := r3 (lv + 1) (by omega) (by omega)
        have hup4 := x3.off hup.2 c34
        have tn1 : ((lv + 1 : Nat) : Int).toNat = lv + 1 := by omega
        have tn0 : (((lv + 1 : Nat) : Int) - 1).toNat = lv := by omega
        have g1 : ∀ {g : PH}, LvB g bv f' → g.rds bv (0 + (lv + 1) * 1) 1 = some [.slice (f (lv + 1)).a (f (lv + 1)).n (f (lv + 1)).c] := fun x => by
          have := x.get (j := lv + 1) (o := 0 + (lv + 1) * 1) (by omega) (by omega)
          rw [f4 (lv + 1) (by omega)] at this; exact this
        have g0 : ∀ {g : PH}, LvB g bv f' → g.rds bv (0 + lv * 1) 1 = some [.slice (f' lv).a (f' lv).n (f' lv).c] := fun x => x.get (j := lv) (by omega) (by omega)
        rw [tn1, tn0]
        have hdiv : IntKind.wrap .i64 ((((f (lv + 1)).n : Nat) : Int).tdiv (2 : Int)) = ((2 ^ lv : Nat) : Int) := by
          rw [hup.1, tdiv2, wrap64 (by omega) (by omega)]; omega
        refine ⟨bv, 0, ⟨rfl, by omega, by show ((lv + 1 : Nat) : Int) < 5; omega⟩, _, _, _, g1 x4, ?_⟩
        rw [hdiv]
        refine ⟨fun e2 => ?_, fun e2 => ?_⟩
        · have e2 : i < 2 ^ lv := Int.ofNat_lt.1 (of_decide_eq_true e2)
          have w3 : IntKind.wrap .i64 ((2 : Int) * ((i : Nat) : Int)) = ((2 * i : Nat) : Int) := by rw [wrap64] <;> omega
          have w4 : IntKind.wrap .i64 (((2 * i : Nat) : Int) + (1 : Int)) = ((2 * i + 1 : Nat) : Int) := by rw [wrap64] <;> omega
          have w5 : IntKind.wrap .i64 (((i : Nat) : Int) + (1 : Int)) = ((i + 1 : Nat) : Int) := by rw [wrap64] <;> omega
          have t3 : ((2 * i : Nat) : Int).toNat = 2 * i := by omega
          have t4 : ((2 * i + 1 : Nat) : Int).toNat = 2 * i + 1 := by omega
          rw [w3, w4, w5, t3, t4]
          have hl1 : 2 * i < (lvRow l (lv + 1) (2 ^ (lv + 1))).length := by rw [lvRow_len]; omega
          have hl2 : 2 * i + 1 < (lvRow l (lv + 1) (2 ^ (lv + 1))).length := by rw [lvRow_len]; omega
          obtain ⟨bb, ob, hA1, hr1⟩ := hup4.get hl1
          obtain ⟨bb2, ob2, hA2, hr2⟩ := hup4.get hl2
          have hrd1 := hr1 (ob + 2 * i * 32) 0 32 (by show _ = ob + 2 * i * 32 + 0; omega) (by decide)
          have hrd2 := hr2 (ob2 + (2 * i + 1) * 32) 0 32 (by show _ = ob2 + (2 * i + 1) * 32 + 0; omega) (by decide)
          have hen : ∀ y : H32, ((EncH.enc y).drop 0).take 32 = (bi y.1).map (Value.int .u8) ++ [] := fun y => by
            rw [List.drop_zero, List.append_nil, List.take_of_length_le (by rw [EncH.len]; decide)]; rfl
          rw [hen, lvRow_get] at hrd1 hrd2
          have hc1 : 2 ^ (lv + 1) + 2 * i = 2 * (2 ^ lv + i) := by omega
          have hc2 : 2 ^ (lv + 1) + (2 * i + 1) = 2 * (2 ^ lv + i) + 1 := by omega
          rw [hc1] at hrd1
          rw [hc2] at hrd2
          refine ⟨bv, 0, ⟨rfl, by omega, by show ((lv + 1 : Nat) : Int) - 1 < 5; omega⟩, _, _, _, g0 x4, bv, 0, ⟨rfl, by omega, by show ((lv + 1 : Nat) : Int) < 5; omega⟩, _, _, _, g1 x4, bb, ob, ⟨hA1, by omega, by rw [hup.1]; omega⟩, bi (nd l (2 * (2 ^ lv + i))), by rw [bi_len, nd_len], hrd1,
            bv, 0, ⟨rfl, by omega, by show ((lv + 1 : Nat) : Int) < 5; omega⟩, _, _, _, g1 x4, bb2, ob2, ⟨hA2, by omega, by rw [hup.1]; omega⟩, bi (nd l (2 * (2 ^ lv + i) + 1)), by rw [bi_len, nd_len], hrd2,
            cRInnerText (nd_len _ _) (nd_len _ _) fun h5 s5 => ⟨_, rfl, g0 (x4.sub s5), cRSum (by simp [innT, nd_len]) fun h6 s6 => ⟨bi (shaN (innT (nd l (2 * (2 ^ lv + i))) (nd l (2 * (2 ^ lv + i) + 1)))), by rw [bi_len, shaN_len], rfl, g0 ((x4.sub s5).sub s6), ?_⟩⟩⟩
          have hn : (f' lv).n = i := by rw [b4.1, lvRow_len]
          refine ((b4.sub s5).sub s6).append (new := [⟨shaN (innT (nd l (2 * (2 ^ lv + i))) (nd l (2 * (2 ^ lv + i) + 1))), shaN_len _⟩]) rfl (hsh _) rfl (by omega) fun a' c' B' h7 b7 c7 _ => ⟨bv, 0, ⟨rfl, by omega, by show ((lv + 1 : Nat) : Int) - 1 < 5; omega⟩, ?_⟩
          have x6 := (x4.sub s5).sub s6
          obtain ⟨ob3, hob⟩ := x6.there
          have nB7 : bv ∉ B' := c7.fresh hob nB
          have x7 : LvB h7 bv f' := x6.keep fun o e => c7.keep e nB
          refine x7.set (j := lv) (r := ⟨a', (f' lv).n + 1, c'⟩) (by omega) (by omega) fun h8 x8 c8 => ⟨⟨i + 1, _, B', rfl, by omega, x8, nB7, ?_, fun j hj => ?_, ?_, ?_⟩, by omega⟩
          · rw [upF_same]
            have hrow : lvRow l lv i ++ [⟨shaN (innT (nd l (2 * (2 ^ lv + i))) (nd l (2 * (2 ^ lv + i) + 1))), shaN_len _⟩] = lvRow l lv (i + 1) := by
              rw [lvRow_succ]
              congr 2
              apply Subtype.ext
              show _ = nd l (2 ^ lv + i)
              have : 0 < 2 ^ lv := Nat.pow_pos (by decide)
              unfold nd
              rw [node_in (leafF l) (k := 2 ^ lv + i) (by omega) (by omega)]
            rw [hrow] at b7
            exact b7.chg c8 (notIn1 nB7)
          · rw [upF_ne _ _ hj]; exact f4 j hj
          · exact ((c34.post (s5.tr s6)).trans c7.tail).trans c8.head
          · exact ((c4.onto (s5.tr s6)).trans c7.tail).trans c8.head
        · have e2 : i = 2 ^ lv := by
            rcases Nat.lt_or_ge i (2 ^ lv) with h | h
            · exact absurd (Int.ofNat_lt.2 h) (of_decide_eq_false e2)
            · omega
          subst e2
          refine ⟨⟨lv, f', rfl, by omega, x4, fun j h1 h2 => ?_, fun j hj => ?_, c4.sub (by simp) (by simp)⟩, by omega⟩
          · by_cases ej : j = lv
            · subst ej
              exact ⟨by rw [b4.1, lvRow_len], b4.sr⟩
            · rw [f4 j ej]
              obtain ⟨q1, q2⟩ := r3 j h1 (by omega)
              exact ⟨q1, x3.off q2 c34⟩
          · rw [f4 j (by omega)]; exact f3 j (by omega)
      · have e : q = 0 := by simp at e; omega
        subst e
        exact hk bv f h3 x3 (fun j hj => r3 j hj (Nat.zero_le _)) c3.sub0
    · have : j = 4 := by omega
      subst this
      exact ⟨by rw [b2.1, lvRow_len], b2.sr⟩
end TL

namespace TL
open Go Go.Proofs
variable {b : Nat} {h : PH} {K : Value → PH → Prop} {S : List PrR} {p v : List UInt8}

theorem ins_last (hx : ∀ x ∈ S, x.p < p) : ins S p v = S ++ [⟨p, v⟩] := by
  induction S with
  | nil => rfl
  | cons x r ih =>
    have h1 := hx x List.mem_cons_self
    unfold ins
    rw [if_neg (fun h => List.lt_irrefl _ (List.lt_trans h h1)), if_neg (fun e => by rw [e] at h1; exact List.lt_irrefl _ h1), ih fun y hy => hx y (List.mem_cons_of_mem _ hy)]
    rfl
theorem set_next {l : List PrR} (hm : mayB l = true) (h48 : l.length ≤ 48) {i : Nat} (hi : i < l.length) : setV (l.take i) l[i].p l[i].v = (0, l.take (i + 1)) := by
  obtain ⟨h1, h2⟩ := may_ok hm
  have hok := h1 _ (List.getElem_mem hi)
  simp only [okPr, Bool.and_eq_true, decide_eq_true_eq] at hok
  have hlt : ∀ x ∈ l.take i, x.p < l[i].p := fun x hx => by
    obtain ⟨j, hj, rfl⟩ := List.getElem_of_mem hx
    rw [List.length_take] at hj
    rw [List.getElem_take]
    exact List.pairwise_iff_getElem.1 h2 j i (by omega) hi (by omega)
  have hno : look (l.take i) l[i].p = none := look_none.2 fun x hx e => by
    have := hlt x hx
    rw [e] at this; exact List.lt_irrefl _ this
  unfold setV
  rw [if_neg (by rw [hok.1]; decide), if_neg (by omega), if_neg (fun hh => by have := hh.2; rw [List.length_take] at this; omega), ins_last hlt, ← List.take_append_getElem hi]
theorem cOfT {lA : Option Addr} {lC : Nat} {l : List PrR} (hl : SR EncPr h lA l) (hm : mayB l = true) (h48 : l.length ≤ 48) (hk : ∀ b h', Tr b h' l → h b = none → Chg [] [b] h h' → K (.tuple #[.pointer (some ⟨b, 0, none⟩), .int .i64 (0 : Int)]) h') :
    CallH Tryz.prog id_tree_Of [.slice lA l.length lC] K h := by
  obtain ⟨hok, hu⟩ := may_ok hm
  refine F_tree_Of_ok (cMay hl (by omega) (fun x hx => by have := ok_len (hok x hx); omega) ⟨_, rfl, fun e => (by rw [hm] at e; cases e), fun _ => ⟨fun e => (by simp at e; omega), fun _ => cNew fun b h1 hbn x1 c1 => ⟨_, rfl, LoopP.ind (fun (z : Int × Unit) h' => ∃ i : Nat, z.1 = i ∧ i ≤ l.length ∧ Tr b h' (l.take i) ∧ Chg [b] [b] h1 h') (fun z _ => (l.length - z.1).toNat) ?_ ⟨0, rfl, by omega, by simpa using x1, Chg.refl _ _⟩⟩⟩⟩)
  rintro ⟨zi, u⟩ h2 ⟨i, hzi, hi, x2, c2⟩
  dsimp only at hzi
  subst hzi
  dsimp only
  refine ⟨fun e => ?_, fun e => ?_⟩
  · have e : i < l.length := by simpa using e
    have hit : ((i : Nat) : Int).toNat = i := by omega
    obtain ⟨bb, o, hA, hr⟩ := (x1.keep c2 (hl.sub c1.sub0) prStr).get e
    have hln := ok_len (hok _ (List.getElem_mem e))
    rw [hit]
    refine ⟨bb, o, ⟨hA, by omega, by omega⟩, _, _, hr _ 0 2 rfl (by decide), cSet x2 (by omega) (by omega) fun h3 x3 c3 => ⟨_, rfl, ⟨i + 1, by rw [wrap64] <;> omega, by omega, ?_, c2.trans c3⟩, by rw [wrap64] <;> omega⟩⟩
    rw [set_next hm h48 e] at x3; exact x3
  · have e : i = l.length := by simp at e; omega
    rw [e, List.take_length] at x2
    exact hk b h2 x2 hbn (c1.trans c2)

theorem cNodeNo {t : Option Addr} {lv i : Int} (h0 : (((((Option.isNone t) || (decide (lv < (0 : Int)))) || (decide (lv > (4 : Int)))) || (decide (i < (0 : Int)))) = false → 0 ≤ lv)) (hc : ((((((Option.isNone t) || (decide (lv < (0 : Int)))) || (decide (lv > (4 : Int)))) || (decide (i < (0 : Int)))) || (decide (i ≥ (shlV .i64 (1 : Int) lv)))) = true))
    (hk : K (.tuple #[.agg (((List.replicate 32 (0 : Int)).map (Value.int .u8) ++ [])).toArray, .bool false]) h) : CallH Tryz.prog id_tree_Tree_Node [.pointer t, .int .i64 lv, .int .i64 i] K h :=
  F_tree_Tree_Node_ok ⟨h0, fun _ => hk, fun e => by rw [hc] at e; cases e⟩
theorem cOfNo {lA : Option Addr} {lC : Nat} {l : List PrR} (hl : SR EncPr h lA l) (hn : l.length ≤ 1000000) (hs : ∀ x ∈ l, x.p.length ≤ 1000000) (hm : mayB l = false) (hk : K (.tuple #[.pointer none, .int .i64 (1 : Int)]) h) :
    CallH Tryz.prog id_tree_Of [.slice lA l.length lC] K h :=
  F_tree_Of_ok (cMay hl hn hs ⟨_, rfl, fun _ => hk, fun e => by rw [hm] at e; cases e⟩)
end TL

namespace TL
open Go Go.Proofs Go.Shelf Go.RowKit Go.Lib Go.Sort
variable {P : Program} {ρ : Ren}
instance : Inhabited PrR := ⟨⟨[], []⟩⟩
theorem putCells_row {F old tail : List Value} (h : old.length = F.length) : putCells id 0 F.toArray (old ++ tail).toArray = (F ++ tail).toArray := by
  unfold putCells
  apply Array.ext
  · simp [h]
  · intro i h1 h2
    simp only [Array.getElem_mapIdx, Nat.zero_le, true_and, Nat.zero_add, List.size_toArray, Nat.sub_zero, id]
    by_cases hi : i < F.length
    · rw [if_pos hi, getElem!_pos _ i (by simpa using hi)]
      simp only [List.getElem_toArray]
      rw [List.getElem_append_left hi]
    · rw [if_neg hi]
      simp only [List.getElem_toArray]
      rw [List.getElem_append_right (by omega), List.getElem_append_right (by omega)]
      simp only [h]
theorem flatK_row (l : List PrR) : flatK EncPr.enc 2 l.toArray = (EncPr.row l).toArray := by
  apply Array.ext
  · rw [size_flatK]; simp [EncPr.row_len]; rfl
  · intro t h1 h2
    have h1' : t < l.length * 2 := by rw [size_flatK] at h1; simpa using h1
    have hg := get_flatK EncPr.enc 2 l.toArray t (by simpa using h1')
    rw [getElem!_pos _ t h1] at hg
    rw [hg]
    have hi : t / 2 < l.length := by omega
    have hf := EncPr.row_field (i := t / 2) (f := t % 2) (m := 1) [] hi (by show t % 2 + 1 ≤ 2; omega)
    have ht : t / 2 * EncPr.k + t % 2 = t := by show t / 2 * 2 + t % 2 = t; omega
    rw [ht, List.append_nil] at hf
    have hl : t < (EncPr.row l).length := by rw [EncPr.row_len]; exact h1'
    have hl2 : t % 2 < (EncPr.enc l[t / 2]).length := by rw [EncPr.len]; show t % 2 < 2; omega
    rw [take1 hl, take1 hl2] at hf
    have hf : (EncPr.row l)[t] = (EncPr.enc l[t / 2])[t % 2] := by simpa using hf
    simp only [List.getElem_toArray]
    rw [hf]
    have e1 : l.toArray[t / 2]! = l[t / 2] := by rw [getElem!_pos _ _ (by simpa using hi)]; simp
    rw [e1]; exact getElem!_pos (EncPr.enc l[t / 2]) (t % 2) hl2
/-- how two pairs are ordered -/
def cmpP (x y : PrR) : Int := Lib.compareBytes x.p y.p
theorem cmpLt (hc : ∀ a b : List UInt8, Lib.compareBytes a b < 0 ↔ a < b) (x y : PrR) : ltOf cmpP x y = decide (x.p < y.p) := by
  unfold ltOf cmpP
  rw [decide_eq_decide]; exact hc _ _
theorem swoP (hc : ∀ a b : List UInt8, Lib.compareBytes a b < 0 ↔ a < b) : SWO (ltOf cmpP) where
  irrefl x := by rw [cmpLt hc]; exact decide_eq_false (List.lt_irrefl x.p)
  trans x y z h1 h2 := by
    rw [cmpLt hc] at *
    simp only [decide_eq_true_eq] at *
    exact List.lt_trans h1 h2
  ntrans x y z h1 h2 := by
    rw [cmpLt hc] at *
    simp only [decide_eq_false_iff_not] at *
    intro h3
    by_cases e : x.p = y.p
    · rw [e] at h3; exact h2 h3
    · have := lt_of_not h1 e
      by_cases e2 : z.p < y.p
      · exact h1 (List.lt_trans h3 e2)
      · by_cases e3 : z.p = y.p
        · rw [e3] at h3; exact h1 h3
        · exact h2 (lt_of_not e2 e3)
theorem sort_frm {h : PH} {w : World} (hi : h.In w) {b : Nat} {l l' : List PrR} {tail : List Value} {T : TypeId} (hb : h b = some (.cells (EncPr.row l ++ tail).toArray T (0, 0))) (hl : l'.length = l.length) (m : Nat) (os : Array Obj) :
    Frm h w (h.upd b (.cells (EncPr.row l' ++ tail).toArray T (0, 0))) (sortWorldK EncPr.enc 2 w b 0 m l'.toArray os) := by
  have hw := hi _ _ hb
  have hheap : (sortWorldK EncPr.enc 2 w b 0 m l'.toArray os).heap = w.heap.modify b (onCells (putCells id 0 (flatK EncPr.enc 2 l'.toArray))) ++ os := rfl
  have hlt := hi.lt hb
  have hcell : (w.heap.modify b (onCells (putCells id 0 (flatK EncPr.enc 2 l'.toArray))))[b]? = some (.cells (EncPr.row l' ++ tail).toArray T (0, 0)) := by
    rw [Array.getElem?_modify, if_pos rfl, hw, Option.map_some]
    show some (Obj.cells (putCells id 0 (flatK EncPr.enc 2 l'.toArray) (EncPr.row l ++ tail).toArray) T (0, 0)) = _
    rw [flatK_row, putCells_row (by rw [EncPr.row_len, EncPr.row_len, hl])]
  have hold : ∀ x, x ≠ b → (w.heap.modify b (onCells (putCells id 0 (flatK EncPr.enc 2 l'.toArray))))[x]? = w.heap[x]? := fun x hx => by
    rw [Array.getElem?_modify, if_neg (fun e => hx e.symm)]
  have happ : ∀ x, x < w.heap.size → (sortWorldK EncPr.enc 2 w b 0 m l'.toArray os).heap[x]? = (w.heap.modify b (onCells (putCells id 0 (flatK EncPr.enc 2 l'.toArray))))[x]? := fun x hx => by
    rw [hheap, Array.getElem?_append_left (by rw [Array.size_modify]; exact hx)]
  refine ⟨fun x o e => ?_, ?_, fun x hx e => ⟨?_, ?_⟩, rfl, rfl⟩
  · by_cases hxb : x = b
    · subst hxb
      rw [PH.upd_same] at e; cases e
      rw [happ _ hlt, hcell]
    · rw [PH.upd_ne _ _ hxb] at e
      rw [happ _ (hi.lt e), hold x hxb, hi _ _ e]
  · rw [hheap, Array.size_append, Array.size_modify]; omega
  · rw [PH.upd_ne _ _ (fun hxb => by subst hxb; rw [hb] at e; cases e)]; exact e
  · rw [happ _ hx, hold x (fun hxb => by subst hxb; rw [hb] at e; cases e)]
end TL

namespace TL
open Go Go.Proofs Go.Shelf Go.RowKit Go.Lib Go.Sort
variable {P : Program} {ρ : Ren}
theorem holds_row {h : PH} {w : World} (hi : h.In w) {b : Nat} {l : List PrR} {tail : List Value} {T : TypeId} (hb : h b = some (.cells (EncPr.row l ++ tail).toArray T (0, 0))) : HoldsK EncPr.enc 2 w b 0 l.toArray := by
  intro j hj
  rw [size_flatK] at hj
  have hw := hi _ _ hb
  have hlen : (EncPr.row l).length = l.length * 2 := EncPr.row_len l
  have hj2 : j < (EncPr.row l).length := by rw [hlen]; simpa using hj
  refine ⟨?_, ?_⟩
  · rw [flatK_row, getElem!_pos _ j (by simpa using hj2)]
    simp only [World.cell?, hw, Nat.zero_add, id, List.getElem_toArray]
    rw [List.getElem?_toArray, List.getElem?_append_left hj2, List.getElem?_eq_getElem hj2]
    rfl
  · simp [World.frozen?, hw]
theorem ext_all {d d' : Array PrR} (h : PermIn 0 d.size d d') : d'.toList.Perm d.toList ∧ d'.size = d.size := by
  obtain ⟨h1, _, h2⟩ := h
  have e1 : d.extract 0 d.size = d := by simp
  have e2 : d'.extract 0 d.size = d' := by rw [← h1]; simp
  rw [e1, e2] at h2
  exact ⟨h2, h1⟩
theorem cmp_iff : ∀ a b : List UInt8, Lib.compareBytes a b < 0 ↔ a < b
  | [], [] => by simp [Lib.compareBytes]
  | [], _ :: _ => by simp [Lib.compareBytes]
  | _ :: _, [] => by simp [Lib.compareBytes]
  | x :: a, y :: b => by
    have ih := cmp_iff a b
    unfold Lib.compareBytes
    simp only [List.cons_lt_cons_iff]
    by_cases h1 : x < y
    · simp [h1]
    · by_cases h2 : y < x
      · have : x ≠ y := fun e => by subst e; exact h1 h2
        simp [h1, h2, this]
      · have : x = y := by
          rcases UInt8.lt_or_eq_of_le (UInt8.not_lt.1 h2) with h | h
          · exact absurd h h1
          · exact h
        subst this
        simp [ih]
theorem cSortPr (L : SlLaysF0.n6 P ρ) (aE : ∀ w, (isAgg (ρ.t 24)).run P w = .ok true w) (zE : ∀ w, (Go.sizeOf (ρ.t 24)).run P w = .ok 2 w) (g : Nat) (eg : ∀ args w, (callFunc g args).run P w = .ok (.enter g args) w)
    (hless : ∀ (a0 a1 b0 b1 : ByteArray) (w : World), Calls P g #[.agg #[.string a0, .string a1], .agg #[.string b0, .string b1]] w fun e w' => e = .returned (.int .i64 (Lib.compareBytes a0.data.toList b0.data.toList)) ∧ ∃ q os', w' = grow (w.drewN q) os')
    {B : List Nat} {h : PH} {K : Value → PH → Prop} {a : Option Addr} {n c : Nat} {l : List PrR} {T : TypeId} (x : Buf EncPr T B h a n c l) (hn : l.length ≤ 1000000)
    (hk : ∀ l' h', l'.Perm l → (l'.Pairwise fun a b => ¬ b.p < a.p) → Buf EncPr T B h' a n c l' → Chg B B h h' → K (.tuple #[]) h') : CallH P (ρ.f 6) [.slice a n c, .func (.func g) #[] #[]] K h := by
  intro w hi
  have hnl := x.1
  by_cases h0 : l = []
  · subst h0
    have hn0 : n = 0 := hnl
    subst hn0
    refine Calls.mono (AnyF.slices_SortFunc_none L a c (.func (.func g) #[] #[]) w) ?_
    rintro e w' ⟨rfl, rfl⟩
    exact ⟨_, h, rfl, hk [] h (List.Perm.refl _) List.Pairwise.nil x (Chg.refl _ _), Frm.refl hi⟩
  · have hx := x
    obtain ⟨_, ⟨_, _, e⟩ | ⟨b, tail, rfl, rfl, hb, ht, hle⟩⟩ := x
    · exact absurd e h0
    have hc : CmpLays P g #[] EncPr.enc 2 cmpP b 0 l.toArray.size w := fun m os dk _ x y => hless _ _ _ _ _
    have hS := AnyQ.slices_SortFunc L 2 aE zE EncPr.enc (fun _ => rfl) (fun x v hv => by
      simp only [EncPr, List.mem_cons, List.not_mem_nil, or_false] at hv
      rcases hv with rfl | rfl <;> rfl) cmpP (swoP cmp_iff) g #[] b 0 c l.toArray w eg hc (holds_row hi hb) (hi.lt hb) (by simp; omega)
    have hsz : l.toArray.size = n := by simp [hnl]
    rw [hsz] at hS
    refine Calls.mono hS ?_
    rintro e w' ⟨rfl, d', m, os, hp, hs, rfl⟩
    rw [← hsz] at hp hs
    obtain ⟨hp1, hp2⟩ := ext_all hp
    have hl' : d'.toList.length = l.length := by rw [Array.length_toList, hp2]; simp
    have hfrm := sort_frm hi hb hl' m os
    rw [Array.toArray_toList] at hfrm
    refine ⟨_, _, rfl, hk d'.toList _ (by simpa using hp1) ?_ ⟨by rw [hl']; exact hnl, .inr ⟨b, tail, rfl, rfl, PH.upd_same _ _ _, ht, hle⟩⟩ (Chg.upd _), hfrm⟩
    rw [List.pairwise_iff_getElem]
    intro i j hi' hj' hij
    have := hs i j (Nat.zero_le _) hij (by rw [← hp2]; simpa using hj')
    rw [cmpLt cmp_iff, getElem!_pos d' j (by simpa using hj'), getElem!_pos d' i (by simpa using hi')] at this
    simpa using this
end TL

namespace TL
open Go Go.Proofs Go.Shelf Go.RowKit Go.Lib Go.Sort

set_option maxHeartbeats 1000000 in
set_option maxRecDepth 100000 in
theorem walkCompareString (a b : ByteArray) (w : World) :
    Calls Tryz.prog 160 #[.string a, .string b] w fun e w' => e = .returned (.int .i64 (Lib.compareBytes a.data.toList b.data.toList)) ∧ w' = w := by
  go_enter Tryz.func160, Tryz.ntmps160
  go_wp2
  rw [run_callFunc_extern Tryz.func188 (by kernel_rfl) (by kernel_rfl) (by kernel_rfl) (e := Extern.BytealgCompare.compare) (by kernel_rfl), Lib.run_compareString]
  simp only [Result.andThen]
  rw [Oper.upon_value]
  go_wp2
  go_ret
  exact ⟨rfl, rfl⟩
set_option maxHeartbeats 1000000 in
theorem walkCompare (a b : ByteArray) (w : World) :
    Calls Tryz.prog 123 #[.string a, .string b] w fun e w' => e = .returned (.int .i64 (Lib.compareBytes a.data.toList b.data.toList)) ∧ w' = w := by
  have hcon := fun W => walkCompareString a b W
  generalize Lib.compareBytes a.data.toList b.data.toList = r at hcon ⊢
  go_enter Tryz.func123, Tryz.ntmps123
  go_wp2_with (go_at_call 160; refine (hcon _).mono ?_; rintro e w' ⟨rfl, rfl⟩)
  go_ret
  exact ⟨rfl, rfl⟩
set_option maxHeartbeats 1000000 in
theorem walkLess (a0 a1 b0 b1 : ByteArray) (w : World) :
    Calls Tryz.prog 133 #[.agg #[.string a0, .string a1], .agg #[.string b0, .string b1]] w fun e w' => e = .returned (.int .i64 (Lib.compareBytes a0.data.toList b0.data.toList)) ∧ ∃ q os', w' = grow (w.drewN q) os' := by
  have hcon := fun W => walkCompare a0 b0 W
  generalize Lib.compareBytes a0.data.toList b0.data.toList = r at hcon ⊢
  go_enter Tryz.func133, Tryz.ntmps133
  go_wp2_with (go_at_call 123; refine (hcon _).mono ?_; rintro e w' ⟨rfl, rfl⟩)
  go_ret
  exact ⟨rfl, 0, _, by rw [alloc_eq_grow, alloc_eq_grow, grow_grow]; rfl⟩
end TL

namespace Go.Proofs
open Go.Shelf
def Tryz.srtA_ren : Go.Shelf.Ren := ⟨fun | 6 => 121 | 15 => 159 | 14 => 158 | 28 => 186 | 29 => 187 | 20 => 178 | 21 => 179 | 22 => 180 | 23 => 181 | 24 => 182 | 25 => 183 | 26 => 184 | 27 => 185 | 46 => 210 | 47 => 211 | 48 => 212 | 49 => 213 | 50 => 214 | 57 => 225 | n => n, fun | 22 => 27 | 24 => 101 | 25 => 201 | 3 => 3 | 39 => 49 | 0 => 0 | 53 => 239 | 55 => 232 | 4 => 4 | 46 => 257 | 45 => 256 | 50 => 157 | 5 => 5 | 9 => 9 | 66 => 280 | 70 => 284 | 76 => 293 | 77 => 294 | n => n, fun | n => n⟩
theorem Tryz.srtA : Go.Proofs.SlLaysF0.n6 Tryz.prog Tryz.srtA_ren := {
  mixed := by kernel_rfl
  f6 := ⟨Tryz.f121.name, by decide, Tryz.func121.trans (congrArg some (by kernel_rfl))⟩
  f14 := ⟨Tryz.f158.name, by decide, Tryz.func158.trans (congrArg some (by kernel_rfl))⟩
  f15 := Tryz.func159.trans (congrArg some (by kernel_rfl))
  f20 := ⟨Tryz.f178.name, by decide, Tryz.func178.trans (congrArg some (by kernel_rfl))⟩
  f21 := ⟨Tryz.f179.name, by decide, Tryz.func179.trans (congrArg some (by kernel_rfl))⟩
  f22 := ⟨Tryz.f180.name, by decide, Tryz.func180.trans (congrArg some (by kernel_rfl))⟩
  f23 := ⟨Tryz.f181.name, by decide, Tryz.func181.trans (congrArg some (by kernel_rfl))⟩
  f24 := ⟨Tryz.f182.name, by decide, Tryz.func182.trans (congrArg some (by kernel_rfl))⟩
  f25 := ⟨Tryz.f183.name, by decide, Tryz.func183.trans (congrArg some (by kernel_rfl))⟩
  f26 := ⟨Tryz.f184.name, by decide, Tryz.func184.trans (congrArg some (by kernel_rfl))⟩
  f27 := ⟨Tryz.f185.name, by decide, Tryz.func185.trans (congrArg some (by kernel_rfl))⟩
  f28 := Tryz.func186.trans (congrArg some (by kernel_rfl))
  f29 := Tryz.func187.trans (congrArg some (by kernel_rfl))
  f46 := ⟨Tryz.f210.name, by decide, Tryz.func210.trans (congrArg some (by kernel_rfl))⟩
  f47 := Tryz.func211.trans (congrArg some (by kernel_rfl))
  f48 := Tryz.func212.trans (congrArg some (by kernel_rfl))
  f49 := ⟨Tryz.f213.name, by decide, Tryz.func213.trans (congrArg some (by kernel_rfl))⟩
  f50 := ⟨Tryz.f214.name, by decide, Tryz.func214.trans (congrArg some (by kernel_rfl))⟩
  f57 := ⟨Tryz.f225.name, by decide, Tryz.func225.trans (congrArg some (by kernel_rfl))⟩
  t0 := Tryz.underlying0
  a0 := Tryz.isAgg0
  z0 := Tryz.sizeOf0
  v0 := Tryz.zeroValue0
  t3 := Tryz.underlying3
  a3 := Tryz.isAgg3
  z3 := Tryz.sizeOf3
  v3 := Tryz.zeroValue3
  t4 := Tryz.underlying4
  a4 := Tryz.isAgg4
  z4 := Tryz.sizeOf4
  v4 := Tryz.zeroValue4
  t5 := Tryz.underlying5
  a5 := Tryz.isAgg5
  z5 := Tryz.sizeOf5
  v5 := Tryz.zeroValue5
  t9 := Tryz.underlying9
  a9 := Tryz.isAgg9
  z9 := Tryz.sizeOf9
  v9 := Tryz.zeroValue9
  t22 := Tryz.underlying27
  a22 := Tryz.isAgg27
  z22 := Tryz.sizeOf27
  v22 := Tryz.zeroValue27
  t25 := Tryz.underlying201
  a25 := Tryz.isAgg201
  z25 := Tryz.sizeOf201
  v25 := Tryz.zeroValue201
  t39 := Tryz.underlying49
  a39 := Tryz.isAgg49
  z39 := Tryz.sizeOf49
  v39 := Tryz.zeroValue49
  t45 := Tryz.underlying256
  a45 := Tryz.isAgg256
  z45 := Tryz.sizeOf256
  v45 := Tryz.zeroValue256
  t46 := Tryz.underlying257
  a46 := Tryz.isAgg257
  z46 := Tryz.sizeOf257
  v46 := Tryz.zeroValue257
  t50 := Tryz.underlying157
  a50 := Tryz.isAgg157
  z50 := Tryz.sizeOf157
  v50 := Tryz.zeroValue157
  t53 := Tryz.underlying239
  a53 := Tryz.isAgg239
  z53 := Tryz.sizeOf239
  v53 := Tryz.zeroValue239
  t55 := Tryz.underlying232
  a55 := Tryz.isAgg232
  z55 := Tryz.sizeOf232
  v55 := Tryz.zeroValue232
  t66 := Tryz.underlying280
  a66 := Tryz.isAgg280
  z66 := Tryz.sizeOf280
  v66 := Tryz.zeroValue280
  t70 := Tryz.underlying284
  a70 := Tryz.isAgg284
  z70 := Tryz.sizeOf284
  v70 := Tryz.zeroValue284
  t76 := Tryz.underlying293
  a76 := Tryz.isAgg293
  z76 := Tryz.sizeOf293
  v76 := Tryz.zeroValue293
  t77 := Tryz.underlying294
  a77 := Tryz.isAgg294
  z77 := Tryz.sizeOf294
  v77 := Tryz.zeroValue294}
end Go.Proofs

namespace TL
open Go Go.Proofs
variable {B : List Nat} {h : PH} {K : Value → PH → Prop} {a : Option Addr} {n c : Nat} {l : List PrR}
theorem cSortT (x : Buf EncPr T_api_Pair B h a n c l) (hn : l.length ≤ 1000000) (hk : ∀ l' h', l'.Perm l → (l'.Pairwise fun a b => ¬ b.p < a.p) → Buf EncPr T_api_Pair B h' a n c l' → Chg B B h h' → K (.tuple #[]) h') :
    CallH Tryz.prog id_slices_SortFunc_api_Pair_api_Pair [.slice a n c, .func (.func 133) #[] #[]] K h :=
  cSortPr Tryz.srtA Tryz.isAgg101 Tryz.sizeOf101 133 (enters_of Tryz.func133 (by kernel_rfl) rfl) walkLess x hn hk
end TL

namespace TL
open Go Go.Proofs
variable {b : Nat} {h : PH} {K : Value → PH → Prop} {S : List PrR} {p v : List UInt8}

theorem cAll (x : Tr b h S) (hk : ∀ a' c' B' h', Buf EncPr T_api_Pair B' h' a' S.length c' S → Chg [] B' h h' → K (.slice a' S.length c') h') : CallH Tryz.prog id_tree_Tree_All [.pointer (some ⟨b, 0, none⟩)] K h := by
  obtain ⟨⟨P, hP, t⟩, hm, hl⟩ := x
  have hpl : ∀ i, i < 16 → (P i).ps.length ≤ 48 := fun i hi => by rw [hP i hi]; exact Nat.le_trans (List.length_filter_le _ _) hl
  have hcat : (catP P 16).Perm S := by
    have : catP P 16 = (List.range 16).flatMap fun i => partB S i := by
      unfold catP
      apply congrArg List.flatten
      apply List.map_congr_left
      intro i hi
      exact hP i (List.mem_range.1 hi)
    rw [this]
    exact perm_parts 16 S fun x _ => bkt_lt x.p
  refine F_tree_Tree_All_ok ⟨fun e => by simp at e, fun _ => ⟨b, 0, rfl, by decide, ?_⟩⟩
  rw [slA0 (some ⟨b, 0, none⟩) (fun x e => by cases e; rfl)]
  refine cConcat t hpl fun a1 c1 B1 h1 hb1 hc1 => ⟨_, _, _, rfl, cSortT hb1 (by rw [hcat.length_eq]; omega) fun l' h2 hp hs hb2 hc2 => ?_⟩
  have e := up_unique (may_ok hm).2 (hp.trans hcat) hs
  subst e
  have hn := hb2.1
  rw [hn] at hb2 ⊢
  exact hk _ _ _ _ hb2 (hc1.trans hc2)
variable {lA mA : Option Addr} {lC mC : Nat} {l m : List OpR}
/-- tree b stays where another tree's block is written -/
theorem Tr.oth {b2 : Nat} {S2 : List PrR} {h' : PH} (x : Tr b h S) (y : Tr b2 h S2) (hn : b ≠ b2) (c : Chg [b2] [b2] h h') : Tr b h' S := x.other y hn c
theorem ins_twice (hu : Up S) : ins (ins S p v) p v = ins S p v := by
  refine Up.ext ((hu.ins p v).ins p v) (hu.ins p v) fun q => ?_
  rw [look_ins, look_ins]
  split <;> rfl
end TL

namespace TL
open Go Go.Proofs
variable {b : Nat} {h : PH} {K : Value → PH → Prop} {S : List PrR} {p v : List UInt8}

def pK (i : Nat) : List UInt8 := [97, 112, 112, 47] ++ [UInt8.ofNat (97 + i % 24), UInt8.ofNat (97 + i / 24)]
def sK (n : Nat) : List PrR := (List.range n).foldl (fun S i => (setV S (pK i) [49]).2) []
theorem sK_zero : sK 0 = [] := rfl
theorem sK_succ (n : Nat) : sK (n + 1) = (setV (sK n) (pK n) [49]).2 := fold_succ (fun S i => (setV S (pK i) [49]).2) _ _
theorem sK_ok : ∀ n, n < 48 → (setV (sK n) (pK n) [49]).1 = 0 := by decide +kernel
theorem sK_len : (sK 48).length = 48 := by decide +kernel
theorem sK_zz : setV (sK 48) [97, 112, 112, 47, 122, 122] [49] = (6, sK 48) := by decide +kernel
theorem sK_aa : (setV (sK 48) [97, 112, 112, 47, 97, 97] [50]).1 = 0 ∧ (setV (sK 48) [97, 112, 112, 47, 97, 97] [50]).2.length = 48 := by decide +kernel
theorem k_f : setV sApp [97, 112, 112] [49] = (20, sApp) := by decide +kernel
theorem k_g : setV sApp pApp [48, 49, 50, 51, 52, 53, 54, 55, 56, 57, 48, 49, 50, 51, 52, 53, 54, 55, 56, 57, 48, 49, 50, 51, 52, 53, 54, 55, 56, 57, 48, 49, 50] = (3, sApp) := by decide +kernel
theorem k_e : setV [] pApp [49] = (0, sApp) := by decide +kernel
theorem k_in : shaN (innT hE0 hE4) ≠ shaN (innT hE4 hE0) := by decide +kernel
theorem k_two : mayB [⟨[97, 112, 112, 47, 98], []⟩, ⟨[97, 112, 112, 47, 97], []⟩] = false := by decide +kernel
theorem pK_u8 : ∀ i, i < 48 → IntKind.wrap .u8 (IntKind.wrap .i64 ((97 : Int) + (((i : Nat) : Int).tmod (24 : Int)))) = ((UInt8.ofNat (97 + i % 24)).toNat : Int) ∧ IntKind.wrap .u8 (IntKind.wrap .i64 ((97 : Int) + (IntKind.wrap .i64 (((i : Nat) : Int).tdiv (24 : Int))))) = ((UInt8.ofNat (97 + i / 24)).toNat : Int) := by decide +kernel
end TL

namespace TL
open Go Go.Proofs
variable {h : PH} {K : Value → PH → Prop} {p v : List UInt8} {lA : Option Addr} {lC : Nat} {l : List PrR} {b : Nat}

theorem lv_rd {h : PH} {a : Option Addr} {l : List PrR} {j i : Nat} (x : SR EncH h a (lvRow l j (2 ^ j))) (hi : i < 2 ^ j) : ∃ bb ob, a = some ⟨bb, ob, none⟩ ∧ h.rds bb (ob + i * 32) 32 = some ((bi (nd l (2 ^ j + i))).map (Value.int .u8) ++ []) := by
  have hl : i < (lvRow l j (2 ^ j)).length := by rw [lvRow_len]; exact hi
  obtain ⟨bb, ob, hA, hr⟩ := x.get hl
  refine ⟨bb, ob, hA, ?_⟩
  have := hr (ob + i * 32) 0 32 (by show _ = ob + i * 32 + 0; omega) (by decide)
  rw [this, lvRow_get, List.drop_zero, List.append_nil, List.take_of_length_le (by rw [EncH.len]; decide)]; rfl
theorem cRTexts (hl : SR EncPr h lA l) (hm : mayB l = true) (h48 : l.length ≤ 48) (hk : ∀ a' c' B' h', Buf EncS 9 B' h' a' (textsT l).length c' (textsT l) → Chg [] B' h h' → K (.slice a' (textsT l).length c') h') :
    CallH Tryz.prog id_ref15_Texts [.slice lA l.length lC] K h := by
  refine F_ref15_Texts_ok (LoopP.ind (fun (z : (Option Addr × Nat × Nat) × Int × Unit) h' => ∃ (i : Nat) (B' : List Nat), z.2.1 = i ∧ i ≤ 16 ∧ Buf EncS 9 B' h' z.1.1 z.1.2.1 z.1.2.2 ((List.range i).map (leafT l)) ∧ Chg [] B' h h') (fun z _ => (16 - z.2.1).toNat) ?_ ⟨0, [], rfl, by omega, Buf.nil _ _ _ _, Chg.refl _ _⟩)
  rintro ⟨⟨oA, oN, oC⟩, zi, u⟩ h1 ⟨i, B1, hzi, hi, hb, hc⟩
  dsimp only at hzi hb
  subst hzi
  dsimp only
  have hon : oN = i := by rw [hb.1]; simp
  subst hon
  refine ⟨fun e => ?_, fun e => ?_⟩
  · have e : oN < 16 := by simp at e; omega
    refine cLeafText e (hl.sub hc.sub0) hm h48 fun h2 s2 => ⟨_, rfl, ?_⟩
    refine (hb.sub s2).append (new := [leafT l oN]) rfl rfl rfl (by omega) fun a' c' B' h' hb' hc' _ => ⟨⟨oN + 1, B', by rw [wrap64] <;> omega, by omega, ?_, (hc.onto s2).trans hc'⟩, by rw [wrap64] <;> omega⟩
    rw [List.range_succ, List.map_append]; exact hb'
  · have e : oN = 16 := by simp at e; omega
    subst e
    refine (Spl.of0 hc hb.has).call (cLevels (K := fun v g => ∃ bv f, LvB g bv f ∧ (∀ j, j < 5 → (f j).n = 2 ^ j ∧ SR EncH g (f j).a (lvRow l j (2 ^ j))) ∧ h.Sub g ∧ v = .slice (some ⟨bv, 0, none⟩) 5 5) hl hm h48 fun bv f g x1 x2 x3 => ⟨bv, f, x1, x2, x3, rfl⟩) ?_
    rintro _ g2 h2 ⟨bv, f, xv, rv, s2, rfl⟩ st
    obtain ⟨st, same⟩ := st s2
    have sp2 := st.spl
    refine ⟨_, _, _, rfl, ?_⟩
    have hb := hb.keep same
    have lvs : ∀ {g : PH}, g2.Sub g → ∀ j, j < 5 → g.rds bv (0 + j * 1) 1 = some [.slice (f j).a (f j).n (f j).c] ∧ (f j).n = 2 ^ j ∧ SR EncH g (f j).a (lvRow l j (2 ^ j)) := fun s j hj => ⟨(xv.sub s).get hj (by omega), (rv j hj).1, (rv j hj).2.sub s⟩
    refine LoopP.ind (fun (z : (Option Addr × Nat × Nat) × Int × Unit) h' => ∃ (m : Nat) (B' : List Nat), z.2.1 = (3 : Int) - m ∧ m ≤ 4 ∧ Buf EncS 9 B' h' z.1.1 z.1.2.1 z.1.2.2 ((List.range 16).map (leafT l) ++ (List.range m).flatMap fun d => inRow l (3 - d)) ∧ Spl g2 B' h') (fun z _ => (z.2.1 + 1).toNat) ?_ ⟨0, B1, rfl, by omega, by simpa using hb, sp2⟩
    rintro ⟨⟨oA, oN, oC⟩, zm, u⟩ h3 ⟨m, B2, hzm, hm4, hb2, s3⟩
    dsimp only at hzm hb2
    subst hzm
    dsimp only
    refine ⟨fun e => ?_, fun e => ?_⟩
    · have e : m < 4 := by simp at e; omega
      have hlv : ((3 : Int) - (m : Nat)) = ((3 - m : Nat) : Int) := by omega
      rw [hlv]
      generalize hlv2 : 3 - m = lv
      have hlv4 : lv ≤ 3 := by omega
      have h2lv : 2 ^ lv ≤ 8 := Nat.pow_le_pow_right (n := 2) (by decide) (show lv ≤ 3 from hlv4)
      have hp2 : 2 ^ (lv + 1) = 2 * 2 ^ lv := by rw [Nat.pow_succ]; omega
      have hrow : inRow l lv = (List.range (2 ^ lv)).map fun i => inT l (2 ^ lv + i) := rfl
      have hw : IntKind.wrap .i64 (((lv : Nat) : Int) - (1 : Int)) = (3 : Int) - ((m + 1 : Nat) : Int) := by rw [wrap64] <;> omega
      have hw1 : IntKind.wrap .i64 (((lv : Nat) : Int) + (1 : Int)) = ((lv + 1 : Nat) : Int) := by rw [wrap64] <;> omega
      have tn : ((lv : Nat) : Int).toNat = lv := by omega
      have tn1 : ((lv + 1 : Nat) : Int).toNat = lv + 1 := by omega
      rw [hw, hw1, tn, tn1]
      refine LoopP.ind (fun (z : (Option Addr × Nat × Nat) × Int × Unit) h' => ∃ (k : Nat) (B' : List Nat), z.2.1 = k ∧ k ≤ 2 ^ lv ∧ Buf EncS 9 B' h' z.1.1 z.1.2.1 z.1.2.2 ((List.range 16).map (leafT l) ++ ((List.range m).flatMap (fun d => inRow l (3 - d)) ++ (List.range k).map fun i => inT l (2 ^ lv + i))) ∧ Spl g2 B' h') (fun z _ => (((2 ^ lv : Nat) : Int) - z.2.1).toNat) ?_ ⟨0, B2, rfl, Nat.zero_le _, by simpa using hb2, s3⟩
      rintro ⟨⟨oA, oN, oC⟩, zk, u⟩ h4 ⟨k, B3, hzk, hk3, hb3, s4⟩
      dsimp only at hzk hb3
      subst hzk
      dsimp only
      have hon : oN ≤ 100 := by
        rw [hb3.1, List.length_append, List.length_append, List.length_map, List.length_map, List.length_range, List.length_range]
        have := pre_len l m
        omega
      obtain ⟨g0, n0, r0⟩ := lvs s4.sub lv (by omega)
      obtain ⟨g1, n1, r1⟩ := lvs s4.sub (lv + 1) (by omega)
      refine ⟨bv, 0, ⟨rfl, by omega, by omega⟩, _, _, _, g0, ?_⟩
      rw [n0]
      refine ⟨fun e5 => ?_, fun e5 => ?_⟩
      · have e5 : k < 2 ^ lv := Int.ofNat_lt.1 (of_decide_eq_true e5)
        have w1 : IntKind.wrap .i64 ((2 : Int) * ((k : Nat) : Int)) = ((2 * k : Nat) : Int) := by rw [wrap64] <;> omega
        have w2 : IntKind.wrap .i64 (((2 * k : Nat) : Int) + (1 : Int)) = ((2 * k + 1 : Nat) : Int) := by rw [wrap64] <;> omega
        have w5 : IntKind.wrap .i64 (((k : Nat) : Int) + (1 : Int)) = ((k + 1 : Nat) : Int) := by rw [wrap64] <;> omega
        have t1 : ((2 * k : Nat) : Int).toNat = 2 * k := by omega
        have t2 : ((2 * k + 1 : Nat) : Int).toNat = 2 * k + 1 := by omega
        rw [w1, w2, w5, t1, t2]
        obtain ⟨b1, o1, hA1, hr1⟩ := lv_rd r1 (i := 2 * k) (by omega)
        obtain ⟨b2, o2, hA2, hr2⟩ := lv_rd r1 (i := 2 * k + 1) (by omega)
        refine ⟨bv, 0, ⟨rfl, by omega, by show ((lv + 1 : Nat) : Int) < 5; omega⟩, _, _, _, g1, b1, o1, ⟨hA1, by omega, by rw [n1]; omega⟩, bi (nd l (2 ^ (lv + 1) + 2 * k)), by rw [bi_len, nd_len], hr1, bv, 0, ⟨rfl, by omega, by show ((lv + 1 : Nat) : Int) < 5; omega⟩, _, _, _, g1, b2, o2, ⟨hA2, by omega, by rw [n1]; omega⟩, bi (nd l (2 ^ (lv + 1) + (2 * k + 1))), by rw [bi_len, nd_len], hr2,
          cRInnerText (nd_len _ _) (nd_len _ _) fun h5 s5 => ⟨_, rfl, ?_⟩⟩
        have ht : innT (nd l (2 ^ (lv + 1) + 2 * k)) (nd l (2 ^ (lv + 1) + (2 * k + 1))) = inT l (2 ^ lv + k) := by
          unfold inT
          rw [show 2 ^ (lv + 1) + 2 * k = 2 * (2 ^ lv + k) by omega, show 2 ^ (lv + 1) + (2 * k + 1) = 2 * (2 ^ lv + k) + 1 by omega]
        rw [ht]
        refine (hb3.sub s5).append (new := [inT l (2 ^ lv + k)]) rfl rfl rfl (by omega) fun a' c' B' h' hb' hc' _ => ⟨⟨k + 1, B', rfl, by omega, ?_, ((s4.grow s5).spl.chg hc' hb'.has).spl⟩, by omega⟩
        rw [List.range_succ (n := k), List.map_append, ← List.append_assoc, ← List.append_assoc]
        rw [← List.append_assoc] at hb'
        exact hb'
      · have e5 : k = 2 ^ lv := by
          rcases Nat.lt_or_ge k (2 ^ lv) with h | h
          · exact absurd (Int.ofNat_lt.2 h) (of_decide_eq_false e5)
          · omega
        refine ⟨⟨m + 1, B3, rfl, by omega, ?_, s4⟩, by omega⟩
        rw [e5] at hb3
        have : ((List.range (m + 1)).flatMap fun d => inRow l (3 - d)) = ((List.range m).flatMap fun d => inRow l (3 - d)) ++ (List.range (2 ^ lv)).map fun i => inT l (2 ^ lv + i) := by
          rw [List.range_succ, List.flatMap_append, List.flatMap_cons, List.flatMap_nil, List.append_nil, hlv2, hrow]
        rw [this]; exact hb3
    · have e : m = 4 := by simp at e; omega
      subst e
      have := hb2.1
      subst this
      exact hk _ _ _ _ hb2 (s3.chg0 s2)
theorem cStands {S : List PrR} (x : Tr b h S) (hl : SR EncPr h lA S) (hk : ∀ h', h.Sub h' → K (.bool true) h') : CallH Tryz.prog id_law15_stands [.pointer (some ⟨b, 0, none⟩), .slice lA S.length lC] K h := by
  have hm := x.may
  have h48 := x.le
  have hs : ∀ x ∈ S, x.p.length ≤ 1000000 := fun x hx => by have := ok_len ((may_ok hm).1 x hx); omega
  refine F_law15_stands_ok (cLevels hl hm h48 fun bv f h1 xv rv s1 => ⟨_, _, _, rfl, ?_⟩)
  have lvs : ∀ {g : PH}, h1.Sub g → ∀ j, j < 5 → g.rds bv (0 + j * 1) 1 = some [.slice (f j).a (f j).n (f j).c] ∧ (f j).n = 2 ^ j ∧ SR EncH g (f j).a (lvRow S j (2 ^ j)) := fun s j hj => ⟨(xv.sub s).get hj (by omega), (rv j hj).1, (rv j hj).2.sub s⟩
  refine LoopP.ind (fun (z : Int × Unit) h' => ∃ j : Nat, z.1 = j ∧ j ≤ 5 ∧ h1.Sub h') (fun z _ => (5 - z.1).toNat) ?_ ⟨0, rfl, by omega, PH.Sub.rf _⟩
  rintro ⟨zj, u⟩ h2 ⟨j, hzj, hj, s2⟩
  dsimp only at hzj
  subst hzj
  dsimp only
  refine ⟨fun e => ?_, fun e => ?_⟩
  · have e : j < 5 := by simp at e; omega
    have tj : ((j : Nat) : Int).toNat = j := by omega
    have wj : IntKind.wrap .i64 (((j : Nat) : Int) + (1 : Int)) = ((j + 1 : Nat) : Int) := by rw [wrap64] <;> omega
    rw [tj, wj]
    have hp16 : 2 ^ j ≤ 16 := Nat.pow_le_pow_right (n := 2) (by decide) (show j ≤ 4 by omega)
    refine LoopP.ind (fun (z : Int × Unit) h' => ∃ i : Nat, z.1 = i ∧ i ≤ 2 ^ j ∧ h1.Sub h') (fun z _ => (((2 ^ j : Nat) : Int) - z.1).toNat) ?_ ⟨0, rfl, Nat.zero_le _, s2⟩
    rintro ⟨zi, u⟩ h3 ⟨i, hzi, hi, s3⟩
    dsimp only at hzi
    subst hzi
    dsimp only
    obtain ⟨g0, n0, r0⟩ := lvs s3 j e
    refine ⟨bv, 0, ⟨rfl, by omega, by show ((j : Nat) : Int) < 5; omega⟩, _, _, _, g0, ?_⟩
    rw [n0]
    refine ⟨fun e2 => ?_, fun e2 => ⟨⟨j + 1, rfl, by omega, s3⟩, by omega⟩⟩
    have e2 : i < 2 ^ j := Int.ofNat_lt.1 (of_decide_eq_true e2)
    have ti : ((i : Nat) : Int).toNat = i := by omega
    have wi : IntKind.wrap .i64 (((i : Nat) : Int) + (1 : Int)) = ((i + 1 : Nat) : Int) := by rw [wrap64] <;> omega
    rw [ti, wi]
    obtain ⟨bb, ob, hA, hr⟩ := lv_rd r0 e2
    refine cNode ((x.sub s1).sub s3) (by omega) e2 ⟨bi _, by rw [bi_len, nd_len], true, rfl, bv, 0, fun _ => ⟨rfl, by omega, by show ((j : Nat) : Int) < 5; omega⟩, _, _, _, fun _ => g0, bb, ob, fun _ => ⟨hA, by omega, by rw [n0]; omega⟩, bi _, by rw [bi_len, nd_len], fun _ => hr, fun e3 => by simp at e3, fun _ => ⟨⟨i + 1, rfl, by omega, s3⟩, by omega⟩⟩
  · have hpl : ∀ i, (partB S i).length ≤ 1000000 := fun i => Nat.le_trans (List.length_filter_le _ _) (by omega)
    refine LoopP.ind (fun (z : Int × Unit) h' => ∃ i : Nat, z.1 = i ∧ i ≤ 16 ∧ h1.Sub h') (fun z _ => (16 - z.1).toNat) ?_ ⟨0, rfl, by omega, s2⟩
    rintro ⟨zi, u⟩ h3 ⟨i, hzi, hi, s3⟩
    dsimp only at hzi
    subst hzi
    dsimp only
    have x3 := (x.sub s1).sub s3
    have l3 := (hl.sub s1).sub s3
    refine ⟨fun e => ?_, fun e => ?_⟩
    · have e : i < 16 := by simp at e; omega
      refine cPairs x3 e fun a4 c4 B4 h4 hb4 hc4 => ⟨_, _, _, rfl, cRPart (l3.sub hc4.sub0) (by omega) hs fun a5 c5 B5 h5 hb5 hc5 => ⟨_, _, _, rfl, cRSame (hb4.sub hc5.sub0).sr hb5.sr (hpl i) ⟨_, rfl, fun e3 => by simp at e3, fun _ => ⟨⟨i + 1, by rw [wrap64] <;> omega, by omega, (s3.tr hc4.sub0).tr hc5.sub0⟩, by rw [wrap64] <;> omega⟩⟩⟩⟩
    · obtain ⟨g0, n0, r0⟩ := lvs s3 0 (by omega)
      obtain ⟨bb, ob, hA, hr⟩ := lv_rd r0 (i := 0) (by decide)
      refine ⟨bv, 0, ⟨rfl, by decide, by decide⟩, _, _, _, g0, bb, ob, ⟨hA, by decide, by rw [n0]; decide⟩, bi _, by rw [bi_len, nd_len], hr, cRoot x3 ⟨bi _, by rw [bi_len, nd_len], rfl, hr, g0, fun _ => ?_, fun e2 => by simp at e2⟩⟩
      refine cAll x3 fun a4 c4 B4 h4 hb4 hc4 => ⟨_, _, _, rfl, cRSame hb4.sr (l3.sub hc4.sub0) (by omega) ⟨_, rfl, fun _ => ?_, fun e2 => by simp at e2⟩⟩
      refine cTexts (x3.sub hc4.sub0) fun a5 c5 B5 h5 hb5 hc5 => ⟨_, _, _, rfl, cRTexts ((l3.sub hc4.sub0).sub hc5.sub0) hm h48 fun a6 c6 B6 h6 hb6 hc6 => ⟨_, _, _, rfl, cSameTexts (hb5.sub hc6.sub0).sr hb6.sr (by rw [texts_len]; decide) ⟨_, rfl, ?_⟩⟩⟩
      rw [decide_eq_true rfl]
      exact hk _ ((s1.tr s3).tr (hc4.sub0.tr (hc5.sub0.tr hc6.sub0)))
end TL

namespace TL
open Go Go.Proofs
variable {B : List Nat} {h : PH} {K : Value → PH → Prop}

variable {oA : Option Addr} {oC : Nat} {ops : List OpR}
/-! ### What statements go through -/
variable {pA : Option Addr} {pC : Nat} {prs : List PrR}
theorem cGreatPairs (hl : SR EncPr h pA prs) (hk : K (.bool (gPrs prs)) h) : CallH Tryz.prog id_law13_GreatPairs [.slice pA prs.length pC] K h := by
  refine F_law13_GreatPairs_ok ⟨fun e => ?_, fun e => ?_⟩
  · have e : 200 < prs.length := by simp at e; omega
    simpa [gPrs, e] using hk
  · have e0 : ¬ 200 < prs.length := by simp at e; omega
    refine LoopP.ind (fun (z : Int × Unit) h' => h' = h ∧ (0 ≤ z.1 ∧ z.1 ≤ prs.length) ∧ ∀ j : Nat, (hj : j < prs.length) → (j : Int) < z.1 → (decide (1000 < prs[j].p.length) || decide (1000 < prs[j].v.length)) = false) (fun z _ => (prs.length - z.1).toNat) ?_ ⟨rfl, ⟨by decide, by show (0 : Int) ≤ _; omega⟩, fun j _ hj => by simp only at hj; omega⟩
    rintro ⟨i, u⟩ h1 ⟨rfl, ⟨i0, i1⟩, ha⟩
    dsimp only at i0 i1 ha ⊢
    refine ⟨fun e => ?_, fun e => ?_⟩
    · have e : i < prs.length := by simpa using e
      have hit : i.toNat < prs.length := by omega
      obtain ⟨b, o, hA, hr⟩ := hl.get hit
      have s1 : (decide (((mk prs[i.toNat].p).size : Int) > (1000 : Int)) || decide (((mk prs[i.toNat].v).size : Int) > (1000 : Int))) = (decide (1000 < prs[i.toNat].p.length) || decide (1000 < prs[i.toNat].v.length)) := by
        rw [size_mk, size_mk]
        congr 1 <;> (rw [decide_eq_decide]; omega)
      refine ⟨b, o, ⟨hA, i0, e⟩, _, hr _ 0 1 rfl (by decide), b, o, fun _ => ⟨hA, i0, e⟩, _, fun _ => hr _ 1 1 rfl (by decide), fun e2 => ?_, fun e2 => ?_⟩
      · rw [s1] at e2
        have : gPrs prs = true := by
          simp only [gPrs, Bool.or_eq_true, List.any_eq_true]
          exact .inr ⟨_, List.getElem_mem hit, by simpa using e2⟩
        rw [this] at hk; exact hk
      · rw [s1] at e2
        rw [wrap64 (n := i + 1) (by omega) (by omega)]
        refine ⟨⟨rfl, ⟨by omega, by omega⟩, fun j hj hji => ?_⟩, by omega⟩
        by_cases hji2 : (j : Int) < i
        · exact ha j hj hji2
        · have : j = i.toNat := by omega
          subst this; exact e2
    · have e : i = prs.length := by simp at e; omega
      have : gPrs prs = false := by
        simp only [gPrs, Bool.or_eq_false_iff, List.any_eq_false]
        refine ⟨by simpa using e0, fun o ho => ?_⟩
        obtain ⟨j, hj, rfl⟩ := List.getElem_of_mem ho
        have := ha j hj (by omega)
        simpa using this
      rw [this] at hk; exact hk
variable {rA eA : Option Addr} {rC eN eC : Nat} {rows : List OsR} {i0 i1 : Int}
end TL
