/-
  The document's hash (layer 2): Sum. No condition.
-/
import Derived.Test.YtmcgndbfoebcnaaGreatPartD
import Derived.Shelf.SlSortCmp.InsertionK
import Derived.Lib.Bytealg
import Derived.Lib.Walk
import Derived.WalkKit
import Derived.Shelf.SlSortCmp.NoneTotal
import Derived.Shelf.SlSortCmp.WholeK
import Derived.Test.YtmcgndbfoebcnaaGreatProg
import Derived.Test.YtmcgndbfoebcnaaGreatPartC
import Derived.Shelf.SlIter.Collect
import Derived.Deep.RegionHeld3
import Derived.Test.YtmcgndbfoebcnaaGreatPartB
namespace TL
open Go Go.Proofs
variable {B : List Nat} {h : PH} {K : Value → PH → Prop}

/-- a row of bytes of one's own, behind whose cells something may be marked -/
def BufU (B : List Nat) (h : PH) (a : Option Addr) (n c : Nat) (l : List UInt8) : Prop :=
  n = l.length ∧ ∃ b tail fr, a = some ⟨b, 0, none⟩ ∧ B = [b] ∧ h b = some (.cells (EncB.row l ++ tail).toArray 5 fr) ∧ Unfr (EncB.row l ++ tail).toArray fr ∧ tail.length = c - n ∧ n ≤ c
theorem BufU.sr {a : Option Addr} {n c : Nat} {l : List UInt8} (x : BufU B h a n c l) : SR EncB h a l := by
  obtain ⟨rfl, b, tail, fr, e, _, hb, _⟩ := x
  refine .inr ⟨b, 0, e, ?_⟩
  rw [rds_of hb (by rw [List.length_append, EncB.row_len]; omega)]
  rw [← EncB.row_len, List.drop_zero, List.take_left]
theorem BufU.sub {a : Option Addr} {n c : Nat} {l : List UInt8} {h' : PH} (x : BufU B h a n c l) (s : h.Sub h') : BufU B h' a n c l := by
  obtain ⟨rfl, b, tail, fr, e, hB, hb, hr⟩ := x
  exact ⟨rfl, b, tail, fr, e, hB, s _ _ hb, hr⟩
theorem BufU.put {a : Option Addr} {n c : Nat} {l : List UInt8} {v : UInt8} {K : Option Addr → Nat → Nat → PH → Prop} (x : BufU B h a n c l) (hn : n ≤ 140737488355327) (hk : ∀ a' c' B' h', BufU B' h' a' (n + 1) c' (l ++ [v]) → Chg B B' h h' → K a' (n + 1) c' h') :
    appH 5 1 1 [.int .u8 (0 : Int)] a n c 1 [.int .u8 (v.toNat : Int)] K h := by
  have hsr := x.sr
  obtain ⟨rfl, b, tail, fr, rfl, rfl, hb, hu, ht, hc⟩ := x
  refine ⟨rfl, fun hle => ⟨fun h0 => by simp at h0, fun _ => ⟨b, 0, rfl, ?_⟩⟩, fun hlt => ⟨by omega, EncB.row l, hsr.src, fun c' hc' _ b2 hb2 => ?_⟩⟩
  · refine ⟨_, _, _, hb, hu, ?_, ?_⟩
    · simp only [List.size_toArray, List.length_append, EncB.row_len, List.length_cons, List.length_nil]
      show 0 + l.length * 1 + 1 ≤ l.length * 1 + tail.length
      omega
    · cases tail with
      | nil => simp at ht; omega
      | cons z tail =>
        have hlen : (EncB.row l).length = 0 + l.length * 1 := by rw [EncB.row_len, Nat.zero_add]; rfl
        have hsp : splice (EncB.row l ++ z :: tail).toArray (0 + l.length * 1) [.int .u8 (v.toNat : Int)] = (EncB.row (l ++ [v]) ++ tail).toArray := by
          unfold splice
          rw [← hlen, List.take_left, EncB.row_app]
          congr 1
          rw [← List.drop_drop, List.drop_left]
          rfl
        rw [hsp]
        refine hk _ c [b] _ ⟨by simp, b, tail, fr, rfl, rfl, PH.upd_same _ _ _, ?_, ?_, hle⟩ (Chg.upd _)
        · unfold Unfr at hu ⊢
          rcases hu with hu | hu
          · exact .inl hu
          · refine .inr ?_
            simp only [List.size_toArray, List.length_append, EncB.row_len, List.length_cons] at hu ⊢
            have : EncB.k = 1 := rfl
            rw [this] at hu ⊢
            simp only [List.length_nil]
            omega
        · simp only [List.length_cons] at ht; omega
  · refine hk _ c' [b2] _ ⟨by simp, b2, (List.replicate (c' - (l.length + 1)) [Value.int .u8 (0 : Int)]).flatten, (0, 0), rfl, rfl, ?_, unfr0 _, by simp, hc'⟩ ((Chg.new _ hb2).sub (by simp) (by simp))
    rw [PH.upd_same, EncB.row_app, List.append_assoc]; rfl
theorem put_at {α β : Type} {L : List α} {i m : Nat} (f : α → β) (d : β) (h : i < L.length) (hm : i < m) (x : β) (hx : x = f L[i]) : ((L.take i).map f ++ List.replicate (m - i) d).set i x = (L.take (i + 1)).map f ++ List.replicate (m - (i + 1)) d := by
  have e : m - i = (m - (i + 1)) + 1 := by omega
  have hl : ((L.take i).map f).length = i := by rw [List.length_map, List.length_take]; omega
  rw [List.set_append_right _ _ (by omega), hl, Nat.sub_self, e, List.replicate_succ, List.set_cons_zero, hx, ← List.take_append_getElem h, List.map_append, List.append_assoc]
  rfl
theorem outN_get : ∀ (H : List Nat) (i : Nat), i < 4 * H.length → (outN H).getD i 0 = UInt8.ofNat (H.getD (i / 4) 0 / 2 ^ (24 - 8 * (i % 4)))
  | [], i, h => by simp at h
  | x :: r, i, h => by
    unfold outN
    rw [List.flatMap_cons]
    by_cases h4 : i < 4
    · have : i = 0 ∨ i = 1 ∨ i = 2 ∨ i = 3 := by omega
      rcases this with rfl | rfl | rfl | rfl <;> rfl
    · have ih := outN_get r (i - 4) (by simp at h; omega)
      unfold outN at ih
      rw [List.getD_eq_getElem?_getD, List.getElem?_append_right (by rw [beB_len]; omega), beB_len, ← List.getD_eq_getElem?_getD, ih]
      have e1 : i / 4 = (i - 4) / 4 + 1 := by omega
      have e2 : i % 4 = (i - 4) % 4 := by omega
      rw [e1, e2, List.getD_cons_succ]
def padZ (s : List UInt8) (j : Nat) : List UInt8 := s ++ 128 :: List.replicate j 0
theorem beB_take (x : Nat) : ∀ i : Nat, i < 8 → (beB 8 x)[i]? = some (UInt8.ofNat (x / 2 ^ (8 * (7 - i)))) := by
  intro i hi
  have : i = 0 ∨ i = 1 ∨ i = 2 ∨ i = 3 ∨ i = 4 ∨ i = 5 ∨ i = 6 ∨ i = 7 := by omega
  rcases this with rfl | rfl | rfl | rfl | rfl | rfl | rfl | rfl <;> rfl
theorem cRSum {s : List UInt8} (hs : s.length ≤ 1000000) (hk : ∀ h', h.Sub h' → K (.agg (((bi (shaN s)).map (Value.int .u8) ++ [])).toArray) h') : CallH Tryz.prog id_ref02_Sum [.string (mk s)] K h := by
  refine F_ref02_Sum_ok (cPrimes fun pA pC Bp h1 hb1 hc1 => ⟨_, _, _, rfl, ?_⟩)
  have h310 := pr310
  have sp := hb1.sr
  refine LoopP.ind (fun (z : Int × List Int × List Int × Unit) h' => ∃ i : Nat, z.1 = i ∧ i ≤ 64 ∧ z.2.1 = (kN.take i).map Int.ofNat ++ List.replicate (64 - i) 0 ∧ z.2.2.1 = (h0N.take i).map Int.ofNat ++ List.replicate (8 - i) 0 ∧ h' = h1) (fun z _ => (64 - z.1).toNat) ?_ ⟨0, rfl, by omega, rfl, rfl, rfl⟩
  rintro ⟨zi, zk, zh, u⟩ h2 ⟨i, hzi, hi, hzk, hzh, rfl⟩
  dsimp only at hzi hzk hzh
  subst hzi hzk hzh
  dsimp only
  refine ⟨fun e => ?_, fun e => ?_⟩
  · have e : i < 64 := by simp at e; omega
    have hit : ((i : Nat) : Int).toNat = i := by omega
    have hw : IntKind.wrap .i64 (((i : Nat) : Int) + (1 : Int)) = ((i + 1 : Nat) : Int) := by rw [wrap64] <;> omega
    obtain ⟨b, o, hA, hr⟩ := sp.get (i := i) (by omega)
    have hr := hr _ 0 1 rfl (by decide)
    have hg : (prF 310)[i]'(by omega) = (prF 310).getD i 0 := by rw [List.getD_eq_getElem?_getD, List.getElem?_eq_getElem (by omega)]; rfl
    have hk3 := beh3 i e
    have hki : kN.getD i 0 = kN[i]'(show i < 64 from e) := by rw [List.getD_eq_getElem?_getD, List.getElem?_eq_getElem (show i < kN.length from e)]; rfl
    have hpk := put_at (L := kN) (i := i) (m := 64) Int.ofNat (0 : Int) (show i < 64 from e) e ((behN ((prF 310).getD i 0) true : Nat) : Int) (by rw [hk3, hki]; rfl)
    rw [hit, hw]
    refine ⟨b, o, ⟨hA, by omega, by omega⟩, _, hr, cBehind ⟨_, rfl, ⟨by omega, by omega⟩, by omega, fun e2 => ?_, fun e2 => ?_⟩⟩
    · have e2 : i < 8 := by simp at e2; omega
      have hk2 := beh2 i e2
      have hhi : h0N.getD i 0 = h0N[i]'(show i < 8 from e2) := by rw [List.getD_eq_getElem?_getD, List.getElem?_eq_getElem (show i < h0N.length from e2)]; rfl
      have hph := put_at (L := h0N) (i := i) (m := 8) Int.ofNat (0 : Int) (show i < 8 from e2) e2 ((behN ((prF 310).getD i 0) false : Nat) : Int) (by rw [hk2, hhi]; rfl)
      refine ⟨b, o, ⟨hA, by omega, by omega⟩, _, hr, cBehind ⟨_, rfl, ⟨by omega, by omega⟩, by omega, ⟨i + 1, rfl, by omega, ?_, ?_, rfl⟩, by omega⟩⟩
      · rw [hg, Nat.mul_one]; exact hpk
      · rw [hg, Nat.mul_one]; exact hph
    · have e2 : 8 ≤ i := by simp at e2; omega
      refine ⟨⟨i + 1, rfl, by omega, ?_, ?_, rfl⟩, by omega⟩
      · rw [hg, Nat.mul_one]; exact hpk
      · rw [List.take_of_length_le (show h0N.length ≤ i + 1 by show 8 ≤ _; omega), List.take_of_length_le (show h0N.length ≤ i from e2), show 8 - i = 0 by omega, show 8 - (i + 1) = 0 by omega]
  have e : i = 64 := by simp at e; omega
  subst e
  have ek : (kN.take 64).map Int.ofNat ++ List.replicate (64 - 64) 0 = iv kN := by rfl
  have eh : (h0N.take 64).map Int.ofNat ++ List.replicate (8 - 64) 0 = iv (blks 0 h0N []) := by rfl
  rw [ek, eh]
  clear ek eh sp hb1
  have s1 : h.Sub h2 := hc1.sub0
  intro cap hcap b hb0
  have hcap : s.length ≤ cap := by rw [size_mk] at hcap; exact hcap
  have hbx : (h2.upd b (.cells (byteVs (mk s) ++ List.replicate (cap - ByteArray.size (mk s)) (Value.int .u8 0)).toArray 5 (cap, cap + 1))) b = _ := PH.upd_same ..
  have hcx := Chg.new (.cells (byteVs (mk s) ++ List.replicate (cap - ByteArray.size (mk s)) (Value.int .u8 0)).toArray 5 (cap, cap + 1)) hb0
  generalize h2.upd b (.cells (byteVs (mk s) ++ List.replicate (cap - ByteArray.size (mk s)) (Value.int .u8 0)).toArray 5 (cap, cap + 1)) = h3 at hbx hcx
  rw [size_mk, byteVs_mk] at hbx
  have x3 : BufU [b] h3 (some ⟨b, 0, none⟩) s.length cap s := ⟨rfl, b, List.replicate (cap - s.length) (Value.int .u8 0), (cap, cap + 1), rfl, rfl, hbx, .inr (by simp only [List.size_toArray, List.length_append, EncB.row_len, List.length_replicate]; show s.length * 1 + (cap - s.length) ≤ cap; omega), by simp, hcap⟩
  have c3 : Chg [] [b] h2 h3 := hcx
  rw [size_mk]
  refine x3.put (v := 128) (by omega) fun a4 cc4 B4 h4 x4 c4 => ?_
  have c4 : Chg [] B4 h2 h4 := c3.trans c4
  have hz64 : zrs s.length < 64 := by unfold zrs; omega
  refine LoopP.ind (fun (z : (Option Addr × Nat × Nat) × Unit) h' => ∃ (j : Nat) (B' : List Nat), j ≤ zrs s.length ∧ BufU B' h' z.1.1 z.1.2.1 z.1.2.2 (padZ s j) ∧ Chg [] B' h2 h') (fun z _ => s.length + 200 - z.1.2.1) ?_ ⟨0, B4, by omega, x4, c4⟩
  rintro ⟨⟨oA, oN, oC⟩, u⟩ h5 ⟨j, B5, hj, x5, c5⟩
  dsimp only at x5
  dsimp only
  have hn5 : oN = s.length + 1 + j := by rw [x5.1]; simp [padZ]; omega
  have htm : (((oN : Nat) : Int).tmod (64 : Int)) = ((oN % 64 : Nat) : Int) := by
    rw [Int.tmod_eq_emod_of_nonneg (by omega)]; exact (Int.natCast_emod _ _).symm
  rw [htm]
  refine ⟨fun e => ?_, fun e => ?_⟩
  · have e : oN % 64 ≠ 56 := fun h => by rw [h] at e; simp at e
    have hjz : j < zrs s.length := by unfold zrs at hj ⊢; omega
    refine x5.put (v := 0) (by omega) fun a' c' B' h' x' cc' => ⟨⟨j + 1, B', by omega, ?_, c5.trans cc'⟩, by omega⟩
    have : padZ s (j + 1) = padZ s j ++ [0] := by
      unfold padZ
      rw [List.replicate_succ']; simp
    rw [this]; exact x'
  have e : oN % 64 = 56 := by simp at e; omega
  have hjz : j = zrs s.length := by unfold zrs at hj ⊢; omega
  subst hjz
  have hm8 : IntKind.wrap .u64 ((IntKind.wrap .u64 ((s.length : Nat) : Int)) * (8 : Int)) = ((s.length * 8 : Nat) : Int) := by
    rw [wrap_u64 (n := ((s.length : Nat) : Int)) (by omega) (by omega), wrap_u64 (by omega) (by omega)]; omega
  rw [hm8]
  refine LoopP.ind (fun (z : (Option Addr × Nat × Nat) × Int × Unit) h' => ∃ (q : Nat) (B' : List Nat), q ≤ 8 ∧ z.2.1 = (7 : Int) - q ∧ BufU B' h' z.1.1 z.1.2.1 z.1.2.2 (padZ s (zrs s.length) ++ (beB 8 (s.length * 8)).take q) ∧ Chg [] B' h2 h') (fun z _ => (z.2.1 + 1).toNat) ?_ ⟨0, B5, by omega, rfl, by simpa using x5, c5⟩
  rintro ⟨⟨oA, oN, oC⟩, zi, u⟩ h6 ⟨q, B6, hq, hzi, x6, c6⟩
  dsimp only at hzi x6
  subst hzi
  dsimp only
  have hn6 : oN ≤ 2000000 := by
    have h8 : ((beB 8 (s.length * 8)).take q).length ≤ 8 := by rw [List.length_take, beB_len]; omega
    rw [x6.1, List.length_append]
    simp only [padZ, List.length_append, List.length_cons, List.length_replicate]
    omega
  refine ⟨fun e => ?_, fun e => ?_⟩
  · have e : q < 8 := by simp at e; omega
    have w1 : IntKind.wrap .u64 (IntKind.wrap .i64 ((8 : Int) * ((7 : Int) - (q : Nat)))) = ((8 * (7 - q) : Nat) : Int) := by
      rw [wrap64 (by omega) (by omega), wrap_u64 (by omega) (by omega)]; omega
    have w2 : IntKind.wrap .i64 ((7 : Int) - (q : Nat) - 1) = (7 : Int) - ((q + 1 : Nat) : Int) := by rw [wrap64] <;> omega
    rw [w1, w2, shr_nat (by omega)]
    have hv : IntKind.wrap .u8 (((s.length * 8 / 2 ^ (8 * (7 - q)) : Nat) : Nat) : Int) = ((UInt8.ofNat (s.length * 8 / 2 ^ (8 * (7 - q)))).toNat : Int) := by
      simp [IntKind.wrap, IntKind.bits, IntKind.signed]
    rw [hv]
    refine ⟨by omega, x6.put (by omega) fun a' c' B' h' x' cc' => ⟨⟨q + 1, B', by omega, rfl, ?_, c6.trans cc'⟩, by omega⟩⟩
    have hb8 := beB_take (s.length * 8) q e
    obtain ⟨hlt, hget⟩ := List.getElem?_eq_some_iff.1 hb8
    rw [← List.take_append_getElem hlt, hget, ← List.append_assoc]; exact x'
  have e : q = 8 := by simp at e; omega
  subst e
  have hL : padZ s (zrs s.length) ++ (beB 8 (s.length * 8)).take 8 = s ++ padB s.length := by
    rw [List.take_of_length_le (by rw [beB_len]; omega)]
    unfold padZ padB
    rw [Nat.mod_eq_of_lt (by omega)]; simp
  rw [hL] at x6
  have hlen : oN = s.length + (padB s.length).length := by rw [x6.1, List.length_append]
  have hdiv := pad_len s.length
  rw [← hlen] at hdiv
  have hshaN : shaN s = outN (blks (oN / 64) h0N (s ++ padB s.length)) := by rw [hlen]; rfl
  generalize hLL : s ++ padB s.length = L at x6 hshaN
  have hoc : oN ≤ oC := by obtain ⟨_, b, tail, fr, _, _, _, _, _, hc⟩ := x6; exact hc
  have sL := x6.sr
  have hnL := x6.1
  have s26 := c6.sub0
  refine LoopP.ind (fun (z : Int × List Int × Unit) h' => ∃ j : Nat, z.1 = ((64 * j : Nat) : Int) ∧ 64 * j ≤ oN ∧ z.2.1 = iv (blks j h0N L) ∧ h6.Sub h') (fun z _ => (oN - z.1).toNat) ?_ ⟨0, rfl, by omega, rfl, fun _ _ e => e⟩
  rintro ⟨zi, zh, u⟩ h7 ⟨j, hzi, hj, hzh, s7⟩
  dsimp only at hzi hzh
  subst hzi hzh
  dsimp only
  have hbk := blks_ok (l := L) j h0_ok
  refine ⟨fun e => ?_, fun e => ?_⟩
  · have e : 64 * j < oN := by simp at e; omega
    have hj64 : 64 * j + 64 ≤ oN := by omega
    have w1 : IntKind.wrap .i64 (((64 * j : Nat) : Int) + (64 : Int)) = ((64 * (j + 1) : Nat) : Int) := by rw [wrap64] <;> omega
    rw [w1]
    have hsl := (sL.sub s7).slice (lo := 64 * j) (hi := 64 * j + 64) (mx := ((oC : Nat) : Int)) (L := ((64 * j : Nat) : Int)) (by omega) (by omega) (by omega)
    rw [show 64 * j + 64 - 64 * j = 64 by omega] at hsl
    rw [show ((64 * (j + 1) : Nat) : Int).toNat - ((64 * j : Nat) : Int).toNat = 64 by omega]
    refine ⟨⟨by omega, by omega, by omega, by omega⟩, cRTurn hbk k_ok hsl (by rw [List.length_take, List.length_drop]; omega) ⟨iv (turnN (blks j h0N L) (blks j h0N L) kN ((L.drop (64 * j)).take 64)), by rw [iv_len]; exact (turn_ok hbk).1, rfl, ⟨j + 1, rfl, by omega, ?_, s7⟩, by omega⟩⟩
    rw [blks_succ]
  · have e : j = oN / 64 := by simp at e; omega
    subst e
    generalize blks (oN / 64) h0N L = H at hbk hshaN
    have ho32 : (outN H).length = 32 := by rw [outN_len, hbk.1]
    refine LoopP.ind (fun (z : Int × List Int × Unit) h' => ∃ i : Nat, z.1 = i ∧ i ≤ 32 ∧ z.2.1 = ((outN H).take i).map (fun b => (b.toNat : Int)) ++ List.replicate (32 - i) 0 ∧ h' = h7) (fun z _ => (32 - z.1).toNat) ?_ ⟨0, rfl, by omega, rfl, rfl⟩
    rintro ⟨zi, zo, u⟩ h8 ⟨i, hzi, hi, hzo, rfl⟩
    dsimp only at hzi hzo
    subst hzi hzo
    dsimp only
    refine ⟨fun e => ?_, fun e => ?_⟩
    · have e : i < 32 := by simp at e; omega
      have q1 : IntKind.wrap .i64 (((i : Nat) : Int).tdiv (4 : Int)) = ((i / 4 : Nat) : Int) := by
        rw [Int.tdiv_eq_ediv_of_nonneg (by omega), wrap64] <;> omega
      have q2 : IntKind.wrap .u64 (IntKind.wrap .i64 ((24 : Int) - (IntKind.wrap .i64 ((8 : Int) * (((i : Nat) : Int).tmod (4 : Int)))))) = ((24 - 8 * (i % 4) : Nat) : Int) := by
        rw [Int.tmod_eq_emod_of_nonneg (by omega), wrap64 (n := (8 : Int) * _) (by omega) (by omega), wrap64 (by omega) (by omega), wrap_u64 (by omega) (by omega)]; omega
      rw [q1, q2]
      have t1 : ((i / 4 : Nat) : Int).toNat * 1 = i / 4 := by omega
      have t2 : ((i : Nat) : Int).toNat * 1 = i := by omega
      rw [t1, t2, iv_get, shr32 (by omega)]
      have hlt : i < (outN H).length := by omega
      have hg := outN_get H i (by rw [hbk.1]; omega)
      rw [List.getD_eq_getElem?_getD, List.getElem?_eq_getElem hlt, Option.getD_some] at hg
      have hp := put_at (L := outN H) (i := i) (m := 32) (fun b => (b.toNat : Int)) (0 : Int) hlt e (IntKind.wrap .u8 ((H.getD (i / 4) 0 / 2 ^ (24 - 8 * (i % 4)) : Nat) : Int)) (by rw [hg]; simp [IntKind.wrap, IntKind.bits, IntKind.signed])
      refine ⟨⟨by omega, by omega⟩, by omega, by omega, ⟨by omega, by omega⟩, by omega, ⟨i + 1, by rw [wrap64] <;> omega, by omega, ?_, rfl⟩, by rw [wrap64] <;> omega⟩
      exact hp
    · have e : i = 32 := by simp at e; omega
      subst e
      have hfin : ((outN H).take 32).map (fun b => (b.toNat : Int)) ++ List.replicate (32 - 32) 0 = bi (shaN s) := by
        rw [List.take_of_length_le (by omega), Nat.sub_self, List.replicate_zero, List.append_nil, hshaN]; rfl
      rw [hfin]
      exact hk _ ((s1.tr s26).tr s7)
end TL

namespace TL
open Go Go.Proofs
variable {h : PH} {K : Value → PH → Prop} {p : List UInt8}

theorem bi_getD (x : List UInt8) (i : Nat) (hi : i < x.length) : (bi x).getD i 0 = ((x[i].toNat : Nat) : Int) := by
  rw [List.getD_eq_getElem?_getD, List.getElem?_eq_getElem (by rw [bi_len]; exact hi)]
  simp [bi]
theorem SR.oneB {b : Nat} {v : UInt8} {T : TypeId} {fr : Nat × Nat} (hb : h b = some (.cells [Value.int .u8 (v.toNat : Int)].toArray T fr)) : strH h (some ⟨b, 0, none⟩) 1 (mk [v]) := by
  have : SR EncB h (some ⟨b, 0, none⟩) [v] := .inr ⟨b, 0, rfl, by rw [rds_of hb (by simp [EncB])]; rfl⟩
  exact this.str
theorem cRInnerText {x y : List UInt8} (hx : x.length = 32) (hy : y.length = 32) (hk : ∀ h', h.Sub h' → K (.string (mk (innT x y))) h') :
    CallH Tryz.prog id_ref15_InnerText [.agg (((bi x).map (Value.int .u8) ++ [])).toArray, .agg (((bi y).map (Value.int .u8) ++ [])).toArray] K h := by
  refine F_ref15_InnerText_ok (by rw [bi_len, hx]) (by rw [bi_len, hy]) (LoopP.ind (fun (z : ByteArray × Int × Unit) h' => ∃ i : Nat, z.1 = mk (78 :: x.take i) ∧ z.2.1 = i ∧ i ≤ 32 ∧ h.Sub h') (fun z _ => (32 - z.2.1).toNat) ?_ ⟨0, rfl, rfl, by omega, fun _ _ e => e⟩)
  rintro ⟨zs, zi, u⟩ h1 ⟨i, hzs, hzi, hi, s1⟩
  dsimp only at hzs hzi
  subst hzs hzi
  dsimp only
  refine ⟨fun e => ?_, fun e => ?_⟩
  · have e : i < 32 := by simp at e; omega
    have hit : ((i : Nat) : Int).toNat * 1 = i := by omega
    rw [hit, bi_getD x i (by omega)]
    refine ⟨⟨by omega, by omega⟩, by omega, nwL fun b h2 _ hb2 c2 => ⟨_, SR.oneB hb2, ?_, ⟨i + 1, ?_, by rw [wrap64] <;> omega, by omega, s1.tr c2.sub0⟩, by rw [wrap64] <;> omega⟩⟩
    · rw [size_mk, size_mk]; simp; omega
    · rw [mk_append, ← List.take_append_getElem (show i < x.length by omega)]; rfl
  · have e : i = 32 := by simp at e; omega
    subst e
    rw [List.take_of_length_le (by omega)]
    refine LoopP.ind (fun (z : ByteArray × Int × Unit) h' => ∃ i : Nat, z.1 = mk (78 :: (x ++ y.take i)) ∧ z.2.1 = i ∧ i ≤ 32 ∧ h.Sub h') (fun z _ => (32 - z.2.1).toNat) ?_ ⟨0, by simp, rfl, by omega, s1⟩
    rintro ⟨zs, zi, u⟩ h3 ⟨i, hzs, hzi, hi, s3⟩
    dsimp only at hzs hzi
    subst hzs hzi
    dsimp only
    refine ⟨fun e => ?_, fun e => ?_⟩
    · have e : i < 32 := by simp at e; omega
      have hit : ((i : Nat) : Int).toNat * 1 = i := by omega
      rw [hit, bi_getD y i (by omega)]
      refine ⟨⟨by omega, by omega⟩, by omega, nwL fun b h2 _ hb2 c2 => ⟨_, SR.oneB hb2, ?_, ⟨i + 1, ?_, by rw [wrap64] <;> omega, by omega, s3.tr c2.sub0⟩, by rw [wrap64] <;> omega⟩⟩
      · rw [size_mk, size_mk]; simp; omega
      · rw [mk_append, ← List.take_append_getElem (show i < y.length by omega)]; simp
    · have e : i = 32 := by simp at e; omega
      subst e
      rw [List.take_of_length_le (by omega)]
      exact hk _ s3
end TL

namespace TL
open Go Go.Proofs
variable {b : Nat} {h : PH} {K : Value → PH → Prop} {P : Nat → PtR} {g : Nat → List UInt8} {n : Nat} {S : List PrR}

theorem perm_parts : ∀ (m : Nat) (S : List PrR), (∀ x ∈ S, bkt x.p < m) → ((List.range m).flatMap fun i => partB S i).Perm S
  | 0, S, h => by
    have : S = [] := by
      cases S with
      | nil => rfl
      | cons x r => have := h x List.mem_cons_self; omega
    subst this; exact List.Perm.refl _
  | m + 1, S, h => by
    rw [List.range_succ, List.flatMap_append]
    have h1 := perm_parts m (S.filter fun x => !(bkt x.p == m)) fun x hx => by
      obtain ⟨hx, hn⟩ := List.mem_filter.1 hx
      have := h x hx
      simp at hn; omega
    have h2 : ((List.range m).flatMap fun i => partB (S.filter fun x => !(bkt x.p == m)) i) = (List.range m).flatMap fun i => partB S i := by
      apply congrArg List.flatten
      apply List.map_congr_left
      intro i hi
      have hi := List.mem_range.1 hi
      unfold partB
      rw [List.filter_filter]
      apply List.filter_congr
      intro x _
      by_cases e : bkt x.p = i
      · simp [e]; omega
      · simp [e]
    rw [h2] at h1
    have h3 : ([m].flatMap fun i => partB S i) = S.filter fun x => bkt x.p == m := by simp [partB]
    rw [h3]
    refine (h1.append_right _).trans ?_
    refine List.perm_append_comm.trans ?_
    exact List.filter_append_perm _ _
/-- a rising row is one with its rows in whatever other row -/
theorem up_unique {l : List PrR} (hu : Up S) (hp : l.Perm S) (hs : l.Pairwise fun a b => ¬ b.p < a.p) : l = S := by
  have hnd : (l.map (·.p)).Nodup := (hp.map (·.p)).nodup_iff.2 hu.nodup
  have hul : Up l := by
    rw [List.Nodup, List.pairwise_map] at hnd
    exact (hs.and hnd).imp fun ⟨h1, h2⟩ => lt_of_not h1 (fun e => h2 e.symm)
  refine Up.ext hul hu fun p => ?_
  cases e : look S p with
  | none =>
    rw [look_none] at e ⊢
    exact fun x hx => e x (hp.mem_iff.1 hx)
  | some v =>
    have := look_of_mem hul (hp.mem_iff.2 (look_mem e))
    exact this
end TL

namespace TL
open Go Go.Proofs Go.Shelf Go.RowKit Go.Lib Go.Sort

set_option maxHeartbeats 1000000 in
set_option maxRecDepth 100000 in
theorem walkCompareString (a b : ByteArray) (w : World) :
    Calls Tryz.prog 160 #[.string a, .string b] w fun e w' => e = .returned (.int .i64 (Lib.compareBytes a.data.toList b.data.toList)) ∧ w' = w := by
  go_enter Tryz.func160, Tryz.ntmps160
  go_wp2
  rw [run_callFunc_extern Tryz.func188 (by kernel_rfl) (by kernel_rfl) (by kernel_rfl) (e := Extern.BytealgCompare.compare) (by kernel_rfl), Lib.run_compareString]
  simp only [Result.andThen]
  rw [Oper.upon_value]
  go_wp2
  go_ret
  exact ⟨rfl, rfl⟩
set_option maxHeartbeats 1000000 in
theorem walkCompare (a b : ByteArray) (w : World) :
    Calls Tryz.prog 123 #[.string a, .string b] w fun e w' => e = .returned (.int .i64 (Lib.compareBytes a.data.toList b.data.toList)) ∧ w' = w := by
  have hcon := fun W => walkCompareString a b W
  generalize Lib.compareBytes a.data.toList b.data.toList = r at hcon ⊢
  go_enter Tryz.func123, Tryz.ntmps123
  go_wp2_with (go_at_call 160; refine (hcon _).mono ?_; rintro e w' ⟨rfl, rfl⟩)
  go_ret
  exact ⟨rfl, rfl⟩
end TL

namespace TL
open Go Go.Proofs Go.Shelf Go.RowKit Go.Lib Go.Sort
variable {P : Program} {ρ : Ren}
instance : Inhabited PrR := ⟨⟨[], []⟩⟩
theorem putCells_row {F old tail : List Value} (h : old.length = F.length) : putCells id 0 F.toArray (old ++ tail).toArray = (F ++ tail).toArray := by
  unfold putCells
  apply Array.ext
  · simp [h]
  · intro i h1 h2
    simp only [Array.getElem_mapIdx, Nat.zero_le, true_and, Nat.zero_add, List.size_toArray, Nat.sub_zero, id]
    by_cases hi : i < F.length
    · rw [if_pos hi, getElem!_pos _ i (by simpa using hi)]
      simp only [List.getElem_toArray]
      rw [List.getElem_append_left hi]
    · rw [if_neg hi]
      simp only [List.getElem_toArray]
      rw [List.getElem_append_right (by omega), List.getElem_append_right (by omega)]
      simp only [h]
theorem flatK_row (l : List PrR) : flatK EncPr.enc 2 l.toArray = (EncPr.row l).toArray := by
  apply Array.ext
  · rw [size_flatK]; simp [EncPr.row_len]; rfl
  · intro t h1 h2
    have h1' : t < l.length * 2 := by rw [size_flatK] at h1; simpa using h1
    have hg := get_flatK EncPr.enc 2 l.toArray t (by simpa using h1')
    rw [getElem!_pos _ t h1] at hg
    rw [hg]
    have hi : t / 2 < l.length := by omega
    have hf := EncPr.row_field (i := t / 2) (f := t % 2) (m := 1) [] hi (by show t % 2 + 1 ≤ 2; omega)
    have ht : t / 2 * EncPr.k + t % 2 = t := by show t / 2 * 2 + t % 2 = t; omega
    rw [ht, List.append_nil] at hf
    have hl : t < (EncPr.row l).length := by rw [EncPr.row_len]; exact h1'
    have hl2 : t % 2 < (EncPr.enc l[t / 2]).length := by rw [EncPr.len]; show t % 2 < 2; omega
    rw [take1 hl, take1 hl2] at hf
    have hf : (EncPr.row l)[t] = (EncPr.enc l[t / 2])[t % 2] := by simpa using hf
    simp only [List.getElem_toArray]
    rw [hf]
    have e1 : l.toArray[t / 2]! = l[t / 2] := by rw [getElem!_pos _ _ (by simpa using hi)]; simp
    rw [e1]; exact getElem!_pos (EncPr.enc l[t / 2]) (t % 2) hl2
/-- how two pairs are ordered -/
def cmpP (x y : PrR) : Int := Lib.compareBytes x.p y.p
theorem cmpLt (hc : ∀ a b : List UInt8, Lib.compareBytes a b < 0 ↔ a < b) (x y : PrR) : ltOf cmpP x y = decide (x.p < y.p) := by
  unfold ltOf cmpP
  rw [decide_eq_decide]; exact hc _ _
theorem swoP (hc : ∀ a b : List UInt8, Lib.compareBytes a b < 0 ↔ a < b) : SWO (ltOf cmpP) where
  irrefl x := by rw [cmpLt hc]; exact decide_eq_false (List.lt_irrefl x.p)
  trans x y z h1 h2 := by
    rw [cmpLt hc] at *
    simp only [decide_eq_true_eq] at *
    exact List.lt_trans h1 h2
  ntrans x y z h1 h2 := by
    rw [cmpLt hc] at *
    simp only [decide_eq_false_iff_not] at *
    intro h3
    by_cases e : x.p = y.p
    · rw [e] at h3; exact h2 h3
    · have := lt_of_not h1 e
      by_cases e2 : z.p < y.p
      · exact h1 (List.lt_trans h3 e2)
      · by_cases e3 : z.p = y.p
        · rw [e3] at h3; exact h1 h3
        · exact h2 (lt_of_not e2 e3)
theorem sort_frm {h : PH} {w : World} (hi : h.In w) {b : Nat} {l l' : List PrR} {tail : List Value} {T : TypeId} (hb : h b = some (.cells (EncPr.row l ++ tail).toArray T (0, 0))) (hl : l'.length = l.length) (m : Nat) (os : Array Obj) :
    Frm h w (h.upd b (.cells (EncPr.row l' ++ tail).toArray T (0, 0))) (sortWorldK EncPr.enc 2 w b 0 m l'.toArray os) := by
  have hw := hi _ _ hb
  have hheap : (sortWorldK EncPr.enc 2 w b 0 m l'.toArray os).heap = w.heap.modify b (onCells (putCells id 0 (flatK EncPr.enc 2 l'.toArray))) ++ os := rfl
  have hlt := hi.lt hb
  have hcell : (w.heap.modify b (onCells (putCells id 0 (flatK EncPr.enc 2 l'.toArray))))[b]? = some (.cells (EncPr.row l' ++ tail).toArray T (0, 0)) := by
    rw [Array.getElem?_modify, if_pos rfl, hw, Option.map_some]
    show some (Obj.cells (putCells id 0 (flatK EncPr.enc 2 l'.toArray) (EncPr.row l ++ tail).toArray) T (0, 0)) = _
    rw [flatK_row, putCells_row (by rw [EncPr.row_len, EncPr.row_len, hl])]
  have hold : ∀ x, x ≠ b → (w.heap.modify b (onCells (putCells id 0 (flatK EncPr.enc 2 l'.toArray))))[x]? = w.heap[x]? := fun x hx => by
    rw [Array.getElem?_modify, if_neg (fun e => hx e.symm)]
  have happ : ∀ x, x < w.heap.size → (sortWorldK EncPr.enc 2 w b 0 m l'.toArray os).heap[x]? = (w.heap.modify b (onCells (putCells id 0 (flatK EncPr.enc 2 l'.toArray))))[x]? := fun x hx => by
    rw [hheap, Array.getElem?_append_left (by rw [Array.size_modify]; exact hx)]
  refine ⟨fun x o e => ?_, ?_, fun x hx e => ⟨?_, ?_⟩, rfl, rfl⟩
  · by_cases hxb : x = b
    · subst hxb
      rw [PH.upd_same] at e; cases e
      rw [happ _ hlt, hcell]
    · rw [PH.upd_ne _ _ hxb] at e
      rw [happ _ (hi.lt e), hold x hxb, hi _ _ e]
  · rw [hheap, Array.size_append, Array.size_modify]; omega
  · rw [PH.upd_ne _ _ (fun hxb => by subst hxb; rw [hb] at e; cases e)]; exact e
  · rw [happ _ hx, hold x (fun hxb => by subst hxb; rw [hb] at e; cases e)]
end TL

namespace TL
open Go Go.Proofs Go.Shelf Go.RowKit Go.Lib Go.Sort
variable {P : Program} {ρ : Ren}
theorem holds_row {h : PH} {w : World} (hi : h.In w) {b : Nat} {l : List PrR} {tail : List Value} {T : TypeId} (hb : h b = some (.cells (EncPr.row l ++ tail).toArray T (0, 0))) : HoldsK EncPr.enc 2 w b 0 l.toArray := by
  intro j hj
  rw [size_flatK] at hj
  have hw := hi _ _ hb
  have hlen : (EncPr.row l).length = l.length * 2 := EncPr.row_len l
  have hj2 : j < (EncPr.row l).length := by rw [hlen]; simpa using hj
  refine ⟨?_, ?_⟩
  · rw [flatK_row, getElem!_pos _ j (by simpa using hj2)]
    simp only [World.cell?, hw, Nat.zero_add, id, List.getElem_toArray]
    rw [List.getElem?_toArray, List.getElem?_append_left hj2, List.getElem?_eq_getElem hj2]
    rfl
  · simp [World.frozen?, hw]
theorem ext_all {d d' : Array PrR} (h : PermIn 0 d.size d d') : d'.toList.Perm d.toList ∧ d'.size = d.size := by
  obtain ⟨h1, _, h2⟩ := h
  have e1 : d.extract 0 d.size = d := by simp
  have e2 : d'.extract 0 d.size = d' := by rw [← h1]; simp
  rw [e1, e2] at h2
  exact ⟨h2, h1⟩
theorem cmp_iff : ∀ a b : List UInt8, Lib.compareBytes a b < 0 ↔ a < b
  | [], [] => by simp [Lib.compareBytes]
  | [], _ :: _ => by simp [Lib.compareBytes]
  | _ :: _, [] => by simp [Lib.compareBytes]
  | x :: a, y :: b => by
    have ih := cmp_iff a b
    unfold Lib.compareBytes
    simp only [List.cons_lt_cons_iff]
    by_cases h1 : x < y
    · simp [h1]
    · by_cases h2 : y < x
      · have : x ≠ y := fun e => by subst e; exact h1 h2
        simp [h1, h2, this]
      · have : x = y := by
          rcases UInt8.lt_or_eq_of_le (UInt8.not_lt.1 h2) with h | h
          · exact absurd h h1
          · exact h
        subst this
        simp [ih]
theorem cSortPr (L : SlLaysF0.n6 P ρ) (aE : ∀ w, (isAgg (ρ.t 24)).run P w = .ok true w) (zE : ∀ w, (Go.sizeOf (ρ.t 24)).run P w = .ok 2 w) (g : Nat) (eg : ∀ args w, (callFunc g args).run P w = .ok (.enter g args) w)
    (hless : ∀ (a0 a1 b0 b1 : ByteArray) (w : World), Calls P g #[.agg #[.string a0, .string a1], .agg #[.string b0, .string b1]] w fun e w' => e = .returned (.int .i64 (Lib.compareBytes a0.data.toList b0.data.toList)) ∧ ∃ q os', w' = grow (w.drewN q) os')
    {B : List Nat} {h : PH} {K : Value → PH → Prop} {a : Option Addr} {n c : Nat} {l : List PrR} {T : TypeId} (x : Buf EncPr T B h a n c l) (hn : l.length ≤ 1000000)
    (hk : ∀ l' h', l'.Perm l → (l'.Pairwise fun a b => ¬ b.p < a.p) → Buf EncPr T B h' a n c l' → Chg B B h h' → K (.tuple #[]) h') : CallH P (ρ.f 6) [.slice a n c, .func (.func g) #[] #[]] K h := by
  intro w hi
  have hnl := x.1
  by_cases h0 : l = []
  · subst h0
    have hn0 : n = 0 := hnl
    subst hn0
    refine Calls.mono (AnyF.slices_SortFunc_none L a c (.func (.func g) #[] #[]) w) ?_
    rintro e w' ⟨rfl, rfl⟩
    exact ⟨_, h, rfl, hk [] h (List.Perm.refl _) List.Pairwise.nil x (Chg.refl _ _), Frm.refl hi⟩
  · have hx := x
    obtain ⟨_, ⟨_, _, e⟩ | ⟨b, tail, rfl, rfl, hb, ht, hle⟩⟩ := x
    · exact absurd e h0
    have hc : CmpLays P g #[] EncPr.enc 2 cmpP b 0 l.toArray.size w := fun m os dk _ x y => hless _ _ _ _ _
    have hS := AnyQ.slices_SortFunc L 2 aE zE EncPr.enc (fun _ => rfl) (fun x v hv => by
      simp only [EncPr, List.mem_cons, List.not_mem_nil, or_false] at hv
      rcases hv with rfl | rfl <;> rfl) cmpP (swoP cmp_iff) g #[] b 0 c l.toArray w eg hc (holds_row hi hb) (hi.lt hb) (by simp; omega)
    have hsz : l.toArray.size = n := by simp [hnl]
    rw [hsz] at hS
    refine Calls.mono hS ?_
    rintro e w' ⟨rfl, d', m, os, hp, hs, rfl⟩
    rw [← hsz] at hp hs
    obtain ⟨hp1, hp2⟩ := ext_all hp
    have hl' : d'.toList.length = l.length := by rw [Array.length_toList, hp2]; simp
    have hfrm := sort_frm hi hb hl' m os
    rw [Array.toArray_toList] at hfrm
    refine ⟨_, _, rfl, hk d'.toList _ (by simpa using hp1) ?_ ⟨by rw [hl']; exact hnl, .inr ⟨b, tail, rfl, rfl, PH.upd_same _ _ _, ht, hle⟩⟩ (Chg.upd _), hfrm⟩
    rw [List.pairwise_iff_getElem]
    intro i j hi' hj' hij
    have := hs i j (Nat.zero_le _) hij (by rw [← hp2]; simpa using hj')
    rw [cmpLt cmp_iff, getElem!_pos d' j (by simpa using hj'), getElem!_pos d' i (by simpa using hi')] at this
    simpa using this
end TL

namespace Go.Proofs
open Go.Shelf
def Tryz.srtA_ren : Go.Shelf.Ren := ⟨fun | 6 => 121 | 15 => 159 | 14 => 158 | 28 => 186 | 29 => 187 | 20 => 178 | 21 => 179 | 22 => 180 | 23 => 181 | 24 => 182 | 25 => 183 | 26 => 184 | 27 => 185 | 46 => 210 | 47 => 211 | 48 => 212 | 49 => 213 | 50 => 214 | 57 => 225 | n => n, fun | 22 => 27 | 24 => 101 | 25 => 201 | 3 => 3 | 39 => 49 | 0 => 0 | 53 => 239 | 55 => 232 | 4 => 4 | 46 => 257 | 45 => 256 | 50 => 157 | 5 => 5 | 9 => 9 | 66 => 280 | 70 => 284 | 76 => 293 | 77 => 294 | n => n, fun | n => n⟩
theorem Tryz.srtA : Go.Proofs.SlLaysF0.n6 Tryz.prog Tryz.srtA_ren := {
  mixed := by kernel_rfl
  f6 := ⟨Tryz.f121.name, by decide, Tryz.func121.trans (congrArg some (by kernel_rfl))⟩
  f14 := ⟨Tryz.f158.name, by decide, Tryz.func158.trans (congrArg some (by kernel_rfl))⟩
  f15 := Tryz.func159.trans (congrArg some (by kernel_rfl))
  f20 := ⟨Tryz.f178.name, by decide, Tryz.func178.trans (congrArg some (by kernel_rfl))⟩
  f21 := ⟨Tryz.f179.name, by decide, Tryz.func179.trans (congrArg some (by kernel_rfl))⟩
  f22 := ⟨Tryz.f180.name, by decide, Tryz.func180.trans (congrArg some (by kernel_rfl))⟩
  f23 := ⟨Tryz.f181.name, by decide, Tryz.func181.trans (congrArg some (by kernel_rfl))⟩
  f24 := ⟨Tryz.f182.name, by decide, Tryz.func182.trans (congrArg some (by kernel_rfl))⟩
  f25 := ⟨Tryz.f183.name, by decide, Tryz.func183.trans (congrArg some (by kernel_rfl))⟩
  f26 := ⟨Tryz.f184.name, by decide, Tryz.func184.trans (congrArg some (by kernel_rfl))⟩
  f27 := ⟨Tryz.f185.name, by decide, Tryz.func185.trans (congrArg some (by kernel_rfl))⟩
  f28 := Tryz.func186.trans (congrArg some (by kernel_rfl))
  f29 := Tryz.func187.trans (congrArg some (by kernel_rfl))
  f46 := ⟨Tryz.f210.name, by decide, Tryz.func210.trans (congrArg some (by kernel_rfl))⟩
  f47 := Tryz.func211.trans (congrArg some (by kernel_rfl))
  f48 := Tryz.func212.trans (congrArg some (by kernel_rfl))
  f49 := ⟨Tryz.f213.name, by decide, Tryz.func213.trans (congrArg some (by kernel_rfl))⟩
  f50 := ⟨Tryz.f214.name, by decide, Tryz.func214.trans (congrArg some (by kernel_rfl))⟩
  f57 := ⟨Tryz.f225.name, by decide, Tryz.func225.trans (congrArg some (by kernel_rfl))⟩
  t0 := Tryz.underlying0
  a0 := Tryz.isAgg0
  z0 := Tryz.sizeOf0
  v0 := Tryz.zeroValue0
  t3 := Tryz.underlying3
  a3 := Tryz.isAgg3
  z3 := Tryz.sizeOf3
  v3 := Tryz.zeroValue3
  t4 := Tryz.underlying4
  a4 := Tryz.isAgg4
  z4 := Tryz.sizeOf4
  v4 := Tryz.zeroValue4
  t5 := Tryz.underlying5
  a5 := Tryz.isAgg5
  z5 := Tryz.sizeOf5
  v5 := Tryz.zeroValue5
  t9 := Tryz.underlying9
  a9 := Tryz.isAgg9
  z9 := Tryz.sizeOf9
  v9 := Tryz.zeroValue9
  t22 := Tryz.underlying27
  a22 := Tryz.isAgg27
  z22 := Tryz.sizeOf27
  v22 := Tryz.zeroValue27
  t25 := Tryz.underlying201
  a25 := Tryz.isAgg201
  z25 := Tryz.sizeOf201
  v25 := Tryz.zeroValue201
  t39 := Tryz.underlying49
  a39 := Tryz.isAgg49
  z39 := Tryz.sizeOf49
  v39 := Tryz.zeroValue49
  t45 := Tryz.underlying256
  a45 := Tryz.isAgg256
  z45 := Tryz.sizeOf256
  v45 := Tryz.zeroValue256
  t46 := Tryz.underlying257
  a46 := Tryz.isAgg257
  z46 := Tryz.sizeOf257
  v46 := Tryz.zeroValue257
  t50 := Tryz.underlying157
  a50 := Tryz.isAgg157
  z50 := Tryz.sizeOf157
  v50 := Tryz.zeroValue157
  t53 := Tryz.underlying239
  a53 := Tryz.isAgg239
  z53 := Tryz.sizeOf239
  v53 := Tryz.zeroValue239
  t55 := Tryz.underlying232
  a55 := Tryz.isAgg232
  z55 := Tryz.sizeOf232
  v55 := Tryz.zeroValue232
  t66 := Tryz.underlying280
  a66 := Tryz.isAgg280
  z66 := Tryz.sizeOf280
  v66 := Tryz.zeroValue280
  t70 := Tryz.underlying284
  a70 := Tryz.isAgg284
  z70 := Tryz.sizeOf284
  v70 := Tryz.zeroValue284
  t76 := Tryz.underlying293
  a76 := Tryz.isAgg293
  z76 := Tryz.sizeOf293
  v76 := Tryz.zeroValue293
  t77 := Tryz.underlying294
  a77 := Tryz.isAgg294
  z77 := Tryz.sizeOf294
  v77 := Tryz.zeroValue294}
end Go.Proofs

namespace TL
open Go Go.Proofs
variable {B : List Nat} {h : PH} {K : Value → PH → Prop} {a : Option Addr} {n c : Nat} {l : List PrR}
end TL

namespace TL
open Go Go.Proofs
variable {B : List Nat} {h : PH} {K : Value → PH → Prop} {s p q k : List UInt8}

/-! ### The document's functions -/
theorem cRNamed (hk : K (.bool (namedB s)) h) : CallH Tryz.prog id_ref11_Named [.string (mk s)] K h := by
  refine F_ref11_Named_ok ?_
  unfold F_ref11_Named
  rw [size_mk]
  refine ⟨fun e => ?_, fun e => ?_⟩
  · have : namedB s = false := by
      simp only [Bool.or_eq_true, decide_eq_true_eq] at e
      cases hn : namedB s with
      | false => rfl
      | true =>
        simp only [namedB, Bool.and_eq_true, decide_eq_true_eq] at hn
        omega
    rw [this] at hk; exact hk
  · simp only [Bool.or_eq_false_iff, decide_eq_false_iff_not] at e
    refine LoopP.ind (fun (z : Int × Unit) h' => h' = h ∧ (0 ≤ z.1 ∧ z.1 ≤ s.length) ∧ (s.take z.1.toNat).all (fun b => decide (97 ≤ b.toNat) && decide (b.toNat ≤ 122)) = true) (fun z _ => (s.length - z.1).toNat) ?_ ⟨rfl, ⟨by decide, by show (0 : Int) ≤ _; omega⟩, by simp⟩
    rintro ⟨i, u⟩ h1 ⟨rfl, ⟨i0, i1⟩, ha⟩
    dsimp only at i0 i1 ha ⊢
    refine ⟨fun e => ?_, fun e => ?_⟩
    · have e : i < s.length := by simpa using e
      have hit : i.toNat < s.length := by omega
      have hb : byteAt (mk s) i = ((s[i.toNat]).toNat : Int) := by rw [byteAt_mk]; simp [List.getD, hit]
      rw [hb]
      refine ⟨⟨i0, e⟩, fun _ => ⟨i0, e⟩, fun e2 => ?_, fun e2 => ?_⟩
      · have : namedB s = false := by
          have hm := List.getElem_mem hit
          simp only [Bool.or_eq_true, decide_eq_true_eq] at e2
          cases hn : namedB s with
          | false => rfl
          | true =>
            simp only [namedB, Bool.and_eq_true, List.all_eq_true, decide_eq_true_eq] at hn
            have := hn.1 _ hm
            omega
        rw [this] at hk; exact hk
      · simp only [Bool.or_eq_false_iff, decide_eq_false_iff_not] at e2
        rw [wrap64 (n := i + 1) (by omega) (by omega)]
        refine ⟨⟨rfl, ⟨by omega, by omega⟩, ?_⟩, by omega⟩
        rw [show (i + 1).toNat = i.toNat + 1 by omega, List.take_succ_eq_append_getElem hit, List.all_append, ha]
        simp; omega
    · have e' : i = s.length := by simp at e; omega
      rw [e'] at ha
      simp only [Int.toNat_natCast, List.take_length] at ha
      have : namedB s = true := by
        unfold namedB; rw [ha]; simp; omega
      rw [this] at hk; exact hk
theorem cRKey (hk : K (.bool (keyB s)) h) : CallH Tryz.prog id_ref11_Key [.string (mk s)] K h := by
  refine F_ref11_Key_ok ?_
  unfold F_ref11_Key
  rw [size_mk]
  refine ⟨fun e => ?_, fun e => ?_⟩
  · have : keyB s = false := by
      simp only [Bool.or_eq_true, decide_eq_true_eq] at e
      cases hn : keyB s with
      | false => rfl
      | true =>
        simp only [keyB, Bool.and_eq_true, decide_eq_true_eq] at hn
        omega
    rw [this] at hk; exact hk
  · simp only [Bool.or_eq_false_iff, decide_eq_false_iff_not] at e
    refine LoopP.ind (fun (z : Int × Unit) h' => h' = h ∧ (0 ≤ z.1 ∧ z.1 ≤ s.length) ∧ (0 : UInt8) ∉ s.take z.1.toNat ∧ (47 : UInt8) ∉ s.take z.1.toNat) (fun z _ => (s.length - z.1).toNat) ?_ ⟨rfl, ⟨by decide, by show (0 : Int) ≤ _; omega⟩, by simp, by simp⟩
    rintro ⟨i, u⟩ h1 ⟨rfl, ⟨i0, i1⟩, ha, hb'⟩
    dsimp only at i0 i1 ha hb' ⊢
    refine ⟨fun e => ?_, fun e => ?_⟩
    · have e : i < s.length := by simpa using e
      have hit : i.toNat < s.length := by omega
      have hb : byteAt (mk s) i = ((s[i.toNat]).toNat : Int) := by rw [byteAt_mk]; simp [List.getD, hit]
      rw [hb]
      refine ⟨⟨i0, e⟩, fun _ => ⟨i0, e⟩, fun e2 => ?_, fun e2 => ?_⟩
      · have : keyB s = false := by
          have hm := List.getElem_mem hit
          simp only [Bool.or_eq_true, beq_iff_eq] at e2
          cases hn : keyB s with
          | false => rfl
          | true =>
            simp only [keyB, Bool.and_eq_true, decide_eq_true_eq] at hn
            exfalso
            rcases e2 with e2 | e2
            · exact hn.2.1 (by rw [show (0 : UInt8) = s[i.toNat] from UInt8.toNat_inj.1 (by show 0 = _; omega)]; exact hm)
            · exact hn.2.2 (by rw [show (47 : UInt8) = s[i.toNat] from UInt8.toNat_inj.1 (by show 47 = _; omega)]; exact hm)
        rw [this] at hk; exact hk
      · simp only [Bool.or_eq_false_iff, beq_eq_false_iff_ne] at e2
        rw [wrap64 (n := i + 1) (by omega) (by omega)]
        refine ⟨⟨rfl, ⟨by omega, by omega⟩, ?_, ?_⟩, by omega⟩
        · rw [show (i + 1).toNat = i.toNat + 1 by omega, List.take_succ_eq_append_getElem hit]
          intro hm
          rcases List.mem_append.1 hm with hm | hm
          · exact ha hm
          · rw [List.mem_singleton] at hm
            exact e2.1 (by rw [← hm]; rfl)
        · rw [show (i + 1).toNat = i.toNat + 1 by omega, List.take_succ_eq_append_getElem hit]
          intro hm
          rcases List.mem_append.1 hm with hm | hm
          · exact hb' hm
          · rw [List.mem_singleton] at hm
            exact e2.2 (by rw [← hm]; rfl)
    · have e' : i = s.length := by simp at e; omega
      rw [e'] at ha hb'
      simp only [Int.toNat_natCast, List.take_length] at ha hb'
      have : keyB s = true := by
        unfold keyB; simp [ha, hb']; omega
      rw [this] at hk; exact hk
theorem cRCut (hs : p.length ≤ 4611686018427387904) (hk : K (.tuple #[.string (mk (cutV p).1), .string (mk (cutV p).2.1), .bool (cutV p).2.2]) h) : CallH Tryz.prog id_ref11_Cut [.string (mk p)] K h := by
  refine F_ref11_Cut_ok (LoopP.ind (fun (z : Int × Unit) h' => h' = h ∧ (0 ≤ z.1 ∧ z.1 ≤ p.length) ∧ (47 : UInt8) ∉ p.take z.1.toNat) (fun z _ => (p.length - z.1).toNat) ?_ ⟨rfl, ⟨by decide, by show (0 : Int) ≤ _; omega⟩, by simp⟩)
  rintro ⟨i, u⟩ h1 ⟨rfl, ⟨i0, i1⟩, ha⟩
  dsimp only at i0 i1 ha ⊢
  rw [size_mk]
  refine ⟨fun e => ?_, fun e => ?_⟩
  · have e : i < p.length := by simpa using e
    have hit : i.toNat < p.length := by omega
    have hb : byteAt (mk p) i = ((p[i.toNat]).toNat : Int) := by rw [byteAt_mk]; simp [List.getD, hit]
    rw [hb, wrap64 (n := i + 1) (by omega) (by omega)]
    refine ⟨⟨i0, e⟩, fun e2 => ⟨⟨by omega, by omega, by omega⟩, ?_⟩, fun e2 => ?_⟩
    · have hc : p[i.toNat] = 47 := UInt8.toNat_inj.1 (by simp only [beq_iff_eq] at e2; show _ = 47; omega)
      have hsp : p = p.take i.toNat ++ 47 :: p.drop (i.toNat + 1) := by rw [← hc, ← List.drop_eq_getElem_cons hit, List.take_append_drop]
      have e1 : subS (mk p) 0 i = mk (p.take i.toNat) := by rw [subS_mk]; simp
      have e3 : subS (mk p) (i + 1) ((p.length : Nat) : Int) = mk (p.drop (i.toNat + 1)) := by
        rw [subS_mk, show (i + 1).toNat = i.toNat + 1 by omega, List.take_of_length_le (by rw [List.length_drop]; omega)]
      have hval : ∀ m k, cutB p = some (m, k) → m = p.take i.toNat ∧ k = p.drop (i.toNat + 1) := fun m k hmk => by
        obtain ⟨h1, h2, h3⟩ := cut_iff.1 hmk
        have ht1 := take_of (k := k) (named_no h2)
        have ht2 := take_of (m := p.take i.toNat) (k := p.drop (i.toNat + 1)) ha
        rw [← h1] at ht1
        rw [← hsp] at ht2
        rw [ht1] at ht2
        refine ⟨ht2, ?_⟩
        have h4 := h1.symm.trans hsp
        rw [ht2] at h4
        have := List.append_cancel_left h4
        injection this
      rw [e1, e3]
      refine cRNamed ⟨_, rfl, fun _ => ⟨by omega, by omega, by omega⟩, fun e4 => cRKey ⟨_, rfl, fun e5 => ⟨⟨by omega, by omega, by omega⟩, ⟨by omega, by omega, by omega⟩, ?_⟩, fun e5 => ?_⟩, fun e4 => ?_⟩
      · have : cutB p = some (p.take i.toNat, p.drop (i.toNat + 1)) := cut_iff.2 ⟨hsp, e4, e5⟩
        rw [cut_some this] at hk; exact hk
      · have : cutB p = none := by
          cases hc : cutB p with
          | none => rfl
          | some x =>
            obtain ⟨h1, h2⟩ := hval x.1 x.2 hc
            have := ((cut_iff (p := p) (m := x.1) (k := x.2)).1 hc).2.2
            rw [h2, e5] at this; cases this
        rw [cut_none this] at hk; exact hk
      · have : cutB p = none := by
          cases hc : cutB p with
          | none => rfl
          | some x =>
            obtain ⟨h1, h2⟩ := hval x.1 x.2 hc
            have := ((cut_iff (p := p) (m := x.1) (k := x.2)).1 hc).2.1
            rw [h1, e4] at this; cases this
        rw [cut_none this] at hk; exact hk
    · refine ⟨⟨rfl, ⟨by omega, by omega⟩, ?_⟩, by omega⟩
      rw [show (i + 1).toNat = i.toNat + 1 by omega, List.take_succ_eq_append_getElem hit]
      intro hm
      rcases List.mem_append.1 hm with hm | hm
      · exact ha hm
      · rw [List.mem_singleton] at hm
        rw [← hm] at e2; exact absurd e2 (by decide)
  · have e' : i = p.length := by simp at e; omega
    rw [e'] at ha
    simp only [Int.toNat_natCast, List.take_length] at ha
    have : cutB p = none := by unfold cutB; rw [if_neg ha]
    rw [cut_none this] at hk; exact hk
open Go Go.Proofs
variable {B : List Nat} {h : PH} {K : Value → PH → Prop} {s p q k : List UInt8}
variable {x : Option Addr} {S : List PrR}

/-! ### Texts in their order -/
theorem lt_pre : ∀ (c a b : List UInt8), (c ++ a < c ++ b) ↔ a < b
  | [], _, _ => Iff.rfl
  | x :: c, a, b => by
    rw [List.cons_append, List.cons_append, List.cons_lt_cons_iff]
    constructor
    · rintro (h | ⟨_, h⟩)
      · exact absurd h (by simp)
      · exact (lt_pre c a b).1 h
    · intro h; exact .inr ⟨rfl, (lt_pre c a b).2 h⟩
theorem cLess {a b : List UInt8} (ha : a.length ≤ 4611686018427387904) (hk : K (.bool (decide (a < b))) h) : CallH Tryz.prog id_ref11_Less [.string (mk a), .string (mk b)] K h := by
  refine F_ref11_Less_ok (LoopP.ind (fun (z : Int × Unit) h' => ∃ i : Nat, z.1 = (i : Int) ∧ i ≤ a.length ∧ i ≤ b.length ∧ a.take i = b.take i ∧ h' = h) (fun z _ => (a.length - z.1).toNat) ?_ ⟨0, rfl, Nat.zero_le _, Nat.zero_le _, by simp, rfl⟩)
  rintro ⟨_, u⟩ h ⟨i, rfl, hi, hib, heq, rfl⟩
  dsimp only
  rw [size_mk, size_mk]
  refine ⟨fun e => ?_, fun e => ?_⟩
  · have e : i < a.length ∧ i < b.length := by simpa using e
    have hba : byteAt (mk a) (i : Int) = (a[i].toNat : Int) := by rw [byteAt_mk]; simp [List.getD, e.1]
    have hbb : byteAt (mk b) (i : Int) = (b[i].toNat : Int) := by rw [byteAt_mk]; simp [List.getD, e.2]
    rw [hba, hbb]
    refine ⟨⟨by omega, by omega⟩, ⟨by omega, by omega⟩, fun e2 => ⟨⟨by omega, by omega⟩, ⟨by omega, by omega⟩, ?_⟩, fun e2 => ?_⟩
    · have e2 : a[i].toNat ≠ b[i].toNat := by
        intro hh; rw [hh] at e2; simp at e2
      have hne : a[i] ≠ b[i] := fun hh => e2 (by rw [hh])
      have : (a < b) ↔ a[i] < b[i] := by
        have h1 : a = a.take i ++ a[i] :: a.drop (i + 1) := by rw [← List.drop_eq_getElem_cons e.1, List.take_append_drop]
        have h2 : b = a.take i ++ b[i] :: b.drop (i + 1) := by rw [heq, ← List.drop_eq_getElem_cons e.2, List.take_append_drop]
        have h3 : (a < b) ↔ (a.take i ++ a[i] :: a.drop (i + 1) < a.take i ++ b[i] :: b.drop (i + 1)) := by rw [← h1, ← h2]
        rw [h3, lt_pre, List.cons_lt_cons_iff]
        exact ⟨fun h => h.resolve_right fun h => hne h.1, .inl⟩
      have h4 : decide ((a[i].toNat : Int) < (b[i].toNat : Int)) = decide (a < b) := by
        rw [decide_eq_decide, this, UInt8.lt_iff_toNat_lt]; omega
      rw [h4]; exact hk
    · have e2 : a[i].toNat = b[i].toNat := by
        have : ((a[i].toNat : Int)) = (b[i].toNat : Int) := by simpa using e2
        omega
      have e2 : a[i] = b[i] := UInt8.toNat_inj.1 e2
      rw [wrap64 (n := (i : Int) + 1) (by omega) (by omega)]
      refine ⟨⟨i + 1, rfl, by omega, by omega, ?_, rfl⟩, by omega⟩
      rw [List.take_succ_eq_append_getElem e.1, List.take_succ_eq_append_getElem e.2, heq, e2]
  · have e : ¬ (i < a.length ∧ i < b.length) := by
      intro hh
      have : (decide ((i : Int) < (a.length : Int)) && decide ((i : Int) < (b.length : Int))) = true := by simp; omega
      rw [this] at e; cases e
    have : (a < b) ↔ a.length < b.length := by
      by_cases hia : i = a.length
      · subst hia
        rw [List.take_length] at heq
        have h2 : b = a ++ b.drop a.length := by conv => lhs; rw [← List.take_append_drop a.length b, ← heq]
        constructor
        · intro hlt
          rw [h2] at hlt
          have h5 : (a ++ [] < a ++ b.drop a.length) := by simpa using hlt
          rw [lt_pre] at h5
          cases hd : b.drop a.length with
          | nil => rw [hd] at h5; exact absurd h5 (List.lt_irrefl _)
          | cons y r =>
            have := congrArg List.length hd
            simp at this; omega
        · intro hlt
          have h5 : (a ++ [] < a ++ b.drop a.length) := by
            rw [lt_pre]
            cases hd : b.drop a.length with
            | nil => have := congrArg List.length hd; simp at this; omega
            | cons y r => exact List.nil_lt_cons _ _
          rw [← h2] at h5
          simpa using h5
      · have hib2 : i = b.length := by omega
        subst hib2
        rw [List.take_length] at heq
        have h2 : a = b ++ a.drop b.length := by conv => lhs; rw [← List.take_append_drop b.length a, heq]
        constructor
        · intro hlt
          rw [h2] at hlt
          have h5 : (b ++ a.drop b.length < b ++ []) := by simpa using hlt
          rw [lt_pre] at h5
          exact absurd h5 (List.not_lt_nil _)
        · intro hlt; omega
    have h4 : decide ((a.length : Int) < (b.length : Int)) = decide (a < b) := by
      rw [decide_eq_decide, this]; omega
    rw [h4]; exact hk

/-! ### Where a path is -/
def pos : List PrR → List UInt8 → Nat
  | [], _ => 0
  | x :: r, p => if x.p < p then pos r p + 1 else 0
/-! ### The document's map -/
variable {mA : Option Addr} {mC : Nat} {v : List UInt8}
/-- what the document's map is in memory -/
structure RfAt (h : PH) (a : Option Addr) (c : Nat) (S : List PrR) : Prop where
  sr : SR EncPr h a S
  le : S.length ≤ c
  up : Up S
  n : S.length ≤ 1000
  p : ∀ x ∈ S, x.p.length ≤ 1000000
theorem RfAt.sub {g : PH} (x : RfAt h mA mC S) (s : h.Sub g) : RfAt g mA mC S := ⟨x.sr.sub s, x.le, x.up, x.n, x.p⟩
end TL

namespace TL
open Go
/-- g lies in h, and has no part of N; what N has is there -/
structure Spl (g : PH) (N : List Nat) (h : PH) : Prop where
  sub : g.Sub h
  av : ∀ b ∈ N, g b = none
  has : TL.Has N h
/-- a step: N turns to N', g grows to g' by what is new -/
structure Stp (g : PH) (N : List Nat) (h : PH) (g' : PH) (N' : List Nat) (h' : PH) : Prop where
  chg : Chg N N' h h'
  gs : g.Sub g'
  gn : ∀ b, b ∉ N → (∃ o, h b = some o) → g b = none → g' b = none
  spl : Spl g' N' h'
variable {g g' g'' h h' h'' : PH} {N N' N'' M M' B : List Nat}
theorem PH.Sub.rf (h : PH) : h.Sub h := fun _ _ e => e
theorem Stp.refl (s : Spl g N h) : Stp g N h g N h := ⟨Chg.refl _ _, PH.Sub.rf _, fun _ _ _ e => e, s⟩
theorem Stp.trans (x : Stp g N h g' N' h') (y : Stp g' N' h' g'' N'' h'') : Stp g N h g'' N'' h'' := by
  refine ⟨x.chg.trans y.chg, x.gs.tr y.gs, fun b hb hh hg => ?_, y.spl⟩
  obtain ⟨o, ho⟩ := hh
  refine y.gn b (fun hm => ?_) ⟨o, x.chg.keep ho hb⟩ (x.gn b hb ⟨o, ho⟩ hg)
  rcases x.chg.2 b hm with h1 | h1
  · exact hb h1
  · rw [ho] at h1; cases h1
/-- the blocks of N change alone; what stays stays -/
theorem Spl.chg (s : Spl g N h) (c : Chg N N' h h') (hh : Has N' h') : Stp g N h g N' h' := by
  refine ⟨c, PH.Sub.rf _, fun _ _ _ e => e, fun b o e => c.1 b o (fun hb => by rw [s.av b hb] at e; cases e) (s.sub b o e), fun b hb => ?_, hh⟩
  rcases c.2 b hb with h1 | h1
  · exact s.av b h1
  · cases e : g b with
    | none => rfl
    | some o => rw [s.sub b o e] at h1; cases h1
/-- what is new stays from now on -/
def PH.plus (g h : PH) (B : List Nat) : PH := fun b => if b ∈ B then h b else g b
theorem plus_in {b : Nat} (hb : b ∈ B) : PH.plus g h B b = h b := by simp [PH.plus, hb]
theorem plus_out {b : Nat} (hb : b ∉ B) : PH.plus g h B b = g b := by simp [PH.plus, hb]
theorem Spl.new (s : Spl g N h) (c : Chg [] B h h') : Stp g N h (PH.plus g h' B) N h' := by
  have hn : ∀ b ∈ B, h b = none := fun b hb => by
    rcases c.2 b hb with h1 | h1
    · cases h1
    · exact h1
  have hg : ∀ b ∈ B, g b = none := fun b hb => by
    cases e : g b with
    | none => rfl
    | some o => rw [← s.sub b o e, hn b hb]
  have nB : ∀ b ∈ N, b ∉ B := fun b hb hm => by
    obtain ⟨o, ho⟩ := s.has b hb
    rw [hn b hm] at ho; cases ho
  refine ⟨(c.sub0 |> fun z => ⟨fun b o _ e => z b o e, fun b hb => .inl hb⟩), fun b o e => ?_, fun b _ hh e => ?_, fun b o e => ?_, fun b hb => ?_, fun b hb => ?_⟩
  · by_cases hb : b ∈ B
    · rw [hg b hb] at e; cases e
    · rw [plus_out hb]; exact e
  · by_cases hb : b ∈ B
    · obtain ⟨o, ho⟩ := hh; rw [hn b hb] at ho; cases ho
    · rw [plus_out hb]; exact e
  · by_cases hb : b ∈ B
    · rw [plus_in hb] at e; exact e
    · rw [plus_out hb] at e; exact c.sub0 b o (s.sub b o e)
  · rw [plus_out (nB b hb)]; exact s.av b hb
  · obtain ⟨o, ho⟩ := s.has b hb
    exact ⟨o, c.sub0 b o ho⟩
/-- what is new is thrown away, or read alone -/
theorem Spl.grow (s : Spl g N h) (hs : h.Sub h') : Stp g N h g N h' :=
  ⟨⟨fun b o _ e => hs b o e, fun _ hb => .inl hb⟩, PH.Sub.rf _, fun _ _ _ e => e, s.sub.tr hs, s.av, fun b hb => by obtain ⟨o, ho⟩ := s.has b hb; exact ⟨o, hs b o ho⟩⟩
/-- what is new is to change -/
theorem Spl.own (s : Spl g N h) (c : Chg [] B h h') (hh : Has B h') : Stp g N h g (B ++ N) h' := by
  refine ⟨⟨fun b o _ e => c.sub0 b o e, fun b hb => ?_⟩, PH.Sub.rf _, fun _ _ _ e => e, s.sub.tr c.sub0, fun b hb => ?_, fun b hb => ?_⟩
  · rcases List.mem_append.1 hb with hb | hb
    · rcases c.2 b hb with h1 | h1
      · cases h1
      · exact .inr h1
    · exact .inl hb
  · rcases List.mem_append.1 hb with hb | hb
    · cases e : g b with
      | none => rfl
      | some o =>
        rcases c.2 b hb with h1 | h1
        · cases h1
        · rw [s.sub b o e] at h1; cases h1
    · exact s.av b hb
  · rcases List.mem_append.1 hb with hb | hb
    · exact hh b hb
    · obtain ⟨o, ho⟩ := s.has b hb; exact ⟨o, c.sub0 b o ho⟩
/-- a part of what changes -/
theorem Spl.left (s : Spl g (N ++ M) h) : Spl g N h := ⟨s.sub, fun b hb => s.av b (List.mem_append_left _ hb), fun b hb => s.has b (List.mem_append_left _ hb)⟩
theorem Spl.right (s : Spl g (N ++ M) h) : Spl g M h := ⟨s.sub, fun b hb => s.av b (List.mem_append_right _ hb), fun b hb => s.has b (List.mem_append_right _ hb)⟩
theorem Stp.frame (x : Stp g N h g' N' h') (s : Spl g (N ++ M) h) (d : Dj M N) : Stp g (N ++ M) h g' (N' ++ M) h' ∧ Dj M N' := by
  have hM : Has M h := s.right.has
  have d' : Dj M N' := x.chg.dj d hM
  refine ⟨⟨x.chg.left, x.gs, fun b hb hh e => x.gn b (fun hm => hb (List.mem_append_left _ hm)) hh e, x.spl.sub, fun b hb => ?_, fun b hb => ?_⟩, d'⟩
  · rcases List.mem_append.1 hb with hb | hb
    · exact x.spl.av b hb
    · exact x.gn b (d b hb) (hM b hb) (s.right.av b hb)
  · rcases List.mem_append.1 hb with hb | hb
    · exact x.spl.has b hb
    · obtain ⟨o, ho⟩ := hM b hb
      exact ⟨o, x.chg.keep ho (d b hb)⟩
theorem Stp.frameR (x : Stp g N h g' N' h') (s : Spl g (M ++ N) h) (d : Dj M N) : Stp g (M ++ N) h g' (M ++ N') h' ∧ Dj M N' := by
  have hM : Has M h := s.left.has
  have d' : Dj M N' := x.chg.dj d hM
  refine ⟨⟨x.chg.right, x.gs, fun b hb hh e => x.gn b (fun hm => hb (List.mem_append_right _ hm)) hh e, x.spl.sub, fun b hb => ?_, fun b hb => ?_⟩, d'⟩
  · rcases List.mem_append.1 hb with hb | hb
    · exact x.gn b (d b hb) (hM b hb) (s.left.av b hb)
    · exact x.spl.av b hb
  · rcases List.mem_append.1 hb with hb | hb
    · obtain ⟨o, ho⟩ := hM b hb
      exact ⟨o, x.chg.keep ho (d b hb)⟩
    · exact x.spl.has b hb
theorem Spl.start (h : PH) : Spl h [] h := ⟨PH.Sub.rf _, fun _ hb => (by cases hb), fun _ hb => (by cases hb)⟩
/-- what g has is there -/
theorem Stp.old (x : Stp g N h g' N' h') {b : Nat} {o : Obj} (e : g b = some o) : h' b = some o := x.spl.sub b o (x.gs b o e)
theorem Stp.gh (x : Stp g N h g' N' h') : g.Sub h' := x.gs.tr x.spl.sub
end TL

namespace TL
open Go Go.Proofs
variable {h : PH} {K : Value → PH → Prop} {p v : List UInt8} {lA : Option Addr} {lC : Nat} {l : List PrR}

theorem u8_of {n : Nat} (hn : n < 256) : ((UInt8.ofNat n).toNat : Int) = (n : Int) := by
  rw [UInt8.toNat_ofNat', Nat.mod_eq_of_lt (by omega)]
theorem cNum12 {n : Nat} (hn : n < 18446744073709551616) (hk : ∀ h', h.Sub h' → K (.string (mk (numL n))) h') : CallH Tryz.prog id_ref12_Num [.int .u64 (n : Int)] K h := by
  refine F_ref12_Num_ok (LoopP.ind (fun (z : ByteArray × Int × Unit) h' => ∃ (s : List UInt8) (m : Nat), z.1 = mk s ∧ z.2.1 = m ∧ m < 18446744073709551616 ∧ s ++ numL m = numL n ∧ h.Sub h') (fun z _ => z.2.1.toNat) ?_ ⟨[], n, rfl, rfl, hn, rfl, PH.Sub.rf _⟩)
  rintro ⟨zs, zm, u⟩ h1 ⟨s, m, hzs, hzm, hm, he, s1⟩
  dsimp only at hzs hzm
  subst hzs hzm
  dsimp only
  have hlen := numL_le hn
  have hsl : s.length + (numL m).length ≤ 10 := by rw [← he] at hlen; simpa using hlen
  refine ⟨fun e => ?_, fun e => ?_⟩
  · have e : 128 ≤ m := by simp at e; omega
    have t1 : ((m : Nat) : Int).tmod 128 = ((m % 128 : Nat) : Int) := by rw [Int.tmod_eq_emod_of_nonneg (by omega)]; omega
    have t2 : ((m : Nat) : Int).tdiv 128 = ((m / 128 : Nat) : Int) := by rw [Int.tdiv_eq_ediv_of_nonneg (by omega)]; omega
    have w1 : IntKind.wrap .u8 (IntKind.wrap .u64 ((((m : Nat) : Int).tmod 128) + 128)) = ((UInt8.ofNat (128 + m % 128)).toNat : Int) := by
      rw [t1, wrap_u64 (by omega) (by omega), u8_of (by omega)]
      simp [IntKind.wrap, IntKind.bits, IntKind.signed]; omega
    rw [w1, t2, wrap_u64 (by omega) (by omega)]
    refine nwL fun b h2 _ hb2 c2 => ⟨_, SR.oneB hb2, ?_, ⟨s ++ [UInt8.ofNat (128 + m % 128)], m / 128, by rw [mk_append], rfl, by omega, ?_, s1.tr c2.sub0⟩, by omega⟩
    · rw [size_mk, size_mk]; simp; omega
    · rw [← he, numL_step hm e, List.append_assoc]; rfl
  · have e : m < 128 := by simp at e; omega
    have w1 : IntKind.wrap .u8 ((m : Nat) : Int) = ((UInt8.ofNat m).toNat : Int) := by
      rw [u8_of (by omega)]; simp [IntKind.wrap, IntKind.bits, IntKind.signed]; omega
    rw [w1]
    refine nwL fun b h2 _ hb2 c2 => ⟨_, SR.oneB hb2, ?_, ?_⟩
    · rw [size_mk, size_mk]; simp; omega
    · rw [mk_append, show s ++ [UInt8.ofNat m] = numL n by rw [← he, numL_small e]]
      exact hk _ (s1.tr c2.sub0)
theorem cText12 (hp : p.length ≤ 1000000) (hk : ∀ h', h.Sub h' → K (.string (mk (textL p))) h') : CallH Tryz.prog id_ref12_Text [.string (mk p)] K h := by
  refine F_ref12_Text_ok ?_
  unfold F_ref12_Text
  rw [size_mk, wrap_u64 (by omega) (by omega)]
  refine cNum12 (by omega) fun h1 s1 => ⟨_, rfl, ?_, ?_⟩
  · have := numL_le (n := p.length) (by omega)
    rw [size_mk]; omega
  · rw [mk_append]; exact hk h1 s1
theorem cROf14 (hp : p.length ≤ 1000000) (hk : ∀ h', h.Sub h' → K (.int .i64 (bkt p : Nat)) h') : CallH Tryz.prog id_ref14_Of [.string (mk p)] K h := by
  refine F_ref14_Of_ok (cRSum hp fun h1 s1 => ⟨bi (shaN p), by rw [bi_len, shaN_len], rfl, ?_⟩)
  have hne : shaN p ≠ [] := fun e => by have := shaN_len p; rw [e] at this; simp at this
  have hlt : ((shaN p).getD 0 0).toNat < 256 := UInt8.toNat_lt _
  have : IntKind.wrap .i64 ((IntKind.wrap .i64 (((bi (shaN p)).take 1).getD 0 0)).tdiv (16 : Int)) = ((bkt p : Nat) : Int) := by
    have e1 : IntKind.wrap .i64 ((((shaN p).getD 0 0).toNat : Nat) : Int) = ((((shaN p).getD 0 0).toNat : Nat) : Int) := wrap64 (by omega) (by omega)
    rw [bi_get _ hne, e1, Int.tdiv_eq_ediv_of_nonneg (by omega), wrap64 (by omega) (by omega)]
    unfold bkt; omega
  rw [this]
  exact hk h1 s1
theorem cRMay (hl : SR EncPr h lA l) (hn : l.length ≤ 1000000) (hs : ∀ x ∈ l, x.p.length ≤ 1000000) (hk : K (.bool (mayB l)) h) : CallH Tryz.prog id_ref14_May [.slice lA l.length lC] K h := by
  refine F_ref14_May_ok (LoopP.ind (fun (z : Int × Unit) h' => ∃ k : Nat, z.1 = k ∧ k ≤ l.length ∧ h' = h ∧ mayB (l.take k) = true) (fun z _ => (l.length - z.1).toNat) ?_ ⟨0, rfl, by omega, rfl, by simp [mayB, Up]⟩)
  rintro ⟨zi, u⟩ h1 ⟨k, hzi, hkl, rfl, hm⟩
  dsimp only at hzi
  subst hzi
  dsimp only
  refine ⟨fun e => ?_, fun e => ?_⟩
  · have e : k < l.length := by simpa using e
    have hit : ((k : Nat) : Int).toNat = k := by omega
    have hmem := List.getElem_mem e
    obtain ⟨b, o, hA, hr⟩ := hl.get e
    have no : (okPr l[k] = false ∨ ¬ Up (l.take (k + 1))) → K (.bool false) h1 := fun hno => by
      have : mayB l = false := by
        cases hml : mayB l with
        | false => rfl
        | true =>
          obtain ⟨h1, h2⟩ := may_ok hml
          rcases hno with h | h
          · rw [h1 _ hmem] at h; cases h
          · exact absurd (h2.sublist (List.take_sublist _ _)) h
      rw [this] at hk; exact hk
    have yes : okPr l[k] = true → Up (l.take (k + 1)) → mayB (l.take (k + 1)) = true := fun h1 h2 => by
      simp only [mayB, Bool.and_eq_true, List.all_eq_true, decide_eq_true_eq]
      refine ⟨fun x hx => ?_, h2⟩
      rw [← List.take_append_getElem e] at hx
      rcases List.mem_append.1 hx with hx | hx
      · exact (may_ok hm).1 x hx
      · rw [List.mem_singleton] at hx; subst hx; exact h1
    have hw : IntKind.wrap .i64 (((k : Nat) : Int) + (1 : Int)) = ((k + 1 : Nat) : Int) := by rw [wrap64] <;> omega
    rw [hit, hw]
    refine ⟨b, o, ⟨hA, by omega, by omega⟩, _, hr _ 0 1 rfl (by decide), cRCut (by have := hs _ hmem; omega) ⟨_, _, _, rfl, b, o, fun _ => ⟨hA, by omega, by omega⟩, mk l[k].v, fun _ => hr _ 1 1 rfl (by decide), fun e2 => ?_, fun e2 => ?_⟩⟩
    · refine no (.inl ?_)
      rw [size_mk] at e2
      unfold okPr
      cases hc : (cutV l[k].p).2.2 with
      | false => rfl
      | true => rw [hc] at e2; simp at e2 ⊢; omega
    · have hok : okPr l[k] = true := by
        rw [size_mk] at e2
        unfold okPr
        cases hc : (cutV l[k].p).2.2 with
        | false => rw [hc] at e2; simp at e2
        | true => rw [hc] at e2; simp at e2 ⊢; omega
      by_cases e0 : k = 0
      · subst e0
        refine ⟨0, 0, fun e => by simp at e, mk [], fun e => by simp at e, 0, 0, fun e => by simp at e, mk [], fun e => by simp at e, fun e => by simp at e, fun _ => ⟨⟨1, rfl, by omega, rfl, yes hok ?_⟩, by omega⟩⟩
        cases l with
        | nil => simp at e
        | cons x r => simp [Up]
      · have ek : k - 1 < l.length := by omega
        obtain ⟨b2, o2, hA2, hr2⟩ := hl.get ek
        have hw1 : IntKind.wrap .i64 (((k : Nat) : Int) - (1 : Int)) = ((k - 1 : Nat) : Int) := by rw [wrap64] <;> omega
        have hit1 : ((k - 1 : Nat) : Int).toNat = k - 1 := by omega
        rw [hw1, hit1]
        refine ⟨b2, o2, fun _ => ⟨hA2, by omega, by omega⟩, mk l[k - 1].p, fun _ => hr2 _ 0 1 rfl (by decide), b, o, fun _ => ⟨hA, by omega, by omega⟩, mk l[k].p, fun _ => hr _ 0 1 rfl (by decide), fun _ => cLess (by have := hs _ (List.getElem_mem ek); omega) ⟨_, rfl, fun e3 => ?_, fun e3 => ?_⟩, fun e => by simp at e; omega⟩
        · have e3 : ¬ l[k - 1].p < l[k].p := by simpa using e3
          refine no (.inr fun hu => e3 ?_)
          have := List.pairwise_iff_getElem.1 hu (k - 1) k (by rw [List.length_take]; omega) (by rw [List.length_take]; omega) (by omega)
          simpa using this
        · have e3 : l[k - 1].p < l[k].p := by simpa using e3
          refine ⟨⟨k + 1, rfl, by omega, rfl, yes hok ?_⟩, by omega⟩
          rw [← List.take_append_getElem e]
          refine up_snoc (may_ok hm).2 fun y hy => ?_
          have hlast : (l.take k).getLast? = some l[k - 1] := by
            rw [List.getLast?_eq_getElem?, List.length_take, Nat.min_eq_left (by omega), List.getElem?_take, if_pos (by omega), List.getElem?_eq_getElem ek]
          rw [hlast] at hy; cases hy
          exact e3
  · have e : k = l.length := by simp at e; omega
    subst e
    rw [List.take_length] at hm
    rw [hm] at hk; exact hk
theorem cRPart {i : Nat} (hl : SR EncPr h lA l) (hn : l.length ≤ 1000000) (hs : ∀ x ∈ l, x.p.length ≤ 1000000) (hk : ∀ a' c' B' h', Buf EncPr T_api_Pair B' h' a' (partB l i).length c' (partB l i) → Chg [] B' h h' → K (.slice a' (partB l i).length c') h') :
    CallH Tryz.prog id_ref14_Part [.slice lA l.length lC, .int .i64 (i : Int)] K h := by
  refine F_ref14_Part_ok (LoopP.ind (fun (z : (Option Addr × Nat × Nat) × Int × Unit) h' => ∃ (k : Nat) (B' : List Nat), z.2.1 = k ∧ k ≤ l.length ∧ Buf EncPr T_api_Pair B' h' z.1.1 z.1.2.1 z.1.2.2 (partB (l.take k) i) ∧ Chg [] B' h h') (fun z _ => (l.length - z.2.1).toNat) ?_ ⟨0, [], rfl, by omega, Buf.nil _ _ _ _, Chg.refl _ _⟩)
  rintro ⟨⟨oA, oN, oC⟩, zi, u⟩ h1 ⟨k, B1, hzi, hi, hb, hc⟩
  dsimp only at hzi hb
  subst hzi
  dsimp only
  refine ⟨fun e => ?_, fun e => ?_⟩
  · have e : k < l.length := by simpa using e
    have hit : ((k : Nat) : Int).toNat = k := by omega
    obtain ⟨b, o, hA, hr⟩ := (hl.sub hc.sub0).get e
    have hm := List.getElem_mem e
    have hsn : l.take (k + 1) = l.take k ++ [l[k]] := (List.take_append_getElem e).symm
    have hon : oN ≤ k := by
      rw [hb.1]
      refine Nat.le_trans (List.length_filter_le _ _) ?_
      rw [List.length_take]; omega
    rw [hit]
    refine ⟨b, o, ⟨hA, by omega, by omega⟩, _, hr _ 0 1 rfl (by decide), cROf14 (hs _ hm) fun h2 s2 => ⟨_, rfl, fun e2 => ?_, fun e2 => ?_⟩⟩
    · have e2 : bkt l[k].p = i := by simp at e2; omega
      have hb2 := hb.sub s2
      refine ⟨b, o, ⟨hA, by omega, by omega⟩, _, _, rds_sub s2 (hr _ 0 2 rfl (by decide)), hb2.append (new := [l[k]]) rfl rfl rfl (by omega) fun a' c' B' h' hb' hc' _ => ⟨⟨k + 1, B', by rw [wrap64] <;> omega, by omega, ?_, (hc.onto s2).trans hc'⟩, by rw [wrap64] <;> omega⟩⟩
      have : partB (l.take (k + 1)) i = partB (l.take k) i ++ [l[k]] := by
        unfold partB; rw [hsn, List.filter_append]; simp [e2]
      rw [this]; exact hb'
    · have e2 : bkt l[k].p ≠ i := by simp at e2; omega
      refine ⟨⟨k + 1, B1, by rw [wrap64] <;> omega, by omega, ?_, hc.onto s2⟩, by rw [wrap64] <;> omega⟩
      have : partB (l.take (k + 1)) i = partB (l.take k) i := by
        unfold partB; rw [hsn, List.filter_append]; simp [e2]
      rw [this]; exact hb.sub s2
  · have e : k = l.length := by simp at e; omega
    rw [e, List.take_length] at hb
    have := hb.1
    subst this
    exact hk _ _ _ _ hb hc
/-- a page, whatever pairs there are: what Page tells -/
theorem cRPage {i : Nat} (hi : i < 16) (hl : SR EncPr h lA l) (hn : l.length ≤ 1000) (hs : ∀ x ∈ l, x.p.length ≤ 1000000) (hk : ∀ h', h.Sub h' → K (.tuple #[.string (mk (pageV i l).1), .int .i64 ((pageV i l).2 : Nat)]) h') :
    CallH Tryz.prog id_ref14_Page [.int .i64 (i : Int), .slice lA l.length lC] K h := by
  have hno : ¬ (mayB l = true ∧ (partB l i).length = l.length) → ∀ h', h.Sub h' → K (.tuple #[.string (⟨#[]⟩ : ByteArray), .int .i64 (1 : Int)]) h' := fun hn h' s => by
    have := hk h' s
    unfold pageV at this; rw [if_neg hn] at this; exact this
  refine F_ref14_Page_ok ⟨fun _ h' => h' = h ∧ mayB l = true, ⟨fun _ => cRMay hl (by omega) hs ⟨_, rfl, fun e => hno (fun hh => by rw [hh.1] at e; cases e) _ (PH.Sub.rf _), fun e => ⟨rfl, by simpa using e⟩⟩, fun e => by simp at e; omega⟩, ?_⟩
  rintro u h1 ⟨rfl, hm⟩
  obtain ⟨hok, _⟩ := may_ok hm
  rw [wrap_u64 (by omega) (by omega)]
  have hnl := numL_le (n := l.length) (by omega)
  refine cNum12 (by omega) fun h2 s2 => ⟨_, rfl, LoopP.ind (fun (z : ByteArray × Int × Unit) h' => ∃ k : Nat, z.1 = mk (numL l.length ++ (l.take k).flatMap prL) ∧ z.2.1 = k ∧ k ≤ l.length ∧ h1.Sub h' ∧ (∀ x ∈ l.take k, bkt x.p = i) ∧ ((l.take k).flatMap prL).length ≤ k * 200) (fun z _ => (l.length - z.2.1).toNat) ?_ ⟨0, by simp, rfl, by omega, s2, by simp, by simp⟩⟩
  rintro ⟨zs, zi, u⟩ h3 ⟨k, hzs, hzi, hkl, s3, hb, hlen⟩
  dsimp only at hzs hzi
  subst hzs hzi
  dsimp only
  refine ⟨fun e => ?_, fun e => ?_⟩
  · have e : k < l.length := by simpa using e
    have hit : ((k : Nat) : Int).toNat = k := by omega
    obtain ⟨b, o, hA, hr⟩ := (hl.sub s3).get e
    have hmem := List.getElem_mem e
    obtain ⟨o1, o2⟩ := ok_len (hok _ hmem)
    have n1 := numL_le (n := l[k].p.length) (by omega)
    have n2 := numL_le (n := l[k].v.length) (by omega)
    have hw : IntKind.wrap .i64 (((k : Nat) : Int) + (1 : Int)) = ((k + 1 : Nat) : Int) := by rw [wrap64] <;> omega
    rw [hit, hw]
    have hr1 := hr (o + k * 2) 0 1 rfl (by decide)
    have hr2 := hr (o + k * 2 + 1) 1 1 rfl (by decide)
    refine ⟨b, o, ⟨hA, by omega, by omega⟩, _, hr1, cROf14 (by omega) fun h4 s4 => ⟨_, rfl, fun e2 => ?_, fun e2 => ?_⟩⟩
    · have e2 : bkt l[k].p ≠ i := by simp at e2; omega
      refine hno (fun hh => ?_) _ (s3.tr s4)
      have : (partB l i) = l := List.filter_eq_self.2 (List.length_filter_eq_length_iff.1 hh.2)
      have := List.length_filter_eq_length_iff.1 hh.2 _ hmem
      simp at this; exact e2 this
    · have e2 : bkt l[k].p = i := by simp at e2; omega
      refine ⟨b, o, ⟨hA, by omega, by omega⟩, _, rds_sub s4 hr1, b, o, ⟨hA, by omega, by omega⟩, _, rds_sub s4 hr2, cText12 (by omega) fun h5 s5 => ⟨_, rfl, rds_sub (s4.tr s5) hr2, ?_, cText12 (by omega) fun h6 s6 => ⟨_, rfl, ?_, ⟨k + 1, ?_, rfl, by omega, ((s3.tr s4).tr s5).tr s6, ?_, ?_⟩, by omega⟩⟩⟩
      · rw [size_mk, size_mk]; simp only [List.length_append, textL]; omega
      · rw [mk_append, size_mk, size_mk]; simp only [List.length_append, textL]; omega
      · rw [mk_append, mk_append, ← List.take_append_getElem e, List.flatMap_append]; simp [prL]
      · intro x hx
        rw [← List.take_append_getElem e] at hx
        rcases List.mem_append.1 hx with hx | hx
        · exact hb x hx
        · rw [List.mem_singleton] at hx; subst hx; exact e2
      · rw [← List.take_append_getElem e, List.flatMap_append]
        simp only [List.length_append, List.flatMap_cons, List.flatMap_nil, List.length_nil, prL, textL]; omega
  · have e : k = l.length := by simp at e; omega
    subst e
    rw [List.take_length] at hb
    have hp : (partB l i).length = l.length := by rw [part_all hb]
    have hkk := hk h3 s3
    unfold pageV at hkk
    rw [if_pos ⟨hm, hp⟩] at hkk
    refine ⟨fun e => ?_, fun e => ?_⟩
    · rw [if_neg (by simp at e; omega)] at hkk; exact hkk
    · rw [if_pos (by simp at e; omega)] at hkk
      rw [List.take_length]; exact hkk
end TL

namespace TL
open Go Go.Proofs
variable {h : PH} {K : Value → PH → Prop} {p v : List UInt8} {lA : Option Addr} {lC : Nat} {l : List PrR}

theorem Chg.post {B B' : List Nat} {h g k : PH} (c : Chg B B' h g) (s : g.Sub k) : Chg B B' h k := ⟨fun b o hb e => s b o (c.1 b o hb e), c.2⟩
theorem cLeafText {i : Nat} (hi : i < 16) (hl : SR EncPr h lA l) (hm : mayB l = true) (h48 : l.length ≤ 48) (hk : ∀ h', h.Sub h' → K (.string (mk (leafT l i))) h') :
    CallH Tryz.prog id_ref15_LeafText [.slice lA l.length lC, .int .i64 (i : Int)] K h := by
  have hs : ∀ x ∈ l, x.p.length ≤ 1000000 := fun x hx => by have := ok_len ((may_ok hm).1 x hx); omega
  have hp := part_ok hm h48 i
  refine F_ref15_LeafText_ok (cRPart hl (by omega) hs fun a' c' B' h' hb hc => ⟨_, _, _, rfl, cRPage hi hb.sr (by have := hp.2.2; omega) (fun x hx => by have := ok_len ((may_ok hp.1).1 x hx); omega) fun h2 s2 => ⟨_, _, rfl, ?_, ?_⟩⟩)
  · have := page_len hp
    rw [page_ok hp, size_mk]; show ((1 + (pageL (partB l i)).length : Nat) : Int) ≤ _; omega
  · rw [page_ok hp, show (⟨#[76]⟩ : ByteArray) = mk [76] from rfl, mk_append]
    exact hk h2 (hc.sub0.tr s2)
abbrev H32 : Type := {x : List UInt8 // x.length = 32}
def EncH : Enc H32 where
  enc x := (bi x.1).map (Value.int .u8)
  k := 32
  len x := by rw [List.length_map, bi_len, x.2]
  one x v hv := by
    obtain ⟨n, _, rfl⟩ := List.mem_map.1 hv
    rfl
  pos := by decide
structure SlR where
  a : Option Addr
  n : Nat
  c : Nat
def EncSl : Enc SlR where
  enc r := [.slice r.a r.n r.c]
  k := 1
  len _ := rfl
  one o v hv := by
    simp only [List.mem_cons, List.not_mem_nil, or_false] at hv
    rcases hv with rfl; rfl
  pos := by decide
def nodeH (S : List PrR) (c : Nat) : H32 := ⟨nd S c, nd_len S c⟩
def lvRow (S : List PrR) (j m : Nat) : List H32 := (List.range m).map fun i => nodeH S (2 ^ j + i)
theorem lvRow_len (S : List PrR) (j m : Nat) : (lvRow S j m).length = m := by simp [lvRow]
theorem lvRow_get (S : List PrR) (j m i : Nat) (h : i < (lvRow S j m).length) : (lvRow S j m)[i] = nodeH S (2 ^ j + i) := by simp [lvRow]
theorem lvRow_succ (S : List PrR) (j m : Nat) : lvRow S j (m + 1) = lvRow S j m ++ [nodeH S (2 ^ j + m)] := by simp [lvRow, List.range_succ]
theorem set_range {α : Type} (f : Nat → α) {m k : Nat} (_ : k < m) (x : α) : ((List.range m).map f).set k x = (List.range m).map (upF f k x) := by
  apply List.ext_getElem
  · simp
  · intro i h1 h2
    simp only [List.getElem_set, List.getElem_map, List.getElem_range]
    unfold upF
    by_cases e : k = i
    · rw [if_pos e, if_pos e.symm]
    · rw [if_neg e, if_neg (Ne.symm e)]
/-- the block of five rows -/
def LvB (h : PH) (bv : Nat) (f : Nat → SlR) : Prop := ∃ T, Buf EncSl T [bv] h (some ⟨bv, 0, none⟩) 5 5 ((List.range 5).map f)
variable {bv : Nat} {f : Nat → SlR}
theorem LvB.get (x : LvB h bv f) {j o : Nat} (hj : j < 5) (ho : o = j) : h.rds bv o 1 = some [.slice (f j).a (f j).n (f j).c] := by
  obtain ⟨T, x⟩ := x
  have hlen : j < ((List.range 5).map f).length := by simpa using hj
  obtain ⟨b, o2, hA, hr⟩ := x.sr.get hlen
  cases hA
  have := hr o 0 1 (by show o = 0 + j * 1 + 0; omega) (by decide)
  simpa [EncSl] using this
theorem LvB.set (x : LvB h bv f) {j o : Nat} {r : SlR} {K : PH → Prop} (hj : j < 5) (ho : o = j) (hk : ∀ h', LvB h' bv (upF f j r) → Chg [bv] [bv] h h' → K h') : stH h bv o [.slice r.a r.n r.c] K := by
  obtain ⟨T, x⟩ := x
  refine x.setAt (i := j) (f := 0) (y := r) (vs := [.slice r.a r.n r.c]) (by simpa using hj) rfl (by show o = 0 + j * 1 + 0; omega) rfl (Nat.le_refl 1) fun h' x' c => hk h' ⟨T, ?_⟩ c
  rw [← set_range f hj]; exact x'
theorem LvB.there (x : LvB h bv f) : ∃ o, h bv = some o := by
  obtain ⟨T, _, ⟨h0, _⟩ | ⟨b', tail, ha, hB, hcell, _⟩⟩ := x
  · cases h0
  · cases ha; exact ⟨_, hcell⟩
theorem LvB.keep {h' : PH} (x : LvB h bv f) (e : ∀ o, h bv = some o → h' bv = some o) : LvB h' bv f := by
  obtain ⟨T, x⟩ := x
  exact ⟨T, x.keep fun b hb _ e2 => by simp at hb; subst hb; exact e _ e2⟩
theorem LvB.sub {h' : PH} (x : LvB h bv f) (s : h.Sub h') : LvB h' bv f := x.keep fun _ e => s _ _ e
def isIntV : Value → Bool
  | .int _ _ => true
  | _ => false
theorem LvB.quiet (x : LvB h bv f) : ∀ b ∈ [bv], ∀ cs T fr, h b = some (.cells cs T fr) → ∀ v ∈ cs.toList, isIntV v = false := fun b hb _ _ _ e v hv => by
  simp at hb; subst hb
  obtain ⟨T', _, ⟨h0, _⟩ | ⟨b', tail, ha, hB, hcell, htl, _⟩⟩ := x
  · cases h0
  · cases ha
    rw [hcell] at e; cases e
    have : tail = [] := List.length_eq_zero_iff.1 (by rw [htl]; rfl)
    subst this
    simp only [List.append_nil, Enc.row, List.mem_flatMap, List.mem_map] at hv
    obtain ⟨r, _, hr⟩ := hv
    simp only [EncSl, List.mem_cons, List.not_mem_nil, or_false] at hr
    subst hr; rfl
theorem LvB.off {h' : PH} {B' : List Nat} {a : Option Addr} {L : List H32} (x : LvB h bv f) (s : SR EncH h a L) (c : Chg [bv] B' h h') : SR EncH h' a L :=
  s.off isIntV (fun y => by
    have hl : (EncH.enc y).length = 32 := EncH.len y
    refine ⟨(EncH.enc y)[0], List.getElem_mem _, ?_⟩
    simp [EncH, isIntV]) x.quiet c
theorem hsh {x : List UInt8} (hx : x.length = 32) : (bi x).map (Value.int .u8) ++ [] = EncH.row [⟨x, hx⟩] := by simp [Enc.row, EncH]
theorem cLevels (hl : SR EncPr h lA l) (hm : mayB l = true) (h48 : l.length ≤ 48) (hk : ∀ bv f h', LvB h' bv f → (∀ j, j < 5 → (f j).n = 2 ^ j ∧ SR EncH h' (f j).a (lvRow l j (2 ^ j))) → h.Sub h' → K (.slice (some ⟨bv, 0, none⟩) 5 5) h') :
    CallH Tryz.prog id_ref15_Levels [.slice lA l.length lC] K h := by
  refine F_ref15_Levels_ok ⟨⟨by decide, by decide, by decide⟩, nwL (cs := [.slice none 0 0, .slice none 0 0, .slice none 0 0, .slice none 0 0, .slice none 0 0]) fun bv h1 hbn hb1 c1 => ?_⟩
  have x1 : LvB h1 bv fun _ => ⟨none, 0, 0⟩ := ⟨_, rfl, .inr ⟨bv, [], rfl, rfl, hb1, rfl, by decide⟩⟩
  refine LoopP.ind (fun (z : Int × Unit) h' => ∃ (i : Nat) (f : Nat → SlR) (B : List Nat), z.1 = i ∧ i ≤ 16 ∧ LvB h' bv f ∧ bv ∉ B ∧ Buf EncH T_api_Hash B h' (f 4).a (f 4).n (f 4).c (lvRow l 4 i) ∧ (∀ j, j < 4 → f j = ⟨none, 0, 0⟩) ∧ Chg [] (bv :: B) h h') (fun z _ => (16 - z.1).toNat) ?_ ⟨0, _, [], rfl, by omega, x1, by simp, Buf.nil _ _ _ _, fun _ _ => rfl, c1⟩
  rintro ⟨zi, u⟩ h2 ⟨i, f, B, hzi, hi, x2, nB, b2, f2, c2⟩
  dsimp only at hzi
  subst hzi
  dsimp only
  refine ⟨fun e => ?_, fun e => ?_⟩
  · have e : i < 16 := by simp at e; omega
    have hw : IntKind.wrap .i64 (((i : Nat) : Int) + (1 : Int)) = ((i + 1 : Nat) : Int) := by rw [wrap64] <;> omega
    have hg : ∀ {g : PH}, LvB g bv f → g.rds bv (0 + (4 : Int).toNat * 1) 1 = some [.slice (f 4).a (f 4).n (f 4).c] := fun x => x.get (j := 4) (by omega) rfl
    rw [hw]
    refine ⟨bv, 0, ⟨rfl, by decide, by decide⟩, _, _, _, hg x2, cLeafText e (hl.sub c2.sub0) hm h48 fun h3 s3 => ⟨_, rfl, hg (x2.sub s3), cRSum (by have := leafT_le hm h48 i; omega) fun h4 s4 => ⟨bi (shaN (leafT l i)), by rw [bi_len, shaN_len], rfl, hg ((x2.sub s3).sub s4), ?_⟩⟩⟩
    have hn : (f 4).n = i := by rw [b2.1, lvRow_len]
    refine ((b2.sub s3).sub s4).append (new := [⟨shaN (leafT l i), shaN_len _⟩]) rfl (hsh _) rfl (by omega) fun a' c' B' h5 b5 c5 _ => ⟨bv, 0, ⟨rfl, by decide, by decide⟩, ?_⟩
    obtain ⟨ob, hob⟩ := ((x2.sub s3).sub s4).there
    have nB5 : bv ∉ B' := c5.fresh hob nB
    have x5 : LvB h5 bv f := ((x2.sub s3).sub s4).keep fun o e => c5.keep e nB
    refine x5.set (j := 4) (r := ⟨a', (f 4).n + 1, c'⟩) (by omega) rfl fun h6 x6 c6 => ⟨⟨i + 1, _, B', rfl, by omega, x6, nB5, ?_, fun j hj => ?_, ?_⟩, by omega⟩
    · rw [upF_same]
      have hrow : lvRow l 4 i ++ [⟨shaN (leafT l i), shaN_len _⟩] = lvRow l 4 (i + 1) := by
        rw [lvRow_succ]
        congr 2
        apply Subtype.ext
        show _ = nd l (16 + i)
        unfold nd
        rw [node_leaf _ (by omega) (by omega), show 16 + i - 16 = i by omega]; rfl
      rw [hrow] at b5
      exact b5.chg c6 (notIn1 nB5)
    · rw [upF_ne _ _ (by omega)]; exact f2 j hj
    · exact ((c2.onto (s3.tr s4)).trans c5.tail).trans c6.head
  · have e : i = 16 := by simp at e; omega
    subst e
    refine LoopP.ind (fun (z : Int × Unit) h' => ∃ (q : Nat) (f : Nat → SlR), z.1 = (q : Int) - 1 ∧ q ≤ 4 ∧ LvB h' bv f ∧ (∀ j, j < 5 → q ≤ j → (f j).n = 2 ^ j ∧ SR EncH h' (f j).a (lvRow l j (2 ^ j))) ∧ (∀ j, j < q → f j = ⟨none, 0, 0⟩) ∧ Chg [] [bv] h h') (fun z _ => (z.1 + 1).toNat) ?_ ⟨4, f, rfl, by omega, x2, fun j h1 h2 => ?_, f2, c2.sub (by simp) (by simp)⟩
    · rintro ⟨zl, u⟩ h3 ⟨q, f, hzl, hq, x3, r3, f3, c3⟩
      dsimp only at hzl
      subst hzl
      dsimp only
      refine ⟨fun e => ?_, fun e => ?_⟩
      · have e : 1 ≤ q := by simp at e; omega
        obtain ⟨lv, rfl⟩ : ∃ lv, q = lv + 1 := ⟨q - 1, by omega⟩
        have w1 : IntKind.wrap .i64 ((((lv + 1 : Nat) : Int) - 1) + 1) = ((lv + 1 : Nat) : Int) := by rw [wrap64] <;> omega
        have w2 : IntKind.wrap .i64 ((((lv + 1 : Nat) : Int) - 1) - 1) = ((lv : Nat) : Int) - 1 := by rw [wrap64] <;> omega
        rw [w1, w2]
        have hp2 : 2 ^ (lv + 1) = 2 * 2 ^ lv := by rw [Nat.pow_succ]; omega
        have hp8 : 2 ^ lv ≤ 8 := Nat.pow_le_pow_right (n := 2) (by decide) (show lv ≤ 3 by omega)
        refine LoopP.ind (fun (z : Int × Unit) h' => ∃ (i : Nat) (f' : Nat → SlR) (B : List Nat), z.1 = i ∧ i ≤ 2 ^ lv ∧ LvB h' bv f' ∧ bv ∉ B ∧ Buf EncH T_api_Hash B h' (f' lv).a (f' lv).n (f' lv).c (lvRow l lv i) ∧ (∀ j, j ≠ lv → f' j = f j) ∧ Chg [bv] (bv :: B) h3 h' ∧ Chg [] (bv :: B) h h') (fun z _ => (((2 ^ lv : Nat) : Int) - z.1).toNat) ?_ ⟨0, f, [], rfl, Nat.zero_le _, x3, by simp, by rw [f3 lv (by omega)]; exact Buf.nil _ _ _ _, fun _ _ => rfl, Chg.refl _ _, c3⟩
        rintro ⟨zi, u⟩ h4 ⟨i, f', B, hzi, hi, x4, nB, b4, f4, c34, c4⟩
        dsimp only at hzi
        subst hzi
        dsimp only
        have hup := r3 (lv + 1) (by omega) (by omega)
        have hup4 := x3.off hup.2 c34
        have tn1 : ((lv + 1 : Nat) : Int).toNat = lv + 1 := by omega
        have tn0 : (((lv + 1 : Nat) : Int) - 1).toNat = lv := by omega
        have g1 : ∀ {g : PH}, LvB g bv f' → g.rds bv (0 + (lv + 1) * 1) 1 = some [.slice (f (lv + 1)).a (f (lv + 1)).n (f (lv + 1)).c] := fun x => by
          have := x.get (j := lv + 1) (o := 0 + (lv + 1) * 1) (by omega) (by omega)
          rw [f4 (lv + 1) (by omega)] at this; exact this
        have g0 : ∀ {g : PH}, LvB g bv f' → g.rds bv (0 + lv * 1) 1 = some [.slice (f' lv).a (f' lv).n (f' lv).c] := fun x => x.get (j := lv) (by omega) (by omega)
        rw [tn1, tn0]
        have hdiv : IntKind.wrap .i64 ((((f (lv + 1)).n : Nat) : Int).tdiv (2 : Int)) = ((2 ^ lv : Nat) : Int) := by
          rw [hup.1, tdiv2, wrap64 (by omega) (by omega)]; omega
        refine ⟨bv, 0, ⟨rfl, by omega, by show ((lv + 1 : Nat) : Int) < 5; omega⟩, _, _, _, g1 x4, ?_⟩
        rw [hdiv]
        refine ⟨fun e2 => ?_, fun e2 => ?_⟩
        · have e2 : i < 2 ^ lv := Int.ofNat_lt.1 (of_decide_eq_true e2)
          have w3 : IntKind.wrap .i64 ((2 : Int) * ((i : Nat) : Int)) = ((2 * i : Nat) : Int) := by rw [wrap64] <;> omega
          have w4 : IntKind.wrap .i64 (((2 * i : Nat) : Int) + (1 : Int)) = ((2 * i + 1 : Nat) : Int) := by rw [wrap64] <;> omega
          have w5 : IntKind.wrap .i64 (((i : Nat) : Int) + (1 : Int)) = ((i + 1 : Nat) : Int) := by rw [wrap64] <;> omega
          have t3 : ((2 * i : Nat) : Int).toNat = 2 * i := by omega
          have t4 : ((2 * i + 1 : Nat) : Int).toNat = 2 * i + 1 := by omega
          rw [w3, w4, w5, t3, t4]
          have hl1 : 2 * i < (lvRow l (lv + 1) (2 ^ (lv + 1))).length := by rw [lvRow_len]; omega
          have hl2 : 2 * i + 1 < (lvRow l (lv + 1) (2 ^ (lv + 1))).length := by rw [lvRow_len]; omega
          obtain ⟨bb, ob, hA1, hr1⟩ := hup4.get hl1
          obtain ⟨bb2, ob2, hA2, hr2⟩ := hup4.get hl2
          have hrd1 := hr1 (ob + 2 * i * 32) 0 32 (by show _ = ob + 2 * i * 32 + 0; omega) (by decide)
          have hrd2 := hr2 (ob2 + (2 * i + 1) * 32) 0 32 (by show _ = ob2 + (2 * i + 1) * 32 + 0; omega) (by decide)
          have hen : ∀ y : H32, ((EncH.enc y).drop 0).take 32 = (bi y.1).map (Value.int .u8) ++ [] := fun y => by
            rw [List.drop_zero, List.append_nil, List.take_of_length_le (by rw [EncH.len]; decide)]; rfl
          rw [hen, lvRow_get] at hrd1 hrd2
          have hc1 : 2 ^ (lv + 1) + 2 * i = 2 * (2 ^ lv + i) := by omega
          have hc2 : 2 ^ (lv + 1) + (2 * i + 1) = 2 * (2 ^ lv + i) + 1 := by omega
          rw [hc1] at hrd1
          rw [hc2] at hrd2
          refine ⟨bv, 0, ⟨rfl, by omega, by show ((lv + 1 : Nat) : Int) - 1 < 5; omega⟩, _, _, _, g0 x4, bv, 0, ⟨rfl, by omega, by show ((lv + 1 : Nat) : Int) < 5; omega⟩, _, _, _, g1 x4, bb, ob, ⟨hA1, by omega, by rw [hup.1]; omega⟩, bi (nd l (2 * (2 ^ lv + i))), by rw [bi_len, nd_len], hrd1,
            bv, 0, ⟨rfl, by omega, by show ((lv + 1 : Nat) : Int) < 5; omega⟩, _, _, _, g1 x4, bb2, ob2, ⟨hA2, by omega, by rw [hup.1]; omega⟩, bi (nd l (2 * (2 ^ lv + i) + 1)), by rw [bi_len, nd_len], hrd2,
            cRInnerText (nd_len _ _) (nd_len _ _) fun h5 s5 => ⟨_, rfl, g0 (x4.sub s5), cRSum (by simp [innT, nd_len]) fun h6 s6 => ⟨bi (shaN (innT (nd l (2 * (2 ^ lv + i))) (nd l (2 * (2 ^ lv + i) + 1)))), by rw [bi_len, shaN_len], rfl, g0 ((x4.sub s5).sub s6), ?_⟩⟩⟩
          have hn : (f' lv).n = i := by rw [b4.1, lvRow_len]
          refine ((b4.sub s5).sub s6).append (new := [⟨shaN (innT (nd l (2 * (2 ^ lv + i))) (nd l (2 * (2 ^ lv + i) + 1))), shaN_len _⟩]) rfl (hsh _) rfl (by omega) fun a' c' B' h7 b7 c7 _ => ⟨bv, 0, ⟨rfl, by omega, by show ((lv + 1 : Nat) : Int) - 1 < 5; omega⟩, ?_⟩
          have x6 := (x4.sub s5).sub s6
          obtain ⟨ob3, hob⟩ := x6.there
          have nB7 : bv ∉ B' := c7.fresh hob nB
          have x7 : LvB h7 bv f' := x6.keep fun o e => c7.keep e nB
          refine x7.set (j := lv) (r := ⟨a', (f' lv).n + 1, c'⟩) (by omega) (by omega) fun h8 x8 c8 => ⟨⟨i + 1, _, B', rfl, by omega, x8, nB7, ?_, fun j hj => ?_, ?_, ?_⟩, by omega⟩
          · rw [upF_same]
            have hrow : lvRow l lv i ++ [⟨shaN (innT (nd l (2 * (2 ^ lv + i))) (nd l (2 * (2 ^ lv + i) + 1))), shaN_len _⟩] = lvRow l lv (i + 1) := by
              rw [lvRow_succ]
              congr 2
              apply Subtype.ext
              show _ = nd l (2 ^ lv + i)
              have : 0 < 2 ^ lv := Nat.pow_pos (by decide)
              unfold nd
              rw [node_in (leafF l) (k := 2 ^ lv + i) (by omega) (by omega)]
            rw [hrow] at b7
            exact b7.chg c8 (notIn1 nB7)
          · rw [upF_ne _ _ hj]; exact f4 j hj
          · exact ((c34.post (s5.tr s6)).trans c7.tail).trans c8.head
          · exact ((c4.onto (s5.tr s6)).trans c7.tail).trans c8.head
        · have e2 : i = 2 ^ lv := by
            rcases Nat.lt_or_ge i (2 ^ lv) with h | h
            · exact absurd (Int.ofNat_lt.2 h) (of_decide_eq_false e2)
            · omega
          subst e2
          refine ⟨⟨lv, f', rfl, by omega, x4, fun j h1 h2 => ?_, fun j hj => ?_, c4.sub (by simp) (by simp)⟩, by omega⟩
          · by_cases ej : j = lv
            · subst ej
              exact ⟨by rw [b4.1, lvRow_len], b4.sr⟩
            · rw [f4 j ej]
              obtain ⟨q1, q2⟩ := r3 j h1 (by omega)
              exact ⟨q1, x3.off q2 c34⟩
          · rw [f4 j (by omega)]; exact f3 j (by omega)
      · have e : q = 0 := by simp at e; omega
        subst e
        exact hk bv f h3 x3 (fun j hj => r3 j hj (Nat.zero_le _)) c3.sub0
    · have : j = 4 := by omega
      subst this
      exact ⟨by rw [b2.1, lvRow_len], b2.sr⟩
end TL

namespace TL
open Go Go.Proofs
variable {b : Nat} {h : PH} {K : Value → PH → Prop} {S : List PrR} {p v : List UInt8}

theorem ins_last (hx : ∀ x ∈ S, x.p < p) : ins S p v = S ++ [⟨p, v⟩] := by
  induction S with
  | nil => rfl
  | cons x r ih =>
    have h1 := hx x List.mem_cons_self
    unfold ins
    rw [if_neg (fun h => List.lt_irrefl _ (List.lt_trans h h1)), if_neg (fun e => by rw [e] at h1; exact List.lt_irrefl _ h1), ih fun y hy => hx y (List.mem_cons_of_mem _ hy)]
    rfl
theorem set_next {l : List PrR} (hm : mayB l = true) (h48 : l.length ≤ 48) {i : Nat} (hi : i < l.length) : setV (l.take i) l[i].p l[i].v = (0, l.take (i + 1)) := by
  obtain ⟨h1, h2⟩ := may_ok hm
  have hok := h1 _ (List.getElem_mem hi)
  simp only [okPr, Bool.and_eq_true, decide_eq_true_eq] at hok
  have hlt : ∀ x ∈ l.take i, x.p < l[i].p := fun x hx => by
    obtain ⟨j, hj, rfl⟩ := List.getElem_of_mem hx
    rw [List.length_take] at hj
    rw [List.getElem_take]
    exact List.pairwise_iff_getElem.1 h2 j i (by omega) hi (by omega)
  have hno : look (l.take i) l[i].p = none := look_none.2 fun x hx e => by
    have := hlt x hx
    rw [e] at this; exact List.lt_irrefl _ this
  unfold setV
  rw [if_neg (by rw [hok.1]; decide), if_neg (by omega), if_neg (fun hh => by have := hh.2; rw [List.length_take] at this; omega), ins_last hlt, ← List.take_append_getElem hi]
theorem cOfT {lA : Option Addr} {lC : Nat} {l : List PrR} (hl : SR EncPr h lA l) (hm : mayB l = true) (h48 : l.length ≤ 48) (hk : ∀ b h', Tr b h' l → h b = none → Chg [] [b] h h' → K (.tuple #[.pointer (some ⟨b, 0, none⟩), .int .i64 (0 : Int)]) h') :
    CallH Tryz.prog id_tree_Of [.slice lA l.length lC] K h := by
  obtain ⟨hok, hu⟩ := may_ok hm
  refine F_tree_Of_ok (cMay hl (by omega) (fun x hx => by have := ok_len (hok x hx); omega) ⟨_, rfl, fun e => (by rw [hm] at e; cases e), fun _ => ⟨fun e => (by simp at e; omega), fun _ => cNew fun b h1 hbn x1 c1 => ⟨_, rfl, LoopP.ind (fun (z : Int × Unit) h' => ∃ i : Nat, z.1 = i ∧ i ≤ l.length ∧ Tr b h' (l.take i) ∧ Chg [b] [b] h1 h') (fun z _ => (l.length - z.1).toNat) ?_ ⟨0, rfl, by omega, by simpa using x1, Chg.refl _ _⟩⟩⟩⟩)
  rintro ⟨zi, u⟩ h2 ⟨i, hzi, hi, x2, c2⟩
  dsimp only at hzi
  subst hzi
  dsimp only
  refine ⟨fun e => ?_, fun e => ?_⟩
  · have e : i < l.length := by simpa using e
    have hit : ((i : Nat) : Int).toNat = i := by omega
    obtain ⟨bb, o, hA, hr⟩ := (x1.keep c2 (hl.sub c1.sub0) prStr).get e
    have hln := ok_len (hok _ (List.getElem_mem e))
    rw [hit]
    refine ⟨bb, o, ⟨hA, by omega, by omega⟩, _, _, hr _ 0 2 rfl (by decide), cSet x2 (by omega) (by omega) fun h3 x3 c3 => ⟨_, rfl, ⟨i + 1, by rw [wrap64] <;> omega, by omega, ?_, c2.trans c3⟩, by rw [wrap64] <;> omega⟩⟩
    rw [set_next hm h48 e] at x3; exact x3
  · have e : i = l.length := by simp at e; omega
    rw [e, List.take_length] at x2
    exact hk b h2 x2 hbn (c1.trans c2)

theorem cNodeNo {t : Option Addr} {lv i : Int} (h0 : (((((Option.isNone t) || (decide (lv < (0 : Int)))) || (decide (lv > (4 : Int)))) || (decide (i < (0 : Int)))) = false → 0 ≤ lv)) (hc : ((((((Option.isNone t) || (decide (lv < (0 : Int)))) || (decide (lv > (4 : Int)))) || (decide (i < (0 : Int)))) || (decide (i ≥ (shlV .i64 (1 : Int) lv)))) = true))
    (hk : K (.tuple #[.agg (((List.replicate 32 (0 : Int)).map (Value.int .u8) ++ [])).toArray, .bool false]) h) : CallH Tryz.prog id_tree_Tree_Node [.pointer t, .int .i64 lv, .int .i64 i] K h :=
  F_tree_Tree_Node_ok ⟨h0, fun _ => hk, fun e => by rw [hc] at e; cases e⟩
theorem cOfNo {lA : Option Addr} {lC : Nat} {l : List PrR} (hl : SR EncPr h lA l) (hn : l.length ≤ 1000000) (hs : ∀ x ∈ l, x.p.length ≤ 1000000) (hm : mayB l = false) (hk : K (.tuple #[.pointer none, .int .i64 (1 : Int)]) h) :
    CallH Tryz.prog id_tree_Of [.slice lA l.length lC] K h :=
  F_tree_Of_ok (cMay hl hn hs ⟨_, rfl, fun _ => hk, fun e => by rw [hm] at e; cases e⟩)
end TL

namespace TL
open Go Go.Proofs
variable {b : Nat} {h : PH} {K : Value → PH → Prop} {S : List PrR} {p v : List UInt8}

variable {lA mA : Option Addr} {lC mC : Nat} {l m : List OpR}
end TL

namespace TL
open Go Go.Proofs
variable {b : Nat} {h : PH} {K : Value → PH → Prop} {S : List PrR} {p v : List UInt8}

end TL

namespace TL
open Go Go.Proofs
variable {b : Nat} {h : PH} {K : Value → PH → Prop} {S : List PrR} {p v : List UInt8}

def keyH (x : List UInt8) : Value := .agg (((bi x).map (Value.int .u8) ++ [])).toArray
theorem keyH_ok {x : List UInt8} (hx : x.length = 32) : kOk (.arr .u8 32) (keyH x) = true := by
  simp [keyH, kOk, bi, hx, isIntK, kEq]
theorem keyH_eq (x y : List UInt8) : keq (keyH x) (keyH y) = decide (x = y) := by
  show ((((bi x).map (Value.int .u8) ++ [])).toArray.toList.map intV == (((bi y).map (Value.int .u8) ++ [])).toArray.toList.map intV) = _
  rw [List.append_nil, List.append_nil, List.toList_toArray, List.toList_toArray, intV_map, intV_map, bi_beq]
/-- a map of hashes to numbers -/
def HMap (h : PH) (r : Nat) (F : List UInt8 → Option Int) : Prop := ∃ es c, h r = some (.map (es : List MapEntry).toArray c) ∧ (∀ e ∈ es, kOk (.arr .u8 32) e.key = true) ∧ ∀ x, x.length = 32 → va es (keyH x) = (F x).map (Value.int .i64)
theorem HMap.new {r : Nat} (e : h r = some (.map #[] 0)) : HMap h r fun _ => none := ⟨[], 0, e, fun _ h => (by cases h), fun _ _ => rfl⟩
theorem HMap.sub {g : PH} {r : Nat} {F : List UInt8 → Option Int} (x : HMap h r F) (s : h.Sub g) : HMap g r F := by
  obtain ⟨es, c, h1, h2, h3⟩ := x
  exact ⟨es, c, s _ _ h1, h2, h3⟩
theorem HMap.look {r : Nat} {F : List UInt8 → Option Int} (x : HMap h r F) {y : List UInt8} (hy : y.length = 32) : lkH (.arr .u8 32) h (some r) (keyH y) (.int .i64 0) (.int .i64 ((F y).getD 0)) (F y).isSome := by
  obtain ⟨es, c, h1, h2, h3⟩ := x
  refine ⟨es, ⟨⟨c, h1⟩, h2⟩, ?_⟩
  rw [lk_va, h3 y hy]
  cases F y <;> rfl
theorem HMap.put {r : Nat} {F : List UInt8 → Option Int} (x : HMap h r F) {y : List UInt8} (hy : y.length = 32) (n : Int) {K : PH → Prop} (hk : ∀ h', HMap h' r (fun z => if z = y then some n else F z) → Chg [r] [r] h h' → K h') : muH (.arr .u8 32) h (some r) (keyH y) (.int .i64 n) K := by
  obtain ⟨es, c, h1, h2, h3⟩ := x
  refine ⟨r, es, c, rfl, h1, h2, hk _ ⟨_, _, PH.upd_same _ _ _, upM_keys (keyH_ok hy) h2, fun z hz => ?_⟩ (Chg.upd _)⟩
  rw [va_upM h2 (keyH_ok hy) (keyH_ok hz), h3 z hz, keyH_eq]
  by_cases e : z = y
  · simp [e]
  · simp [e]
/-- no two of the first i texts that are unlike have one hash -/
def NoColl (l : List (List UInt8)) (i : Nat) : Prop := ∀ j k, j < i → k < i → (hj : j < l.length) → (hk : k < l.length) → shaN l[j] = shaN l[k] → l[j] = l[k]
theorem cCollides {lA : Option Addr} {lC : Nat} {l : List (List UInt8)} (hl : SR EncS h lA l) (hn : l.length ≤ 1000000) (hs : ∀ x ∈ l, x.length ≤ 1000000) (hk : ∀ c h', (c = false → NoColl l l.length) → h.Sub h' → K (.bool c) h') :
    CallH Tryz.prog id_ref15_Collides [.slice lA l.length lC] K h := by
  refine F_ref15_Collides_ok fun bm hbm => ?_
  have hb1 : (h.upd bm (.map #[] 0)) bm = _ := PH.upd_same ..
  have c1 := Chg.new (.map #[] 0) hbm
  generalize h.upd bm (.map #[] 0) = h1 at hb1 c1
  have hA : ∀ {h' : PH}, Chg [bm] [bm] h1 h' → SR EncS h' lA l := fun c => hl.sub ((c1.trans c).sub0)
  refine LoopP.ind (fun (z : Int × Unit) h' => ∃ (i : Nat) (F : List UInt8 → Option Int), z.1 = i ∧ i ≤ l.length ∧ HMap h' bm F ∧ Chg [bm] [bm] h1 h' ∧ NoColl l i ∧ (∀ x n, F x = some n → ∃ j : Nat, n = (j : Int) + 1 ∧ j < i ∧ ∃ hj : j < l.length, shaN l[j] = x) ∧ (∀ j, j < i → (hj : j < l.length) → ∃ n, F (shaN l[j]) = some n)) (fun z _ => (l.length - z.1).toNat) ?_ ⟨0, _, rfl, by omega, HMap.new hb1, Chg.refl _ _, fun _ _ h => (by omega), fun _ _ h => (by cases h), fun _ h => (by omega)⟩
  rintro ⟨zi, u⟩ h2 ⟨i, F, hzi, hi, hm, c2, hno, hF1, hF2⟩
  dsimp only at hzi
  subst hzi
  dsimp only
  refine ⟨fun e => ?_, fun e => ?_⟩
  · have e : i < l.length := by simpa using e
    have hit : ((i : Nat) : Int).toNat = i := by omega
    obtain ⟨b0, o0, hA0, hr0⟩ := (hA c2).get e
    have hr0 := hr0 (o0 + i * 1) 0 1 rfl (by decide)
    have hx := hs _ (List.getElem_mem e)
    have hw : IntKind.wrap .i64 (((i : Nat) : Int) + (1 : Int)) = ((i + 1 : Nat) : Int) := by rw [wrap64] <;> omega
    rw [hit, hw]
    refine ⟨b0, o0, ⟨hA0, by omega, by omega⟩, _, hr0, cRSum hx fun h3 s3 => ⟨bi (shaN l[i]), by rw [bi_len, shaN_len], rfl, (F (shaN l[i])).getD 0, (F (shaN l[i])).isSome, (hm.sub s3).look (shaN_len _), ?_⟩⟩
    have hr3 := rds_sub s3 hr0
    have hstep : ∀ h4, Chg [bm] [bm] h3 h4 → HMap h4 bm (fun z => if z = shaN l[i] then some ((i + 1 : Nat) : Int) else F z) → (∀ j, j < i → (hj : j < l.length) → shaN l[j] = shaN l[i] → l[j] = l[i]) →
        (∃ (i1 : Nat) (F : List UInt8 → Option Int), ((i + 1 : Nat) : Int) = i1 ∧ i1 ≤ l.length ∧ HMap h4 bm F ∧ Chg [bm] [bm] h1 h4 ∧ NoColl l i1 ∧ (∀ x n, F x = some n → ∃ j : Nat, n = (j : Int) + 1 ∧ j < i1 ∧ ∃ hj : j < l.length, shaN l[j] = x) ∧ (∀ j, j < i1 → (hj : j < l.length) → ∃ n, F (shaN l[j]) = some n)) := fun h4 c4 hm4 hnew => by
      refine ⟨i + 1, _, rfl, by omega, hm4, c2.trans (chg_pre s3 c4), fun j k hj hk hjl hkl he => ?_, fun x n hx => ?_, fun j hj hjl => ?_⟩
      · by_cases h1 : j = i
        · subst h1
          by_cases h2 : k = j
          · subst h2; rfl
          · exact (hnew k (by omega) hkl he.symm).symm
        · by_cases h2 : k = i
          · subst h2
            exact hnew j (by omega) hjl he
          · exact hno j k (by omega) (by omega) hjl hkl he
      · by_cases hxi : x = shaN l[i]
        · subst hxi
          simp at hx
          exact ⟨i, by omega, by omega, e, rfl⟩
        · simp only [if_neg hxi] at hx
          obtain ⟨j, h1, h2, h3⟩ := hF1 x n hx
          exact ⟨j, h1, by omega, h3⟩
      · by_cases hji : shaN l[j] = shaN l[i]
        · exact ⟨((i + 1 : Nat) : Int), by simp only [if_pos hji]⟩
        · have : j ≠ i := fun h => by subst h; exact hji rfl
          obtain ⟨n, hn⟩ := hF2 j (by omega) hjl
          exact ⟨n, by simp only [if_neg hji]; exact hn⟩
    cases hf : F (shaN l[i]) with
    | none =>
      refine ⟨0, 0, fun e => by simp at e, mk [], fun e => by simp at e, 0, 0, fun e => by simp at e, mk [], fun e => by simp at e, fun e => by simp at e, fun _ => ?_⟩
      refine (hm.sub s3).put (shaN_len _) _ fun h4 hm4 c4 => ⟨hstep h4 c4 hm4 fun j hj hjl he => ?_, by omega⟩
      obtain ⟨n, hn⟩ := hF2 j hj hjl
      rw [he, hf] at hn; cases hn
    | some n =>
      obtain ⟨j, rfl, hji, hjl, hje⟩ := hF1 _ _ hf
      obtain ⟨b2, o2, hA2, hr2⟩ := ((hA c2).sub s3).get hjl
      have hr2 := hr2 (o2 + j * 1) 0 1 rfl (by decide)
      have hjw : IntKind.wrap .i64 (((j : Nat) : Int) + 1 - 1) = (j : Int) := by rw [wrap64] <;> omega
      simp only [Option.getD_some]
      rw [hjw, show ((j : Nat) : Int).toNat = j by omega]
      refine ⟨b2, o2, fun _ => ⟨hA2, by omega, by omega⟩, mk l[j], fun _ => hr2, b0, o0, fun _ => ⟨hA0, by omega, by omega⟩, mk l[i], fun _ => hr3, fun e2 => ?_, fun e2 => ?_⟩
      · exact hk true _ (fun e => by cases e) (((c1.trans c2).sub0).tr s3)
      · rw [strEq_mk'] at e2
        have hij : l[j] = l[i] := by
          have : (decide ((j : Int) + 1 > 0)) = true := decide_eq_true (by omega)
          rw [this] at e2
          simpa using e2
        refine (hm.sub s3).put (shaN_len _) _ fun h4 hm4 c4 => ⟨hstep h4 c4 hm4 fun j2 hj2 hjl2 he => ?_, by omega⟩
        rw [hno j2 j hj2 hji hjl2 hjl (he.trans hje.symm), hij]
  · have e : i = l.length := by simp at e; omega
    subst e
    exact hk false _ (fun _ => hno) ((c1.trans c2).sub0)
end TL

namespace TL
open Go Go.Proofs
variable {b : Nat} {h : PH} {K : Value → PH → Prop} {S S' : List PrR} {p v : List UInt8}

theorem num_inj {n m : Nat} {r r' : List UInt8} (hn : n < 18446744073709551616) (hm : m < 18446744073709551616) (h : numL n ++ r = numL m ++ r') : n = m ∧ r = r' := by
  have h1 := next_num hn r
  have h2 := next_num hm r'
  rw [h, h2] at h1
  have : m = n := by injection h1
  subst this
  exact ⟨rfl, List.append_cancel_left h⟩
theorem text_inj {s s' r r' : List UInt8} (hs : s.length ≤ 1000) (hs' : s'.length ≤ 1000) (h : textL s ++ r = textL s' ++ r') : s = s' ∧ r = r' := by
  unfold textL at h
  rw [List.append_assoc, List.append_assoc] at h
  obtain ⟨e, h⟩ := num_inj (by omega) (by omega) h
  exact List.append_inj h e
theorem prs_inj : ∀ {l m : List PrR}, l.length = m.length → (∀ x ∈ l, okPr x = true) → (∀ x ∈ m, okPr x = true) → l.flatMap prL = m.flatMap prL → l = m
  | [], [], _, _, _, _ => rfl
  | x :: l, y :: m, hlen, hl, hm, h => by
    obtain ⟨x1, x2⟩ := ok_len (hl x List.mem_cons_self)
    obtain ⟨y1, y2⟩ := ok_len (hm y List.mem_cons_self)
    rw [List.flatMap_cons, List.flatMap_cons, prL, prL, List.append_assoc, List.append_assoc] at h
    obtain ⟨e1, h⟩ := text_inj (by omega) (by omega) h
    obtain ⟨e2, h⟩ := text_inj (by omega) (by omega) h
    have := prs_inj (by simpa using hlen) (fun z hz => hl z (List.mem_cons_of_mem _ hz)) (fun z hz => hm z (List.mem_cons_of_mem _ hz)) h
    cases x; cases y
    simp_all
theorem page_inj {l m : List PrR} {i : Nat} (hl : PgOk i l) (hm : PgOk i m) (h : pageL l = pageL m) : l = m := by
  obtain ⟨e, h⟩ := num_inj (by have := hl.2.2; omega) (by have := hm.2.2; omega) h
  exact prs_inj e (may_ok hl.1).1 (may_ok hm.1).1 h
theorem codes_in : ∀ k, k < 16 → 1 ≤ k → 16 + k ∈ codesT := by decide +kernel
theorem codes_leaf : ∀ i, i < 16 → i ∈ codesT := by decide +kernel
theorem mem_in {k : Nat} (h1 : 1 ≤ k) (h2 : k < 16) : inT S k ∈ textsT S := by
  have e : textsT S = codesT.map fun c => if c < 16 then leafT S c else inT S (c - 16) := texts_codes (leafT S) (inT S)
  rw [e]
  refine List.mem_map.2 ⟨16 + k, codes_in k h2 h1, ?_⟩
  rw [if_neg (by omega), show 16 + k - 16 = k by omega]
theorem mem_leaf {i : Nat} (h : i < 16) : leafT S i ∈ textsT S := by
  have e : textsT S = codesT.map fun c => if c < 16 then leafT S c else inT S (c - 16) := texts_codes (leafT S) (inT S)
  rw [e]
  exact List.mem_map.2 ⟨i, codes_leaf i h, by rw [if_pos h]⟩
theorem nocoll_mem {L : List (List UInt8)} (h : NoColl L L.length) {x y : List UInt8} (hx : x ∈ L) (hy : y ∈ L) (he : shaN x = shaN y) : x = y := by
  obtain ⟨i, hi, rfl⟩ := List.getElem_of_mem hx
  obtain ⟨j, hj, rfl⟩ := List.getElem_of_mem hy
  exact h i j hi hj hi hj he
variable {lA mA : Option Addr} {lC mC : Nat} {l m : List OpR}
end TL

namespace TL
open Go Go.Proofs

/-- a walk: its base, the root that is wanted, what is asked for, what is staged, the texts -/
structure WS where
  S : List PrR
  R : List UInt8
  A : Nat → Option (List UInt8)
  Q : Nat → Option (List PrR)
  T : List (List UInt8)
def wAsk (S : List PrR) (A : Nat → Option (List UInt8)) (c : Nat) (x : List UInt8) : Nat → Option (List UInt8) := if nd S c = x then A else upF A c (some x)
def wNew (S : List PrR) (R : List UInt8) : WS := ⟨S, R, wAsk S (fun _ => none) 1 R, fun _ => none, textsT S⟩
def wIn (s : WS) (c : Nat) (x y : List UInt8) : WS := { s with A := wAsk s.S (wAsk s.S (upF s.A c none) (2 * c) x) (2 * c + 1) y, T := s.T ++ [innT x y] }
def wPg (s : WS) (i : Nat) (l : List PrR) : WS := { s with A := upF s.A (16 + i) none, Q := upF s.Q i (some l), T := s.T ++ [76 :: pageL l] }
def known (X : Nat → Option (List UInt8)) (c : Nat) : Prop := c = 1 ∨ (X (c / 2)).isSome = true
/-- what is wanted of each node (W), and what was answered (X) -/
structure WInv (s : WS) (W : Nat → List UInt8) (X : Nat → Option (List UInt8)) : Prop where
  may : mayB s.S = true
  le : s.S.length ≤ 48
  r : W 1 = s.R
  wl : ∀ c, 1 ≤ c → c < 32 → known X c → (W c).length = 32
  un : ∀ c, 1 ≤ c → c < 32 → ¬ known X c → s.A c = none ∧ X c = none
  kn : ∀ c, 1 ≤ c → c < 32 → known X c → X c = none → (s.A c = none ∧ nd s.S c = W c) ∨ (s.A c = some (W c) ∧ nd s.S c ≠ W c)
  an : ∀ c t, 1 ≤ c → c < 32 → X c = some t → s.A c = none ∧ nd s.S c ≠ W c ∧ shaN t = W c ∧ t ∈ s.T
  inn : ∀ c t, 1 ≤ c → c < 16 → X c = some t → t = innT (W (2 * c)) (W (2 * c + 1))
  lf : ∀ i t, i < 16 → X (16 + i) = some t → ∃ l, s.Q i = some l ∧ PgOk i l ∧ t = 76 :: pageL l
  q : ∀ i l, i < 16 → s.Q i = some l → (X (16 + i)).isSome = true
  t : ∀ t ∈ textsT s.S, t ∈ s.T
  out : ∀ c, (c = 0 ∨ 32 ≤ c) → s.A c = none ∧ X c = none
variable {s : WS} {W : Nat → List UInt8} {X : Nat → Option (List UInt8)}
theorem wAsk_ne {S : List PrR} {A : Nat → Option (List UInt8)} {c d : Nat} {x : List UInt8} (h : d ≠ c) : wAsk S A c x d = A d := by
  unfold wAsk; split
  · rfl
  · rw [upF_ne _ _ h]
theorem wAsk_at {S : List PrR} {A : Nat → Option (List UInt8)} {c : Nat} {x : List UInt8} (h : A c = none) : (wAsk S A c x c = none ∧ nd S c = x) ∨ (wAsk S A c x c = some x ∧ nd S c ≠ x) := by
  unfold wAsk; split
  · rename_i e; exact .inl ⟨h, e⟩
  · rename_i e; exact .inr ⟨upF_same _ _ _, e⟩
theorem WInv.asked (v : WInv s W X) {c : Nat} {x : List UInt8} (h : s.A c = some x) : 1 ≤ c ∧ c < 32 ∧ known X c ∧ X c = none ∧ x = W c ∧ nd s.S c ≠ W c := by
  have h1 : 1 ≤ c ∧ c < 32 := by
    by_cases e : c = 0 ∨ 32 ≤ c
    · rw [(v.out c e).1] at h; cases h
    · omega
  have h2 : known X c := Classical.byContradiction fun e => by rw [(v.un c h1.1 h1.2 e).1] at h; cases h
  have h3 : X c = none := by
    cases e : X c with
    | none => rfl
    | some t => rw [(v.an c t h1.1 h1.2 e).1] at h; cases h
  rcases v.kn c h1.1 h1.2 h2 h3 with ⟨e, _⟩ | ⟨e, e2⟩
  · rw [e] at h; cases h
  · rw [e] at h; cases h
    exact ⟨h1.1, h1.2, h2, h3, rfl, e2⟩
theorem WInv.new {S : List PrR} {R : List UInt8} (hm : mayB S = true) (hl : S.length ≤ 48) (hR : R.length = 32) : WInv (wNew S R) (fun _ => R) fun _ => none := by
  have hk : ∀ c, known (fun _ => none) c → c = 1 := fun c h => by
    rcases h with h | h
    · exact h
    · cases h
  refine ⟨hm, hl, rfl, fun _ _ _ _ => hR, fun c _ _ h => ⟨?_, rfl⟩, fun c _ _ h _ => ?_, fun c t _ _ h => (by cases h), fun c t _ _ h => (by cases h), fun i t _ h => (by cases h), fun i l _ h => (by cases h), fun t h => h, fun c h => ⟨?_, rfl⟩⟩
  · exact wAsk_ne fun e => h (.inl e)
  · have := hk c h; subst this
    exact wAsk_at rfl
  · exact wAsk_ne (by omega)
theorem WInv.node (v : WInv s W X) {c : Nat} {x y : List UInt8} (hx : x.length = 32) (hy : y.length = 32) (hc : c < 16) (ha : s.A c = some (shaN (innT x y))) :
    WInv (wIn s c x y) (upF (upF W (2 * c) x) (2 * c + 1) y) (upF X c (some (innT x y))) := by
  obtain ⟨h1, _, h3, h4, h5, h6⟩ := v.asked ha
  have nk : ∀ d, (d = 2 * c ∨ d = 2 * c + 1) → s.A d = none ∧ X d = none := fun d hd => v.un d (by omega) (by omega) fun hk => by
    rcases hk with hk | hk
    · omega
    · rw [show d / 2 = c by omega, h4] at hk; cases hk
  have kn' : ∀ d, known (upF X c (some (innT x y))) d ↔ known X d ∨ d = 2 * c ∨ d = 2 * c + 1 := fun d => by
    unfold known upF
    by_cases e : d / 2 = c
    · rw [if_pos e]
      refine ⟨fun _ => .inr (by omega), fun _ => .inr rfl⟩
    · rw [if_neg e]
      refine ⟨fun h => .inl h, fun h => ?_⟩
      rcases h with h | h
      · exact h
      · omega
  have W' : ∀ d, d ≠ 2 * c → d ≠ 2 * c + 1 → upF (upF W (2 * c) x) (2 * c + 1) y d = W d := fun d e1 e2 => by rw [upF_ne _ _ e2, upF_ne _ _ e1]
  have A' : ∀ d, d ≠ c → d ≠ 2 * c → d ≠ 2 * c + 1 → (wIn s c x y).A d = s.A d := fun d e0 e1 e2 => by
    show wAsk _ _ _ _ d = _
    rw [wAsk_ne e2, wAsk_ne e1, upF_ne _ _ e0]
  have X' : ∀ d, d ≠ c → upF X c (some (innT x y)) d = X d := fun d e => upF_ne _ _ e
  have Wc : upF (upF W (2 * c) x) (2 * c + 1) y c = W c := W' c (by omega) (by omega)
  have Ac : (wIn s c x y).A c = none := by
    show wAsk _ _ _ _ c = _
    rw [wAsk_ne (by omega), wAsk_ne (by omega), upF_same]
  refine ⟨v.may, v.le, ?_, fun d d1 d2 hk => ?_, fun d d1 d2 hk => ?_, fun d d1 d2 hk hX => ?_, fun d t d1 d2 hX => ?_, fun d t d1 d2 hX => ?_, fun i t hi hX => ?_, fun i l hi hQ => ?_, fun t ht => List.mem_append_left _ (v.t t ht), fun d hd => ⟨?_, ?_⟩⟩
  · rw [W' 1 (by omega) (by omega)]; exact v.r
  · rcases (kn' d).1 hk with hk | rfl | rfl
    · by_cases e1 : d = 2 * c
      · subst e1; rw [upF_ne _ _ (by omega), upF_same]; exact hx
      · by_cases e2 : d = 2 * c + 1
        · subst e2; rw [upF_same]; exact hy
        · rw [W' d e1 e2]; exact v.wl d d1 d2 hk
    · rw [upF_ne _ _ (by omega), upF_same]; exact hx
    · rw [upF_same]; exact hy
  · have hk := fun h => hk ((kn' d).2 h)
    have e0 : d ≠ c := fun e => hk (.inl (e ▸ h3))
    rw [A' d e0 (fun e => hk (.inr (.inl e))) (fun e => hk (.inr (.inr e))), X' d e0]
    exact v.un d d1 d2 fun h => hk (.inl h)
  · have e0 : d ≠ c := fun e => by subst e; rw [upF_same] at hX; cases hX
    by_cases e1 : d = 2 * c
    · subst e1
      have hw : upF (upF W (2 * c) x) (2 * c + 1) y (2 * c) = x := by rw [upF_ne _ _ (by omega), upF_same]
      have hA : (wIn s c x y).A (2 * c) = wAsk s.S (upF s.A c none) (2 * c) x (2 * c) := wAsk_ne (by omega)
      rw [hw, hA]
      exact wAsk_at (by rw [upF_ne _ _ (by omega)]; exact (nk _ (.inl rfl)).1)
    · by_cases e2 : d = 2 * c + 1
      · subst e2
        rw [upF_same]
        refine wAsk_at ?_
        rw [wAsk_ne (by omega), upF_ne _ _ (by omega)]; exact (nk _ (.inr rfl)).1
      · rw [A' d e0 e1 e2, W' d e1 e2]
        rw [X' d e0] at hX
        refine v.kn d d1 d2 ?_ hX
        rcases (kn' d).1 hk with h | h | h
        · exact h
        · exact absurd h e1
        · exact absurd h e2
  · by_cases e0 : d = c
    · subst e0
      rw [upF_same] at hX; cases hX
      rw [Wc]
      exact ⟨Ac, h6, h5, List.mem_append_right _ (by simp)⟩
    · rw [X' d e0] at hX
      obtain ⟨a1, a2, a3, a4⟩ := v.an d t d1 d2 hX
      have e1 : d ≠ 2 * c := fun e => by rw [(nk d (.inl e)).2] at hX; cases hX
      have e2 : d ≠ 2 * c + 1 := fun e => by rw [(nk d (.inr e)).2] at hX; cases hX
      rw [A' d e0 e1 e2, W' d e1 e2]
      exact ⟨a1, a2, a3, List.mem_append_left _ a4⟩
  · by_cases e0 : d = c
    · subst e0
      rw [upF_same] at hX; cases hX
      rw [upF_same, upF_ne _ _ (show 2 * d ≠ 2 * d + 1 by omega), upF_same]
    · rw [X' d e0] at hX
      rw [W' (2 * d) (by omega) (by omega), W' (2 * d + 1) (by omega) (by omega)]
      exact v.inn d t d1 d2 hX
  · rw [X' _ (by omega)] at hX
    exact v.lf i t hi hX
  · rw [X' _ (by omega)]
    exact v.q i l hi hQ
  · rw [A' d (by omega) (by omega) (by omega)]; exact (v.out d hd).1
  · rw [X' d (by omega)]; exact (v.out d hd).2
theorem WInv.page (v : WInv s W X) {i : Nat} {l : List PrR} (hi : i < 16) (hp : PgOk i l) (ha : s.A (16 + i) = some (shaN (76 :: pageL l))) : WInv (wPg s i l) W (upF X (16 + i) (some (76 :: pageL l))) := by
  obtain ⟨h1, _, h3, h4, h5, h6⟩ := v.asked ha
  have X' : ∀ d, d ≠ 16 + i → upF X (16 + i) (some (76 :: pageL l)) d = X d := fun d e => upF_ne _ _ e
  have A' : ∀ d, d ≠ 16 + i → (wPg s i l).A d = s.A d := fun d e => upF_ne _ _ e
  have kn' : ∀ d, d < 32 → (known (upF X (16 + i) (some (76 :: pageL l))) d ↔ known X d) := fun d hd => by
    unfold known
    rw [X' (d / 2) (by omega)]
  refine ⟨v.may, v.le, v.r, fun d d1 d2 hk => v.wl d d1 d2 ((kn' d d2).1 hk), fun d d1 d2 hk => ?_, fun d d1 d2 hk hX => ?_, fun d t d1 d2 hX => ?_, fun d t d1 d2 hX => ?_, fun j t hj hX => ?_, fun j m hj hQ => ?_, fun t ht => List.mem_append_left _ (v.t t ht), fun d hd => ⟨?_, ?_⟩⟩
  · have hk : ¬ known X d := fun h => hk ((kn' d d2).2 h)
    have e0 : d ≠ 16 + i := fun e => hk (e ▸ h3)
    rw [A' d e0, X' d e0]
    exact v.un d d1 d2 hk
  · have e0 : d ≠ 16 + i := fun e => by subst e; rw [upF_same] at hX; cases hX
    rw [X' d e0] at hX
    rw [A' d e0]
    exact v.kn d d1 d2 ((kn' d d2).1 hk) hX
  · by_cases e0 : d = 16 + i
    · subst e0
      rw [upF_same] at hX; cases hX
      exact ⟨upF_same _ _ _, h6, h5, List.mem_append_right _ (by simp)⟩
    · rw [X' d e0] at hX
      obtain ⟨a1, a2, a3, a4⟩ := v.an d t d1 d2 hX
      rw [A' d e0]
      exact ⟨a1, a2, a3, List.mem_append_left _ a4⟩
  · rw [X' d (by omega)] at hX
    exact v.inn d t d1 d2 hX
  · by_cases e0 : j = i
    · subst e0
      rw [upF_same] at hX; cases hX
      exact ⟨l, upF_same _ _ _, hp, rfl⟩
    · rw [X' _ (by omega)] at hX
      obtain ⟨m, m1, m2, m3⟩ := v.lf j t hj hX
      exact ⟨m, by show upF s.Q i (some l) j = _; rw [upF_ne _ _ e0]; exact m1, m2, m3⟩
  · by_cases e0 : j = i
    · subst e0; rw [upF_same]; rfl
    · rw [X' _ (by omega)]
      have hQ : upF s.Q i (some l) j = some m := hQ
      rw [upF_ne _ _ e0] at hQ
      exact v.q j m hj hQ
  · rw [A' d (by omega)]; exact (v.out d hd).1
  · rw [X' d (by omega)]; exact (v.out d hd).2

/-! ### A tree of texts -/
structure VT (T : List (List UInt8)) (P : Nat → List PrR) (R : List UInt8) (H : Nat → List UInt8) (TX : Nat → List UInt8) : Prop where
  r : H 1 = R
  mem : ∀ c, 1 ≤ c → c < 32 → TX c ∈ T
  sha : ∀ c, 1 ≤ c → c < 32 → shaN (TX c) = H c
  inn : ∀ c, 1 ≤ c → c < 16 → TX c = innT (H (2 * c)) (H (2 * c + 1))
  lf : ∀ i, i < 16 → TX (16 + i) = 76 :: pageL (P i)
  ok : ∀ i, i < 16 → PgOk i (P i)
def ndT (S : List PrR) (c : Nat) : List UInt8 := if c < 16 then inT S c else leafT S (c - 16)
theorem ndT_sha (S : List PrR) {c : Nat} (h1 : 1 ≤ c) (h2 : c < 32) : shaN (ndT S c) = nd S c := by
  unfold ndT
  split
  · rename_i h; unfold nd; rw [node_in _ h1 h]; rfl
  · rename_i h; unfold nd; rw [node_leaf _ (by omega) h2]; rfl
theorem ndT_mem (S : List PrR) {c : Nat} (h1 : 1 ≤ c) (h2 : c < 32) : ndT S c ∈ textsT S := by
  unfold ndT
  split
  · rename_i h; exact mem_in h1 h
  · exact mem_leaf (by omega)
theorem VT.tree {S : List PrR} (hm : mayB S = true) (hl : S.length ≤ 48) : VT (textsT S) (partB S) (nd S 1) (nd S) (ndT S) := by
  refine ⟨rfl, fun c h1 h2 => ndT_mem S h1 h2, fun c h1 h2 => ndT_sha S h1 h2, fun c h1 h2 => ?_, fun i hi => ?_, fun i _ => part_ok hm hl i⟩
  · unfold ndT; rw [if_pos h2]; rfl
  · unfold ndT; rw [if_neg (by omega), show 16 + i - 16 = i by omega]; rfl
theorem innT_inj {x y x' y' : List UInt8} (h : innT x y = innT x' y') (hx : x.length = x'.length) : x = x' ∧ y = y' := by
  unfold innT at h
  simp only [List.cons.injEq, true_and] at h
  exact List.append_inj h hx
theorem VT.inj {T T' L : List (List UInt8)} {P P' : Nat → List PrR} {R : List UInt8} {H H' TX TX' : Nat → List UInt8} (v : VT T P R H TX) (v' : VT T' P' R H' TX') (hno : NoColl L L.length) (h1 : ∀ t ∈ T, t ∈ L) (h2 : ∀ t ∈ T', t ∈ L) :
    ∀ i, i < 16 → P i = P' i := by
  have hall : ∀ m c, c = m → 1 ≤ c → c < 32 → H c = H' c := by
    intro m
    induction m using Nat.strongRecOn with
    | ind m ih =>
      intro c hcm c1 c2
      by_cases e : c = 1
      · subst e; rw [v.r, v'.r]
      · have hp := ih (c / 2) (by omega) (c / 2) rfl (by omega) (by omega)
        rw [← v.sha _ (by omega) (by omega), ← v'.sha _ (by omega) (by omega)] at hp
        have ht := nocoll_mem hno (h1 _ (v.mem _ (by omega) (by omega))) (h2 _ (v'.mem _ (by omega) (by omega))) hp
        rw [v.inn _ (by omega) (by omega), v'.inn _ (by omega) (by omega)] at ht
        have hl : (H (2 * (c / 2))).length = (H' (2 * (c / 2))).length := by
          rw [← v.sha _ (by omega) (by omega), ← v'.sha _ (by omega) (by omega), shaN_len, shaN_len]
        obtain ⟨t1, t2⟩ := innT_inj ht hl
        rcases Nat.mod_two_eq_zero_or_one c with h | h
        · rw [show 2 * (c / 2) = c by omega] at t1; exact t1
        · rw [show 2 * (c / 2) + 1 = c by omega] at t2; exact t2
  intro i hi
  have hh := hall (16 + i) (16 + i) rfl (by omega) (by omega)
  rw [← v.sha _ (by omega) (by omega), ← v'.sha _ (by omega) (by omega)] at hh
  have ht := nocoll_mem hno (h1 _ (v.mem _ (by omega) (by omega))) (h2 _ (v'.mem _ (by omega) (by omega))) hh
  rw [v.lf i hi, v'.lf i hi] at ht
  simp only [List.cons.injEq, true_and] at ht
  exact page_inj (v.ok i hi) (v'.ok i hi) ht
/-- the parts that a walk comes to -/
def wPart (s : WS) (i : Nat) : List PrR := (s.Q i).getD (partB s.S i)
theorem WInv.vt (v : WInv s W X) (hd : ∀ c, s.A c = none) : ∃ H TX, VT s.T (wPart s) s.R H TX := by
  refine ⟨fun c => if (1 ≤ c ∧ c < 32) ∧ (c = 1 ∨ (X (c / 2)).isSome = true) then W c else nd s.S c, fun c => (X c).getD (ndT s.S c), ?_⟩
  have kx : ∀ c, (X c).isSome = true → 1 ≤ c → c < 32 → known X c := fun c hc h1 h2 => Classical.byContradiction fun h => by rw [(v.un c h1 h2 h).2] at hc; cases hc
  have hH : ∀ c, 1 ≤ c → c < 32 → shaN ((X c).getD (ndT s.S c)) = if (1 ≤ c ∧ c < 32) ∧ (c = 1 ∨ (X (c / 2)).isSome = true) then W c else nd s.S c := fun c h1 h2 => by
    cases e : X c with
    | some t =>
      have hk := kx c (by rw [e]; rfl) h1 h2
      rw [if_pos ⟨⟨h1, h2⟩, hk⟩]
      exact (v.an c t h1 h2 e).2.2.1
    | none =>
      rw [Option.getD_none, ndT_sha _ h1 h2]
      split
      · rename_i hk
        rcases v.kn c h1 h2 hk.2 e with ⟨_, h⟩ | ⟨h, _⟩
        · exact h
        · rw [hd c] at h; cases h
      · rfl
  refine ⟨?_, fun c h1 h2 => ?_, hH, fun c h1 h2 => ?_, fun i hi => ?_, fun i hi => ?_⟩
  · rw [if_pos ⟨by omega, .inl rfl⟩]; exact v.r
  · cases e : X c with
    | some t => exact (v.an c t h1 h2 e).2.2.2
    | none => exact v.t _ (ndT_mem _ h1 h2)
  · cases e : X c with
    | some t =>
      rw [if_pos ⟨by omega, .inr (by rw [show 2 * c / 2 = c by omega, e]; rfl)⟩, if_pos ⟨by omega, .inr (by rw [show (2 * c + 1) / 2 = c by omega, e]; rfl)⟩]
      exact v.inn c t h1 h2 e
    | none =>
      have n1 : ¬ (2 * c = 1 ∨ (X (2 * c / 2)).isSome = true) := fun h => by
        rcases h with h | h
        · omega
        · rw [show 2 * c / 2 = c by omega, e] at h; cases h
      have n2 : ¬ (2 * c + 1 = 1 ∨ (X ((2 * c + 1) / 2)).isSome = true) := fun h => by
        rcases h with h | h
        · omega
        · rw [show (2 * c + 1) / 2 = c by omega, e] at h; cases h
      rw [if_neg fun h => n1 h.2, if_neg fun h => n2 h.2, Option.getD_none]
      unfold ndT; rw [if_pos h2]; rfl
  · unfold wPart
    cases e : X (16 + i) with
    | some t =>
      obtain ⟨l, h1, _, h3⟩ := v.lf i t hi e
      rw [h1]; exact h3
    | none =>
      have : s.Q i = none := by
        cases e2 : s.Q i with
        | none => rfl
        | some l => have := v.q i l hi e2; rw [e] at this; cases this
      rw [this, Option.getD_none, Option.getD_none]
      unfold ndT; rw [if_neg (by omega), show 16 + i - 16 = i by omega]; rfl
  · unfold wPart
    cases e : s.Q i with
    | none => exact part_ok v.may v.le i
    | some l =>
      have := v.q i l hi e
      obtain ⟨t, ht⟩ := Option.isSome_iff_exists.1 this
      obtain ⟨m, h1, h2, _⟩ := v.lf i t hi ht
      rw [e] at h1; cases h1
      exact h2
/-- parts put together, in their row -/
theorem parts_up {P : Nat → List PrR} (hok : ∀ i, i < 16 → PgOk i (P i)) {l : List PrR} (hp : l.Perm ((List.range 16).flatMap P)) (hs : l.Pairwise fun a b => ¬ b.p < a.p) : mayB l = true ∧ ∀ i, i < 16 → partB l i = P i := by
  have hne : ((List.range 16).flatMap P).Pairwise fun a b => a.p ≠ b.p := by
    rw [List.pairwise_flatMap]
    refine ⟨fun i hi => (may_ok (hok i (List.mem_range.1 hi)).1).2.imp fun {a b} h e => by rw [e] at h; exact List.lt_irrefl _ h, ?_⟩
    refine List.Pairwise.imp_of_mem (R := fun a b => a < b) (fun {i j} hi hj hij => ?_) List.pairwise_lt_range
    intro a ha b hb e
    have h1 := (hok i (List.mem_range.1 hi)).2.1 a ha
    have h2 := (hok j (List.mem_range.1 hj)).2.1 b hb
    rw [e, h2] at h1; omega
  have hne2 : l.Pairwise fun a b => a.p ≠ b.p := (hp.pairwise_iff fun {a b} h => fun e => h e.symm).2 hne
  have hup : Up l := (hs.and hne2).imp fun {a b} h => lt_of_not h.1 (fun e => h.2 e.symm)
  have hall : ∀ x ∈ l, okPr x = true := fun x hx => by
    have := hp.mem_iff.1 hx
    obtain ⟨i, hi, hx⟩ := List.mem_flatMap.1 this
    exact (may_ok (hok i (List.mem_range.1 hi)).1).1 x hx
  refine ⟨?_, fun i hi => ?_⟩
  · simp only [mayB, Bool.and_eq_true, List.all_eq_true, decide_eq_true_eq]
    exact ⟨hall, hup⟩
  · have h1 : (partB l i).Perm (P i) := by
      have h2 : (partB l i).Perm (partB ((List.range 16).flatMap P) i) := hp.filter _
      refine h2.trans (List.Perm.of_eq ?_)
      unfold partB
      rw [List.filter_flatMap]
      have : ∀ j, j < 16 → (P j).filter (fun x => bkt x.p == i) = if j = i then P i else [] := fun j hj => by
        split
        · rename_i e; subst e
          exact List.filter_eq_self.2 fun x hx => by simp [(hok j hj).2.1 x hx]
        · rename_i e
          exact List.filter_eq_nil_iff.2 fun x hx => by simp [(hok j hj).2.1 x hx, e]
      rw [flat_at _ hi]
      have z1 : (List.range i).flatMap (fun j => (P j).filter fun x => bkt x.p == i) = [] := List.flatMap_eq_nil_iff.2 fun j hj => by
        rw [this j (by have := List.mem_range.1 hj; omega), if_neg (by have := List.mem_range.1 hj; omega)]
      have z2 : (List.range' (i + 1) (16 - i - 1)).flatMap (fun j => (P j).filter fun x => bkt x.p == i) = [] := List.flatMap_eq_nil_iff.2 fun j hj => by
        have hj := List.mem_range'_1.1 hj
        rw [this j (by omega), if_neg (by omega)]
      rw [z1, z2, this i hi, if_pos rfl, List.nil_append, List.append_nil]
    have hu := (may_ok (hok i hi).1).2
    refine up_unique hu h1 ?_
    exact (up_part hup i).imp fun {a b} h h2 => List.lt_irrefl _ (List.lt_trans h h2)
theorem VT.root {T : List (List UInt8)} {P : Nat → List PrR} {R : List UInt8} {H TX : Nat → List UInt8} (v : VT T P R H TX) {l : List PrR} (hl : ∀ i, i < 16 → partB l i = P i) : nd l 1 = R := by
  have hall : ∀ m c, 32 - c = m → 1 ≤ c → c < 32 → nd l c = H c := by
    intro m
    induction m using Nat.strongRecOn with
    | ind m ih =>
      intro c hcm c1 c2
      rw [← v.sha c c1 c2]
      by_cases h16 : 16 ≤ c
      · have := v.lf (c - 16) (by omega)
        rw [show 16 + (c - 16) = c by omega] at this
        rw [this]
        unfold nd
        rw [node_leaf _ h16 c2, leafF, leafT, hl (c - 16) (by omega)]
      · rw [v.inn c c1 (by omega), ← ih (32 - 2 * c) (by omega) (2 * c) rfl (by omega) (by omega), ← ih (32 - (2 * c + 1)) (by omega) (2 * c + 1) rfl (by omega) (by omega)]
        unfold nd
        rw [node_in _ c1 (by omega)]
  rw [hall 31 1 rfl (by omega) (by omega), v.r]
/-- what is asked for is what the wanted tree has, if no two unlike texts have one hash -/
theorem WInv.wants (v : WInv s W X) {S' : List PrR} {L : List (List UInt8)} (hR : s.R = nd S' 1) (hno : NoColl L L.length) (h1 : ∀ t ∈ s.T, t ∈ L) (h2 : ∀ t ∈ textsT S', t ∈ L) : ∀ c, 1 ≤ c → c < 32 → known X c → W c = nd S' c := by
  have hall : ∀ m c, c = m → 1 ≤ c → c < 32 → known X c → W c = nd S' c := by
    intro m
    induction m using Nat.strongRecOn with
    | ind m ih =>
      intro c hcm c1 c2 hk
      by_cases e : c = 1
      · subst e; rw [v.r, hR]
      · rcases hk with hk | hk
        · exact absurd hk e
        · obtain ⟨t, ht⟩ := Option.isSome_iff_exists.1 hk
          have hkp : known X (c / 2) := Classical.byContradiction fun h => by rw [(v.un (c / 2) (by omega) (by omega) h).2] at ht; cases ht
          have hp := ih (c / 2) (by omega) (c / 2) rfl (by omega) (by omega) hkp
          obtain ⟨_, _, a3, a4⟩ := v.an (c / 2) t (by omega) (by omega) ht
          rw [← a3, ← ndT_sha S' (show 1 ≤ c / 2 by omega) (by omega)] at hp
          have he := nocoll_mem hno (h1 _ a4) (h2 _ (ndT_mem S' (by omega) (by omega))) hp
          rw [v.inn _ t (by omega) (by omega) ht] at he
          unfold ndT at he
          rw [if_pos (by omega)] at he
          have hkl : known X (2 * (c / 2)) := .inr (by rw [show 2 * (c / 2) / 2 = c / 2 by omega, ht]; rfl)
          obtain ⟨t1, t2⟩ := innT_inj he (by rw [v.wl _ (by omega) (by omega) hkl, nd_len])
          rcases Nat.mod_two_eq_zero_or_one c with h | h
          · rw [show 2 * (c / 2) = c by omega] at t1; exact t1
          · rw [show 2 * (c / 2) + 1 = c by omega] at t2; exact t2
  exact fun c => hall c c rfl
/-! ### How much is asked for -/
def wsz (c : Nat) : Nat := if c = 0 ∨ 32 ≤ c then 0 else 2 ^ (5 - c.log2) - 1
theorem wsz_in : ∀ c, c < 16 → 1 ≤ c → wsz c = wsz (2 * c) + wsz (2 * c + 1) + 1 := by decide +kernel
theorem wsz_pos : ∀ c, c < 32 → 1 ≤ c → 1 ≤ wsz c := by decide +kernel
def wSize (A : Nat → Option (List UInt8)) : Nat := ((List.range 32).map fun c => if (A c).isSome then wsz c else 0).sum
theorem sum_up (f g : Nat → Nat) {m k : Nat} (hk : k < m) (h : ∀ j, j ≠ k → f j = g j) : ((List.range m).map f).sum + g k = ((List.range m).map g).sum + f k := by
  have e : ∀ f : Nat → Nat, ((List.range m).map f).sum = ((List.range k).map f).sum + (f k + ((List.range' (k + 1) (m - k - 1)).map f).sum) := fun f => by
    rw [range_at hk]; simp
  have e1 : (List.range k).map f = (List.range k).map g := List.map_congr_left fun j hj => h j (by have := List.mem_range.1 hj; omega)
  have e2 : (List.range' (k + 1) (m - k - 1)).map f = (List.range' (k + 1) (m - k - 1)).map g := List.map_congr_left fun j hj => h j (by have := List.mem_range'_1.1 hj; omega)
  rw [e f, e g, e1, e2]; omega
theorem wSize_none {A : Nat → Option (List UInt8)} {c : Nat} (hc : c < 32) (h : (A c).isSome = true) : wSize (upF A c none) + wsz c = wSize A := by
  have := sum_up (fun d => if (upF A c none d).isSome then wsz d else 0) (fun d => if (A d).isSome then wsz d else 0) hc (fun j hj => by rw [upF_ne _ _ hj])
  rw [upF_same, h] at this
  simpa [wSize] using this
theorem wSize_ask {S : List PrR} {A : Nat → Option (List UInt8)} {c : Nat} {x : List UInt8} (hc : c < 32) : wSize (wAsk S A c x) ≤ wSize A + wsz c := by
  unfold wAsk
  split
  · omega
  · have := sum_up (fun d => if (upF A c (some x) d).isSome then wsz d else 0) (fun d => if (A d).isSome then wsz d else 0) hc (fun j hj => by rw [upF_ne _ _ hj])
    rw [upF_same] at this
    simp only [Option.isSome_some, if_true] at this
    unfold wSize; omega
theorem wSize_new (S : List PrR) (R : List UInt8) : wSize (wNew S R).A ≤ 31 := by
  have := wSize_ask (S := S) (A := fun _ => none) (c := 1) (x := R) (by omega)
  have h0 : wSize (fun _ => none) = 0 := by decide +kernel
  have h1 : wsz 1 = 31 := by decide +kernel
  show wSize (wAsk _ _ _ _) ≤ 31
  omega
theorem wSize_in {c : Nat} {x y z : List UInt8} (h1 : 1 ≤ c) (hc : c < 16) (h : s.A c = some z) : wSize (wIn s c x y).A + 1 ≤ wSize s.A := by
  have e1 := wSize_none (A := s.A) (c := c) (by omega) (by rw [h]; rfl)
  have e2 := wSize_ask (S := s.S) (A := upF s.A c none) (c := 2 * c) (x := x) (by omega)
  have e3 := wSize_ask (S := s.S) (A := wAsk s.S (upF s.A c none) (2 * c) x) (c := 2 * c + 1) (x := y) (by omega)
  have e4 := wsz_in c hc h1
  show wSize (wAsk _ _ _ _) + 1 ≤ _
  omega
theorem wSize_pg {i : Nat} {l : List PrR} {z : List UInt8} (hi : i < 16) (h : s.A (16 + i) = some z) : wSize (wPg s i l).A + 1 ≤ wSize s.A := by
  have e1 := wSize_none (A := s.A) (c := 16 + i) (by omega) (by rw [h]; rfl)
  have e2 := wsz_pos (16 + i) (by omega) (by omega)
  show wSize (upF _ _ _) + 1 ≤ _
  omega
/-- what is asked for, in its row -/
def wList (A : Nat → Option (List UInt8)) : List Nat := (List.range 32).filter fun c => (A c).isSome
theorem wList_nil (hv : WInv s W X) (h : wList s.A = []) : ∀ c, s.A c = none := fun c => by
  by_cases hc : c < 32
  · have := List.filter_eq_nil_iff.1 h c (List.mem_range.2 hc)
    simpa using this
  · exact (hv.out c (.inr (by omega))).1
end TL

namespace TL
open Go Go.Proofs Go.RowKit Go.Maps Go.Sort Go.ChangeMaps Go.MapKept Go.WideShapes
section
variable {F : Fence} {n : Nat} {P : Program} (w : World) {ops : Array Oper} {rest : List Oper} {o : Oper} {a : Act} {Q : Exit → Act → World → Prop}
/-- a range under way -/
structure ItAt (w : World) (b r : Nat) (es : Array MapEntry) (clock since : Nat) (seen : Array Nat) : Prop where
  m : w.heap[b]? = some (.map es clock)
  it : ∃ c0, w.heap[r]? = some (.mapIter (some b) since seen c0) ∧ since ≤ c0
  sc : since ≤ clock
  old : ∀ x ∈ es.toList, x.born < since
  nd : (es.toList.map (·.born)).Nodup
theorem ItAt.walks {w w' : World} {b r : Nat} {es : Array MapEntry} {clock since : Nat} {seen : Array Nat} (h : ItAt w b r es clock since seen) (hk : KeepsWalks w w') : ItAt w' b r es clock since seen := by
  obtain ⟨c0, h1, h2⟩ := h.it
  exact ⟨hk.same b _ h.m rfl, ⟨c0, hk.same r _ h1 rfl, h2⟩, h.sc, h.old, h.nd⟩
theorem ItAt.left {w : World} {b r : Nat} {es : Array MapEntry} {clock since : Nat} {seen : Array Nat} (h : ItAt w b r es clock since seen) : w.rangeLeft b r = (leftOf es seen).size := by
  obtain ⟨c0, h1, _⟩ := h.it
  simp only [World.rangeLeft, h.m, h1]
theorem wpListIn_range_raw (hg : o.guard = none) (m : Operand) (t : TypeId) (hop : o.op = Op.range t m) (k e : TypeId) (ht : P.underlying t = some (.map k e)) (b : Nat) (es : Array MapEntry) (clock : Nat)
    (hm : a.eval m = .map (some b)) (hb : w.heap[b]? = some (.map es clock)) (hold : ∀ x ∈ es.toList, x.born < clock) (hnd : (es.toList.map (·.born)).Nodup)
    (hK : ∀ w', ItAt w' b w.heap.size es clock clock #[] → w.grownBy w' none → w'.heap.size = w.heap.size + 1 → wpListIn F n P ops Q rest (a.put o.dst (.pointer (some ⟨w.heap.size, 0, none⟩))) w') :
    wpListIn F n P ops Q (o :: rest) a w := by
  refine wpListIn_plain hg fun K' hK' => ?_
  have hrun := run_range_map (P := P) w t k e b es clock ht hb
  have hlt : b < w.heap.size := (Array.getElem?_eq_some_iff.1 hb).1
  unfold Oper.wpIn
  refine ⟨?_, ?_⟩
  · simp [Oper.about, hop]
  · rw [Oper.semAt_plain F _ _ (by rw [hop]; intro c hc'; cases hc')]
    simp [execOp, hop, hm, hrun, Result.andThen]
    exact hK' _ _ (hK _ ⟨((MapKept.heap_alloc w _).2 b hlt).trans hb, ⟨clock, (MapKept.heap_alloc w _).1, Nat.le_refl _⟩, Nat.le_refl _, hold, hnd⟩ (World.grownBy_alloc w _ none) (by simp))
theorem wpListIn_next_raw (hg : o.guard = none) (it : Operand) (hop : o.op = Op.next it false) (b r : Nat) (es : Array MapEntry) (clock since : Nat) (seen : Array Nat)
    (hit : a.eval it = .pointer (some ⟨r, 0, none⟩)) (h : ItAt w b r es clock since seen)
    (hDone : (leftOf es seen).size = 0 → wpListIn F n P ops Q rest (a.put o.dst (.tuple #[.bool false])) w)
    (hMore : ∀ (e : MapEntry) (w' : World), e ∈ (leftOf es seen).toList → ItAt w' b r es clock since (seen.push e.born) →
      w.grownBy w' (some r) → w'.heap.size = w.heap.size → (Instr.entry (.pointer (some ⟨r, 0, none⟩))).run P w' = .ok (.tuple #[e.key, e.val]) w' → wpListIn F n P ops Q rest (a.put o.dst (.tuple #[.bool true, e.key, e.val])) w') :
    wpListIn F n P ops Q (o :: rest) a w := by
  refine wpListIn_plain hg fun K' hK' => ?_
  unfold Oper.wpIn
  refine ⟨by simp [Oper.about, hop], ?_⟩
  rw [Oper.semAt_plain F _ _ (by rw [hop]; intro c hc'; cases hc')]
  obtain ⟨c0, hr, hsc⟩ := h.it
  have hne : r ≠ b := fun e => by subst e; rw [h.m] at hr; cases hr
  rcases run_next_at (P := P) w o.type r b since c0 seen es clock hr h.m h.old hsc with ⟨h0, hrun⟩ | ⟨e, he, w1, hal, hrun⟩
  · simp [execOp, hop, hit, hrun, Result.andThen]
    exact hK' _ _ (hDone h0)
  · have hr1 : w1.heap[r]? = some (.mapIter (some b) since seen c0) := by rcases hal with rfl | rfl <;> exact hr
    have hb1 : w1.heap[b]? = some (.map es clock) := by rcases hal with rfl | rfl <;> exact h.m
    have hset := heap_set (o' := .mapIter (some b) since (seen.push e.born) clock) hr1
    have hb' : (setBlock w1 r (.mapIter (some b) since (seen.push e.born) clock)).heap[b]? = some (.map es clock) := (hset.2 b (fun e1 => hne e1.symm)).trans hb1
    simp [execOp, hop, hit, hrun, Result.andThen]
    refine hK' _ _ (hMore e _ he ⟨hb', ⟨clock, hset.1, h.sc⟩, h.sc, h.old, h.nd⟩ ?_ ?_ (run_entry_at _ r b since seen es clock e hset.1 hb' (mem_left he).1 h.nd))
    · rcases hal with rfl | rfl <;> exact ⟨rfl, rfl, rfl, by simp [setBlock], fun i _ hi => hset.2 i (fun e1 => hi (by rw [e1]))⟩
    · rcases hal with rfl | rfl <;> simp [setBlock]
end
theorem left_push (es : Array MapEntry) (seen : Array Nat) (b : Nat) : (leftOf es (seen.push b)).toList = (leftOf es seen).toList.filter fun e => !(e.born == b) := by
  unfold leftOf
  rw [Array.toList_filter, Array.toList_filter, List.filter_filter]
  apply List.filter_congr
  intro e _
  rw [contains_push]
  cases seen.contains e.born <;> cases (e.born == b) <;> rfl
theorem perm_out {e : MapEntry} : ∀ {l : List MapEntry}, (l.map (·.born)).Nodup → e ∈ l → l.Perm (e :: l.filter fun x => !(x.born == e.born))
  | [], _, h => by cases h
  | a :: l, hn, h => by
    rw [List.map_cons, List.nodup_cons] at hn
    rcases List.mem_cons.1 h with rfl | h
    · have : l.filter (fun x => !(x.born == e.born)) = l := List.filter_eq_self.2 fun x hx => by
        have : x.born ≠ e.born := fun ee => hn.1 (ee ▸ List.mem_map.2 ⟨x, hx, rfl⟩)
        simp [this]
      rw [List.filter_cons, this]
      simp
    · have hne : a.born ≠ e.born := fun ee => hn.1 (ee ▸ List.mem_map.2 ⟨e, h, rfl⟩)
      have : (a :: l).filter (fun x => !(x.born == e.born)) = a :: l.filter fun x => !(x.born == e.born) := by
        rw [List.filter_cons]; simp [hne]
      rw [this]
      exact ((perm_out hn.2 h).cons a).trans (List.Perm.swap e a _)
/-- a key that walks ask for -/
def keyV (x : Int × Int) : Value := .agg #[.int .i64 x.1, .int .i64 x.2]
set_option maxRecDepth 100000 in
set_option maxHeartbeats 1000000 in
theorem keysAsk_in (F : Fence) (n : Nat) (hf : F.fn 151) (hro : F.round = none) (hn : 1 ≤ n) (l Bm b : Nat) (es : Array MapEntry) (clock : Nat) (hkey : ∀ e ∈ es.toList, ∃ x, e.key = keyV x) (hold : ∀ x ∈ es.toList, x.born < clock) (hnd : (es.toList.map (·.born)).Nodup)
    (J : List (Int × Int) → World → Prop)
    (hY : ∀ pre x W, J pre W → pre.length < es.size → YieldAt F (n - 1) Tryz.prog l #[keyV x] W fun e W' => e = .returned (.bool true) ∧ J (pre ++ [x]) W' ∧ KeepsWalks W W')
    (W : World) (hJ : AbidesFrom W.heap.size J) (hm : W.cell? ⟨Bm, 0, none⟩ = some (.map (some b))) (hb : W.heap[b]? = some (.map es clock)) (h0 : J [] W) :
    CallsIn F n Tryz.prog 151 #[.func (.yield l) #[] #[], .pointer (some ⟨Bm, 0, none⟩)] W fun e W' => (∃ v, e = .returned v) ∧ ∃ ss : List (Int × Int), (ss.map keyV).Perm (es.toList.map (·.key)) ∧ J ss W' := by
  refine callsIn_of_wp Tryz.func151 rfl hf ?_ hro
  simp only [Tryz.ntmps151, List.size_toArray, List.length_cons, List.length_nil, Nat.reduceAdd, Nat.reduceSub, Array.replicate_succ, Array.replicate_zero, List.push_toArray, List.append_toArray, List.nil_append, List.cons_append]
  gi_wp2_with (first
    | (gi_at_range; refine wpListIn_range_raw _ rfl _ 184 rfl 79 46 Tryz.underlying184 b es clock rfl hb hold hnd ?_; intro w0 hrg0 hg0 hs0)
    | gi_in)
  go_frame
  gi_loopw [3] (fun _ wr => ∃ (seen : Array Nat) (gs : List MapEntry) (ss : List (Int × Int)), ItAt wr b W.heap.size es clock clock seen ∧ (gs ++ (leftOf es seen).toList).Perm es.toList ∧ ss.map keyV = gs.map (·.key) ∧ J ss wr)
    (fun _ wr => wr.rangeLeft b W.heap.size)
  case atStart =>
    exact ⟨_, [], [], hrg0, (by simp only [leftOf, List.nil_append, Array.toList_filter]; exact List.Perm.of_eq (List.filter_eq_self.2 fun _ _ => by simp)), rfl, hJ [] W w0 none h0 hg0 (fun r e => by cases e)⟩
  case round =>
    obtain ⟨seen, gs, ss, hrg, hpm, hmap, hJs⟩ := hrel
    gi_wp2_with (first
      | (gi_at_next; refine wpListIn_next_raw _ rfl _ rfl b W.heap.size es clock clock seen rfl hrg ?_ ?_)
      | gi_in)
    · intro hl0
      gi_wp2
      go_end0
      refine ⟨⟨_, rfl⟩, ss, ?_, hJs⟩
      rw [show leftOf es seen = #[] from hl0] at hpm
      rw [hmap]
      have := hpm.map (·.key)
      simpa using this
    · intro e w2 he hrg2 hg2 hs2 hen
      obtain ⟨⟨p, q⟩, hx⟩ := hkey e (mem_left (Array.mem_toList_iff.2 he)).1
      have hx : e.key = .agg #[.int .i64 p, .int .i64 q] := hx
      rw [hx] at hen
      rw [hx]
      have hlen : ss.length < es.size := by
        have h1 := hpm.length_eq
        have h2 := congrArg List.length hmap
        have h3 := List.length_pos_of_mem (Array.mem_toList_iff.2 he)
        simp only [List.length_append, List.length_map, Array.length_toList] at h1 h2 h3
        omega
      have hJ2 : J ss w2 := hJ ss wr w2 (some W.heap.size) hJs hg2 (fun r e => by
        cases e
        obtain ⟨c0, h1, _⟩ := hrg.it
        exact ⟨Nat.le_refl _, _, h1, rfl⟩)
      have hJ3 : J ss (w2.alloc (.cells #[.int .i64 p, .int .i64 q] 79)) := hJ ss w2 _ none hJ2 (World.grownBy_alloc w2 _ none) (fun r e => by cases e)
      obtain ⟨fn, tmps, assign, body, hy, hR⟩ := hY ss (p, q) _ hJ3 hlen
      have hy : (Instr.yield l #[.agg #[.int .i64 p, .int .i64 q]]).run Tryz.prog (w2.alloc (.cells #[.int .i64 p, .int .i64 q] 79)) = _ := hy
      have hrg3 := hrg2.walks (KeepsWalks.alloc w2 (.cells #[.int .i64 p, .int .i64 q] 79))
      clear hs2
      gi_wp2
      refine hR.mono ?_
      rintro e' W3 ⟨rfl, hJ4, hk4⟩
      gi_wp2
      have hrg4 := hrg3.walks hk4
      go_roundw
      case rel =>
        refine ⟨_, gs ++ [e], ss ++ [(p, q)], hrg4, ?_, ?_, hJ4⟩
        · rw [left_push, List.append_assoc]
          refine List.Perm.trans (List.Perm.append_left gs ?_) hpm
          exact (perm_out (List.Nodup.sublist ((List.filter_sublist (p := fun e => !seen.contains e.born) (l := es.toList)).map _) hrg.nd |> fun h => by unfold leftOf; rw [Array.toList_filter]; exact h) (Array.mem_toList_iff.2 he)).symm
        · rw [List.map_append, List.map_append, hmap]
          simp [keyV, hx]
      case measure => rw [hrg4.left, hrg.left]; exact left_shrinks es seen e (Array.mem_toList_iff.2 he)
/-- maps.Keys hands back a row of keys -/
theorem keysAsk_gives (F : Fence) (n : Nat) (hf : F.fn 151) (hro : F.round = none) (hn : 1 ≤ n) (Bm b : Nat) (es : Array MapEntry) (clock : Nat) (hkey : ∀ e ∈ es.toList, ∃ x, e.key = keyV x) (hold : ∀ x ∈ es.toList, x.born < clock) (hnd : (es.toList.map (·.born)).Nodup)
    (w : World) (hBm : Bm < w.heap.size) (hm : w.cell? ⟨Bm, 0, none⟩ = some (.map (some b))) (hb : w.heap[b]? = some (.map es clock)) :
    SeqGives F n Tryz.prog 151 #[.pointer (some ⟨Bm, 0, none⟩)] keyV (fun ss => (ss.map keyV).Perm (es.toList.map (·.key))) es.size w := fun l J W hW hJ hY h0 =>
  keysAsk_in F n hf hro hn l Bm b es clock hkey hold hnd J hY W hJ ((hW.cell (p := ⟨Bm, 0, none⟩) hBm).trans hm) ((hW.block b (Array.getElem?_eq_some_iff.1 hb).1).trans hb) h0
end TL

namespace TL
open Go Go.Proofs Go.RowKit Go.Maps Go.Sort Go.Shelf
def askC (x : Int × Int) : List Value := [.int .i64 x.1, .int .i64 x.2]
def ask_apAssign : Code := Code.region 2 #[{ dst := some 5, op := Op.alloc 79, type := 0, pos := "iter.go:51", after := #[], guard := none }, { dst := none, op := Op.store 79 (Operand.tmp 5) (Operand.tmp 7), type := 0, pos := "iter.go:51", after := #[{ on := 0, ground := Ground.data }, { on := 0, ground := Ground.phase }], guard := none }] false
def ask_apBody : Code := Code.block 1 (Code.region 3 #[{ dst := some 8, op := Op.load 74 (Operand.tmp 2), type := 74, pos := "iter.go:52", after := #[], guard := none }, { dst := some 9, op := Op.load 79 (Operand.tmp 5), type := 79, pos := "iter.go:52", after := #[], guard := none }, { dst := some 10, op := Op.buildSlice 74 1 #[(0, Operand.tmp 9)], type := 74, pos := "iter.go:52", after := #[{ on := 1, ground := Ground.data }], guard := none }, { dst := some 11, op := Op.call { callee := Callee.builtin Builtin.append, args := #[Operand.tmp 8, Operand.tmp 10], argTypes := #[74, 74] }, type := 74, pos := "iter.go:52", after := #[{ on := 0, ground := Ground.data }, { on := 2, ground := Ground.data }], guard := none }, { dst := none, op := Op.store 74 (Operand.tmp 2) (Operand.tmp 11), type := 0, pos := "iter.go:52", after := #[{ on := 3, ground := Ground.data }, { on := 3, ground := Ground.chain }, { on := 0, ground := Ground.phase }, { on := 1, ground := Ground.phase }, { on := 2, ground := Ground.phase }, { on := 3, ground := Ground.phase }], guard := none }] false)
/-- The loop's record: AppendSeq's temporaries as they stood at the entering: 's' boxed in block Bs; sv: the iterator's value. -/
def ask_apRec (fn : FuncId) (sv : Value) (Bs D : Nat) (st : LoopState) (pend : Option Code) : Loop :=
  { state := st, pending := pend, fn, tmps := #[.slice none 0 0, sv, .pointer (some ⟨Bs, 0, none⟩), undef, .slice none 0 0, undef, sv, undef, undef, undef, undef, undef, undef], params := #[7], assign := ask_apAssign, body := ask_apBody, defers := D }

/-- BETWEEN TWO ROUNDS: the box holds a slice that owns, in a block of the call's own, what has come so far; IT IS nil JUST AS LONG AS NOTHING HAS COME; nothing that lay before the call has turned. -/
structure ask_ApAt (w0 : World) (fn : FuncId) (sv : Value) (Bs l D : Nat) (ss : List (Int × Int)) (W : World) : Prop where
  box : ∃ v, W.heap[Bs]? = some (.cells #[v] 74 (0, 0)) ∧ W.ownsRow w0.heap.size 79 2 v ss.length (ss.flatMap askC) ∧ (v = .slice none 0 0 ↔ ss = [])
  L : W.heap[l]? = some (.loop (ask_apRec fn sv Bs D .ready none))
  K : W.heap[D]? = some (.deferred (some []))
  below : Below w0.heap.size w0 W

theorem ask_ap_abides (w0 : World) (fn : FuncId) (sv : Value) (Bs l D B : Nat) (hB : w0.heap.size ≤ B) : AbidesFrom B (ask_ApAt w0 fn sv Bs l D) := fun s W W' row h hg hrow => by
  have hrow' : ∀ r, row = some r → ∃ o : Obj, W.heap[r]? = some o ∧ o.isWalk = true := fun r e => (hrow r e).2
  obtain ⟨v, hv, hr, hn⟩ := h.box
  exact ⟨⟨v, (grownBy_keeps hg hrow' hv rfl).trans hv, ownsRow_abides_a hr hg hrow', hn⟩, (grownBy_keeps hg hrow' h.L rfl).trans h.L, (grownBy_keeps hg hrow' h.K rfl).trans h.K,
    h.below.grown hg h.below.size (fun k e => Nat.le_trans hB (hrow k e).1)⟩

theorem ask_info26 : (Tryz.prog.info? 79).map (fun i => (i.zero, i.size, i.bytes)) = some (some (.agg #[.int .i64 0, .int .i64 0]), 2, 16) := by kernel_rfl

set_option maxRecDepth 100000 in
set_option maxHeartbeats 2000000 in
theorem ask_apYield (F : Fence) (m : Nat) (w0 : World) (fn : FuncId) (hfn : F.fn fn) (sv : Value) (Bs l D : Nat) (hBl : Bs ≠ l) (hDl : D ≠ l) (hDB : D ≠ Bs) (h0B : w0.heap.size ≤ Bs) (h0l : w0.heap.size ≤ l)
    (N : Nat) (hN : N ≤ maxLen) (hNb : N * 16 ≤ 140737488355328) (ss : List (Int × Int)) (x : Int × Int) (W : World) (h : ask_ApAt w0 fn sv Bs l D ss W) (hlen : ss.length < N) :
    YieldAt F m Tryz.prog l #[keyV x] W fun e W' => e = .returned (.bool true) ∧ ask_ApAt w0 fn sv Bs l D (ss ++ [x]) W' ∧ KeepsWalks W W' := by
  obtain ⟨i0, hi, hz0, hz1, hz2⟩ := info_parts ask_info26
  obtain ⟨v, hv, hrow, _⟩ := h.box
  have hx : keyV x = .agg #[.int .i64 x.1, .int .i64 x.2] := rfl
  rw [hx]
  refine ⟨fn, #[.slice none 0 0, sv, .pointer (some ⟨Bs, 0, none⟩), undef, .slice none 0 0, undef, sv, .agg #[.int .i64 x.1, .int .i64 x.2], undef, undef, undef, undef, undef], ask_apAssign, ask_apBody, by simpa [ask_apRec] using run_yield (P := Tryz.prog) (args := #[.agg #[.int .i64 x.1, .int .i64 x.2]]) h.L rfl, roundIn_of_wpIn hfn ?_⟩
  have hl0 : l < W.heap.size := (Array.getElem?_eq_some_iff.1 h.L).1
  have hB0 : Bs < W.heap.size := (Array.getElem?_eq_some_iff.1 hv).1
  have hD0 : D < W.heap.size := (Array.getElem?_eq_some_iff.1 h.K).1
  obtain ⟨W1, hW1⟩ : ∃ W1, W.alloc (.cells #[.int .i64 x.1, .int .i64 x.2] 79) = W1 := ⟨_, rfl⟩
  have hs1 : W1.heap.size = W.heap.size + 1 := by rw [← hW1]; simp
  have hL1 : W1.heap[l]? = some (.loop (ask_apRec fn sv Bs D .ready none)) := by rw [← hW1]; exact (Below.heap_alloc _ _ l hl0).trans h.L
  have hv1 : W1.heap[Bs]? = some (.cells #[v] 74 (0, 0)) := by rw [← hW1]; exact (Below.heap_alloc _ _ Bs hB0).trans hv
  have hK1 : W1.heap[D]? = some (.deferred (some [])) := by rw [← hW1]; exact (Below.heap_alloc _ _ D hD0).trans h.K
  have hn1 : W1.heap[W.heap.size]? = some (.cells #[.int .i64 x.1, .int .i64 x.2] 79 (0, 0)) := by rw [← hW1]; exact World.alloc_heap_new W _
  have hrow1 : W1.ownsRow w0.heap.size 79 2 v ss.length (ss.flatMap askC) := by rw [← hW1]; exact hrow.alloc _
  have hb1 : Below w0.heap.size w0 W1 := by rw [← hW1]; exact h.below.alloc h.below.size _
  have hk1 : KeepsWalks W W1 := by rw [← hW1]; exact KeepsWalks.alloc _ _
  have hl : l < W1.heap.size := by omega
  have hbr := run_beginRound (P := Tryz.prog) hL1 rfl
  obtain ⟨W2, hW2⟩ : ∃ W2, W1.putObj l (.loop { ask_apRec fn sv Bs D .ready none with state := .busy }) = W2 := ⟨_, rfl⟩
  rw [hW2] at hbr
  have hg2 : W1.grownBy W2 (some l) := by rw [← hW2]; exact grownBy_putObj_a _ _ _
  have hk2 : KeepsWalks W W2 := hk1.trans (by rw [← hW2]; exact KeepsWalks.putObj _ hL1 rfl)
  have hs2 : W2.heap.size = W1.heap.size := by rw [← hW2]; simp [World.putObj]
  have hv2 : W2.heap[Bs]? = some (.cells #[v] 74 (0, 0)) := by rw [← hW2]; exact (World.putObj_heap_other hBl).trans hv1
  have hK2 : W2.heap[D]? = some (.deferred (some [])) := by rw [← hW2]; exact (World.putObj_heap_other hDl).trans hK1
  have hn2 : W2.heap[W.heap.size]? = some (.cells #[.int .i64 x.1, .int .i64 x.2] 79 (0, 0)) := by rw [← hW2]; exact (World.putObj_heap_other (by omega)).trans hn1
  have hL2 : W2.heap[l]? = some (.loop { ask_apRec fn sv Bs D .ready none with state := .busy }) := by rw [← hW2]; exact World.putObj_heap_same hl
  have hrow2 : W2.ownsRow w0.heap.size 79 2 v ss.length (ss.flatMap askC) := hrow1.kept hg2 (ownsRow_ne_a hrow1 hL1 (fun cur e => by cases e))
  have hb2 : Below w0.heap.size w0 W2 := hb1.grown hg2 hb1.size (fun k e => by cases e; exact h0l)
  obtain ⟨hc2, hf2⟩ := cell_of_box_a hv2
  have hp2 : W2.cell? ⟨W.heap.size, 0, none⟩ = some (.int .i64 x.1) := by simp [World.cell?, hn2]
  have hq2 : W2.cell? ⟨W.heap.size, 1, none⟩ = some (.int .i64 x.2) := by simp [World.cell?, hn2]
  have hBlt : Bs < W2.heap.size := (Array.getElem?_eq_some_iff.1 hv2).1
  have hl2 : l < W2.heap.size := (Array.getElem?_eq_some_iff.1 hL2).1
  have hDlt : D < W2.heap.size := (Array.getElem?_eq_some_iff.1 hK2).1
  have ne_of : ∀ {j : Nat} {o : Obj}, W2.heap[j]? = some o → (∀ cur, o ≠ .cells cur 79 (0, 0)) → some j ≠ v.ownBlock := fun hj hno => by
    rcases ownsRow_ne_a hrow2 hj hno with e | e
    · rw [e]; simp
    · exact fun e' => e e'.symm
  clear hW2
  unfold ask_apAssign
  gi_wp2_with gi_round_op_a
  clear hW1
  have hn3 : (W2.alloc (.cells #[.int .i64 x.1, .int .i64 x.2] 79)).heap[W.heap.size + 1]? = some (.cells #[.int .i64 x.1, .int .i64 x.2] 79 (0, 0)) := by
    rw [show W.heap.size + 1 = W2.heap.size by omega]; exact World.alloc_heap_new W2 _
  have hcell : ∀ (j : Nat) (u : Value), ([.int .i64 x.1, .int .i64 x.2] : List Value)[j]? = some u → (W2.alloc (.cells #[.int .i64 x.1, .int .i64 x.2] 79)).cell? ((⟨W.heap.size + 1, 0, none⟩ : Addr).add j) = some u := fun j u hu => by
    match j, hu with
    | 0, hu => simp at hu; subst hu; simp [Addr.add, World.cell?, hn3]
    | 1, hu => simp at hu; subst hu; simp [Addr.add, World.cell?, hn3]
    | j + 2, hu => simp at hu
  unfold ask_apBody
  gi_wp2_with (first
    | (gi_at_builtin; refine wpListIn_append_own _ rfl _ _ 74 rfl w0.heap.size 79 i0 (.agg #[.int .i64 0, .int .i64 0]) 2 16 Tryz.underlying74 hi hz0 hz1 hz2 rfl (by decide) _ _ _ rfl (hrow2.alloc _) ⟨W.heap.size + 1, 0, none⟩ 1 1 [.int .i64 x.1, .int .i64 x.2] rfl rfl hcell (by simp [Value.oneCell']) (by omega) (by omega) (by have := hb2.size; simp; omega) ?_; intro v' w3 hown' hg3 hnil3
       have hv3 : w3.heap[Bs]? = some (.cells #[v] 74 (0, 0)) := (hg3.block Bs (by simp; omega) (ne_of hv2 (fun cur e => by cases e))).trans ((Below.heap_alloc _ _ Bs hBlt).trans hv2)
       obtain ⟨hc3, hf3⟩ := cell_of_box_a hv3
       obtain ⟨g', cap', cur', rfl, hbase', hgb', hr1, hr2, hr3, hr4⟩ : ∃ g' cap' cur', v' = .slice (some ⟨g', 0, none⟩) (ss.length + 1) cap' ∧ w0.heap.size ≤ g' ∧ w3.heap[g']? = some (.cells cur' 79 (0, 0)) ∧ ss.length + 1 ≤ cap' ∧ cap' ≤ maxLen ∧ cur'.size = cap' * 2 ∧ cur'.toList.take ((ss.length + 1) * 2) = ss.flatMap askC ++ [.int .i64 x.1, .int .i64 x.2] := by
         rcases hown'.2 with ⟨_, h0⟩ | h'
         · exact absurd h0 (by omega)
         · exact h'
       go_frame)
    | gi_round_op_a)
  have hg3' : (W2.alloc (.cells #[.int .i64 x.1, .int .i64 x.2] 79)).grownBy w3 v.ownBlock := hg3
  have hL3 : w3.heap[l]? = some (.loop { ask_apRec fn sv Bs D .ready none with state := .busy }) := (hg3'.block l (by simp; omega) (ne_of hL2 (fun cur e => by cases e))).trans ((Below.heap_alloc _ _ l hl2).trans hL2)
  have hK3 : w3.heap[D]? = some (.deferred (some [])) := (hg3'.block D (by simp; omega) (ne_of hK2 (fun cur e => by cases e))).trans ((Below.heap_alloc _ _ D hDlt).trans hK2)
  obtain ⟨w4, hw4⟩ : ∃ w4, w3.setCell ⟨Bs, 0, none⟩ (.slice (some ⟨g', 0, none⟩) (ss.length + 1) cap') = w4 := ⟨_, rfl⟩
  rw [hw4]
  have hg4 : w3.grownBy w4 (some Bs) := by rw [← hw4]; exact grownBy_setCell0_a _ _ _
  have hv4 : w4.heap[Bs]? = some (.cells #[.slice (some ⟨g', 0, none⟩) (ss.length + 1) cap'] 74 (0, 0)) := by rw [← hw4]; exact heap_setCell_box_a _ hv3
  have hL4 : w4.heap[l]? = some (.loop { ask_apRec fn sv Bs D .ready none with state := .busy }) := (hg4.block l (Array.getElem?_eq_some_iff.1 hL3).1 (fun e => hBl (by cases e; rfl))).trans hL3
  have hK4 : w4.heap[D]? = some (.deferred (some [])) := (hg4.block D (Array.getElem?_eq_some_iff.1 hK3).1 (fun e => hDB (by cases e; rfl))).trans hK3
  have hrow4 := hown'.kept hg4 (ownsRow_ne_a hown' hv3 (fun cur e => by cases e))
  have hl4 : l < w4.heap.size := (Array.getElem?_eq_some_iff.1 hL4).1
  have hb3 : Below w0.heap.size w0 w3 := (hb2.alloc hb2.size _).grown hg3' (by have := hb2.size; simp; omega) (fun k e => (hrow2.lt k e).1)
  have hb4 : Below w0.heap.size w0 w4 := hb3.grown hg4 hb3.size (fun k e => by cases e; exact h0B)
  have hk4 : KeepsWalks W w4 := ((hk2.trans (KeepsWalks.alloc _ _)).trans (KeepsWalks.of_grownBy hg3' (ownsRow_not_walk_a (hrow2.alloc _)))).trans (by rw [← hw4]; exact KeepsWalks.setCell _ _ _)
  clear hw4
  refine ⟨_, _, run_endRound none hL4, rfl, ⟨⟨_, (World.putObj_heap_other hBl).trans hv4, ?_, by simp⟩, World.putObj_heap_same hl4, (World.putObj_heap_other hDl).trans hK4, hb4.grown (grownBy_putObj_a _ _ _) hb4.size (fun k e => by cases e; exact h0l)⟩, hk4.trans (KeepsWalks.putObj _ hL4 rfl)⟩
  have := hrow4.kept (grownBy_putObj_a w4 l (.loop { { ask_apRec fn sv Bs D .ready none with state := .busy } with state := if (none : Option Code).isNone then .ready else .done, pending := none })) (ownsRow_ne_a hrow4 hL4 (fun cur e => by cases e))
  simpa [askC, List.flatMap_append] using this

set_option maxRecDepth 100000 in
set_option maxHeartbeats 2000000 in
/-- **slices.AppendSeq(nil, seq), AGAINST WHATEVER ITERATOR VALUE THAT 'SeqGives'**: it hands back a slice that owns, in a block of the call's own, JUST WHAT THE ITERATOR GAVE, IN THAT ORDER; nil JUST WHERE IT GAVE NOTHING (as Go: 'slices.Collect' of nothing is nil); nothing that lay before the call has turned. -/
theorem ask_appendSeq_in (F : Fence) (n : Nat) (h11 : F.fn 174) (hro : F.round = none) (hn : 2 ≤ n) (g : Nat) (lb : Array Value) (hFg : F.fn g) (eg : ∀ args w, (callFunc g args).run Tryz.prog w = .ok (.enter g args) w)
    (S : List (Int × Int) → Prop) (N : Nat) (hN : N ≤ maxLen) (hNb : N * 16 ≤ 140737488355328) (w : World) (hseq : SeqGives F (n - 1) Tryz.prog g lb keyV S N w) :
    CallsIn F n Tryz.prog 174 #[.slice none 0 0, .func (.func g) #[] lb] w fun e w' => ∃ (v : Value) (ss : List (Int × Int)), e = .returned v ∧ S ss ∧ w'.ownsRow w.heap.size 79 2 v ss.length (ss.flatMap askC) ∧ (v = .slice none 0 0 ↔ ss = []) ∧ Below w.heap.size w w' := by
  have h1 : 1 ≤ n := by omega
  refine callsIn_of_wp_marks Tryz.func174 rfl h11 ?_ hro
  simp only [Tryz.ntmps174, List.size_toArray, List.length_cons, List.length_nil, Nat.reduceAdd, Nat.reduceSub, Array.replicate_succ, Array.replicate_zero, List.push_toArray, List.append_toArray, List.nil_append, List.cons_append]
  gi_wp2
  refine wpIn_rangeFunc ?_
  intro fn hfn
  rw [hro]
  obtain ⟨W0, hW0⟩ : ∃ W0, w.alloc (.cells #[.slice none 0 0] 74) = W0 := ⟨_, rfl⟩
  have hs0 : W0.heap.size = w.heap.size + 1 := by rw [← hW0]; simp
  have hv0 : W0.heap[w.heap.size]? = some (.cells #[.slice none 0 0] 74 (0, 0)) := by rw [← hW0]; exact World.alloc_heap_new w _
  have hb0 : Below w.heap.size w W0 := by rw [← hW0]; exact (Below.refl _ w).alloc (Nat.le_refl _) _
  rw [hW0]
  obtain ⟨W1, hW1⟩ : ∃ W1, (W0.alloc (.deferred (some []))).alloc (.loop (ask_apRec fn (.func (.func g) #[] lb) w.heap.size W0.heap.size .ready none)) = W1 := ⟨_, rfl⟩
  have hold : ∀ k, k < W0.heap.size → W1.heap[k]? = W0.heap[k]? := fun k hk => by
    rw [← hW1]; exact (Below.heap_alloc _ _ k (by simp; omega)).trans (Below.heap_alloc _ _ k hk)
  have hb1 : Below w.heap.size w W1 := by rw [← hW1]; exact (hb0.alloc hb0.size _).alloc (by have := hb0.size; simp; omega) _
  have hs1 : W1.heap.size = W0.heap.size + 2 := by rw [← hW1]; simp
  have hM : ask_ApAt w fn (.func (.func g) #[] lb) w.heap.size (W0.heap.size + 1) W0.heap.size [] W1 :=
    ⟨⟨_, (hold w.heap.size (by omega)).trans hv0, ⟨rfl, .inl ⟨rfl, rfl⟩⟩, by simp⟩,
     by rw [← hW1]; have := World.alloc_heap_new (W0.alloc (.deferred (some []))) (.loop (ask_apRec fn (.func (.func g) #[] lb) w.heap.size W0.heap.size .ready none)); rwa [World.size_alloc] at this,
     by rw [← hW1]; exact (Below.heap_alloc _ _ _ (by simp)).trans (World.alloc_heap_new W0 _), hb1⟩
  refine ⟨W0.heap.size + 1, [{ target := .collected W0.heap.size, args := #[] }], W1, { target := .fn (.func g) lb, args := #[.func (.yield (W0.heap.size + 1)) #[] #[]] }, W1, g,
    #[.func (.yield (W0.heap.size + 1)) #[] #[]] ++ lb, W1, ?_, ?_, ?_, ?_, fun _ => h1, ?_⟩
  · rw [← hW1]; exact run_enterLoop_outer _ _ _ _ _
  · simp [resolve, go_sem]
  · intro f' hf'; simp [Target.leads] at hf'; subst hf'; exact hFg
  · simp [invoke, go_sem, eg]
  · refine (hseq (W0.heap.size + 1) (ask_ApAt w fn (.func (.func g) #[] lb) w.heap.size (W0.heap.size + 1) W0.heap.size) W1 hb1 (ask_ap_abides _ _ _ _ _ _ _ hb1.size)
      (fun pre x W hJ hl => ask_apYield F (n - 1 - 1) w fn hfn _ w.heap.size (W0.heap.size + 1) W0.heap.size (by omega) (by omega) (by omega) (Nat.le_refl _) (by omega) N hN hNb pre x W hJ hl) hM).mono ?_
    rintro e W2 ⟨⟨v0, rfl⟩, ss, hS, h2⟩
    obtain ⟨v, hv, hrow, hnil⟩ := h2.box
    have hend := run_endLoop (P := Tryz.prog) h2.L (by simp [ask_apRec])
    obtain ⟨W3, hW3⟩ : ∃ W3, W2.putObj (W0.heap.size + 1) (.loop { ask_apRec fn (.func (.func g) #[] lb) w.heap.size W0.heap.size .ready none with state := .exhausted }) = W3 := ⟨_, rfl⟩
    rw [hW3] at hend
    have hg3 : W2.grownBy W3 (some (W0.heap.size + 1)) := by rw [← hW3]; exact grownBy_putObj_a _ _ _
    have hv3 : W3.heap[w.heap.size]? = some (.cells #[v] 74 (0, 0)) := by rw [← hW3]; exact (World.putObj_heap_other (by omega)).trans hv
    have hK3 : W3.heap[W0.heap.size]? = some (.deferred (some [])) := by rw [← hW3]; exact (World.putObj_heap_other (by omega)).trans h2.K
    have hrow3 := hrow.kept hg3 (ownsRow_ne_a hrow h2.L (fun cur e => by cases e))
    have hb3 : Below w.heap.size w W3 := h2.below.grown hg3 h2.below.size (fun k e => by cases e; omega)
    obtain ⟨hc3, hf3⟩ := cell_of_box_a hv3
    clear hW3
    refine ⟨none, W3, hend, ?_⟩
    gi_wp2
    rw [← hs0]
    refine ⟨by simp, .inl ⟨_, _, rfl, run_takeDeferred hK3, ?_⟩⟩
    exact ⟨_, results_tmp rfl _ _ _, v, ss, rfl, hS, hrow3.kept (grownBy_putObj_a _ _ _) (ownsRow_ne_a hrow3 hK3 (fun cur e => by cases e)), hnil, hb3.grown (grownBy_putObj_a _ _ _) hb3.size (fun k e => by cases e; omega)⟩

set_option maxHeartbeats 1000000 in
/-- **slices.Collect(seq), AGAINST WHATEVER ITERATOR VALUE.** -/
theorem ask_collect_in (F : Fence) (n : Nat) (h8 : F.fn 149) (h11 : F.fn 174) (hro : F.round = none) (hn : 3 ≤ n) (g : Nat) (lb : Array Value) (hFg : F.fn g) (eg : ∀ args w, (callFunc g args).run Tryz.prog w = .ok (.enter g args) w)
    (S : List (Int × Int) → Prop) (N : Nat) (hN : N ≤ maxLen) (hNb : N * 16 ≤ 140737488355328) (w : World) (hseq : SeqGives F (n - 1 - 1) Tryz.prog g lb keyV S N w) :
    CallsIn F n Tryz.prog 149 #[.func (.func g) #[] lb] w fun e w' => ∃ (v : Value) (ss : List (Int × Int)), e = .returned v ∧ S ss ∧ w'.ownsRow w.heap.size 79 2 v ss.length (ss.flatMap askC) ∧ (v = .slice none 0 0 ↔ ss = []) ∧ Below w.heap.size w w' := by
  have h1 : 1 ≤ n := by omega
  refine callsIn_of_wp Tryz.func149 rfl h8 ?_ hro
  simp only [Tryz.ntmps149, List.size_toArray, List.length_cons, List.length_nil, Nat.reduceAdd, Nat.reduceSub, Array.replicate_succ, Array.replicate_zero, List.push_toArray, List.append_toArray, List.nil_append, List.cons_append]
  gi_wp2_with (gi_at_call 174; refine (ask_appendSeq_in F (n - 1) h11 hro (by omega) g lb hFg eg S N hN hNb _ hseq).mono ?_; rintro e w' ⟨v, ss, rfl, hS, hrow, hnil, hb⟩)
  go_ret
  exact ⟨v, ss, rfl, hS, hrow, hnil, hb⟩

end TL

namespace Go.Proofs
open Go.Shelf
def Tryz.srtB_ren : Go.Shelf.Ren := ⟨fun | 6 => 150 | 15 => 159 | 14 => 175 | 28 => 186 | 29 => 187 | 20 => 202 | 21 => 203 | 22 => 204 | 23 => 205 | 24 => 206 | 25 => 207 | 26 => 208 | 27 => 209 | 46 => 222 | 47 => 211 | 48 => 212 | 49 => 223 | 50 => 224 | 57 => 227 | n => n, fun | 22 => 74 | 24 => 79 | 25 => 194 | 3 => 3 | 39 => 49 | 0 => 0 | 53 => 239 | 55 => 232 | 4 => 4 | 46 => 257 | 45 => 256 | 50 => 157 | 5 => 5 | 9 => 9 | 66 => 280 | 70 => 284 | 76 => 293 | 77 => 294 | n => n, fun | n => n⟩
theorem Tryz.srtB : Go.Proofs.SlLaysF0.n6 Tryz.prog Tryz.srtB_ren := {
  mixed := by kernel_rfl
  f6 := ⟨Tryz.f150.name, by decide, Tryz.func150.trans (congrArg some (by kernel_rfl))⟩
  f14 := ⟨Tryz.f175.name, by decide, Tryz.func175.trans (congrArg some (by kernel_rfl))⟩
  f15 := Tryz.func159.trans (congrArg some (by kernel_rfl))
  f20 := ⟨Tryz.f202.name, by decide, Tryz.func202.trans (congrArg some (by kernel_rfl))⟩
  f21 := ⟨Tryz.f203.name, by decide, Tryz.func203.trans (congrArg some (by kernel_rfl))⟩
  f22 := ⟨Tryz.f204.name, by decide, Tryz.func204.trans (congrArg some (by kernel_rfl))⟩
  f23 := ⟨Tryz.f205.name, by decide, Tryz.func205.trans (congrArg some (by kernel_rfl))⟩
  f24 := ⟨Tryz.f206.name, by decide, Tryz.func206.trans (congrArg some (by kernel_rfl))⟩
  f25 := ⟨Tryz.f207.name, by decide, Tryz.func207.trans (congrArg some (by kernel_rfl))⟩
  f26 := ⟨Tryz.f208.name, by decide, Tryz.func208.trans (congrArg some (by kernel_rfl))⟩
  f27 := ⟨Tryz.f209.name, by decide, Tryz.func209.trans (congrArg some (by kernel_rfl))⟩
  f28 := Tryz.func186.trans (congrArg some (by kernel_rfl))
  f29 := Tryz.func187.trans (congrArg some (by kernel_rfl))
  f46 := ⟨Tryz.f222.name, by decide, Tryz.func222.trans (congrArg some (by kernel_rfl))⟩
  f47 := Tryz.func211.trans (congrArg some (by kernel_rfl))
  f48 := Tryz.func212.trans (congrArg some (by kernel_rfl))
  f49 := ⟨Tryz.f223.name, by decide, Tryz.func223.trans (congrArg some (by kernel_rfl))⟩
  f50 := ⟨Tryz.f224.name, by decide, Tryz.func224.trans (congrArg some (by kernel_rfl))⟩
  f57 := ⟨Tryz.f227.name, by decide, Tryz.func227.trans (congrArg some (by kernel_rfl))⟩
  t0 := Tryz.underlying0
  a0 := Tryz.isAgg0
  z0 := Tryz.sizeOf0
  v0 := Tryz.zeroValue0
  t3 := Tryz.underlying3
  a3 := Tryz.isAgg3
  z3 := Tryz.sizeOf3
  v3 := Tryz.zeroValue3
  t4 := Tryz.underlying4
  a4 := Tryz.isAgg4
  z4 := Tryz.sizeOf4
  v4 := Tryz.zeroValue4
  t5 := Tryz.underlying5
  a5 := Tryz.isAgg5
  z5 := Tryz.sizeOf5
  v5 := Tryz.zeroValue5
  t9 := Tryz.underlying9
  a9 := Tryz.isAgg9
  z9 := Tryz.sizeOf9
  v9 := Tryz.zeroValue9
  t22 := Tryz.underlying74
  a22 := Tryz.isAgg74
  z22 := Tryz.sizeOf74
  v22 := Tryz.zeroValue74
  t25 := Tryz.underlying194
  a25 := Tryz.isAgg194
  z25 := Tryz.sizeOf194
  v25 := Tryz.zeroValue194
  t39 := Tryz.underlying49
  a39 := Tryz.isAgg49
  z39 := Tryz.sizeOf49
  v39 := Tryz.zeroValue49
  t45 := Tryz.underlying256
  a45 := Tryz.isAgg256
  z45 := Tryz.sizeOf256
  v45 := Tryz.zeroValue256
  t46 := Tryz.underlying257
  a46 := Tryz.isAgg257
  z46 := Tryz.sizeOf257
  v46 := Tryz.zeroValue257
  t50 := Tryz.underlying157
  a50 := Tryz.isAgg157
  z50 := Tryz.sizeOf157
  v50 := Tryz.zeroValue157
  t53 := Tryz.underlying239
  a53 := Tryz.isAgg239
  z53 := Tryz.sizeOf239
  v53 := Tryz.zeroValue239
  t55 := Tryz.underlying232
  a55 := Tryz.isAgg232
  z55 := Tryz.sizeOf232
  v55 := Tryz.zeroValue232
  t66 := Tryz.underlying280
  a66 := Tryz.isAgg280
  z66 := Tryz.sizeOf280
  v66 := Tryz.zeroValue280
  t70 := Tryz.underlying284
  a70 := Tryz.isAgg284
  z70 := Tryz.sizeOf284
  v70 := Tryz.zeroValue284
  t76 := Tryz.underlying293
  a76 := Tryz.isAgg293
  z76 := Tryz.sizeOf293
  v76 := Tryz.zeroValue293
  t77 := Tryz.underlying294
  a77 := Tryz.isAgg294
  z77 := Tryz.sizeOf294
  v77 := Tryz.zeroValue294}
end Go.Proofs

namespace TL
open Go Go.Proofs Go.Shelf Go.RowKit Go.Lib Go.Sort

def cmpI (a b : Int) : Int := if a < b then -1 else if a = b then 0 else 1
def orI (a b : Int) : Int := if a = 0 then b else a
def cmpA (x y : Int × Int) : Int := orI (cmpI x.1 y.1) (cmpI x.2 y.2)
set_option maxHeartbeats 1000000 in
set_option maxRecDepth 100000 in
theorem walkCmp (a b : Int) (w : World) : Calls Tryz.prog 118 #[.int .i64 a, .int .i64 b] w fun e w' => e = .returned (.int .i64 (cmpI a b)) ∧ w' = w := by
  unfold cmpI
  go_enter Tryz.func118, Tryz.ntmps118
  go_wp2
  all_goals (go_ret; exact ⟨rfl, rfl⟩)
set_option maxHeartbeats 1000000 in
set_option maxRecDepth 100000 in
theorem walkOr (F : Fence) (n : Nat) (hf : F.fn 117) (hro : F.round = none) (a b : Int) (w : World) (bb : Nat) (h0 : w.cell? ⟨bb, 0, none⟩ = some (.int .i64 a)) (h1 : w.cell? ⟨bb, 1, none⟩ = some (.int .i64 b)) :
    CallsIn F n Tryz.prog 117 #[.slice (some ⟨bb, 0, none⟩) 2 2] w fun e w' => e = .returned (.int .i64 (if a = 0 then b else a)) ∧ w' = w := by
  refine callsIn_of_wp Tryz.func117 rfl hf ?_ hro
  simp only [Tryz.ntmps117, List.size_toArray, List.length_cons, List.length_nil, Nat.reduceAdd, Nat.reduceSub, Array.replicate_succ, Array.replicate_zero, List.push_toArray, List.append_toArray, List.nil_append, List.cons_append]
  gi_wp2
  gi_loopw [8] (fun v wr => wr = w ∧ (v = .int .i64 0 ∨ (v = .int .i64 1 ∧ a = 0) ∨ (v = .int .i64 2 ∧ a = 0 ∧ b = 0))) (fun v _ => match v with
    | .int _ k => (2 - k).toNat
    | _ => 0)
  case atStart => exact ⟨rfl, .inl rfl⟩
  case round =>
    obtain ⟨rfl, rfl | ⟨rfl, rfl⟩ | ⟨rfl, rfl, rfl⟩⟩ := hrel
    · gi_wp2
      · simp_all
      · go_ret
        exact ⟨rfl, rfl⟩
      · rename_i hq
        exact ⟨⟨trivial, .inr (.inl ⟨rfl, by simpa using hq⟩)⟩, by decide⟩
    · gi_wp2
      · go_ret
        exact ⟨rfl, rfl⟩
      · rename_i hq
        exact ⟨⟨trivial, .inr (.inr ⟨rfl, trivial, by simpa using hq⟩)⟩, by decide⟩
    · gi_wp2
      go_ret
      exact ⟨rfl, rfl⟩
theorem walkOrC (a b : Int) (w : World) (bb : Nat) (h0 : w.cell? ⟨bb, 0, none⟩ = some (.int .i64 a)) (h1 : w.cell? ⟨bb, 1, none⟩ = some (.int .i64 b)) :
    Calls Tryz.prog 117 #[.slice (some ⟨bb, 0, none⟩) 2 2] w fun e w' => e = .returned (.int .i64 (if a = 0 then b else a)) ∧ w' = w :=
  callsIn_wide.1 (walkOr Fence.wide 3 trivial rfl a b w bb h0 h1)
theorem walkOrN (a b : Int) (W : World) : Calls Tryz.prog 117 #[.slice (some ⟨W.heap.size, 0, none⟩) 2 2] (W.alloc (.cells #[.int .i64 a, .int .i64 b] 3)).drew fun e w' => e = .returned (.int .i64 (orI a b)) ∧ w' = (W.alloc (.cells #[.int .i64 a, .int .i64 b] 3)).drew := by
  have hn : (W.alloc (.cells #[.int .i64 a, .int .i64 b] 3)).drew.heap[W.heap.size]? = some (.cells #[.int .i64 a, .int .i64 b] 3 (0, 0)) := World.alloc_heap_new W _
  generalize (W.alloc (.cells #[.int .i64 a, .int .i64 b] 3)).drew = X at hn ⊢
  exact walkOrC a b _ _ (by simp [World.cell?, hn]) (by simp [World.cell?, hn])
set_option maxHeartbeats 400000 in
set_option maxRecDepth 100000 in
theorem walkAsk (a0 a1 b0 b1 : Int) (w : World) :
    Calls Tryz.prog 116 #[.agg #[.int .i64 a0, .int .i64 a1], .agg #[.int .i64 b0, .int .i64 b1]] w fun e w' => e = .returned (.int .i64 (cmpA (a0, a1) (b0, b1))) ∧ ∃ q os', w' = grow (w.drewN q) os' := by
  unfold cmpA
  dsimp only
  have hc := walkCmp
  generalize cmpI = f at hc ⊢
  have ho := walkOrN
  generalize orI = g at ho ⊢
  go_enter Tryz.func116, Tryz.ntmps116
  go_wp2
  obtain ⟨W0, hW0⟩ : ∃ W0, (w.alloc (.cells #[.int .i64 a0, .int .i64 a1] 79)).alloc (.cells #[.int .i64 b0, .int .i64 b1] 79) = W0 := ⟨_, rfl⟩
  have n1 : W0.heap[w.heap.size]? = some (.cells #[.int .i64 a0, .int .i64 a1] 79 (0, 0)) := by rw [← hW0]; exact (Below.heap_alloc _ _ _ (by simp)).trans (World.alloc_heap_new w _)
  have n2 : W0.heap[w.heap.size + 1]? = some (.cells #[.int .i64 b0, .int .i64 b1] 79 (0, 0)) := by
    rw [← hW0]
    have := World.alloc_heap_new (w.alloc (.cells #[.int .i64 a0, .int .i64 a1] 79)) (.cells #[.int .i64 b0, .int .i64 b1] 79)
    rwa [World.size_alloc] at this
  have q1 : W0.cell? ⟨w.heap.size, 0, none⟩ = some (.int .i64 a0) := by simp [World.cell?, n1]
  have q2 : W0.cell? ⟨w.heap.size, 1, none⟩ = some (.int .i64 a1) := by simp [World.cell?, n1]
  have q3 : W0.cell? ⟨w.heap.size + 1, 0, none⟩ = some (.int .i64 b0) := by simp [World.cell?, n2]
  have q4 : W0.cell? ⟨w.heap.size + 1, 1, none⟩ = some (.int .i64 b1) := by simp [World.cell?, n2]
  rw [hW0]
  have hgr : ∃ os0, W0 = grow w os0 := ⟨_, by rw [← hW0, alloc_eq_grow, alloc_eq_grow, grow_grow]⟩
  clear hW0 n1 n2
  generalize w.heap.size = B at q1 q2 q3 q4
  go_region_held3 (fun w' => w'.cell? ⟨B, 0, none⟩ = some (.int .i64 a0) ∧ w'.cell? ⟨B, 1, none⟩ = some (.int .i64 a1) ∧ w'.cell? ⟨B + 1, 0, none⟩ = some (.int .i64 b0) ∧ w'.cell? ⟨B + 1, 1, none⟩ = some (.int .i64 b1)) (go_keep)
    (first | (go_at_call 118; refine (hc _ _ _).mono ?_; rintro e w' ⟨rfl, rfl⟩) | (go_at_call 117; refine (ho _ _ _).mono ?_; rintro e w' ⟨rfl, rfl⟩))
  go_wp2
  go_ret
  obtain ⟨os0, hgr⟩ := hgr
  refine ⟨rfl, 1, os0 ++ #[.cells #[.int .i64 (f a0 b0), .int .i64 (f a1 b1)] 3], ?_⟩
  rw [hgr, alloc_eq_grow, grow_grow]
  rfl
def EncAsk : Enc (Int × Int) where
  enc := askC
  k := 2
  len _ := rfl
  one o v hv := by
    simp only [askC, List.mem_cons, List.not_mem_nil, or_false] at hv
    rcases hv with rfl | rfl <;> rfl
  pos := by decide
def ltA (x y : Int × Int) : Prop := x.1 < y.1 ∨ (x.1 = y.1 ∧ x.2 < y.2)
instance (x y : Int × Int) : Decidable (ltA x y) := inferInstanceAs (Decidable (_ ∨ _))
theorem cmpI_lt (a b : Int) : cmpI a b < 0 ↔ a < b := by
  unfold cmpI
  split
  · simp_all
  · split <;> simp_all
theorem cmpI_eq (a b : Int) : cmpI a b = 0 ↔ a = b := by
  unfold cmpI
  split
  · simp; omega
  · split <;> simp_all
theorem cmpA_lt (x y : Int × Int) : ltOf cmpA x y = decide (ltA x y) := by
  unfold ltOf cmpA orI
  rw [decide_eq_decide]
  unfold ltA
  split
  · rename_i h
    rw [cmpI_eq] at h
    rw [cmpI_lt]; omega
  · rename_i h
    rw [cmpI_eq] at h
    rw [cmpI_lt]; omega
theorem swoA : SWO (ltOf cmpA) where
  irrefl x := by rw [cmpA_lt]; exact decide_eq_false (by unfold ltA; omega)
  trans x y z h1 h2 := by
    rw [cmpA_lt] at *
    simp only [decide_eq_true_eq] at *
    unfold ltA at *; omega
  ntrans x y z h1 h2 := by
    rw [cmpA_lt] at *
    simp only [decide_eq_false_iff_not] at *
    unfold ltA at *; omega
section
variable {P : Program} {ρ : Ren}
theorem flatA_row (l : List (Int × Int)) : flatK EncAsk.enc 2 l.toArray = (EncAsk.row l).toArray := by
  apply Array.ext
  · rw [size_flatK]; simp [EncAsk.row_len]; rfl
  · intro t h1 h2
    have h1' : t < l.length * 2 := by rw [size_flatK] at h1; simpa using h1
    have hg := get_flatK EncAsk.enc 2 l.toArray t (by simpa using h1')
    rw [getElem!_pos _ t h1] at hg
    rw [hg]
    have hi : t / 2 < l.length := by omega
    have hf := EncAsk.row_field (i := t / 2) (f := t % 2) (m := 1) [] hi (by show t % 2 + 1 ≤ 2; omega)
    have ht : t / 2 * EncAsk.k + t % 2 = t := by show t / 2 * 2 + t % 2 = t; omega
    rw [ht, List.append_nil] at hf
    have hl : t < (EncAsk.row l).length := by rw [EncAsk.row_len]; exact h1'
    have hl2 : t % 2 < (EncAsk.enc l[t / 2]).length := by rw [EncAsk.len]; show t % 2 < 2; omega
    rw [take1 hl, take1 hl2] at hf
    have hf : (EncAsk.row l)[t] = (EncAsk.enc l[t / 2])[t % 2] := by simpa using hf
    simp only [List.getElem_toArray]
    rw [hf]
    have e1 : l.toArray[t / 2]! = l[t / 2] := by rw [getElem!_pos _ _ (by simpa using hi)]; simp
    rw [e1]; exact getElem!_pos (EncAsk.enc l[t / 2]) (t % 2) hl2
theorem sortA_frm {h : PH} {w : World} (hi : h.In w) {b : Nat} {l l' : List (Int × Int)} {tail : List Value} {T : TypeId} (hb : h b = some (.cells (EncAsk.row l ++ tail).toArray T (0, 0))) (hl : l'.length = l.length) (m : Nat) (os : Array Obj) :
    Frm h w (h.upd b (.cells (EncAsk.row l' ++ tail).toArray T (0, 0))) (sortWorldK EncAsk.enc 2 w b 0 m l'.toArray os) := by
  have hw := hi _ _ hb
  have hheap : (sortWorldK EncAsk.enc 2 w b 0 m l'.toArray os).heap = w.heap.modify b (onCells (putCells id 0 (flatK EncAsk.enc 2 l'.toArray))) ++ os := rfl
  have hlt := hi.lt hb
  have hcell : (w.heap.modify b (onCells (putCells id 0 (flatK EncAsk.enc 2 l'.toArray))))[b]? = some (.cells (EncAsk.row l' ++ tail).toArray T (0, 0)) := by
    rw [Array.getElem?_modify, if_pos rfl, hw, Option.map_some]
    show some (Obj.cells (putCells id 0 (flatK EncAsk.enc 2 l'.toArray) (EncAsk.row l ++ tail).toArray) T (0, 0)) = _
    rw [flatA_row, putCells_row (by rw [EncAsk.row_len, EncAsk.row_len, hl])]
  have hold : ∀ x, x ≠ b → (w.heap.modify b (onCells (putCells id 0 (flatK EncAsk.enc 2 l'.toArray))))[x]? = w.heap[x]? := fun x hx => by
    rw [Array.getElem?_modify, if_neg (fun e => hx e.symm)]
  have happ : ∀ x, x < w.heap.size → (sortWorldK EncAsk.enc 2 w b 0 m l'.toArray os).heap[x]? = (w.heap.modify b (onCells (putCells id 0 (flatK EncAsk.enc 2 l'.toArray))))[x]? := fun x hx => by
    rw [hheap, Array.getElem?_append_left (by rw [Array.size_modify]; exact hx)]
  refine ⟨fun x o e => ?_, ?_, fun x hx e => ⟨?_, ?_⟩, rfl, rfl⟩
  · by_cases hxb : x = b
    · subst hxb
      rw [PH.upd_same] at e; cases e
      rw [happ _ hlt, hcell]
    · rw [PH.upd_ne _ _ hxb] at e
      rw [happ _ (hi.lt e), hold x hxb, hi _ _ e]
  · rw [hheap, Array.size_append, Array.size_modify]; omega
  · rw [PH.upd_ne _ _ (fun hxb => by subst hxb; rw [hb] at e; cases e)]; exact e
  · rw [happ _ hx, hold x (fun hxb => by subst hxb; rw [hb] at e; cases e)]
theorem holdsA_row {h : PH} {w : World} (hi : h.In w) {b : Nat} {l : List (Int × Int)} {tail : List Value} {T : TypeId} (hb : h b = some (.cells (EncAsk.row l ++ tail).toArray T (0, 0))) : HoldsK EncAsk.enc 2 w b 0 l.toArray := by
  intro j hj
  rw [size_flatK] at hj
  have hw := hi _ _ hb
  have hlen : (EncAsk.row l).length = l.length * 2 := EncAsk.row_len l
  have hj2 : j < (EncAsk.row l).length := by rw [hlen]; simpa using hj
  refine ⟨?_, ?_⟩
  · rw [flatA_row, getElem!_pos _ j (by simpa using hj2)]
    simp only [World.cell?, hw, Nat.zero_add, id, List.getElem_toArray]
    rw [List.getElem?_toArray, List.getElem?_append_left hj2, List.getElem?_eq_getElem hj2]
    rfl
  · simp [World.frozen?, hw]
theorem ext_allA {d d' : Array (Int × Int)} (h : PermIn 0 d.size d d') : d'.toList.Perm d.toList ∧ d'.size = d.size := by
  obtain ⟨h1, _, h2⟩ := h
  have e1 : d.extract 0 d.size = d := by simp
  have e2 : d'.extract 0 d.size = d' := by rw [← h1]; simp
  rw [e1, e2] at h2
  exact ⟨h2, h1⟩
theorem cSortA0 (L : SlLaysF0.n6 P ρ) (aE : ∀ w, (isAgg (ρ.t 24)).run P w = .ok true w) (zE : ∀ w, (Go.sizeOf (ρ.t 24)).run P w = .ok 2 w) (g : Nat) (eg : ∀ args w, (callFunc g args).run P w = .ok (.enter g args) w)
    (hless : ∀ (a0 a1 b0 b1 : Int) (w : World), Calls P g #[.agg #[.int .i64 a0, .int .i64 a1], .agg #[.int .i64 b0, .int .i64 b1]] w fun e w' => e = .returned (.int .i64 (cmpA (a0, a1) (b0, b1))) ∧ ∃ q os', w' = grow (w.drewN q) os')
    {B : List Nat} {h : PH} {K : Value → PH → Prop} {a : Option Addr} {n c : Nat} {l : List (Int × Int)} {T : TypeId} (x : Buf EncAsk T B h a n c l) (hn : l.length ≤ 1000000)
    (hk : ∀ l' h', l'.Perm l → (l'.Pairwise fun a b => ¬ ltA b a) → Buf EncAsk T B h' a n c l' → Chg B B h h' → K (.tuple #[]) h') : CallH P (ρ.f 6) [.slice a n c, .func (.func g) #[] #[]] K h := by
  intro w hi
  have hnl := x.1
  by_cases h0 : l = []
  · subst h0
    have hn0 : n = 0 := hnl
    subst hn0
    refine Calls.mono (AnyF.slices_SortFunc_none L a c (.func (.func g) #[] #[]) w) ?_
    rintro e w' ⟨rfl, rfl⟩
    exact ⟨_, h, rfl, hk [] h (List.Perm.refl _) List.Pairwise.nil x (Chg.refl _ _), Frm.refl hi⟩
  · have hx := x
    obtain ⟨_, ⟨_, _, e⟩ | ⟨b, tail, rfl, rfl, hb, ht, hle⟩⟩ := x
    · exact absurd e h0
    have hc : CmpLays P g #[] EncAsk.enc 2 cmpA b 0 l.toArray.size w := fun m os dk _ x y => hless _ _ _ _ _
    have hS := AnyQ.slices_SortFunc L 2 aE zE EncAsk.enc (fun _ => rfl) (fun x v hv => by
      simp only [EncAsk, askC, List.mem_cons, List.not_mem_nil, or_false] at hv
      rcases hv with rfl | rfl <;> rfl) cmpA swoA g #[] b 0 c l.toArray w eg hc (holdsA_row hi hb) (hi.lt hb) (by simp; omega)
    have hsz : l.toArray.size = n := by simp [hnl]
    rw [hsz] at hS
    refine Calls.mono hS ?_
    rintro e w' ⟨rfl, d', m, os, hp, hs, rfl⟩
    rw [← hsz] at hp hs
    obtain ⟨hp1, hp2⟩ := ext_allA hp
    have hl' : d'.toList.length = l.length := by rw [Array.length_toList, hp2]; simp
    have hfrm := sortA_frm hi hb hl' m os
    rw [Array.toArray_toList] at hfrm
    refine ⟨_, _, rfl, hk d'.toList _ (by simpa using hp1) ?_ ⟨by rw [hl']; exact hnl, .inr ⟨b, tail, rfl, rfl, PH.upd_same _ _ _, ht, hle⟩⟩ (Chg.upd _), hfrm⟩
    rw [List.pairwise_iff_getElem]
    intro i j hi' hj' hij
    have := hs i j (Nat.zero_le _) hij (by rw [← hp2]; simpa using hj')
    rw [cmpA_lt, getElem!_pos d' j (by simpa using hj'), getElem!_pos d' i (by simpa using hi')] at this
    simpa using this
end
end TL

namespace TL
open Go Go.Proofs Go.Shelf Go.RowKit Go.Lib Go.Sort Go.Maps
theorem cSortA {B : List Nat} {h : PH} {K : Value → PH → Prop} {a : Option Addr} {n c : Nat} {l : List (Int × Int)} {T : TypeId} (x : Buf EncAsk T B h a n c l) (hn : l.length ≤ 1000000)
    (hk : ∀ l' h', l'.Perm l → (l'.Pairwise fun a b => ¬ ltA b a) → Buf EncAsk T B h' a n c l' → Chg B B h h' → K (.tuple #[]) h') : CallH Tryz.prog 150 [.slice a n c, .func (.func 116) #[] #[]] K h :=
  cSortA0 Tryz.srtB Tryz.isAgg79 Tryz.sizeOf79 116 (enters_of Tryz.func116 (by kernel_rfl) rfl) walkAsk x hn hk
theorem frm_below {h : PH} {w w' : World} (hi : h.In w) (hb : Below w.heap.size w w') : Frm h w h w' :=
  ⟨fun b _ e => (hb.block b (hi.lt e)).trans (hi _ _ e), hb.size, fun b hlt e => ⟨e, hb.block b hlt⟩, hb.os, hb.output⟩
theorem frm_new {h : PH} {w w' : World} (hi : h.In w) (hb : Below w.heap.size w w') {g : Nat} (hg : w.heap.size ≤ g) {o : Obj} (ho : w'.heap[g]? = some o) : Frm h w (h.upd g o) w' ∧ h g = none := by
  have hn : h g = none := by
    cases e : h g with
    | none => rfl
    | some o => have := hi.lt e; omega
  refine ⟨⟨fun b o' e => ?_, hb.size, fun b hlt e => ⟨?_, hb.block b hlt⟩, hb.os, hb.output⟩, hn⟩
  · by_cases hbg : b = g
    · subst hbg; rw [PH.upd_same] at e; cases e; exact ho
    · rw [PH.upd_ne _ _ hbg] at e; exact (hb.block b (hi.lt e)).trans (hi _ _ e)
  · rw [PH.upd_ne _ _ (by omega)]; exact e
theorem flat_askC (l : List (Int × Int)) : EncAsk.row l = l.flatMap askC := rfl
/-- what a sorted row is, behind its making -/
def SortedIn' (h : PH) (w : World) (ss : List (Int × Int)) (v : Value) (w'' : World) : Prop :=
  ∃ (l : List (Int × Int)) (a' : Option Addr) (c' : Nat) (B' : List Nat) (h' : PH), l.Perm ss ∧ (l.Pairwise fun a b => ¬ ltA b a) ∧ v = .slice a' l.length c' ∧ Buf EncAsk 79 B' h' a' l.length c' l ∧ Chg [] B' h h' ∧ Frm h w h' w''
theorem sortStep {h : PH} {w w' : World} (hi : h.In w) (hb : Below w.heap.size w w') {v : Value} {ss : List (Int × Int)} (hrow : w'.ownsRow w.heap.size 79 2 v ss.length (ss.flatMap askC)) (hn : ss.length ≤ 1000000) (n : Nat) :
    CallsIn Fence.wide n Tryz.prog 150 #[v, .func (.func 116) #[] #[]] w' fun e w'' => e = .returned (.tuple #[]) ∧ SortedIn' h w ss v w'' := by
  refine callsIn_wide.2 ?_
  rcases hrow.2 with ⟨rfl, h0⟩ | ⟨g, cap, cur, rfl, hg, hgb, h1, h2, h3, h4⟩
  · have h0 : ss = [] := List.length_eq_zero_iff.1 h0
    subst h0
    have hf := frm_below hi hb
    refine Calls.mono (cSortA (K := fun v' h' => v' = .tuple #[] ∧ ∃ l', l'.Perm [] ∧ Buf EncAsk 79 [] h' none 0 0 l' ∧ Chg [] [] h h') (Buf.nil EncAsk 79 h none) (Nat.zero_le _) (fun l' h' hp _ hB hc => ⟨rfl, l', hp, hB, hc⟩) w' hf.inn) ?_
    rintro e w'' ⟨_, h', rfl, ⟨rfl, l', hp, hB, hc⟩, hf2⟩
    have hl : l' = [] := List.Perm.eq_nil hp
    subst hl
    exact ⟨rfl, [], none, 0, [], h', List.Perm.refl _, List.Pairwise.nil, rfl, hB, hc, hf.trans hf2⟩
  · obtain ⟨hf, hno⟩ := frm_new hi hb hg hgb
    have hcur : cur.toList = ss.flatMap askC ++ cur.toList.drop (ss.length * 2) := by rw [← h4, List.take_append_drop]
    have hB : Buf EncAsk 79 [g] (h.upd g (.cells cur 79 (0, 0))) (some ⟨g, 0, none⟩) ss.length cap ss := by
      refine ⟨rfl, .inr ⟨g, cur.toList.drop (ss.length * 2), rfl, rfl, ?_, ?_, h1⟩⟩
      · rw [PH.upd_same, flat_askC, ← hcur]
      · rw [List.length_drop, Array.length_toList, h3, Nat.sub_mul]; rfl
    refine Calls.mono (cSortA (K := fun v' h' => v' = .tuple #[] ∧ ∃ l', l'.Perm ss ∧ (l'.Pairwise fun a b => ¬ ltA b a) ∧ Buf EncAsk 79 [g] h' (some ⟨g, 0, none⟩) ss.length cap l' ∧ Chg [g] [g] (h.upd g (.cells cur 79 (0, 0))) h') hB hn (fun l' h' hp hs hB hc => ⟨rfl, l', hp, hs, hB, hc⟩) w' hf.inn) ?_
    rintro e w'' ⟨_, h', rfl, ⟨rfl, l', hp, hs, hB', hc⟩, hf2⟩
    have hl := hp.length_eq
    exact ⟨rfl, l', _, cap, [g], h', hp, hs, by rw [hl], by rw [hl]; exact hB', (Chg.new _ hno).trans hc, hf.trans hf2⟩
set_option maxRecDepth 100000 in
set_option maxHeartbeats 1000000 in
theorem cSortedA {h : PH} {K : Value → PH → Prop} {bm r c : Nat} {es : List MapEntry} (hbm : h bm = some (.cells #[.map (some r)] 184 (0, 0))) (hr : h r = some (.map es.toArray c)) (hkey : ∀ e ∈ es, ∃ x, e.key = keyV x) (hold : ∀ e ∈ es, e.born < c)
    (hnd : (es.map (·.born)).Nodup) (hn : es.length ≤ 1000)
    (hk : ∀ (l : List (Int × Int)) a' c' B' h', (l.map keyV).Perm (es.map (·.key)) → (l.Pairwise fun a b => ¬ ltA b a) → Buf EncAsk 79 B' h' a' l.length c' l → Chg [] B' h h' → K (.slice a' l.length c') h') :
    CallH Tryz.prog 114 [.func (.func 151) #[] #[.pointer (some ⟨bm, 0, none⟩)], .func (.func 116) #[] #[]] K h := by
  intro w hi
  have hwm := hi _ _ hbm
  have hwr := hi _ _ hr
  have hseq : SeqGives Fence.wide 3 Tryz.prog 151 #[.pointer (some ⟨bm, 0, none⟩)] keyV (fun ss => (ss.map keyV).Perm (es.map (·.key))) es.length w :=
    keysAsk_gives Fence.wide 3 trivial rfl (by omega) bm r es.toArray c hkey hold hnd w (hi.lt hbm) (by simp [World.cell?, hwm]) hwr
  have hmax : es.length ≤ maxLen := by unfold maxLen; omega
  have hf1 : Fence.wide.fn 149 := trivial
  have hf2 : Fence.wide.fn 150 := trivial
  refine (callsIn_wide (n := 6)).1 ?_
  refine callsIn_of_wp Tryz.func114 rfl trivial ?_ rfl
  simp only [Tryz.ntmps114, List.size_toArray, List.length_cons, List.length_nil, Nat.reduceAdd, Nat.reduceSub, Array.replicate_succ, Array.replicate_zero, List.push_toArray, List.append_toArray, List.nil_append, List.cons_append]
  gi_wp2_with (first
    | (gi_at_call 149; refine (ask_collect_in Fence.wide 5 trivial trivial rfl (by omega) 151 _ trivial (enters_of Tryz.func151 (by kernel_rfl) rfl) _ es.length hmax (by omega) _ hseq).mono ?_; rintro e w' ⟨v, ss, rfl, hS, hrow, hnil, hb⟩)
    | (gi_at_call 150; refine (sortStep hi hb hrow (by have := hS.length_eq; simp at this; omega) 5).mono ?_; rintro e w'' ⟨rfl, hpost⟩))
  obtain ⟨l, a', c', B', h', hp, hs, rfl, hB, hc, hf⟩ := hpost
  go_ret
  exact ⟨_, h', rfl, hk l a' c' B' h' ((hp.map keyV).trans hS) hs hB hc, hf⟩
end TL

namespace TL
open Go
variable {P : Program} {f : FuncId} {args : List Value} {K K' : Value → PH → Prop} {g h : PH} {N : List Nat}
theorem CallH.frame {hs : PH} (s : hs.Sub h) (x : CallH P f args K hs) (hk : ∀ v h' H, K v h' → h'.Sub H → (∀ b o, h b = some o → hs b = none → h' b = none ∧ H b = some o) → K' v H) : CallH P f args K' h := by
  intro w hi
  refine Calls.mono (x w fun b o e => hi b o (s b o e)) ?_
  rintro e w' ⟨v, h', rfl, hK, fr⟩
  have hold : ∀ b o, h b = some o → hs b = none → h' b = none ∧ w'.heap[b]? = some o := fun b o e1 e2 => by
    obtain ⟨a1, a2⟩ := fr.old b (hi.lt e1) e2
    exact ⟨a1, a2.trans (hi b o e1)⟩
  refine ⟨v, fun b => match h' b with
    | some o => some o
    | none => if (hs b).isSome then none else h b, rfl, hk v h' _ hK (fun b o e => by simp [e]) (fun b o e1 e2 => ?_), fun b o e1 => ?_, fr.size, fun b hb e1 => ?_, fr.os, fr.out⟩
  · obtain ⟨a1, _⟩ := hold b o e1 e2
    exact ⟨a1, by simp [a1, e2, e1]⟩
  · cases e2 : h' b with
    | some o' =>
      simp only [e2] at e1; cases e1
      exact fr.inn b _ e2
    | none =>
      simp only [e2] at e1
      cases e3 : hs b with
      | some o' => simp [e3] at e1
      | none =>
        simp only [e3, Option.isSome_none, Bool.false_eq_true, if_false] at e1
        exact (hold b o e1 e3).2
  · have e3 : hs b = none := by
      cases e : hs b with
      | none => rfl
      | some o => rw [s b o e] at e1; cases e1
    obtain ⟨a1, a2⟩ := fr.old b hb e3
    exact ⟨by simp [a1, e3, e1], a2⟩
/-- a call that changes nothing old, on what stays -/
theorem Spl.call (s : Spl g N h) (x : CallH P f args K g) (hk : ∀ v g' H, K v g' → (g.Sub g' → Stp g N h g' N H ∧ ∀ b ∈ N, ∀ o, h b = some o → H b = some o) → K' v H) : CallH P f args K' h := by
  refine x.frame s.sub fun v g' H hK hs ho => hk v g' H hK fun hgg => ⟨?_, fun b hb o e => (ho b o e (s.av b hb)).2⟩
  refine ⟨⟨fun b o _ e => ?_, fun b hb => .inl hb⟩, hgg, fun b _ hh e => ?_, hs, fun b hb => ?_, fun b hb => ?_⟩
  · cases eg : g b with
    | none => exact (ho b o e eg).2
    | some o' =>
      have := s.sub b o' eg
      rw [this] at e; cases e
      exact hs b _ (hgg b _ eg)
  · obtain ⟨o, ho'⟩ := hh
    exact (ho b o ho' e).1
  · obtain ⟨o, ho'⟩ := s.has b hb
    exact (ho b o ho' (s.av b hb)).1
  · obtain ⟨o, ho'⟩ := s.has b hb
    exact ⟨o, (ho b o ho' (s.av b hb)).2⟩
theorem Spl.chg0 {g0 : PH} (s : Spl g N h) (s0 : g0.Sub g) : Chg [] N g0 h := ⟨fun b o _ e => s.sub b o (s0 b o e), fun b hb => .inr (by
  cases e : g0 b with
  | none => rfl
  | some o => have := s0 b o e; rw [s.av b hb] at this; cases this)⟩
theorem Spl.of0 {g0 : PH} (c : Chg [] N g0 h) (hh : Has N h) : Spl g0 N h := ⟨c.sub0, fun b hb => by
  rcases c.2 b hb with h1 | h1
  · cases h1
  · exact h1, hh⟩
theorem Stp.same {g' h' : PH} {N' : List Nat} (x : Stp g N h g' N' h') {b : Nat} {o : Obj} (e : h b = some o) (hb : b ∉ N) : h' b = some o := x.chg.keep e hb
end TL

namespace TL
open Go Go.Proofs
variable {B : List Nat} {h : PH} {K : Value → PH → Prop}

variable {oA : Option Addr} {oC : Nat} {ops : List OpR}
/-! ### What statements go through -/
variable {pA : Option Addr} {pC : Nat} {prs : List PrR}
theorem cGreatPairs (hl : SR EncPr h pA prs) (hk : K (.bool (gPrs prs)) h) : CallH Tryz.prog id_law13_GreatPairs [.slice pA prs.length pC] K h := by
  refine F_law13_GreatPairs_ok ⟨fun e => ?_, fun e => ?_⟩
  · have e : 200 < prs.length := by simp at e; omega
    simpa [gPrs, e] using hk
  · have e0 : ¬ 200 < prs.length := by simp at e; omega
    refine LoopP.ind (fun (z : Int × Unit) h' => h' = h ∧ (0 ≤ z.1 ∧ z.1 ≤ prs.length) ∧ ∀ j : Nat, (hj : j < prs.length) → (j : Int) < z.1 → (decide (1000 < prs[j].p.length) || decide (1000 < prs[j].v.length)) = false) (fun z _ => (prs.length - z.1).toNat) ?_ ⟨rfl, ⟨by decide, by show (0 : Int) ≤ _; omega⟩, fun j _ hj => by simp only at hj; omega⟩
    rintro ⟨i, u⟩ h1 ⟨rfl, ⟨i0, i1⟩, ha⟩
    dsimp only at i0 i1 ha ⊢
    refine ⟨fun e => ?_, fun e => ?_⟩
    · have e : i < prs.length := by simpa using e
      have hit : i.toNat < prs.length := by omega
      obtain ⟨b, o, hA, hr⟩ := hl.get hit
      have s1 : (decide (((mk prs[i.toNat].p).size : Int) > (1000 : Int)) || decide (((mk prs[i.toNat].v).size : Int) > (1000 : Int))) = (decide (1000 < prs[i.toNat].p.length) || decide (1000 < prs[i.toNat].v.length)) := by
        rw [size_mk, size_mk]
        congr 1 <;> (rw [decide_eq_decide]; omega)
      refine ⟨b, o, ⟨hA, i0, e⟩, _, hr _ 0 1 rfl (by decide), b, o, fun _ => ⟨hA, i0, e⟩, _, fun _ => hr _ 1 1 rfl (by decide), fun e2 => ?_, fun e2 => ?_⟩
      · rw [s1] at e2
        have : gPrs prs = true := by
          simp only [gPrs, Bool.or_eq_true, List.any_eq_true]
          exact .inr ⟨_, List.getElem_mem hit, by simpa using e2⟩
        rw [this] at hk; exact hk
      · rw [s1] at e2
        rw [wrap64 (n := i + 1) (by omega) (by omega)]
        refine ⟨⟨rfl, ⟨by omega, by omega⟩, fun j hj hji => ?_⟩, by omega⟩
        by_cases hji2 : (j : Int) < i
        · exact ha j hj hji2
        · have : j = i.toNat := by omega
          subst this; exact e2
    · have e : i = prs.length := by simp at e; omega
      have : gPrs prs = false := by
        simp only [gPrs, Bool.or_eq_false_iff, List.any_eq_false]
        refine ⟨by simpa using e0, fun o ho => ?_⟩
        obtain ⟨j, hj, rfl⟩ := List.getElem_of_mem ho
        have := ha j hj (by omega)
        simpa using this
      rw [this] at hk; exact hk
variable {rA eA : Option Addr} {rC eN eC : Nat} {rows : List OsR} {i0 i1 : Int}
end TL
