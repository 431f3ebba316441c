/-
  SHA-256 on natural numbers. No condition.
-/
import Derived.Test.YtmcgndbfoebcnaaGreatLibD
import Derived.Test.YtmcgndbfoebcnaaGreatTextA
namespace TL
open Go

/-! ### Words -/
def rotr (x n : Nat) : Nat := x * 2 ^ (32 - n) % 4294967296 ||| x / 2 ^ n
def iv (l : List Nat) : List Int := l.map Int.ofNat
def Bd (l : List Nat) : Prop := ∀ x ∈ l, x < 4294967296
theorem iv_len (l : List Nat) : (iv l).length = l.length := by simp [iv]
theorem iv_get (l : List Nat) (i : Nat) : (iv l).getD i 0 = ((l.getD i 0 : Nat) : Int) := by
  unfold iv
  simp only [List.getD_eq_getElem?_getD, List.getElem?_map]
  cases l[i]? <;> rfl
theorem iv_set (l : List Nat) (i n : Nat) : (iv l).set i (n : Int) = iv (l.set i n) := by
  unfold iv; rw [List.map_set]; rfl
theorem getD_part {α : Type} (l : List α) (k : Nat) (d : α) : ((l.drop k).take 1).getD 0 d = l.getD k d := by
  simp only [List.getD_eq_getElem?_getD]
  rw [List.getElem?_take_of_lt (by decide), List.getElem?_drop, Nat.add_zero]
theorem getD_take1 {α : Type} (l : List α) (d : α) : (l.take 1).getD 0 d = l.getD 0 d := getD_part l 0 d
theorem getD_drop {α : Type} (l : List α) (k : Nat) (d : α) : (l.drop k).getD 0 d = l.getD k d := by
  simp only [List.getD_eq_getElem?_getD]
  rw [List.getElem?_drop, Nat.add_zero]
theorem Bd.get {l : List Nat} (h : Bd l) (i : Nat) : l.getD i 0 < 4294967296 := by
  rw [List.getD_eq_getElem?_getD]
  cases e : l[i]? with
  | none => simp
  | some x => exact h x (List.mem_of_getElem? e)
theorem Bd.set {l : List Nat} (h : Bd l) (i : Nat) {n : Nat} (hn : n < 4294967296) : Bd (l.set i n) := fun x hx => by
  rcases List.mem_or_eq_of_mem_set hx with hx | rfl
  · exact h x hx
  · exact hn
theorem wrap32 (n : Nat) : IntKind.wrap .u32 (n : Int) = ((n % 4294967296 : Nat) : Int) := by
  simp [IntKind.wrap, IntKind.bits, IntKind.signed]
theorem bv_nat {w : Nat} (n : Nat) : (BitVec.ofInt w (n : Int)).toNat = n % 2 ^ w := by
  rw [BitVec.ofInt_natCast, BitVec.toNat_ofNat]
theorem xor32 {a b : Nat} (ha : a < 4294967296) (hb : b < 4294967296) : bitsV .xor .u32 (a : Int) (b : Int) = ((a ^^^ b : Nat) : Int) := by
  have h : a ^^^ b < 2 ^ 32 := Nat.xor_lt_two_pow (by simpa using ha) (by simpa using hb)
  show IntKind.wrap .u32 (((BitVec.ofInt 32 (a : Int) ^^^ BitVec.ofInt 32 (b : Int)).toNat : Nat) : Int) = _
  rw [BitVec.toNat_xor, bv_nat, bv_nat, Nat.mod_eq_of_lt (by simpa using ha), Nat.mod_eq_of_lt (by simpa using hb), wrap32, Nat.mod_eq_of_lt (by simpa using h)]
theorem and32 {a b : Nat} (ha : a < 4294967296) (hb : b < 4294967296) : bitsV .and .u32 (a : Int) (b : Int) = ((a &&& b : Nat) : Int) := by
  have h : a &&& b < 2 ^ 32 := Nat.and_lt_two_pow _ (by simpa using hb)
  show IntKind.wrap .u32 (((BitVec.ofInt 32 (a : Int) &&& BitVec.ofInt 32 (b : Int)).toNat : Nat) : Int) = _
  rw [BitVec.toNat_and, bv_nat, bv_nat, Nat.mod_eq_of_lt (by simpa using ha), Nat.mod_eq_of_lt (by simpa using hb), wrap32, Nat.mod_eq_of_lt (by simpa using h)]
theorem or32 {a b : Nat} (ha : a < 4294967296) (hb : b < 4294967296) : bitsV .or .u32 (a : Int) (b : Int) = ((a ||| b : Nat) : Int) := by
  have h : a ||| b < 2 ^ 32 := Nat.or_lt_two_pow (by simpa using ha) (by simpa using hb)
  show IntKind.wrap .u32 (((BitVec.ofInt 32 (a : Int) ||| BitVec.ofInt 32 (b : Int)).toNat : Nat) : Int) = _
  rw [BitVec.toNat_or, bv_nat, bv_nat, Nat.mod_eq_of_lt (by simpa using ha), Nat.mod_eq_of_lt (by simpa using hb), wrap32, Nat.mod_eq_of_lt (by simpa using h)]
theorem xor_lt {a b : Nat} (ha : a < 4294967296) (hb : b < 4294967296) : a ^^^ b < 4294967296 := by
  have h : a ^^^ b < 2 ^ 32 := Nat.xor_lt_two_pow (by simpa using ha) (by simpa using hb)
  simpa using h
theorem and_lt {a b : Nat} (hb : b < 4294967296) : a &&& b < 4294967296 := by
  have h : a &&& b < 2 ^ 32 := Nat.and_lt_two_pow _ (by simpa using hb)
  simpa using h
theorem shr32 {a : Nat} {n : Nat} (hn : n ≤ 32) : shrV .u32 (a : Int) (n : Int) = ((a / 2 ^ n : Nat) : Int) := by
  unfold shrV
  rw [show min (n : Int).toNat (IntKind.bits .u32) = n by simp [IntKind.bits]; omega, Int.fdiv_eq_ediv_of_nonneg _ (Int.le_of_lt (by exact_mod_cast Nat.pow_pos (by decide)))]
  norm_cast
theorem div_lt {a n : Nat} (ha : a < 4294967296) : a / 2 ^ n < 4294967296 := Nat.lt_of_le_of_lt (Nat.div_le_self _ _) ha
theorem rotr_lt {x n : Nat} (hx : x < 4294967296) : rotr x n < 4294967296 := by
  have h : rotr x n < 2 ^ 32 := Nat.or_lt_two_pow (Nat.mod_lt _ (by decide)) (by have := div_lt (n := n) hx; simpa using this)
  simpa using h
def sg0 (x : Nat) : Nat := rotr x 7 ^^^ rotr x 18 ^^^ x / 2 ^ 3
def sg1 (x : Nat) : Nat := rotr x 17 ^^^ rotr x 19 ^^^ x / 2 ^ 10
def bs1 (x : Nat) : Nat := rotr x 6 ^^^ rotr x 11 ^^^ rotr x 25
def bs0 (x : Nat) : Nat := rotr x 2 ^^^ rotr x 13 ^^^ rotr x 22
def chooseN (e f g : Nat) : Nat := (e &&& f) ^^^ ((4294967295 ^^^ e) &&& g)
def majN (a b c : Nat) : Nat := (a &&& b) ^^^ (a &&& c) ^^^ (b &&& c)
theorem sg0_lt {x : Nat} (h : x < 4294967296) : sg0 x < 4294967296 := xor_lt (xor_lt (rotr_lt h) (rotr_lt h)) (div_lt h)
theorem sg1_lt {x : Nat} (h : x < 4294967296) : sg1 x < 4294967296 := xor_lt (xor_lt (rotr_lt h) (rotr_lt h)) (div_lt h)
theorem bs1_lt {x : Nat} (h : x < 4294967296) : bs1 x < 4294967296 := xor_lt (xor_lt (rotr_lt h) (rotr_lt h)) (rotr_lt h)
theorem bs0_lt {x : Nat} (h : x < 4294967296) : bs0 x < 4294967296 := xor_lt (xor_lt (rotr_lt h) (rotr_lt h)) (rotr_lt h)
theorem ch_lt {e f g : Nat} (hf : f < 4294967296) (hg : g < 4294967296) : chooseN e f g < 4294967296 := xor_lt (and_lt hf) (and_lt hg)
theorem maj_lt {a b c : Nat} (hb : b < 4294967296) (hc : c < 4294967296) : majN a b c < 4294967296 := xor_lt (xor_lt (and_lt hb) (and_lt hc)) (and_lt hc)
/-- the number of bytes, the highest first -/
def be (l : List UInt8) : Nat := l.foldl (fun x b => x * 256 + b.toNat) 0
/-- n bytes of a number, the highest first -/
def beB : Nat → Nat → List UInt8
  | 0, _ => []
  | n + 1, x => UInt8.ofNat (x / 2 ^ (8 * n)) :: beB n x
theorem beB_len : ∀ n x, (beB n x).length = n
  | 0, _ => rfl
  | n + 1, x => by simp [beB, beB_len n x]

/-! ### A block -/
def w16 (blk : List UInt8) (n : Nat) : List Nat := (List.range n).foldl (fun w i => w.set i (be ((blk.drop (4 * i)).take 4))) (List.replicate 64 0)
def wStep (w : List Nat) (i : Nat) : List Nat := w.set (16 + i) ((((w.getD i 0 + sg0 (w.getD (1 + i) 0)) % 4294967296 + w.getD (9 + i) 0) % 4294967296 + sg1 (w.getD (14 + i) 0)) % 4294967296)
def wAll (blk : List UInt8) (n : Nat) : List Nat := (List.range n).foldl wStep (w16 blk 16)
def rnd (k w v : List Nat) (i : Nat) : List Nat :=
  [(((((v.getD 7 0 + bs1 (v.getD 4 0)) % 4294967296 + chooseN (v.getD 4 0) (v.getD 5 0) (v.getD 6 0)) % 4294967296 + k.getD i 0) % 4294967296 + w.getD i 0) % 4294967296 + (bs0 (v.getD 0 0) + majN (v.getD 0 0) (v.getD 1 0) (v.getD 2 0)) % 4294967296) % 4294967296,
    v.getD 0 0, v.getD 1 0, v.getD 2 0,
    (v.getD 3 0 + ((((v.getD 7 0 + bs1 (v.getD 4 0)) % 4294967296 + chooseN (v.getD 4 0) (v.getD 5 0) (v.getD 6 0)) % 4294967296 + k.getD i 0) % 4294967296 + w.getD i 0) % 4294967296) % 4294967296,
    v.getD 4 0, v.getD 5 0, v.getD 6 0]
def rnds (k w v : List Nat) (n : Nat) : List Nat := (List.range n).foldl (rnd k w) v
def addH (h v : List Nat) (n : Nat) : List Nat := (List.range n).foldl (fun h i => h.set i ((h.getD i 0 + v.getD i 0) % 4294967296)) h
def turnN (h b k : List Nat) (blk : List UInt8) : List Nat := addH h (rnds k (wAll blk 48) b 64) 8
theorem fold_succ {α : Type} (f : α → Nat → α) (x : α) (n : Nat) : (List.range (n + 1)).foldl f x = f ((List.range n).foldl f x) n := by
  rw [List.range_succ, List.foldl_append]; rfl
theorem fold_inv {α : Type} (Q : α → Prop) (f : α → Nat → α) (hf : ∀ x i, Q x → Q (f x i)) {x : α} (hx : Q x) : ∀ n, Q ((List.range n).foldl f x)
  | 0 => hx
  | n + 1 => by rw [fold_succ]; exact hf _ _ (fold_inv Q f hf hx n)
theorem be_foldl : ∀ (l : List UInt8) (x : Nat), l.foldl (fun x b => x * 256 + b.toNat) x = x * 256 ^ l.length + be l
  | [], x => by simp [be]
  | b :: r, x => by
    unfold be
    rw [List.foldl_cons, List.foldl_cons, be_foldl r, be_foldl r (0 * 256 + b.toNat), List.length_cons, Nat.pow_succ, Nat.add_mul, Nat.zero_mul, Nat.zero_add]
    rw [Nat.mul_comm (256 ^ r.length) 256, ← Nat.mul_assoc, Nat.add_assoc]
theorem be_lt (l : List UInt8) : be l < 256 ^ l.length := by
  induction l with
  | nil => simp [be]
  | cons b r ih =>
    have h := be_foldl r (0 * 256 + b.toNat)
    unfold be
    rw [List.foldl_cons, h, List.length_cons, Nat.pow_succ, Nat.zero_mul, Nat.zero_add]
    have hb := b.toNat_lt
    have h2 : b.toNat * 256 ^ r.length + 256 ^ r.length ≤ 256 ^ r.length * 256 := by
      rw [← Nat.succ_mul, Nat.mul_comm (256 ^ r.length)]
      exact Nat.mul_le_mul_right _ (by omega)
    omega
theorem be4_lt {l : List UInt8} (h : l.length ≤ 4) : be l < 4294967296 := by
  have := be_lt l
  have h2 : 256 ^ l.length ≤ 256 ^ 4 := Nat.pow_le_pow_right (by decide) h
  have h3 : (256 : Nat) ^ 4 = 4294967296 := by decide
  omega
theorem w16_ok (blk : List UInt8) (n : Nat) : (w16 blk n).length = 64 ∧ Bd (w16 blk n) := by
  refine fold_inv (fun w : List Nat => w.length = 64 ∧ Bd w) _ (fun w i ⟨h1, h2⟩ => ⟨by simp [h1], h2.set i (be4_lt (by simp; omega))⟩) ⟨by simp, fun x hx => ?_⟩ n
  rw [(List.mem_replicate.1 hx).2]; decide
theorem wAll_ok (blk : List UInt8) (n : Nat) : (wAll blk n).length = 64 ∧ Bd (wAll blk n) :=
  fold_inv (fun w : List Nat => w.length = 64 ∧ Bd w) _ (fun w i ⟨h1, h2⟩ => ⟨by simp [h1], h2.set _ (Nat.mod_lt _ (by decide))⟩) (w16_ok blk 16) n
theorem rnd_ok {k w v : List Nat} {i : Nat} (hv : v.length = 8 ∧ Bd v) : (rnd k w v i).length = 8 ∧ Bd (rnd k w v i) := by
  refine ⟨rfl, fun x hx => ?_⟩
  simp only [rnd, List.mem_cons, List.not_mem_nil, or_false] at hx
  rcases hx with rfl | rfl | rfl | rfl | rfl | rfl | rfl | rfl
  · exact Nat.mod_lt _ (by decide)
  · exact hv.2.get _
  · exact hv.2.get _
  · exact hv.2.get _
  · exact Nat.mod_lt _ (by decide)
  · exact hv.2.get _
  · exact hv.2.get _
  · exact hv.2.get _
theorem rnds_ok {k w v : List Nat} (hv : v.length = 8 ∧ Bd v) (n : Nat) : (rnds k w v n).length = 8 ∧ Bd (rnds k w v n) :=
  fold_inv (fun v : List Nat => v.length = 8 ∧ Bd v) _ (fun _ _ h => rnd_ok h) hv n
theorem addH_ok {h v : List Nat} (hh : h.length = 8 ∧ Bd h) (n : Nat) : (addH h v n).length = 8 ∧ Bd (addH h v n) :=
  fold_inv (fun v : List Nat => v.length = 8 ∧ Bd v) _ (fun _ _ h => ⟨by simp [h.1], h.2.set _ (Nat.mod_lt _ (by decide))⟩) hh n
theorem turn_ok {h b k : List Nat} {blk : List UInt8} (hh : h.length = 8 ∧ Bd h) : (turnN h b k blk).length = 8 ∧ Bd (turnN h b k blk) := addH_ok hh 8

/-! ### A text -/
def h0N : List Nat := [1779033703, 3144134277, 1013904242, 2773480762, 1359893119, 2600822924, 528734635, 1541459225]
def kN : List Nat := [1116352408, 1899447441, 3049323471, 3921009573, 961987163, 1508970993, 2453635748, 2870763221,
  3624381080, 310598401, 607225278, 1426881987, 1925078388, 2162078206, 2614888103, 3248222580,
  3835390401, 4022224774, 264347078, 604807628, 770255983, 1249150122, 1555081692, 1996064986,
  2554220882, 2821834349, 2952996808, 3210313671, 3336571891, 3584528711, 113926993, 338241895,
  666307205, 773529912, 1294757372, 1396182291, 1695183700, 1986661051, 2177026350, 2456956037,
  2730485921, 2820302411, 3259730800, 3345764771, 3516065817, 3600352804, 4094571909, 275423344,
  430227734, 506948616, 659060556, 883997877, 958139571, 1322822218, 1537002063, 1747873779,
  1955562222, 2024104815, 2227730452, 2361852424, 2428436474, 2756734187, 3204031479, 3329325298]
theorem h0_ok : h0N.length = 8 ∧ Bd h0N := ⟨rfl, by unfold Bd; decide⟩
theorem k_ok : kN.length = 64 ∧ Bd kN := ⟨rfl, by unfold Bd; decide +kernel⟩
/-- n blocks -/
def blks : Nat → List Nat → List UInt8 → List Nat
  | 0, h, _ => h
  | n + 1, h, l => blks n (turnN h h kN (l.take 64)) (l.drop 64)
theorem blks_ok : ∀ (n : Nat) {h : List Nat} {l : List UInt8}, h.length = 8 ∧ Bd h → (blks n h l).length = 8 ∧ Bd (blks n h l)
  | 0, _, _, hh => hh
  | n + 1, _, _, hh => blks_ok n (turn_ok hh)
theorem blks_succ : ∀ (n : Nat) (h : List Nat) (l : List UInt8), blks (n + 1) h l = turnN (blks n h l) (blks n h l) kN ((l.drop (64 * n)).take 64)
  | 0, h, l => rfl
  | n + 1, h, l => by
    rw [blks, blks_succ n, blks, List.drop_drop]
    rw [show 64 + 64 * n = 64 * (n + 1) by omega]
theorem blks_add : ∀ (m n : Nat) (h : List Nat) (l : List UInt8), blks (m + n) h l = blks n (blks m h l) (l.drop (64 * m))
  | 0, n, h, l => by simp [blks]
  | m + 1, n, h, l => by
    rw [show m + 1 + n = (m + n) + 1 by omega, blks, blks_add m n, blks, List.drop_drop]
    rw [show 64 + 64 * m = 64 * (m + 1) by omega]
theorem blks_app : ∀ (n : Nat) (h : List Nat) (l r : List UInt8), 64 * n ≤ l.length → blks n h (l ++ r) = blks n h l
  | 0, _, _, _, _ => rfl
  | n + 1, h, l, r, hl => by
    rw [blks, blks, List.take_append_of_le_length (by omega), List.drop_append_of_le_length (by omega), blks_app n _ _ r (by rw [List.length_drop]; omega)]
/-- how many zeros are behind -/
def zrs (n : Nat) : Nat := (119 - n % 64) % 64
def padB (n : Nat) : List UInt8 := 128 :: (List.replicate (zrs n) 0 ++ beB 8 (n * 8 % 18446744073709551616))
def outN (h : List Nat) : List UInt8 := h.flatMap fun x => beB 4 x
def shaN (l : List UInt8) : List UInt8 := outN (blks ((l.length + (padB l.length).length) / 64) h0N (l ++ padB l.length))
theorem pad_len (n : Nat) : (n + (padB n).length) % 64 = 0 := by
  simp only [padB, List.length_cons, List.length_append, List.length_replicate, beB_len, zrs]
  omega
end TL

namespace TL
open Go
variable {h : PH} {b o n : Nat} {T : TypeId} {fr : Nat × Nat} {pre mid post new : List Value} {K : PH → Prop}
theorem rds_mid (hb : h b = some (.cells (pre ++ (mid ++ post)).toArray T fr)) (ho : o = pre.length) (hn : n = mid.length) : h.rds b o n = some mid := by
  subst ho hn
  rw [rds_of hb (by simp <;> omega)]
  rw [List.drop_left, List.take_left]
theorem st_mid (hb : h b = some (.cells (pre ++ (mid ++ post)).toArray T (0, 0))) (ho : o = pre.length) (hn : new.length = mid.length) (hk : ∀ h', h' b = some (.cells (pre ++ (new ++ post)).toArray T (0, 0)) → Chg [b] [b] h h' → K h') : stH h b o new K := by
  subst ho
  refine stH_mk hb (by simp <;> omega) (hk _ ?_ (Chg.upd _))
  rw [PH.upd_same]
  congr 2
  rw [List.take_left, hn, ← List.drop_drop, List.drop_left, List.drop_left, List.append_assoc]
theorem rds_mid' {cs : List Value} (hb : h b = some (.cells cs.toArray T fr)) (he : cs = pre ++ (mid ++ post)) (ho : o = pre.length) (hn : n = mid.length) : h.rds b o n = some mid := by
  subst he; exact rds_mid hb ho hn
theorem st_mid' {cs cs' : List Value} (hb : h b = some (.cells cs.toArray T (0, 0))) (he : cs = pre ++ (mid ++ post)) (he' : pre ++ (new ++ post) = cs') (ho : o = pre.length) (hn : new.length = mid.length) (hk : ∀ h', h' b = some (.cells cs'.toArray T (0, 0)) → Chg [b] [b] h h' → K h') : stH h b o new K := by
  subst he he'; exact st_mid hb ho hn hk
/-- a row stays where the blocks that change hold nothing of its kind -/
theorem SR.off {α : Type} {E : Enc α} {a : Option Addr} {l : List α} {h' : PH} {B B' : List Nat} (x : SR E h a l) (Q : Value → Bool) (hE : ∀ y, ∃ v ∈ E.enc y, Q v = true) (hB : ∀ b ∈ B, ∀ cs T fr, h b = some (.cells cs T fr) → ∀ v ∈ cs.toList, Q v = false) (c : Chg B B' h h') : SR E h' a l := by
  rcases x with h0 | ⟨b, o, ha, hr⟩
  · exact .inl h0
  · cases l with
    | nil => exact .inl rfl
    | cons y r =>
      obtain ⟨cs, T, fr, hb, hle, hv⟩ := rds_some hr
      have hbB : b ∉ B := fun hm => by
        obtain ⟨v, hv1, hv2⟩ := hE y
        have h1 : v ∈ E.row (y :: r) := by rw [E.row_cons]; exact List.mem_append_left _ hv1
        rw [hv] at h1
        have h2 := hB b hm cs T fr hb v (List.mem_of_mem_drop (List.mem_of_mem_take h1))
        rw [h2] at hv2; cases hv2
      refine .inr ⟨b, o, ha, ?_⟩
      unfold PH.rds at hr ⊢
      rw [hb] at hr
      rw [c.keep hb hbB]; exact hr
/-- bytes as numbers -/
def bi (l : List UInt8) : List Int := l.map fun b => (b.toNat : Int)
theorem bi_len (l : List UInt8) : (bi l).length = l.length := by simp [bi]
theorem row_bi (l : List UInt8) : EncB.row l = (bi l).map (Value.int .u8) := by rw [row_map, bi, List.map_map]; rfl
theorem bi_inj {l m : List UInt8} (h : bi l = bi m) : l = m := by
  unfold bi at h
  exact (List.map_inj_right (fun a b e => UInt8.toNat_inj.1 (by omega))).1 h
theorem bi_beq (l m : List UInt8) : (bi l == bi m) = decide (l = m) := by
  by_cases e : l = m
  · simp [e]
  · simp only [e, decide_false, beq_eq_false_iff_ne, ne_eq]
    exact fun h => e (bi_inj h)
theorem chg_on {B C : List Nat} {h g k : PH} (c : Chg [] B h g) (d : Chg B C g k) : Chg [] C h k := c.trans d
end TL

namespace TL
open Go Go.Proofs
variable {B : List Nat} {h : PH} {K : Value → PH → Prop}

theorem cRot {x n : Nat} (hx : x < 4294967296) (h1 : 1 ≤ n) (h2 : n ≤ 31) (hk : K (.int .u32 (rotr x n : Int)) h) : CallH Tryz.prog id_math_bits_RotateLeft32 [.int .u32 (x : Int), .int .i64 (-(n : Int))] K h := by
  have e1 : bitsV .and .u64 (IntKind.wrap .u64 (-(n : Int))) 31 = ((32 - n : Nat) : Int) := by
    have key : ∀ n : Nat, n ≤ 31 → 1 ≤ n → bitsV .and .u64 (IntKind.wrap .u64 (-(n : Int))) 31 = ((32 - n : Nat) : Int) := by decide +kernel
    exact key n h2 h1
  have e2 : IntKind.wrap .u64 ((32 : Int) - ((32 - n : Nat) : Int)) = (n : Int) := by rw [wrap_u64 (by omega) (by omega)]; omega
  refine F_math_bits_RotateLeft32_ok ?_
  unfold F_math_bits_RotateLeft32
  rw [e1, e2]
  refine ⟨by omega, by omega, ?_⟩
  have h3 : shlV .u32 (x : Int) ((32 - n : Nat) : Int) = ((x * 2 ^ (32 - n) % 4294967296 : Nat) : Int) := by
    unfold shlV
    rw [show min (((32 - n : Nat) : Int)).toNat (IntKind.bits .u32) = 32 - n by simp [IntKind.bits] <;> omega]
    have : (x : Int) * 2 ^ (32 - n) = ((x * 2 ^ (32 - n) : Nat) : Int) := by norm_cast
    rw [this, wrap32]
  rw [h3, shr32 (by omega), or32 (Nat.mod_lt _ (by decide)) (div_lt hx)]
  exact hk
theorem cGetBig {l : List UInt8} (hl : l.length ≤ 8) (hk : K (.int .u64 (be l : Int)) h) : CallH Tryz.prog id_sha_getBig [.string (mk l), .int .i64 (l.length : Int)] K h := by
  refine F_sha_getBig_ok (LoopP.ind (fun (z : Int × Int × Unit) h' => ∃ i : Nat, z = ((be (l.take i) : Int), (i : Int), ()) ∧ i ≤ l.length ∧ h' = h) (fun z _ => (l.length - z.2.1).toNat) ?_ ⟨0, rfl, Nat.zero_le _, rfl⟩)
  rintro _ h ⟨i, rfl, hi, rfl⟩
  dsimp only
  refine ⟨fun e => ?_, fun e => ?_⟩
  · have e : i < l.length := by simpa using e
    have hba : byteAt (mk l) (i : Int) = (l[i].toNat : Int) := by rw [byteAt_mk]; simp [List.getD, e]
    have hb := l[i].toNat_lt
    rw [hba, wrap_u64 (by omega) (by omega), wrap64 (n := (i : Int) + 1) (by omega) (by omega)]
    have hbe := be_lt (l.take i)
    have h256 : 256 ^ (l.take i).length ≤ 256 ^ 7 := Nat.pow_le_pow_right (by decide) (by rw [List.length_take]; omega)
    have h7 : (256 : Nat) ^ 7 = 72057594037927936 := by decide
    have hsh : shlV .u64 (be (l.take i) : Int) 8 = ((be (l.take i) * 256 : Nat) : Int) := by
      unfold shlV
      rw [show min ((8 : Int)).toNat (IntKind.bits .u64) = 8 by rfl]
      have : (be (l.take i) : Int) * 2 ^ 8 = ((be (l.take i) * 256 : Nat) : Int) := by norm_cast
      rw [this, wrap_u64 (by omega) (by omega)]
    have hor : bitsV .or .u64 ((be (l.take i) * 256 : Nat) : Int) (l[i].toNat : Int) = ((be (l.take i) * 256 + l[i].toNat : Nat) : Int) := by
      show IntKind.wrap .u64 (((BitVec.ofInt 64 ((be (l.take i) * 256 : Nat) : Int) ||| BitVec.ofInt 64 (l[i].toNat : Int)).toNat : Nat) : Int) = _
      rw [BitVec.toNat_or, bv_nat, bv_nat, Nat.mod_eq_of_lt (by omega), Nat.mod_eq_of_lt (by omega)]
      have h1 := Nat.two_pow_add_eq_or_of_lt (i := 8) (b := l[i].toNat) (by simpa using hb) (be (l.take i))
      have h2 : be (l.take i) * 256 ||| l[i].toNat = be (l.take i) * 256 + l[i].toNat := by rw [Nat.mul_comm]; exact h1.symm
      rw [h2, wrap_u64 (by omega) (by omega)]
    rw [hsh, hor]
    refine ⟨⟨by omega, by rw [show ByteArray.size (mk l) = l.length from size_mk l]; omega⟩, ⟨i + 1, ?_, by omega, rfl⟩, by omega⟩
    have : be (l.take (i + 1)) = be (l.take i) * 256 + l[i].toNat := by
      rw [List.take_succ_eq_append_getElem e]
      unfold be
      rw [List.foldl_append]; rfl
    rw [this]; rfl
  · have e : i = l.length := by simp at e; omega
    subst e
    rw [List.take_length]; exact hk
/-- a word's chunk -/
def u32s (l : List Nat) : List Value := (iv l).map (Value.int .u32)
set_option maxHeartbeats 1000000 in
theorem cTurn {hN bN kL : List Nat} {blk : List UInt8} {b o : Nat} {sA : Option Addr} {sC : Nat} (hh : hN.length = 8 ∧ Bd hN) (hb : bN.length = 8 ∧ Bd bN) (hkl : kL.length = 64 ∧ Bd kL) (hkr : h.rds b o 64 = some (u32s kL)) (hs : SR EncB h sA blk) (hbl : blk.length = 64) (hsc : 64 ≤ sC)
    (hk : K (.agg ((u32s (turnN hN bN kL blk) ++ [])).toArray) h) :
    CallH Tryz.prog id_sha_turn [.agg ((u32s hN ++ [])).toArray, .agg ((u32s bN ++ [])).toArray, .pointer (some ⟨b, o, none⟩), .slice sA 64 sC] K h := by
  have r0 : ((List.replicate 64 0 : List Int)) = iv (w16 blk 0) := by rfl
  refine F_sha_turn_ok (by rw [iv_len]; exact hh.1) (by rw [iv_len]; exact hb.1) ?_
  unfold F_sha_turn
  rw [r0]
  refine LoopP.ind (fun (z : Int × List Int × Unit) h' => ∃ i : Nat, z = ((i : Int), iv (w16 blk i), ()) ∧ i ≤ 16 ∧ h' = h) (fun z _ => (16 - z.1).toNat) ?_ ⟨0, rfl, Nat.zero_le _, rfl⟩
  rintro _ h ⟨i, rfl, hi, rfl⟩
  dsimp only
  refine ⟨fun e => ?_, fun e => ?_⟩
  · have e : i < 16 := by simp at e; omega
    rw [wrap64 (n := (4 : Int) * i) (by omega) (by omega), wrap64 (n := (4 : Int) * i + 4) (by omega) (by omega), wrap64 (n := (i : Int) + 1) (by omega) (by omega)]
    have hsl := hs.slice (lo := 4 * i) (hi := 4 * i + 4) (mx := ((sC : Nat) : Int)) (L := (4 : Int) * i) (by omega) (by omega) (by omega)
    have hlen : ((blk.drop (4 * i)).take (4 * i + 4 - 4 * i)).length = 4 := by rw [List.length_take, List.length_drop]; omega
    have hstr := hsl.str
    rw [hlen] at hstr
    have he4 : (4 * i + 4 - 4 * i) = 4 := by omega
    rw [he4] at hstr hlen
    refine ⟨⟨by omega, by omega, by omega, by omega⟩, _, by rw [show ((4 : Int) * i + 4).toNat - ((4 : Int) * i).toNat = 4 by omega]; exact hstr, ?_⟩
    have := cGetBig (h := h) (K := ?K) (l := (blk.drop (4 * i)).take 4) (by omega) ?hk
    · rw [hlen] at this; exact this
    refine ⟨_, rfl, ⟨by omega, by omega⟩, by omega, ⟨i + 1, ?_, by omega, rfl⟩, by omega⟩
    rw [wrap32, iv_set, Nat.mod_eq_of_lt (be4_lt (by omega))]
    have hset : w16 blk (i + 1) = (w16 blk i).set i (be ((blk.drop (4 * i)).take 4)) := fold_succ _ _ _
    rw [hset, show (i : Int).toNat * 1 = i by simp]; rfl
  · have e : i = 16 := by simp at e; omega
    subst e
    have w0 : w16 blk 16 = wAll blk 0 := by rw [wAll, List.range_zero, List.foldl_nil]
    rw [w0]
    refine LoopP.ind (fun (z : Int × List Int × Unit) h' => ∃ i : Nat, z = (((16 + i : Nat) : Int), iv (wAll blk i), ()) ∧ i ≤ 48 ∧ h' = h) (fun z _ => (64 - z.1).toNat) ?_ ⟨0, rfl, Nat.zero_le _, rfl⟩
    rintro _ h ⟨i, rfl, hi, rfl⟩
    dsimp only
    refine ⟨fun e => ?_, fun e => ?_⟩
    · have e : i < 48 := by simp at e; omega
      obtain ⟨hwl, hwb⟩ := wAll_ok blk i
      rw [wrap64 (n := ((16 + i : Nat) : Int) - 15) (by omega) (by omega), wrap64 (n := ((16 + i : Nat) : Int) - 2) (by omega) (by omega), wrap64 (n := ((16 + i : Nat) : Int) - 16) (by omega) (by omega), wrap64 (n := ((16 + i : Nat) : Int) - 7) (by omega) (by omega), wrap64 (n := ((16 + i : Nat) : Int) + 1) (by omega) (by omega)]
      rw [show (((16 + i : Nat) : Int) - 15).toNat * 1 = 1 + i by omega, show (((16 + i : Nat) : Int) - 2).toNat * 1 = 14 + i by omega, show (((16 + i : Nat) : Int) - 16).toNat * 1 = i by omega, show (((16 + i : Nat) : Int) - 7).toNat * 1 = 9 + i by omega, show (((16 + i : Nat) : Int)).toNat * 1 = 16 + i by omega]
      simp only [iv_get]
      have hst : wAll blk (i + 1) = wStep (wAll blk i) i := fold_succ _ _ _
      generalize wAll blk i = w at hwl hwb hst
      have x1 := hwb.get (1 + i)
      have x14 := hwb.get (14 + i)
      refine ⟨⟨by omega, by omega⟩, by omega, ⟨by omega, by omega⟩, by omega, cRot (n := 7) x1 (by decide) (by decide) ⟨_, rfl, cRot (n := 18) x1 (by decide) (by decide) ⟨_, rfl, cRot (n := 17) x14 (by decide) (by decide) ⟨_, rfl, cRot (n := 19) x14 (by decide) (by decide) ⟨_, rfl, ?_⟩⟩⟩⟩⟩
      refine ⟨⟨by omega, by omega⟩, by omega, ⟨by omega, by omega⟩, by omega, ⟨by omega, by omega⟩, by omega, ⟨i + 1, ?_, by omega, rfl⟩, by omega⟩
      have y1 := shr32 (a := w.getD (1 + i) 0) (n := 3) (by decide)
      have y2 := shr32 (a := w.getD (14 + i) 0) (n := 10) (by decide)
      rw [show ((3 : Nat) : Int) = (3 : Int) from rfl] at y1
      rw [show ((10 : Nat) : Int) = (10 : Int) from rfl] at y2
      rw [y1, y2, xor32 (rotr_lt x1) (rotr_lt x1), xor32 (xor_lt (rotr_lt x1) (rotr_lt x1)) (div_lt x1), xor32 (rotr_lt x14) (rotr_lt x14), xor32 (xor_lt (rotr_lt x14) (rotr_lt x14)) (div_lt x14)]
      rw [hst]
      have c1 : ∀ a b : Nat, (a : Int) + (b : Int) = ((a + b : Nat) : Int) := fun a b => by omega
      rw [c1, wrap32, c1, wrap32, c1, wrap32, iv_set]
      rfl
    · have e : i = 48 := by simp at e; omega
      subst e
      have v0 : iv bN = iv (rnds kL (wAll blk 48) bN 0) := by rw [rnds, List.range_zero, List.foldl_nil]
      rw [v0]
      obtain ⟨hwl, hwb⟩ := wAll_ok blk 48
      refine LoopP.ind (fun (z : Int × List Int × Unit) h' => ∃ i : Nat, z = ((i : Int), iv (rnds kL (wAll blk 48) bN i), ()) ∧ i ≤ 64 ∧ h' = h) (fun z _ => (64 - z.1).toNat) ?_ ⟨0, rfl, Nat.zero_le _, rfl⟩
      rintro _ h ⟨i, rfl, hi, rfl⟩
      dsimp only
      refine ⟨fun e => ?_, fun e => ?_⟩
      · have e : i < 64 := by simp at e; omega
        obtain ⟨hvl, hvb⟩ := rnds_ok (k := kL) (w := wAll blk 48) hb i
        have hki : h.rds b (o + (i : Int).toNat * 1) 1 = some [.int .u32 ((kL.getD i 0 : Nat) : Int)] := by
          have := rds_to hkr i 1 (by omega)
          have hik : i < (u32s kL).length := by simp [u32s, iv_len, hkl.1]; exact e
          have hik2 : i < kL.length := by rw [hkl.1]; exact e
          have hv : (u32s kL)[i] = .int .u32 ((kL.getD i 0 : Nat) : Int) := by
            rw [List.getD_eq_getElem?_getD, List.getElem?_eq_getElem hik2, Option.getD_some]
            simp only [u32s, iv, List.getElem_map]; rfl
          rw [show o + (i : Int).toNat * 1 = o + i by omega, this, take1 hik, hv]
        have hst : rnds kL (wAll blk 48) bN (i + 1) = rnd kL (wAll blk 48) (rnds kL (wAll blk 48) bN i) i := fold_succ _ _ _
        rw [show (i : Int).toNat * 1 = i by omega] at hki ⊢
        simp only [getD_take1, getD_drop, iv_get]
        generalize rnds kL (wAll blk 48) bN i = v at hst hvl hvb
        rw [wrap64 (n := (i : Int) + 1) (by omega) (by omega)]
        have g0 := hvb.get 0
        have g1 := hvb.get 1
        have g2 := hvb.get 2
        have g4 := hvb.get 4
        have g5 := hvb.get 5
        have g6 := hvb.get 6
        refine ⟨b, o, rfl, ⟨by omega, by omega⟩, _, hki, ⟨by omega, by omega⟩, by omega, cRot (n := 6) g4 (by decide) (by decide) ⟨_, rfl, hki, cRot (n := 11) g4 (by decide) (by decide) ⟨_, rfl, hki, cRot (n := 25) g4 (by decide) (by decide) ⟨_, rfl, hki, ?_⟩⟩⟩⟩
        refine cRot (n := 2) g0 (by decide) (by decide) ⟨_, rfl, cRot (n := 13) g0 (by decide) (by decide) ⟨_, rfl, cRot (n := 22) g0 (by decide) (by decide) ⟨_, rfl, ?_⟩⟩⟩
        refine ⟨⟨i + 1, ?_, by omega, rfl⟩, by omega⟩
        have hmax : (IntKind.max .u32 : Int) = ((4294967295 : Nat) : Int) := by decide
        rw [hmax, xor32 (by decide) g4, and32 (xor_lt (by decide) g4) g6, and32 g4 g5, xor32 (and_lt g5) (and_lt g6), xor32 (rotr_lt g4) (rotr_lt g4), xor32 (xor_lt (rotr_lt g4) (rotr_lt g4)) (rotr_lt g4)]
        rw [xor32 (rotr_lt g0) (rotr_lt g0), xor32 (xor_lt (rotr_lt g0) (rotr_lt g0)) (rotr_lt g0), and32 g0 g1, and32 g0 g2, and32 g1 g2, xor32 (and_lt g1) (and_lt g2), xor32 (xor_lt (and_lt g1) (and_lt g2)) (and_lt g2)]
        have c1 : ∀ a b : Nat, (a : Int) + (b : Int) = ((a + b : Nat) : Int) := fun a b => by omega
        simp only [c1, wrap32]
        rw [hst]
        rfl
      · have e : i = 64 := by simp at e; omega
        subst e
        have a0 : iv hN = iv (addH hN (rnds kL (wAll blk 48) bN 64) 0) := by rw [addH, List.range_zero, List.foldl_nil]
        rw [a0]
        refine LoopP.ind (fun (z : Int × List Int × Unit) h' => ∃ i : Nat, z = ((i : Int), iv (addH hN (rnds kL (wAll blk 48) bN 64) i), ()) ∧ i ≤ 8 ∧ h' = h) (fun z _ => (8 - z.1).toNat) ?_ ⟨0, rfl, Nat.zero_le _, rfl⟩
        rintro _ h ⟨i, rfl, hi, rfl⟩
        dsimp only
        refine ⟨fun e => ?_, fun e => ?_⟩
        · have e : i < 8 := by simp at e; omega
          rw [show (i : Int).toNat * 1 = i by omega, wrap64 (n := (i : Int) + 1) (by omega) (by omega)]
          simp only [iv_get]
          have c1 : ∀ a b : Nat, (a : Int) + (b : Int) = ((a + b : Nat) : Int) := fun a b => by omega
          rw [c1, wrap32, iv_set]
          refine ⟨⟨by omega, by omega⟩, by omega, ⟨by omega, by omega⟩, by omega, ⟨by omega, by omega⟩, by omega, ⟨i + 1, ?_, by omega, by first | rfl | trivial⟩, by omega⟩
          have hst : addH hN (rnds kL (wAll blk 48) bN 64) (i + 1) = _ := fold_succ _ _ _
          rw [hst]; rfl
        · have e : i = 8 := by simp at e; omega
          subst e
          exact hk
end TL

namespace TL
open Go Go.Proofs
variable {B : List Nat} {h : PH} {K : Value → PH → Prop}

theorem beB_get {x : Nat} : ∀ {m t : Nat} (ht : t < (beB m x).length), (beB m x)[t] = UInt8.ofNat (x / 2 ^ (8 * (m - 1 - t)))
  | 0, _, ht => absurd ht (Nat.not_lt_zero _)
  | m + 1, 0, _ => by simp [beB]
  | m + 1, t + 1, ht => by
    simp only [beB, List.getElem_cons_succ]
    rw [beB_get]
    congr 3; omega
theorem cPutBig {a : Option Addr} {n c : Nat} {l : List UInt8} {x m : Nat} (hb : Buf EncB 5 B h a n c l) (hm : m ≤ 8) (hl : l.length ≤ 1000000) (hk : ∀ a' c' B' h', Buf EncB 5 B' h' a' (n + m) c' (l ++ beB m x) → Chg B B' h h' → K (.slice a' (n + m) c') h') :
    CallH Tryz.prog id_sha_putBig [.slice a n c, .int .u64 (x : Int), .int .i64 (m : Int)] K h := by
  have hn := hb.1
  refine F_sha_putBig_ok ?_
  unfold F_sha_putBig
  rw [wrap64 (by omega) (by omega)]
  refine LoopP.indE (fun k (z : (Option Addr × Nat × Nat) × Int × Unit) h' => ∃ (t : Nat) (a' : Option Addr) (c' : Nat) (B' : List Nat), z = ((a', n + t, c'), (m : Int) - 1 - t, ()) ∧ t ≤ m ∧ k = m - t ∧ Buf EncB 5 B' h' a' (n + t) c' (l ++ (beB m x).take t) ∧ Chg B B' h h') ?_ (n := m)
    ⟨0, a, c, B, by simp, Nat.zero_le _, rfl, by simpa using hb, Chg.refl _ _⟩
  rintro k _ h1 ⟨t, a1, c1, B1, rfl, ht, rfl, hb1, hc1⟩
  dsimp only
  refine ⟨fun e => ?_, fun e => ?_⟩
  · have e : t < m := by simp at e; omega
    have htl : t < (beB m x).length := by rw [beB_len]; exact e
    rw [wrap64 (n := (8 : Int) * ((m : Int) - 1 - t)) (by omega) (by omega), wrap64 (n := (m : Int) - 1 - t - 1) (by omega) (by omega)]
    have hsh : shrV .u64 (x : Int) ((8 : Int) * ((m : Int) - 1 - t)) = ((x / 2 ^ (8 * (m - 1 - t)) : Nat) : Int) := by
      have := shr_nat (n := x) (s := 8 * (m - 1 - t)) (by omega)
      rw [show ((8 * (m - 1 - t) : Nat) : Int) = (8 : Int) * ((m : Int) - 1 - t) by omega] at this
      exact this
    have hw : IntKind.wrap .u8 ((x / 2 ^ (8 * (m - 1 - t)) : Nat) : Int) = (((beB m x)[t].toNat : Nat) : Int) := by
      rw [beB_get]
      simp [IntKind.wrap, IntKind.bits, IntKind.signed]
    rw [hsh, hw]
    refine ⟨by omega, hb1.append (new := [(beB m x)[t]]) rfl rfl rfl (by omega) fun a2 c2 B2 h2 hb2 hc2 _ => ?_⟩
    refine ⟨m - (t + 1), by omega, t + 1, a2, c2, B2, ?_, by omega, rfl, ?_, hc1.trans hc2⟩
    · rw [show (m : Int) - 1 - ((t + 1 : Nat) : Int) = (m : Int) - 1 - t - 1 by omega]; rfl
    · rw [List.append_assoc, ← List.take_succ_eq_append_getElem htl] at hb2
      exact hb2
  · have e : t = m := by simp at e; omega
    subst e
    rw [List.take_of_length_le (by rw [beB_len]; exact Nat.le_refl _)] at hb1
    exact hk a1 c1 B1 h1 hb1 hc1

/-! ### What is written -/
def shaC (hN : List Nat) (a : Option Addr) (n c : Nat) (m : Int) : List Value := u32s hN ++ (u32s kN ++ [.slice a n c, .int .i64 m, .bool true])
def isU8 : Value → Bool
  | .int .u8 _ => true
  | _ => false
theorem encB_u8 (y : UInt8) : ∃ v ∈ EncB.enc y, isU8 v = true := ⟨_, List.mem_singleton.2 rfl, rfl⟩
theorem sha_noU8 {hN : List Nat} {a : Option Addr} {n c : Nat} {m : Int} (v : Value) (hv : v ∈ shaC hN a n c m) : isU8 v = false := by
  simp only [shaC, u32s, List.mem_append, List.mem_map, List.mem_cons, List.not_mem_nil, or_false] at hv
  rcases hv with ⟨_, _, rfl⟩ | ⟨_, _, rfl⟩ | rfl | rfl | rfl <;> rfl
theorem u32s_len (l : List Nat) : (u32s l).length = l.length := by simp [u32s, iv_len]
section
variable {hN : List Nat} {a : Option Addr} {n c bn : Nat} {m : Int} (hb : h bn = some (.cells (shaC hN a n c m).toArray T_sha_Sha (0, 0))) (hl : hN.length = 8)
include hb hl
theorem sha_h : h.rds bn 0 8 = some (u32s hN) := rds_mid (pre := []) hb rfl (by rw [u32s_len, hl])
theorem sha_k : h.rds bn (0 + 8) 64 = some (u32s kN) := rds_mid (pre := u32s hN) hb (by rw [u32s_len, hl]) (by rw [u32s_len]; rfl)
theorem sha_rest : h.rds bn (0 + 72) 1 = some [.slice a n c] := rds_mid' (cs := shaC hN a n c m) (pre := u32s hN ++ u32s kN) (mid := [.slice a n c]) (post := [.int .i64 m, .bool true]) hb (by simp [shaC]) (by rw [List.length_append, u32s_len, u32s_len, hl]; rfl) rfl
theorem sha_n : h.rds bn (0 + 73) 1 = some [.int .i64 m] := rds_mid' (cs := shaC hN a n c m) (pre := u32s hN ++ u32s kN ++ [.slice a n c]) (mid := [.int .i64 m]) (post := [.bool true]) hb (by simp [shaC]) (by rw [List.length_append, List.length_append, u32s_len, u32s_len, hl]; rfl) rfl
theorem sha_made : h.rds bn (0 + 74) 1 = some [.bool true] := rds_mid' (cs := shaC hN a n c m) (pre := u32s hN ++ u32s kN ++ [.slice a n c, .int .i64 m]) (mid := [.bool true]) (post := []) hb (by simp [shaC]) (by rw [List.length_append, List.length_append, u32s_len, u32s_len, hl]; rfl) rfl
theorem sha_set_h {hN' : List Nat} (hl' : hN'.length = 8) {KK : PH → Prop} (hk : ∀ h', h' bn = some (.cells (shaC hN' a n c m).toArray T_sha_Sha (0, 0)) → Chg [bn] [bn] h h' → KK h') : stH h bn 0 (u32s hN') KK :=
  st_mid (pre := []) hb rfl (by rw [u32s_len, u32s_len, hl, hl']) hk
theorem sha_set_rest {a' : Option Addr} {n' c' : Nat} {KK : PH → Prop} (hk : ∀ h', h' bn = some (.cells (shaC hN a' n' c' m).toArray T_sha_Sha (0, 0)) → Chg [bn] [bn] h h' → KK h') : stH h bn (0 + 72) [.slice a' n' c'] KK :=
  st_mid' (cs := shaC hN a n c m) (cs' := shaC hN a' n' c' m) (pre := u32s hN ++ u32s kN) (mid := [.slice a n c]) (post := [.int .i64 m, .bool true]) hb (by simp [shaC]) (by simp [shaC]) (by rw [List.length_append, u32s_len, u32s_len, hl]; rfl) rfl hk
theorem sha_set_n {m' : Int} {KK : PH → Prop} (hk : ∀ h', h' bn = some (.cells (shaC hN a n c m').toArray T_sha_Sha (0, 0)) → Chg [bn] [bn] h h' → KK h') : stH h bn (0 + 73) [.int .i64 m'] KK :=
  st_mid' (cs := shaC hN a n c m) (cs' := shaC hN a n c m') (pre := u32s hN ++ u32s kN ++ [.slice a n c]) (mid := [.int .i64 m]) (post := [.bool true]) hb (by simp [shaC]) (by simp [shaC]) (by rw [List.length_append, List.length_append, u32s_len, u32s_len, hl]; rfl) rfl hk
theorem cShaNone (hk : K (.bool false) h) : CallH Tryz.prog id_sha_Sha_none [.pointer (some ⟨bn, 0, none⟩)] K h :=
  F_sha_Sha_none_ok ⟨bn, 0, fun _ => rfl, true, fun _ => sha_made hb hl, hk⟩
end
theorem cShaNew (hk : ∀ bn h', h bn = none → h' bn = some (.cells (shaC h0N none 0 0 0).toArray T_sha_Sha (0, 0)) → Chg [] [bn] h h' → K (.pointer (some ⟨bn, 0, none⟩)) h') : CallH Tryz.prog id_sha_New [] K h := by
  have hb : F_sha_begin (fun v h1 => ∃ t : List Int, t.length = 8 ∧ v = .agg ((t.map (Value.int .u32) ++ [])).toArray ∧ t = iv h0N ∧ h1 = h) h := ⟨iv h0N, rfl, rfl, rfl, rfl⟩
  have hn : ∀ h, F_sha_numbers (fun v h1 => ∃ t : List Int, t.length = 64 ∧ v = .agg ((t.map (Value.int .u32) ++ [])).toArray ∧ t = iv kN ∧ h1 = h) h := fun h => ⟨iv kN, rfl, rfl, rfl, rfl⟩
  refine F_sha_New_ok ((F_sha_begin_ok hb).mono ?_)
  rintro _ _ ⟨t, h1, rfl, rfl, rfl⟩
  refine ⟨_, h1, rfl, (F_sha_numbers_ok (hn _)).mono ?_⟩
  rintro _ _ ⟨t2, h2, rfl, rfl, rfl⟩
  exact ⟨_, h2, rfl, nwL (cs := shaC h0N none 0 0 0) fun bn h' e1 e2 c => hk bn h' e1 e2 c⟩
theorem cShaWrite {bn : Nat} {s : List UInt8} (hs : s.length ≤ 1000000) (hb : h bn = some (.cells (shaC h0N none 0 0 0).toArray T_sha_Sha (0, 0)))
    (hk : ∀ (a : Option Addr) (c : Nat) (B' : List Nat) h', h' bn = some (.cells (shaC (blks (s.length / 64) h0N s) a (s.length - 64 * (s.length / 64)) c (s.length : Int)).toArray T_sha_Sha (0, 0)) → SR EncB h' a (s.drop (64 * (s.length / 64))) → Chg [bn] (bn :: B') h h' → (∀ b ∈ B', h b = none) → K (.int .i64 (s.length : Int)) h') :
    CallH Tryz.prog id_sha_Sha_Write [.pointer (some ⟨bn, 0, none⟩), .string (mk s)] K h := by
  have hl0 : h0N.length = 8 := rfl
  refine F_sha_Sha_Write_ok (cShaNone hb hl0 ⟨_, rfl, nofun, fun _ => ⟨bn, 0, rfl, _, sha_n hb hl0, bn, 0, rfl, sha_set_n hb hl0 fun h1 hb1 c1 => ⟨bn, 0, rfl, _, _, _, sha_rest hb1 hl0, ?_⟩⟩⟩)
  have hsz : (mk s).size = s.length := size_mk s
  rw [hsz, wrap64 (by omega) (by omega), show (0 : Int) + (s.length : Int) = s.length by omega] at hb1
  rw [show ByteArray.size (mk s) = s.length from hsz, byteVs_mk]
  refine (Buf.nil EncB 5 h1 none).append (new := s) rfl rfl rfl (by omega) ?_
  intro a2 k2 B2 h2 b2 c2 _
  rw [List.nil_append, Nat.zero_add] at b2
  rw [Nat.zero_add]
  have hb2 := c2.keep hb1 (by simp)
  have hle2 := b2.le
  have hnb : bn ∉ B2 := fun hm => by
    have := (c2.2 bn hm).resolve_left (by simp)
    rw [hb1] at this; cases this
  have hB2 : ∀ b ∈ B2, h b = none := fun b hbm => by
    have h3 := (c2.2 b hbm).resolve_left (by simp)
    cases e : h b with
    | none => rfl
    | some o =>
      have hne : b ≠ bn := fun e2 => hnb (e2 ▸ hbm)
      rw [c1.keep e (by simpa using hne)] at h3; cases h3
  have c12 : Chg [bn] (bn :: B2) h h2 := c1.trans (c2.sub (by simp) fun b hb => by
    rcases List.mem_cons.1 hb with rfl | hb
    · exact .inr (by simp)
    · exact .inl hb)
  refine ⟨bn, 0, rfl, sha_set_rest hb2 hl0 fun h3 hb3 c3 => ?_⟩
  have b3 := b2.chg c3 (notIn1 hnb)
  have c13 : Chg [bn] (bn :: B2) h h3 := c12.trans (c3.sub (by simp) (by simp))
  refine LoopP.indE (fun k (_ : Unit) h' => ∃ (q : Nat) (a : Option Addr) (c : Nat), 64 * q ≤ s.length ∧ k = s.length - 64 * q ∧ h' bn = some (.cells (shaC (blks q h0N s) a (s.length - 64 * q) c (s.length : Int)).toArray T_sha_Sha (0, 0)) ∧ SR EncB h' a (s.drop (64 * q)) ∧ s.length - 64 * q ≤ c ∧ Chg [bn] (bn :: B2) h h' ∧ ∃ b0 o0, Buf EncB 5 B2 h' b0 s.length o0 s) ?_ (n := s.length)
    ⟨0, a2, k2, Nat.zero_le _, rfl, by simpa [blks] using hb3, by simpa using b3.sr, by simpa using hle2, c13, a2, k2, b3⟩
  rintro k _ h4 ⟨q, a, c, hq, rfl, hb4, hsr4, hc4, ch4, b0, o0, bf4⟩
  have hql := blks_ok q (l := s) h0_ok
  refine ⟨bn, 0, rfl, _, _, _, sha_rest hb4 hql.1, fun e => ?_, fun e => ?_⟩
  · have e : 64 ≤ s.length - 64 * q := by simp at e; omega
    refine ⟨bn, 0, rfl, iv (blks q h0N s), by rw [iv_len]; exact hql.1, ?_, bn, 0, rfl, iv (blks q h0N s), by rw [iv_len]; exact hql.1, ?_, bn, 0, rfl, bn, 0, rfl, _, _, _, sha_rest hb4 hql.1, ⟨by omega, by omega, by omega, by omega⟩, ?_⟩
    · rw [List.append_nil]; exact sha_h hb4 hql.1
    · rw [List.append_nil]; exact sha_h hb4 hql.1
    · have hdl : (s.drop (64 * q)).length = s.length - 64 * q := List.length_drop ..
      have hsl := hsr4.slice (lo := 0) (hi := 64) (mx := ((c : Nat) : Int)) (L := 0) rfl (by omega) (by omega)
      have hbl : (((s.drop (64 * q)).drop 0).take (64 - 0)) = (s.drop (64 * q)).take 64 := by simp
      rw [hbl] at hsl
      refine cTurn hql hql k_ok (sha_k hb4 hql.1) hsl (by rw [List.length_take]; omega) (by omega) ?_
      have htl := turn_ok (b := blks q h0N s) (k := kN) (blk := (s.drop (64 * q)).take 64) hql
      have hbs := blks_succ q h0N s
      rw [← hbs] at htl ⊢
      refine ⟨iv (blks (q + 1) h0N s), by rw [iv_len]; exact htl.1, rfl, bn, 0, rfl, ?_⟩
      rw [List.append_nil]
      refine sha_set_h hb4 hql.1 htl.1 fun h5 hb5 c5 => ⟨bn, 0, rfl, _, _, _, sha_rest hb5 htl.1, ⟨by omega, by omega, by omega, by omega⟩, bn, 0, rfl, sha_set_rest hb5 htl.1 fun h6 hb6 c6 => ?_⟩
      have bf6 := (bf4.chg c5 (notIn1 hnb)).chg c6 (notIn1 hnb)
      have c46 := c5.trans c6
      refine ⟨s.length - 64 * (q + 1), by omega, q + 1, slA a 1 64 ((c : Nat) : Int), (((c : Nat) : Int).toNat - (64 : Int).toNat), by omega, rfl, ?_, ?_, ?_, ch4.trans (c46.sub (by simp) (by simp)), b0, o0, bf6⟩
      · rw [show ((s.length - 64 * q : Nat) : Int).toNat - (64 : Int).toNat = s.length - 64 * (q + 1) by omega] at hb6
        exact hb6
      · have hs6 : SR EncB h6 a (s.drop (64 * q)) := hsr4.off isU8 encB_u8 (fun b hb cs T fr e v hv => by
          simp at hb; subst hb
          rw [hb4] at e; cases e
          exact sha_noU8 _ (by simpa using hv)) c46
        have h7 := hs6.slice (lo := 64) (hi := s.length - 64 * q) (mx := ((c : Nat) : Int)) (L := 64) rfl (by omega) (by omega)
        rw [List.drop_drop, List.take_of_length_le (by rw [List.length_drop]; omega)] at h7
        rw [show 64 * q + 64 = 64 * (q + 1) by omega] at h7
        exact h7
      · omega
  · have e : s.length - 64 * q < 64 := by simp at e; omega
    have hqe : q = s.length / 64 := by omega
    subst hqe
    have := hk a c B2 h4 hb4 hsr4 ch4 hB2
    exact this
end TL

namespace TL
open Go Go.Proofs
variable {B : List Nat} {h : PH} {K : Value → PH → Prop}

theorem outN_len : ∀ (l : List Nat), (outN l).length = 4 * l.length
  | [] => rfl
  | x :: r => by
    have := outN_len r
    unfold outN at this ⊢
    simp only [List.flatMap_cons, List.length_append, beB_len, List.length_cons, this]; omega
theorem outN_app (l m : List Nat) : outN (l ++ m) = outN l ++ outN m := by simp [outN]
/-- the blocks of a text are the whole ones, and those of what is left and the padding -/
theorem sha_split (s : List UInt8) : shaN s = outN (blks ((s.drop (64 * (s.length / 64)) ++ padB s.length).length / 64) (blks (s.length / 64) h0N s) (s.drop (64 * (s.length / 64)) ++ padB s.length)) := by
  unfold shaN
  have h1 : (s.length + (padB s.length).length) / 64 = s.length / 64 + (s.drop (64 * (s.length / 64)) ++ padB s.length).length / 64 := by
    rw [List.length_append, List.length_drop]
    omega
  rw [h1, blks_add, blks_app _ _ _ _ (by omega), List.drop_append_of_le_length (by omega)]
theorem cShaSum {bn : Nat} {hN : List Nat} {a : Option Addr} {c m : Nat} {rest : List UInt8} (hh : hN.length = 8 ∧ Bd hN) (hm : m % 64 = rest.length) (hm2 : m ≤ 1000000) (hb : h bn = some (.cells (shaC hN a rest.length c (m : Int)).toArray T_sha_Sha (0, 0))) (hr : SR EncB h a rest)
    (hk : ∀ h', h.Sub h' → K (.agg (((bi (outN (blks ((rest ++ padB m).length / 64) hN (rest ++ padB m)))).map (Value.int .u8) ++ [])).toArray) h') : CallH Tryz.prog id_sha_Sha_Sum [.pointer (some ⟨bn, 0, none⟩)] K h := by
  have hrl : rest.length < 64 := by omega
  refine F_sha_Sha_Sum_ok (nwL (cs := EncB.row (List.replicate 32 0)) fun bo h1 hbo hbo1 c1 => ?_)
  have hb1 := c1.keep hb (by simp)
  have hne : bo ≠ bn := fun e => by rw [e, hb] at hbo; cases hbo
  refine cShaNone hb1 hh.1 ⟨_, rfl, nofun, fun _ => nwL (cs := []) fun be1 h2 hbe hbe2 c2 => ⟨bn, 0, rfl, _, _, _, sha_rest (c2.keep hb1 (by simp)) hh.1, EncB.row rest, ?_, ?_⟩⟩
  · have := (hr.sub (c1.sub0.tr c2.sub0)).src
    exact this
  refine (Buf.nil EncB 5 h2 (some ⟨be1, 0, none⟩)).append (new := rest) rfl rfl rfl (by omega) ?_
  intro a3 k3 B3 h3 b3 c3 _
  rw [List.nil_append, Nat.zero_add] at b3
  rw [Nat.zero_add]
  refine b3.append (new := [128]) rfl rfl rfl (by omega) ?_
  intro a4 k4 B4 h4 b4 c4 _
  have c24 : Chg [] B4 h2 h4 := c3.trans c4
  have hz : zrs m < 64 := Nat.mod_lt _ (by decide)
  refine LoopP.indE (fun k (z : (Option Addr × Nat × Nat) × Unit) h' => ∃ (j : Nat) (a' : Option Addr) (c' : Nat) (B' : List Nat), z = ((a', rest.length + 1 + j, c'), ()) ∧ j ≤ zrs m ∧ k = zrs m - j ∧ Buf EncB 5 B' h' a' (rest.length + 1 + j) c' (rest ++ 128 :: List.replicate j 0) ∧ Chg [] B' h2 h') ?_ (n := zrs m)
    ⟨0, a4, k4, B4, rfl, Nat.zero_le _, rfl, b4, c24⟩
  rintro k _ h5 ⟨j, a5, k5, B5, rfl, hj, rfl, b5, c5⟩
  dsimp only
  have htm : ((rest.length + 1 + j : Nat) : Int).tmod 64 = (((rest.length + 1 + j) % 64 : Nat) : Int) := by
    rw [Int.tmod_eq_emod_of_nonneg (by omega)]; omega
  rw [htm]
  have hzj : (rest.length + 1 + j) % 64 = 56 ↔ j = zrs m := by unfold zrs at hj ⊢; omega
  refine ⟨fun e => ?_, fun e => ?_⟩
  · have e : ¬ j = zrs m := fun e2 => by rw [hzj.2 e2] at e; simp at e
    refine b5.append (new := [0]) rfl rfl rfl (by omega) fun a6 k6 B6 h6 b6 c6 _ => ?_
    refine ⟨zrs m - (j + 1), by omega, j + 1, a6, k6, B6, rfl, by omega, rfl, ?_, c5.trans c6⟩
    rw [List.replicate_succ']
    rw [show rest.length + 1 + (j + 1) = rest.length + 1 + j + 1 by omega]
    simpa using b6
  · have e : j = zrs m := by
      refine hzj.1 ?_
      have : (((rest.length + 1 + j) % 64 : Nat) : Int) = 56 := by simpa using e
      omega
    subst e
    have s25 := c5.sub0
    have hb5 := s25 _ _ (c2.keep hb1 (by simp))
    refine ⟨bn, 0, rfl, _, sha_n hb5 hh.1, ?_⟩
    have hw : IntKind.wrap .u64 (IntKind.wrap .u64 (m : Int) * 8) = ((m * 8 % 18446744073709551616 : Nat) : Int) := by
      rw [wrap_u64 (n := (m : Int)) (by omega) (by omega), wrap_u64 (by omega) (by omega)]
      rw [Nat.mod_eq_of_lt (by omega)]; omega
    rw [hw]
    refine cPutBig (m := 8) b5 (by decide) (by simp; omega) fun a6 k6 B6 h6 b6 c6 => ⟨_, _, _, rfl, ?_⟩
    have hP : rest ++ 128 :: List.replicate (zrs m) 0 ++ beB 8 (m * 8 % 18446744073709551616) = rest ++ padB m := by simp [padB]
    rw [hP] at b6
    have c26 : Chg [] B6 h2 h6 := c5.trans c6
    have hb6 := c26.sub0 _ _ (c2.keep hb1 (by simp))
    have hbo6 := c26.sub0 _ _ (c2.keep hbo1 (by simp))
    refine ⟨bn, 0, rfl, iv hN, by rw [iv_len]; exact hh.1, by rw [List.append_nil]; exact sha_h hb6 hh.1, ?_⟩
    have hn6 := b6.1
    have hle6 := b6.le
    have hPl : (rest ++ padB m).length % 64 = 0 := by
      have := pad_len m
      rw [List.length_append]; omega
    generalize rest ++ padB m = P at b6 hn6 hPl hk
    have r6 := b6.sr
    rw [hn6] at hle6 ⊢
    refine LoopP.indE (fun k (z : (Option Addr × Nat × Nat) × List Int × Unit) h' => ∃ (j : Nat) (a' : Option Addr) (c' : Nat), z = ((a', P.length - 64 * j, c'), iv (blks j hN P), ()) ∧ 64 * j ≤ P.length ∧ k = P.length - 64 * j ∧ SR EncB h' a' (P.drop (64 * j)) ∧ P.length - 64 * j ≤ c' ∧ h' = h6) ?_ (n := P.length)
      ⟨0, a6, k6, rfl, Nat.zero_le _, rfl, r6, hle6, rfl⟩
    rintro k _ h6 ⟨j, a7, k7, rfl, hj, rfl, r7, hle7, rfl⟩
    dsimp only
    have hql := blks_ok j (l := P) hh
    refine ⟨fun e => ?_, fun e => ?_⟩
    · have e : 0 < P.length - 64 * j := by simp at e; omega
      have e64 : 64 ≤ P.length - 64 * j := by omega
      have hdl : (P.drop (64 * j)).length = P.length - 64 * j := List.length_drop ..
      have hsl := r7.slice (lo := 0) (hi := 64) (mx := ((k7 : Nat) : Int)) (L := 0) rfl (by omega) (by omega)
      have hbl : (((P.drop (64 * j)).drop 0).take (64 - 0)) = (P.drop (64 * j)).take 64 := by simp
      rw [hbl] at hsl
      refine ⟨bn, 0, rfl, ⟨by omega, by omega, by omega, by omega⟩, cTurn hql hql k_ok (sha_k hb6 hh.1) hsl (by rw [List.length_take]; omega) (by omega) ?_⟩
      have htl := turn_ok (b := blks j hN P) (k := kN) (blk := (P.drop (64 * j)).take 64) hql
      have hbs := blks_succ j hN P
      rw [← hbs] at htl ⊢
      refine ⟨iv (blks (j + 1) hN P), by rw [iv_len]; exact htl.1, rfl, ⟨by omega, by omega, by omega, by omega⟩, P.length - 64 * (j + 1), by omega, j + 1, slA a7 1 64 ((k7 : Nat) : Int), (((k7 : Nat) : Int).toNat - (64 : Int).toNat), ?_, by omega, rfl, ?_, by omega, rfl⟩
      · rw [show ((P.length - 64 * j : Nat) : Int).toNat - (64 : Int).toNat = P.length - 64 * (j + 1) by omega]
      · have h7 := r7.slice (lo := 64) (hi := P.length - 64 * j) (mx := ((k7 : Nat) : Int)) (L := 64) rfl (by omega) (by omega)
        rw [List.drop_drop, List.take_of_length_le (by rw [List.length_drop]; omega)] at h7
        rw [show 64 * j + 64 = 64 * (j + 1) by omega] at h7
        exact h7
    · have e : P.length - 64 * j = 0 := by simp at e; omega
      have hje : j = P.length / 64 := by omega
      rw [hje]
      rw [hje] at hql
      generalize blks (P.length / 64) hN P = W at hql hk
      obtain ⟨hW8, hWb⟩ := hql
      refine LoopP.indE (fun k (z : Int × Unit) h' => ∃ i : Nat, z.1 = (i : Int) ∧ i ≤ 8 ∧ k = 8 - i ∧ h' bo = some (.cells (EncB.row (outN (W.take i)) ++ EncB.row (List.replicate (32 - 4 * i) 0)).toArray T_api_Hash (0, 0)) ∧ Chg [bo] [bo] h6 h') ?_ (n := 8)
        ⟨0, rfl, by decide, rfl, by simpa [outN, Enc.row_nil] using hbo6, Chg.refl _ _⟩
      rintro k ⟨_, u⟩ h8 ⟨i, rfl, hi, rfl, hb8, c8⟩
      dsimp only
      have hs68 : h.Sub h8 := fun b o hbb => by
        have hbne : b ≠ bo := fun e => by rw [e, hbo] at hbb; cases hbb
        exact c8.keep (c26.sub0 b o (c2.sub0 b o (c1.sub0 b o hbb))) (by simpa using hbne)
      refine ⟨fun e2 => ?_, fun e2 => ?_⟩
      · have e2 : i < 8 := by simp at e2; omega
        have hiW : i < W.length := by omega
        rw [wrap64 (n := (4 : Int) * i) (by omega) (by omega), wrap64 (n := (i : Int) + 1) (by omega) (by omega), iv_get, show (i : Int).toNat = i by omega]
        have hx := hWb.get i
        rw [wrap_u64 (by omega) (by omega)]
        refine ⟨⟨by omega, by omega, by omega⟩, ⟨by omega, by omega, by omega, by omega⟩, cPutBig (m := 4) (l := []) (Buf.nil EncB 5 h8 none) (by decide) (by simp) fun a9 k9 B9 h9 b9 c9 => ⟨_, _, _, rfl, ?_⟩⟩
        rw [List.nil_append] at b9
        have hmin : min (0 + 4) (((32 : Nat) : Int).toNat - ((4 : Int) * i).toNat) = 4 := by omega
        rw [hmin]
        refine ⟨EncB.row (beB 4 (W.getD i 0)), b9.sr.src, fun e3 => ?_, fun _ => ?_⟩
        · rw [EncB.row_len, beB_len] at e3; cases e3
        · have hb9 := c9.keep hb8 (by simp)
          have hsl : slA (some ⟨bo, 0, none⟩ : Option Addr) 1 ((4 : Int) * i) ((32 : Nat) : Int) = some ⟨bo, 4 * i, none⟩ := by
            unfold slA
            rw [if_neg (by omega), Option.map_some, addr_add]
            simp <;> omega
          have hrep : (List.replicate (32 - 4 * i) (0 : UInt8)) = List.replicate 4 0 ++ List.replicate (32 - 4 * (i + 1)) 0 := by
            rw [List.replicate_append_replicate]; congr 1; omega
          have htk : W.take (i + 1) = W.take i ++ [W.getD i 0] := by
            rw [List.take_succ_eq_append_getElem hiW, List.getD_eq_getElem?_getD, List.getElem?_eq_getElem hiW]; rfl
          refine ⟨bo, 4 * i, hsl, st_mid' (cs := EncB.row (outN (W.take i)) ++ EncB.row (List.replicate (32 - 4 * i) 0)) (cs' := EncB.row (outN (W.take (i + 1))) ++ EncB.row (List.replicate (32 - 4 * (i + 1)) 0)) (pre := EncB.row (outN (W.take i))) (mid := EncB.row (List.replicate 4 0)) (post := EncB.row (List.replicate (32 - 4 * (i + 1)) 0)) hb9 ?_ ?_ ?_ ?_ fun h10 hb10 c10 => ⟨8 - (i + 1), by omega, i + 1, rfl, by omega, rfl, hb10, ?_⟩⟩
          · rw [hrep, EncB.row_app]
          · rw [htk, outN_app, EncB.row_app, List.append_assoc]; simp [outN]
          · rw [EncB.row_len, outN_len, List.length_take]; show _ = _ * 1; omega
          · rw [EncB.row_len, EncB.row_len, beB_len, List.length_replicate]
          · exact (c8.trans ⟨fun b o _ e => c9.sub0 b o e, fun b hb => .inl hb⟩).trans c10
      · have e2 : i = 8 := by simp at e2; omega
        subst e2
        rw [List.take_of_length_le (by omega)] at hb8
        have hcs : EncB.row (outN W) ++ EncB.row (List.replicate (32 - 4 * 8) 0) = (bi (outN W)).map (Value.int .u8) := by
          rw [row_bi]; simp [EncB, Enc.row]
        rw [hcs] at hb8
        have hl32 : (bi (outN W)).length = 32 := by rw [bi_len, outN_len, hW8]
        have hrd : ∀ g : PH, g bo = some (.cells ((bi (outN W)).map (Value.int .u8)).toArray T_api_Hash (0, 0)) → g.rds bo 0 32 = some ((bi (outN W)).map (Value.int .u8) ++ []) := fun g hg => by
          rw [List.append_nil]
          exact rds_mid' (pre := []) (post := []) hg (by simp) rfl (by rw [List.length_map, hl32])
        refine ⟨bi (outN W), hl32, hrd h8 hb8, ?_⟩
        rw [List.append_nil]
        refine st_mid' (pre := []) (mid := (bi (outN W)).map (Value.int .u8)) (post := []) (cs' := (bi (outN W)).map (Value.int .u8)) hb8 (by simp) (by simp) rfl rfl fun h9 hb9 c9 => ⟨bi (outN W), hl32, hrd h9 hb9, ?_⟩
        refine hk h9 fun b o hbb => ?_
        have hbne : b ≠ bo := fun e => by rw [e, hbo] at hbb; cases hbb
        exact c9.keep (hs68 b o hbb) (by simpa using hbne)
/-- a text's hash -/
theorem cSha {s : List UInt8} (hs : s.length ≤ 1000000) (hk : ∀ h', h.Sub h' → K (.agg (((bi (shaN s)).map (Value.int .u8) ++ [])).toArray) h') : CallH Tryz.prog id_sha_Sum [.string (mk s)] K h := by
  refine F_sha_Sum_ok (cShaNew fun bn h1 hb0 hb1 c1 => ⟨_, rfl, cShaWrite hs hb1 fun a c B2 h2 hb2 r2 c2 hB2 => ⟨_, rfl, ?_⟩⟩)
  have hq := blks_ok (s.length / 64) (l := s) h0_ok
  have hdl : (s.drop (64 * (s.length / 64))).length = s.length - 64 * (s.length / 64) := List.length_drop ..
  rw [← hdl] at hb2
  refine cShaSum hq (by rw [hdl]; omega) hs hb2 r2 fun h3 s3 => ⟨bi (shaN s), ?_, ?_, ?_⟩
  · rw [bi_len, shaN, outN_len, (blks_ok _ h0_ok).1]
  · rw [sha_split]
  · refine hk h3 fun b o hbb => s3 b o ?_
    have hbne : b ≠ bn := fun e => by rw [e, hb0] at hbb; cases hbb
    exact c2.keep (c1.sub0 b o hbb) (by simpa using hbne)
theorem shaN_len (s : List UInt8) : (shaN s).length = 32 := by rw [shaN, outN_len, (blks_ok _ h0_ok).1]
end TL
