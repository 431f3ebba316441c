/-
  Texts as rows of bytes; numbers' lengths in bits. No condition.
-/
import Derived.Test.YtbhkdimcdimcbaaLibD
import Derived.Test.YtbhkdimcdimcbaaText
namespace TL
open Go

def mk (l : List UInt8) : ByteArray := ⟨l.toArray⟩
theorem bys_mk (l : List UInt8) : bys (mk l) = l := by simp [bys, mk]
theorem mk_bys (s : ByteArray) : mk (bys s) = s := by cases s; simp [mk, bys]
theorem ex_mk (s : ByteArray) : ∃ l, s = mk l := ⟨bys s, (mk_bys s).symm⟩
theorem size_mk (l : List UInt8) : (mk l).size = l.length := by simp [mk, ByteArray.size]
theorem mk_inj {l m : List UInt8} (h : mk l = mk m) : l = m := by
  have := congrArg bys h
  simpa [bys_mk] using this
theorem byteAt_mk (l : List UInt8) (i : Int) : byteAt (mk l) i = ((l.getD i.toNat 0).toNat : Int) := by unfold byteAt; rw [bys_mk]
theorem byteAt_lt (s : ByteArray) (i : Int) : 0 ≤ byteAt s i ∧ byteAt s i < 256 := by
  unfold byteAt
  have := ((bys s).getD i.toNat 0).toNat_lt
  omega
theorem mk_append (l m : List UInt8) : mk l ++ mk m = mk (l ++ m) := by
  apply ByteArray.ext
  show (mk l ++ mk m).data = _
  rw [ByteArray.data_append]; simp [mk]
theorem mk_nil : mk [] = ⟨#[]⟩ := rfl
theorem subS_mk (l : List UInt8) (lo hi : Int) : subS (mk l) lo hi = mk ((l.drop lo.toNat).take (hi.toNat - lo.toNat)) := by
  unfold subS
  apply ByteArray.ext
  rw [ByteArray.data_extract]
  simp [mk, List.take_drop]
theorem strEq_mk {l m : List UInt8} : strEq (mk l) (mk m) = true ↔ l = m := by
  rw [strEq_iff]
  exact ⟨mk_inj, fun e => by rw [e]⟩
theorem strEq_mk' (l m : List UInt8) : strEq (mk l) (mk m) = decide (l = m) := by
  by_cases h : l = m
  · simp [h, strEq_self]
  · simp [h]
    cases e : strEq (mk l) (mk m) with
    | false => rfl
    | true => exact absurd (strEq_mk.1 e) h
def EncB : Enc UInt8 where
  enc b := [.int .u8 (b.toNat : Int)]
  k := 1
  len _ := rfl
  one p v hv := by
    simp only [List.mem_cons, List.not_mem_nil, or_false] at hv
    rw [hv]; rfl
  pos := by decide
theorem row_map : ∀ (l : List UInt8), EncB.row l = l.map fun x => Value.int .u8 (x.toNat : Int)
  | [] => rfl
  | b :: r => by rw [EncB.row_cons, row_map r]; rfl
theorem byteVs_mk (l : List UInt8) : byteVs (mk l) = EncB.row l := by rw [row_map, byteVs, bys_mk]
/-- a row of bytes as a text -/
theorem SR.str {h : PH} {a : Option Addr} {l : List UInt8} (x : SR EncB h a l) : strH h a l.length (mk l) := by
  unfold strH
  rw [byteVs_mk]
  have := x.src
  simpa [EncB] using this

/-! ### Numbers' lengths in bits -/
def blen (n : Nat) : Nat := if n = 0 then 0 else Nat.log2 n + 1
theorem blen_le {n m : Nat} : blen n ≤ m ↔ n < 2 ^ m := by
  unfold blen
  split
  · rename_i h; subst h
    exact ⟨fun _ => Nat.pow_pos (by decide), fun _ => Nat.zero_le _⟩
  · rename_i h
    rw [← Nat.log2_lt h]; omega
theorem blen_shift {n s : Nat} (h : 2 ^ s ≤ n) : blen n = s + blen (n / 2 ^ s) := by
  have hp : 0 < 2 ^ s := Nat.pow_pos (by decide)
  have h1 : 0 < n / 2 ^ s := Nat.div_pos h hp
  apply Nat.le_antisymm
  · rw [blen_le]
    have := blen_le.1 (Nat.le_refl (blen (n / 2 ^ s)))
    rw [Nat.pow_add, Nat.mul_comm]
    exact (Nat.div_lt_iff_lt_mul hp).1 this
  · have h2 : blen (n / 2 ^ s) ≤ blen n - s := by
      rw [blen_le]
      rw [Nat.div_lt_iff_lt_mul hp, Nat.mul_comm, ← Nat.pow_add]
      refine Nat.lt_of_lt_of_le (blen_le.1 (Nat.le_refl (blen n))) (Nat.pow_le_pow_right (by decide) ?_)
      omega
    have h3 : ¬ blen n ≤ s := fun hle => by
      have := blen_le.1 hle; omega
    omega
theorem shr_nat {n s : Nat} (hs : s < 64) : shrV .u64 (n : Int) (s : Int) = ((n / 2 ^ s : Nat) : Int) := by
  unfold shrV
  rw [show min (s : Int).toNat (IntKind.bits .u64) = s by simp [IntKind.bits]; omega, Int.fdiv_eq_ediv_of_nonneg _ (Int.le_of_lt (by exact_mod_cast Nat.pow_pos (by decide)))]
  norm_cast
theorem wrap_u8 {n : Int} (h0 : 0 ≤ n) (h1 : n < 256) : IntKind.wrap .u8 n = n := by
  simp [IntKind.wrap, IntKind.bits, IntKind.signed]; omega
theorem wrap_u64 {n : Int} (h0 : 0 ≤ n) (h1 : n < 18446744073709551616) : IntKind.wrap .u64 n = n := by
  simp [IntKind.wrap, IntKind.bits, IntKind.signed]; omega
theorem wrap_u32 {n : Int} (h0 : 0 ≤ n) (h1 : n < 4294967296) : IntKind.wrap .u32 n = n := by
  simp [IntKind.wrap, IntKind.bits, IntKind.signed]; omega

end TL

namespace TL
open Go

/-! ### A number's bytes -/
def numF : Nat → Nat → List UInt8
  | 0, n => [UInt8.ofNat n]
  | k + 1, n => if n < 128 then [UInt8.ofNat n] else UInt8.ofNat (128 + n % 128) :: numF k (n / 128)
def numL (n : Nat) : List UInt8 := numF 9 n
def valB : List UInt8 → Nat
  | [] => 0
  | b :: r => b.toNat % 128 + 128 * valB r
theorem u8 {n : Nat} (h : n < 256) : (UInt8.ofNat n).toNat = n := by simp; omega
/-- a row that a number may be -/
def Chain : List UInt8 → Prop
  | [] => False
  | [b] => b.toNat < 128
  | b :: r => 128 ≤ b.toNat ∧ Chain r
theorem numF_chain : ∀ {k n : Nat}, n < 128 ^ (k + 1) → Chain (numF k n)
  | 0, n, h => by simp [numF, Chain]; omega
  | k + 1, n, h => by
    unfold numF
    split
    · rename_i h1; show (UInt8.ofNat n).toNat < 128; rw [u8 (by omega)]; exact h1
    · rename_i h1
      have ih := numF_chain (k := k) (n := n / 128) (by rw [Nat.div_lt_iff_lt_mul (by decide)]; exact h)
      cases e : numF k (n / 128) with
      | nil => rw [e] at ih; exact ih.elim
      | cons c r =>
        rw [e] at ih
        exact ⟨by rw [u8 (by omega)]; omega, ih⟩
theorem numF_val : ∀ {k n : Nat}, n < 128 ^ (k + 1) → valB (numF k n) = n
  | 0, n, h => by
    have : n < 128 := by simpa using h
    simp only [numF, valB]; rw [u8 (by omega)]; omega
  | k + 1, n, h => by
    unfold numF
    split
    · rename_i h1
      simp only [valB]; rw [u8 (by omega)]; omega
    · rename_i h1
      have ih := numF_val (k := k) (n := n / 128) (by rw [Nat.div_lt_iff_lt_mul (by decide)]; exact h)
      simp only [valB]
      rw [u8 (by omega), ih]; omega
theorem chain_tail {b c : UInt8} {r : List UInt8} (h : Chain (b :: c :: r)) : 128 ≤ b.toNat ∧ Chain (c :: r) := h
/-- two chains of one length and one value are the same -/
theorem chain_eq : ∀ {l m : List UInt8}, Chain l → Chain m → l.length = m.length → valB l = valB m → l = m
  | [], _, h, _, _, _ => h.elim
  | _, [], _, h, _, _ => h.elim
  | [b], [c], h1, h2, _, hv => by
    have h1 : b.toNat < 128 := h1
    have h2 : c.toNat < 128 := h2
    simp only [valB] at hv
    rw [UInt8.toNat_inj.1 (show b.toNat = c.toNat by omega)]
  | [_], _ :: _ :: _, _, _, hl, _ => by simp at hl
  | _ :: _ :: _, [_], _, _, hl, _ => by simp at hl
  | b :: b' :: r, c :: c' :: s, h1, h2, hl, hv => by
    obtain ⟨h1, h1'⟩ := chain_tail h1
    obtain ⟨h2, h2'⟩ := chain_tail h2
    have hb := b.toNat_lt
    have hc := c.toNat_lt
    have e1 : valB (b :: b' :: r) = b.toNat % 128 + 128 * valB (b' :: r) := rfl
    have e2 : valB (c :: c' :: s) = c.toNat % 128 + 128 * valB (c' :: s) := rfl
    rw [e1, e2] at hv
    have : b.toNat = c.toNat := by omega
    rw [UInt8.toNat_inj.1 this, chain_eq h1' h2' (by simpa using hl) (by omega)]
theorem valB_lt : ∀ (l : List UInt8), valB l < 128 ^ l.length
  | [] => by simp [valB]
  | b :: r => by
    have := valB_lt r
    simp only [valB, List.length_cons, Nat.pow_succ]
    omega
theorem numF_pos (k n : Nat) : 0 < (numF k n).length := by
  cases k with
  | zero => simp [numF]
  | succ k => unfold numF; split <;> simp
theorem numF_len : ∀ {k n : Nat}, n < 128 ^ (k + 1) → ∀ {m : Nat}, 0 < m → ((numF k n).length ≤ m ↔ n < 128 ^ m)
  | 0, n, h, m, hm => by
    simp only [numF, List.length_singleton]
    refine ⟨fun _ => Nat.lt_of_lt_of_le h (Nat.pow_le_pow_right (by decide) hm), fun _ => hm⟩
  | k + 1, n, h, m, hm => by
    unfold numF
    split
    · rename_i h1
      refine ⟨fun _ => Nat.lt_of_lt_of_le h1 ?_, fun _ => hm⟩
      calc 128 = 128 ^ 1 := rfl
        _ ≤ 128 ^ m := Nat.pow_le_pow_right (by decide) hm
    · rename_i h1
      cases m with
      | zero => omega
      | succ m =>
        rw [List.length_cons, Nat.succ_le_succ_iff]
        cases m with
        | zero =>
          have := numF_pos k (n / 128)
          refine ⟨fun h => by omega, fun h => ?_⟩
          have h : n < 128 := h
          omega
        | succ m =>
          rw [numF_len (by rw [Nat.div_lt_iff_lt_mul (by decide)]; exact h) (Nat.succ_pos _), Nat.div_lt_iff_lt_mul (by decide)]
          rfl
theorem lt64 {n : Nat} (h : n < 18446744073709551616) : n < 128 ^ (9 + 1) := Nat.lt_trans h (by decide)
theorem numL_len {n m : Nat} (h : n < 18446744073709551616) (hm : 0 < m) : (numL n).length ≤ m ↔ n < 128 ^ m := numF_len (lt64 h) hm
theorem numL_pos (n : Nat) : 0 < (numL n).length := numF_pos 9 n
theorem numL_le {n : Nat} (h : n < 18446744073709551616) : (numL n).length ≤ 10 := (numL_len h (by decide)).2 (lt64 h)
theorem numL_chain {n : Nat} (h : n < 18446744073709551616) : Chain (numL n) := numF_chain (lt64 h)
theorem numL_val {n : Nat} (h : n < 18446744073709551616) : valB (numL n) = n := numF_val (lt64 h)
theorem numL_inj {n m : Nat} (hn : n < 18446744073709551616) (hm : m < 18446744073709551616) (h : numL n = numL m) : n = m := by
  rw [← numL_val hn, h, numL_val hm]
/-- the fuel does not matter -/
theorem numF_fuel : ∀ {k j n : Nat}, n < 128 ^ (k + 1) → n < 128 ^ (j + 1) → numF k n = numF j n
  | 0, 0, _, _, _ => rfl
  | 0, j + 1, n, h, _ => by
    have : n < 128 := by simpa using h
    simp [numF, this]
  | k + 1, 0, n, _, h => by
    have : n < 128 := by simpa using h
    simp [numF, this]
  | k + 1, j + 1, n, h1, h2 => by
    simp only [numF]
    split
    · rfl
    · rw [numF_fuel (by rw [Nat.div_lt_iff_lt_mul (by decide)]; exact h1) (by rw [Nat.div_lt_iff_lt_mul (by decide)]; exact h2)]
theorem numL_small {n : Nat} (h : n < 128) : numL n = [UInt8.ofNat n] := by simp [numL, numF, h]
theorem numL_step {n : Nat} (h : n < 18446744073709551616) (h1 : 128 ≤ n) : numL n = UInt8.ofNat (128 + n % 128) :: numL (n / 128) := by
  have e : numL n = UInt8.ofNat (128 + n % 128) :: numF 8 (n / 128) := by unfold numL; rw [numF, if_neg (by omega)]
  rw [e]
  unfold numL
  rw [numF_fuel (k := 8) (j := 9)]
  · have : (128 : Nat) ^ (8 + 1) = 9223372036854775808 := by decide
    omega
  · have : (128 : Nat) ^ (9 + 1) = 1180591620717411303424 := by decide
    omega

/-! ### A number's length, as the program has it -/
theorem pow128 (m : Nat) : 128 ^ m = 2 ^ (7 * m) := by rw [Nat.pow_mul]
def sizeN (n : Nat) : Nat := max 1 ((blen n + 6) / 7)
theorem sizeN_len {n : Nat} (h : n < 18446744073709551616) : sizeN n = (numL n).length := by
  have h1 : ∀ m, 0 < m → (sizeN n ≤ m ↔ (numL n).length ≤ m) := fun m hm => by
    rw [numL_len h hm, pow128, ← blen_le]
    unfold sizeN; omega
  have hp := numL_pos n
  have hs : 0 < sizeN n := by unfold sizeN; omega
  exact Nat.le_antisymm ((h1 _ hp).2 (Nat.le_refl _)) ((h1 _ hs).1 (Nat.le_refl _))

/-! ### Integers -/
def zig (n : Int) : Nat := if n < 0 then (2 * (-n - 1) + 1).toNat else (2 * n).toNat
def zag (n : Nat) : Int := if n % 2 = 1 then -1 - ((n / 2 : Nat) : Int) else ((n / 2 : Nat) : Int)
theorem zag_zig (n : Int) : zag (zig n) = n := by
  unfold zig zag
  split <;> split <;> omega
theorem zig_zag (n : Nat) : zig (zag n) = n := by
  unfold zig zag
  split <;> split <;> omega
theorem zig_lt {n : Int} (h1 : -9223372036854775808 ≤ n) (h2 : n ≤ 9223372036854775807) : zig n < 18446744073709551616 := by
  unfold zig; split <;> omega
theorem zag_in {n : Nat} (h : n < 18446744073709551616) : -9223372036854775808 ≤ zag n ∧ zag n ≤ 9223372036854775807 := by
  unfold zag; split <;> omega

/-! ### The number with which a row begins -/
def lead : Nat → List UInt8 → Nat
  | 0, _ => 0
  | _ + 1, [] => 0
  | k + 1, b :: r => if 128 ≤ b.toNat then lead k r + 1 else 0
structure Nx where
  v : Nat
  n : Nat
  e : Nat
def nextS (l : List UInt8) : Nx :=
  let k := lead 10 l
  if k = 10 then ⟨0, 0, 8⟩
  else if k = l.length then ⟨0, 0, 7⟩
  else if k = 9 ∧ 1 < (l.getD 9 0).toNat then ⟨0, 0, 8⟩
  else if (numL (valB (l.take (k + 1)))).length = k + 1 then ⟨valB (l.take (k + 1)), k + 1, 0⟩ else ⟨0, 0, 8⟩
theorem lead_le : ∀ (k : Nat) (l : List UInt8), lead k l ≤ k ∧ lead k l ≤ l.length
  | 0, _ => by simp [lead]
  | _ + 1, [] => by simp [lead]
  | k + 1, b :: r => by
    have := lead_le k r
    unfold lead; split <;> simp <;> omega
theorem lead_all : ∀ {k : Nat} {l : List UInt8} {i : Nat}, i < lead k l → ∃ b, l[i]? = some b ∧ 128 ≤ b.toNat
  | 0, _, _, h => by simp [lead] at h
  | _ + 1, [], _, h => by simp [lead] at h
  | k + 1, b :: r, i, h => by
    unfold lead at h
    split at h
    · rename_i hb
      cases i with
      | zero => exact ⟨b, rfl, hb⟩
      | succ i =>
        obtain ⟨c, h1, h2⟩ := lead_all (k := k) (l := r) (i := i) (by omega)
        exact ⟨c, by simpa using h1, h2⟩
    · omega
theorem lead_stop : ∀ {k : Nat} {l : List UInt8} {b : UInt8}, lead k l < k → l[lead k l]? = some b → b.toNat < 128
  | 0, _, _, h, _ => by simp [lead] at h
  | _ + 1, [], _, _, h => by simp at h
  | k + 1, c :: r, b, h, hb => by
    unfold lead at h hb
    split at h
    · rename_i hc
      rw [if_pos hc] at hb
      exact lead_stop (k := k) (l := r) (by omega) (by simpa using hb)
    · rename_i hc
      rw [if_neg hc] at hb
      simp at hb; subst hb; omega
theorem lead_chain : ∀ {k : Nat} {l r : List UInt8}, Chain l → l.length ≤ k → lead k (l ++ r) = l.length - 1
  | _, [], _, h, _ => h.elim
  | 0, _ :: _, _, _, h => by simp at h
  | k + 1, [b], r, h, _ => by
    have h : b.toNat < 128 := h
    simp only [List.singleton_append, lead]
    rw [if_neg (by omega)]; rfl
  | k + 1, b :: c :: s, r, h, hl => by
    obtain ⟨h1, h2⟩ := chain_tail h
    simp only [List.cons_append, lead]
    rw [if_pos h1, ← List.cons_append, lead_chain h2 (by simpa using hl)]
    simp
theorem take_chain : ∀ {k : Nat} {l : List UInt8}, lead k l < k → lead k l < l.length → Chain (l.take (lead k l + 1))
  | 0, _, h, _ => by simp [lead] at h
  | _ + 1, [], _, h => by simp at h
  | k + 1, b :: r, h, hl => by
    unfold lead at h hl ⊢
    split at h
    · rename_i hb
      rw [if_pos hb] at hl ⊢
      have ih := take_chain (k := k) (l := r) (by omega) (by simpa using hl)
      rw [List.take_succ_cons]
      cases e : r.take (lead k r + 1) with
      | nil => rw [e] at ih; exact ih.elim
      | cons c s => rw [e] at ih; exact ⟨hb, ih⟩
    · rename_i hb
      rw [if_neg hb]
      show b.toNat < 128
      omega
theorem chain_len {l : List UInt8} (h : Chain l) : 0 < l.length := by cases l with
  | nil => exact h.elim
  | cons _ _ => simp
theorem valB_take9 (l : List UInt8) (hl : l.length = 10) (h : (l.getD 9 0).toNat ≤ 1) : valB l < 18446744073709551616 := by
  match l, hl with
  | [a, b, c, d, e, f, g, h', i, j], _ =>
    simp only [List.getD_cons_succ, List.getD_cons_zero] at h
    simp only [valB]
    omega
/-- what was written is read -/
theorem next_num {n : Nat} (h : n < 18446744073709551616) (r : List UInt8) : nextS (numL n ++ r) = ⟨n, (numL n).length, 0⟩ := by
  have hc := numL_chain h
  have hl := numL_le h
  have hp := numL_pos n
  have hk : lead 10 (numL n ++ r) = (numL n).length - 1 := lead_chain hc hl
  have ht : (numL n ++ r).take ((numL n).length - 1 + 1) = numL n := by rw [Nat.sub_add_cancel hp, List.take_left]
  unfold nextS
  simp only [hk, ht, numL_val h]
  rw [if_neg (by omega), if_neg (by rw [List.length_append]; omega), if_neg, if_pos (by omega), Nat.sub_add_cancel hp]
  rintro ⟨h1, h2⟩
  have h10 : (numL n).length = 10 := by omega
  have : (numL n ++ r).getD 9 0 = (numL n).getD 9 0 := by
    simp only [List.getD_eq_getElem?_getD]
    rw [List.getElem?_append_left (by omega)]
  rw [this] at h2
  have hv := numL_val h
  revert hv h2
  match hm : numL n, h10 with
  | [a, b, c, d, e, f, g, h', i, j], _ =>
    intro h2 hv
    rw [hm] at hc
    simp only [List.getD_cons_succ, List.getD_cons_zero] at h2
    have hj : j.toNat < 128 := hc.2.2.2.2.2.2.2.2.2
    simp only [valB] at hv
    omega
/-- what is read was written so -/
theorem next_inv {l : List UInt8} {v n : Nat} (h : nextS l = ⟨v, n, 0⟩) : v < 18446744073709551616 ∧ n = (numL v).length ∧ l = numL v ++ l.drop n := by
  unfold nextS at h
  simp only at h
  have hle := lead_le 10 l
  split at h
  · cases h
  · rename_i h10
    split at h
    · cases h
    · rename_i hlen
      split at h
      · cases h
      · rename_i h9
        split at h
        · rename_i hn
          cases h
          have hk : lead 10 l < 10 := by omega
          have hk2 : lead 10 l < l.length := by omega
          have hc := take_chain hk hk2
          have htl : (l.take (lead 10 l + 1)).length = lead 10 l + 1 := by rw [List.length_take]; omega
          have hv : valB (l.take (lead 10 l + 1)) < 18446744073709551616 := by
            by_cases e9 : lead 10 l = 9
            · refine valB_take9 _ (by omega) ?_
              have : (l.take (lead 10 l + 1)).getD 9 0 = l.getD 9 0 := by
                simp only [List.getD_eq_getElem?_getD]
                rw [List.getElem?_take, if_pos (by omega)]
              rw [this]; omega
            · refine Nat.lt_of_lt_of_le (valB_lt _) ?_
              rw [htl]
              refine Nat.le_trans (Nat.pow_le_pow_right (by decide) (show lead 10 l + 1 ≤ 9 by omega)) ?_
              decide
          refine ⟨hv, hn.symm, ?_⟩
          have := chain_eq hc (numL_chain hv) (by omega) (numL_val hv).symm
          rw [← this, List.take_append_drop]
        · cases h
theorem next_err (l : List UInt8) : (nextS l).e = 0 ∨ (((nextS l).e = 7 ∨ (nextS l).e = 8) ∧ nextS l = ⟨0, 0, (nextS l).e⟩) := by
  unfold nextS; simp only
  split
  · right; simp
  · split
    · right; simp
    · split
      · right; simp
      · split
        · left; rfl
        · right; simp
theorem next_le (l : List UInt8) : (nextS l).n ≤ l.length ∧ (nextS l).v < 18446744073709551616 ∧ (nextS l).n ≤ 10 := by
  rcases next_err l with h | ⟨_, h⟩
  · have h2 : nextS l = ⟨(nextS l).v, (nextS l).n, 0⟩ := by rw [← h]
    obtain ⟨h3, h4, h5⟩ := next_inv h2
    refine ⟨?_, h3, by rw [h4]; exact numL_le h3⟩
    have := congrArg List.length h5
    rw [List.length_append, ← h4] at this; omega
  · rw [h]; simp
theorem take_lead : ∀ {l : List UInt8} {k j : Nat}, Chain l → j < l.length → j ≤ k → lead k (l.take j) = j
  | [], _, _, h, _, _ => h.elim
  | b :: r, k, 0, _, _, _ => by cases k <;> rfl
  | [b], k, j + 1, _, h, _ => by simp at h
  | b :: c :: r, 0, j + 1, _, _, h => by omega
  | b :: c :: r, k + 1, j + 1, h, hj, hk => by
    obtain ⟨h1, h2⟩ := chain_tail h
    rw [List.take_succ_cons, lead, if_pos h1, take_lead h2 (by simpa using hj) (by omega)]
/-- what is cut off is short -/
theorem next_cut {n j : Nat} (h : n < 18446744073709551616) (hj : j < (numL n).length) : nextS ((numL n).take j) = ⟨0, 0, 7⟩ := by
  have hl := numL_le h
  have hk : lead 10 ((numL n).take j) = j := take_lead (numL_chain h) hj (by omega)
  unfold nextS
  simp only [hk]
  rw [if_neg (by omega), if_pos (by rw [List.length_take]; omega)]
end TL

namespace TL
open Go Go.Proofs
def len8 : ByteArray := ⟨#[0, 1, 2, 2, 3, 3, 3, 3, 4, 4, 4, 4, 4, 4, 4, 4, 5, 5, 5, 5, 5, 5, 5, 5, 5, 5, 5, 5, 5, 5, 5, 5, 6, 6, 6, 6, 6, 6, 6, 6, 6, 6, 6, 6, 6, 6, 6, 6, 6, 6, 6, 6, 6, 6, 6, 6, 6, 6, 6, 6, 6, 6, 6, 6, 7, 7, 7, 7, 7, 7, 7, 7, 7, 7, 7, 7, 7, 7, 7, 7, 7, 7, 7, 7, 7, 7, 7, 7, 7, 7, 7, 7, 7, 7, 7, 7, 7, 7, 7, 7, 7, 7, 7, 7, 7, 7, 7, 7, 7, 7, 7, 7, 7, 7, 7, 7, 7, 7, 7, 7, 7, 7, 7, 7, 7, 7, 7, 7, 8, 8, 8, 8, 8, 8, 8, 8, 8, 8, 8, 8, 8, 8, 8, 8, 8, 8, 8, 8, 8, 8, 8, 8, 8, 8, 8, 8, 8, 8, 8, 8, 8, 8, 8, 8, 8, 8, 8, 8, 8, 8, 8, 8, 8, 8, 8, 8, 8, 8, 8, 8, 8, 8, 8, 8, 8, 8, 8, 8, 8, 8, 8, 8, 8, 8, 8, 8, 8, 8, 8, 8, 8, 8, 8, 8, 8, 8, 8, 8, 8, 8, 8, 8, 8, 8, 8, 8, 8, 8, 8, 8, 8, 8, 8, 8, 8, 8, 8, 8, 8, 8, 8, 8, 8, 8, 8, 8, 8, 8, 8, 8, 8, 8, 8, 8, 8, 8, 8, 8, 8, 8, 8, 8, 8, 8, 8, 8]⟩
theorem len8_tab : ∀ i : Nat, i < 256 → byteAt len8 (i : Int) = (blen i : Int) := by decide +kernel
variable {B : List Nat} {h : PH} {x : Option Addr} {K : Value → PH → Prop}
theorem lf {t : ByteArray} {y c : Int} {m c' : Nat} {K : Int → Prop} (ht : t = len8) (hy : y = (m : Int)) (hm : m < 256) (hc : c = (c' : Int)) (hc' : c' ≤ 56) (hk : K ((c' + blen m : Nat) : Int)) :
    (0 ≤ IntKind.wrap .u8 y ∧ IntKind.wrap .u8 y < (ByteArray.size t : Nat)) ∧ K (IntKind.wrap .i64 (c + IntKind.wrap .i64 (byteAt t (IntKind.wrap .u8 y)))) := by
  subst ht hy hc
  rw [wrap_u8 (by omega) (by omega), len8_tab m hm]
  have hb : blen m ≤ 8 := blen_le.2 hm
  rw [wrap64 (n := (blen m : Int)) (by omega) (by omega), wrap64 (by omega) (by omega)]
  refine ⟨⟨by omega, ?_⟩, by simpa using hk⟩
  have : len8.size = 256 := by kernel_rfl
  omega
set_option maxRecDepth 100000 in
theorem cLen64 {n : Nat} (hn : n < 18446744073709551616) (hk : K (.int .i64 (blen n)) h) : CallH Try.prog id_math_bits_Len64 [.int .u64 (n : Int)] K h := by
  have dv : ∀ {m s : Nat}, s < 64 → shrV .u64 (m : Int) (s : Int) = ((m / 2 ^ s : Nat) : Int) := shr_nat
  have d8 : ∀ m : Nat, shrV .u64 (m : Int) 8 = ((m / 256 : Nat) : Int) := fun m => dv (s := 8) (by decide)
  have d16 : ∀ m : Nat, shrV .u64 (m : Int) 16 = ((m / 65536 : Nat) : Int) := fun m => dv (s := 16) (by decide)
  have d32 : ∀ m : Nat, shrV .u64 (m : Int) 32 = ((m / 4294967296 : Nat) : Int) := fun m => dv (s := 32) (by decide)
  refine F_math_bits_Len64_ok ⟨fun st h' => h' = h ∧ ∃ m s : Nat, st.1 = (m : Int) ∧ st.2.1 = (s : Int) ∧ m < 4294967296 ∧ s ≤ 32 ∧ blen n = s + blen m, ⟨fun e => ?_, fun e => ?_⟩, ?_⟩
  · have e : 4294967296 ≤ n := by simp at e; omega
    rw [d32]
    exact ⟨rfl, n / 4294967296, 32, rfl, rfl, by omega, by decide, blen_shift (s := 32) e⟩
  · have e : n < 4294967296 := by simp at e; omega
    exact ⟨rfl, n, 0, rfl, rfl, e, by decide, by simp⟩
  rintro ⟨_, _, u⟩ h1 ⟨rfl, m, s, rfl, rfl, hm, hs, hb⟩
  refine ⟨fun st h' => h' = h1 ∧ ∃ m s : Nat, st.1 = (m : Int) ∧ st.2.1 = (s : Int) ∧ m < 65536 ∧ s ≤ 48 ∧ blen n = s + blen m, ⟨fun e => ?_, fun e => ?_⟩, ?_⟩
  · have e : 65536 ≤ m := by simp at e; omega
    dsimp only
    rw [d16, wrap64 (n := (s : Int) + 16) (by omega) (by omega)]
    exact ⟨rfl, m / 65536, s + 16, rfl, by omega, by omega, by omega, by rw [hb, blen_shift (n := m) (s := 16) e, Nat.add_assoc]⟩
  · have e : m < 65536 := by simp at e; omega
    exact ⟨rfl, m, s, rfl, rfl, e, by omega, hb⟩
  clear hb hm hs m s
  rintro ⟨_, _, u⟩ h1 ⟨rfl, m, s, rfl, rfl, hm, hs, hb⟩
  dsimp only
  refine ⟨fun e => ?_, fun e => ?_⟩
  · have e : 256 ≤ m := by simp at e; omega
    rw [d8, wrap64 (n := (s : Int) + 8) (by omega) (by omega)]
    refine lf (K := fun z => K (.int .i64 z) h1) (c' := s + 8) rfl rfl (by omega) (by omega) (by omega) ?_
    rw [Nat.add_assoc, ← blen_shift (n := m) (s := 8) e, ← hb]; exact hk
  · have e : m < 256 := by simp at e; omega
    refine lf (K := fun z => K (.int .i64 z) h1) (c' := s) rfl rfl e rfl (by omega) ?_
    rw [← hb]; exact hk
theorem cSize {n : Nat} (hn : n < 18446744073709551616) (hk : K (.int .i64 ((numL n).length : Nat)) h) : CallH Try.prog id_pack_size [.int .u64 (n : Int)] K h := by
  refine F_pack_size_ok (cLen64 hn ⟨_, rfl, ?_⟩)
  have hb : blen n ≤ 64 := blen_le.2 hn
  rw [wrap64 (n := (blen n : Int) + 7) (by omega) (by omega), wrap64 (n := (blen n : Int) + 7 - 1) (by omega) (by omega), wrap64 (n := ((blen n : Int) + 7 - 1).tdiv 7) (by rw [Int.tdiv_eq_ediv_of_nonneg (by omega)]; omega) (by rw [Int.tdiv_eq_ediv_of_nonneg (by omega)]; omega)]
  have : maxV 1 (((blen n : Int) + 7 - 1).tdiv 7) = ((numL n).length : Int) := by
    rw [← sizeN_len hn]
    unfold sizeN maxV
    have e : ((blen n : Int) + 7 - 1).tdiv 7 = (((blen n + 6) / 7 : Nat) : Int) := by
      rw [Int.tdiv_eq_ediv_of_nonneg (by omega)]; omega
    rw [e]
    split <;> omega
  rw [this]; exact hk

/-! ### Out -/
def OutAt (B : List Nat) (h : PH) (x : Option Addr) (l : List UInt8) : Prop :=
  ∃ bn a n c Bw, x = some ⟨bn, 0, none⟩ ∧ B = bn :: Bw ∧ bn ∉ Bw ∧ h bn = some (.cells [.slice a n c].toArray T_pack_Out (0, 0)) ∧ Buf EncB 5 Bw h a n c l
theorem OutAt.chg {C C' : List Nat} {h' : PH} {l : List UInt8} (hx : OutAt B h x l) (c : Chg C C' h h') (d : Dj B C) : OutAt B h' x l := by
  obtain ⟨bn, a, n, cc, Bw, rfl, rfl, hn, hb, hw⟩ := hx
  exact ⟨bn, a, n, cc, Bw, rfl, rfl, hn, c.keep hb (d bn List.mem_cons_self), hw.chg c fun b hb => d b (List.mem_cons_of_mem _ hb)⟩
theorem OutAt.has {l : List UInt8} (hx : OutAt B h x l) : Has B h := by
  obtain ⟨bn, a, n, cc, Bw, rfl, rfl, hn, hb, hw⟩ := hx
  intro b hm
  rcases List.mem_cons.1 hm with rfl | hm
  · exact ⟨_, hb⟩
  · exact hw.has b hm
theorem OutAt.new {bn : Nat} (hb : h bn = some (.cells [.slice none 0 0].toArray T_pack_Out (0, 0))) : OutAt [bn] h (some ⟨bn, 0, none⟩) [] :=
  ⟨bn, none, 0, 0, [], rfl, rfl, by simp, hb, Buf.nil _ _ _ _⟩
theorem cOut_put {l m : List UInt8} {a : Option Addr} {c : Nat} (hx : OutAt B h x l) (hm : SR EncB h a m) (hb : l.length + m.length ≤ 140737488355328) (hk : ∀ B' h', OutAt B' h' x (l ++ m) → Chg B B' h h' → K (.tuple #[]) h') :
    CallH Try.prog id_pack_Out_put [.pointer x, .slice a m.length c] K h := by
  obtain ⟨bn, a0, n0, c0, Bw, rfl, rfl, hn, hb0, hw⟩ := hx
  have hnl := hw.1
  refine F_pack_Out_put_ok ⟨fun _ => ⟨bn, 0, rfl, a0, n0, c0, rdsL hb0 rfl rfl, _, hm.src, ?_⟩, nofun⟩
  refine hw.append (new := m) rfl rfl rfl (by omega) ?_
  intro a' c' B' h1 hw1 hc1 _
  have hb1 := hc1.keep hb0 hn
  have hn1 := hc1.fresh hb0 hn
  refine ⟨bn, 0, rfl, stL hb1 rfl rfl fun h2 hb2 hc2 => ?_⟩
  exact hk (bn :: B') h2 ⟨bn, a', _, c', B', rfl, rfl, hn1, hb2, hw1.chg hc2 (notIn1 hn1)⟩ (hc1.tail.trans hc2.head)
theorem cOut_put' {a : Option Addr} {n c : Nat} (hk : K (.tuple #[]) h) : CallH Try.prog id_pack_Out_put [.pointer none, .slice a n c] K h :=
  F_pack_Out_put_ok ⟨nofun, fun _ => hk⟩
theorem Chg.pre {B B' C : List Nat} {h h1 h2 : PH} (c : Chg [] C h h1) (d : Chg B B' h1 h2) (_ : Has B h) : Chg B B' h h2 := by
  refine ⟨fun b o hb e => d.1 b o hb (c.sub0 b o e), fun b hb => ?_⟩
  rcases d.2 b hb with h3 | h3
  · exact .inl h3
  · refine .inr ?_
    cases e : h b with
    | none => rfl
    | some o => rw [c.sub0 b o e] at h3; cases h3
/-- one byte in a row of its own, put -/
theorem SR.one {b : Nat} {v : UInt8} {z : Value} {T : TypeId} (hz : z = .int .u8 (v.toNat : Int)) (hb : h b = some (.cells [z].toArray T (0, 0))) : SR EncB h (some ⟨b, 0, none⟩) [v] :=
  .inr ⟨b, 0, rfl, by subst hz; exact rdsL hb rfl rfl⟩
theorem cOut_put1 {l : List UInt8} {v : UInt8} {z : Value} {T : TypeId} {KK : Value → PH → Prop} (hx : OutAt B h x l) (hz : z = .int .u8 (v.toNat : Int)) (hb : l.length + 1 ≤ 140737488355328) (hk : ∀ B' h', OutAt B' h' x (l ++ [v]) → Chg B B' h h' → KK (.tuple #[]) h') :
    newH h (.cells #[z] T (0, 0)) fun b h1 => CallH Try.prog id_pack_Out_put [.pointer x, .slice (some ⟨b, 0, none⟩) 1 1] KK h1 := by
  refine nwL (cs := [z]) fun b h1 hb0 hb1 hc1 => ?_
  refine cOut_put (m := [v]) (hx.chg hc1 (Dj.nil _)) (SR.one hz hb1) (by simpa using hb) fun B' h' hx' hc' => ?_
  exact hk B' h' hx' (hc1.pre hc' hx.has)
theorem or128 {n : Nat} (_ : n < 18446744073709551616) : bitsV .or .u8 (IntKind.wrap .u8 (n : Int)) (128 : Int) = ((UInt8.ofNat (128 + n % 128)).toNat : Int) := by
  have h1 : IntKind.wrap .u8 (n : Int) = ((n % 256 : Nat) : Int) := by simp [IntKind.wrap, IntKind.bits, IntKind.signed]
  have key : ∀ m : Nat, m < 256 → bitsV .or .u8 ((m : Nat) : Int) (128 : Int) = ((128 + m % 128 : Nat) : Int) := by decide +kernel
  rw [h1, key _ (by omega), u8 (by omega)]
  congr 1; omega
theorem cOut_Num {l : List UInt8} {n : Nat} (hx : OutAt B h x l) (hn : n < 18446744073709551616) (hb : l.length + 10 ≤ 140737488355328) (hk : ∀ B' h', OutAt B' h' x (l ++ numL n) → Chg B B' h h' → K (.tuple #[]) h') :
    CallH Try.prog id_pack_Out_Num [.pointer x, .int .u64 (n : Int)] K h := by
  refine F_pack_Out_Num_ok (cSize hn ⟨_, rfl, ?_⟩)
  have hle := numL_le hn
  refine LoopP.ind (fun (st : Int × Int × Unit) h' => ∃ (m : Nat) (B' : List Nat) (p : List UInt8), st.1 = (m : Int) ∧ m < 18446744073709551616 ∧ st.2.1 = ((numL m).length : Int) ∧ p ++ numL m = numL n ∧ OutAt B' h' x (l ++ p) ∧ Chg B B' h h') (fun st _ => st.2.1.toNat) ?_
    ⟨n, B, [], rfl, hn, rfl, rfl, by simpa using hx, Chg.refl _ _⟩
  rintro ⟨m', k, u⟩ h1 ⟨m, B1, p, rfl, hm, hk1, hp, hx1, hc1⟩
  dsimp only at hk1 ⊢
  subst hk1
  have hpl := congrArg List.length hp
  rw [List.length_append] at hpl
  have hmp := numL_pos m
  refine ⟨fun hc => ?_, fun hc => ?_⟩
  · have hc : 1 < (numL m).length := by simp at hc; omega
    have h128 : 128 ≤ m := by
      rcases Nat.lt_or_ge m 128 with h | h
      · rw [numL_small h] at hc; simp at hc
      · exact h
    have hst := numL_step hm h128
    have hls := congrArg List.length hst
    rw [List.length_cons] at hls
    refine cOut_put1 (v := UInt8.ofNat (128 + m % 128)) hx1 (by rw [or128 hm]) (by rw [List.length_append]; omega) fun B2 h2 hx2 hc2 => ?_
    rw [show (7 : Int) = ((7 : Nat) : Int) from rfl, shr_nat (by decide), wrap64 (by omega) (by omega)]
    refine ⟨⟨m / 128, B2, p ++ [UInt8.ofNat (128 + m % 128)], rfl, by omega, by omega, ?_, by simpa using hx2, hc1.trans hc2⟩, by omega⟩
    rw [List.append_assoc, List.singleton_append, ← hst, hp]
  · have hc : (numL m).length = 1 := by simp at hc; omega
    have hs : m < 128 := by
      rcases Nat.lt_or_ge m 128 with h | h
      · exact h
      · have := congrArg List.length (numL_step hm h)
        rw [List.length_cons] at this
        have := numL_pos (m / 128)
        omega
    refine cOut_put1 (v := UInt8.ofNat m) hx1 (by rw [wrap_u8 (by omega) (by omega), u8 (by omega)]) (by rw [List.length_append]; omega) fun B2 h2 hx2 hc2 => ?_
    refine hk B2 h2 ?_ (hc1.trans hc2)
    rw [← hp, numL_small hs, ← List.append_assoc]; exact hx2
theorem cOut_Num' {n : Nat} (hn : n < 18446744073709551616) (hk : ∀ h', h.Sub h' → K (.tuple #[]) h') : CallH Try.prog id_pack_Out_Num [.pointer none, .int .u64 (n : Int)] K h := by
  refine F_pack_Out_Num_ok (cSize hn ⟨_, rfl, ?_⟩)
  have hle := numL_le hn
  refine LoopP.ind (fun (st : Int × Int × Unit) h' => st.2.1 ≤ 10 ∧ h.Sub h') (fun st _ => st.2.1.toNat) ?_ ⟨by show ((numL n).length : Int) ≤ 10; omega, fun _ _ e => e⟩
  rintro ⟨m, k, u⟩ h1 ⟨h10, hs⟩
  dsimp only at h10 ⊢
  refine ⟨fun hc => ?_, fun hc => ?_⟩
  · have hc : 1 < k := by simpa using hc
    refine nwL (cs := [_]) fun b h2 hb0 hb1 hc1 => cOut_put' ?_
    rw [wrap64 (by omega) (by omega)]
    exact ⟨⟨by omega, fun b o e => hc1.sub0 b o (hs b o e)⟩, by omega⟩
  · refine nwL (cs := [_]) fun b h2 hb0 hb1 hc1 => cOut_put' ?_
    exact hk h2 fun b o e => hc1.sub0 b o (hs b o e)
theorem zig_prog {n : Int} (h1 : -9223372036854775808 ≤ n) (h2 : n ≤ 9223372036854775807) :
    (n < 0 → IntKind.wrap .u64 ((IntKind.wrap .u64 ((2 : Int) * (bitsV .xor .u64 (IntKind.max .u64) (IntKind.wrap .u64 n)))) + (1 : Int)) = ((zig n : Nat) : Int)) ∧
    (0 ≤ n → IntKind.wrap .u64 ((2 : Int) * (IntKind.wrap .u64 n)) = ((zig n : Nat) : Int)) := by
  have hx : ∀ m : Nat, m < 18446744073709551616 → bitsV .xor .u64 (IntKind.max .u64) (m : Int) = ((18446744073709551615 - m : Nat) : Int) := by
    intro m hm
    show IntKind.wrap .u64 (((BitVec.ofInt 64 (IntKind.max .u64) ^^^ BitVec.ofInt 64 (m : Int)).toNat : Nat) : Int) = _
    have e1 : BitVec.ofInt 64 (IntKind.max .u64) = BitVec.allOnes 64 := by decide
    have e2 : BitVec.ofInt 64 (m : Int) = BitVec.ofNat 64 m := by simp
    rw [e1, e2, BitVec.allOnes_xor]
    rw [BitVec.toNat_not, BitVec.toNat_ofNat, Nat.mod_eq_of_lt (by omega), wrap_u64 (by omega) (by omega)]
  refine ⟨fun h0 => ?_, fun h0 => ?_⟩
  · have e : IntKind.wrap .u64 n = ((n + 18446744073709551616).toNat : Int) := by
      simp [IntKind.wrap, IntKind.bits, IntKind.signed]; omega
    rw [e, hx _ (by omega)]
    unfold zig
    rw [if_pos h0, wrap_u64 (n := 2 * _) (by omega) (by omega), wrap_u64 (by omega) (by omega)]
    omega
  · unfold zig
    rw [if_neg (by omega), wrap_u64 (n := n) (by omega) (by omega), wrap_u64 (by omega) (by omega)]
    omega
theorem cOut_Int {l : List UInt8} {n : Int} (hx : OutAt B h x l) (h1 : -9223372036854775808 ≤ n) (h2 : n ≤ 9223372036854775807) (hb : l.length + 10 ≤ 140737488355328) (hk : ∀ B' h', OutAt B' h' x (l ++ numL (zig n)) → Chg B B' h h' → K (.tuple #[]) h') :
    CallH Try.prog id_pack_Out_Int [.pointer x, .int .i64 n] K h := by
  refine F_pack_Out_Int_ok ⟨fun e => ?_, fun e => ?_⟩
  · rw [(zig_prog h1 h2).1 (by simpa using e)]
    exact cOut_Num hx (zig_lt h1 h2) hb hk
  · rw [(zig_prog h1 h2).2 (by simpa using e)]
    exact cOut_Num hx (zig_lt h1 h2) hb hk
theorem cOut_Int' {n : Int} (h1 : -9223372036854775808 ≤ n) (h2 : n ≤ 9223372036854775807) (hk : ∀ h', h.Sub h' → K (.tuple #[]) h') : CallH Try.prog id_pack_Out_Int [.pointer none, .int .i64 n] K h := by
  refine F_pack_Out_Int_ok ⟨fun e => ?_, fun e => ?_⟩
  · rw [(zig_prog h1 h2).1 (by simpa using e)]
    exact cOut_Num' (zig_lt h1 h2) hk
  · rw [(zig_prog h1 h2).2 (by simpa using e)]
    exact cOut_Num' (zig_lt h1 h2) hk
def textL (s : List UInt8) : List UInt8 := numL s.length ++ s
/-- a text's bytes in a row of its own -/
theorem SR.text {b : Nat} {s : List UInt8} {T : TypeId} {fr : Nat × Nat} {r : List Value} (hb : h b = some (.cells (byteVs (mk s) ++ r).toArray T fr)) : SR EncB h (some ⟨b, 0, none⟩) s := by
  refine .inr ⟨b, 0, rfl, ?_⟩
  rw [byteVs_mk] at hb
  rw [rds_of hb (by rw [List.length_append, EncB.row_len]; omega)]
  rw [← EncB.row_len, List.drop_zero, List.take_left]
theorem cOut_Text {l s : List UInt8} (hx : OutAt B h x l) (hb : l.length + 10 + s.length ≤ 140737488355328) (hk : ∀ B' h', OutAt B' h' x (l ++ textL s) → Chg B B' h h' → K (.tuple #[]) h') :
    CallH Try.prog id_pack_Out_Text [.pointer x, .string (mk s)] K h := by
  refine F_pack_Out_Text_ok ?_
  have hs : s.length < 18446744073709551616 := by omega
  unfold F_pack_Out_Text
  rw [size_mk, wrap_u64 (by omega) (by omega)]
  have hle := numL_le hs
  refine cOut_Num hx hs (by omega) fun B1 h1 hx1 hc1 cap hcap b hb0 => ?_
  have hb1 : (h1.upd b (.cells (byteVs (mk s) ++ List.replicate (cap - s.length) (Value.int .u8 0)).toArray 5 (cap, cap + 1))) b = _ := PH.upd_same ..
  have hc2 := Chg.new (.cells (byteVs (mk s) ++ List.replicate (cap - s.length) (Value.int .u8 0)).toArray 5 (cap, cap + 1)) hb0
  refine cOut_put (hx1.chg hc2 (Dj.nil _)) (SR.text hb1) (by rw [List.length_append]; omega) fun B' h' hx' hc' => ?_
  refine hk B' h' ?_ (hc1.trans (hc2.pre hc' hx1.has))
  rw [textL, ← List.append_assoc]; exact hx'
theorem cOut_Text' {s : List UInt8} (hs : s.length < 18446744073709551616) (hk : ∀ h', h.Sub h' → K (.tuple #[]) h') : CallH Try.prog id_pack_Out_Text [.pointer none, .string (mk s)] K h := by
  refine F_pack_Out_Text_ok ?_
  unfold F_pack_Out_Text
  rw [size_mk, wrap_u64 (by omega) (by omega)]
  refine cOut_Num' hs fun h1 s1 cap hcap b hb0 => cOut_put' (hk _ fun b o e => ?_)
  exact PH.upd_old _ hb0 (s1 b o e)
theorem cOut_Byte {l : List UInt8} {v : UInt8} (hx : OutAt B h x l) (hb : l.length + 1 ≤ 140737488355328) (hk : ∀ B' h', OutAt B' h' x (l ++ [v]) → Chg B B' h h' → K (.tuple #[]) h') :
    CallH Try.prog id_pack_Out_Byte [.pointer x, .int .u8 (v.toNat : Int)] K h :=
  F_pack_Out_Byte_ok (cOut_put1 hx rfl hb hk)
theorem cOut_Byte' {v : Int} (hk : ∀ h', h.Sub h' → K (.tuple #[]) h') : CallH Try.prog id_pack_Out_Byte [.pointer none, .int .u8 v] K h :=
  F_pack_Out_Byte_ok (nwL (cs := [_]) fun _ h2 _ _ hc1 => cOut_put' (hk h2 hc1.sub0))
theorem cOut_String {l : List UInt8} (hx : OutAt B h x l) (hk : K (.string (mk l)) h) : CallH Try.prog id_pack_Out_String [.pointer x] K h := by
  obtain ⟨bn, a0, n0, c0, Bw, rfl, rfl, hn, hb0, hw⟩ := hx
  refine F_pack_Out_String_ok ⟨nofun, fun _ => ⟨bn, 0, rfl, a0, n0, c0, rdsL hb0 rfl rfl, mk l, ?_, hk⟩⟩
  rw [hw.1]; exact hw.sr.str
theorem cOut_String' (hk : K (.string (mk [])) h) : CallH Try.prog id_pack_Out_String [.pointer none] K h :=
  F_pack_Out_String_ok ⟨fun _ => hk, nofun⟩
end TL

namespace TL
open Go Go.Proofs
variable {B : List Nat} {h : PH} {x : Option Addr} {K : Value → PH → Prop}

structure IS where
  s : List UInt8
  p : Nat
  e : Nat
def IS.take (st : IS) (n e : Nat) : IS := if e = 0 then ⟨st.s.drop n, st.p + n, 0⟩ else ⟨st.s, st.p, e⟩
def InAt (B : List Nat) (h : PH) (x : Option Addr) (st : IS) : Prop :=
  ∃ b, x = some ⟨b, 0, none⟩ ∧ B = [b] ∧ h b = some (.cells [.string (mk st.s), .int .i64 (st.p : Int), .int .i64 (st.e : Int)].toArray T_pack_In (0, 0)) ∧ st.p + st.s.length ≤ 4611686018427387904
variable {st : IS}
theorem InAt.chg {C C' : List Nat} {h' : PH} (hx : InAt B h x st) (c : Chg C C' h h') (d : Dj B C) : InAt B h' x st := by
  obtain ⟨b, rfl, rfl, hb, hl⟩ := hx
  exact ⟨b, rfl, rfl, c.keep hb (d b List.mem_cons_self), hl⟩
theorem InAt.has (hx : InAt B h x st) : Has B h := by
  obtain ⟨b, rfl, rfl, hb, hl⟩ := hx
  intro b' hm
  rw [List.mem_singleton] at hm; subst hm; exact ⟨_, hb⟩
theorem InAt.sub {h' : PH} (hx : InAt B h x st) (s : h.Sub h') : InAt B h' x st := by
  obtain ⟨b, rfl, rfl, hb, hl⟩ := hx
  exact ⟨b, rfl, rfl, s _ _ hb, hl⟩
theorem cIn_Of {s : List UInt8} (hs : s.length ≤ 4611686018427387904) (hk : ∀ x B' h', InAt B' h' x ⟨s, 0, 0⟩ → Chg [] B' h h' → K (.pointer x) h') : CallH Try.prog id_pack_Of [.string (mk s)] K h := by
  refine F_pack_Of_ok (nwL (cs := [.string (mk s), .int .i64 (0 : Int), .int .i64 (0 : Int)]) fun b h1 hb0 hb1 hc1 => ?_)
  exact hk _ [b] h1 ⟨b, rfl, rfl, hb1, by simpa using hs⟩ hc1
theorem cIn_reads (hx : InAt B h x st) (hk : K (.bool (st.e == 0)) h) : CallH Try.prog id_pack_In_reads [.pointer x] K h := by
  obtain ⟨b, rfl, rfl, hb, hl⟩ := hx
  refine F_pack_In_reads_ok ⟨b, 0, fun _ => rfl, _, fun _ => rdsL hb rfl rfl, ?_⟩
  have : (!(Option.isNone (some (⟨b, 0, none⟩ : Addr))) && ((st.e : Int) == 0)) = (st.e == 0) := by
    cases st.e with
    | zero => rfl
    | succ n => rfl
  rw [this]; exact hk
theorem cIn_reads' (hk : K (.bool false) h) : CallH Try.prog id_pack_In_reads [.pointer none] K h :=
  F_pack_In_reads_ok ⟨0, 0, nofun, 0, nofun, hk⟩
theorem cIn_takes {n : Int} {e : Nat} (hx : InAt B h x st) (hn : e = 0 → 0 ≤ n ∧ n ≤ (st.s.length : Int)) (hk : ∀ h', InAt B h' x (st.take n.toNat e) → Chg B B h h' → K (.bool (e == 0)) h') :
    CallH Try.prog id_pack_In_takes [.pointer x, .int .i64 n, .int .i64 (e : Int)] K h := by
  obtain ⟨b, rfl, rfl, hb, hl⟩ := hx
  refine F_pack_In_takes_ok ⟨b, 0, rfl, stL (cs' := [.string (mk st.s), .int .i64 (st.p : Int), .int .i64 (e : Int)]) hb rfl rfl fun h1 hb1 hc1 => ⟨fun he => ?_, fun he => ?_⟩⟩
  · have he : e = 0 := by simp at he; omega
    obtain ⟨n0, n1⟩ := hn he
    subst he
    refine ⟨b, 0, rfl, _, rdsL hb1 rfl rfl, ⟨n0, by rw [size_mk]; exact n1, by omega⟩, b, 0, rfl, stL (cs' := [.string (subS (mk st.s) n (((mk st.s).size : Nat) : Int)), .int .i64 (st.p : Int), .int .i64 0]) hb1 rfl rfl fun h2 hb2 hc2 => ⟨b, 0, rfl, _, rdsL hb2 rfl rfl, b, 0, rfl, stL (cs' := [.string (subS (mk st.s) n (((mk st.s).size : Nat) : Int)), .int .i64 (IntKind.wrap .i64 ((st.p : Int) + n)), .int .i64 0]) hb2 rfl rfl fun h3 hb3 hc3 => ?_⟩⟩
    have hw : IntKind.wrap .i64 ((st.p : Int) + n) = ((st.p + n.toNat : Nat) : Int) := by rw [wrap64 (by omega) (by omega)]; omega
    refine hk h3 ⟨b, rfl, rfl, ?_, ?_⟩ ((hc1.trans hc2).trans hc3)
    · rw [hb3, subS_mk, size_mk, hw, List.take_of_length_le (l := st.s.drop n.toNat) (by rw [List.length_drop]; omega)]
      rfl
    · simp only [IS.take, if_pos]; rw [List.length_drop]; omega
  · have he' : e ≠ 0 := by simp at he; omega
    have := hk h1 ⟨b, rfl, rfl, by rw [hb1]; simp [IS.take, he'], by simp [IS.take, he']; exact hl⟩ hc1
    rw [show ((e : Int) == 0) = (e == 0) by cases e <;> rfl]; exact this

/-! ### number, bounded -/
theorem bits_or {n c : Nat} (hn : 128 * n < 18446744073709551616) (hc : c < 128) : bitsV .or .u64 (shlV .u64 (n : Int) (7 : Int)) (IntKind.wrap .u64 (c : Int)) = ((c + 128 * n : Nat) : Int) := by
  have e1 : shlV .u64 (n : Int) (7 : Int) = ((128 * n : Nat) : Int) := by
    unfold shlV
    rw [show min (7 : Int).toNat (IntKind.bits .u64) = 7 by decide, wrap_u64 (by omega) (by omega)]
    push_cast; omega
  rw [e1, wrap_u64 (by omega) (by omega)]
  show IntKind.wrap .u64 (((BitVec.ofInt 64 ((128 * n : Nat) : Int) ||| BitVec.ofInt 64 (c : Int)).toNat : Nat) : Int) = _
  rw [BitVec.toNat_or]
  have t : ∀ m : Nat, m < 18446744073709551616 → (BitVec.ofInt 64 (m : Int)).toNat = m := fun m hm => by
    simp; omega
  rw [t _ hn, t _ (by omega)]
  have h1 : 128 * n ||| c = 128 * n + c := by
    have := Nat.shiftLeft_add_eq_or_of_lt (b := c) (i := 7) (by omega) n
    rw [Nat.shiftLeft_eq, Nat.mul_comm] at this
    exact this.symm
  have hlt : 128 * n + c < 18446744073709551616 := by omega
  rw [h1, wrap_u64 (by omega) (by omega)]
  omega
theorem getD_lt {l : List UInt8} {i : Nat} {b : UInt8} (h : l[i]? = some b) : l.getD i 0 = b := by simp [List.getD, h]
theorem cNumber {l : List UInt8} (hl : l.length ≤ 4611686018427387904) (hk : K (.tuple #[.int .u64 ((nextS l).v : Int), .int .i64 ((nextS l).n : Int), .int .i64 ((nextS l).e : Int)]) h) : CallH Try.prog id_pack_number [.string (mk l)] K h := by
  have hle := lead_le 10 l
  refine F_pack_number_ok (LoopP.ind (fun (st : Int × Unit) h' => h' = h ∧ 0 ≤ st.1 ∧ st.1 ≤ (lead 10 l : Int)) (fun st _ => (10 - st.1).toNat) ?_ ⟨rfl, by decide, by show (0 : Int) ≤ _; omega⟩)
  rintro ⟨i, u⟩ h1 ⟨rfl, i0, i1⟩
  dsimp only at i0 i1 ⊢
  rw [size_mk]
  have hmin : minV (l.length : Int) 10 = ((min l.length 10 : Nat) : Int) := by unfold minV; split <;> omega
  rw [hmin]
  refine ⟨fun e => by simp at e; omega, fun e => ?_, fun e => ?_⟩
  · simp only [Bool.and_eq_true, decide_eq_true_eq] at e
    obtain ⟨e1, e2⟩ := e
    rw [byteAt_mk] at e2
    have hlt : i.toNat < lead 10 l := by
      rcases Nat.lt_or_ge i.toNat (lead 10 l) with h | h
      · exact h
      · have hi : i.toNat = lead 10 l := by omega
        have hil : i.toNat < l.length := by omega
        have := lead_stop (k := 10) (l := l) (b := l[i.toNat]) (by omega) (by rw [← hi]; exact List.getElem?_eq_getElem hil)
        simp [List.getD, hil] at e2
        omega
    rw [wrap64 (n := i + 1) (by omega) (by omega)]
    exact ⟨⟨rfl, by omega, by omega⟩, by omega⟩
  · have hi : i = (lead 10 l : Int) := by
      rcases Nat.lt_or_ge i.toNat (lead 10 l) with h | h
      · obtain ⟨b, hb, h128⟩ := lead_all h
        have hil : i.toNat < l.length := by omega
        simp only [Bool.and_eq_false_iff, decide_eq_false_iff_not] at e
        rw [byteAt_mk, getD_lt hb] at e
        omega
      · omega
    subst hi
    clear e i0 i1
    unfold nextS at hk
    simp only at hk
    refine ⟨fun e => ?_, fun e => ?_⟩
    · have e : lead 10 l = 10 := by simp at e; omega
      rw [if_pos e] at hk; exact hk
    have n10 : ¬ lead 10 l = 10 := by simp at e; omega
    rw [if_neg n10] at hk
    refine ⟨fun e => ?_, fun e => ?_⟩
    · have e : lead 10 l = l.length := by simp at e; omega
      rw [if_pos e] at hk; exact hk
    have nlen : ¬ lead 10 l = l.length := by simp at e; omega
    rw [if_neg nlen] at hk
    refine ⟨fun _ => ⟨by omega, by omega⟩, fun e => ?_, fun e => ?_⟩
    · simp only [Bool.and_eq_true, decide_eq_true_eq, beq_iff_eq] at e
      rw [byteAt_mk] at e
      have e9 : lead 10 l = 9 := by omega
      rw [if_pos ⟨e9, by have := e.2; rw [e9] at this; simp at this ⊢; omega⟩] at hk
      exact hk
    have n9 : ¬ (lead 10 l = 9 ∧ 1 < (l.getD 9 0).toNat) := by
      rintro ⟨h9, h1⟩
      simp only [Bool.and_eq_false_iff, decide_eq_false_iff_not, beq_eq_false_iff_ne] at e
      rw [byteAt_mk] at e
      rcases e with e | e
      · exact e (by rw [h9]; rfl)
      · rw [h9] at e; simp at e; simp at h1; omega
    rw [if_neg n9] at hk
    generalize hkk : lead 10 l = k at *
    have hkl : k < l.length := by omega
    have htl : (l.take (k + 1)).length = k + 1 := by rw [List.length_take]; omega
    have hv : valB (l.take (k + 1)) < 18446744073709551616 := by
      by_cases e9 : k = 9
      · refine valB_take9 _ (by omega) ?_
        have : (l.take (k + 1)).getD 9 0 = l.getD 9 0 := by
          simp only [List.getD_eq_getElem?_getD]
          rw [List.getElem?_take, if_pos (by omega)]
        rw [this]; omega
      · refine Nat.lt_of_lt_of_le (valB_lt _) ?_
        rw [htl]
        refine Nat.le_trans (Nat.pow_le_pow_right (by decide) (show k + 1 ≤ 9 by omega)) ?_
        decide
    have hwk : IntKind.wrap .i64 ((k : Int) + 1) = ((k + 1 : Nat) : Int) := by rw [wrap64 (by omega) (by omega)]; omega
    rw [hwk, wrap64 (n := ((k + 1 : Nat) : Int) - 1) (by omega) (by omega)]
    refine LoopP.ind (fun (st : Int × Int × Unit) h' => h' = h1 ∧ ∃ j : Nat, st.2.1 = (j : Int) - 1 ∧ j ≤ k + 1 ∧ st.1 = ((valB ((l.take (k + 1)).drop j) : Nat) : Int)) (fun st _ => (st.2.1 + 1).toNat) ?_ ⟨rfl, k + 1, by rfl, Nat.le_refl _, by rw [List.drop_of_length_le (by omega)]; rfl⟩
    rintro ⟨_, _, u⟩ h2 ⟨rfl, j, rfl, hj, rfl⟩
    dsimp only
    refine ⟨fun e => ?_, fun e => ?_⟩
    · have e : 1 ≤ j := by simp at e; omega
      obtain ⟨j, rfl⟩ : ∃ j', j = j' + 1 := ⟨j - 1, by omega⟩
      have hjl : j < (l.take (k + 1)).length := by omega
      have hdr := List.drop_eq_getElem_cons hjl
      have hb : byteAt (mk l) (((j + 1 : Nat) : Int) - 1) = (((l.take (k + 1))[j]).toNat : Int) := by
        rw [byteAt_mk, show (((j + 1 : Nat) : Int) - 1).toNat = j by omega]
        simp only [List.getElem_take]
        simp [List.getD, show j < l.length by omega]
      have hvd : valB ((l.take (k + 1)).drop j) = ((l.take (k + 1))[j]).toNat % 128 + 128 * valB ((l.take (k + 1)).drop (j + 1)) := by rw [hdr]; rfl
      have hle2 : ∀ m, valB ((l.take (k + 1)).drop m) ≤ valB (l.take (k + 1)) := by
        intro m
        generalize l.take (k + 1) = q
        induction q generalizing m with
        | nil => simp [valB]
        | cons b r ih =>
          cases m with
          | zero => simp
          | succ m =>
            have := ih m
            simp only [List.drop_succ_cons, valB]; omega
      have := hle2 j
      rw [hvd] at this
      rw [hb]
      refine ⟨by omega, ?_⟩
      rw [show ((((l.take (k + 1))[j]).toNat : Int).tmod 128) = (((((l.take (k + 1))[j]).toNat % 128 : Nat)) : Int) by rw [Int.tmod_eq_emod_of_nonneg (by omega)]; omega]
      rw [bits_or (by omega) (by omega), ← hvd, wrap64 (n := ((j + 1 : Nat) : Int) - 1 - 1) (by omega) (by omega)]
      exact ⟨⟨rfl, j, by omega, by omega, rfl⟩, by omega⟩
    · have e : j = 0 := by simp at e; omega
      subst e
      rw [List.drop_zero]
      refine cSize hv ⟨_, rfl, fun e => ?_, fun e => ?_⟩
      · have e : ¬ (numL (valB (l.take (k + 1)))).length = k + 1 := by simp at e; omega
        rw [if_neg e] at hk; exact hk
      · have e : (numL (valB (l.take (k + 1)))).length = k + 1 := by simp at e; omega
        rw [if_pos e] at hk; exact hk
def boundS (l : List UInt8) (most : Int) : Nx := if (nextS l).e = 0 ∧ (most < 0 ∨ most < ((nextS l).v : Int)) then ⟨0, 0, 8⟩ else nextS l
theorem bound_err (l : List UInt8) (most : Int) : ((boundS l most).e = 0 ∧ boundS l most = nextS l ∧ ((boundS l most).v : Int) ≤ most ∧ 0 ≤ most) ∨ (((boundS l most).e = 7 ∨ (boundS l most).e = 8) ∧ boundS l most = ⟨0, 0, (boundS l most).e⟩) := by
  unfold boundS
  split
  · right; simp
  · rename_i hn
    rcases next_err l with h | h
    · left
      exact ⟨h, rfl, by simp [h] at hn; omega, by simp [h] at hn; omega⟩
    · exact .inr h
theorem cBounded {l : List UInt8} {most : Int} (hl : l.length ≤ 4611686018427387904) (hm : most ≤ 9223372036854775807) (hk : K (.tuple #[.int .i64 ((boundS l most).v : Int), .int .i64 ((boundS l most).n : Int), .int .i64 ((boundS l most).e : Int)]) h) : CallH Try.prog id_pack_bounded [.string (mk l), .int .i64 most] K h := by
  refine F_pack_bounded_ok (cNumber hl ⟨_, _, _, rfl, fun e => ?_, fun e => ?_⟩)
  · have e : (nextS l).e = 0 := by simp at e; omega
    have hv := (next_le l).2.1
    refine ⟨fun e2 => ?_, fun e2 => ?_⟩
    · have e2 : most < 0 ∨ most < ((nextS l).v : Int) := by
        simp only [Bool.or_eq_true, decide_eq_true_eq] at e2
        rcases e2 with e2 | e2
        · exact .inl e2
        · rcases Int.lt_or_le most 0 with h | h
          · exact .inl h
          · rw [wrap_u64 h (by omega)] at e2; exact .inr e2
      unfold boundS at hk
      rw [if_pos ⟨e, e2⟩] at hk
      exact ⟨fun _ => hk, fun e => absurd e (by decide)⟩
    · have e2 : ¬ (most < 0 ∨ most < ((nextS l).v : Int)) := by
        simp only [Bool.or_eq_false_iff, decide_eq_false_iff_not] at e2
        obtain ⟨e2, e3⟩ := e2
        rw [wrap_u64 (by omega) (by omega)] at e3; omega
      unfold boundS at hk
      rw [if_neg (fun h => e2 h.2)] at hk
      rw [e] at hk ⊢
      refine ⟨fun e => absurd e (by decide), fun _ => ?_⟩
      rw [wrap64 (by omega) (by omega)]; exact hk
  · have e : (nextS l).e ≠ 0 := by simp at e; omega
    unfold boundS at hk
    rw [if_neg (fun h => e h.1)] at hk
    obtain ⟨_, h2⟩ := (next_err l).resolve_left e
    refine ⟨fun _ => ?_, fun e2 => ?_⟩
    · rw [h2] at hk ⊢; exact hk
    · simp at e2; omega

/-! ### The readers -/
def iNum (st : IS) : Nat × IS := if st.e = 0 then ((nextS st.s).v, st.take (nextS st.s).n (nextS st.s).e) else (0, st)
def iMost (st : IS) (most : Int) : Nat × IS := if st.e = 0 then ((boundS st.s most).v, st.take (boundS st.s most).n (boundS st.s most).e) else (0, st)
def textE (st : IS) (most : Int) : Nat := if (boundS st.s most).e = 0 ∧ st.s.length - (boundS st.s most).n < (boundS st.s most).v then 7 else (boundS st.s most).e
def iText (st : IS) (most : Int) : List UInt8 × IS :=
  if st.e = 0 then
    if textE st most = 0 then ((st.s.drop (boundS st.s most).n).take (boundS st.s most).v, st.take ((boundS st.s most).n + (boundS st.s most).v) 0)
    else ([], st.take 0 (textE st most))
  else ([], st)
def iByte (st : IS) : UInt8 × IS := if st.e = 0 then (match st.s with
    | [] => (0, ⟨[], st.p, 7⟩)
    | b :: r => (b, ⟨r, st.p + 1, 0⟩)) else (0, st)
def iFault (st : IS) : Nat × Nat := if st.e = 0 then (0, 0) else (st.e, st.p)
def iEnd (st : IS) : Nat := if st.e = 0 ∧ st.s ≠ [] then 8 else st.e

theorem cIn_Num (hx : InAt B h x st) (hk : ∀ h', InAt B h' x (iNum st).2 → Chg B B h h' → K (.int .u64 ((iNum st).1 : Int)) h') : CallH Try.prog id_pack_In_Num [.pointer x] K h := by
  refine F_pack_In_Num_ok (cIn_reads hx ⟨_, rfl, fun e => ?_, fun e => ?_⟩)
  · have e : st.e = 0 := by simpa using e
    simp only [iNum, if_pos e] at hk
    have hx0 := hx
    obtain ⟨b, rfl, rfl, hb, hl⟩ := hx
    refine ⟨b, 0, rfl, _, rdsL hb rfl rfl, cNumber (by omega) ⟨_, _, _, rfl, cIn_takes hx0 (fun _ => ⟨by omega, by have := next_le st.s; omega⟩) fun h' hx' hc' => ⟨_, rfl, fun e2 => hk h' (by simpa using hx') hc', fun e2 => ?_⟩⟩⟩
    have e2 : (nextS st.s).e ≠ 0 := by simpa using e2
    obtain ⟨_, h2⟩ := (next_err st.s).resolve_left e2
    have := hk h' (by simpa using hx') hc'
    rw [h2] at this; exact this
  · have e : ¬ st.e = 0 := by simpa using e
    simp only [iNum, if_neg e] at hk
    exact hk h hx (Chg.refl _ _)
theorem cIn_Num' (hk : K (.int .u64 0) h) : CallH Try.prog id_pack_In_Num [.pointer none] K h :=
  F_pack_In_Num_ok (cIn_reads' ⟨_, rfl, nofun, fun _ => hk⟩)
theorem cIn_Most {most : Int} (hx : InAt B h x st) (hm : most ≤ 9223372036854775807) (hk : ∀ h', InAt B h' x (iMost st most).2 → Chg B B h h' → K (.int .i64 ((iMost st most).1 : Int)) h') : CallH Try.prog id_pack_In_Most [.pointer x, .int .i64 most] K h := by
  refine F_pack_In_Most_ok (cIn_reads hx ⟨_, rfl, fun e => ?_, fun e => ?_⟩)
  · have e : st.e = 0 := by simpa using e
    simp only [iMost, if_pos e] at hk
    have hx0 := hx
    obtain ⟨b, rfl, rfl, hb, hl⟩ := hx
    refine ⟨b, 0, rfl, _, rdsL hb rfl rfl, cBounded (by omega) hm ⟨_, _, _, rfl, cIn_takes hx0 (fun e => ⟨by omega, ?_⟩) fun h' hx' hc' => ⟨_, rfl, fun e2 => hk h' (by simpa using hx') hc', fun e2 => ?_⟩⟩⟩
    · rcases bound_err st.s most with ⟨_, h2, _⟩ | ⟨h1, _⟩
      · rw [h2]; have := next_le st.s; omega
      · omega
    · have e2 : (boundS st.s most).e ≠ 0 := by simpa using e2
      obtain ⟨_, h2⟩ := (bound_err st.s most).resolve_left (fun h => e2 h.1)
      have := hk h' (by simpa using hx') hc'
      rw [h2] at this; exact this
  · have e : ¬ st.e = 0 := by simpa using e
    simp only [iMost, if_neg e] at hk
    exact hk h hx (Chg.refl _ _)
theorem cIn_Most' {most : Int} (hk : K (.int .i64 0) h) : CallH Try.prog id_pack_In_Most [.pointer none, .int .i64 most] K h :=
  F_pack_In_Most_ok (cIn_reads' ⟨_, rfl, nofun, fun _ => hk⟩)
theorem zag_prog {n : Nat} (hn : n < 18446744073709551616) :
    ((((n : Int).tmod (2 : Int)) == (1 : Int)) = true → IntKind.wrap .i64 (bitsV .xor .u64 (IntKind.max .u64) (IntKind.wrap .u64 ((n : Int).tdiv (2 : Int)))) = zag n) ∧
    ((((n : Int).tmod (2 : Int)) == (1 : Int)) = false → IntKind.wrap .i64 (IntKind.wrap .u64 ((n : Int).tdiv (2 : Int))) = zag n) := by
  have hx : ∀ m : Nat, m < 18446744073709551616 → bitsV .xor .u64 (IntKind.max .u64) (m : Int) = ((18446744073709551615 - m : Nat) : Int) := by
    intro m hm
    show IntKind.wrap .u64 (((BitVec.ofInt 64 (IntKind.max .u64) ^^^ BitVec.ofInt 64 (m : Int)).toNat : Nat) : Int) = _
    have e1 : BitVec.ofInt 64 (IntKind.max .u64) = BitVec.allOnes 64 := by decide
    have e2 : BitVec.ofInt 64 (m : Int) = BitVec.ofNat 64 m := by simp
    rw [e1, e2, BitVec.allOnes_xor, BitVec.toNat_not, BitVec.toNat_ofNat, Nat.mod_eq_of_lt (by omega), wrap_u64 (by omega) (by omega)]
  have e1 : (n : Int).tmod 2 = ((n % 2 : Nat) : Int) := by rw [Int.tmod_eq_emod_of_nonneg (by omega)]; omega
  have e2 : (n : Int).tdiv 2 = ((n / 2 : Nat) : Int) := by rw [Int.tdiv_eq_ediv_of_nonneg (by omega)]; omega
  rw [e1, e2, wrap_u64 (n := ((n / 2 : Nat) : Int)) (by omega) (by omega)]
  refine ⟨fun e => ?_, fun e => ?_⟩
  · have e : n % 2 = 1 := by simp at e; omega
    rw [hx _ (by omega)]
    unfold zag
    rw [if_pos e]
    simp [IntKind.wrap, IntKind.bits, IntKind.signed]; omega
  · have e : ¬ n % 2 = 1 := by simp at e; omega
    unfold zag
    rw [if_neg e, wrap64 (by omega) (by omega)]
theorem iNum_lt (st : IS) : (iNum st).1 < 18446744073709551616 := by
  unfold iNum; split
  · exact (next_le st.s).2.1
  · show 0 < _; decide
theorem cIn_Int (hx : InAt B h x st) (hk : ∀ h', InAt B h' x (iNum st).2 → Chg B B h h' → K (.int .i64 (zag (iNum st).1)) h') : CallH Try.prog id_pack_In_Int [.pointer x] K h := by
  refine F_pack_In_Int_ok (cIn_Num hx fun h' hx' hc' => ⟨_, rfl, fun e => ?_, fun e => ?_⟩)
  · rw [(zag_prog (iNum_lt st)).1 e]; exact hk h' hx' hc'
  · rw [(zag_prog (iNum_lt st)).2 e]; exact hk h' hx' hc'
theorem cIn_Int' (hk : K (.int .i64 0) h) : CallH Try.prog id_pack_In_Int [.pointer none] K h :=
  F_pack_In_Int_ok (cIn_Num' ⟨_, rfl, fun e => absurd e (by decide), fun _ => hk⟩)
theorem cIn_Text {most : Int} (hx : InAt B h x st) (hm : most ≤ 9223372036854775807) (hk : ∀ h', InAt B h' x (iText st most).2 → Chg B B h h' → K (.string (mk (iText st most).1)) h') : CallH Try.prog id_pack_In_Text [.pointer x, .int .i64 most] K h := by
  refine F_pack_In_Text_ok (cIn_reads hx ⟨_, rfl, fun e => ?_, fun e => ?_⟩)
  · have e : ¬ st.e = 0 := by simpa using e
    simp only [iText, if_neg e] at hk
    exact hk h hx (Chg.refl _ _)
  · have e : st.e = 0 := by simpa using e
    simp only [iText, if_pos e] at hk
    have hx0 := hx
    obtain ⟨b, rfl, rfl, hb, hl⟩ := hx
    have hnn : (boundS st.s most).n ≤ st.s.length ∧ (boundS st.s most).n ≤ 10 ∧ ((boundS st.s most).e = 0 → ((boundS st.s most).v : Int) ≤ most) := by
      rcases bound_err st.s most with ⟨_, h2, h3, _⟩ | ⟨h1, h2⟩
      · exact ⟨by rw [h2]; exact (next_le st.s).1, by rw [h2]; exact (next_le st.s).2.2, fun _ => h3⟩
      · refine ⟨by rw [h2]; simp, by rw [h2]; simp, fun h => by omega⟩
    refine ⟨b, 0, rfl, _, rdsL hb rfl rfl, cBounded (by omega) hm ⟨_, _, _, rfl, fun st' h' => h' = h ∧ st'.1 = (textE st most : Int), ⟨b, 0, fun _ => rfl, _, fun _ => rdsL hb rfl rfl, fun e2 => ?_, fun e2 => ?_⟩, ?_⟩⟩
    · refine ⟨rfl, ?_⟩
      simp only [Bool.and_eq_true, decide_eq_true_eq, beq_iff_eq] at e2
      obtain ⟨e2, e3⟩ := e2
      rw [size_mk, wrap64 (by omega) (by omega)] at e3
      unfold textE
      rw [if_pos ⟨by omega, by omega⟩]; rfl
    · refine ⟨rfl, ?_⟩
      simp only [Bool.and_eq_false_iff, decide_eq_false_iff_not, beq_eq_false_iff_ne] at e2
      rw [size_mk, wrap64 (by omega) (by omega)] at e2
      unfold textE
      rw [if_neg (by rintro ⟨h1, h2⟩; omega)]
    · rintro ⟨_, u⟩ h1 ⟨rfl, rfl⟩
      dsimp only
      have hfit : textE st most = 0 → (boundS st.s most).e = 0 ∧ (boundS st.s most).v ≤ st.s.length - (boundS st.s most).n := fun he => by
        unfold textE at he
        split at he
        · cases he
        · rename_i hn; exact ⟨he, by omega⟩
      have hwr : textE st most = 0 → IntKind.wrap .i64 (((boundS st.s most).n : Int) + ((boundS st.s most).v : Int)) = (((boundS st.s most).n + (boundS st.s most).v : Nat) : Int) := fun he => by
        have := hfit he
        rw [wrap64 (by omega) (by omega)]; omega
      refine ⟨b, 0, rfl, _, rdsL hb rfl rfl, cIn_takes hx0 (fun he => ?_) fun h' hx' hc' => ⟨_, rfl, fun e2 => ?_, fun e2 => ?_⟩⟩
      · have := hfit he
        rw [hwr he]; omega
      · have e2 : ¬ textE st most = 0 := by simpa using e2
        rw [if_neg e2] at hk
        refine hk h' ?_ hc'
        have : ∀ n m, st.take n (textE st most) = st.take m (textE st most) := fun n m => by simp [IS.take, e2]
        rw [this 0]; exact hx'
      · have e2 : textE st most = 0 := by simpa using e2
        rw [if_pos e2] at hk
        have hf := hfit e2
        rw [hwr e2, size_mk, subS_mk]
        refine ⟨⟨by omega, by omega, by omega⟩, ?_⟩
        have h1 : ((((boundS st.s most).n + (boundS st.s most).v : Nat) : Int)).toNat - ((boundS st.s most).n : Int).toNat = (boundS st.s most).v := by omega
        rw [h1, Int.toNat_natCast]
        refine hk h' ?_ hc'
        rw [hwr e2, e2, Int.toNat_natCast] at hx'
        exact hx'
theorem cIn_Text' {most : Int} (hk : K (.string (mk [])) h) : CallH Try.prog id_pack_In_Text [.pointer none, .int .i64 most] K h :=
  F_pack_In_Text_ok (cIn_reads' ⟨_, rfl, fun _ => hk, nofun⟩)
theorem cIn_Byte (hx : InAt B h x st) (hk : ∀ h', InAt B h' x (iByte st).2 → Chg B B h h' → K (.int .u8 ((iByte st).1.toNat : Int)) h') : CallH Try.prog id_pack_In_Byte [.pointer x] K h := by
  refine F_pack_In_Byte_ok (cIn_reads hx ⟨_, rfl, fun e => ?_, fun e => ?_⟩)
  · have e : ¬ st.e = 0 := by simpa using e
    simp only [iByte, if_neg e] at hk
    exact hk h hx (Chg.refl _ _)
  · have e : st.e = 0 := by simpa using e
    simp only [iByte, if_pos e] at hk
    have hx0 := hx
    obtain ⟨b, rfl, rfl, hb, hl⟩ := hx
    refine ⟨b, 0, rfl, _, rdsL hb rfl rfl, fun e2 => ?_, fun e2 => ?_⟩
    · have e2 : st.s = [] := strEq_mk.1 e2
      rw [e2] at hk hb hl
      refine ⟨b, 0, rfl, stL hb rfl rfl fun h1 hb1 hc1 => hk h1 ⟨b, rfl, rfl, hb1, hl⟩ hc1⟩
    · have e2 : st.s ≠ [] := fun h => by rw [h] at e2; exact absurd e2 (by decide)
      obtain ⟨c, r, hs⟩ := List.exists_cons_of_ne_nil e2
      rw [hs] at hk
      refine ⟨b, 0, rfl, _, rdsL hb rfl rfl, ⟨by omega, by rw [size_mk, hs, List.length_cons]; omega⟩, cIn_takes (e := 0) hx0 (fun _ => ⟨by omega, by rw [hs, List.length_cons]; omega⟩) fun h' hx' hc' => ⟨_, rfl, ?_⟩⟩
      rw [byteAt_mk, hs]
      refine hk h' ?_ hc'
      rw [show st.take (1 : Int).toNat 0 = ⟨r, st.p + 1, 0⟩ by simp [IS.take, hs]] at hx'
      exact hx'
theorem cIn_Byte' (hk : K (.int .u8 0) h) : CallH Try.prog id_pack_In_Byte [.pointer none] K h :=
  F_pack_In_Byte_ok (cIn_reads' ⟨_, rfl, fun _ => hk, nofun⟩)
theorem cIn_Left (hx : InAt B h x st) (hk : K (.int .i64 (st.s.length : Int)) h) : CallH Try.prog id_pack_In_Left [.pointer x] K h := by
  obtain ⟨b, rfl, rfl, hb, hl⟩ := hx
  refine F_pack_In_Left_ok ⟨nofun, fun _ => ⟨b, 0, rfl, _, rdsL hb rfl rfl, ?_⟩⟩
  rw [size_mk]; exact hk
theorem cIn_Left' (hk : K (.int .i64 0) h) : CallH Try.prog id_pack_In_Left [.pointer none] K h :=
  F_pack_In_Left_ok ⟨fun _ => hk, nofun⟩
theorem cIn_Fault (hx : InAt B h x st) (hk : K (.tuple #[.int .i64 ((iFault st).1 : Int), .int .i64 ((iFault st).2 : Int)]) h) : CallH Try.prog id_pack_In_Fault [.pointer x] K h := by
  refine F_pack_In_Fault_ok (cIn_reads hx ⟨_, rfl, fun e => ?_, fun e => ?_⟩)
  · obtain ⟨b, rfl, rfl, hb, hl⟩ := hx
    have e : st.e = 0 := by simpa using e
    simp only [iFault, if_pos e] at hk; exact hk
  · obtain ⟨b, rfl, rfl, hb, hl⟩ := hx
    have e : ¬ st.e = 0 := by simpa using e
    simp only [iFault, if_neg e] at hk
    exact ⟨b, 0, rfl, _, rdsL hb rfl rfl, b, 0, rfl, _, rdsL hb rfl rfl, hk⟩
theorem cIn_Fault' (hk : K (.tuple #[.int .i64 0, .int .i64 0]) h) : CallH Try.prog id_pack_In_Fault [.pointer none] K h :=
  F_pack_In_Fault_ok (cIn_reads' ⟨_, rfl, fun _ => hk, fun e => absurd e (by decide)⟩)
theorem cIn_End (hx : InAt B h x st) (hk : K (.int .i64 (iEnd st : Int)) h) : CallH Try.prog id_pack_In_End [.pointer x] K h := by
  refine F_pack_In_End_ok (cIn_Fault hx ⟨_, _, rfl, fun e => ?_, fun e => ?_⟩)
  · have e : st.e = 0 := by
      unfold iFault at e; split at e
      · assumption
      · simp at e; omega
    refine cIn_Left hx ⟨_, rfl, fun e2 => ?_, fun e2 => ?_⟩
    · have e2 : st.s ≠ [] := fun h => by rw [h] at e2; exact absurd e2 (by decide)
      simp only [iEnd, if_pos (And.intro e e2)] at hk; exact hk
    · have e2 : st.s = [] := by
        rw [← List.length_eq_zero_iff]
        simp at e2; simp [e2]
      simp only [iEnd, e2, e] at hk
      simp only [iFault, e, if_true]; exact hk
  · have e : ¬ st.e = 0 := fun h => by unfold iFault at e; rw [if_pos h] at e; exact absurd e (by decide)
    simp only [iEnd, iFault, if_neg e, if_neg (fun h => e (And.left h))] at hk ⊢; exact hk
theorem cIn_End' (hk : K (.int .i64 0) h) : CallH Try.prog id_pack_In_End [.pointer none] K h :=
  F_pack_In_End_ok (cIn_Fault' ⟨_, _, rfl, fun _ => cIn_Left' ⟨_, rfl, fun e => absurd e (by decide), fun _ => hk⟩, fun e => absurd e (by decide)⟩)
end TL

namespace TL
open Go Go.Proofs
variable {B : List Nat} {h : PH} {x : Option Addr} {K : Value → PH → Prop} {st : IS}

/-! ### The document's numbers -/
theorem str1 {b : Nat} {v : UInt8} {z : Value} {T : TypeId} (hz : z = .int .u8 (v.toNat : Int)) (hb : h b = some (.cells [z].toArray T (0, 0))) : strH h (some ⟨b, 0, none⟩) 1 (mk [v]) := (SR.one hz hb).str
theorem cR_Num {n : Nat} (hn : n < 18446744073709551616) (hk : ∀ h', h.Sub h' → K (.string (mk (numL n))) h') : CallH Try.prog id_ref01_Num [.int .u64 (n : Int)] K h := by
  have hle := numL_le hn
  refine F_ref01_Num_ok (LoopP.ind (fun (st : ByteArray × Int × Unit) h' => ∃ (m : Nat) (p : List UInt8), st.1 = mk p ∧ st.2.1 = (m : Int) ∧ m < 18446744073709551616 ∧ p ++ numL m = numL n ∧ h.Sub h') (fun st _ => st.2.1.toNat) ?_ ⟨n, [], rfl, rfl, hn, rfl, fun _ _ e => e⟩)
  rintro ⟨_, _, u⟩ h1 ⟨m, p, rfl, rfl, hm, hp, hs⟩
  dsimp only
  have hpl := congrArg List.length hp
  rw [List.length_append] at hpl
  refine ⟨fun e => ?_, fun e => ?_⟩
  · have e : 128 ≤ m := by simp at e; omega
    have e1 : ((m : Int).tmod 128) = ((m % 128 : Nat) : Int) := by rw [Int.tmod_eq_emod_of_nonneg (by omega)]; omega
    have e2 : ((m : Int).tdiv 128) = ((m / 128 : Nat) : Int) := by rw [Int.tdiv_eq_ediv_of_nonneg (by omega)]; omega
    rw [e1, e2, wrap_u64 (n := 128 + ((m % 128 : Nat) : Int)) (by omega) (by omega), wrap_u8 (by omega) (by omega), wrap_u64 (by omega) (by omega)]
    refine nwL (cs := [_]) fun b h2 hb0 hb1 hc1 => ⟨mk [UInt8.ofNat (128 + m % 128)], str1 (by rw [u8 (by omega)]; rfl) hb1, ?_, ⟨m / 128, p ++ [UInt8.ofNat (128 + m % 128)], by rw [mk_append], rfl, by omega, ?_, fun b o e => hc1.sub0 b o (hs b o e)⟩, by omega⟩
    · rw [size_mk, size_mk]; simp; omega
    · rw [List.append_assoc, List.singleton_append, ← numL_step hm e, hp]
  · have e : m < 128 := by simp at e; omega
    rw [wrap_u8 (by omega) (by omega)]
    refine nwL (cs := [_]) fun b h2 hb0 hb1 hc1 => ⟨mk [UInt8.ofNat m], str1 (by rw [u8 (by omega)]) hb1, ?_, ?_⟩
    · rw [size_mk, size_mk]; simp; omega
    · rw [mk_append, ← numL_small e, hp]
      exact hk h2 fun b o e => hc1.sub0 b o (hs b o e)
theorem cR_Zig {n : Int} (h1 : -9223372036854775808 ≤ n) (h2 : n ≤ 9223372036854775807) (hk : K (.int .u64 (zig n : Int)) h) : CallH Try.prog id_ref01_Zig [.int .i64 n] K h := by
  refine F_ref01_Zig_ok ⟨fun e => ?_, fun e => ?_⟩
  · have e : n < 0 := by simpa using e
    rw [wrap64 (n := n + 1) (by omega) (by omega), wrap64 (n := 0 - (n + 1)) (by omega) (by omega), wrap_u64 (n := 0 - (n + 1)) (by omega) (by omega), wrap_u64 (n := 2 * _) (by omega) (by omega), wrap_u64 (by omega) (by omega)]
    have : 2 * (0 - (n + 1)) + 1 = (zig n : Int) := by unfold zig; rw [if_pos e]; omega
    rw [this]; exact hk
  · have e : ¬ n < 0 := by simpa using e
    rw [wrap_u64 (n := n) (by omega) (by omega), wrap_u64 (by omega) (by omega)]
    have : 2 * n = (zig n : Int) := by unfold zig; rw [if_neg e]; omega
    rw [this]; exact hk
theorem cR_Zag {n : Nat} (hn : n < 18446744073709551616) (hk : K (.int .i64 (zag n)) h) : CallH Try.prog id_ref01_Zag [.int .u64 (n : Int)] K h := by
  have e1 : (n : Int).tmod 2 = ((n % 2 : Nat) : Int) := by rw [Int.tmod_eq_emod_of_nonneg (by omega)]; omega
  have e2 : (n : Int).tdiv 2 = ((n / 2 : Nat) : Int) := by rw [Int.tdiv_eq_ediv_of_nonneg (by omega)]; omega
  refine F_ref01_Zag_ok ?_
  unfold F_ref01_Zag
  rw [e1, e2, wrap_u64 (n := ((n / 2 : Nat) : Int)) (by omega) (by omega), wrap64 (n := ((n / 2 : Nat) : Int)) (by omega) (by omega), wrap64 (n := -1 - ((n / 2 : Nat) : Int)) (by omega) (by omega)]
  unfold zag at hk
  refine ⟨fun e => ?_, fun e => ?_⟩
  · rw [if_pos (by simp at e; omega)] at hk; exact hk
  · rw [if_neg (by simp at e; omega)] at hk; exact hk
theorem cR_Text {s : List UInt8} (hs : s.length ≤ 4611686018427387904) (hk : ∀ h', h.Sub h' → K (.string (mk (textL s))) h') : CallH Try.prog id_ref01_Text [.string (mk s)] K h := by
  refine F_ref01_Text_ok ?_
  unfold F_ref01_Text
  rw [size_mk, wrap_u64 (by omega) (by omega)]
  have hle := numL_le (n := s.length) (by omega)
  refine cR_Num (by omega) fun h' hs' => ⟨_, rfl, ?_, ?_⟩
  · rw [size_mk]; omega
  · rw [mk_append]; exact hk h' hs'
theorem cR_Value {l : List UInt8} (hl : l.length ≤ 10) (hk : ∀ h', h.Sub h' → K (.tuple #[.int .u64 ((valB l % 18446744073709551616 : Nat) : Int), .bool (decide (numL (valB l % 18446744073709551616) = l))]) h') : CallH Try.prog id_ref01_Value [.string (mk l)] K h := by
  refine F_ref01_Value_ok ?_
  unfold F_ref01_Value
  rw [size_mk, wrap64 (n := (l.length : Int) - 1) (by omega) (by omega)]
  refine LoopP.ind (fun (st : Int × Int × Unit) h' => h' = h ∧ ∃ j : Nat, st.2.1 = (j : Int) - 1 ∧ j ≤ l.length ∧ st.1 = ((valB (l.drop j) % 18446744073709551616 : Nat) : Int)) (fun st _ => (st.2.1 + 1).toNat) ?_ ⟨rfl, l.length, by rfl, Nat.le_refl _, by rw [List.drop_length]; rfl⟩
  rintro ⟨_, _, u⟩ h2 ⟨rfl, j, rfl, hj, rfl⟩
  dsimp only
  refine ⟨fun e => ?_, fun e => ?_⟩
  · have e : 1 ≤ j := by simp at e; omega
    obtain ⟨j, rfl⟩ : ∃ j', j = j' + 1 := ⟨j - 1, by omega⟩
    have hjl : j < l.length := by omega
    have hdr := List.drop_eq_getElem_cons hjl
    have hb : byteAt (mk l) (((j + 1 : Nat) : Int) - 1) = ((l[j]).toNat : Int) := by
      rw [byteAt_mk, show (((j + 1 : Nat) : Int) - 1).toNat = j by omega]
      simp [List.getD, hjl]
    have hvd : valB (l.drop j) = (l[j]).toNat % 128 + 128 * valB (l.drop (j + 1)) := by rw [hdr]; rfl
    rw [hb]
    refine ⟨by omega, ⟨rfl, j, ?_, by omega, ?_⟩, ?_⟩
    · rw [wrap64 (by omega) (by omega)]; omega
    · rw [hvd, show (((l[j]).toNat : Int).tmod 128) = ((((l[j]).toNat % 128 : Nat)) : Int) by rw [Int.tmod_eq_emod_of_nonneg (by omega)]; omega]
      simp only [IntKind.wrap, IntKind.bits, IntKind.signed]
      simp; omega
    · rw [wrap64 (by omega) (by omega)]; omega
  · have e : j = 0 := by simp at e; omega
    subst e
    rw [List.drop_zero]
    refine cR_Num (by omega) fun h' hs' => ⟨_, rfl, ?_⟩
    rw [strEq_mk']; exact hk h' hs'
theorem next_ok {l : List UInt8} {v : Nat} (hv : v < 18446744073709551616) {k : Nat} (h : numL v = l.take k) (hk : k ≤ l.length) : nextS l = ⟨v, k, 0⟩ := by
  have := next_num hv (l.drop k)
  rw [h, List.take_append_drop, List.length_take, Nat.min_eq_left hk] at this
  exact this
theorem next_bad {l : List UInt8} (h1 : lead 10 l < 10) (h2 : lead 10 l < l.length) (h : ¬ numL (valB (l.take (lead 10 l + 1)) % 18446744073709551616) = l.take (lead 10 l + 1)) : nextS l = ⟨0, 0, 8⟩ := by
  rcases next_err l with h3 | ⟨h3, h4⟩
  · obtain ⟨h5, h6, h7⟩ := next_inv (v := (nextS l).v) (n := (nextS l).n) (by rw [← h3])
    exfalso
    have hc := numL_chain h5
    have hp := numL_pos (nextS l).v
    have hlead : lead 10 l = (numL (nextS l).v).length - 1 := by
      conv => lhs; rw [h7]
      exact lead_chain hc (numL_le h5)
    have ht : l.take (lead 10 l + 1) = numL (nextS l).v := by
      rw [hlead, Nat.sub_add_cancel hp]
      have h8 := congrArg (List.take (numL (nextS l).v).length) h7
      rw [List.take_left] at h8; exact h8
    rw [ht, numL_val h5, Nat.mod_eq_of_lt h5] at h
    exact h rfl
  · rcases h3 with h3 | h3
    · exfalso
      unfold nextS at h3; simp only at h3
      rw [if_neg (by omega), if_neg (by omega)] at h3
      split at h3
      · cases h3
      · split at h3 <;> cases h3
    · rw [h4, h3]
/-- the document's reader -/
def RIn (B : List Nat) (h : PH) (x : Option Addr) (S : List UInt8) (st : IS) : Prop :=
  ∃ b, x = some ⟨b, 0, none⟩ ∧ B = [b] ∧ h b = some (.cells [.string (mk S), .int .i64 (st.p : Int), .int .i64 (st.e : Int)].toArray T_ref01_In (0, 0)) ∧ st.s = S.drop st.p ∧ st.p ≤ S.length ∧ S.length ≤ 4611686018427387904
variable {S : List UInt8}
theorem RIn.chg {C C' : List Nat} {h' : PH} (hx : RIn B h x S st) (c : Chg C C' h h') (d : Dj B C) : RIn B h' x S st := by
  obtain ⟨b, rfl, rfl, hb, hl⟩ := hx
  exact ⟨b, rfl, rfl, c.keep hb (d b List.mem_cons_self), hl⟩
theorem RIn.has (hx : RIn B h x S st) : Has B h := by
  obtain ⟨b, rfl, rfl, hb, hl⟩ := hx
  intro b' hm
  rw [List.mem_singleton] at hm; subst hm; exact ⟨_, hb⟩
theorem RIn.sub {h' : PH} (hx : RIn B h x S st) (s : h.Sub h') : RIn B h' x S st := by
  obtain ⟨b, rfl, rfl, hb, hl⟩ := hx
  exact ⟨b, rfl, rfl, s _ _ hb, hl⟩
theorem cR_next (hx : RIn B h x S st) (hk : ∀ h', h.Sub h' → K (.tuple #[.int .u64 ((nextS st.s).v : Int), .int .i64 ((nextS st.s).n : Int), .int .i64 ((nextS st.s).e : Int)]) h') : CallH Try.prog id_ref01_In_next [.pointer x] K h := by
  obtain ⟨b, rfl, rfl, hb, hs, hp, hl⟩ := hx
  generalize hq : st.s = l at *
  have hll : l.length = S.length - st.p := by rw [hs, List.length_drop]
  have hle := lead_le 10 l
  refine F_ref01_In_next_ok (LoopP.ind (fun (z : Int × Unit) h' => h' = h ∧ ∃ j : Nat, z.1 = (j : Int) + 1 ∧ j ≤ lead 10 l) (fun z _ => (11 - z.1).toNat) ?_ ⟨rfl, 0, rfl, Nat.zero_le _⟩)
  rintro ⟨_, u⟩ h1 ⟨rfl, j, rfl, hj⟩
  dsimp only
  refine ⟨fun e => ?_, fun e => ?_⟩
  · have e : j < 10 := by simp at e; omega
    refine ⟨b, 0, rfl, _, rdsL hb rfl rfl, b, 0, rfl, _, rdsL hb rfl rfl, fun e2 => ?_, fun e2 => ?_⟩
    · rw [size_mk] at e2
      have e2 : l.length = lead 10 l ∧ lead 10 l < 10 := by
        simp only [decide_eq_true_eq] at e2
        rw [wrap64 (by omega) (by omega)] at e2; omega
      have : nextS l = ⟨0, 0, 7⟩ := by
        unfold nextS; simp only
        rw [if_neg (by omega), if_pos e2.1.symm]
      rw [this] at hk
      exact hk h1 fun _ _ e => e
    · rw [size_mk] at e2
      have e2 : j < l.length := by
        simp only [decide_eq_false_iff_not] at e2
        rw [wrap64 (by omega) (by omega)] at e2; omega
      have hjb : byteAt (mk S) (((st.p : Int) + ((j : Int) + 1)) - 1) = ((l[j]).toNat : Int) := by
        rw [byteAt_mk, show ((st.p : Int) + ((j : Int) + 1) - 1).toNat = st.p + j by omega]
        simp only [hs, List.getElem_drop]
        simp [List.getD, show st.p + j < S.length by omega]
      have hl0 : l[j]? = some l[j] := List.getElem?_eq_getElem e2
      refine ⟨b, 0, rfl, _, rdsL hb rfl rfl, b, 0, rfl, _, rdsL hb rfl rfl, ?_⟩
      rw [wrap64 (n := (st.p : Int) + ((j : Int) + 1)) (by omega) (by omega), wrap64 (n := (st.p : Int) + ((j : Int) + 1) - 1) (by omega) (by omega), hjb]
      refine ⟨⟨by omega, by rw [size_mk]; omega⟩, fun e3 => ?_, fun e3 => ?_⟩
      · have e3 : (l[j]).toNat < 128 := by simp at e3; omega
        have hjl : j = lead 10 l := by
          rcases Nat.lt_or_ge j (lead 10 l) with h | h
          · obtain ⟨c, h1, h2⟩ := lead_all h
            rw [hl0] at h1; cases h1; omega
          · omega
        have htk : subS (mk S) (st.p : Int) ((st.p : Int) + ((j : Int) + 1)) = mk (l.take (j + 1)) := by
          rw [subS_mk, hs, Int.toNat_natCast, show ((st.p : Int) + ((j : Int) + 1)).toNat - st.p = j + 1 by omega]
        refine ⟨b, 0, rfl, _, rdsL hb rfl rfl, b, 0, rfl, _, rdsL hb rfl rfl, b, 0, rfl, _, rdsL hb rfl rfl, ?_⟩
        rw [wrap64 (n := (st.p : Int) + ((j : Int) + 1)) (by omega) (by omega), htk]
        refine ⟨⟨by omega, by omega, by rw [size_mk]; omega⟩, cR_Value (by rw [List.length_take]; omega) fun h2 s2 => ⟨_, _, rfl, fun e4 => ?_, fun e4 => ?_⟩⟩
        · have e4 : ¬ numL (valB (l.take (j + 1)) % 18446744073709551616) = l.take (j + 1) := by simpa using e4
          have := next_bad (l := l) (by omega) (by omega) (by rw [← hjl]; exact e4)
          rw [this] at hk
          exact hk h2 s2
        · have e4 : numL (valB (l.take (j + 1)) % 18446744073709551616) = l.take (j + 1) := by simpa using e4
          have := next_ok (by omega) e4 (by omega)
          rw [this] at hk
          exact hk h2 s2
      · have e3 : 128 ≤ (l[j]).toNat := by simp at e3; omega
        have hjl : j < lead 10 l := by
          rcases Nat.lt_or_ge j (lead 10 l) with h | h
          · exact h
          · have hj' : j = lead 10 l := by omega
            have := lead_stop (k := 10) (l := l) (b := l[j]) (by omega) (by rw [← hj']; exact hl0)
            omega
        rw [wrap64 (n := (j : Int) + 1 + 1) (by omega) (by omega)]
        exact ⟨⟨rfl, j + 1, by omega, by omega⟩, by omega⟩
  · have e : lead 10 l = 10 := by simp at e; omega
    have : nextS l = ⟨0, 0, 8⟩ := by
      unfold nextS; simp only
      rw [if_pos e]
    rw [this] at hk
    exact hk h1 fun _ _ e => e
theorem take_p {S : List UInt8} {st : IS} {n e : Nat} (hs : st.s = S.drop st.p) (hp : st.p ≤ S.length) (hn : e = 0 → n ≤ st.s.length) : (st.take n e).s = S.drop (st.take n e).p ∧ (st.take n e).p ≤ S.length := by
  unfold IS.take
  split
  · rename_i h
    have := hn h
    rw [hs, List.length_drop] at this
    exact ⟨by simp [hs], by show st.p + n ≤ S.length; omega⟩
  · exact ⟨hs, hp⟩
theorem cR_INum (hx : RIn B h x S st) (hk : ∀ h', RIn B h' x S (iNum st).2 → Chg B B h h' → K (.int .u64 ((iNum st).1 : Int)) h') : CallH Try.prog id_ref01_In_Num [.pointer x] K h := by
  have hx0 := hx
  obtain ⟨b, rfl, rfl, hb, hs, hp, hl⟩ := hx
  refine F_ref01_In_Num_ok ⟨b, 0, rfl, _, rdsL hb rfl rfl, fun e => ?_, fun e => ?_⟩
  · have e : ¬ st.e = 0 := by simp at e; omega
    simp only [iNum, if_neg e] at hk
    exact hk h hx0 (Chg.refl _ _)
  · have e : st.e = 0 := by simp at e; omega
    simp only [iNum, if_pos e] at hk
    have hnn := next_le st.s
    have hpl : st.s.length = S.length - st.p := by rw [hs, List.length_drop]
    refine cR_next hx0 fun h1 s1 => ⟨_, _, _, rfl, b, 0, rfl, ?_⟩
    have hb1 := s1 _ _ hb
    refine stL (cs' := [.string (mk S), .int .i64 (st.p : Int), .int .i64 ((nextS st.s).e : Int)]) hb1 rfl rfl fun h2 hb2 hc2 => ⟨b, 0, rfl, _, rdsL hb2 rfl rfl, b, 0, rfl, ?_⟩
    rw [wrap64 (n := (st.p : Int) + ((nextS st.s).n : Int)) (by omega) (by omega)]
    refine stL (cs' := [.string (mk S), .int .i64 ((st.p : Int) + ((nextS st.s).n : Int)), .int .i64 ((nextS st.s).e : Int)]) hb2 rfl rfl fun h3 hb3 hc3 => ?_
    have hc0 : Chg [b] [b] h h1 := ⟨fun b o _ e => s1 b o e, fun _ h => .inl h⟩
    refine hk h3 ⟨b, rfl, rfl, ?_, (take_p hs hp fun _ => hnn.1).1, (take_p hs hp fun _ => hnn.1).2, hl⟩ ((hc0.trans hc2).trans hc3)
    rw [hb3]
    rcases next_err st.s with h4 | ⟨_, h4⟩
    · simp only [IS.take, h4]; rfl
    · have : (nextS st.s).e ≠ 0 := by rcases next_err st.s with h5 | ⟨h5, _⟩ <;> rw [h4] <;> simp <;> omega
      simp only [IS.take, if_neg this]
      rw [h4]; simp
end TL

namespace TL
open Go Go.Proofs
variable {B : List Nat} {h : PH} {x : Option Addr} {K : Value → PH → Prop} {st : IS} {S : List UInt8}

theorem cR_IMost {most : Int} (hm : most ≤ 9223372036854775807) (hx : RIn B h x S st) (hk : ∀ h', RIn B h' x S (iMost st most).2 → Chg B B h h' → K (.int .i64 ((iMost st most).1 : Int)) h') : CallH Try.prog id_ref01_In_Most [.pointer x, .int .i64 most] K h := by
  have hx0 := hx
  obtain ⟨b, rfl, rfl, hb, hs, hp, hl⟩ := hx
  refine F_ref01_In_Most_ok ⟨b, 0, rfl, _, rdsL hb rfl rfl, cR_INum hx0 fun h1 hx1 hc1 => ⟨_, rfl, ?_⟩⟩
  have hx10 := hx1
  obtain ⟨b', hbe, _, hb1, hs1, hp1, _⟩ := hx1
  cases hbe
  refine ⟨b, 0, rfl, _, rdsL hb1 rfl rfl, fun e => ?_, fun e => ?_⟩
  · have e : ¬ (iNum st).2.e = 0 := by simp at e; omega
    by_cases h0 : st.e = 0
    · simp only [iNum, if_pos h0] at e hx10
      have hne : (nextS st.s).e ≠ 0 := by
        intro h1; apply e; simp [IS.take, h1]
      have hbd : boundS st.s most = nextS st.s := by unfold boundS; rw [if_neg (fun h => hne h.1)]
      simp only [iMost, if_pos h0, hbd] at hk
      have hv := (next_err st.s).resolve_left hne
      have := hk h1 hx10 hc1
      rw [hv.2] at this; exact this
    · simp only [iNum, if_neg h0] at hx10
      simp only [iMost, if_neg h0] at hk
      exact hk h1 hx10 hc1
  · have e : (iNum st).2.e = 0 := by simp at e; omega
    have h0 : st.e = 0 := by
      by_cases h0 : st.e = 0
      · exact h0
      · simp only [iNum, if_neg h0] at e; exact e
    simp only [iNum, if_pos h0] at e hx10 hb1 hs1 hp1
    have hne : (nextS st.s).e = 0 := by
      by_cases h1 : (nextS st.s).e = 0
      · exact h1
      · simp only [IS.take, if_neg h1] at e; exact e
    have hv := (next_le st.s).2.1
    rw [show (iNum st).1 = (nextS st.s).v by simp [iNum, h0]]
    refine ⟨fun e2 => ?_, fun e2 => ?_⟩
    · have e2 : most < 0 ∨ most < ((nextS st.s).v : Int) := by
        simp only [Bool.or_eq_true, decide_eq_true_eq] at e2
        rcases e2 with e2 | e2
        · exact .inl e2
        · rcases Int.lt_or_le most 0 with h | h
          · exact .inl h
          · rw [wrap_u64 h (by omega)] at e2; exact .inr e2
      have hbd : boundS st.s most = ⟨0, 0, 8⟩ := by unfold boundS; rw [if_pos ⟨hne, e2⟩]
      simp only [iMost, if_pos h0, hbd] at hk
      refine ⟨b, 0, rfl, stL hb1 rfl rfl fun h2 hb2 hc2 => ⟨b, 0, rfl, stL hb2 rfl rfl fun h3 hb3 hc3 => ?_⟩⟩
      exact hk h3 ⟨b, rfl, rfl, hb3, hs, hp, hl⟩ ((hc1.trans hc2).trans hc3)
    · have e2 : ¬ (most < 0 ∨ most < ((nextS st.s).v : Int)) := by
        simp only [Bool.or_eq_false_iff, decide_eq_false_iff_not] at e2
        obtain ⟨e2, e3⟩ := e2
        rw [wrap_u64 (by omega) (by omega)] at e3; omega
      have hbd : boundS st.s most = nextS st.s := by unfold boundS; rw [if_neg (fun h => e2 h.2)]
      simp only [iMost, if_pos h0, hbd] at hk
      rw [wrap64 (by omega) (by omega)]
      exact hk h1 hx10 hc1
theorem cR_IText {most : Int} (hm : most ≤ 9223372036854775807) (hx : RIn B h x S st) (hk : ∀ h', RIn B h' x S (iText st most).2 → Chg B B h h' → K (.string (mk (iText st most).1)) h') : CallH Try.prog id_ref01_In_Text [.pointer x, .int .i64 most] K h := by
  have hx0 := hx
  obtain ⟨b, rfl, rfl, hb, hs, hp, hl⟩ := hx
  refine F_ref01_In_Text_ok ⟨b, 0, rfl, _, rdsL hb rfl rfl, cR_IMost hm hx0 fun h1 hx1 hc1 => ⟨_, rfl, JoinP.here ?_⟩⟩
  have hx10 := hx1
  obtain ⟨b', hbe, _, hb1, hs1, hp1, _⟩ := hx1
  cases hbe
  have hpl1 : (iMost st most).2.s.length = S.length - (iMost st most).2.p := by rw [hs1, List.length_drop]
  have hkk : ∀ st' : IS, (iText st most).2 = st' → ∀ s' : List UInt8, (iText st most).1 = s' → ∀ h', RIn [b] h' (some ⟨b, 0, none⟩) S st' → Chg [b] [b] h h' → K (.string (mk s')) h' := by
    intro st' e1 s' e2 h' r c; subst e1; subst e2; exact hk h' r c
  clear hk
  have hnn : st.e = 0 → (boundS st.s most).e = 0 → (boundS st.s most).n ≤ st.s.length ∧ ((boundS st.s most).v : Int) ≤ most := fun _ h1 => by
    rcases bound_err st.s most with ⟨_, h2, h3, _⟩ | ⟨h2, _⟩
    · exact ⟨by rw [h2]; exact (next_le st.s).1, h3⟩
    · omega
  have hst : (iMost st most).2.e = 0 → st.e = 0 ∧ (boundS st.s most).e = 0 ∧ (iMost st most).2 = ⟨st.s.drop (boundS st.s most).n, st.p + (boundS st.s most).n, 0⟩ ∧ (iMost st most).1 = (boundS st.s most).v := fun e => by
    by_cases h0 : st.e = 0
    · simp only [iMost, if_pos h0] at e ⊢
      by_cases h1 : (boundS st.s most).e = 0
      · refine ⟨h0, h1, by simp [IS.take, h1], ?_⟩
        first | rfl | trivial
      · simp only [IS.take, if_neg h1] at e; exact absurd e h1
    · simp only [iMost, if_neg h0] at e; exact absurd e h0
  have hbad : ¬ (iMost st most).2.e = 0 → iText st most = ([], (iMost st most).2) := fun e => by
    by_cases h0 : st.e = 0
    · simp only [iMost, if_pos h0] at e
      have h1 : (boundS st.s most).e ≠ 0 := fun h1 => e (by simp [IS.take, h1])
      have ht : textE st most = (boundS st.s most).e := by unfold textE; rw [if_neg (fun h => h1 h.1)]
      simp only [iText, iMost, if_pos h0, ht, if_neg h1]
      simp [IS.take, h1]
    · simp only [iText, iMost, if_neg h0]
  refine ⟨b, 0, rfl, _, rdsL hb1 rfl rfl, b, 0, fun _ => rfl, _, fun _ => rdsL hb1 rfl rfl, b, 0, fun _ => rfl, _, fun _ => rdsL hb1 rfl rfl, fun e => ?_, fun e => ?_⟩
  · simp only [Bool.and_eq_true, decide_eq_true_eq, beq_iff_eq] at e
    obtain ⟨e1, e2⟩ := e
    have e1 : (iMost st most).2.e = 0 := by omega
    obtain ⟨h0, h1e, h2, h3⟩ := hst e1
    rw [size_mk, wrap64 (by omega) (by omega), h3, h2] at e2
    have hn := hnn h0 h1e
    have hsl : st.s.length = S.length - st.p := by rw [hs, List.length_drop]
    have ht : textE st most = 7 := by
      unfold textE; rw [if_pos ⟨h1e, by simp only at e2; omega⟩]
    have htx : iText st most = ([], st.take 0 7) := by simp [iText, h0, ht]
    refine ⟨b, 0, rfl, stL hb1 rfl rfl fun h2 hb2 hc2 => ⟨b, 0, rfl, stL hb2 rfl rfl fun h3 hb3 hc3 => ⟨b, 0, rfl, _, rdsL hb3 rfl rfl, fun _ => ?_, fun e => absurd e (by decide)⟩⟩⟩
    exact hkk ⟨st.s, st.p, 7⟩ (by rw [htx]; simp [IS.take]) [] (by rw [htx]) h3 ⟨b, rfl, rfl, hb3, hs, hp, hl⟩ ((hc1.trans hc2).trans hc3)
  · refine ⟨b, 0, rfl, _, rdsL hb1 rfl rfl, fun e2 => ?_, fun e2 => ?_⟩
    · have e2 : ¬ (iMost st most).2.e = 0 := by simp at e2; omega
      exact hkk _ (by rw [hbad e2]) [] (by rw [hbad e2]) h1 hx10 hc1
    · have e2 : (iMost st most).2.e = 0 := by simp at e2; omega
      simp only [Bool.and_eq_false_iff, decide_eq_false_iff_not, beq_eq_false_iff_ne] at e
      obtain ⟨h0, h1e, h2, h3⟩ := hst e2
      have hn := hnn h0 h1e
      have hsl : st.s.length = S.length - st.p := by rw [hs, List.length_drop]
      rw [size_mk, wrap64 (by omega) (by omega), h3, h2] at e
      have hfit : (boundS st.s most).v ≤ st.s.length - (boundS st.s most).n := by
        rw [h2] at hp1
        simp only at e hp1; omega
      have ht : textE st most = 0 := by unfold textE; rw [if_neg (by rintro ⟨_, h⟩; omega)]; exact h1e
      rw [h3]
      rw [h2] at hb1 hs1 hp1
      simp only at hb1 hs1 hp1
      refine ⟨b, 0, rfl, _, rdsL hb1 rfl rfl, b, 0, rfl, ?_⟩
      rw [wrap64 (n := ((st.p + (boundS st.s most).n : Nat) : Int) + ((boundS st.s most).v : Int)) (by omega) (by omega)]
      refine stL (cs' := [.string (mk S), .int .i64 (((st.p + (boundS st.s most).n : Nat) : Int) + ((boundS st.s most).v : Int)), .int .i64 0]) hb1 rfl rfl fun h4 hb4 hc4 => ⟨b, 0, rfl, _, rdsL hb4 rfl rfl, b, 0, rfl, _, rdsL hb4 rfl rfl, b, 0, rfl, _, rdsL hb4 rfl rfl, ?_⟩
      rw [show ((st.p + (boundS st.s most).n : Nat) : Int) + ((boundS st.s most).v : Int) - ((boundS st.s most).v : Int) = ((st.p + (boundS st.s most).n : Nat) : Int) by omega, wrap64 (by omega) (by omega), size_mk, subS_mk]
      refine ⟨⟨by omega, by omega, by omega⟩, ?_⟩
      have htx : iText st most = ((st.s.drop (boundS st.s most).n).take (boundS st.s most).v, st.take ((boundS st.s most).n + (boundS st.s most).v) 0) := by simp [iText, h0, ht]
      have hpos := take_p (n := (boundS st.s most).n + (boundS st.s most).v) (e := 0) hs hp (fun _ => by omega)
      refine hkk (st.take ((boundS st.s most).n + (boundS st.s most).v) 0) (by rw [htx]) _ ?_ h4 ⟨b, rfl, rfl, ?_, hpos.1, hpos.2, hl⟩ (hc1.trans hc4)
      · simp only [htx]
        rw [hs1, Int.toNat_natCast, show (((st.p + (boundS st.s most).n : Nat) : Int) + ((boundS st.s most).v : Int)).toNat - (st.p + (boundS st.s most).n) = (boundS st.s most).v by omega]
      · rw [hb4]
        simp only [IS.take, if_pos]
        rw [show ((st.p + ((boundS st.s most).n + (boundS st.s most).v) : Nat) : Int) = ((st.p + (boundS st.s most).n : Nat) : Int) + ((boundS st.s most).v : Int) by omega]
        rfl
theorem cR_IByte (hx : RIn B h x S st) (hk : ∀ h', RIn B h' x S (iByte st).2 → Chg B B h h' → K (.int .u8 ((iByte st).1.toNat : Int)) h') : CallH Try.prog id_ref01_In_Byte [.pointer x] K h := by
  have hx0 := hx
  obtain ⟨b, rfl, rfl, hb, hs, hp, hl⟩ := hx
  have hsl : st.s.length = S.length - st.p := by rw [hs, List.length_drop]
  refine F_ref01_In_Byte_ok (JoinP.here ⟨b, 0, rfl, _, rdsL hb rfl rfl, b, 0, fun _ => rfl, _, fun _ => rdsL hb rfl rfl, b, 0, fun _ => rfl, _, fun _ => rdsL hb rfl rfl, fun e => ?_, fun e => ?_⟩)
  · simp only [Bool.and_eq_true, decide_eq_true_eq, beq_iff_eq] at e
    obtain ⟨e1, e2⟩ := e
    have h0 : st.e = 0 := by omega
    rw [size_mk] at e2
    have hnil : st.s = [] := List.length_eq_zero_iff.1 (by omega)
    have hi : iByte st = (0, ⟨[], st.p, 7⟩) := by simp [iByte, h0, hnil]
    rw [hi] at hk
    refine ⟨b, 0, rfl, stL hb rfl rfl fun h1 hb1 hc1 => ⟨b, 0, rfl, _, rdsL hb1 rfl rfl, fun _ => ?_, fun e => absurd e (by decide)⟩⟩
    exact hk h1 ⟨b, rfl, rfl, hb1, by rw [← hs, hnil], hp, hl⟩ hc1
  · refine ⟨b, 0, rfl, _, rdsL hb rfl rfl, fun e2 => ?_, fun e2 => ?_⟩
    · have h0 : ¬ st.e = 0 := by simp at e2; omega
      simp only [iByte, if_neg h0] at hk
      exact hk h hx0 (Chg.refl _ _)
    · have h0 : st.e = 0 := by simp at e2; omega
      simp only [Bool.and_eq_false_iff, decide_eq_false_iff_not, beq_eq_false_iff_ne] at e
      rw [size_mk] at e
      have hlt : st.p < S.length := by omega
      have hdr : st.s = S[st.p] :: S.drop (st.p + 1) := by rw [hs]; exact List.drop_eq_getElem_cons hlt
      have hi : iByte st = (S[st.p], ⟨S.drop (st.p + 1), st.p + 1, 0⟩) := by simp only [iByte, h0, if_true]; rw [hdr]
      rw [hi] at hk
      refine ⟨b, 0, rfl, _, rdsL hb rfl rfl, b, 0, rfl, ?_⟩
      rw [wrap64 (n := (st.p : Int) + 1) (by omega) (by omega)]
      refine stL (cs' := [.string (mk S), .int .i64 ((st.p : Int) + 1), .int .i64 (st.e : Int)]) hb rfl rfl fun h1 hb1 hc1 => ⟨b, 0, rfl, _, rdsL hb1 rfl rfl, b, 0, rfl, _, rdsL hb1 rfl rfl, ?_⟩
      rw [show (st.p : Int) + 1 - 1 = (st.p : Int) by omega, wrap64 (by omega) (by omega), size_mk, byteAt_mk]
      refine ⟨⟨by omega, by omega⟩, ?_⟩
      have : S.getD (st.p : Int).toNat 0 = S[st.p] := by simp [List.getD, hlt]
      rw [this]
      refine hk h1 ⟨b, rfl, rfl, ?_, rfl, hlt, hl⟩ hc1
      rw [hb1, h0]; rfl

/-! ### Items -/
structure It where
  d : UInt8
  n : Nat
  i : Int
  s : List UInt8
  b : UInt8
  m : Int
  hn : n < 18446744073709551616
  hi : -9223372036854775808 ≤ i ∧ i ≤ 9223372036854775807
  hm : -9223372036854775808 ≤ m ∧ m ≤ 9223372036854775807
  hs : s.length ≤ 9223372036854775807
def EncIt : Enc It where
  enc a := [.int .u8 (a.d.toNat : Int), .int .u64 (a.n : Int), .int .i64 a.i, .string (mk a.s), .int .u8 (a.b.toNat : Int), .int .i64 a.m]
  k := 6
  len _ := rfl
  one p v hv := by
    simp only [List.mem_cons, List.not_mem_nil, or_false] at hv
    rcases hv with rfl | rfl | rfl | rfl | rfl | rfl <;> rfl
  pos := by decide
/-- what was read -/
structure RV where
  n : Nat
  i : Int
  s : List UInt8
  b : UInt8
  deriving DecidableEq
def RV.v (r : RV) : Value := .agg #[.int .u8 (0 : Int), .int .u64 (r.n : Int), .int .i64 r.i, .string (TL.mk r.s), .int .u8 (r.b.toNat : Int), .int .i64 (0 : Int)]
def rd (st : IS) (a : It) : RV × IS :=
  if a.d.toNat = 0 then (⟨(iNum st).1, 0, [], 0⟩, (iNum st).2)
  else if a.d.toNat = 1 then (⟨0, zag (iNum st).1, [], 0⟩, (iNum st).2)
  else if a.d.toNat = 2 then (⟨0, 0, (iText st a.m).1, 0⟩, (iText st a.m).2)
  else if a.d.toNat = 3 then (⟨0, 0, [], (iByte st).1⟩, (iByte st).2)
  else (⟨(iMost st a.m).1, 0, [], 0⟩, (iMost st a.m).2)
theorem iMost_lt (st : IS) (m : Int) : (iMost st m).1 < 18446744073709551616 := by
  unfold iMost; split
  · rcases bound_err st.s m with ⟨_, h, _⟩ | ⟨_, h⟩
    · simp only [h]; exact (next_le st.s).2.1
    · rw [h]; show 0 < _; decide
  · show 0 < _; decide
theorem cRead (a : It) (hx : InAt B h x st) (hk : ∀ h', InAt B h' x (rd st a).2 → Chg B B h h' → K (rd st a).1.v h') :
    CallH Try.prog id_law01_read [.pointer x, .agg #[.int .u8 (a.d.toNat : Int), .int .u64 (a.n : Int), .int .i64 a.i, .string (mk a.s), .int .u8 (a.b.toNat : Int), .int .i64 a.m]] K h := by
  unfold rd at hk
  refine F_law01_read_ok ⟨fun e => ?_, fun e => ⟨fun e1 => ?_, fun e1 => ⟨fun e2 => ?_, fun e2 => ⟨fun e3 => ?_, fun e3 => ?_⟩⟩⟩⟩
  · rw [if_pos (by simp at e; omega)] at hk
    exact cIn_Num hx fun h' hx' hc' => ⟨_, rfl, hk h' hx' hc'⟩
  · rw [if_neg (by simp at e; omega), if_pos (by simp at e1; omega)] at hk
    exact cIn_Int hx fun h' hx' hc' => ⟨_, rfl, hk h' hx' hc'⟩
  · rw [if_neg (by simp at e; omega), if_neg (by simp at e1; omega), if_pos (by simp at e2; omega)] at hk
    exact cIn_Text hx a.hm.2 fun h' hx' hc' => ⟨_, rfl, hk h' hx' hc'⟩
  · rw [if_neg (by simp at e; omega), if_neg (by simp at e1; omega), if_neg (by simp at e2; omega), if_pos (by simp at e3; omega)] at hk
    exact cIn_Byte hx fun h' hx' hc' => ⟨_, rfl, hk h' hx' hc'⟩
  · rw [if_neg (by simp at e; omega), if_neg (by simp at e1; omega), if_neg (by simp at e2; omega), if_neg (by simp at e3; omega)] at hk
    refine cIn_Most hx a.hm.2 fun h' hx' hc' => ⟨_, rfl, ?_⟩
    have := iMost_lt st a.m
    rw [wrap_u64 (by omega) (by omega)]; exact hk h' hx' hc'
theorem cTold (a : It) (hx : RIn B h x S st) (hk : ∀ h', RIn B h' x S (rd st a).2 → Chg B B h h' → K (rd st a).1.v h') :
    CallH Try.prog id_law01_told [.pointer x, .agg #[.int .u8 (a.d.toNat : Int), .int .u64 (a.n : Int), .int .i64 a.i, .string (mk a.s), .int .u8 (a.b.toNat : Int), .int .i64 a.m]] K h := by
  unfold rd at hk
  refine F_law01_told_ok ⟨fun e => ?_, fun e => ⟨fun e1 => ?_, fun e1 => ⟨fun e2 => ?_, fun e2 => ⟨fun e3 => ?_, fun e3 => ?_⟩⟩⟩⟩
  · rw [if_pos (by simp at e; omega)] at hk
    exact cR_INum hx fun h' hx' hc' => ⟨_, rfl, hk h' hx' hc'⟩
  · rw [if_neg (by simp at e; omega), if_pos (by simp at e1; omega)] at hk
    exact cR_INum hx fun h' hx' hc' => ⟨_, rfl, cR_Zag (iNum_lt st) ⟨_, rfl, hk h' hx' hc'⟩⟩
  · rw [if_neg (by simp at e; omega), if_neg (by simp at e1; omega), if_pos (by simp at e2; omega)] at hk
    exact cR_IText a.hm.2 hx fun h' hx' hc' => ⟨_, rfl, hk h' hx' hc'⟩
  · rw [if_neg (by simp at e; omega), if_neg (by simp at e1; omega), if_neg (by simp at e2; omega), if_pos (by simp at e3; omega)] at hk
    exact cR_IByte hx fun h' hx' hc' => ⟨_, rfl, hk h' hx' hc'⟩
  · rw [if_neg (by simp at e; omega), if_neg (by simp at e1; omega), if_neg (by simp at e2; omega), if_neg (by simp at e3; omega)] at hk
    refine cR_IMost a.hm.2 hx fun h' hx' hc' => ⟨_, rfl, ?_⟩
    have := iMost_lt st a.m
    rw [wrap_u64 (by omega) (by omega)]; exact hk h' hx' hc'
def bareV (a : It) : RV :=
  if a.d.toNat = 0 then ⟨a.n, 0, [], 0⟩
  else if a.d.toNat = 1 then ⟨0, a.i, [], 0⟩
  else if a.d.toNat = 2 then ⟨0, 0, a.s, 0⟩
  else if a.d.toNat = 3 then ⟨0, 0, [], a.b⟩
  else ⟨0, 0, [], 0⟩
theorem cBare (a : It) (hk : K (bareV a).v h) : CallH Try.prog id_law01_bare [.agg #[.int .u8 (a.d.toNat : Int), .int .u64 (a.n : Int), .int .i64 a.i, .string (mk a.s), .int .u8 (a.b.toNat : Int), .int .i64 a.m]] K h := by
  unfold bareV at hk
  refine F_law01_bare_ok ⟨fun e => ?_, fun e => ⟨fun e1 => ?_, fun e1 => ⟨fun e2 => ?_, fun e2 => ⟨fun e3 => ?_, fun e3 => ?_⟩⟩⟩⟩
  · rw [if_pos (by simp at e; omega)] at hk; exact hk
  · rw [if_neg (by simp at e; omega), if_pos (by simp at e1; omega)] at hk; exact hk
  · rw [if_neg (by simp at e; omega), if_neg (by simp at e1; omega), if_pos (by simp at e2; omega)] at hk; exact hk
  · rw [if_neg (by simp at e; omega), if_neg (by simp at e1; omega), if_neg (by simp at e2; omega), if_pos (by simp at e3; omega)] at hk; exact hk
  · rw [if_neg (by simp at e; omega), if_neg (by simp at e1; omega), if_neg (by simp at e2; omega), if_neg (by simp at e3; omega)] at hk; exact hk
/-- an item's bytes -/
def itB (a : It) : List UInt8 :=
  if a.d.toNat = 0 then numL a.n
  else if a.d.toNat = 1 then numL (zig a.i)
  else if a.d.toNat = 2 then textL a.s
  else if a.d.toNat = 3 then [a.b]
  else []
def itsB (l : List It) : List UInt8 := l.flatMap itB
theorem itB_len (a : It) : (itB a).length ≤ 10 + a.s.length := by
  unfold itB
  split
  · have := numL_le a.hn; omega
  split
  · have := numL_le (zig_lt a.hi.1 a.hi.2); omega
  split
  · have := numL_le (n := a.s.length) (by have := a.hs; omega)
    unfold textL; rw [List.length_append]; omega
  split <;> simp <;> omega
def sumS (l : List It) : Nat := (l.map fun a => a.s.length).sum
theorem itsB_len : ∀ (l : List It), (itsB l).length ≤ 10 * l.length + sumS l
  | [] => by simp [itsB, sumS]
  | a :: r => by
    have h1 := itB_len a
    have h2 := itsB_len r
    simp only [itsB, sumS, List.flatMap_cons, List.length_append, List.map_cons, List.sum_cons, List.length_cons] at h2 ⊢
    omega
theorem itsB_take {l : List It} {i : Nat} (hi : i < l.length) : itsB (l.take (i + 1)) = itsB (l.take i) ++ itB l[i] := by
  unfold itsB
  rw [List.take_succ_eq_append_getElem hi, List.flatMap_append]
  simp
theorem sumS_take {l : List It} {i : Nat} (hi : i < l.length) : sumS (l.take (i + 1)) = sumS (l.take i) + l[i].s.length := by
  rw [List.take_succ_eq_append_getElem hi]
  unfold sumS
  rw [List.map_append, List.sum_append]
  simp only [List.map_cons, List.map_nil, List.sum_cons, List.sum_nil]; omega
theorem sumS_le {l : List It} {i : Nat} (hi : i < l.length) : sumS (l.take i) + l[i].s.length ≤ sumS l := by
  have : l = l.take i ++ l[i] :: l.drop (i + 1) := by rw [← List.drop_eq_getElem_cons hi, List.take_append_drop]
  have h2 : sumS l = sumS (l.take i ++ l[i] :: l.drop (i + 1)) := by rw [← this]
  rw [h2]
  simp only [sumS, List.map_append, List.map_cons, List.sum_append, List.sum_cons]; omega
variable {lA : Option Addr} {lC : Nat} {l : List It}
theorem SR.avoid {α : Type} {E : Enc α} {a : Option Addr} {l : List α} (x : SR E h a l) {b o : Nat} (hb : h b = none) (e : a = some ⟨b, o, none⟩) : l = [] := by
  rcases x with hl | ⟨b2, o2, e2, hr⟩
  · exact hl
  · rw [e] at e2; cases e2
    unfold PH.rds at hr; rw [hb] at hr; cases hr
theorem Buf.avoid {α : Type} {E : Enc α} {T : TypeId} {a : Option Addr} {n c : Nat} {l : List α} (x : Buf E T B h a n c l) {b o : Nat} (hb : b ∉ B) (e : a = some ⟨b, o, none⟩) : l = [] := by
  obtain ⟨_, ⟨_, _, h⟩ | ⟨b2, _, e2, rfl, _⟩⟩ := x
  · exact h
  · rw [e] at e2; cases e2; simp at hb
theorem cWrites {w : List UInt8} (hx : OutAt B h x w) (hl : SR EncIt h lA l) (hb : w.length + 10 * l.length + sumS l ≤ 70368744177664) (hk : ∀ B' h', OutAt B' h' x (w ++ itsB l) → Chg B B' h h' → K (.tuple #[]) h') (hd : ∀ b ∈ B, ∀ o, lA = some ⟨b, o, none⟩ → l = []) :
    CallH Try.prog id_law01_writes [.pointer x, .slice lA l.length lC] K h := by
  refine F_law01_writes_ok (LoopP.ind (fun (z : Int × Unit) h' => (0 ≤ z.1 ∧ z.1 ≤ l.length) ∧ ∃ B', OutAt B' h' x (w ++ itsB (l.take z.1.toNat)) ∧ Chg B B' h h' ∧ SR EncIt h' lA l ∧ (∀ b ∈ B', ∀ o, lA = some ⟨b, o, none⟩ → l = [])) (fun z _ => (l.length - z.1).toNat) ?_ ⟨⟨by decide, by show (0 : Int) ≤ _; omega⟩, B, by simpa [itsB] using hx, Chg.refl _ _, hl, hd⟩)
  rintro ⟨i, u⟩ h1 ⟨⟨i0, i1⟩, B1, hx1, hc1, hl1, hd1⟩
  dsimp only at i0 i1 hx1 ⊢
  refine ⟨fun e => ?_, fun e => ?_⟩
  · have e : i < l.length := by simpa using e
    have hit : i.toNat < l.length := by omega
    obtain ⟨b, o, ha, hr⟩ := hl1.get hit
    have hlen := itsB_len (l.take i.toNat)
    have hs := sumS_le hit
    have htl : (l.take i.toNat).length ≤ l.length := by rw [List.length_take]; omega
    have hil := itB_len l[i.toNat]
    have hwl : (w ++ itsB (l.take i.toNat)).length ≤ w.length + 10 * l.length + sumS l - l[i.toNat].s.length := by rw [List.length_append]; omega
    have hit2 := itsB_take hit
    have next : ∀ B' h', OutAt B' h' x ((w ++ itsB (l.take i.toNat)) ++ itB l[i.toNat]) → Chg B1 B' h1 h' →
        ((0 ≤ i + 1 ∧ i + 1 ≤ (l.length : Int)) ∧ ∃ B', OutAt B' h' x (w ++ itsB (l.take (i + 1).toNat)) ∧ Chg B B' h h' ∧ SR EncIt h' lA l ∧ (∀ b ∈ B', ∀ o, lA = some ⟨b, o, none⟩ → l = [])) ∧ ((l.length : Int) - (i + 1)).toNat < ((l.length : Int) - i).toNat := by
      intro B' h' hx' hc'
      have hnb : b ∉ B1 := fun hm => by
        have := hd1 b hm o ha
        rw [this] at hit; simp at hit
      have hrb : ∃ ob, h1 b = some ob := by
        rcases hl1 with h | ⟨b', o', ha', hr'⟩
        · rw [h] at hit; simp at hit
        · rw [ha] at ha'; cases ha'
          unfold PH.rds at hr'
          cases hq : h1 b with
          | none => rw [hq] at hr'; cases hr'
          | some ob => exact ⟨ob, rfl⟩
      refine ⟨⟨⟨by omega, by omega⟩, B', ?_, hc1.trans hc', ?_, ?_⟩, by omega⟩
      · rw [show (i + 1).toNat = i.toNat + 1 by omega, hit2, ← List.append_assoc]; exact hx'
      · rcases hl1 with h | ⟨b', o', ha', hr'⟩
        · exact .inl h
        · rw [ha] at ha'; cases ha'
          refine .inr ⟨b, o, ha, ?_⟩
          obtain ⟨ob, hob⟩ := hrb
          have := hc'.keep hob hnb
          unfold PH.rds at hr' ⊢
          rw [this]; rw [hob] at hr'; exact hr'
      · intro b2 hb2 o2 e2
        rw [ha] at e2; cases e2
        obtain ⟨ob, hob⟩ := hrb
        exact absurd hb2 (hc'.fresh hob hnb)
    have wi : IntKind.wrap .i64 (i + 1) = i + 1 := wrap64 (by omega) (by omega)
    have next' := next
    unfold itB at next'
    rw [wi]
    refine ⟨b, o, ⟨ha, i0, e⟩, _, hr _ 0 1 rfl (by decide), fun e => ?_, fun e => ⟨fun e1 => ?_, fun e1 => ⟨fun e2 => ?_, fun e2 => ⟨fun e3 => ?_, fun e3 => ?_⟩⟩⟩⟩
    · rw [if_pos (by simp at e; omega)] at next'
      exact ⟨b, o, ⟨ha, i0, by omega⟩, _, hr _ 1 1 rfl (by decide), cOut_Num hx1 l[i.toNat].hn (by omega) fun B' h' hx' hc' => by simpa using And.intro (next' B' h' hx' hc').1 (next' B' h' hx' hc').2⟩
    · rw [if_neg (by simp at e; omega), if_pos (by simp at e1; omega)] at next'
      exact ⟨b, o, ⟨ha, i0, by omega⟩, _, hr _ 2 1 rfl (by decide), cOut_Int hx1 l[i.toNat].hi.1 l[i.toNat].hi.2 (by omega) fun B' h' hx' hc' => next' B' h' hx' hc'⟩
    · rw [if_neg (by simp at e; omega), if_neg (by simp at e1; omega), if_pos (by simp at e2; omega)] at next'
      exact ⟨b, o, ⟨ha, i0, by omega⟩, _, hr _ 3 1 rfl (by decide), cOut_Text hx1 (by omega) fun B' h' hx' hc' => next' B' h' hx' hc'⟩
    · rw [if_neg (by simp at e; omega), if_neg (by simp at e1; omega), if_neg (by simp at e2; omega), if_pos (by simp at e3; omega)] at next'
      exact ⟨b, o, ⟨ha, i0, by omega⟩, _, hr _ 4 1 rfl (by decide), cOut_Byte hx1 (by omega) fun B' h' hx' hc' => next' B' h' hx' hc'⟩
    · rw [if_neg (by simp at e; omega), if_neg (by simp at e1; omega), if_neg (by simp at e2; omega), if_neg (by simp at e3; omega)] at next'
      exact next' B1 h1 (by simpa using hx1) (Chg.refl _ _)
  · have e : i = l.length := by simp at e; omega
    rw [e] at hx1
    simp only [Int.toNat_natCast, List.take_length] at hx1
    exact hk B1 h1 hx1 hc1
end TL
