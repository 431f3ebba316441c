/-
  The contracts of path.Cut. No condition.
-/
import Derived.Test.YtgopbgapkohoeaaText
import Derived.Test.YtgopbgapkohoeaaLibD
namespace TL
open Go Go.Proofs
variable {B : List Nat} {h : PH} {K : Value → PH → Prop}

/-! ### Paths, plainly -/
def namedB (s : List UInt8) : Bool := (s.all fun b => decide (97 ≤ b.toNat) && decide (b.toNat ≤ 122)) && (decide (1 ≤ s.length) && decide (s.length ≤ 8))
def keyB (s : List UInt8) : Bool := (decide (1 ≤ s.length) && decide (s.length ≤ 24)) && (decide ((0 : UInt8) ∉ s) && decide ((47 : UInt8) ∉ s))
def cutB (p : List UInt8) : Option (List UInt8 × List UInt8) :=
  if (47 : UInt8) ∈ p then
    if namedB (p.takeWhile (· != 47)) && keyB (p.drop ((p.takeWhile (· != 47)).length + 1)) then some (p.takeWhile (· != 47), p.drop ((p.takeWhile (· != 47)).length + 1)) else none
  else none
def cutV (p : List UInt8) : List UInt8 × List UInt8 × Bool := match cutB p with
  | some (m, k) => (m, k, true)
  | none => ([], [], false)
theorem named_no {s : List UInt8} (h : namedB s = true) : (47 : UInt8) ∉ s := fun hm => by
  simp only [namedB, Bool.and_eq_true, List.all_eq_true, decide_eq_true_eq] at h
  have := (h.1 47 hm).1
  exact absurd this (by decide)
theorem take_of {m k : List UInt8} (h : (47 : UInt8) ∉ m) : (m ++ 47 :: k).takeWhile (· != 47) = m := by
  rw [List.takeWhile_append_of_pos]
  · simp
  · intro b hb
    have : b ≠ 47 := fun e => h (e ▸ hb)
    simpa using this
theorem cut_iff {p m k : List UInt8} : cutB p = some (m, k) ↔ p = m ++ 47 :: k ∧ namedB m = true ∧ keyB k = true := by
  unfold cutB
  constructor
  · intro h
    split at h
    · rename_i hp
      split at h
      · rename_i hb
        simp only [Bool.and_eq_true] at hb
        simp only [Option.some.injEq, Prod.mk.injEq] at h
        obtain ⟨h1, h2⟩ := h
        rw [h1] at h2 hb
        rw [h2] at hb
        refine ⟨?_, hb.1, hb.2⟩
        have hi : ¬ idxB p 47 < 0 := fun h => idxB_none.1 h hp
        obtain ⟨i, _, hlt, ht, hd⟩ := idxB_some hi
        have : p = p.take i ++ p.drop i := (List.take_append_drop i p).symm
        rw [ht, h1, hd] at this
        rw [this]
        congr 2
        rw [← h2, ← h1, ← ht, List.length_take, Nat.min_eq_left (by omega)]
      · cases h
    · cases h
  · rintro ⟨rfl, h1, h2⟩
    have ht := take_of (k := k) (named_no h1)
    rw [if_pos (by simp), ht]
    have hd : (m ++ 47 :: k).drop (m.length + 1) = k := by rw [← List.drop_drop, List.drop_left]; rfl
    rw [hd, h1, h2]; rfl
theorem cut_none {p : List UInt8} (h : cutB p = none) : cutV p = ([], [], false) := by simp [cutV, h]
theorem cut_some {p m k : List UInt8} (h : cutB p = some (m, k)) : cutV p = (m, k, true) := by simp [cutV, h]

/-! ### Contracts -/
variable {s p l m k : List UInt8}
theorem cNamed (hs : s.length ≤ 4611686018427387904) (hk : K (.bool (namedB s)) h) : CallH Try.prog id_path_named [.string (mk s)] K h := by
  refine F_path_named_ok (LoopP.ind (fun (z : Int × Unit) h' => h' = h ∧ (0 ≤ z.1 ∧ z.1 ≤ s.length) ∧ (s.take z.1.toNat).all (fun b => decide (97 ≤ b.toNat) && decide (b.toNat ≤ 122)) = true) (fun z _ => (s.length - z.1).toNat) ?_ ⟨rfl, ⟨by decide, by show (0 : Int) ≤ _; omega⟩, by simp⟩)
  rintro ⟨i, u⟩ h1 ⟨rfl, ⟨i0, i1⟩, ha⟩
  dsimp only at i0 i1 ha ⊢
  rw [size_mk]
  refine ⟨fun e => ?_, fun e => ?_⟩
  · have e : i < s.length := by simpa using e
    have hit : i.toNat < s.length := by omega
    have hb : byteAt (mk s) i = ((s[i.toNat]).toNat : Int) := by rw [byteAt_mk]; simp [List.getD, hit]
    rw [hb]
    refine ⟨⟨i0, e⟩, fun _ => ⟨i0, e⟩, fun e2 => ?_, fun e2 => ?_⟩
    · have : namedB s = false := by
        have hm := List.getElem_mem hit
        simp only [Bool.or_eq_true, decide_eq_true_eq] at e2
        cases hn : namedB s with
        | false => rfl
        | true =>
          simp only [namedB, Bool.and_eq_true, List.all_eq_true, decide_eq_true_eq] at hn
          have := hn.1 _ hm
          omega
      rw [this] at hk; exact hk
    · simp only [Bool.or_eq_false_iff, decide_eq_false_iff_not] at e2
      rw [wrap64 (n := i + 1) (by omega) (by omega)]
      refine ⟨⟨rfl, ⟨by omega, by omega⟩, ?_⟩, by omega⟩
      rw [show (i + 1).toNat = i.toNat + 1 by omega, List.take_succ_eq_append_getElem hit, List.all_append, ha]
      simp; omega
  · have e : i = s.length := by simp at e; omega
    rw [e] at ha
    simp only [Int.toNat_natCast, List.take_length] at ha
    have : namedB s = (decide ((s.length : Int) ≥ 1) && decide ((s.length : Int) ≤ 8)) := by
      unfold namedB; rw [ha]
      simp only [Bool.true_and]
      congr 1
      · simp; omega
      · simp; omega
    rw [← this]; exact hk
theorem cIndexByte {c : Nat} (hk : K (.int .i64 (idxB s (UInt8.ofNat c))) h) : CallH Try.prog id_internal_stringslite_IndexByte [.string (mk s), .int .u8 (c : Int)] K h :=
  F_internal_stringslite_IndexByte_ok (extH_of Try.func41 (by kernel_rfl) (by kernel_rfl) (by kernel_rfl) (e := Extern.BytealgIndexByte.indexByte) (by kernel_rfl) (fun _ => ro_indexByte) ⟨_, rfl, hk⟩)
theorem cIndexByte2 {c : Nat} (hk : K (.int .i64 (idxB s (UInt8.ofNat c))) h) : CallH Try.prog id_strings_IndexByte [.string (mk s), .int .u8 (c : Int)] K h :=
  F_strings_IndexByte_ok (cIndexByte ⟨_, rfl, hk⟩)
theorem cKey (hk : K (.bool (keyB s)) h) : CallH Try.prog id_path_key [.string (mk s)] K h := by
  refine F_path_key_ok ?_
  unfold F_path_key
  rw [size_mk]
  have hl : (decide ((s.length : Int) ≥ 1) && decide ((s.length : Int) ≤ 24)) = (decide (1 ≤ s.length) && decide (s.length ≤ 24)) := by
    congr 1
    · simp; omega
    · simp; omega
  rw [hl]
  unfold keyB at hk
  refine ⟨fun e => ?_, fun e => ?_⟩
  · rw [e, Bool.true_and] at hk
    refine cIndexByte2 (c := 0) ⟨_, rfl, fun e1 => ?_, fun e1 => ?_⟩
    · have e1 : (0 : UInt8) ∉ s := idxB_none.1 (by simpa using e1)
      refine cIndexByte2 (c := 47) ⟨_, rfl, ?_⟩
      have : decide (idxB s (UInt8.ofNat 47) < 0) = (decide ((0 : UInt8) ∉ s) && decide ((47 : UInt8) ∉ s)) := by
        simp only [e1, decide_true, Bool.true_and, not_false_eq_true]
        exact decide_eq_decide.2 idxB_none
      rw [this]; exact hk
    · have e1 : ¬ (0 : UInt8) ∉ s := fun h => by
        have := idxB_none.2 h
        simp at e1
        omega
      simp only [e1, decide_false, Bool.false_and] at hk
      exact hk
  · rw [e] at hk; exact hk
theorem cStrCut (hs : s.length ≤ 4611686018427387904) (hk : ((47 : UInt8) ∉ s → K (.tuple #[.string (mk s), .string (mk []), .bool false]) h)) (hk2 : (47 : UInt8) ∈ s → K (.tuple #[.string (mk (s.takeWhile (· != 47))), .string (mk (s.drop ((s.takeWhile (· != 47)).length + 1))), .bool true]) h) :
    CallH Try.prog id_strings_Cut [.string (mk s), .string (⟨#[47]⟩ : ByteArray)] K h := by
  have key : ∀ {K' : Value → PH → Prop}, K' (.int .i64 (idxB s 47)) h → CallH Try.prog id_internal_stringslite_Index [.string (mk s), .string (⟨#[47]⟩ : ByteArray)] K' h := by
    intro K' hk'
    refine F_internal_stringslite_Index_ok ⟨fun e => ?_, fun _ => ⟨fun _ => ⟨by decide, cIndexByte (c := 47) ⟨_, rfl, hk'⟩⟩, fun e => absurd e (by decide)⟩⟩
    have e1 : ((((⟨#[47]⟩ : ByteArray).size : Int) == (0 : Int)) || strEq (⟨#[47]⟩ : ByteArray) (mk s)) = strEq (mk [47]) (mk s) := by
      rw [show (((⟨#[47]⟩ : ByteArray).size : Int) == (0 : Int)) = false by decide, Bool.false_or]; rfl
    rw [e1, strEq_mk] at e
    rw [← e] at hk'; exact hk'
  refine F_strings_Cut_ok (F_internal_stringslite_Cut_ok (key ⟨_, rfl, fun e => ?_, fun e => ?_⟩))
  · have e : ¬ idxB s 47 < 0 := by simp at e; omega
    have hm : (47 : UInt8) ∈ s := by
      by_cases h : (47 : UInt8) ∈ s
      · exact h
      · exact absurd (idxB_none.2 h) e
    obtain ⟨i, hi, hlt, ht, hd⟩ := idxB_some e
    rw [hi, size_mk, show (((⟨#[47]⟩ : ByteArray).size : Nat) : Int) = 1 by decide, wrap64 (by omega) (by omega)]
    refine ⟨⟨by omega, by omega, by omega⟩, ⟨by omega, by omega, by omega⟩, _, _, _, rfl, ?_⟩
    have hlen : (s.takeWhile (· != 47)).length = i := by rw [← ht, List.length_take]; omega
    have := hk2 hm
    rw [hlen, ← ht] at this
    rw [subS_mk, subS_mk]
    have e1 : ((s.drop (0 : Int).toNat).take ((i : Int).toNat - (0 : Int).toNat)) = s.take i := by simp
    have e2 : ((s.drop ((i : Int) + 1).toNat).take ((s.length : Int).toNat - ((i : Int) + 1).toNat)) = s.drop (i + 1) := by
      rw [show ((i : Int) + 1).toNat = i + 1 by omega, List.take_of_length_le (by rw [List.length_drop]; omega)]
    rw [e1, e2]; exact this
  · have e : idxB s 47 < 0 := by simp at e; omega
    exact ⟨_, _, _, rfl, hk (idxB_none.1 e)⟩
theorem cCut (hs : p.length ≤ 4611686018427387904) (hk : K (.tuple #[.string (mk (cutV p).1), .string (mk (cutV p).2.1), .bool (cutV p).2.2]) h) : CallH Try.prog id_path_Cut [.string (mk p)] K h := by
  refine F_path_Cut_ok (cStrCut hs (fun hm => ⟨_, _, _, rfl, fun e => absurd e (by decide), fun _ => ?_⟩) fun hm => ⟨_, _, _, rfl, fun _ => ?_, fun e => absurd e (by decide)⟩)
  · have : cutB p = none := by unfold cutB; rw [if_neg hm]
    rw [cut_none this] at hk; exact hk
  · have hlen : (p.takeWhile (· != 47)).length ≤ p.length := (List.takeWhile_sublist _).length_le
    refine cNamed (by omega) ⟨_, rfl, fun e => cKey ⟨_, rfl, fun e2 => ?_, fun e2 => ?_⟩, fun e => ?_⟩
    · have : cutB p = none := by unfold cutB; rw [if_pos hm, if_neg]; simp at e e2 ⊢; simp [e2]
      rw [cut_none this] at hk; exact hk
    · have : cutB p = some (p.takeWhile (· != 47), p.drop ((p.takeWhile (· != 47)).length + 1)) := by unfold cutB; rw [if_pos hm, if_pos]; simp at e e2 ⊢; exact ⟨e, e2⟩
      rw [cut_some this] at hk; exact hk
    · have : cutB p = none := by unfold cutB; rw [if_pos hm, if_neg]; simp at e ⊢; simp [e]
      rw [cut_none this] at hk; exact hk

end TL

namespace TL
open Go Go.Proofs
variable {B : List Nat} {h : PH} {K : Value → PH → Prop}

structure OpR where
  k : Int
  p : List UInt8
  v : List UInt8
  deriving DecidableEq
def EncOp : Enc OpR where
  enc o := [.int .u8 o.k, .string (mk o.p), .string (mk o.v)]
  k := 3
  len _ := rfl
  one o v hv := by
    simp only [List.mem_cons, List.not_mem_nil, or_false] at hv
    rcases hv with rfl | rfl | rfl <;> rfl
  pos := by decide
/-- what is wrong of an operation -/
def oe (o : OpR) : Nat := if o.k ≠ 1 ∧ o.k ≠ 2 then 10 else if cutB o.p = none then 20 else if 32 < o.v.length then 3 else if o.k = 2 ∧ o.v ≠ [] then 1 else 0
def eachE : List OpR → Nat
  | [] => 0
  | o :: r => if oe o = 0 then eachE r else oe o
def rightE (i e : Int) (ops : List OpR) : Nat := if i < 1 ∨ 4611686018427387904 < i ∨ e < 1 then 1 else if 4 < ops.length then 3 else eachE ops
variable {oA : Option Addr} {oC : Nat} {ops : List OpR}
theorem eachE_at : ∀ {l : List OpR} {i : Nat}, (∀ j, (hj : j < l.length) → j < i → oe l[j] = 0) → (hi : i < l.length) → oe l[i] ≠ 0 → eachE l = oe l[i]
  | [], _, _, hi, _ => absurd hi (by simp)
  | o :: r, 0, _, _, hne => by
    simp only [List.getElem_cons_zero] at hne ⊢
    simp [eachE, hne]
  | o :: r, i + 1, ha, hi, hne => by
    have h0 := ha 0 (by simp) (by omega)
    simp only [List.getElem_cons_zero] at h0
    simp only [eachE, h0, if_true]
    exact eachE_at (l := r) (i := i) (fun j hj hji => by
      have := ha (j + 1) (by simp; omega) (by omega)
      simpa using this) (by simpa using hi) (by simpa using hne)
theorem eachE_all : ∀ {l : List OpR}, (∀ j, (hj : j < l.length) → oe l[j] = 0) → eachE l = 0
  | [], _ => rfl
  | o :: r, ha => by
    have h0 := ha 0 (by simp)
    simp only [List.getElem_cons_zero] at h0
    simp only [eachE, h0, if_true]
    exact eachE_all fun j hj => by
      have := ha (j + 1) (by simp; omega)
      simpa using this

theorem cRight1 {p : List UInt8} (hp : p.length ≤ 4611686018427387904) (hk : K (.int .i64 (if cutB p = none then 20 else 0)) h) : CallH Try.prog id_batch_Right_1 [.string (mk p)] K h := by
  refine F_batch_Right_1_ok (cCut hp ⟨_, _, _, rfl, fun e => ?_, fun e => ?_⟩)
  · cases hc : cutB p with
    | none => rw [hc, if_pos rfl] at hk; exact hk
    | some q => obtain ⟨m, k⟩ := q; rw [cut_some hc] at e; cases e
  · cases hc : cutB p with
    | none => rw [cut_none hc] at e; cases e
    | some q => rw [hc, if_neg (by simp)] at hk; exact hk
/-- the first thing that is wrong of operations -/
theorem cEach (hl : SR EncOp h oA ops) (hn : ops.length ≤ 1000000) (hp : ∀ o ∈ ops, o.p.length ≤ 4611686018427387904) (hk : K (.int .i64 (eachE ops : Int)) h) :
    CallH Try.prog id_batch_each [.slice oA ops.length oC, .func (.func id_batch_Right_1) #[] #[]] K h := by
  refine F_batch_each_ok rfl (LoopP.ind (fun (z : Int × Unit) h' => h' = h ∧ (0 ≤ z.1 ∧ z.1 ≤ ops.length) ∧ ∀ j : Nat, (hj : j < ops.length) → (j : Int) < z.1 → oe ops[j] = 0) (fun z _ => (ops.length - z.1).toNat) ?_ ⟨rfl, ⟨by decide, by show (0 : Int) ≤ _; omega⟩, fun j _ hj => by simp only at hj; omega⟩)
  rintro ⟨i, u⟩ h1 ⟨rfl, ⟨i0, i1⟩, ha⟩
  dsimp only at i0 i1 ha ⊢
  refine ⟨fun e => ?_, fun e => ?_⟩
  · have e : i < ops.length := by simpa using e
    have hit : i.toNat < ops.length := by omega
    obtain ⟨b, o, hA, hr⟩ := hl.get hit
    have bad : ∀ n : Nat, oe ops[i.toNat] = n → n ≠ 0 → K (.int .i64 (n : Int)) h1 := fun n hn hz => by
      have := eachE_at (l := ops) (i := i.toNat) (fun j hj hji => ha j hj (by omega)) hit (by rw [hn]; exact hz)
      rw [this, hn] at hk; exact hk
    refine ⟨b, o, ⟨hA, i0, e⟩, _, _, _, hr _ 0 3 rfl (by decide), fun e1 => ?_, fun e1 => ?_⟩
    · refine bad 10 ?_ (by decide)
      simp only [Bool.and_eq_true, bne_iff_ne, ne_eq] at e1
      simp [oe, e1]
    · have k1 : ¬ (ops[i.toNat].k ≠ 1 ∧ ops[i.toNat].k ≠ 2) := fun h => by simp [h.1, h.2] at e1
      refine ⟨rfl, cRight1 (hp _ (List.getElem_mem hit)) ⟨_, rfl, fun e2 => ?_, fun e2 => ?_⟩⟩
      · have hc : cutB ops[i.toNat].p = none := Classical.byContradiction fun h => by simp [h] at e2
        rw [if_pos hc]
        refine bad 20 ?_ (by decide)
        simp only [oe, if_neg k1, hc, if_true]
      · have hc : ¬ cutB ops[i.toNat].p = none := fun h => by simp [h] at e2
        refine ⟨fun e3 => ?_, fun e3 => ?_⟩
        · have e3 : 32 < ops[i.toNat].v.length := by
            have hsz : (mk ops[i.toNat].v).size = ops[i.toNat].v.length := size_mk _
            rw [hsz] at e3; simp at e3; omega
          refine bad 3 ?_ (by decide)
          simp only [oe, if_neg k1, if_neg hc, e3, if_true]
        · have e3 : ¬ 32 < ops[i.toNat].v.length := by
            have hsz : (mk ops[i.toNat].v).size = ops[i.toNat].v.length := size_mk _
            rw [hsz] at e3; simp at e3; omega
          have hs : (strEq (mk ops[i.toNat].v) (⟨#[]⟩ : ByteArray)) = decide (ops[i.toNat].v = []) := by
            rw [show (⟨#[]⟩ : ByteArray) = mk [] from rfl, strEq_mk']
          refine ⟨fun e4 => ?_, fun e4 => ?_⟩
          · have e4 : ops[i.toNat].k = 2 ∧ ops[i.toNat].v ≠ [] := by rw [hs] at e4; simpa using e4
            refine bad 1 ?_ (by decide)
            simp only [oe, if_neg k1, if_neg hc, if_neg e3]
            rw [if_pos e4]
          · have e4 : ¬ (ops[i.toNat].k = 2 ∧ ops[i.toNat].v ≠ []) := fun h => by rw [hs] at e4; simp [h.1, h.2] at e4
            rw [wrap64 (n := i + 1) (by omega) (by omega)]
            refine ⟨⟨rfl, ⟨by omega, by omega⟩, fun j hj hji => ?_⟩, by omega⟩
            by_cases hji2 : (j : Int) < i
            · exact ha j hj hji2
            · have : j = i.toNat := by omega
              subst this
              simp only [oe, if_neg k1, if_neg hc, if_neg e3]
              rw [if_neg e4]
  · have e : i = ops.length := by simp at e; omega
    rw [eachE_all fun j hj => ha j hj (by omega)] at hk
    exact hk
theorem cRightB {i e : Int} (hl : SR EncOp h oA ops) (hn : ops.length ≤ 1000000) (hp : ∀ o ∈ ops, o.p.length ≤ 4611686018427387904) (hk : K (.int .i64 (rightE i e ops : Int)) h) :
    CallH Try.prog id_batch_Right [.agg #[.int .i64 i, .int .i64 e, .slice oA ops.length oC]] K h := by
  refine F_batch_Right_ok ⟨fun e1 => ?_, fun e1 => ⟨fun e2 => ?_, fun e2 => cEach hl hn hp ⟨_, rfl, ?_⟩⟩⟩
  · have e1 : i < 1 ∨ 4611686018427387904 < i ∨ e < 1 := by simpa [or_assoc] using e1
    simp only [rightE, if_pos e1] at hk; exact hk
  · have e1 : ¬ (i < 1 ∨ 4611686018427387904 < i ∨ e < 1) := fun h => by
      have : (decide (i < 1) || decide (i > 4611686018427387904) || decide (e < 1)) = true := by simpa [or_assoc] using h
      rw [this] at e1; cases e1
    have e2 : 4 < ops.length := by simp at e2; omega
    simp only [rightE, if_neg e1, if_pos e2] at hk; exact hk
  · have e1 : ¬ (i < 1 ∨ 4611686018427387904 < i ∨ e < 1) := fun h => by
      have : (decide (i < 1) || decide (i > 4611686018427387904) || decide (e < 1)) = true := by simpa [or_assoc] using h
      rw [this] at e1; cases e1
    have e2 : ¬ 4 < ops.length := by simp at e2; omega
    simp only [rightE, if_neg e1, if_neg e2] at hk; exact hk

theorem cEqOps {a2 : Option Addr} {c2 : Nat} {m2 : List OpR} (hl : SR EncOp h oA ops) (hl2 : SR EncOp h a2 m2) (hn : ops.length ≤ 1000000) (hk : K (.bool (decide (ops = m2))) h) : CallH Try.prog id_slices_Equal_api_Op_api_Op [.slice oA ops.length oC, .slice a2 m2.length c2] K h := by
  refine F_slices_Equal_api_Op_api_Op_ok ⟨fun e => ?_, fun e => ?_⟩
  · have : ops ≠ m2 := fun h => by rw [h] at e; simp at e
    simp only [this, decide_false] at hk
    exact hk
  · have hlen : ops.length = m2.length := by simp at e; omega
    refine LoopP.ind (fun (z : Int × Unit) h' => h' = h ∧ (0 ≤ z.1 ∧ z.1 ≤ ops.length) ∧ ops.take z.1.toNat = m2.take z.1.toNat) (fun z _ => (ops.length - z.1).toNat) ?_ ⟨rfl, ⟨by decide, by show (0 : Int) ≤ _; omega⟩, by simp⟩
    rintro ⟨i, u⟩ h1 ⟨rfl, ⟨i0, i1⟩, ha⟩
    dsimp only at i0 i1 ha ⊢
    refine ⟨fun e => ?_, fun e => ?_⟩
    · have e : i < ops.length := by simpa using e
      have hit : i.toNat < ops.length := by omega
      have hit2 : i.toNat < m2.length := by omega
      obtain ⟨b, o, hA, hr⟩ := hl.get hit
      obtain ⟨b', o', hA', hr'⟩ := hl2.get hit2
      have heq : ((ops[i.toNat].k == m2[i.toNat].k) && ((strEq (mk ops[i.toNat].p) (mk m2[i.toNat].p)) && ((strEq (mk ops[i.toNat].v) (mk m2[i.toNat].v)) && true))) = decide (ops[i.toNat] = m2[i.toNat]) := by
        rw [strEq_mk', strEq_mk']
        cases ops[i.toNat]; cases m2[i.toNat]
        simp only [OpR.mk.injEq, Bool.decide_and, Bool.and_true]
        congr 1
      refine ⟨b, o, ⟨hA, i0, e⟩, _, _, _, hr _ 0 3 rfl (by decide), b', o', ⟨hA', i0, by omega⟩, _, _, _, hr' _ 0 3 rfl (by decide), fun e2 => ?_, fun e2 => ?_⟩
      · rw [heq] at e2
        have e2 : ops[i.toNat] ≠ m2[i.toNat] := by simpa using e2
        have : ops ≠ m2 := fun h => e2 (by simp [h])
        simp only [this, decide_false] at hk
        exact hk
      · rw [heq] at e2
        have e2 : ops[i.toNat] = m2[i.toNat] := by simpa using e2
        rw [wrap64 (n := i + 1) (by omega) (by omega)]
        refine ⟨⟨rfl, ⟨by omega, by omega⟩, ?_⟩, by omega⟩
        rw [show (i + 1).toNat = i.toNat + 1 by omega, List.take_succ_eq_append_getElem hit, List.take_succ_eq_append_getElem hit2, ha, e2]
    · have e : i = ops.length := by simp at e; omega
      rw [e, Int.toNat_natCast, List.take_length, hlen, List.take_length] at ha
      simp only [ha, decide_true] at hk
      exact hk
theorem cSameB {i e i2 e2 : Int} {a2 : Option Addr} {c2 : Nat} {m2 : List OpR} (hl : SR EncOp h oA ops) (hl2 : SR EncOp h a2 m2) (hn : ops.length ≤ 1000000) (hk : K (.bool (decide (i = i2 ∧ e = e2 ∧ ops = m2))) h) :
    CallH Try.prog id_batch_Same [.agg #[.int .i64 i, .int .i64 e, .slice oA ops.length oC], .agg #[.int .i64 i2, .int .i64 e2, .slice a2 m2.length c2]] K h := by
  refine F_batch_Same_ok ⟨fun e1 => cEqOps hl hl2 hn ⟨_, rfl, ?_⟩, fun e1 => ?_⟩
  · have e1 : i = i2 ∧ e = e2 := by simpa using e1
    simpa [e1.1, e1.2] using hk
  · have e1 : ¬ (i = i2 ∧ e = e2 ∧ ops = m2) := fun h => by simp [h.1, h.2.1] at e1
    simpa only [e1, decide_false] using hk
theorem cCloneOp (x : SR EncOp h oA ops) (hn : ops.length ≤ 1000000) (hk : ∀ a' c' B' h', Buf EncOp T_api_Op B' h' a' ops.length c' ops → Chg [] B' h h' → K (.slice a' ops.length c') h') :
    CallH Try.prog id_slices_Clone_api_Op_api_Op [.slice oA ops.length oC] K h :=
  F_slices_Clone_api_Op_api_Op_ok (CloneF_ok (E := EncOp) (sC := oC) (bt := 40) (z := [.int .u8 (0 : Int), .string (⟨#[]⟩ : ByteArray), .string (⟨#[]⟩ : ByteArray)]) x rfl (by omega) hk)
end TL

namespace TL
open Go Go.Proofs
variable {B : List Nat} {h : PH} {K : Value → PH → Prop}

/-- a message but for its operations -/
structure MsgR where
  kd : Int
  ep : Int
  at_ : Int
  ae : Int
  ix : Int
  be : Int
  prev : Int
  root : List Int
  lv : Int
  ii : Int
  left : List Int
  right : List Int
  pA : Option Addr
  pN : Nat
  pC : Nat
def MsgR.ok (m : MsgR) : Prop := m.root.length = 32 ∧ m.left.length = 32 ∧ m.right.length = 32
def msgV (m : MsgR) (a : Option Addr) (n c : Nat) : Value := .agg ((.int .u8 m.kd :: (.int .i64 m.ep :: (.int .i64 m.at_ :: (.int .i64 m.ae :: (.int .i64 m.ix :: (.int .i64 m.be :: (.slice a n c :: (.int .i64 m.prev :: (m.root.map (Value.int .u8) ++ (.int .i64 m.lv :: (.int .i64 m.ii :: (m.left.map (Value.int .u8) ++ (m.right.map (Value.int .u8) ++ [.slice m.pA m.pN m.pC])))))))))))))).toArray
structure Wt where
  m : MsgR
  ops : List OpR
structure TS where
  at_ : Int
  ep : Int
  ws : List Wt
/-- the entries of a map, and the memory of their operations -/
inductive Ents (h : PH) : List Nat → List MapEntry → List Wt → Prop
  | nil : Ents h [] [] []
  | cons {e : MapEntry} {w : Wt} {a : Option Addr} {c : Nat} {Be Bs : List Nat} {es : List MapEntry} {ws : List Wt} : e.key = .int .i64 w.m.ix → e.val = msgV w.m a w.ops.length c → w.m.ok → Buf EncOp T_api_Op Be h a w.ops.length c w.ops → Ents h Bs es ws →
      Ents h (Be ++ Bs) (e :: es) (w :: ws)
theorem Ents.keep {h' : PH} : ∀ {Bs : List Nat} {es : List MapEntry} {ws : List Wt}, Ents h Bs es ws → (∀ b ∈ Bs, ∀ o, h b = some o → h' b = some o) → Ents h' Bs es ws
  | _, _, _, .nil, _ => .nil
  | _, _, _, .cons e1 e2 e3 e4 e5, hk => .cons e1 e2 e3 (e4.keep fun b hb => hk b (List.mem_append_left _ hb)) (e5.keep fun b hb => hk b (List.mem_append_right _ hb))
theorem Ents.has : ∀ {Bs : List Nat} {es : List MapEntry} {ws : List Wt}, Ents h Bs es ws → Has Bs h
  | _, _, _, .nil => fun _ hb => by cases hb
  | _, _, _, .cons _ _ _ e4 e5 => fun b hb => by
    rcases List.mem_append.1 hb with hb | hb
    · exact e4.has b hb
    · exact e5.has b hb
theorem Ents.keys : ∀ {Bs : List Nat} {es : List MapEntry} {ws : List Wt}, Ents h Bs es ws → ∀ e ∈ es, kOk (.int .i64) e.key = true
  | _, _, _, .nil => fun _ he => by cases he
  | _, _, _, .cons e1 _ _ _ e5 => fun e he => by
    rcases List.mem_cons.1 he with rfl | he
    · rw [e1]; rfl
    · exact e5.keys e he
theorem Ents.len : ∀ {Bs : List Nat} {es : List MapEntry} {ws : List Wt}, Ents h Bs es ws → es.length = ws.length
  | _, _, _, .nil => rfl
  | _, _, _, .cons _ _ _ _ e5 => by simp [e5.len]
theorem int_beq_comm (k y : Int) : (k == y) = (y == k) := by
  rw [Bool.eq_iff_iff, beq_iff_eq, beq_iff_eq]; exact eq_comm
theorem Ents.fi_none {k : Int} : ∀ {Bs : List Nat} {es : List MapEntry} {ws : List Wt}, Ents h Bs es ws → ws.find? (fun w => w.m.ix == k) = none → ∀ i, fi es (.int .i64 k) i = none
  | _, _, _, .nil, _, _ => rfl
  | _, _, _, .cons e1 _ _ _ e5, hn, i => by
    rw [List.find?_cons] at hn
    split at hn
    · cases hn
    · rename_i hx
      have hq : ∀ y : Int, (k == y) = (y == k) := fun y => int_beq_comm k y
      simp only [fi, e1, keq, hq, hx]
      exact e5.fi_none hn _
theorem Ents.fi_some {k : Int} {w : Wt} : ∀ {Bs : List Nat} {es : List MapEntry} {ws : List Wt}, Ents h Bs es ws → ws.find? (fun w => w.m.ix == k) = some w → ∀ i, ∃ j a c Be, fi es (.int .i64 k) i = some (i + j, msgV w.m a w.ops.length c) ∧
      (∀ b ∈ Be, b ∈ Bs) ∧ Buf EncOp T_api_Op Be h a w.ops.length c w.ops ∧ w.m.ok ∧ ∃ Bs', (∀ b ∈ Bs', b ∈ Bs) ∧ Ents h Bs' (es.eraseIdx j) (ws.eraseP fun w => w.m.ix == k)
  | _, _, _, .nil, hn, _ => by cases hn
  | _, _, _, .cons (Be := Be) (Bs := Bs) e1 e2 e3 e4 e5, hn, i => by
    have hq : ∀ y : Int, (k == y) = (y == k) := fun y => int_beq_comm k y
    rw [List.find?_cons] at hn
    split at hn
    · rename_i hx
      cases hn
      refine ⟨0, _, _, Be, ?_, fun b hb => List.mem_append_left _ hb, e4, e3, Bs, fun b hb => List.mem_append_right _ hb, ?_⟩
      · simp only [fi, e1, keq, hq, hx, e2, Nat.add_zero]
      · rw [List.eraseP_cons, hx]; exact e5
    · rename_i hx
      obtain ⟨j, a, c, Be', h1, h2, h3, h4, Bs', h5, h6⟩ := e5.fi_some hn (i + 1)
      refine ⟨j + 1, a, c, Be', ?_, fun b hb => List.mem_append_right _ (h2 b hb), h3, h4, Be ++ Bs', fun b hb => ?_, ?_⟩
      · simp only [fi, e1, keq, hq, hx, h1]
        rw [show i + 1 + j = i + (j + 1) by omega]
      · rcases List.mem_append.1 hb with hb | hb
        · exact List.mem_append_left _ hb
        · exact List.mem_append_right _ (h5 b hb)
      · rw [List.eraseP_cons, hx]
        exact .cons e1 e2 e3 e4 h6
theorem Ents.snoc {e : MapEntry} {w : Wt} {a : Option Addr} {c : Nat} {Be : List Nat} (x1 : e.key = .int .i64 w.m.ix) (x2 : e.val = msgV w.m a w.ops.length c) (x3 : w.m.ok) (x4 : Buf EncOp T_api_Op Be h a w.ops.length c w.ops) :
    ∀ {Bs : List Nat} {es : List MapEntry} {ws : List Wt}, Ents h Bs es ws → Ents h (Bs ++ Be) (es ++ [e]) (ws ++ [w])
  | _, _, _, .nil => by simpa using Ents.cons x1 x2 x3 x4 .nil
  | _, _, _, .cons e1 e2 e3 e4 e5 => by
    rw [List.append_assoc]
    exact .cons e1 e2 e3 e4 (e5.snoc x1 x2 x3 x4)

/-- a take in memory -/
def TakeAt (B : List Nat) (h : PH) (x : Option Addr) (st : TS) : Prop :=
  ∃ bn bm Bs es c, x = some ⟨bn, 0, none⟩ ∧ B = bn :: bm :: Bs ∧ bn ≠ bm ∧ bn ∉ Bs ∧ bm ∉ Bs ∧ h bn = some (.cells [.int .i64 st.at_, .int .i64 st.ep, .map (some bm)].toArray T_take_Take (0, 0)) ∧
    h bm = some (.map (es : List MapEntry).toArray c) ∧ Ents h Bs es st.ws
theorem TakeAt.has {x : Option Addr} {st : TS} (hx : TakeAt B h x st) : Has B h := by
  obtain ⟨bn, bm, Bs, es, c, rfl, rfl, h1, h2, h3, h4, h5, h6⟩ := hx
  intro b hb
  rcases List.mem_cons.1 hb with rfl | hb
  · exact ⟨_, h4⟩
  · rcases List.mem_cons.1 hb with rfl | hb
    · exact ⟨_, h5⟩
    · exact h6.has b hb
theorem TakeAt.chg {x : Option Addr} {st : TS} {C C' : List Nat} {h' : PH} (hx : TakeAt B h x st) (hc : Chg C C' h h') (hd : Dj B C) : TakeAt B h' x st := by
  obtain ⟨bn, bm, Bs, es, c, rfl, rfl, h1, h2, h3, h4, h5, h6⟩ := hx
  exact ⟨bn, bm, Bs, es, c, rfl, rfl, h1, h2, h3, hc.keep h4 (hd _ (by simp)), hc.keep h5 (hd _ (by simp)), h6.keep fun b hb o e => hc.keep e (hd _ (by simp [hb]))⟩

variable {x : Option Addr} {st : TS}
theorem cNone (hx : TakeAt B h x st) (hk : K (.bool false) h) : CallH Try.prog id_take_Take_none [.pointer x] K h := by
  obtain ⟨bn, bm, Bs, es, c, rfl, rfl, h1, h2, h3, h4, h5, h6⟩ := hx
  exact F_take_Take_none_ok ⟨bn, 0, fun _ => rfl, _, fun _ => rdsL h4 rfl rfl, hk⟩
theorem cNone' (hk : K (.bool true) h) : CallH Try.prog id_take_Take_none [.pointer none] K h :=
  F_take_Take_none_ok ⟨0, 0, nofun, none, nofun, hk⟩
theorem cNew {a e : Int} (hk : ∀ x B' h', TakeAt B' h' x ⟨maxV a 0, e, []⟩ → Chg [] B' h h' → K (.pointer x) h') : CallH Try.prog id_take_New [.int .i64 a, .int .i64 e] K h := by
  refine F_take_New_ok fun bm hm => ?_
  refine nwL (cs := [.int .i64 (maxV a 0), .int .i64 e, .map (some bm)]) fun bn h2 hb hb2 hc => ?_
  have hm2 : h2 bm = some (.map #[] 0) := hc.1 bm _ (by simp) (PH.upd_same _ _ _)
  have hne : bn ≠ bm := fun e => by subst e; rw [PH.upd_same] at hb; cases hb
  refine hk _ [bn, bm] h2 ⟨bn, bm, [], [], 0, rfl, rfl, hne, by simp, by simp, hb2, hm2, .nil⟩ ?_
  refine ⟨fun b o _ e => hc.1 b o (by simp) (PH.upd_old _ hm e), fun b hb' => ?_⟩
  simp only [List.mem_cons, List.not_mem_nil, or_false] at hb'
  rcases hb' with rfl | rfl
  · rw [PH.upd_ne _ _ hne] at hb; exact .inr hb
  · exact .inr hm
theorem cPlace (hx : TakeAt B h x st) (hk : K (.tuple #[.int .i64 st.at_, .int .i64 st.ep]) h) : CallH Try.prog id_take_Take_Place [.pointer x] K h := by
  refine F_take_Take_Place_ok (cNone hx ⟨false, rfl, nofun, fun _ => ?_⟩)
  obtain ⟨bn, bm, Bs, es, c, rfl, rfl, h1, h2, h3, h4, h5, h6⟩ := hx
  exact ⟨bn, 0, rfl, _, rdsL h4 rfl rfl, bn, 0, rfl, _, rdsL h4 rfl rfl, hk⟩
theorem cWaits (hx : TakeAt B h x st) (hk : K (.int .i64 (st.ws.length : Int)) h) : CallH Try.prog id_take_Take_Waits [.pointer x] K h := by
  refine F_take_Take_Waits_ok (cNone hx ⟨false, rfl, nofun, fun _ => ?_⟩)
  obtain ⟨bn, bm, Bs, es, c, rfl, rfl, h1, h2, h3, h4, h5, h6⟩ := hx
  exact ⟨bn, 0, rfl, _, rdsL h4 rfl rfl, _, ⟨_, _, h5, rfl⟩, by simpa [h6.len] using hk⟩
def msgZ : MsgR := ⟨0, 0, 0, 0, 0, 0, 0, List.replicate 32 0, 0, 0, List.replicate 32 0, List.replicate 32 0, none, 0, 0⟩
theorem cAck {e : Int} (hx : TakeAt B h x st) (hk : K (msgV { msgZ with kd := 3, ep := e, at_ := st.at_, ae := st.ep } none 0 0) h) : CallH Try.prog id_take_Take_Ack [.pointer x, .int .i64 e] K h := by
  refine F_take_Take_Ack_ok (cNone hx ⟨false, rfl, nofun, fun _ => ?_⟩)
  obtain ⟨bn, bm, Bs, es, c, rfl, rfl, h1, h2, h3, h4, h5, h6⟩ := hx
  exact ⟨bn, 0, rfl, _, rdsL h4 rfl rfl, bn, 0, rfl, _, rdsL h4 rfl rfl, hk⟩

/-! ### Put, Next, Done, Gap -/
def tFind (st : TS) (k : Int) : Option Wt := st.ws.find? fun w => w.m.ix == k
def tDrop (st : TS) (k : Int) : List Wt := st.ws.eraseP fun w => w.m.ix == k
def tMay (st : TS) (m : MsgR) (ops : List OpR) : Prop := m.kd = 2 ∧ rightE m.ix m.be ops = 0 ∧ 0 ≤ m.prev ∧ st.at_ < m.ix ∧ m.ix - st.at_ ≤ 64 ∧ tFind st m.ix = none
instance (st : TS) (m : MsgR) (ops : List OpR) : Decidable (tMay st m ops) := by unfold tMay; infer_instance
def tPut (st : TS) (m : MsgR) (ops : List OpR) : TS := if tMay st m ops then { st with ws := st.ws ++ [⟨m, ops⟩] } else st
theorem rightE_ix {i e : Int} {ops : List OpR} (h : rightE i e ops = 0) : 1 ≤ i ∧ i ≤ 4611686018427387904 ∧ 1 ≤ e := by
  unfold rightE at h
  split at h
  · cases h
  · omega
theorem mapH_of {bm : Nat} {es : List MapEntry} {c : Nat} (h5 : h bm = some (.map es.toArray c)) (hk : ∀ e ∈ es, kOk (.int .i64) e.key = true) : mapH (.int .i64) h (some bm) es := ⟨⟨c, h5⟩, hk⟩
theorem cPut {m : MsgR} {a : Option Addr} {c : Nat} {ops : List OpR} (hx : TakeAt B h x st) (hm : m.ok) (h0 : 0 ≤ st.at_) (hl : SR EncOp h a ops) (hn : ops.length ≤ 1000000) (hp : ∀ o ∈ ops, o.p.length ≤ 4611686018427387904)
    (hk : ∀ B' h', TakeAt B' h' x (tPut st m ops) → Chg B B' h h' → K (.bool (decide (tMay st m ops))) h') : CallH Try.prog id_take_Take_Put [.pointer x, msgV m a ops.length c] K h := by
  refine F_take_Take_Put_ok hm.1 hm.2.1 hm.2.2 (JoinP.here (cNone hx ⟨false, rfl, fun e => ?main, fun e => ?other⟩))
  case other =>
    have : ¬ tMay st m ops := fun h => by simp [h.1] at e
    have hk := hk B h (by rw [tPut, if_neg this]; exact hx) (Chg.refl _ _)
    simpa only [this, decide_false] using hk
  have hkd : m.kd = 2 := by simpa using e
  refine cRightB hl hn hp ⟨_, rfl, ?_⟩
  have hx0 := hx
  obtain ⟨bn, bm, Bs, es, cc, rfl, rfl, h1, h2, h3, h4, h5, h6⟩ := hx
  refine ⟨bn, 0, fun _ => rfl, _, fun _ => rdsL h4 rfl rfl, bn, 0, fun _ => rfl, _, fun _ => rdsL h4 rfl rfl, fun e => ?_, fun e => ?_⟩
  · have : ¬ tMay st m ops := fun h => by
      obtain ⟨g1, g2, g3, g4, g5, _⟩ := h
      have := rightE_ix g2
      rw [wrap64 (by omega) (by omega)] at e
      simp only [g2, Bool.or_eq_true, bne_iff_ne, ne_eq, decide_eq_true_eq] at e
      omega
    have hk := hk _ h (by rw [tPut, if_neg this]; exact hx0) (Chg.refl _ _)
    simpa only [this, decide_false] using hk
  · simp only [Bool.or_eq_false_iff, bne_eq_false_iff_eq, decide_eq_false_iff_not] at e
    obtain ⟨⟨⟨e1, e2⟩, e3⟩, e4⟩ := e
    have e1 : rightE m.ix m.be ops = 0 := by exact_mod_cast e1
    have hix := rightE_ix e1
    rw [wrap64 (by omega) (by omega)] at e4
    refine ⟨bn, 0, rfl, _, rdsL h4 rfl rfl, ?_⟩
    cases hf : tFind st m.ix with
    | some w =>
      obtain ⟨j, a', c', Be, g1, g2, g3, g4, _⟩ := h6.fi_some hf 0
      have : ¬ tMay st m ops := fun h => by rw [h.2.2.2.2.2] at hf; cases hf
      have hk := hk _ h (by rw [tPut, if_neg this]; exact hx0) (Chg.refl _ _)
      refine ⟨w.m.kd, w.m.ep, w.m.at_, w.m.ae, w.m.ix, w.m.be, a', w.ops.length, c', w.m.prev, w.m.root, g4.1, w.m.lv, w.m.ii, w.m.left, g4.2.1, w.m.right, g4.2.2, w.m.pA, w.m.pN, w.m.pC, true, ⟨es, mapH_of h5 h6.keys, ?_⟩, fun _ => ?_, nofun⟩
      · unfold lk; rw [g1]; rfl
      · simpa only [this, decide_false] using hk
    | none =>
      have hmay : tMay st m ops := ⟨hkd, e1, by omega, by omega, by omega, hf⟩
      refine ⟨0, 0, 0, 0, 0, 0, none, 0, 0, 0, List.replicate 32 0, by simp, 0, 0, List.replicate 32 0, by simp, List.replicate 32 0, by simp, none, 0, 0, false, ⟨es, mapH_of h5 h6.keys, ?_⟩, nofun, fun _ => ?_⟩
      · unfold lk; rw [h6.fi_none hf]
      refine cCloneOp hl hn fun a' c' B' h' hb hc => ⟨_, _, _, rfl, bn, 0, rfl, _, rdsL (hc.keep h4 (by simp)) rfl rfl, ?_⟩
      have h5' := hc.keep h5 (by simp)
      refine ⟨bm, es, cc, rfl, h5', h6.keys, ?_⟩
      have hcB : ∀ b ∈ B', h b = none := fun b hb => (hc.2 b hb).resolve_left (by simp)
      have nbm : bm ∉ B' := fun hb => by rw [hcB _ hb] at h5; cases h5
      have nbn : bn ∉ B' := fun hb => by rw [hcB _ hb] at h4; cases h4
      simp only [tPut, hmay, decide_true, if_true] at hk
      have hup : upM es (.int .i64 m.ix) (msgV m a' ops.length c') cc = (es ++ [{ key := .int .i64 m.ix, val := msgV m a' ops.length c', born := cc }], cc + 1) := by
        unfold upM; rw [h6.fi_none hf]
      show K (.bool true) (h'.upd bm (.map (upM es (.int .i64 m.ix) (msgV m a' ops.length c') cc).1.toArray (upM es (.int .i64 m.ix) (msgV m a' ops.length c') cc).2))
      rw [hup]
      generalize hne : ({ key := .int .i64 m.ix, val := msgV m a' ops.length c', born := cc } : MapEntry) = ne
      have hk1 : ne.key = .int .i64 m.ix := by rw [← hne]
      have hk2 : ne.val = msgV m a' ops.length c' := by rw [← hne]
      have hold : ∀ b ∈ Bs, ∀ o, h b = some o → (h'.upd bm (.map (es ++ [ne]).toArray (cc + 1))) b = some o := fun b hb o e => by
        rw [PH.upd_ne _ _ (fun (e : b = bm) => h3 (by rw [← e]; exact hb))]; exact hc.keep e (by simp)
      refine hk (bn :: bm :: (Bs ++ B')) _ ⟨bn, bm, Bs ++ B', _, cc + 1, rfl, rfl, h1, by simp [h2, nbn], by simp [h3, nbm], ?_, PH.upd_same _ _ _, (h6.keep hold).snoc (w := ⟨m, ops⟩) hk1 hk2 hm ?_⟩ ?_
      · rw [PH.upd_ne _ _ h1]; exact hc.keep h4 (by simp)
      · exact hb.keep fun b hb' o e => by rw [PH.upd_ne _ _ (fun (e : b = bm) => nbm (by rw [← e]; exact hb'))]; exact e
      · refine ⟨fun b o hb e => ?_, fun b hb => ?_⟩
        · rw [PH.upd_ne _ _ (fun e => hb (by simp [e]))]; exact hc.keep e (by simp)
        · simp only [List.mem_cons, List.mem_append] at hb ⊢
          rcases hb with hb | hb | hb | hb
          · exact .inl (.inl hb)
          · exact .inl (.inr (.inl hb))
          · exact .inl (.inr (.inr hb))
          · exact .inr (hcB b hb)

def tKey (st : TS) : Int := IntKind.wrap .i64 (st.at_ + 1)
/-- what is next, and what is left -/
def tNext (st : TS) : Option Wt × TS := match tFind st (tKey st) with
  | none => (none, st)
  | some w => if w.m.prev = st.ep then (some w, st) else (none, { st with ws := tDrop st (tKey st) })
theorem eraseK {es : List MapEntry} {k v : Value} {j : Nat} (h : fi es k 0 = some (0 + j, v)) : dlM es k = es.eraseIdx j := by
  unfold dlM; rw [h]; simp
/-- an entry dropped -/
theorem cDrop {k : Int} {w : Wt} {KK : PH → Prop} {bn bm c : Nat} {Bs : List Nat} {es : List MapEntry} (h1 : bn ≠ bm) (h2 : bn ∉ Bs) (h3 : bm ∉ Bs) (h4 : h bn = some (.cells [.int .i64 st.at_, .int .i64 st.ep, .map (some bm)].toArray T_take_Take (0, 0)))
    (h5 : h bm = some (.map es.toArray c)) (h6 : Ents h Bs es st.ws) (hf : tFind st k = some w)
    (hk : ∀ B' h', TakeAt B' h' (some ⟨bn, 0, none⟩) { st with ws := tDrop st k } → Chg (bn :: bm :: Bs) B' h h' → KK h') : mdH (.int .i64) h (some bm) (.int .i64 k) KK := by
  refine ⟨nofun, fun r0 hr => ?_⟩
  cases hr
  obtain ⟨j, a, c', Be, g1, g2, g3, g4, Bs', g5, g6⟩ := h6.fi_some hf 0
  refine ⟨es, c, h5, h6.keys, ?_⟩
  rw [eraseK g1]
  refine hk (bn :: bm :: Bs') _ ⟨bn, bm, Bs', _, c, rfl, rfl, h1, fun hb => h2 (g5 _ hb), fun hb => h3 (g5 _ hb), ?_, PH.upd_same _ _ _, g6.keep fun b hb o e => ?_⟩ ⟨fun b o hb e => ?_, fun b hb => ?_⟩
  · rw [PH.upd_ne _ _ h1]; exact h4
  · rw [PH.upd_ne _ _ (fun (e : b = bm) => h3 (by rw [← e]; exact g5 _ hb))]; exact e
  · rw [PH.upd_ne _ _ (fun e => hb (by simp [e]))]; exact e
  · simp only [List.mem_cons] at hb ⊢
    rcases hb with hb | hb | hb
    · exact .inl (.inl hb)
    · exact .inl (.inr (.inl hb))
    · exact .inl (.inr (.inr (g5 _ hb)))
theorem cNext (hx : TakeAt B h x st) (hn : ∀ w ∈ st.ws, w.ops.length ≤ 1000000) (hk : (tNext st).1 = none → ∀ B' h', TakeAt B' h' x (tNext st).2 → Chg B B' h h' → K (.tuple #[.agg #[.int .i64 (0 : Int), .int .i64 (0 : Int), .slice none 0 0], .bool false]) h')
    (hk2 : ∀ w, (tNext st).1 = some w → (tNext st).2 = st → ∀ a' c' B' h', Buf EncOp T_api_Op B' h' a' w.ops.length c' w.ops → Chg [] B' h h' → K (.tuple #[.agg #[.int .i64 w.m.ix, .int .i64 w.m.be, .slice a' w.ops.length c'], .bool true]) h') :
    CallH Try.prog id_take_Take_Next [.pointer x] K h := by
  refine F_take_Take_Next_ok (cNone hx ⟨false, rfl, nofun, fun _ => ?_⟩)
  have hx0 := hx
  obtain ⟨bn, bm, Bs, es, c, rfl, rfl, h1, h2, h3, h4, h5, h6⟩ := hx
  refine ⟨bn, 0, rfl, _, rdsL h4 rfl rfl, bn, 0, rfl, _, rdsL h4 rfl rfl, ?_⟩
  cases hf : tFind st (tKey st) with
  | none =>
    simp only [tNext, hf] at hk
    have g1 : fi es (.int .i64 (IntKind.wrap .i64 (st.at_ + 1))) 0 = none := h6.fi_none hf 0
    refine ⟨0, 0, 0, 0, 0, 0, none, 0, 0, 0, List.replicate 32 0, by simp, 0, 0, List.replicate 32 0, by simp, List.replicate 32 0, by simp, none, 0, 0, false, ⟨es, mapH_of h5 h6.keys, ?_⟩, fun _ => ?_, nofun⟩
    · unfold lk; rw [g1]
    · exact hk trivial _ h hx0 (Chg.refl _ _)
  | some w =>
    obtain ⟨j, a', c', Be, g1, g2, g3, g4, _⟩ := h6.fi_some hf 0
    have g1 : fi es (.int .i64 (IntKind.wrap .i64 (st.at_ + 1))) 0 = _ := g1
    refine ⟨w.m.kd, w.m.ep, w.m.at_, w.m.ae, w.m.ix, w.m.be, a', w.ops.length, c', w.m.prev, w.m.root, g4.1, w.m.lv, w.m.ii, w.m.left, g4.2.1, w.m.right, g4.2.2, w.m.pA, w.m.pN, w.m.pC, true, ⟨es, mapH_of h5 h6.keys, ?_⟩, nofun, fun _ => ?_⟩
    · unfold lk; rw [g1]; rfl
    refine ⟨bn, 0, rfl, _, rdsL h4 rfl rfl, fun e => ?_, fun e => ?_⟩
    · have e : ¬ w.m.prev = st.ep := by simpa using e
      simp only [tNext, hf, if_neg e] at hk
      exact ⟨bn, 0, rfl, _, rdsL h4 rfl rfl, bn, 0, rfl, _, rdsL h4 rfl rfl, cDrop h1 h2 h3 h4 h5 h6 hf fun B' h' hx' hc => hk trivial B' h' hx' hc⟩
    · have e : w.m.prev = st.ep := by simpa using e
      simp only [tNext, hf, if_pos e] at hk2
      have hw : w ∈ st.ws := List.mem_of_find?_eq_some hf
      exact cCloneOp g3.sr (hn w hw) fun a2 c2 B' h' hb hc => ⟨_, _, _, rfl, hk2 w rfl trivial a2 c2 B' h' hb hc⟩
/-- it is taken -/
def tDone (st : TS) : Nat × TS := match tNext st with
  | (none, st') => (4, st')
  | (some w, _) => (0, { at_ := w.m.ix, ep := w.m.be, ws := tDrop st w.m.ix })
theorem tNext_some {w : Wt} (h : (tNext st).1 = some w) : tFind st (tKey st) = some w ∧ w.m.prev = st.ep ∧ w.m.ix = tKey st ∧ (tNext st).2 = st := by
  unfold tNext at h ⊢
  split at h
  · cases h
  · rename_i w' hf
    split at h
    · rename_i hp
      cases h
      have := List.find?_some hf
      rw [if_pos hp]
      exact ⟨hf, hp, by simpa using this, rfl⟩
    · cases h
theorem cDone (hx : TakeAt B h x st) (hn : ∀ w ∈ st.ws, w.ops.length ≤ 1000000) (hk : ∀ B' h', TakeAt B' h' x (tDone st).2 → Chg B B' h h' → K (.int .i64 ((tDone st).1 : Int)) h') :
    CallH Try.prog id_take_Take_Done [.pointer x] K h := by
  refine F_take_Take_Done_ok (cNone hx ⟨false, rfl, nofun, fun _ => cNext hx hn (fun hN B' h' hx' hc => ⟨_, _, _, _, _, _, rfl, fun _ => ?_, nofun⟩) (fun w hw hs a' c' B' h' hb hc => ⟨_, _, _, _, _, _, rfl, nofun, fun _ => ?_⟩)⟩)
  · have hd : tDone st = (4, (tNext st).2) := by
      unfold tDone
      revert hN
      cases tNext st with
      | mk a b => intro hN; subst hN; rfl
    rw [hd] at hk
    exact hk B' h' hx' hc
  · have hd : tDone st = (0, { at_ := w.m.ix, ep := w.m.be, ws := tDrop st w.m.ix }) := by
      unfold tDone
      revert hw
      cases tNext st with
      | mk a b => intro hw; subst hw; rfl
    rw [hd] at hk
    obtain ⟨hf, hp, hix, _⟩ := tNext_some hw
    have hx1 := hx.chg hc (by intro b _ hb; cases hb)
    obtain ⟨bn, bm, Bs, es, c, rfl, rfl, h1, h2, h3, h4, h5, h6⟩ := hx1
    refine ⟨bn, 0, rfl, _, rdsL h4 rfl rfl, cDrop (k := w.m.ix) h1 h2 h3 h4 h5 h6 (by rw [hix]; exact hf) fun B2 h2' hx2 hc2 => ?_⟩
    obtain ⟨bn', bm', Bs', es', c', e1, rfl, g1, g2, g3, g4, g5, g6⟩ := hx2
    cases e1
    refine ⟨bn, 0, rfl, stL g4 rfl rfl fun h3' hb3 hc3 => ⟨bn, 0, rfl, stL hb3 rfl rfl fun h4' hb4 hc4 => ?_⟩⟩
    have d1 : ∀ b ∈ bm' :: Bs', b ∉ [bn] := fun b hb he => by
      simp only [List.mem_cons, List.not_mem_nil, or_false] at hb he
      rcases hb with hb | hb
      · exact g1 (he.symm.trans hb)
      · exact g2 (he ▸ hb)
    refine hk _ h4' ⟨bn, bm', Bs', es', c', rfl, rfl, g1, g2, g3, hb4, hc4.keep (hc3.keep g5 (d1 _ (by simp))) (d1 _ (by simp)), g6.keep fun b hb o e => hc4.keep (hc3.keep e (d1 _ (by simp [hb]))) (d1 _ (by simp [hb]))⟩ ?_
    exact Chg.pre hc (hc2.trans (hc3.head.trans hc4.head)) hx.has

end TL

namespace TL
open Go Go.Proofs
variable {B : List Nat} {h : PH} {K : Value → PH → Prop} {x : Option Addr} {st : TS}

def entM (i e p : Int) : MsgR := { msgZ with kd := 2, ep := e, ix := i, be := e, prev := p }
theorem msgZ_ok : msgZ.ok := ⟨by simp [msgZ], by simp [msgZ], by simp [msgZ]⟩
theorem entM_ok (i e p : Int) : (entM i e p).ok := msgZ_ok
theorem cEntry {i e p : Int} {a : Option Addr} {n c : Nat} (hk : K (msgV (entM i e p) a n c) h) : CallH Try.prog id_law21_entry [.int .i64 i, .int .i64 e, .int .i64 p, .slice a n c] K h := F_law21_entry_ok hk
/-- a message as a result -/
theorem exMsg {m : MsgR} (hm : m.ok) {a : Option Addr} {n c : Nat} {KK : Int → Int → Int → Int → Int → Int → Option Addr → Nat → Nat → Int → List Int → Int → Int → List Int → List Int → Option Addr → Nat → Nat → Prop} (hk : KK m.kd m.ep m.at_ m.ae m.ix m.be a n c m.prev m.root m.lv m.ii m.left m.right m.pA m.pN m.pC) :
    ∃ t0 : Int, ∃ t1 : Int, ∃ t2 : Int, ∃ t3 : Int, ∃ t4 : Int, ∃ t5 : Int, ∃ (t6A : Option Addr) (t6N t6C : Nat), ∃ t7 : Int, ∃ t8 : List Int, t8.length = 32 ∧ ∃ t9 : Int, ∃ t10 : Int, ∃ t11 : List Int, t11.length = 32 ∧ ∃ t12 : List Int, t12.length = 32 ∧ ∃ (t13A : Option Addr) (t13N t13C : Nat),
      KK t0 t1 t2 t3 t4 t5 t6A t6N t6C t7 t8 t9 t10 t11 t12 t13A t13N t13C :=
  ⟨m.kd, m.ep, m.at_, m.ae, m.ix, m.be, a, n, c, m.prev, m.root, hm.1, m.lv, m.ii, m.left, hm.2.1, m.right, hm.2.2, m.pA, m.pN, m.pC, hk⟩
theorem cGap (hx : TakeAt B h x st) (hn : ∀ w ∈ st.ws, w.ops.length ≤ 1000000) (hk : ∀ B' h', TakeAt B' h' x (tNext st).2 → Chg B B' h h' → K (.bool (decide ((st.ws.length : Int) > 0) && (tNext st).1.isNone)) h') :
    CallH Try.prog id_take_Take_Gap [.pointer x] K h := by
  refine F_take_Take_Gap_ok (cWaits hx ⟨_, rfl, cNext hx hn (fun hN B' h' hx' hc => ⟨_, _, _, _, _, _, rfl, ?_⟩) (fun w hw hs a' c' B' h' hb hc => ⟨_, _, _, _, _, _, rfl, ?_⟩)⟩)
  · have := hk B' h' hx' hc
    rw [hN] at this; exact this
  · have := hk B h' (by rw [hs]; exact hx.chg hc (by intro b _ hb; cases hb)) ⟨fun b o _ e => hc.sub0 b o e, fun b hb => .inl hb⟩
    rw [hw] at this; exact this

/-! ### What statements go through -/
def gOps (ops : List OpR) : Bool := decide (100 < ops.length) || ops.any fun o => decide (1000 < o.p.length) || decide (1000 < o.v.length)
variable {oA : Option Addr} {oC : Nat} {ops : List OpR}
theorem cGreatOps (hl : SR EncOp h oA ops) (hk : K (.bool (gOps ops)) h) : CallH Try.prog id_law12_GreatOps [.slice oA ops.length oC] K h := by
  refine F_law12_GreatOps_ok ⟨fun e => ?_, fun e => ?_⟩
  · have e : 100 < ops.length := by simp at e; omega
    simpa [gOps, e] using hk
  · have e0 : ¬ 100 < ops.length := by simp at e; omega
    refine LoopP.ind (fun (z : Int × Unit) h' => h' = h ∧ (0 ≤ z.1 ∧ z.1 ≤ ops.length) ∧ ∀ j : Nat, (hj : j < ops.length) → (j : Int) < z.1 → (decide (1000 < ops[j].p.length) || decide (1000 < ops[j].v.length)) = false) (fun z _ => (ops.length - z.1).toNat) ?_ ⟨rfl, ⟨by decide, by show (0 : Int) ≤ _; omega⟩, fun j _ hj => by simp only at hj; omega⟩
    rintro ⟨i, u⟩ h1 ⟨rfl, ⟨i0, i1⟩, ha⟩
    dsimp only at i0 i1 ha ⊢
    refine ⟨fun e => ?_, fun e => ?_⟩
    · have e : i < ops.length := by simpa using e
      have hit : i.toNat < ops.length := by omega
      obtain ⟨b, o, hA, hr⟩ := hl.get hit
      have s1 : (decide (((mk ops[i.toNat].p).size : Int) > (1000 : Int)) || decide (((mk ops[i.toNat].v).size : Int) > (1000 : Int))) = (decide (1000 < ops[i.toNat].p.length) || decide (1000 < ops[i.toNat].v.length)) := by
        rw [size_mk, size_mk]
        congr 1 <;> (rw [decide_eq_decide]; omega)
      refine ⟨b, o, ⟨hA, i0, e⟩, _, hr _ 1 1 rfl (by decide), b, o, fun _ => ⟨hA, i0, e⟩, _, fun _ => hr _ 2 1 rfl (by decide), fun e2 => ?_, fun e2 => ?_⟩
      · rw [s1] at e2
        have : gOps ops = true := by
          simp only [gOps, Bool.or_eq_true, List.any_eq_true]
          exact .inr ⟨_, List.getElem_mem hit, by simpa using e2⟩
        rw [this] at hk; exact hk
      · rw [s1] at e2
        rw [wrap64 (n := i + 1) (by omega) (by omega)]
        refine ⟨⟨rfl, ⟨by omega, by omega⟩, fun j hj hji => ?_⟩, by omega⟩
        by_cases hji2 : (j : Int) < i
        · exact ha j hj hji2
        · have : j = i.toNat := by omega
          subst this; exact e2
    · have e : i = ops.length := by simp at e; omega
      have : gOps ops = false := by
        simp only [gOps, Bool.or_eq_false_iff, List.any_eq_false]
        refine ⟨by simpa using e0, fun o ho => ?_⟩
        obtain ⟨j, hj, rfl⟩ := List.getElem_of_mem ho
        have := ha j hj (by omega)
        simpa using this
      rw [this] at hk; exact hk
theorem gOps_no (hg : gOps ops = false) : ops.length ≤ 1000000 ∧ (∀ o ∈ ops, o.p.length ≤ 4611686018427387904) := by
  simp only [gOps, Bool.or_eq_false_iff, List.any_eq_false, decide_eq_false_iff_not] at hg
  refine ⟨by omega, fun o ho => ?_⟩
  have := hg.2 o ho
  simp at this
  omega
theorem cGreatMsg {m : MsgR} (hm : m.ok) (hl : SR EncOp h oA ops) (hk : K (.bool (gOps ops || decide (100 < m.pN))) h) : CallH Try.prog id_law21_GreatMsg [msgV m oA ops.length oC] K h := by
  refine F_law21_GreatMsg_ok hm.1 hm.2.1 hm.2.2 (cGreatOps hl ⟨_, rfl, ?_⟩)
  have : decide (((m.pN : Nat) : Int) > (100 : Int)) = decide (100 < m.pN) := by rw [decide_eq_decide]; omega
  rw [this]; exact hk

/-- an entry of no operations put -/
theorem cPutE {m : MsgR} (hx : TakeAt B h x st) (hm : m.ok) (h0 : decide (0 ≤ st.at_) = true) (hk : ∀ B' h', TakeAt B' h' x (tPut st m []) → Chg B B' h h' → K (.bool (decide (tMay st m []))) h') :
    CallH Try.prog id_take_Take_Put [.pointer x, msgV m none 0 0] K h :=
  cPut (ops := []) hx hm (of_decide_eq_true h0) (.inl rfl) (by simp) (by simp) hk
def okWs (st : TS) : Bool := st.ws.all fun w => decide (w.ops.length ≤ 1000000)
theorem okWs_of (h : okWs st = true) : ∀ w ∈ st.ws, w.ops.length ≤ 1000000 := fun w hw => by
  simp only [okWs, List.all_eq_true, decide_eq_true_eq] at h
  exact h w hw
def s0 : TS := ⟨maxV 0 0, 0, []⟩
def s1 : TS := tPut s0 (entM 2 1 1) []
def s2 : TS := (tNext s1).2
def s3 : TS := tPut s2 (entM 1 1 0) []
def s4 : TS := tPut s3 (entM 1 1 0) []
def s5 : TS := (tDone s4).2
def s6 : TS := (tDone s5).2
theorem n4 : (tNext s4).1 = some ⟨entM 1 1 0, []⟩ := rfl
theorem cWakes (hk : ∀ h', h.Sub h' → K (.bool true) h') : CallH Try.prog id_law21_wakes [] K h := by
  refine F_law21_wakes_ok (cNew fun x B1 h1 x1 c1 => ⟨_, rfl, cEntry (exMsg (entM_ok _ _ _) ⟨rfl, ?_⟩)⟩)
  refine cPutE (st := s0) x1 (entM_ok _ _ _) (by decide +kernel) fun B2 h2 x2 c2 => ⟨_, rfl, ?_⟩
  refine cGap (st := s1) x2 (okWs_of (by decide +kernel)) fun B3 h3 x3 c3 => ⟨_, rfl, cEntry (exMsg (entM_ok _ _ _) ⟨rfl, ?_⟩)⟩
  refine cPutE (st := s2) x3 (entM_ok _ _ _) (by decide +kernel) fun B4 h4 x4 c4 => ⟨_, rfl, cEntry (exMsg (entM_ok _ _ _) ⟨rfl, ?_⟩)⟩
  refine cPutE (st := s3) x4 (entM_ok _ _ _) (by decide +kernel) fun B5 h5 x5 c5 => ⟨_, rfl, ?_⟩
  refine cNext (st := s4) x5 (okWs_of (by decide +kernel)) (fun hN => by rw [n4] at hN; cases hN) fun w hw hs a' c' B' h6 hb c6 => ⟨_, _, _, _, _, _, rfl, ?_⟩
  rw [n4] at hw
  cases hw
  have x6 := x5.chg c6 (by intro b _ hb; cases hb)
  refine cDone (st := s4) x6 (okWs_of (by decide +kernel)) fun B7 h7 x7 c7 => ⟨_, rfl, ?_⟩
  refine cDone (st := s5) x7 (okWs_of (by decide +kernel)) fun B8 h8 x8 c8 => ⟨_, rfl, ?_⟩
  refine cPlace (st := s6) x8 ⟨_, _, rfl, fun _ => cWaits x8 ⟨_, rfl, ?_⟩, fun e => absurd e (by decide +kernel)⟩
  have hz : (((s6.ws.length : Nat) : Int) == (0 : Int)) = true := by decide +kernel
  have hK := hk h8 ((((((c1.trans c2).trans c3).trans c4).trans c5).trans (Chg.pre c6 c7 x5.has)).trans c8).sub0
  rw [← hz] at hK
  exact hK
end TL

namespace TL
open Go Go.Proofs
variable {B : List Nat} {h : PH} {K : Value → PH → Prop} {x : Option Addr} {st : TS}

def msgC (m : MsgR) (a : Option Addr) (n c : Nat) : List Value := .int .u8 m.kd :: (.int .i64 m.ep :: (.int .i64 m.at_ :: (.int .i64 m.ae :: (.int .i64 m.ix :: (.int .i64 m.be :: (.slice a n c :: (.int .i64 m.prev :: (m.root.map (Value.int .u8) ++ (.int .i64 m.lv :: (.int .i64 m.ii :: (m.left.map (Value.int .u8) ++ (m.right.map (Value.int .u8) ++ [.slice m.pA m.pN m.pC]))))))))))))
theorem msgC_len {m : MsgR} (hm : m.ok) (a : Option Addr) (n c : Nat) : (msgC m a n c).length = 107 := by
  obtain ⟨h1, h2, h3⟩ := hm
  simp [msgC, h1, h2, h3]
structure ActR where
  d : Int
  m : MsgR
  a : Option Addr
  c : Nat
  ops : List OpR
  ok : m.ok
def EncAct : Enc ActR where
  enc r := .int .u8 r.d :: msgC r.m r.a r.ops.length r.c
  k := 108
  len r := by simp [msgC_len r.ok]
  one r v hv := by
    simp only [msgC, List.mem_cons, List.mem_append, List.mem_map, List.not_mem_nil, or_false] at hv
    rcases hv with rfl | rfl | rfl | rfl | rfl | rfl | rfl | rfl | rfl | ⟨_, _, rfl⟩ | rfl | rfl | ⟨_, _, rfl⟩ | ⟨_, _, rfl⟩ | rfl <;> rfl
  pos := by decide
def gMsg (r : ActR) : Bool := gOps r.ops || decide (100 < r.m.pN)
def gActs (l : List ActR) : Bool := decide (300 < l.length) || l.any gMsg
variable {lA : Option Addr} {lC : Nat} {l : List ActR}
theorem actRead (hl : SR EncAct h lA l) {i : Nat} (hi : i < l.length) : ∃ b o, lA = some ⟨b, o, none⟩ ∧ h.rds b (o + i * 108) 1 = some [.int .u8 l[i].d] ∧ h.rds b ((o + i * 108) + 1) 107 = some (msgC l[i].m l[i].a l[i].ops.length l[i].c) := by
  obtain ⟨b, o, hA, hr⟩ := hl.get hi
  refine ⟨b, o, hA, hr _ 0 1 rfl (by decide), (hr _ 1 107 rfl (by decide)).trans ?_⟩
  congr 1
  show ((msgC _ _ _ _).take 107) = _
  rw [List.take_of_length_le (by rw [msgC_len l[i].ok]; exact Nat.le_refl _)]
theorem cGreat (hl : SR EncAct h lA l) (hs : ∀ r ∈ l, SR EncOp h r.a r.ops) (hk : K (.bool (gActs l)) h) : CallH Try.prog id_law21_Great [.slice lA l.length lC] K h := by
  refine F_law21_Great_ok ⟨fun e => ?_, fun e => ?_⟩
  · have e : 300 < l.length := by simp at e; omega
    simpa [gActs, e] using hk
  · have e0 : ¬ 300 < l.length := by simp at e; omega
    refine LoopP.ind (fun (z : Int × Unit) h' => h' = h ∧ (0 ≤ z.1 ∧ z.1 ≤ l.length) ∧ ∀ j : Nat, (hj : j < l.length) → (j : Int) < z.1 → gMsg l[j] = false) (fun z _ => (l.length - z.1).toNat) ?_ ⟨rfl, ⟨by decide, by show (0 : Int) ≤ _; omega⟩, fun j _ hj => by simp only at hj; omega⟩
    rintro ⟨i, u⟩ h1 ⟨rfl, ⟨i0, i1⟩, ha⟩
    dsimp only at i0 i1 ha ⊢
    refine ⟨fun e => ?_, fun e => ?_⟩
    · have e : i < l.length := by simpa using e
      have hit : i.toNat < l.length := by omega
      obtain ⟨b, o, hA, _, hr⟩ := actRead hl hit
      refine ⟨b, o, ⟨hA, i0, e⟩, exMsg l[i.toNat].ok ⟨hr, cGreatMsg l[i.toNat].ok (hs _ (List.getElem_mem hit)) ⟨_, rfl, fun e2 => ?_, fun e2 => ?_⟩⟩⟩
      · have : gActs l = true := by
          simp only [gActs, Bool.or_eq_true, List.any_eq_true]
          exact .inr ⟨_, List.getElem_mem hit, e2⟩
        rw [this] at hk; exact hk
      · rw [wrap64 (n := i + 1) (by omega) (by omega)]
        refine ⟨⟨rfl, ⟨by omega, by omega⟩, fun j hj hji => ?_⟩, by omega⟩
        by_cases hji2 : (j : Int) < i
        · exact ha j hj hji2
        · have : j = i.toNat := by omega
          subst this; exact e2
    · have e : i = l.length := by simp at e; omega
      have : gActs l = false := by
        simp only [gActs, Bool.or_eq_false_iff, List.any_eq_false]
        refine ⟨by simpa using e0, fun r hr => ?_⟩
        obtain ⟨j, hj, rfl⟩ := List.getElem_of_mem hr
        have := ha j hj (by omega)
        simp [this]
      rw [this] at hk; exact hk

/-! ### What a take keeps -/
structure TGood (st : TS) (n : Nat) : Prop where
  at0 : 0 ≤ st.at_
  len : st.ws.length ≤ n
  small : ∀ w ∈ st.ws, w.ops.length ≤ 1000000
  ix : ∀ w ∈ st.ws, 1 ≤ w.m.ix
theorem TGood.put {n : Nat} (hg : TGood st n) (m : MsgR) {ops : List OpR} (ho : ops.length ≤ 1000000) : TGood (tPut st m ops) (n + 1) := by
  unfold tPut
  split
  · rename_i hm
    refine ⟨hg.at0, by simp [hg.len], fun w hw => ?_, fun w hw => ?_⟩
    · rcases List.mem_append.1 hw with hw | hw
      · exact hg.small w hw
      · simp at hw; subst hw; exact ho
    · rcases List.mem_append.1 hw with hw | hw
      · exact hg.ix w hw
      · simp at hw; subst hw; exact (rightE_ix hm.2.1).1
  · exact ⟨hg.at0, by have := hg.len; omega, hg.small, hg.ix⟩
theorem TGood.drop {n : Nat} (hg : TGood st n) (k : Int) {a e : Int} (h0 : 0 ≤ a) : TGood ⟨a, e, tDrop st k⟩ n :=
  ⟨h0, Nat.le_trans List.eraseP_sublist.length_le hg.len, fun w hw => hg.small w (List.mem_of_mem_eraseP hw), fun w hw => hg.ix w (List.mem_of_mem_eraseP hw)⟩
theorem TGood.next {n : Nat} (hg : TGood st n) : TGood (tNext st).2 n := by
  unfold tNext
  split
  · exact hg
  · split
    · exact hg
    · exact hg.drop _ hg.at0
theorem TGood.done {n : Nat} (hg : TGood st n) : TGood (tDone st).2 n := by
  have hn := hg.next
  unfold tDone
  cases hc : tNext st with
  | mk a b =>
    rw [hc] at hn
    cases a with
    | none => exact hn
    | some w =>
      have := (tNext_some (st := st) (w := w) (by rw [hc])).1
      have hw : w ∈ st.ws := List.mem_of_find?_eq_some this
      have := hg.ix w hw
      exact hg.drop _ (by omega)

/-- an act -/
def qStep (st : TS) (r : ActR) : TS := if r.d = 0 then tPut st r.m r.ops else if r.d = 2 then (tDone st).2 else st
variable {m : MsgR} {oA : Option Addr} {oC : Nat} {ops : List OpR}
theorem tPut_at (st : TS) (m : MsgR) (ops : List OpR) : (tPut st m ops).at_ = st.at_ ∧ (tPut st m ops).ep = st.ep := by
  unfold tPut; split <;> exact ⟨rfl, rfl⟩
theorem TakeQuiet_den {at_ ep : Int} (hl : SR EncAct h lA l) (hs : ∀ r ∈ l, SR EncOp h r.a r.ops) (hm : m.ok) (hlo : SR EncOp h oA ops) (hk : ∀ h', h.Sub h' → K (.bool true) h') :
    CallH Try.prog id_law21_TakeQuiet [.int .i64 at_, .int .i64 ep, .slice lA l.length lC, msgV m oA ops.length oC] K h := by
  refine F_law21_TakeQuiet_ok hm.1 hm.2.1 hm.2.2 (JoinP.here (cGreat hl hs ⟨_, rfl, fun eg => cGreatMsg hm hlo ⟨_, rfl, fun e => cWakes fun h' hh => ⟨_, rfl, hk h' hh⟩, fun eo => ?_⟩, fun e => cWakes fun h' hh => ⟨_, rfl, hk h' hh⟩⟩))
  have eo : gOps ops = false := (Bool.or_eq_false_iff.1 eo).1
  obtain ⟨on, op⟩ := gOps_no eo
  have hg : l.length ≤ 300 ∧ ∀ r ∈ l, gOps r.ops = false := by
    simp only [gActs, Bool.or_eq_false_iff, List.any_eq_false, decide_eq_false_iff_not, gMsg] at eg
    exact ⟨by omega, fun r hr => by have := eg.2 r hr; simp at this; exact this.1⟩
  obtain ⟨hlen, hro⟩ := hg
  refine cNew fun x B1 h1 x1 c1 => ⟨_, rfl, ?_⟩
  have hm0 : 0 ≤ maxV at_ 0 := by unfold maxV; split <;> omega
  refine LoopP.ind (fun (z : Int × Unit) h' => (0 ≤ z.1 ∧ z.1 ≤ l.length) ∧ ∃ B' st, TakeAt B' h' x st ∧ Chg [] B' h h' ∧ TGood st z.1.toNat) (fun z _ => (l.length - z.1).toNat) ?_ ⟨⟨by decide, by show (0 : Int) ≤ _; omega⟩, B1, _, x1, c1, ⟨hm0, Nat.le_refl _, by simp, by simp⟩⟩
  rintro ⟨i, u⟩ h2 ⟨⟨i0, i1⟩, B2, st, x2, c2, g2⟩
  dsimp only at i0 i1 g2 ⊢
  refine ⟨fun e => ?_, fun e => ?_⟩
  · have e : i < l.length := by simpa using e
    have hit : i.toNat < l.length := by omega
    have hmem := List.getElem_mem hit
    obtain ⟨b, o, hA, hd, hr⟩ := actRead (hl.sub c2.sub0) hit
    obtain ⟨an, ap⟩ := gOps_no (hro _ hmem)
    have gq : TGood (qStep st l[i.toNat]) (i + 1).toNat := by
      rw [show (i + 1).toNat = i.toNat + 1 by omega]
      unfold qStep
      split
      · exact g2.put _ an
      · split
        · have := g2.done; exact ⟨this.at0, by have := this.len; omega, this.small, this.ix⟩
        · exact ⟨g2.at0, by have := g2.len; omega, g2.small, g2.ix⟩
    have go : ∀ B3 h3 st3, TakeAt B3 h3 x st3 → st3 = qStep st l[i.toNat] → Chg B2 B3 h2 h3 → ((0 ≤ IntKind.wrap .i64 (i + 1) ∧ IntKind.wrap .i64 (i + 1) ≤ l.length) ∧ ∃ B' st, TakeAt B' h3 x st ∧ Chg [] B' h h3 ∧ TGood st (IntKind.wrap .i64 (i + 1)).toNat) ∧ (l.length - IntKind.wrap .i64 (i + 1)).toNat < (l.length - i).toNat := fun B3 h3 st3 x3 e3 c3 => by
      subst e3
      rw [wrap64 (n := i + 1) (by omega) (by omega)]
      exact ⟨⟨⟨by omega, by omega⟩, B3, _, x3, c2.trans c3, gq⟩, by omega⟩
    refine ⟨b, o, ⟨hA, i0, e⟩, _, hd, fun e0 => ⟨b, o, ⟨hA, i0, e⟩, exMsg l[i.toNat].ok ⟨hr, cPut x2 l[i.toNat].ok g2.at0 ((hs _ hmem).sub c2.sub0) an ap fun B3 h3 x3 c3 => ⟨_, rfl, go B3 h3 _ x3 ?_ c3⟩⟩⟩, fun e0 => ⟨fun e1 => cDone x2 g2.small fun B3 h3 x3 c3 => ⟨_, rfl, go B3 h3 _ x3 ?_ c3⟩, fun e1 => go B2 h2 _ x2 ?_ (Chg.refl _ _)⟩⟩
    · have e0 : l[i.toNat].d = 0 := by simpa using e0
      simp [qStep, e0]
    · have e0 : ¬ l[i.toNat].d = 0 := by simpa using e0
      have e1 : l[i.toNat].d = 2 := by simpa using e1
      simp [qStep, e1]
    · have e0 : ¬ l[i.toNat].d = 0 := by simpa using e0
      have e1 : ¬ l[i.toNat].d = 2 := by simpa using e1
      simp [qStep, e0, e1]
  · have hlo2 := hlo.sub c2.sub0
    have hlen2 := g2.len
    refine cWaits x2 ⟨_, rfl, cPlace x2 ⟨_, _, rfl, cPut x2 hm g2.at0 hlo2 on op fun B3 h3 x3 c3 => ⟨_, rfl, cPlace x3 ⟨_, _, rfl, fun e1 => ?_, fun e1 => ⟨fun e2 => ?_, fun e2 => ?_⟩⟩⟩⟩⟩
    · rw [(tPut_at st m ops).1, (tPut_at st m ops).2] at e1; simp at e1
    · have e2 : ¬ tMay st m ops := by simpa using e2
      have hp : tPut st m ops = st := by rw [tPut, if_neg e2]
      refine cWaits x3 ⟨_, rfl, fun _ => cWakes fun h' hh => ⟨_, rfl, hk h' ((c2.trans c3).sub0.tr hh)⟩, fun e3 => ?_⟩
      rw [hp] at e3; simp at e3
    · have e2 : tMay st m ops := by simpa using e2
      have hp : tPut st m ops = { st with ws := st.ws ++ [⟨m, ops⟩] } := by rw [tPut, if_pos e2]
      obtain ⟨q1, q2, q3, q4, q5, q6⟩ := e2
      have hix := rightE_ix q2
      have at0 := g2.at0
      have hlo3 : SR EncOp h3 oA ops := hlo.sub (c2.trans c3).sub0
      have g3 := g2.put m on
      refine ⟨fun _ => cRightB hlo3 on op ⟨_, rfl, fun _ => cWaits x3 ⟨_, rfl, fun _ => cPut x3 hm g3.at0 hlo3 on op fun B4 h4 x4 c4 => ⟨_, rfl, fun _ => cWakes fun h' hh => ⟨_, rfl, hk h' (((c2.trans c3).trans c4).sub0.tr hh)⟩, fun e5 => ?_⟩, fun e4 => ?_⟩, fun e3 => ?_⟩, fun e => by rw [q1] at e; cases e⟩
      · have : tMay (tPut st m ops) m ops := by simpa using e5
        have := this.2.2.2.2.2
        rw [hp] at this
        simp [tFind] at this
      · rw [hp, wrap64 (by omega) (by omega)] at e4
        simp at e4
      · rw [wrap64 (by omega) (by omega), q2] at e3
        have : (((((0 : Nat) : Int) == (0 : Int)) && decide (m.ix > st.at_)) && decide (m.ix - st.at_ ≤ 64) && decide (m.prev ≥ 0)) = true := by
          simp; omega
        rw [this] at e3; cases e3
end TL

namespace TL
open Go Go.Proofs
variable {B : List Nat} {h : PH} {K : Value → PH → Prop} {x : Option Addr} {st : TS}

def u1 : TS := tPut s0 (entM 2 1 1) []
def u2 : TS := (tNext u1).2
def u3 : TS := (tNext u2).2
def u4 : TS := tPut u3 (entM 1 1 0) []
def u5 : TS := tPut u4 (entM 1 1 0) []
def u6 : TS := (tDone u5).2
def u7 : TS := (tDone u6).2
def u8 : TS := (tDone u7).2
def u9 : TS := tPut u8 (entM 1 1 0) []
def u10 : TS := tPut u9 (entM 67 1 1) []
def u11 : TS := tPut u10 (entM 66 1 1) []
def u12 : TS := tPut u11 (entM 3 2 9) []
def u13 : TS := (tNext u12).2
def u14 : TS := tPut u13 (entM 3 2 1) []
def rootM : MsgR := { msgZ with kd := 4, ix := 4, be := 2 }
def u15 : TS := tPut u14 rootM []
def u16 : TS := tPut u15 (entM 4 0 1) []
def u17 : TS := tPut u16 (entM 4 1 (-1)) []
theorem nu2 : (tNext u2).1 = none := rfl
theorem nu5 : (tNext u5).1 = some ⟨entM 1 1 0, []⟩ := rfl
theorem nu6 : (tNext u6).1 = some ⟨entM 2 1 1, []⟩ := rfl
theorem nu12 : (tNext u12).1 = none := rfl
theorem nu5' : (tNext u5).2 = u5 := rfl
theorem nu6' : (tNext u6).2 = u6 := rfl
theorem TakeKnown_den (hk : ∀ h', h.Sub h' → K (.bool true) h') : CallH Try.prog id_law21_TakeKnown [] K h := by
  refine F_law21_TakeKnown_ok (cNew fun x B1 h1 x1 c1 => ⟨_, rfl, cEntry (exMsg (entM_ok _ _ _) ⟨rfl, ?_⟩)⟩)
  refine cPutE (st := s0) x1 (entM_ok _ _ _) (by decide +kernel) fun B2 h2 x2 c2 => ⟨_, rfl, ?_⟩
  refine cGap (st := u1) x2 (okWs_of (by decide +kernel)) fun B3 h3 x3 c3 => ⟨_, rfl, ?_⟩
  refine cNext (st := u2) x3 (okWs_of (by decide +kernel)) (fun hN B4 h4 x4 c4 => ⟨_, _, _, _, _, _, rfl, cEntry (exMsg (entM_ok _ _ _) ⟨rfl, ?_⟩)⟩) (fun w hw => by rw [nu2] at hw; cases hw)
  refine cPutE (st := u3) x4 (entM_ok _ _ _) (by decide +kernel) fun B5 h5 x5 c5 => ⟨_, rfl, cEntry (exMsg (entM_ok _ _ _) ⟨rfl, ?_⟩)⟩
  refine cPutE (st := u4) x5 (entM_ok _ _ _) (by decide +kernel) fun B6 h6 x6 c6 => ⟨_, rfl, ?_⟩
  refine cNext (st := u5) x6 (okWs_of (by decide +kernel)) (fun hN => by rw [nu5] at hN; cases hN) fun w hw hs a7 d7 B7 h7 hb7 c7 => ⟨_, _, _, _, _, _, rfl, ?_⟩
  rw [nu5] at hw
  cases hw
  have x7 := x6.chg c7 (by intro b _ hb; cases hb)
  refine cDone (st := u5) x7 (okWs_of (by decide +kernel)) fun B8 h8 x8 c8 => ⟨_, rfl, ?_⟩
  refine cPlace (st := u6) x8 ⟨_, _, rfl, ?_⟩
  refine cNext (st := u6) x8 (okWs_of (by decide +kernel)) (fun hN => by rw [nu6] at hN; cases hN) fun w hw hs a9 d9 B9 h9 hb9 c9 => ⟨_, _, _, _, _, _, rfl, ?_⟩
  rw [nu6] at hw
  cases hw
  have x9 := x8.chg c9 (by intro b _ hb; cases hb)
  refine cDone (st := u6) x9 (okWs_of (by decide +kernel)) fun B10 h10 x10 c10 => ⟨_, rfl, ?_⟩
  refine cDone (st := u7) x10 (okWs_of (by decide +kernel)) fun B11 h11 x11 c11 => ⟨_, rfl, ?_⟩
  refine cAck (st := u8) x11 (exMsg (m := { msgZ with kd := 3, ep := 5, at_ := u8.at_, ae := u8.ep }) msgZ_ok ⟨rfl, ?_⟩)
  refine cEntry (exMsg (entM_ok _ _ _) ⟨rfl, ?_⟩)
  refine cPutE (st := u8) x11 (entM_ok _ _ _) (by decide +kernel) fun B12 h12 x12 c12 => ⟨_, rfl, cEntry (exMsg (entM_ok _ _ _) ⟨rfl, ?_⟩)⟩
  refine cPutE (st := u9) x12 (entM_ok _ _ _) (by decide +kernel) fun B13 h13 x13 c13 => ⟨_, rfl, cEntry (exMsg (entM_ok _ _ _) ⟨rfl, ?_⟩)⟩
  refine cPutE (st := u10) x13 (entM_ok _ _ _) (by decide +kernel) fun B14 h14 x14 c14 => ⟨_, rfl, cEntry (exMsg (entM_ok _ _ _) ⟨rfl, ?_⟩)⟩
  refine cPutE (st := u11) x14 (entM_ok _ _ _) (by decide +kernel) fun B15 h15 x15 c15 => ⟨_, rfl, ?_⟩
  refine cWaits (st := u12) x15 ⟨_, rfl, ?_⟩
  refine cNext (st := u12) x15 (okWs_of (by decide +kernel)) (fun hN B16 h16 x16 c16 => ⟨_, _, _, _, _, _, rfl, cEntry (exMsg (entM_ok _ _ _) ⟨rfl, ?_⟩)⟩) (fun w hw => by rw [nu12] at hw; cases hw)
  refine cPutE (st := u13) x16 (entM_ok _ _ _) (by decide +kernel) fun B17 h17 x17 c17 => ⟨_, rfl, ?_⟩
  refine cPutE (st := u14) (m := rootM) x17 msgZ_ok (by decide +kernel) fun B18 h18 x18 c18 => ⟨_, rfl, ?_⟩
  refine JoinP.here (cEntry (exMsg (entM_ok _ _ _) ⟨rfl, ?_⟩))
  refine cPutE (st := u15) x18 (entM_ok _ _ _) (by decide +kernel) fun B19 h19 x19 c19 => ⟨_, rfl, fun _ => cEntry (exMsg (entM_ok _ _ _) ⟨rfl, ?_⟩), fun e => absurd e (by decide +kernel)⟩
  refine cPutE (st := u16) x19 (entM_ok _ _ _) (by decide +kernel) fun B20 h20 x20 c20 => ⟨_, rfl, ?_⟩
  refine cNew fun y B21 h21 x21 c21 => ⟨_, rfl, ?_⟩
  refine cPlace x21 ⟨_, _, rfl, fun _ => ?_, fun e => absurd e (by decide +kernel)⟩
  have x22 := x20.chg c21 (by intro b _ hb; cases hb)
  refine cWaits (st := u17) x22 ⟨_, rfl, fun _ => cWakes fun h' hh => ⟨_, rfl, hk h' ?_⟩, fun e => absurd e (by decide +kernel)⟩
  have q1 := ((((c1.trans c2).trans c3).trans c4).trans c5).trans c6
  have q2 := (q1.trans (Chg.pre c7 c8 x6.has)).trans (Chg.pre c9 c10 x8.has)
  have q3 := ((((((((q2.trans c11).trans c12).trans c13).trans c14).trans c15).trans c16).trans c17).trans c18).trans (c19.trans c20)
  exact (q3.sub0.tr c21.sub0).tr hh
end TL

namespace TL
open Go Go.Proofs
variable {B : List Nat} {h : PH} {K : Value → PH → Prop}

structure PrR where
  p : List UInt8
  v : List UInt8
  deriving DecidableEq
def EncPr : Enc PrR where
  enc o := [.string (mk o.p), .string (mk o.v)]
  k := 2
  len _ := rfl
  one o v hv := by
    simp only [List.mem_cons, List.not_mem_nil, or_false] at hv
    rcases hv with rfl | rfl <;> rfl
  pos := by decide
def gPrs (l : List PrR) : Bool := decide (200 < l.length) || l.any fun o => decide (1000 < o.p.length) || decide (1000 < o.v.length)
variable {pA : Option Addr} {pC : Nat} {prs : List PrR}
theorem cGreatPairs (hl : SR EncPr h pA prs) (hk : K (.bool (gPrs prs)) h) : CallH Try.prog id_law13_GreatPairs [.slice pA prs.length pC] K h := by
  refine F_law13_GreatPairs_ok ⟨fun e => ?_, fun e => ?_⟩
  · have e : 200 < prs.length := by simp at e; omega
    simpa [gPrs, e] using hk
  · have e0 : ¬ 200 < prs.length := by simp at e; omega
    refine LoopP.ind (fun (z : Int × Unit) h' => h' = h ∧ (0 ≤ z.1 ∧ z.1 ≤ prs.length) ∧ ∀ j : Nat, (hj : j < prs.length) → (j : Int) < z.1 → (decide (1000 < prs[j].p.length) || decide (1000 < prs[j].v.length)) = false) (fun z _ => (prs.length - z.1).toNat) ?_ ⟨rfl, ⟨by decide, by show (0 : Int) ≤ _; omega⟩, fun j _ hj => by simp only at hj; omega⟩
    rintro ⟨i, u⟩ h1 ⟨rfl, ⟨i0, i1⟩, ha⟩
    dsimp only at i0 i1 ha ⊢
    refine ⟨fun e => ?_, fun e => ?_⟩
    · have e : i < prs.length := by simpa using e
      have hit : i.toNat < prs.length := by omega
      obtain ⟨b, o, hA, hr⟩ := hl.get hit
      have s1 : (decide (((mk prs[i.toNat].p).size : Int) > (1000 : Int)) || decide (((mk prs[i.toNat].v).size : Int) > (1000 : Int))) = (decide (1000 < prs[i.toNat].p.length) || decide (1000 < prs[i.toNat].v.length)) := by
        rw [size_mk, size_mk]
        congr 1 <;> (rw [decide_eq_decide]; omega)
      refine ⟨b, o, ⟨hA, i0, e⟩, _, hr _ 0 1 rfl (by decide), b, o, fun _ => ⟨hA, i0, e⟩, _, fun _ => hr _ 1 1 rfl (by decide), fun e2 => ?_, fun e2 => ?_⟩
      · rw [s1] at e2
        have : gPrs prs = true := by
          simp only [gPrs, Bool.or_eq_true, List.any_eq_true]
          exact .inr ⟨_, List.getElem_mem hit, by simpa using e2⟩
        rw [this] at hk; exact hk
      · rw [s1] at e2
        rw [wrap64 (n := i + 1) (by omega) (by omega)]
        refine ⟨⟨rfl, ⟨by omega, by omega⟩, fun j hj hji => ?_⟩, by omega⟩
        by_cases hji2 : (j : Int) < i
        · exact ha j hj hji2
        · have : j = i.toNat := by omega
          subst this; exact e2
    · have e : i = prs.length := by simp at e; omega
      have : gPrs prs = false := by
        simp only [gPrs, Bool.or_eq_false_iff, List.any_eq_false]
        refine ⟨by simpa using e0, fun o ho => ?_⟩
        obtain ⟨j, hj, rfl⟩ := List.getElem_of_mem ho
        have := ha j hj (by omega)
        simpa using this
      rw [this] at hk; exact hk
/-- a slice of operations in a row -/
structure OsR where
  a : Option Addr
  c : Nat
  ops : List OpR
def EncOs : Enc OsR where
  enc r := [.slice r.a r.ops.length r.c]
  k := 1
  len _ := rfl
  one o v hv := by
    simp only [List.mem_cons, List.not_mem_nil, or_false] at hv
    rcases hv with rfl; rfl
  pos := by decide
def gRow (rows : List OsR) (gone : Nat) (prs : List PrR) : Bool := decide (80 < rows.length) || (decide (200 < gone) || (gPrs prs || rows.any fun r => gOps r.ops))
variable {rA eA : Option Addr} {rC eN eC : Nat} {rows : List OsR} {i0 i1 : Int}
theorem cGreat20 (hr : SR EncOs h rA rows) (hs : ∀ r ∈ rows, SR EncOp h r.a r.ops) (hl : SR EncPr h pA prs) (hk : K (.bool (gRow rows eN prs)) h) :
    CallH Try.prog id_law20_Great [.agg #[.int .i64 i0, .int .i64 i1, .slice rA rows.length rC, .slice eA eN eC, .slice pA prs.length pC]] K h := by
  refine F_law20_Great_ok (JoinP.here ⟨fun e => cGreatPairs hl ⟨_, rfl, fun e2 => ?_, fun e2 => ?_⟩, fun e => ?_⟩)
  · simp only [gRow, e2, Bool.true_or, Bool.or_true] at hk; exact hk
  · have e0 : ¬ 80 < rows.length ∧ ¬ 200 < eN := by
      simp only [Bool.or_eq_false_iff, decide_eq_false_iff_not] at e
      omega
    have hg : gRow rows eN prs = rows.any fun r => gOps r.ops := by simp only [gRow, e2, e0.1, e0.2, decide_false, Bool.false_or]
    rw [hg] at hk
    refine LoopP.ind (fun (z : Int × Unit) h' => h' = h ∧ (0 ≤ z.1 ∧ z.1 ≤ rows.length) ∧ ∀ j : Nat, (hj : j < rows.length) → (j : Int) < z.1 → gOps rows[j].ops = false) (fun z _ => (rows.length - z.1).toNat) ?_ ⟨rfl, ⟨by decide, by show (0 : Int) ≤ _; omega⟩, fun j _ hj => by simp only at hj; omega⟩
    rintro ⟨i, u⟩ h1 ⟨rfl, ⟨j0, j1⟩, ha⟩
    dsimp only at j0 j1 ha ⊢
    refine ⟨fun e => ?_, fun e => ?_⟩
    · have e : i < rows.length := by simpa using e
      have hit : i.toNat < rows.length := by omega
      obtain ⟨b, o, hA, hrd⟩ := hr.get hit
      refine ⟨b, o, ⟨hA, j0, e⟩, _, _, _, hrd _ 0 1 rfl (by decide), cGreatOps (hs _ (List.getElem_mem hit)) ⟨_, rfl, fun e2 => ?_, fun e2 => ?_⟩⟩
      · have : (rows.any fun r => gOps r.ops) = true := List.any_eq_true.2 ⟨_, List.getElem_mem hit, e2⟩
        rw [this] at hk; exact hk
      · rw [wrap64 (n := i + 1) (by omega) (by omega)]
        refine ⟨⟨rfl, ⟨by omega, by omega⟩, fun j hj hji => ?_⟩, by omega⟩
        by_cases hji2 : (j : Int) < i
        · exact ha j hj hji2
        · have : j = i.toNat := by omega
          subst this; exact e2
    · have e : i = rows.length := by simp at e; omega
      have : (rows.any fun r => gOps r.ops) = false := by
        rw [List.any_eq_false]
        intro r hr
        obtain ⟨j, hj, rfl⟩ := List.getElem_of_mem hr
        simp [ha j hj (by omega)]
      rw [this] at hk; exact hk
  · have : gRow rows eN prs = true := by
      simp only [Bool.or_eq_true, decide_eq_true_eq] at e
      simp only [gRow, Bool.or_eq_true, decide_eq_true_eq]
      omega
    rw [this] at hk; exact hk
end TL

namespace TL
open Go Go.Proofs
variable {B : List Nat} {h : PH} {K : Value → PH → Prop} {x : Option Addr} {st : TS}

def over : List UInt8 := [119, 114, 105, 116, 116, 101, 110, 32, 111, 118, 101, 114]
theorem over_eq : (⟨#[119, 114, 105, 116, 116, 101, 110, 32, 111, 118, 101, 114]⟩ : ByteArray) = mk over := rfl
/-- a path written over -/
theorem setPath {a : Option Addr} {n c : Nat} {l : List OpR} (hb : Buf EncOp T_api_Op B h a n c l) {i : Nat} (hi : i < l.length) {KK : PH → Prop} (hk : ∀ h', Buf EncOp T_api_Op B h' a n c (l.set i { l[i] with p := over }) → Chg B B h h' → KK h') :
    ∃ b o, a = some ⟨b, o, none⟩ ∧ stH h b ((o + i * 3) + 1) [.string (mk over)] KK := by
  obtain ⟨b, o, hA, _⟩ := hb.sr.get hi
  exact ⟨b, o, hA, hb.setAt (f := 1) (y := { l[i] with p := over }) hi hA rfl rfl (by decide) hk⟩
variable {oA : Option Addr} {oC : Nat} {ops : List OpR}
theorem tM (ops : List OpR) : tMay s0 (entM 1 1 0) ops ↔ rightE 1 1 ops = 0 := by
  have h : tFind s0 (entM 1 1 0).ix = none := rfl
  constructor
  · exact fun h => h.2.1
  · exact fun e => ⟨rfl, e, by decide, by decide, by decide, h⟩
theorem tN {ops : List OpR} (h : tMay s0 (entM 1 1 0) ops) : (tNext (tPut s0 (entM 1 1 0) ops)).1 = some ⟨entM 1 1 0, ops⟩ ∧ (tPut s0 (entM 1 1 0) ops) = ⟨0, 0, [⟨entM 1 1 0, ops⟩]⟩ := by
  have : tPut s0 (entM 1 1 0) ops = ⟨0, 0, [⟨entM 1 1 0, ops⟩]⟩ := by rw [tPut, if_pos h]; rfl
  rw [this]; exact ⟨rfl, rfl⟩
theorem TakeOwn_den (hl : SR EncOp h oA ops) (hk : ∀ h', h.Sub h' → K (.bool true) h') : CallH Try.prog id_law21_TakeOwn [.slice oA ops.length oC] K h := by
  refine F_law21_TakeOwn_ok (nwL (cs := [.slice oA ops.length oC]) fun b1 h1 hb hb1 c1 => ?_)
  refine cGreat20 (rows := [⟨oA, oC, ops⟩]) (prs := []) (.inr ⟨b1, 0, rfl, rdsL hb1 rfl rfl⟩) (fun r hr => by simp at hr; subst hr; exact hl.sub c1.sub0) (.inl rfl) ⟨_, rfl, fun _ => cWakes fun h' hh => ⟨_, rfl, hk h' (c1.sub0.tr hh)⟩, fun eg => ?_⟩
  have eo : gOps ops = false := by simpa [gRow, gPrs] using eg
  obtain ⟨on, op⟩ := gOps_no eo
  refine nwL (cs := []) fun b2 h4 hb2 hb4 c2 => ⟨EncOp.row ops, (hl.sub (c1.sub0.tr c2.sub0)).src, ?_⟩
  refine (Buf.nil EncOp T_api_Op h4 (some ⟨b2, 0, none⟩)).append (new := ops) rfl rfl rfl (by omega) ?_
  intro inA inC Bin h5 hin c5 _
  rw [Nat.zero_add] at hin ⊢
  rw [List.nil_append] at hin
  refine cNew fun x B6 h6 x6 c6 => ⟨_, rfl, cEntry (exMsg (entM_ok _ _ _) ⟨rfl, ?_⟩)⟩
  have d0 : ∀ b ∈ Bin, b ∉ ([] : List Nat) := fun b _ hb => by cases hb
  have hin6 := hin.chg c6 d0
  refine cPut (st := s0) x6 (entM_ok _ _ _) (by decide) hin6.sr on op fun B8 h8 x8 c8 => ⟨_, rfl, fun e => ?_, fun e => ?_⟩
  · have hm : ¬ tMay s0 (entM 1 1 0) ops := by simpa using e
    have hr : rightE 1 1 ops ≠ 0 := fun h => hm ((tM ops).2 h)
    have hs8 : h.Sub h8 := c1.sub0.tr (c2.sub0.tr (c5.sub0.tr ((c6.trans c8).sub0)))
    refine cRightB (hl.sub hs8) on op ⟨_, rfl, fun _ => cWakes fun h' hh => ⟨_, rfl, hk h' (hs8.tr hh)⟩, fun e2 => ?_⟩
    have : rightE 1 1 ops = 0 := by
      have : ((rightE 1 1 ops : Nat) : Int) = 0 := by simpa using e2
      omega
    exact absurd this hr
  · have hm : tMay s0 (entM 1 1 0) ops := by simpa using e
    obtain ⟨nx, hs1⟩ := tN hm
    have dj6 : Dj Bin B6 := c6.dj (Dj.nil Bin) hin.has
    have dj8 : Dj Bin B8 := c8.dj dj6 hin6.has
    have hin8 := hin6.chg c8 dj6
    have c58 := c6.trans c8
    have hs8 : h.Sub h8 := c1.sub0.tr (c2.sub0.tr (c5.sub0.tr c58.sub0))
    have fresh : ∀ b ∈ Bin, h b = none := fun b hb => by
      have h1 := (c5.2 b hb).resolve_left (by simp)
      cases hx : h b with
      | none => rfl
      | some o => rw [(c1.sub0.tr c2.sub0) b o hx] at h1; cases h1
    refine LoopP.ind (fun (z : Int × Unit) h' => (0 ≤ z.1 ∧ z.1 ≤ ops.length) ∧ ∃ l', l'.length = ops.length ∧ Buf EncOp T_api_Op Bin h' inA ops.length inC l' ∧ Chg Bin Bin h8 h') (fun z _ => (ops.length - z.1).toNat) ?_ ⟨⟨by decide, by show (0 : Int) ≤ _; omega⟩, ops, rfl, hin8, Chg.refl _ _⟩
    rintro ⟨i, u⟩ h9 ⟨⟨i0, i1⟩, l', hl', hb9, c9⟩
    dsimp only at i0 i1 ⊢
    refine ⟨fun e => ?_, fun e => ?_⟩
    · have e : i < ops.length := by simpa using e
      have hit : i.toNat < l'.length := by omega
      obtain ⟨b, o, hA, hst⟩ := setPath hb9 hit (KK := fun h' => ((0 ≤ IntKind.wrap .i64 (i + 1) ∧ IntKind.wrap .i64 (i + 1) ≤ ops.length) ∧ ∃ l', l'.length = ops.length ∧ Buf EncOp T_api_Op Bin h' inA ops.length inC l' ∧ Chg Bin Bin h8 h') ∧ (ops.length - IntKind.wrap .i64 (i + 1)).toNat < (ops.length - i).toNat) fun h' hb' c' => by
        rw [wrap64 (n := i + 1) (by omega) (by omega)]
        exact ⟨⟨⟨by omega, by omega⟩, _, by simp [hl'], hb', c9.trans c'⟩, by omega⟩
      exact ⟨b, o, ⟨hA, i0, e⟩, hst⟩
    · have x9 : TakeAt B8 h9 x (tPut s0 (entM 1 1 0) ops) := x8.chg c9 dj8.symm
      have hs9 : h.Sub h9 := fun b o hb => c9.1 b o (fun hm => by rw [fresh b hm] at hb; cases hb) (hs8 b o hb)
      have sm : ∀ w ∈ (tPut s0 (entM 1 1 0) ops).ws, w.ops.length ≤ 1000000 := by rw [hs1]; simp [on]
      refine cNext x9 sm (fun hN => by rw [nx] at hN; cases hN) fun w hw hs a2 k2 Bq h10 hq c10 => ⟨_, _, _, _, _, _, rfl, ?_⟩
      rw [nx] at hw
      cases hw
      have djq : Dj B8 Bq := c10.dj (Dj.nil B8) x9.has
      have x10 := x9.chg c10 (by intro b _ hb; cases hb)
      have hs10 : h.Sub h10 := hs9.tr c10.sub0
      have freshq : ∀ b ∈ Bq, h b = none := fun b hb => by
        have h1 := (c10.2 b hb).resolve_left (by simp)
        cases hx : h b with
        | none => rfl
        | some o => rw [hs9 b o hx] at h1; cases h1
      refine LoopP.ind (fun (z : Int × Unit) h' => (0 ≤ z.1 ∧ z.1 ≤ ops.length) ∧ ∃ l', l'.length = ops.length ∧ l'.drop z.1.toNat = ops.drop z.1.toNat ∧ Buf EncOp T_api_Op Bq h' a2 ops.length k2 l' ∧ Chg Bq Bq h10 h') (fun z _ => (ops.length - z.1).toNat) ?_ ⟨⟨by decide, by show (0 : Int) ≤ _; omega⟩, ops, rfl, rfl, hq, Chg.refl _ _⟩
      rintro ⟨i, u⟩ h11 ⟨⟨i0, i1⟩, l', hl', hdr, hb11, c11⟩
      dsimp only at i0 i1 hdr ⊢
      have hs11 : h.Sub h11 := fun b o hb => c11.1 b o (fun hm => by rw [freshq b hm] at hb; cases hb) (hs10 b o hb)
      refine ⟨fun e => ?_, fun e => ?_⟩
      · have e : i < ops.length := by simpa using e
        have hit : i.toNat < l'.length := by omega
        have hit2 : i.toNat < ops.length := by omega
        have heq : l'[i.toNat] = ops[i.toNat] := by
          rw [List.drop_eq_getElem_cons hit, List.drop_eq_getElem_cons hit2] at hdr
          exact (List.cons.inj hdr).1
        obtain ⟨b, o, hA, hr⟩ := hb11.sr.get hit
        obtain ⟨b', o', hA', hr'⟩ := (hl.sub hs11).get hit2
        refine ⟨b, o, ⟨hA, i0, e⟩, _, _, _, hr _ 0 3 rfl (by decide), b', o', ⟨hA', i0, e⟩, _, _, _, hr' _ 0 3 rfl (by decide), fun e2 => ?_, fun _ => ?_⟩
        · rw [heq] at e2; simp [strEq] at e2
        · obtain ⟨b3, o3, hA3, hst⟩ := setPath hb11 hit (KK := fun h' => ((0 ≤ IntKind.wrap .i64 (i + 1) ∧ IntKind.wrap .i64 (i + 1) ≤ ops.length) ∧ ∃ l', l'.length = ops.length ∧ l'.drop (IntKind.wrap .i64 (i + 1)).toNat = ops.drop (IntKind.wrap .i64 (i + 1)).toNat ∧ Buf EncOp T_api_Op Bq h' a2 ops.length k2 l' ∧ Chg Bq Bq h10 h') ∧ (ops.length - IntKind.wrap .i64 (i + 1)).toNat < (ops.length - i).toNat) fun h' hb' c' => by
            rw [wrap64 (n := i + 1) (by omega) (by omega)]
            refine ⟨⟨⟨by omega, by omega⟩, _, by simp [hl'], ?_, hb', c11.trans c'⟩, by omega⟩
            rw [show (i + 1).toNat = i.toNat + 1 by omega, List.drop_set_of_lt (by omega), ← List.drop_drop, ← List.drop_drop, hdr]
          exact ⟨b3, o3, ⟨hA3, i0, e⟩, hst⟩
      · have x11 := x10.chg c11 djq
        refine cNext x11 sm (fun hN => by rw [nx] at hN; cases hN) fun w hw hs a3 k3 Br h12 hr c12 => ⟨_, _, _, _, _, _, rfl, ?_⟩
        rw [nx] at hw
        cases hw
        have hs12 : h.Sub h12 := hs11.tr c12.sub0
        refine ⟨fun _ => cSameB hr.sr (hl.sub hs12) on ⟨_, rfl, fun _ => cWakes fun h' hh => ⟨_, rfl, hk h' (hs12.tr hh)⟩, fun e => ?_⟩, fun e => ?_⟩
        · simp [entM] at e
        · simp at e
end TL

namespace TL
open Go

theorem LoopP.indE {T : Type} {F : (T → PH → Prop) → T → PH → Prop} (I : Nat → T → PH → Prop) (step : ∀ n x h, I n x h → F (fun y g => ∃ m, m < n ∧ I m y g) x h) : ∀ {n : Nat} {x : T} {h : PH}, I n x h → LoopP F x h := by
  intro n
  induction n using Nat.strongRecOn with
  | _ n ih =>
    intro x h hi
    exact LoopP.mk (fun y g => ∃ m, m < n ∧ I m y g) (fun y g ⟨m, hm, hy⟩ => ih m hm hy) (step n x h hi)

/-- what a key's value is -/
def va (es : List MapEntry) (k : Value) : Option Value := (fi es k 0).map (·.2)
theorem fi_shift {k : Value} : ∀ (es : List MapEntry) (i : Nat), fi es k i = (fi es k 0).map fun p => (p.1 + i, p.2)
  | [], _ => rfl
  | e :: r, i => by
    unfold fi
    cases keq k e.key with
    | true => simp
    | false =>
      simp only
      rw [fi_shift r (i + 1), fi_shift r 1]
      cases fi r k 0 with
      | none => rfl
      | some p => simp; omega
theorem va_nil (k : Value) : va [] k = none := rfl
theorem va_cons (e : MapEntry) (r : List MapEntry) (k : Value) : va (e :: r) k = if keq k e.key = true then some e.val else va r k := by
  unfold va
  rw [fi]
  cases keq k e.key with
  | true => rfl
  | false =>
    simp only [Bool.false_eq_true, if_false]
    rw [fi_shift r 1]
    cases fi r k 0 <;> rfl
theorem fi_none_iff {es : List MapEntry} {k : Value} : fi es k 0 = none ↔ va es k = none := by
  unfold va
  cases fi es k 0 <;> simp
theorem lk_va (es : List MapEntry) (k z : Value) : lk es k z = match va es k with
    | some v => (v, true)
    | none => (z, false) := by
  unfold lk va
  cases fi es k 0 <;> rfl
theorem va_append (es fs : List MapEntry) (k : Value) : va (es ++ fs) k = (va es k).or (va fs k) := by
  induction es with
  | nil => simp [va_nil]
  | cons e r ih =>
    rw [List.cons_append, va_cons, va_cons, ih]
    split <;> simp
theorem va_none {es : List MapEntry} {k : Value} : va es k = none ↔ ∀ e ∈ es, keq k e.key = false := by
  induction es with
  | nil => simp [va_nil]
  | cons e r ih =>
    rw [va_cons]
    split
    · rename_i h; simp [h]
    · rename_i h; simp [h, ih]
section
variable {kd : KD}
theorem keq_comm {a b : Value} (ha : kOk kd a = true) (hb : kOk kd b = true) : keq a b = keq b a := by
  rw [Bool.eq_iff_iff, keq_eq ha hb, keq_eq hb ha]; exact eq_comm
theorem va_congr {es : List MapEntry} {k k' : Value} (hk : kOk kd k = true) (hk' : kOk kd k' = true) (h : keq k' k = true) : va es k' = va es k := by
  rw [(keq_eq hk' hk).1 h]
theorem va_modify {k v : Value} (hk : kOk kd k = true) {k' : Value} (hk' : kOk kd k' = true) : ∀ {es : List MapEntry} {j : Nat} {v0 : Value}, (∀ e ∈ es, kOk kd e.key = true) → fi es k 0 = some (j, v0) → va (es.modify j fun e => { e with key := k, val := v }) k' = if keq k' k = true then some v else va es k'
  | [], _, _, _, h => by cases h
  | e :: r, j, v0, he, h => by
    have he1 := he e List.mem_cons_self
    rw [fi] at h
    cases hq : keq k e.key with
    | true =>
      rw [hq] at h
      cases h
      rw [List.modify_zero_cons, va_cons, va_cons]
      dsimp only
      have : k = e.key := (keq_eq hk he1).1 hq
      rw [← this]
      split <;> rfl
    | false =>
      rw [hq] at h
      dsimp only at h
      rw [fi_shift] at h
      cases hf : fi r k 0 with
      | none => rw [hf] at h; cases h
      | some p =>
        obtain ⟨j', v'⟩ := p
        rw [hf] at h
        cases h
        rw [List.modify_succ_cons, va_cons, va_cons, va_modify hk hk' (fun e h => he e (List.mem_cons_of_mem _ h)) hf]
        by_cases h1 : keq k' e.key = true
        · rw [if_pos h1, if_pos h1]
          have : k' = e.key := (keq_eq hk' he1).1 h1
          have h2 : keq k' k = false := by rw [this, keq_comm he1 hk]; exact hq
          simp [h2]
        · rw [if_neg h1, if_neg h1]
theorem va_upM {es : List MapEntry} {k v : Value} {c : Nat} (he : ∀ e ∈ es, kOk kd e.key = true) (hk : kOk kd k = true) {k' : Value} (hk' : kOk kd k' = true) : va (upM es k v c).1 k' = if keq k' k = true then some v else va es k' := by
  unfold upM
  cases hf : fi es k 0 with
  | some p => obtain ⟨j, v0⟩ := p; exact va_modify hk hk' he hf
  | none =>
    dsimp only
    rw [va_append, va_cons, va_nil]
    dsimp only
    have hn := fi_none_iff.1 hf
    split
    · rename_i h
      rw [va_congr hk hk' h, hn]; rfl
    · simp
theorem upM_keys {es : List MapEntry} {k v : Value} {c : Nat} (hk : kOk kd k = true) (he : ∀ e ∈ es, kOk kd e.key = true) : ∀ e ∈ (upM es k v c).1, kOk kd e.key = true := by
  unfold upM
  cases hf : fi es k 0 with
  | some p =>
    obtain ⟨j, v0⟩ := p
    intro e hm
    dsimp only at hm
    obtain ⟨i, hi, rfl⟩ := List.getElem_of_mem hm
    rw [List.getElem_modify]
    split
    · exact hk
    · exact he _ (List.getElem_mem _)
  | none =>
    intro e hm
    rcases List.mem_append.1 hm with h | h
    · exact he e h
    · simp at h; subst h; exact hk
/-- no key twice -/
def NdK (es : List MapEntry) : Prop := es.Pairwise fun a b => keq a.key b.key = false
theorem NdK.upM {es : List MapEntry} {k v : Value} {c : Nat} (hn : NdK es) (hk : kOk kd k = true) (he : ∀ e ∈ es, kOk kd e.key = true) : NdK (upM es k v c).1 := by
  unfold TL.upM
  cases hf : fi es k 0 with
  | some p =>
    obtain ⟨j, v0⟩ := p
    dsimp only
    have hkey : (es.modify j fun e => { e with key := k, val := v }).map (·.key) = es.map (·.key) := by
      obtain ⟨hj, e, h1, h2, h3, _⟩ := fi_some hf
      apply List.ext_getElem
      · simp
      · intro i h4 h5
        simp only [List.getElem_map, List.getElem_modify]
        split
        · rename_i hij
          subst hij
          rw [Nat.sub_zero] at h1
          have h6 : es[j]'(by simpa using h5) = e := by
            rw [List.getElem?_eq_getElem (by simpa using h5)] at h1; exact Option.some.inj h1
          rw [h6]
          exact (keq_eq hk (he e h2)).1 h3
        · rfl
    have h1 : (es.map (·.key)).Pairwise fun a b => keq a b = false := List.pairwise_map.2 hn
    rw [← hkey] at h1
    exact List.pairwise_map.1 h1
  | none =>
    refine List.pairwise_append.2 ⟨hn, by simp, fun a ha b hb => ?_⟩
    simp at hb; subst hb
    dsimp only
    rw [keq_comm (he a ha) hk]
    exact va_none.1 (fi_none_iff.1 hf) a ha
theorem va_erase {k : Value} (hk : kOk kd k = true) {k' : Value} (hk' : kOk kd k' = true) : ∀ {es : List MapEntry} {j : Nat} {v0 : Value}, (∀ e ∈ es, kOk kd e.key = true) → NdK es → fi es k 0 = some (j, v0) → va (es.eraseIdx j) k' = if keq k' k = true then none else va es k'
  | [], _, _, _, _, h => by cases h
  | e :: r, j, v0, he, hn, h => by
    have he1 := he e List.mem_cons_self
    rw [fi] at h
    cases hq : keq k e.key with
    | true =>
      rw [hq] at h
      cases h
      rw [List.eraseIdx_zero, List.tail_cons, va_cons]
      have hke : k = e.key := (keq_eq hk he1).1 hq
      rw [← hke]
      split
      · rename_i h1
        rw [va_congr hk hk' h1, va_none]
        intro e' hm
        rw [hke]
        exact (List.pairwise_cons.1 hn).1 e' hm
      · rfl
    | false =>
      rw [hq] at h
      dsimp only at h
      rw [fi_shift] at h
      cases hf : fi r k 0 with
      | none => rw [hf] at h; cases h
      | some p =>
        obtain ⟨j', v'⟩ := p
        rw [hf] at h
        cases h
        rw [List.eraseIdx_cons_succ, va_cons, va_cons, va_erase hk hk' (fun e h => he e (List.mem_cons_of_mem _ h)) (List.pairwise_cons.1 hn).2 hf]
        by_cases h1 : keq k' e.key = true
        · rw [if_pos h1, if_pos h1]
          have : k' = e.key := (keq_eq hk' he1).1 h1
          have h2 : keq k' k = false := by rw [this, keq_comm he1 hk]; exact hq
          simp [h2]
        · rw [if_neg h1, if_neg h1]
theorem va_dlM {es : List MapEntry} {k : Value} (he : ∀ e ∈ es, kOk kd e.key = true) (hn : NdK es) (hk : kOk kd k = true) {k' : Value} (hk' : kOk kd k' = true) : va (dlM es k) k' = if keq k' k = true then none else va es k' := by
  unfold dlM
  cases hf : fi es k 0 with
  | some p => obtain ⟨j, v0⟩ := p; exact va_erase hk hk' he hn hf
  | none =>
    dsimp only
    split
    · rename_i h
      rw [va_congr hk hk' h]; exact fi_none_iff.1 hf
    · rfl
theorem dlM_sub (es : List MapEntry) (k : Value) : (dlM es k).Sublist es := by
  unfold dlM
  split
  · exact List.eraseIdx_sublist _ _
  · exact List.Sublist.refl _
theorem NdK.dlM {es : List MapEntry} (hn : NdK es) (k : Value) : NdK (dlM es k) := List.Pairwise.sublist (dlM_sub es k) hn
end

/-! ### A map of integers to integers that holds 1 at some -/
def OneMap (h : PH) (r : Nat) (S : Int → Bool) : Prop := ∃ es c, h r = some (.map (es : List MapEntry).toArray c) ∧ (∀ e ∈ es, kOk (.int .i64) e.key = true) ∧ ∀ k, va es (.int .i64 k) = if S k = true then some (.int .i64 1) else none
theorem OneMap.new {h : PH} {r : Nat} (e : h r = some (.map #[] 0)) : OneMap h r fun _ => false := ⟨[], 0, e, fun _ h => (by cases h), fun _ => rfl⟩
theorem OneMap.keep {h g : PH} {r : Nat} {S : Int → Bool} (x : OneMap h r S) (e : ∀ o, h r = some o → g r = some o) : OneMap g r S := by
  obtain ⟨es, c, h1, h2, h3⟩ := x
  exact ⟨es, c, e _ h1, h2, h3⟩
theorem OneMap.has {h : PH} {r : Nat} {S : Int → Bool} (x : OneMap h r S) : Has [r] h := fun b hb => by
  obtain ⟨es, c, h1, _⟩ := x
  simp at hb; subst hb; exact ⟨_, h1⟩
theorem OneMap.look {h : PH} {r : Nat} {S : Int → Bool} (x : OneMap h r S) (k : Int) : lkH (.int .i64) h (some r) (.int .i64 k) (.int .i64 0) (.int .i64 (if S k = true then 1 else 0)) (S k) := by
  obtain ⟨es, c, h1, h2, h3⟩ := x
  refine ⟨es, ⟨⟨c, h1⟩, h2⟩, ?_⟩
  rw [lk_va, h3]
  cases S k <;> rfl
theorem OneMap.put {h : PH} {r : Nat} {S : Int → Bool} (x : OneMap h r S) (k : Int) {K : PH → Prop} (hk : ∀ h', OneMap h' r (fun j => j == k || S j) → Chg [r] [r] h h' → K h') : muH (.int .i64) h (some r) (.int .i64 k) (.int .i64 1) K := by
  obtain ⟨es, c, h1, h2, h3⟩ := x
  refine ⟨r, es, c, rfl, h1, h2, hk _ ⟨_, _, PH.upd_same _ _ _, upM_keys rfl h2, fun j => ?_⟩ (Chg.upd _)⟩
  rw [va_upM h2 rfl rfl, h3]
  show (if (j == k) = true then _ else _) = if (j == k || S j) = true then _ else _
  cases j == k <;> rfl
end TL

namespace TL
open Go Go.Proofs
variable {B : List Nat} {h : PH} {K : Value → PH → Prop} {x : Option Addr} {st : TS}

/-! ### The view of a row -/
def EncI : Enc Int where
  enc n := [.int .i64 n]
  k := 1
  len _ := rfl
  one o v hv := by
    simp only [List.mem_cons, List.not_mem_nil, or_false] at hv
    rcases hv with rfl; rfl
  pos := by decide
structure BtR where
  ix : Int
  ep : Int
  a : Option Addr
  c : Nat
  ops : List OpR
def EncBt : Enc BtR where
  enc r := [.int .i64 r.ix, .int .i64 r.ep, .slice r.a r.ops.length r.c]
  k := 3
  len _ := rfl
  one o v hv := by
    simp only [List.mem_cons, List.not_mem_nil, or_false] at hv
    rcases hv with rfl | rfl | rfl <;> rfl
  pos := by decide
/-- the epoch ahead of a batch -/
def pe (prev : Int) (bs : List BtR) : Nat → Int
  | 0 => prev
  | i + 1 => match bs[i]? with
    | some b => b.ep
    | none => 0
theorem pe_def (prev : Int) (bs : List BtR) (i : Nat) : pe prev bs (i + 1) = match bs[i]? with
    | some b => b.ep
    | none => 0 := rfl
theorem pe_app (prev : Int) (bs : List BtR) (b : BtR) {i : Nat} (hi : i ≤ bs.length) : pe prev (bs ++ [b]) i = pe prev bs i := by
  cases i with
  | zero => rfl
  | succ i => rw [pe_def, pe_def, List.getElem?_append_left (by omega)]
theorem pe_last (prev : Int) (bs : List BtR) (b : BtR) : pe prev (bs ++ [b]) (bs.length + 1) = b.ep := by
  unfold pe; simp
theorem pe_succ (prev : Int) (bs : List BtR) {i : Nat} (hi : i < bs.length) : pe prev bs (i + 1) = bs[i].ep := by
  rw [pe_def, List.getElem?_eq_getElem hi]
def BtsOf (gone prev : Int) (rows : List OsR) (bs : List BtR) : Prop := ∀ i, (hi : i < bs.length) → ∃ hr : i < rows.length, bs[i].ix = gone + i + 1 ∧ bs[i].a = rows[i].a ∧ bs[i].c = rows[i].c ∧ bs[i].ops = rows[i].ops ∧ pe prev bs i ≤ bs[i].ep ∧ 1 ≤ bs[i].ep ∧ bs[i].ep ≤ 5 + i
theorem BtsOf.snoc {gone prev : Int} {rows : List OsR} {bs : List BtR} (x : BtsOf gone prev rows bs) (hr : bs.length < rows.length) {b : BtR} (h1 : b.ix = gone + bs.length + 1) (h2 : b.a = rows[bs.length].a) (h3 : b.c = rows[bs.length].c) (h4 : b.ops = rows[bs.length].ops)
    (h5 : pe prev bs bs.length ≤ b.ep) (h6 : 1 ≤ b.ep) (h7 : b.ep ≤ 5 + bs.length) : BtsOf gone prev rows (bs ++ [b]) := fun i hi => by
  by_cases hi2 : i < bs.length
  · rw [List.getElem_append_left hi2, pe_app _ _ _ (Nat.le_of_lt hi2)]; exact x i hi2
  · have : i = bs.length := by simp at hi; omega
    subst this
    rw [List.getElem_append_right (Nat.le_refl _), pe_app _ _ _ (Nat.le_refl _)]
    simp only [Nat.sub_self, List.getElem_cons_zero]
    exact ⟨hr, h1, h2, h3, h4, h5, h6, h7⟩
structure MadeOf (gone prev : Int) (rows : List OsR) (bs : List BtR) : Prop where
  len : bs.length = rows.length
  g0 : 0 ≤ gone
  g1 : gone < 100
  p0 : 0 ≤ prev
  p1 : prev < 5
  pg : gone = 0 ↔ prev = 0
  bts : BtsOf gone prev rows bs
variable {rA eA pA : Option Addr} {rC eC pN pC : Nat} {rows : List OsR} {eps : List Int}
theorem cMade {r0 r1 epoch : Int} (hr : SR EncOs h rA rows) (he : SR EncI h eA eps) (hn : rows.length ≤ 80)
    (hk : ∀ gone prev bs a' c' B' h', MadeOf gone prev rows bs → Buf EncBt T_api_Batch B' h' a' rows.length c' bs → Chg [] B' h h' →
      K (.agg #[.int .i64 epoch, .int .i64 (gone + rows.length), .int .i64 (pe prev bs rows.length), .slice a' rows.length c', .int .i64 prev, .slice pA pN pC]) h') :
    CallH Try.prog id_law20_Made [.agg #[.int .i64 r0, .int .i64 r1, .slice rA rows.length rC, .slice eA eps.length eC, .slice pA pN pC], .int .i64 epoch] K h := by
  have t1 := Int.tmod_lt_of_pos r0 (b := 100) (by decide)
  have t2 := Int.lt_tmod_of_pos r0 (b := 100) (by decide)
  have t3 := Int.tmod_lt_of_pos r1 (b := 5) (by decide)
  have t4 := Int.lt_tmod_of_pos r1 (b := 5) (by decide)
  refine F_law20_Made_ok ⟨fun st h' => h' = h ∧ 0 ≤ st.1 ∧ st.1 < 100, ⟨fun e => ?_, fun e => ?_⟩, ?_⟩
  · have e : r0.tmod 100 < 0 := by simpa using e
    rw [wrap64 (by omega) (by omega)]
    exact ⟨rfl, by dsimp only; omega, by dsimp only; omega⟩
  · have e : ¬ r0.tmod 100 < 0 := by simpa using e
    exact ⟨rfl, by dsimp only; omega, by dsimp only; omega⟩
  rintro ⟨gone, u⟩ h1 ⟨rfl, g0, g1⟩
  dsimp only at g0 g1 ⊢
  refine ⟨fun st h' => h' = h1 ∧ 1 ≤ st.1 ∧ st.1 < 5, ⟨fun e => ?_, fun e => ?_⟩, ?_⟩
  · exact ⟨rfl, by decide, by decide⟩
  · have e : ¬ r1.tmod 5 < 1 := by simpa using e
    exact ⟨rfl, by dsimp only; omega, by dsimp only; omega⟩
  rintro ⟨q, u⟩ h2 ⟨rfl, q0, q1⟩
  dsimp only at q0 q1 ⊢
  refine ⟨fun st h' => h' = h2 ∧ 0 ≤ st.1 ∧ st.1 < 5 ∧ (gone = 0 ↔ st.1 = 0), ⟨fun e => ?_, fun e => ?_⟩, ?_⟩
  · have e : gone = 0 := by simpa using e
    exact ⟨rfl, by decide, by decide, by simp [e]⟩
  · have e : ¬ gone = 0 := by simpa using e
    exact ⟨rfl, by dsimp only; omega, by dsimp only; omega, by dsimp only; omega⟩
  rintro ⟨prev, u⟩ h3 ⟨rfl, p0, p1, pg⟩
  dsimp only at p0 p1 pg ⊢
  refine LoopP.ind (fun z h' => ∃ (i : Nat) (bA : Option Addr) (bN bC : Nat) (bs : List BtR) (B' : List Nat), z = (pe prev bs bs.length, (i : Int), epoch, gone + i, pe prev bs bs.length, (bA, bN, bC), prev, (pA, pN, pC), ()) ∧ bs.length = i ∧ i ≤ rows.length ∧
    Buf EncBt T_api_Batch B' h' bA bN bC bs ∧ Chg [] B' h3 h' ∧ BtsOf gone prev rows bs ∧ 0 ≤ pe prev bs bs.length ∧ pe prev bs bs.length ≤ 4 + i) (fun z _ => (rows.length - z.2.1).toNat) ?_
    ⟨0, none, 0, 0, [], [], by simp [pe], rfl, Nat.zero_le _, Buf.nil _ _ _ _, Chg.refl _ _, fun i hi => by simp at hi, p0, by show prev ≤ _; omega⟩
  rintro _ h4 ⟨i, bA, bN, bC, bs, B', rfl, hlen, hi, hb, hc, hbt, l0, l1⟩
  dsimp only
  have hbn := hb.1
  refine ⟨fun e => ?_, fun e => ?_⟩
  · have e : i < rows.length := by simp at e; omega
    refine ⟨fun st h' => h' = h4 ∧ 1 ≤ st.1 ∧ st.1 ≤ 4 + i ∧ pe prev bs bs.length ≤ st.1, ⟨fun e => ?_, fun e => ?_⟩, ?_⟩
    · have e : pe prev bs bs.length < 1 := by simpa using e
      exact ⟨rfl, by decide, by dsimp only; omega, by dsimp only; omega⟩
    · have e : ¬ pe prev bs bs.length < 1 := by simpa using e
      exact ⟨rfl, by dsimp only; omega, by dsimp only; omega, Int.le_refl _⟩
    rintro ⟨l, u⟩ h5 ⟨rfl, m0, m1, m2⟩
    dsimp only at m0 m1 m2 ⊢
    refine ⟨fun st h' => h' = h5 ∧ 1 ≤ st.1 ∧ st.1 ≤ 5 + i ∧ pe prev bs bs.length ≤ st.1, ?_, ?_⟩
    · have done : (fun (st : Int × Unit) h' => h' = h5 ∧ 1 ≤ st.1 ∧ st.1 ≤ 5 + i ∧ pe prev bs bs.length ≤ st.1) (l, ()) h5 := ⟨rfl, m0, by dsimp only; omega, m2⟩
      by_cases hie : i < eps.length
      · obtain ⟨b, o, hA, hrd⟩ := (he.sub hc.sub0).get hie
        refine ⟨b, o, fun _ => ⟨hA, by omega, by omega⟩, eps[i], fun _ => hrd _ 0 1 (by simp [EncI]) (by decide), fun e2 => ?_, fun _ => done⟩
        refine ⟨b, o, ⟨hA, by omega, by omega⟩, eps[i], hrd _ 0 1 (by simp [EncI]) (by decide), ?_⟩
        have e2 : 0 < eps[i] := by simp at e2; omega
        have t5 := Int.tmod_lt_of_pos eps[i] (b := 2) (by decide)
        have t6 := Int.tmod_nonneg 2 (a := eps[i]) (by omega)
        rw [wrap64 (by omega) (by omega)]
        exact ⟨rfl, by dsimp only; omega, by dsimp only; omega, by dsimp only; omega⟩
      · refine ⟨0, 0, fun e => by simp at e <;> omega, 0, fun e => by simp at e <;> omega, fun e => by simp at e <;> omega, fun _ => done⟩
    rintro ⟨l2, u⟩ h6 ⟨rfl, n0, n1, n2⟩
    dsimp only at n0 n1 n2 ⊢
    obtain ⟨b, o, hA, hrd⟩ := (hr.sub hc.sub0).get e
    refine ⟨b, o, ⟨hA, by omega, by omega⟩, rows[i].a, rows[i].ops.length, rows[i].c, hrd _ 0 1 (by simp [EncOs]) (by decide), ?_⟩
    rw [wrap64 (n := gone + i) (by omega) (by omega), wrap64 (n := gone + i + 1) (by omega) (by omega), wrap64 (n := (i : Int) + 1) (by omega) (by omega)]
    refine hb.append (new := [⟨gone + i + 1, l2, rows[i].a, rows[i].c, rows[i].ops⟩]) rfl rfl rfl (by omega) ?_
    intro a' c' B2 h7 hb2 c2 _
    refine ⟨⟨i + 1, a', bN + 1, c', _, B2, ?_, by simp [hlen], by omega, hb2, hc.trans c2, hbt.snoc (by omega) (by simp [hlen]) (by simp [hlen]) (by simp [hlen]) (by simp [hlen]) n2 n0 (by simp [hlen]; omega), ?_, ?_⟩, ?_⟩
    · rw [show (bs ++ [(⟨gone + i + 1, l2, rows[i].a, rows[i].c, rows[i].ops⟩ : BtR)]).length = bs.length + 1 by simp, pe_last]
      rw [show (((i + 1 : Nat) : Int)) = (i : Int) + 1 by omega, Int.add_assoc]
    · rw [show (bs ++ [(⟨gone + i + 1, l2, rows[i].a, rows[i].c, rows[i].ops⟩ : BtR)]).length = bs.length + 1 by simp, pe_last]; dsimp only; omega
    · rw [show (bs ++ [(⟨gone + i + 1, l2, rows[i].a, rows[i].c, rows[i].ops⟩ : BtR)]).length = bs.length + 1 by simp, pe_last]; dsimp only; omega
    · omega
  · have e : i = rows.length := by simp at e; omega
    subst e
    have := hk gone prev bs bA bC B' h4 ⟨hlen, g0, g1, p0, p1, pg, hbt⟩ (by rw [hbn, hlen] at hb; exact hb) hc
    rw [hbn, hlen]
    exact this

/-! ### What a take knows of a row -/
structure RowInv (gone prev : Int) (bs : List BtR) (st : TS) (S : Int → Bool) : Prop where
  lo : gone ≤ st.at_
  hi : st.at_ ≤ gone + bs.length
  ep : st.ep = pe prev bs (st.at_ - gone).toNat
  ws : ∀ w ∈ st.ws, st.at_ < w.m.ix ∧ ∃ k, ∃ hk : k < bs.length, w.m.ix = gone + k + 1 ∧ w.m.be = bs[k].ep ∧ w.m.prev = pe prev bs k ∧ w.ops = bs[k].ops
  nd : st.ws.Pairwise fun a b => a.m.ix ≠ b.m.ix
  came : ∀ k, S k = true ↔ (gone < k ∧ k ≤ st.at_) ∨ ∃ w ∈ st.ws, w.m.ix = k
section
variable {gone prev : Int} {bs : List BtR} {S : Int → Bool}
theorem tFind_none {k : Int} : tFind st k = none ↔ ∀ w ∈ st.ws, w.m.ix ≠ k := by
  unfold tFind; rw [List.find?_eq_none]; simp
theorem mem_eraseP {k : Int} : ∀ {ws : List Wt}, ws.Pairwise (fun a b => a.m.ix ≠ b.m.ix) → ∀ w, w ∈ ws.eraseP (fun w => w.m.ix == k) ↔ w ∈ ws ∧ w.m.ix ≠ k
  | [], _, w => by simp
  | a :: r, hn, w => by
    obtain ⟨h1, h2⟩ := List.pairwise_cons.1 hn
    rw [List.eraseP_cons]
    by_cases e : a.m.ix = k
    · simp only [e, beq_self_eq_true, cond_true]
      constructor
      · intro hw
        exact ⟨List.mem_cons_of_mem _ hw, fun e2 => h1 w hw (e.trans e2.symm)⟩
      · rintro ⟨hw, hne⟩
        rcases List.mem_cons.1 hw with rfl | hw
        · exact absurd e hne
        · exact hw
    · have e2 : (a.m.ix == k) = false := by simpa using e
      simp only [e2, cond_false, List.mem_cons, mem_eraseP h2 w]
      constructor
      · rintro (rfl | h)
        · exact ⟨.inl rfl, e⟩
        · exact ⟨.inr h.1, h.2⟩
      · rintro ⟨rfl | h, hne⟩
        · exact .inl rfl
        · exact .inr ⟨h, hne⟩
theorem RowInv.next (hv : RowInv gone prev bs st S) (g0 : 0 ≤ gone) (g1 : gone < 100) (hn : bs.length ≤ 80) : tNext st = (tFind st (st.at_ + 1), st) ∧ tKey st = st.at_ + 1 := by
  have h1 := hv.lo
  have h2 := hv.hi
  have hk : tKey st = st.at_ + 1 := by unfold tKey; exact wrap64 (by omega) (by omega)
  refine ⟨?_, hk⟩
  unfold tNext
  rw [hk]
  cases hf : tFind st (st.at_ + 1) with
  | none => rfl
  | some w =>
    have hw : w ∈ st.ws := List.mem_of_find?_eq_some hf
    have hix : w.m.ix = st.at_ + 1 := by have := List.find?_some hf; simpa using this
    obtain ⟨_, k, hk, e1, e2, e3, _⟩ := hv.ws w hw
    have : (st.at_ - gone).toNat = k := by omega
    have hp : w.m.prev = st.ep := by rw [hv.ep, this, e3]
    simp only [hp, if_true]
theorem RowInv.done_none (hv : RowInv gone prev bs st S) (g0 : 0 ≤ gone) (g1 : gone < 100) (hn : bs.length ≤ 80) (hf : tFind st (st.at_ + 1) = none) : tDone st = (4, st) := by
  unfold tDone
  rw [(hv.next g0 g1 hn).1, hf]
theorem RowInv.done_some (hv : RowInv gone prev bs st S) (g0 : 0 ≤ gone) (g1 : gone < 100) (hn : bs.length ≤ 80) {w : Wt} (hf : tFind st (st.at_ + 1) = some w) :
    ∃ st', tDone st = (0, st') ∧ st'.at_ = st.at_ + 1 ∧ st'.ep = w.m.be ∧ RowInv gone prev bs st' S := by
  have hw : w ∈ st.ws := List.mem_of_find?_eq_some hf
  have hix : w.m.ix = st.at_ + 1 := by have := List.find?_some hf; simpa using this
  refine ⟨{ at_ := w.m.ix, ep := w.m.be, ws := tDrop st w.m.ix }, ?_, hix, rfl, ?_⟩
  · unfold tDone
    rw [(hv.next g0 g1 hn).1, hf]
  · obtain ⟨_, k, hk, e1, e2, e3, e4⟩ := hv.ws w hw
    have h1 := hv.lo
    have hm := mem_eraseP (k := w.m.ix) hv.nd
    refine ⟨by dsimp only; omega, by dsimp only; omega, ?_, fun w' hw' => ?_, hv.nd.sublist List.eraseP_sublist, fun j => ?_⟩
    · show w.m.be = _
      rw [show (w.m.ix - gone).toNat = k + 1 by omega, pe_succ _ _ hk, e2]
    · obtain ⟨h3, h4⟩ := (hm w').1 hw'
      obtain ⟨h5, h6⟩ := hv.ws w' h3
      exact ⟨by dsimp only; omega, h6⟩
    · rw [hv.came j]
      constructor
      · rintro (h | ⟨w', h3, h4⟩)
        · exact .inl ⟨h.1, by dsimp only; omega⟩
        · by_cases e : j = w.m.ix
          · exact .inl ⟨by omega, by dsimp only; omega⟩
          · exact .inr ⟨w', (hm w').2 ⟨h3, by omega⟩, h4⟩
      · rintro (h | ⟨w', h3, h4⟩)
        · have := h.2
          dsimp only at this
          by_cases e : j = w.m.ix
          · exact .inr ⟨w, hw, e.symm⟩
          · exact .inl ⟨h.1, by omega⟩
        · exact .inr ⟨w', ((hm w').1 h3).1, h4⟩
theorem RowInv.may (hv : RowInv gone prev bs st S) (hn : bs.length ≤ 60) {k : Nat} (hk : k < bs.length) {m : MsgR} (m1 : m.kd = 2) (m2 : m.ix = gone + k + 1) (m3 : m.prev = pe prev bs k) (hp : 0 ≤ pe prev bs k) :
    tMay st m bs[k].ops ↔ rightE m.ix m.be bs[k].ops = 0 ∧ st.at_ < m.ix ∧ S m.ix = false := by
  have h1 := hv.lo
  unfold tMay
  rw [tFind_none, m1, m3]
  have hs : S m.ix = false ↔ ¬ S m.ix = true := by simp
  rw [hs, hv.came]
  constructor
  · rintro ⟨_, a, _, b, _, c⟩
    refine ⟨a, b, ?_⟩
    rintro (h | ⟨w, h3, h4⟩)
    · omega
    · exact c w h3 h4
  · rintro ⟨a, b, c⟩
    exact ⟨rfl, a, hp, b, by omega, fun w hw e => c (.inr ⟨w, hw, e⟩)⟩
theorem RowInv.put (hv : RowInv gone prev bs st S) (hn : bs.length ≤ 60) {k : Nat} (hk : k < bs.length) {m : MsgR} (m1 : m.kd = 2) (m2 : m.ix = gone + k + 1) (m3 : m.prev = pe prev bs k) (m4 : m.be = bs[k].ep) (hp : 0 ≤ pe prev bs k) :
    (rightE m.ix m.be bs[k].ops = 0 → RowInv gone prev bs (tPut st m bs[k].ops) fun j => j == m.ix || S j) ∧ (rightE m.ix m.be bs[k].ops ≠ 0 → RowInv gone prev bs (tPut st m bs[k].ops) S) := by
  have h1 := hv.lo
  have hmay := hv.may hn hk m1 m2 m3 hp
  refine ⟨fun e => ?_, fun e => ?_⟩
  · by_cases hm : tMay st m bs[k].ops
    · rw [tPut, if_pos hm]
      obtain ⟨_, e2, e3⟩ := hmay.1 hm
      have hs : ∀ w ∈ st.ws, w.m.ix ≠ m.ix := fun w hw e => by
        have := (hv.came m.ix).2 (.inr ⟨w, hw, e⟩)
        rw [e3] at this; cases this
      refine ⟨hv.lo, hv.hi, hv.ep, fun w hw => ?_, ?_, fun j => ?_⟩
      · rcases List.mem_append.1 hw with hw | hw
        · exact hv.ws w hw
        · simp at hw; subst hw
          exact ⟨e2, k, hk, m2, m4, m3, rfl⟩
      · refine List.pairwise_append.2 ⟨hv.nd, by simp, fun a ha b hb => ?_⟩
        simp at hb; subst hb
        exact hs a ha
      · simp only [Bool.or_eq_true, beq_iff_eq, hv.came, List.mem_append, List.mem_singleton]
        constructor
        · rintro (h | h | ⟨w, h3, h4⟩)
          · exact .inr ⟨_, .inr rfl, h.symm⟩
          · exact .inl h
          · exact .inr ⟨w, .inl h3, h4⟩
        · rintro (h | ⟨w, h3 | rfl, h4⟩)
          · exact .inr (.inl h)
          · exact .inr (.inr ⟨w, h3, h4⟩)
          · exact .inl h4.symm
    · have hS : S m.ix = true := by
        cases hs : S m.ix with
        | true => rfl
        | false =>
          have h2 : ¬ st.at_ < m.ix := fun h => hm (hmay.2 ⟨e, h, hs⟩)
          have := (hv.came m.ix).2 (.inl ⟨by omega, by omega⟩)
          rw [hs] at this; cases this
      rw [tPut, if_neg hm]
      have : (fun j => j == m.ix || S j) = S := by
        funext j
        by_cases h : j = m.ix
        · rw [h, hS]; simp
        · have : (j == m.ix) = false := by simpa using h
          rw [this]; rfl
      rw [this]; exact hv
  · have hm : ¬ tMay st m bs[k].ops := fun h => e (hmay.1 h).1
    rw [tPut, if_neg hm]; exact hv
end
end TL

namespace TL
open Go Go.Proofs
variable {B : List Nat} {h : PH} {K : Value → PH → Prop} {x : Option Addr} {st : TS}

theorem gPrs_any {rows : List OsR} {gone : Nat} {prs : List PrR} (hg : gRow rows gone prs = false) : rows.length ≤ 80 ∧ ∀ r ∈ rows, gOps r.ops = false := by
  simp only [gRow, Bool.or_eq_false_iff, decide_eq_false_iff_not, List.any_eq_false] at hg
  refine ⟨by omega, fun r hr => ?_⟩
  have := hg.2.2.2 r hr
  simpa using this
/-- the state of the law: the take, the numbers that came -/
def IvR (x : Option Addr) (bv : Nat) (gone prev : Int) (bs : List BtR) (h3 h' : PH) (st : TS) (S : Int → Bool) : Prop :=
  ∃ B', TakeAt B' h' x st ∧ OneMap h' bv S ∧ Dj [bv] B' ∧ Chg [] (bv :: B') h3 h' ∧ RowInv gone prev bs st S ∧ ∀ w ∈ st.ws, w.ops.length ≤ 1000000
section
variable {bv : Nat} {gone prev : Int} {bs : List BtR} {S : Int → Bool} {h3 h' : PH}
theorem IvR.take {st' : TS} {B B' : List Nat} {h g : PH} (ho : OneMap h bv S) (hd : Dj [bv] B) (hc : Chg [] (bv :: B) h3 h) (c : Chg B B' h g) (hx : TakeAt B' g x st') (hv : RowInv gone prev bs st' S) (hs : ∀ w ∈ st'.ws, w.ops.length ≤ 1000000) : IvR x bv gone prev bs h3 g st' S :=
  ⟨B', hx, ho.keep fun o e => c.keep e (hd bv (by simp)), c.dj hd ho.has, hc.trans c.tail, hv, hs⟩
end
theorem small_next {st : TS} (h : ∀ w ∈ st.ws, w.ops.length ≤ 1000000) : ∀ w ∈ (tDone st).2.ws, w.ops.length ≤ 1000000 := by
  have g1 : ∀ k, ∀ w ∈ tDrop st k, w.ops.length ≤ 1000000 := fun k w hw => h w (List.mem_of_mem_eraseP hw)
  have g2 : ∀ w ∈ (tNext st).2.ws, w.ops.length ≤ 1000000 := by
    unfold tNext
    split
    · exact h
    · split
      · exact h
      · exact g1 _
  unfold tDone
  split
  · rename_i e; rw [e] at g2; exact g2
  · exact g1 _
variable {rA eA pA oA : Option Addr} {rC eC pC oC eN : Nat} {rows : List OsR} {eps ord : List Int} {prs : List PrR}
theorem TakeRows_den {r0 r1 : Int} (hr : SR EncOs h rA rows) (hs : ∀ r ∈ rows, SR EncOp h r.a r.ops) (he : SR EncI h eA eps) (hl : SR EncPr h pA prs) (hord : SR EncI h oA ord) (hk : ∀ h', h.Sub h' → K (.bool true) h') :
    CallH Try.prog id_law21_TakeRows [.agg #[.int .i64 r0, .int .i64 r1, .slice rA rows.length rC, .slice eA eps.length eC, .slice pA prs.length pC], .slice oA ord.length oC] K h := by
  refine F_law21_TakeRows_ok (cGreat20 hr hs hl ⟨_, rfl, fun _ => cWakes fun h' hh => ⟨_, rfl, hk h' hh⟩, fun eg => ?_⟩)
  simp only [Bool.or_eq_false_iff, decide_eq_false_iff_not] at eg
  obtain ⟨⟨eg, e60⟩, e300⟩ := eg
  obtain ⟨n80, hro⟩ := gPrs_any eg
  have n60 : rows.length ≤ 60 := by omega
  refine cMade hr he n80 fun gone prev bs vA vC B1 h3 hM hb c1 => ⟨_, _, _, _, _, _, _, _, _, _, rfl, ?_⟩
  have hbl := hM.len
  have g0 := hM.g0
  have g1 := hM.g1
  have p0 := hM.p0
  rw [wrap64 (n := gone + rows.length - rows.length) (by omega) (by omega), show gone + (rows.length : Int) - rows.length = gone by omega]
  have s3 : h.Sub h3 := c1.sub0
  have hbs : SR EncBt h3 vA bs := hb.sr
  have ops3 : ∀ i (hi : i < bs.length), SR EncOp h3 bs[i].a bs[i].ops ∧ bs[i].ops.length ≤ 1000000 ∧ ∀ o ∈ bs[i].ops, o.p.length ≤ 4611686018427387904 := fun i hi => by
    obtain ⟨hri, _, e2, _, e4, _⟩ := hM.bts i hi
    rw [e2, e4]
    have := gOps_no (hro _ (List.getElem_mem hri))
    exact ⟨(hs _ (List.getElem_mem hri)).sub s3, this.1, this.2⟩
  have pe0 : ∀ i, i < bs.length → 0 ≤ pe prev bs i := fun i hi => by
    cases i with
    | zero => exact p0
    | succ i =>
      rw [pe_succ _ _ (by omega)]
      obtain ⟨_, _, _, _, _, _, h6, _⟩ := hM.bts i (by omega)
      omega
  refine cNew fun x B2 h4 x4 c4 => ⟨_, rfl, fun bv hbv => ?_⟩
  have hmx : maxV gone 0 = gone := by unfold maxV; split <;> omega
  rw [hmx] at x4
  generalize hh5 : h4.upd bv (.map #[] 0) = h5
  have c5 : Chg [] [bv] h4 h5 := by rw [← hh5]; exact Chg.new _ hbv
  have hmap : h5 bv = some (.map #[] 0) := by rw [← hh5]; exact PH.upd_same _ _ _
  have dj2 : Dj [bv] B2 := fun b hb hm => by
    simp at hb; subst hb
    obtain ⟨o, ho⟩ := x4.has _ hm
    rw [hbv] at ho; cases ho
  have x5 := x4.chg c5 (Dj.nil _)
  have c35 : Chg [] (bv :: B2) h3 h5 := c4.trans (c5.sub (C := B2) (C' := bv :: B2) (by simp) fun b hb => by
    rcases List.mem_cons.1 hb with rfl | hb
    · exact .inl (by simp)
    · exact .inr hb)
  have iv0 : IvR x bv gone prev bs h3 h5 ⟨gone, prev, []⟩ fun _ => false := ⟨B2, x5, OneMap.new hmap, dj2, c35, ⟨Int.le_refl _, by dsimp only; omega, by simp [pe], by simp, by simp, fun k => by simp <;> omega⟩, by simp⟩
  refine LoopP.ind (fun (z : Int × Unit) h' => (0 ≤ z.1 ∧ z.1 ≤ ord.length) ∧ ∃ st S, IvR x bv gone prev bs h3 h' st S) (fun z _ => (ord.length - z.1).toNat) ?_ ⟨⟨by decide, by show (0 : Int) ≤ _; omega⟩, _, _, iv0⟩
  rintro ⟨i, u⟩ h6 ⟨⟨i0, i1⟩, st, S, iv⟩
  dsimp only at i0 i1 ⊢
  refine ⟨fun e => ?_, fun e => ?_⟩
  · have e : i < ord.length ∧ 0 < rows.length := by simp at e; omega
    have hit : i.toNat < ord.length := by omega
    refine ⟨fun _ h' => ∃ st S, IvR x bv gone prev bs h3 h' st S, ?_, fun _ h7 iv7 => ?_⟩
    rotate_left
    · rw [wrap64 (n := i + 1) (by omega) (by omega)]
      exact ⟨⟨⟨by omega, by omega⟩, iv7⟩, by omega⟩
    obtain ⟨B6, x6, o6, d6, c6, v6, w6⟩ := iv
    obtain ⟨bo, oo, hoA, hor⟩ := (hord.sub (s3.tr c6.sub0)).get hit
    refine ⟨bo, oo, ⟨hoA, i0, by omega⟩, ord[i.toNat], hor _ 0 1 rfl (by decide), by omega, ?_⟩
    have t1 := Int.tmod_lt_of_pos ord[i.toNat] (b := (rows.length : Int)) (by omega)
    have t2 := Int.lt_tmod_of_pos ord[i.toNat] (b := (rows.length : Int)) (by omega)
    refine ⟨fun z h' => h' = h6 ∧ ∃ k : Nat, z.1 = k ∧ k < bs.length, ⟨fun e => ?_, fun e => ?_⟩, ?_⟩
    · have e : ord[i.toNat].tmod rows.length < 0 := by simpa using e
      rw [wrap64 (by omega) (by omega)]
      exact ⟨rfl, (ord[i.toNat].tmod rows.length + rows.length).toNat, by dsimp only; omega, by omega⟩
    · have e : ¬ ord[i.toNat].tmod rows.length < 0 := by simpa using e
      exact ⟨rfl, (ord[i.toNat].tmod rows.length).toNat, by dsimp only; omega, by omega⟩
    rintro ⟨_, u⟩ h8 ⟨rfl, k, rfl, hk8⟩
    dsimp only
    obtain ⟨bb, ob, hbA, hbr⟩ := (hbs.sub c6.sub0).get hk8
    refine ⟨bb, ob, ⟨hbA, by omega, by omega⟩, bs[k].ix, bs[k].ep, bs[k].a, bs[k].ops.length, bs[k].c, hbr _ 0 3 (by simp [EncBt]) (by decide), ?_⟩
    refine ⟨fun z h' => h' = h8 ∧ z.1 = pe prev bs k, ⟨fun e => ?_, fun e => ?_⟩, ?_⟩
    · have e : 0 < k := by simpa using e
      rw [wrap64 (n := (k : Int) - 1) (by omega) (by omega)]
      have hk1 : k - 1 < bs.length := by omega
      obtain ⟨b2, o2, hbA2, hbr2⟩ := (hbs.sub c6.sub0).get hk1
      refine ⟨b2, o2, ⟨hbA2, by omega, by omega⟩, bs[k - 1].ep, hbr2 _ 1 1 (by rw [show ((k : Int) - 1).toNat = k - 1 by omega]; rfl) (by decide), rfl, ?_⟩
      have hp := pe_succ prev bs hk1
      rw [show k - 1 + 1 = k by omega] at hp
      exact hp.symm
    · have e : k = 0 := by simp at e; omega
      subst e
      exact ⟨rfl, rfl⟩
    rintro ⟨pv, u⟩ h9 ⟨rfl, hpv⟩
    dsimp only at hpv ⊢
    subst hpv
    obtain ⟨hops, hon, hop⟩ := ops3 k hk8
    have hops9 := hops.sub c6.sub0
    obtain ⟨hri, q1, _, _, q4, _, q6, _⟩ := hM.bts k hk8
    have hlo := v6.lo
    have hhi := v6.hi
    refine cPlace x6 ⟨_, _, rfl, cRightB hops9 hon hop ⟨_, rfl, ?_⟩⟩
    generalize hm : ({ msgZ with kd := 2, ep := 3, ix := bs[k].ix, be := bs[k].ep, prev := pe prev bs k } : MsgR) = m
    have m1 : m.kd = 2 := by rw [← hm]
    have m2 : m.ix = gone + k + 1 := by rw [← hm]; exact q1
    have m3 : m.prev = pe prev bs k := by rw [← hm]
    have m4 : m.be = bs[k].ep := by rw [← hm]
    have m5 : m.ix = bs[k].ix := by rw [← hm]
    have m6 : m.ok := by rw [← hm]; exact msgZ_ok
    have hmay := v6.may (by omega) hk8 m1 m2 m3 (pe0 k hk8)
    have hput := v6.put (by omega) hk8 m1 m2 m3 m4 (pe0 k hk8)
    refine ⟨fun _ h' => ∃ B', TakeAt B' h' x (tPut st m bs[k].ops) ∧ OneMap h' bv S ∧ Dj [bv] B' ∧ Chg [] (bv :: B') h3 h', ?_, ?_⟩
    · have := cPut (c := bs[k].c) (K := ?K) x6 m6 (by omega) hops9 hon hop ?hk
      · rw [← hm] at this
        exact this
      intro B7 h7 x7 c7
      have o7 : OneMap h7 bv S := o6.keep fun o e => c7.keep e (d6 bv (by simp))
      have goal : ∃ B', TakeAt B' h7 x (tPut st m bs[k].ops) ∧ OneMap h7 bv S ∧ Dj [bv] B' ∧ Chg [] (bv :: B') h3 h7 := ⟨B7, x7, o7, c7.dj d6 o6.has, c6.trans c7.tail⟩
      refine ⟨_, rfl, fun e => ⟨_, _, o7.look _, fun e2 => ?_, fun _ => goal⟩, fun e => ⟨fun e2 => ?_, fun _ => goal⟩⟩
      · exfalso
        have e : rightE bs[k].ix bs[k].ep bs[k].ops = 0 ∧ st.at_ < bs[k].ix := by simpa using e
        rw [m5, m4] at hmay
        cases hS : S bs[k].ix with
        | true =>
          have : ¬ tMay st m bs[k].ops := fun h => by have := (hmay.1 h).2.2; rw [hS] at this; cases this
          simp [this, hS] at e2
        | false =>
          have : tMay st m bs[k].ops := hmay.2 ⟨e.1, e.2, hS⟩
          simp [this, hS] at e2
      · exfalso
        rw [m5, m4] at hmay
        have : ¬ tMay st m bs[k].ops := fun h => by
          have := hmay.1 h
          simp [this.1, this.2.1] at e
        simp [this] at e2
    rintro _ h10 ⟨B10, x10, o10, d10, c10⟩
    have w10 : ∀ w ∈ (tPut st m bs[k].ops).ws, w.ops.length ≤ 1000000 := by
      unfold tPut
      split
      · intro w hw
        rcases List.mem_append.1 hw with hw | hw
        · exact w6 w hw
        · simp at hw; subst hw; exact hon
      · exact w6
    generalize tPut st m bs[k].ops = st1 at x10 hput w10
    refine ⟨fun _ h' => ∃ st S, IvR x bv gone prev bs h3 h' st S, ⟨fun e => ?_, fun e => ?_⟩, ?_⟩
    · have e : rightE bs[k].ix bs[k].ep bs[k].ops = 0 := by
        have : ((rightE bs[k].ix bs[k].ep bs[k].ops : Nat) : Int) = 0 := by simpa using e
        omega
      refine o10.put _ fun h11 o11 c11 => ?_
      have hv := hput.1 (by rw [m5, m4]; exact e)
      rw [m5] at hv
      exact ⟨st1, _, B10, x10.chg c11 d10.symm, o11, d10, c10.trans c11.head, hv, w10⟩
    · have e : rightE bs[k].ix bs[k].ep bs[k].ops ≠ 0 := by
        have : ¬ ((rightE bs[k].ix bs[k].ep bs[k].ops : Nat) : Int) = 0 := by simpa using e
        omega
      have hv := hput.2 (by rw [m5, m4]; exact e)
      exact ⟨st1, _, B10, x10, o10, d10, c10, hv, w10⟩
    rintro _ h12 ⟨st2, S2, iv2⟩
    refine ⟨fun _ => ⟨st2, S2, iv2⟩, fun _ => ?_⟩
    refine LoopP.indE (fun n _ h' => ∃ st S, IvR x bv gone prev bs h3 h' st S ∧ (gone + bs.length - st.at_).toNat = n) ?_ ⟨st2, S2, iv2, rfl⟩
    rintro n _ h13 ⟨st3, S3, ⟨B13, x13, o13, d13, c13, v13, w13⟩, hn13⟩
    have hnx := v13.next g0 g1 (by omega)
    refine cNext x13 w13 (fun hN B14 h14 x14 c14 => ⟨_, _, _, _, _, _, rfl, fun _ => ?_, nofun⟩) (fun w hw hs2 a14 k14 B14 h14 b14 c14 => ⟨_, _, _, _, _, _, rfl, nofun, fun _ => ?_⟩)
    · rw [hnx.1] at x14
      exact ⟨st3, S3, IvR.take o13 d13 c13 c14 x14 v13 w13⟩
    · rw [hnx.1] at hw
      have hf : tFind st3 (st3.at_ + 1) = some w := hw
      have hwm : w ∈ st3.ws := List.mem_of_find?_eq_some hf
      have hix : w.m.ix = st3.at_ + 1 := by have := List.find?_some hf; simpa using this
      obtain ⟨_, kk, hkk, e1, e2, e3, e4⟩ := v13.ws w hwm
      have x14 := x13.chg c14 (by intro b _ hb; cases hb)
      have o14 : OneMap h14 bv S3 := o13.keep fun o e => c14.keep e (by simp)
      have c314 : h3.Sub h14 := c13.sub0.tr c14.sub0
      have hlo3 := v13.lo
      have hhi3 := v13.hi
      obtain ⟨st5, hd5, hat5, hep5, hv5⟩ := v13.done_some g0 g1 (by omega) hf
      have hchg : Chg [] (bv :: B13) h3 h14 := ⟨fun b o _ e => c314 b o e, c13.2⟩
      refine cPlace x14 ⟨_, _, rfl, ?_⟩
      refine ⟨fun _ h' => ∃ B', TakeAt B' h' x st5 ∧ OneMap h' bv S3 ∧ Dj [bv] B' ∧ Chg [] (bv :: B') h3 h', ⟨fun _ => ?_, fun e => ?_⟩, ?_⟩
      · have hS : S3 w.m.ix = true := (v13.came _).2 (.inr ⟨w, hwm, rfl⟩)
        obtain ⟨b6, p6, hA6, hr6⟩ := (hbs.sub c314).get hkk
        have hidx : (IntKind.wrap .i64 ((IntKind.wrap .i64 (w.m.ix - gone)) - 1)) = (kk : Int) := by
          rw [wrap64 (n := w.m.ix - gone) (by omega) (by omega), wrap64 (by omega) (by omega)]; omega
        obtain ⟨ho3, hon3, _⟩ := ops3 kk hkk
        refine ⟨_, _, o14.look _, b6, p6, fun _ => ⟨hA6, by rw [hidx]; omega, by rw [hidx]; omega⟩, bs[kk].ix, bs[kk].ep, bs[kk].a, bs[kk].ops.length, bs[kk].c, fun _ => hr6 _ 0 3 (by rw [hidx]; simp [EncBt]) (by decide), fun _ => ?_, fun e => ?_⟩
        · refine cSameB b14.sr (ho3.sub c314) (by rw [e4]; exact hon3) ⟨_, rfl, fun _ => ?_, fun e => ?_⟩
          · refine cDone x14 w13 fun B15 h15 x15 c15 => ⟨_, rfl, fun e => ?_, fun _ => ?_⟩
            · rw [hd5] at e; simp at e
            · rw [hd5] at x15
              exact ⟨B15, x15, o14.keep fun o e => c15.keep e (d13 bv (by simp)), c15.dj d13 o14.has, hchg.trans c15.tail⟩
          · exfalso
            obtain ⟨_, z1, _⟩ := hM.bts kk hkk
            have : w.m.ix = bs[kk].ix ∧ w.m.be = bs[kk].ep ∧ w.ops = bs[kk].ops := ⟨by omega, e2, e4⟩
            simp [this.1, this.2.1, this.2.2] at e
        · rw [hS] at e; simp at e
      · exfalso
        rw [hix, wrap64 (by omega) (by omega)] at e
        simp at e
      rintro _ h16 ⟨B16, x16, o16, d16, c16⟩
      refine cPlace x16 ⟨_, _, rfl, fun e => ?_, fun _ => ⟨_, ?_, st5, S3, ⟨B16, x16, o16, d16, c16, hv5, ?_⟩, rfl⟩⟩
      · exfalso
        rw [hat5, hep5, wrap64 (by omega) (by omega)] at e
        have hpe : st3.ep ≤ w.m.be := by
          obtain ⟨_, _, _, _, _, z5, _⟩ := hM.bts kk hkk
          rw [v13.ep, show (st3.at_ - gone).toNat = kk by omega, e2]; exact z5
        simp at e
        omega
      · rw [hat5]; omega
      · have := small_next w13
        rw [hd5] at this; exact this
  · refine ⟨fun _ h' => ∃ st S, IvR x bv gone prev bs h3 h' st S ∧ tFind st (st.at_ + 1) = none, ?_, ?_⟩
    · refine LoopP.ind (fun (z : Int × Unit) h' => ∃ k : Nat, z.1 = k ∧ k ≤ rows.length ∧ ∃ st S, IvR x bv gone prev bs h3 h' st S ∧ gone + k ≤ st.at_) (fun z _ => (rows.length + 1 - z.1).toNat) ?_ ⟨0, rfl, Nat.zero_le _, st, S, iv, by obtain ⟨_, _, _, _, _, v, _⟩ := iv; have := v.lo; omega⟩
      rintro ⟨_, u⟩ h14 ⟨k, rfl, hk14, st4, S4, ⟨B14, x14, o14, d14, c14, v14, w14⟩, hat⟩
      dsimp only
      refine ⟨fun _ => ?_, fun e => by simp at e; omega⟩
      refine cDone x14 w14 fun B15 h15 x15 c15 => ⟨_, rfl, fun e => ?_, fun e => ?_⟩
      · cases hf : tFind st4 (st4.at_ + 1) with
        | none => rw [v14.done_none g0 g1 (by omega) hf] at e; simp at e
        | some w =>
          obtain ⟨st5, hd5, hat5, hep5, hv5⟩ := v14.done_some g0 g1 (by omega) hf
          have hhi5 := hv5.hi
          rw [hat5] at hhi5
          rw [hd5] at x15
          refine ⟨fun e2 => by simp at e2; omega, fun e2 => ?_⟩
          have e2 : k ≠ rows.length := fun h => by rw [h] at e2; simp at e2
          rw [wrap64 (by omega) (by omega)]
          have hsm := small_next w14
          rw [hd5] at hsm
          exact ⟨⟨k + 1, by omega, by omega, st5, S4, IvR.take o14 d14 c14 c15 x15 hv5 hsm, by omega⟩, by omega⟩
      · cases hf : tFind st4 (st4.at_ + 1) with
        | none =>
          rw [v14.done_none g0 g1 (by omega) hf] at x15
          exact ⟨st4, S4, IvR.take o14 d14 c14 c15 x15 v14 w14, hf⟩
        | some w =>
          obtain ⟨st5, hd5, _⟩ := v14.done_some g0 g1 (by omega) hf
          rw [hd5] at e; simp at e
    rintro _ h17 ⟨st7, S7, ⟨B17, x17, o17, d17, c17, v17, w17⟩, hf7⟩
    have hlo7 := v17.lo
    have hhi7 := v17.hi
    refine cPlace x17 ⟨_, _, rfl, ?_⟩
    rw [wrap64 (by omega) (by omega)]
    refine ⟨_, _, o17.look _, fun _ => ⟨fun _ => cWakes fun h' hh => ⟨_, rfl, hk h' ((s3.tr c17.sub0).tr hh)⟩, fun e => ?_⟩, fun e => ?_⟩
    · exfalso
      simp only [Bool.or_eq_false_iff, decide_eq_false_iff_not, beq_eq_false_iff_ne] at e
      omega
    · exfalso
      have : S7 (st7.at_ + 1) = false := by
        cases hs : S7 (st7.at_ + 1) with
        | false => rfl
        | true =>
          rcases (v17.came _).1 hs with h | ⟨w, hw, e⟩
          · omega
          · exact absurd e (tFind_none.1 hf7 w hw)
      rw [this] at e; simp at e
end TL
