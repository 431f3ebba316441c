/-
  Contracts of the functions of layer path. No condition.
-/
import Derived.Test.YtgiaeaohemiapaaText
import Derived.Test.YtgiaeaohemiapaaLibD
namespace TL
open Go Go.Proofs
variable {B : List Nat} {h : PH} {K : Value → PH → Prop}

/-! ### Paths, plainly -/
def namedB (s : List UInt8) : Bool := (s.all fun b => decide (97 ≤ b.toNat) && decide (b.toNat ≤ 122)) && (decide (1 ≤ s.length) && decide (s.length ≤ 8))
def keyB (s : List UInt8) : Bool := (decide (1 ≤ s.length) && decide (s.length ≤ 24)) && (decide ((0 : UInt8) ∉ s) && decide ((47 : UInt8) ∉ s))
def cutB (p : List UInt8) : Option (List UInt8 × List UInt8) :=
  if (47 : UInt8) ∈ p then
    if namedB (p.takeWhile (· != 47)) && keyB (p.drop ((p.takeWhile (· != 47)).length + 1)) then some (p.takeWhile (· != 47), p.drop ((p.takeWhile (· != 47)).length + 1)) else none
  else none
def cutV (p : List UInt8) : List UInt8 × List UInt8 × Bool := match cutB p with
  | some (m, k) => (m, k, true)
  | none => ([], [], false)
theorem named_no {s : List UInt8} (h : namedB s = true) : (47 : UInt8) ∉ s := fun hm => by
  simp only [namedB, Bool.and_eq_true, List.all_eq_true, decide_eq_true_eq] at h
  have := (h.1 47 hm).1
  exact absurd this (by decide)
theorem take_of {m k : List UInt8} (h : (47 : UInt8) ∉ m) : (m ++ 47 :: k).takeWhile (· != 47) = m := by
  rw [List.takeWhile_append_of_pos]
  · simp
  · intro b hb
    have : b ≠ 47 := fun e => h (e ▸ hb)
    simpa using this
theorem cut_iff {p m k : List UInt8} : cutB p = some (m, k) ↔ p = m ++ 47 :: k ∧ namedB m = true ∧ keyB k = true := by
  unfold cutB
  constructor
  · intro h
    split at h
    · rename_i hp
      split at h
      · rename_i hb
        simp only [Bool.and_eq_true] at hb
        simp only [Option.some.injEq, Prod.mk.injEq] at h
        obtain ⟨h1, h2⟩ := h
        rw [h1] at h2 hb
        rw [h2] at hb
        refine ⟨?_, hb.1, hb.2⟩
        have hi : ¬ idxB p 47 < 0 := fun h => idxB_none.1 h hp
        obtain ⟨i, _, hlt, ht, hd⟩ := idxB_some hi
        have : p = p.take i ++ p.drop i := (List.take_append_drop i p).symm
        rw [ht, h1, hd] at this
        rw [this]
        congr 2
        rw [← h2, ← h1, ← ht, List.length_take, Nat.min_eq_left (by omega)]
      · cases h
    · cases h
  · rintro ⟨rfl, h1, h2⟩
    have ht := take_of (k := k) (named_no h1)
    rw [if_pos (by simp), ht]
    have hd : (m ++ 47 :: k).drop (m.length + 1) = k := by rw [← List.drop_drop, List.drop_left]; rfl
    rw [hd, h1, h2]; rfl
theorem cut_none {p : List UInt8} (h : cutB p = none) : cutV p = ([], [], false) := by simp [cutV, h]
theorem cut_some {p m k : List UInt8} (h : cutB p = some (m, k)) : cutV p = (m, k, true) := by simp [cutV, h]

/-! ### Contracts -/
variable {s p l m k : List UInt8}
theorem cNamed (hs : s.length ≤ 4611686018427387904) (hk : K (.bool (namedB s)) h) : CallH Try.prog id_path_named [.string (mk s)] K h := by
  refine F_path_named_ok (LoopP.ind (fun (z : Int × Unit) h' => h' = h ∧ (0 ≤ z.1 ∧ z.1 ≤ s.length) ∧ (s.take z.1.toNat).all (fun b => decide (97 ≤ b.toNat) && decide (b.toNat ≤ 122)) = true) (fun z _ => (s.length - z.1).toNat) ?_ ⟨rfl, ⟨by decide, by show (0 : Int) ≤ _; omega⟩, by simp⟩)
  rintro ⟨i, u⟩ h1 ⟨rfl, ⟨i0, i1⟩, ha⟩
  dsimp only at i0 i1 ha ⊢
  rw [size_mk]
  refine ⟨fun e => ?_, fun e => ?_⟩
  · have e : i < s.length := by simpa using e
    have hit : i.toNat < s.length := by omega
    have hb : byteAt (mk s) i = ((s[i.toNat]).toNat : Int) := by rw [byteAt_mk]; simp [List.getD, hit]
    rw [hb]
    refine ⟨⟨i0, e⟩, fun _ => ⟨i0, e⟩, fun e2 => ?_, fun e2 => ?_⟩
    · have : namedB s = false := by
        have hm := List.getElem_mem hit
        simp only [Bool.or_eq_true, decide_eq_true_eq] at e2
        cases hn : namedB s with
        | false => rfl
        | true =>
          simp only [namedB, Bool.and_eq_true, List.all_eq_true, decide_eq_true_eq] at hn
          have := hn.1 _ hm
          omega
      rw [this] at hk; exact hk
    · simp only [Bool.or_eq_false_iff, decide_eq_false_iff_not] at e2
      rw [wrap64 (n := i + 1) (by omega) (by omega)]
      refine ⟨⟨rfl, ⟨by omega, by omega⟩, ?_⟩, by omega⟩
      rw [show (i + 1).toNat = i.toNat + 1 by omega, List.take_succ_eq_append_getElem hit, List.all_append, ha]
      simp; omega
  · have e : i = s.length := by simp at e; omega
    rw [e] at ha
    simp only [Int.toNat_natCast, List.take_length] at ha
    have : namedB s = (decide ((s.length : Int) ≥ 1) && decide ((s.length : Int) ≤ 8)) := by
      unfold namedB; rw [ha]
      simp only [Bool.true_and]
      congr 1
      · simp; omega
      · simp; omega
    rw [← this]; exact hk
theorem cIndexByte {c : Nat} (hk : K (.int .i64 (idxB s (UInt8.ofNat c))) h) : CallH Try.prog id_internal_stringslite_IndexByte [.string (mk s), .int .u8 (c : Int)] K h :=
  F_internal_stringslite_IndexByte_ok (extH_of Try.func39 (by kernel_rfl) (by kernel_rfl) (by kernel_rfl) (e := Extern.BytealgIndexByte.indexByte) (by kernel_rfl) (fun _ => ro_indexByte) ⟨_, rfl, hk⟩)
theorem cIndexByte2 {c : Nat} (hk : K (.int .i64 (idxB s (UInt8.ofNat c))) h) : CallH Try.prog id_strings_IndexByte [.string (mk s), .int .u8 (c : Int)] K h :=
  F_strings_IndexByte_ok (cIndexByte ⟨_, rfl, hk⟩)
theorem cKey (hk : K (.bool (keyB s)) h) : CallH Try.prog id_path_key [.string (mk s)] K h := by
  refine F_path_key_ok ?_
  unfold F_path_key
  rw [size_mk]
  have hl : (decide ((s.length : Int) ≥ 1) && decide ((s.length : Int) ≤ 24)) = (decide (1 ≤ s.length) && decide (s.length ≤ 24)) := by
    congr 1
    · simp; omega
    · simp; omega
  rw [hl]
  unfold keyB at hk
  refine ⟨fun e => ?_, fun e => ?_⟩
  · rw [e, Bool.true_and] at hk
    refine cIndexByte2 (c := 0) ⟨_, rfl, fun e1 => ?_, fun e1 => ?_⟩
    · have e1 : (0 : UInt8) ∉ s := idxB_none.1 (by simpa using e1)
      refine cIndexByte2 (c := 47) ⟨_, rfl, ?_⟩
      have : decide (idxB s (UInt8.ofNat 47) < 0) = (decide ((0 : UInt8) ∉ s) && decide ((47 : UInt8) ∉ s)) := by
        simp only [e1, decide_true, Bool.true_and, not_false_eq_true]
        exact decide_eq_decide.2 idxB_none
      rw [this]; exact hk
    · have e1 : ¬ (0 : UInt8) ∉ s := fun h => by
        have := idxB_none.2 h
        simp at e1
        omega
      simp only [e1, decide_false, Bool.false_and] at hk
      exact hk
  · rw [e] at hk; exact hk
theorem cStrCut (hs : s.length ≤ 4611686018427387904) (hk : ((47 : UInt8) ∉ s → K (.tuple #[.string (mk s), .string (mk []), .bool false]) h)) (hk2 : (47 : UInt8) ∈ s → K (.tuple #[.string (mk (s.takeWhile (· != 47))), .string (mk (s.drop ((s.takeWhile (· != 47)).length + 1))), .bool true]) h) :
    CallH Try.prog id_strings_Cut [.string (mk s), .string (⟨#[47]⟩ : ByteArray)] K h := by
  have key : ∀ {K' : Value → PH → Prop}, K' (.int .i64 (idxB s 47)) h → CallH Try.prog id_internal_stringslite_Index [.string (mk s), .string (⟨#[47]⟩ : ByteArray)] K' h := by
    intro K' hk'
    refine F_internal_stringslite_Index_ok ⟨fun e => ?_, fun _ => ⟨fun _ => ⟨by decide, cIndexByte (c := 47) ⟨_, rfl, hk'⟩⟩, fun e => absurd e (by decide)⟩⟩
    have e1 : ((((⟨#[47]⟩ : ByteArray).size : Int) == (0 : Int)) || strEq (⟨#[47]⟩ : ByteArray) (mk s)) = strEq (mk [47]) (mk s) := by
      rw [show (((⟨#[47]⟩ : ByteArray).size : Int) == (0 : Int)) = false by decide, Bool.false_or]; rfl
    rw [e1, strEq_mk] at e
    rw [← e] at hk'; exact hk'
  refine F_strings_Cut_ok (F_internal_stringslite_Cut_ok (key ⟨_, rfl, fun e => ?_, fun e => ?_⟩))
  · have e : ¬ idxB s 47 < 0 := by simp at e; omega
    have hm : (47 : UInt8) ∈ s := by
      by_cases h : (47 : UInt8) ∈ s
      · exact h
      · exact absurd (idxB_none.2 h) e
    obtain ⟨i, hi, hlt, ht, hd⟩ := idxB_some e
    rw [hi, size_mk, show (((⟨#[47]⟩ : ByteArray).size : Nat) : Int) = 1 by decide, wrap64 (by omega) (by omega)]
    refine ⟨⟨by omega, by omega, by omega⟩, ⟨by omega, by omega, by omega⟩, _, _, _, rfl, ?_⟩
    have hlen : (s.takeWhile (· != 47)).length = i := by rw [← ht, List.length_take]; omega
    have := hk2 hm
    rw [hlen, ← ht] at this
    rw [subS_mk, subS_mk]
    have e1 : ((s.drop (0 : Int).toNat).take ((i : Int).toNat - (0 : Int).toNat)) = s.take i := by simp
    have e2 : ((s.drop ((i : Int) + 1).toNat).take ((s.length : Int).toNat - ((i : Int) + 1).toNat)) = s.drop (i + 1) := by
      rw [show ((i : Int) + 1).toNat = i + 1 by omega, List.take_of_length_le (by rw [List.length_drop]; omega)]
    rw [e1, e2]; exact this
  · have e : idxB s 47 < 0 := by simp at e; omega
    exact ⟨_, _, _, rfl, hk (idxB_none.1 e)⟩
theorem cCut (hs : p.length ≤ 4611686018427387904) (hk : K (.tuple #[.string (mk (cutV p).1), .string (mk (cutV p).2.1), .bool (cutV p).2.2]) h) : CallH Try.prog id_path_Cut [.string (mk p)] K h := by
  refine F_path_Cut_ok (cStrCut hs (fun hm => ⟨_, _, _, rfl, fun e => absurd e (by decide), fun _ => ?_⟩) fun hm => ⟨_, _, _, rfl, fun _ => ?_, fun e => absurd e (by decide)⟩)
  · have : cutB p = none := by unfold cutB; rw [if_neg hm]
    rw [cut_none this] at hk; exact hk
  · have hlen : (p.takeWhile (· != 47)).length ≤ p.length := (List.takeWhile_sublist _).length_le
    refine cNamed (by omega) ⟨_, rfl, fun e => cKey ⟨_, rfl, fun e2 => ?_, fun e2 => ?_⟩, fun e => ?_⟩
    · have : cutB p = none := by unfold cutB; rw [if_pos hm, if_neg]; simp at e e2 ⊢; simp [e2]
      rw [cut_none this] at hk; exact hk
    · have : cutB p = some (p.takeWhile (· != 47), p.drop ((p.takeWhile (· != 47)).length + 1)) := by unfold cutB; rw [if_pos hm, if_pos]; simp at e e2 ⊢; exact ⟨e, e2⟩
      rw [cut_some this] at hk; exact hk
    · have : cutB p = none := by unfold cutB; rw [if_pos hm, if_neg]; simp at e ⊢; simp [e]
      rw [cut_none this] at hk; exact hk
def joinV (m k : List UInt8) : List UInt8 × Bool := if namedB m && keyB k then (m ++ 47 :: k, true) else ([], false)
theorem key_len (h : keyB k = true) : k.length ≤ 24 := by
  simp only [keyB, Bool.and_eq_true, decide_eq_true_eq] at h; exact h.1.2
theorem named_len (h : namedB m = true) : m.length ≤ 8 := by
  simp only [namedB, Bool.and_eq_true, decide_eq_true_eq] at h; exact h.2.2
theorem cJoin (hs : m.length ≤ 4611686018427387904) (hk : K (.tuple #[.string (mk (joinV m k).1), .bool (joinV m k).2]) h) : CallH Try.prog id_path_Join [.string (mk m), .string (mk k)] K h := by
  unfold joinV at hk
  refine F_path_Join_ok (cNamed hs ⟨_, rfl, fun e => cKey ⟨_, rfl, fun e2 => ?_, fun e2 => ?_⟩, fun e => ?_⟩)
  · have e2 : keyB k = false := by simpa using e2
    rw [e2, Bool.and_false] at hk; exact hk
  · have e : namedB m = true := by simpa using e
    have e2 : keyB k = true := by simpa using e2
    have := named_len e
    have := key_len e2
    rw [e, e2] at hk
    have em : (⟨#[47]⟩ : ByteArray) = mk [47] := rfl
    rw [em, mk_append, mk_append, size_mk, size_mk, size_mk, size_mk]
    refine ⟨by simp; omega, by simp; omega, ?_⟩
    rw [List.append_assoc]; exact hk
  · have e : namedB m = false := by simpa using e
    rw [e] at hk; exact hk

/-! ### Mounts -/
structure Mt where
  s : List UInt8
  ship : Bool
  deriving DecidableEq
def EncMt : Enc Mt where
  enc x := [.string (mk x.s), .bool x.ship]
  k := 2
  len _ := rfl
  one p v hv := by
    simp only [List.mem_cons, List.not_mem_nil, or_false] at hv
    rcases hv with rfl | rfl <;> rfl
  pos := by decide
def mt0 : Mt := ⟨[], false⟩
def ofB (l : List Mt) (p : List UInt8) : Mt × Nat := match cutB p with
  | none => (mt0, 20)
  | some (m, _) => match l.find? (fun x => x.s == m) with
    | none => (mt0, 21)
    | some x => (x, 0)
def shipsB (l : List Mt) (p : List UInt8) : Bool := (ofB l p).2 == 0 && (ofB l p).1.ship
def rightB (l : List Mt) : Bool := (decide (1 ≤ l.length) && decide (l.length ≤ 4)) && ((l.all fun x => namedB x.s) && decide (l.map (·.s)).Nodup)
variable {lA : Option Addr} {lC : Nat} {ms : List Mt}
theorem cIndexFunc {f : Value} (hf : one1 f = true) (hl : SR EncMt h lA ms) (hn : ms.length ≤ 1000000) (q : Mt → Bool) (hq : ∀ (x : Mt) (K' : Value → PH → Prop), K' (.bool (q x)) h → CallV Try.prog f [.agg #[.string (mk x.s), .bool x.ship]] K' h)
    (hk : K (.int .i64 (match ms.findIdx? q with
      | some i => (i : Int)
      | none => -1)) h) : CallH Try.prog id_slices_IndexFunc_api_Mount_api_Mount [.slice lA ms.length lC, f] K h := by
  refine F_slices_IndexFunc_api_Mount_api_Mount_ok hf (LoopP.ind (fun (z : Int × Unit) h' => h' = h ∧ (0 ≤ z.1 ∧ z.1 ≤ ms.length) ∧ ∀ j : Nat, (hj : j < ms.length) → (j : Int) < z.1 → q ms[j] = false) (fun z _ => (ms.length - z.1).toNat) ?_ ⟨rfl, ⟨by decide, by show (0 : Int) ≤ _; omega⟩, fun j _ hj => by simp only at hj; omega⟩)
  rintro ⟨i, u⟩ h1 ⟨rfl, ⟨i0, i1⟩, ha⟩
  dsimp only at i0 i1 ha ⊢
  refine ⟨fun e => ?_, fun e => ?_⟩
  · have e : i < ms.length := by simpa using e
    have hit : i.toNat < ms.length := by omega
    obtain ⟨b, o, hA, hr⟩ := hl.get hit
    refine ⟨b, o, ⟨hA, i0, e⟩, _, _, hr _ 0 2 rfl (by decide), hq ms[i.toNat] _ ⟨_, rfl, fun e2 => ?_, fun e2 => ?_⟩⟩
    · have : ms.findIdx? q = some i.toNat := by
        rw [List.findIdx?_eq_some_iff_getElem]
        refine ⟨hit, e2, fun j hj => ?_⟩
        have := ha j (by omega) (by omega)
        simpa using this
      rw [this] at hk
      simp only at hk
      rw [Int.toNat_of_nonneg i0] at hk; exact hk
    · rw [wrap64 (n := i + 1) (by omega) (by omega)]
      refine ⟨⟨rfl, ⟨by omega, by omega⟩, fun j hj hji => ?_⟩, by omega⟩
      by_cases hji2 : (j : Int) < i
      · exact ha j hj hji2
      · have : j = i.toNat := by omega
        subst this; exact e2
  · have e : i = ms.length := by simp at e; omega
    have : ms.findIdx? q = none := by
      rw [List.findIdx?_eq_none_iff]
      intro x hx
      obtain ⟨j, hj, rfl⟩ := List.getElem_of_mem hx
      exact ha j hj (by omega)
    rw [this] at hk; exact hk
theorem cOf (hl : SR EncMt h lA ms) (hn : ms.length ≤ 1000000) (hp : p.length ≤ 4611686018427387904) (hk : ∀ h', h.Sub h' → K (.tuple #[.agg #[.string (mk (ofB ms p).1.s), .bool (ofB ms p).1.ship], .int .i64 ((ofB ms p).2 : Int)]) h') : CallH Try.prog id_path_Of [.slice lA ms.length lC, .string (mk p)] K h := by
  refine F_path_Of_ok (cCut hp ⟨_, _, _, rfl, nwL (cs := [.string (⟨#[]⟩ : ByteArray)]) fun b h1 hb0 hb1 c1 => stL (cs' := [.string (mk (cutV p).1)]) hb1 rfl rfl fun h2 hb2 c2 => ⟨fun e => ?_, fun e => ?_⟩⟩)
  · have hs : h.Sub h2 := (c1.trans c2).sub0
    have : cutB p = none := by
      cases hc : cutB p with
      | none => rfl
      | some x => simp [cutV, hc] at e
    have ho : ofB ms p = (mt0, 20) := by simp [ofB, this]
    rw [ho] at hk
    exact hk h2 hs
  · have hs : h.Sub h2 := (c1.trans c2).sub0
    obtain ⟨m, k, hc⟩ : ∃ m k, cutB p = some (m, k) := by
      cases hc : cutB p with
      | none => simp [cutV, hc] at e
      | some x => exact ⟨x.1, x.2, rfl⟩
    rw [cut_some hc] at hb2
    have hl2 := hl.sub hs
    refine cIndexFunc rfl hl2 hn (fun x => x.s == m) (fun x K' hk' => ⟨by kernel_rfl, ?_⟩) ?_
    · refine F_path_Of_1_ok ⟨_, rdsL hb2 rfl rfl, ?_⟩
      rw [strEq_mk']
      have : decide (x.s = m) = (x.s == m) := by by_cases h : x.s = m <;> simp [h]
      rw [this]; exact hk'
    · unfold ofB at hk
      simp only [hc] at hk
      cases hf : ms.findIdx? (fun x => x.s == m) with
      | none =>
        have : ms.find? (fun x => x.s == m) = none := by
          rw [List.find?_eq_none]
          rw [List.findIdx?_eq_none_iff] at hf
          intro x hx; rw [hf x hx]; simp
        rw [this] at hk
        exact ⟨_, rfl, fun _ => hk h2 hs, fun e => absurd e (by decide)⟩
      | some i =>
        rw [List.findIdx?_eq_some_iff_getElem] at hf
        obtain ⟨hi, h1, h2'⟩ := hf
        have : ms.find? (fun x => x.s == m) = some ms[i] := by
          rw [List.find?_eq_some_iff_getElem]
          exact ⟨h1, i, hi, rfl, fun j hj => by simpa using h2' j hj⟩
        rw [this] at hk
        obtain ⟨b, o, hA, hr⟩ := hl2.get hi
        exact ⟨_, rfl, fun e => by simp at e; omega, fun _ => ⟨b, o, ⟨hA, by simp only; omega, by simp only; omega⟩, _, _, hr _ 0 2 rfl (by decide), hk h2 hs⟩⟩
theorem cShips (hl : SR EncMt h lA ms) (hn : ms.length ≤ 1000000) (hp : p.length ≤ 4611686018427387904) (hk : ∀ h', h.Sub h' → K (.bool (shipsB ms p)) h') : CallH Try.prog id_path_Ships [.slice lA ms.length lC, .string (mk p)] K h := by
  refine F_path_Ships_ok (cOf hl hn hp fun h' s' => ⟨_, _, _, rfl, ?_⟩)
  have := hk h' s'
  unfold shipsB at this
  have e : (((ofB ms p).2 : Int) == 0) = ((ofB ms p).2 == 0) := by cases (ofB ms p).2 <;> rfl
  rw [e]; exact this
theorem cSame {a2 : Option Addr} {c2 : Nat} {m2 : List Mt} (hl : SR EncMt h lA ms) (hl2 : SR EncMt h a2 m2) (hn : ms.length ≤ 1000000) (hk : K (.bool (decide (ms = m2))) h) : CallH Try.prog id_path_Same [.slice lA ms.length lC, .slice a2 m2.length c2] K h := by
  refine F_path_Same_ok (F_slices_Equal_api_Mount_api_Mount_ok ⟨fun e => ?_, fun e => ?_⟩)
  · have : ms ≠ m2 := fun h => by rw [h] at e; simp at e
    simp only [this, decide_false] at hk
    exact ⟨_, rfl, hk⟩
  · have hlen : ms.length = m2.length := by simp at e; omega
    refine LoopP.ind (fun (z : Int × Unit) h' => h' = h ∧ (0 ≤ z.1 ∧ z.1 ≤ ms.length) ∧ ms.take z.1.toNat = m2.take z.1.toNat) (fun z _ => (ms.length - z.1).toNat) ?_ ⟨rfl, ⟨by decide, by show (0 : Int) ≤ _; omega⟩, by simp⟩
    rintro ⟨i, u⟩ h1 ⟨rfl, ⟨i0, i1⟩, ha⟩
    dsimp only at i0 i1 ha ⊢
    refine ⟨fun e => ?_, fun e => ?_⟩
    · have e : i < ms.length := by simpa using e
      have hit : i.toNat < ms.length := by omega
      have hit2 : i.toNat < m2.length := by omega
      obtain ⟨b, o, hA, hr⟩ := hl.get hit
      obtain ⟨b', o', hA', hr'⟩ := hl2.get hit2
      have heq : ((strEq (mk ms[i.toNat].s) (mk m2[i.toNat].s)) && ((ms[i.toNat].ship == m2[i.toNat].ship) && true)) = decide (ms[i.toNat] = m2[i.toNat]) := by
        rw [strEq_mk']
        cases ms[i.toNat]; cases m2[i.toNat]
        simp only [Mt.mk.injEq, Bool.decide_and, Bool.and_true]
        congr 1
      refine ⟨b, o, ⟨hA, i0, e⟩, _, _, hr _ 0 2 rfl (by decide), b', o', ⟨hA', i0, by omega⟩, _, _, hr' _ 0 2 rfl (by decide), fun e2 => ?_, fun e2 => ?_⟩
      · rw [heq] at e2
        have e2 : ms[i.toNat] ≠ m2[i.toNat] := by simpa using e2
        have : ms ≠ m2 := fun h => e2 (by simp [h])
        simp only [this, decide_false] at hk
        exact ⟨_, rfl, hk⟩
      · rw [heq] at e2
        have e2 : ms[i.toNat] = m2[i.toNat] := by simpa using e2
        rw [wrap64 (n := i + 1) (by omega) (by omega)]
        refine ⟨⟨rfl, ⟨by omega, by omega⟩, ?_⟩, by omega⟩
        rw [show (i + 1).toNat = i.toNat + 1 by omega, List.take_succ_eq_append_getElem hit, List.take_succ_eq_append_getElem hit2, ha, e2]
    · have e : i = ms.length := by simp at e; omega
      rw [e, Int.toNat_natCast, List.take_length, hlen, List.take_length] at ha
      simp only [ha, decide_true] at hk
      exact ⟨_, rfl, hk⟩
theorem cRight (hl : SR EncMt h lA ms) (hc : ms.length ≤ lC) (hn : ms.length ≤ 1000000) (hs : ∀ x ∈ ms, x.s.length ≤ 1000000) (hk : ∀ h', h.Sub h' → K (.bool (rightB ms)) h') : CallH Try.prog id_path_Right [.slice lA ms.length lC] K h := by
  refine F_path_Right_ok (LoopP.ind (fun (z : Int × Unit) h' => h.Sub h' ∧ (0 ≤ z.1 ∧ z.1 ≤ ms.length) ∧ (ms.take z.1.toNat).all (fun x => namedB x.s) = true ∧ ((ms.take z.1.toNat).map (·.s)).Nodup) (fun z _ => (ms.length - z.1).toNat) ?_ ⟨fun _ _ e => e, ⟨by decide, by show (0 : Int) ≤ _; omega⟩, by simp, by simp⟩)
  rintro ⟨i, u⟩ h1 ⟨s1, ⟨i0, i1⟩, ha, hd⟩
  dsimp only at i0 i1 ha hd ⊢
  refine ⟨fun e => ?_, fun e => ?_⟩
  · have e : i < ms.length := by simpa using e
    have hit : i.toNat < ms.length := by omega
    have hl1 := hl.sub s1
    obtain ⟨b, o, hA, hr⟩ := hl1.get hit
    refine ⟨b, o, ⟨hA, i0, e⟩, _, _, hr _ 0 2 rfl (by decide), nwL (cs := [.string (⟨#[]⟩ : ByteArray), .bool false]) fun bv h2 hb0 hb2 c2 => stL (cs' := [.string (mk ms[i.toNat].s), .bool ms[i.toNat].ship]) hb2 rfl rfl fun h3 hb3 c3 => ?_⟩
    have s3 : h.Sub h3 := fun b o e => (c2.trans c3).sub0 b o (s1 b o e)
    refine ⟨_, rdsL hb3 rfl rfl, cNamed (by have := hs _ (List.getElem_mem hit); omega) ⟨_, rfl, fun _ => ⟨by omega, by omega, by omega, by omega⟩, fun e2 => ?_, fun e2 => ?_⟩⟩
    · have e2 : namedB ms[i.toNat].s = true := by simpa using e2
      have hl3 : SR EncMt h3 (slA lA 2 0 ((lC : Nat) : Int)) (ms.take i.toNat) := by
        have hl3 := hl.sub s3
        rcases hl3 with h0 | ⟨b', o', e', hr'⟩
        · left; rw [h0]; simp
        · refine .inr ⟨b', o', ?_, ?_⟩
          · unfold slA; rw [if_neg (by omega), e', Option.map_some]
            simp [Addr.add]
          · have hle : i.toNat * 2 ≤ ms.length * 2 := by omega
            have := rds_to hr' 0 ((ms.take i.toNat).length * EncMt.k) (by show 0 + (ms.take i.toNat).length * 2 ≤ ms.length * 2; rw [List.length_take]; omega)
            rw [Nat.add_zero, List.drop_zero, EncMt.row_take] at this
            rw [this]
            congr 2
            rw [List.length_take, Nat.min_eq_left (by omega)]
      have hlen : (ms.take i.toNat).length = i.toNat := by rw [List.length_take]; omega
      have hidx : i.toNat - (0 : Int).toNat = (ms.take i.toNat).length := by rw [hlen]; simp
      rw [hidx]
      refine F_slices_ContainsFunc_api_Mount_api_Mount_ok rfl (cIndexFunc rfl hl3 (by rw [hlen]; omega) (fun x => x.s == ms[i.toNat].s) (fun x K' hk' => ⟨by kernel_rfl, ?_⟩) ⟨_, rfl, _, rfl, fun e3 => ?_, fun e3 => ?_⟩)
      · refine F_path_Right_1_ok ⟨_, rdsL hb3 rfl rfl, ?_⟩
        rw [strEq_mk']
        have : decide (x.s = ms[i.toNat].s) = (x.s == ms[i.toNat].s) := by by_cases h : x.s = ms[i.toNat].s <;> simp [h]
        rw [this]; exact hk'
      · cases hf : (ms.take i.toNat).findIdx? (fun x => x.s == ms[i.toNat].s) with
        | none => rw [hf] at e3; simp at e3
        | some j =>
          rw [List.findIdx?_eq_some_iff_getElem] at hf
          obtain ⟨hj, h1', _⟩ := hf
          have h1' : ms[j].s = ms[i.toNat].s := by simpa using h1'
          have : rightB ms = false := by
            have hnd : ¬ (ms.map (·.s)).Nodup := fun hnd => by
              have := (List.getElem_inj (h₀ := by rw [List.length_map]; omega) (h₁ := by rw [List.length_map]; omega) hnd (i := j) (j := i.toNat)).1 (by simpa using h1')
              omega
            simp [rightB, hnd]
          rw [this] at hk
          exact hk h3 s3
      · have hnone : (ms.take i.toNat).findIdx? (fun x => x.s == ms[i.toNat].s) = none := by
          cases hf : (ms.take i.toNat).findIdx? (fun x => x.s == ms[i.toNat].s) with
          | none => rfl
          | some j => rw [hf] at e3; simp at e3
        rw [List.findIdx?_eq_none_iff] at hnone
        rw [wrap64 (n := i + 1) (by omega) (by omega)]
        refine ⟨⟨s3, ⟨by omega, by omega⟩, ?_, ?_⟩, by omega⟩
        · rw [show (i + 1).toNat = i.toNat + 1 by omega, List.take_succ_eq_append_getElem hit, List.all_append, ha]; simp [e2]
        · rw [show (i + 1).toNat = i.toNat + 1 by omega, List.take_succ_eq_append_getElem hit, List.map_append]
          rw [List.nodup_append]
          refine ⟨hd, by simp, fun a ha' b hb' => ?_⟩
          obtain ⟨x, hx, rfl⟩ := List.mem_map.1 ha'
          simp at hb'; subst hb'
          have := hnone x hx
          simpa using this
    · have e2 : namedB ms[i.toNat].s = false := by simpa using e2
      have : rightB ms = false := by
        have : (ms.all fun x => namedB x.s) = false := by
          rw [List.all_eq_false]
          exact ⟨_, List.getElem_mem hit, by simp [e2]⟩
        simp [rightB, this]
      rw [this] at hk
      exact hk h3 s3
  · have e : i = ms.length := by simp at e; omega
    rw [e, Int.toNat_natCast, List.take_length] at ha hd
    have : rightB ms = (decide (((ms.length : Nat) : Int) ≥ 1) && decide (((ms.length : Nat) : Int) ≤ 4)) := by
      unfold rightB
      rw [ha]
      simp only [hd, decide_true, Bool.and_true]
      congr 1
      · simp; omega
      · simp; omega
    rw [← this]
    exact hk h1 s1
end TL

namespace TL
open Go Go.Proofs
variable {B : List Nat} {h : PH} {K : Value → PH → Prop} {s p q k : List UInt8} {lA : Option Addr} {lC : Nat} {ms : List Mt}

/-! ### The document's functions -/
theorem cRNamed (hk : K (.bool (namedB s)) h) : CallH Try.prog id_ref11_Named [.string (mk s)] K h := by
  refine F_ref11_Named_ok ?_
  unfold F_ref11_Named
  rw [size_mk]
  refine ⟨fun e => ?_, fun e => ?_⟩
  · have : namedB s = false := by
      simp only [Bool.or_eq_true, decide_eq_true_eq] at e
      cases hn : namedB s with
      | false => rfl
      | true =>
        simp only [namedB, Bool.and_eq_true, decide_eq_true_eq] at hn
        omega
    rw [this] at hk; exact hk
  · simp only [Bool.or_eq_false_iff, decide_eq_false_iff_not] at e
    refine LoopP.ind (fun (z : Int × Unit) h' => h' = h ∧ (0 ≤ z.1 ∧ z.1 ≤ s.length) ∧ (s.take z.1.toNat).all (fun b => decide (97 ≤ b.toNat) && decide (b.toNat ≤ 122)) = true) (fun z _ => (s.length - z.1).toNat) ?_ ⟨rfl, ⟨by decide, by show (0 : Int) ≤ _; omega⟩, by simp⟩
    rintro ⟨i, u⟩ h1 ⟨rfl, ⟨i0, i1⟩, ha⟩
    dsimp only at i0 i1 ha ⊢
    refine ⟨fun e => ?_, fun e => ?_⟩
    · have e : i < s.length := by simpa using e
      have hit : i.toNat < s.length := by omega
      have hb : byteAt (mk s) i = ((s[i.toNat]).toNat : Int) := by rw [byteAt_mk]; simp [List.getD, hit]
      rw [hb]
      refine ⟨⟨i0, e⟩, fun _ => ⟨i0, e⟩, fun e2 => ?_, fun e2 => ?_⟩
      · have : namedB s = false := by
          have hm := List.getElem_mem hit
          simp only [Bool.or_eq_true, decide_eq_true_eq] at e2
          cases hn : namedB s with
          | false => rfl
          | true =>
            simp only [namedB, Bool.and_eq_true, List.all_eq_true, decide_eq_true_eq] at hn
            have := hn.1 _ hm
            omega
        rw [this] at hk; exact hk
      · simp only [Bool.or_eq_false_iff, decide_eq_false_iff_not] at e2
        rw [wrap64 (n := i + 1) (by omega) (by omega)]
        refine ⟨⟨rfl, ⟨by omega, by omega⟩, ?_⟩, by omega⟩
        rw [show (i + 1).toNat = i.toNat + 1 by omega, List.take_succ_eq_append_getElem hit, List.all_append, ha]
        simp; omega
    · have e' : i = s.length := by simp at e; omega
      rw [e'] at ha
      simp only [Int.toNat_natCast, List.take_length] at ha
      have : namedB s = true := by
        unfold namedB; rw [ha]; simp; omega
      rw [this] at hk; exact hk
theorem cRKey (hk : K (.bool (keyB s)) h) : CallH Try.prog id_ref11_Key [.string (mk s)] K h := by
  refine F_ref11_Key_ok ?_
  unfold F_ref11_Key
  rw [size_mk]
  refine ⟨fun e => ?_, fun e => ?_⟩
  · have : keyB s = false := by
      simp only [Bool.or_eq_true, decide_eq_true_eq] at e
      cases hn : keyB s with
      | false => rfl
      | true =>
        simp only [keyB, Bool.and_eq_true, decide_eq_true_eq] at hn
        omega
    rw [this] at hk; exact hk
  · simp only [Bool.or_eq_false_iff, decide_eq_false_iff_not] at e
    refine LoopP.ind (fun (z : Int × Unit) h' => h' = h ∧ (0 ≤ z.1 ∧ z.1 ≤ s.length) ∧ (0 : UInt8) ∉ s.take z.1.toNat ∧ (47 : UInt8) ∉ s.take z.1.toNat) (fun z _ => (s.length - z.1).toNat) ?_ ⟨rfl, ⟨by decide, by show (0 : Int) ≤ _; omega⟩, by simp, by simp⟩
    rintro ⟨i, u⟩ h1 ⟨rfl, ⟨i0, i1⟩, ha, hb'⟩
    dsimp only at i0 i1 ha hb' ⊢
    refine ⟨fun e => ?_, fun e => ?_⟩
    · have e : i < s.length := by simpa using e
      have hit : i.toNat < s.length := by omega
      have hb : byteAt (mk s) i = ((s[i.toNat]).toNat : Int) := by rw [byteAt_mk]; simp [List.getD, hit]
      rw [hb]
      refine ⟨⟨i0, e⟩, fun _ => ⟨i0, e⟩, fun e2 => ?_, fun e2 => ?_⟩
      · have : keyB s = false := by
          have hm := List.getElem_mem hit
          simp only [Bool.or_eq_true, beq_iff_eq] at e2
          cases hn : keyB s with
          | false => rfl
          | true =>
            simp only [keyB, Bool.and_eq_true, decide_eq_true_eq] at hn
            exfalso
            rcases e2 with e2 | e2
            · exact hn.2.1 (by rw [show (0 : UInt8) = s[i.toNat] from UInt8.toNat_inj.1 (by show 0 = _; omega)]; exact hm)
            · exact hn.2.2 (by rw [show (47 : UInt8) = s[i.toNat] from UInt8.toNat_inj.1 (by show 47 = _; omega)]; exact hm)
        rw [this] at hk; exact hk
      · simp only [Bool.or_eq_false_iff, beq_eq_false_iff_ne] at e2
        rw [wrap64 (n := i + 1) (by omega) (by omega)]
        refine ⟨⟨rfl, ⟨by omega, by omega⟩, ?_, ?_⟩, by omega⟩
        · rw [show (i + 1).toNat = i.toNat + 1 by omega, List.take_succ_eq_append_getElem hit]
          intro hm
          rcases List.mem_append.1 hm with hm | hm
          · exact ha hm
          · rw [List.mem_singleton] at hm
            exact e2.1 (by rw [← hm]; rfl)
        · rw [show (i + 1).toNat = i.toNat + 1 by omega, List.take_succ_eq_append_getElem hit]
          intro hm
          rcases List.mem_append.1 hm with hm | hm
          · exact hb' hm
          · rw [List.mem_singleton] at hm
            exact e2.2 (by rw [← hm]; rfl)
    · have e' : i = s.length := by simp at e; omega
      rw [e'] at ha hb'
      simp only [Int.toNat_natCast, List.take_length] at ha hb'
      have : keyB s = true := by
        unfold keyB; simp [ha, hb']; omega
      rw [this] at hk; exact hk
theorem cRCut (hs : p.length ≤ 4611686018427387904) (hk : K (.tuple #[.string (mk (cutV p).1), .string (mk (cutV p).2.1), .bool (cutV p).2.2]) h) : CallH Try.prog id_ref11_Cut [.string (mk p)] K h := by
  refine F_ref11_Cut_ok (LoopP.ind (fun (z : Int × Unit) h' => h' = h ∧ (0 ≤ z.1 ∧ z.1 ≤ p.length) ∧ (47 : UInt8) ∉ p.take z.1.toNat) (fun z _ => (p.length - z.1).toNat) ?_ ⟨rfl, ⟨by decide, by show (0 : Int) ≤ _; omega⟩, by simp⟩)
  rintro ⟨i, u⟩ h1 ⟨rfl, ⟨i0, i1⟩, ha⟩
  dsimp only at i0 i1 ha ⊢
  rw [size_mk]
  refine ⟨fun e => ?_, fun e => ?_⟩
  · have e : i < p.length := by simpa using e
    have hit : i.toNat < p.length := by omega
    have hb : byteAt (mk p) i = ((p[i.toNat]).toNat : Int) := by rw [byteAt_mk]; simp [List.getD, hit]
    rw [hb, wrap64 (n := i + 1) (by omega) (by omega)]
    refine ⟨⟨i0, e⟩, fun e2 => ⟨⟨by omega, by omega, by omega⟩, ?_⟩, fun e2 => ?_⟩
    · have hc : p[i.toNat] = 47 := UInt8.toNat_inj.1 (by simp only [beq_iff_eq] at e2; show _ = 47; omega)
      have hsp : p = p.take i.toNat ++ 47 :: p.drop (i.toNat + 1) := by rw [← hc, ← List.drop_eq_getElem_cons hit, List.take_append_drop]
      have e1 : subS (mk p) 0 i = mk (p.take i.toNat) := by rw [subS_mk]; simp
      have e3 : subS (mk p) (i + 1) ((p.length : Nat) : Int) = mk (p.drop (i.toNat + 1)) := by
        rw [subS_mk, show (i + 1).toNat = i.toNat + 1 by omega, List.take_of_length_le (by rw [List.length_drop]; omega)]
      have hval : ∀ m k, cutB p = some (m, k) → m = p.take i.toNat ∧ k = p.drop (i.toNat + 1) := fun m k hmk => by
        obtain ⟨h1, h2, h3⟩ := cut_iff.1 hmk
        have ht1 := take_of (k := k) (named_no h2)
        have ht2 := take_of (m := p.take i.toNat) (k := p.drop (i.toNat + 1)) ha
        rw [← h1] at ht1
        rw [← hsp] at ht2
        rw [ht1] at ht2
        refine ⟨ht2, ?_⟩
        have h4 := h1.symm.trans hsp
        rw [ht2] at h4
        have := List.append_cancel_left h4
        injection this
      rw [e1, e3]
      refine cRNamed ⟨_, rfl, fun _ => ⟨by omega, by omega, by omega⟩, fun e4 => cRKey ⟨_, rfl, fun e5 => ⟨⟨by omega, by omega, by omega⟩, ⟨by omega, by omega, by omega⟩, ?_⟩, fun e5 => ?_⟩, fun e4 => ?_⟩
      · have : cutB p = some (p.take i.toNat, p.drop (i.toNat + 1)) := cut_iff.2 ⟨hsp, e4, e5⟩
        rw [cut_some this] at hk; exact hk
      · have : cutB p = none := by
          cases hc : cutB p with
          | none => rfl
          | some x =>
            obtain ⟨h1, h2⟩ := hval x.1 x.2 hc
            have := ((cut_iff (p := p) (m := x.1) (k := x.2)).1 hc).2.2
            rw [h2, e5] at this; cases this
        rw [cut_none this] at hk; exact hk
      · have : cutB p = none := by
          cases hc : cutB p with
          | none => rfl
          | some x =>
            obtain ⟨h1, h2⟩ := hval x.1 x.2 hc
            have := ((cut_iff (p := p) (m := x.1) (k := x.2)).1 hc).2.1
            rw [h1, e4] at this; cases this
        rw [cut_none this] at hk; exact hk
    · refine ⟨⟨rfl, ⟨by omega, by omega⟩, ?_⟩, by omega⟩
      rw [show (i + 1).toNat = i.toNat + 1 by omega, List.take_succ_eq_append_getElem hit]
      intro hm
      rcases List.mem_append.1 hm with hm | hm
      · exact ha hm
      · rw [List.mem_singleton] at hm
        rw [← hm] at e2; exact absurd e2 (by decide)
  · have e' : i = p.length := by simp at e; omega
    rw [e'] at ha
    simp only [Int.toNat_natCast, List.take_length] at ha
    have : cutB p = none := by unfold cutB; rw [if_neg ha]
    rw [cut_none this] at hk; exact hk
theorem cROf (hl : SR EncMt h lA ms) (hn : ms.length ≤ 1000000) (hp : p.length ≤ 4611686018427387904) (hk : K (.tuple #[.agg #[.string (mk (ofB ms p).1.s), .bool (ofB ms p).1.ship], .int .i64 ((ofB ms p).2 : Int)]) h) : CallH Try.prog id_ref11_Of [.slice lA ms.length lC, .string (mk p)] K h := by
  refine F_ref11_Of_ok (cRCut hp ⟨_, _, _, rfl, fun e => ?_, fun e => ?_⟩)
  · have : cutB p = none := by
      cases hc : cutB p with
      | none => rfl
      | some x => simp [cutV, hc] at e
    have ho : ofB ms p = (mt0, 20) := by simp [ofB, this]
    rw [ho] at hk
    exact hk
  · obtain ⟨m, k, hc⟩ : ∃ m k, cutB p = some (m, k) := by
      cases hc : cutB p with
      | none => simp [cutV, hc] at e
      | some x => exact ⟨x.1, x.2, rfl⟩
    rw [cut_some hc]
    unfold ofB at hk
    simp only [hc] at hk
    refine LoopP.ind (fun (z : Int × ByteArray × Bool × Unit) h' => h' = h ∧ (0 ≤ z.1 ∧ z.1 ≤ ms.length) ∧ ∀ j : Nat, (hj : j < ms.length) → (j : Int) < z.1 → ms[j].s ≠ m) (fun z _ => (ms.length - z.1).toNat) ?_ ⟨rfl, ⟨by decide, by show (0 : Int) ≤ _; omega⟩, fun j _ hj => by simp only at hj; omega⟩
    rintro ⟨i, u⟩ h1 ⟨rfl, ⟨i0, i1⟩, ha⟩
    dsimp only at i0 i1 ha ⊢
    refine ⟨fun e => ?_, fun e => ?_⟩
    · have e : i < ms.length := by simpa using e
      have hit : i.toNat < ms.length := by omega
      obtain ⟨b, o, hA, hr⟩ := hl.get hit
      refine ⟨b, o, ⟨hA, i0, e⟩, _, hr _ 0 1 rfl (by decide), fun e2 => ⟨b, o, ⟨hA, i0, e⟩, _, _, hr _ 0 2 rfl (by decide), ?_⟩, fun e2 => ?_⟩
      · have e2 := strEq_mk.1 e2
        have : ms.find? (fun x => x.s == m) = some ms[i.toNat] := by
          rw [List.find?_eq_some_iff_getElem]
          refine ⟨by simp [e2], i.toNat, hit, rfl, fun j hj => ?_⟩
          have := ha j (by omega) (by omega)
          simpa using this
        rw [this] at hk; exact hk
      · rw [strEq_mk'] at e2
        have e2 : ms[i.toNat].s ≠ m := by simpa using e2
        rw [wrap64 (n := i + 1) (by omega) (by omega)]
        refine ⟨⟨rfl, ⟨by omega, by omega⟩, fun j hj hji => ?_⟩, by omega⟩
        by_cases hji2 : (j : Int) < i
        · exact ha j hj hji2
        · have : j = i.toNat := by omega
          subst this; exact e2
    · have e : i = ms.length := by simp at e; omega
      have : ms.find? (fun x => x.s == m) = none := by
        rw [List.find?_eq_none]
        intro x hx
        obtain ⟨j, hj, rfl⟩ := List.getElem_of_mem hx
        have := ha j hj (by omega)
        simpa using this
      rw [this] at hk; exact hk
theorem cRShips (hl : SR EncMt h lA ms) (hn : ms.length ≤ 1000000) (hp : p.length ≤ 4611686018427387904) (hk : K (.bool (shipsB ms p)) h) : CallH Try.prog id_ref11_Ships [.slice lA ms.length lC, .string (mk p)] K h := by
  refine F_ref11_Ships_ok (cROf hl hn hp ⟨_, _, _, rfl, ?_⟩)
  unfold shipsB at hk
  have e : (((ofB ms p).2 : Int) == 0) = ((ofB ms p).2 == 0) := by cases (ofB ms p).2 <;> rfl
  rw [e]; exact hk
theorem right_dup {i j : Nat} (hi : i < ms.length) (hj : j < ms.length) (hne : i ≠ j) (e : ms[i].s = ms[j].s) : rightB ms = false := by
  have hnd : ¬ (ms.map (·.s)).Nodup := fun hnd => by
    have := (List.getElem_inj (h₀ := by rw [List.length_map]; exact hi) (h₁ := by rw [List.length_map]; exact hj) hnd (i := i) (j := j)).1 (by simpa using e)
    exact hne this
  simp [rightB, hnd]
theorem cRRight (hl : SR EncMt h lA ms) (hk : K (.bool (rightB ms)) h) : CallH Try.prog id_ref11_Right [.slice lA ms.length lC] K h := by
  refine F_ref11_Right_ok ⟨fun e => ?_, fun e => ?_⟩
  · have : rightB ms = false := by
      simp only [Bool.or_eq_true, decide_eq_true_eq] at e
      cases hn : rightB ms with
      | false => rfl
      | true =>
        simp only [rightB, Bool.and_eq_true, decide_eq_true_eq] at hn
        omega
    rw [this] at hk; exact hk
  · simp only [Bool.or_eq_false_iff, decide_eq_false_iff_not] at e
    refine LoopP.ind (fun (z : Int × Unit) h' => h' = h ∧ (0 ≤ z.1 ∧ z.1 ≤ ms.length) ∧ (ms.take z.1.toNat).all (fun x => namedB x.s) = true ∧ ((ms.take z.1.toNat).map (·.s)).Nodup) (fun z _ => (ms.length - z.1).toNat) ?_ ⟨rfl, ⟨by decide, by show (0 : Int) ≤ _; omega⟩, by simp, by simp⟩
    rintro ⟨i, u⟩ h1 ⟨rfl, ⟨i0, i1⟩, ha, hd⟩
    replace i0 : 0 ≤ i := i0
    replace i1 : i ≤ ms.length := i1
    replace ha : (ms.take i.toNat).all (fun x => namedB x.s) = true := ha
    replace hd : ((ms.take i.toNat).map (·.s)).Nodup := hd
    dsimp only
    refine ⟨fun e => ?_, fun e => ?_⟩
    · have e : i < ms.length := by simpa using e
      have hit : i.toNat < ms.length := by omega
      obtain ⟨b, o, hA, hr⟩ := hl.get hit
      refine ⟨b, o, ⟨hA, i0, e⟩, _, hr _ 0 1 rfl (by decide), cRNamed ⟨_, rfl, fun e2 => ?_, fun e2 => ?_⟩⟩
      · have e2 : namedB ms[i.toNat].s = false := by simpa using e2
        have : rightB ms = false := by
          have : (ms.all fun x => namedB x.s) = false := by
            rw [List.all_eq_false]
            exact ⟨_, List.getElem_mem hit, by simp [e2]⟩
          simp [rightB, this]
        rw [this] at hk; exact hk
      · have e2 : namedB ms[i.toNat].s = true := by simpa using e2
        refine LoopP.ind (fun (z : Int × Unit) h' => h' = h1 ∧ (0 ≤ z.1 ∧ z.1 ≤ i) ∧ ∀ j : Nat, (hj : j < ms.length) → (j : Int) < z.1 → ms[j].s ≠ ms[i.toNat].s) (fun z _ => (i - z.1).toNat) ?_ ⟨rfl, ⟨by decide, i0⟩, fun j _ hj => by simp only at hj; omega⟩
        rintro ⟨k, u⟩ h2 ⟨rfl, ⟨k0, k1⟩, hb⟩
        dsimp only at k0 k1 hb ⊢
        refine ⟨fun e3 => ?_, fun e3 => ?_⟩
        · have e3 : k < i := by simpa using e3
          have hkt : k.toNat < ms.length := by omega
          obtain ⟨b', o', hA', hr'⟩ := hl.get hkt
          refine ⟨b', o', ⟨hA', k0, by omega⟩, _, hr' _ 0 1 rfl (by decide), b, o, ⟨hA, i0, e⟩, _, hr _ 0 1 rfl (by decide), fun e4 => ?_, fun e4 => ?_⟩
          · rw [right_dup hkt hit (by omega) (strEq_mk.1 e4)] at hk; exact hk
          · rw [strEq_mk'] at e4
            have e4 : ms[k.toNat].s ≠ ms[i.toNat].s := by simpa using e4
            rw [wrap64 (n := k + 1) (by omega) (by omega)]
            refine ⟨⟨rfl, ⟨by omega, by omega⟩, fun j hj hji => ?_⟩, by omega⟩
            by_cases hji2 : (j : Int) < k
            · exact hb j hj hji2
            · have : j = k.toNat := by omega
              subst this; exact e4
        · have e3 : k = i := by simp at e3; omega
          rw [e3] at hb
          rw [wrap64 (n := i + 1) (by omega) (by omega)]
          refine ⟨⟨rfl, ⟨by omega, by omega⟩, ?_, ?_⟩, by omega⟩
          · rw [show (i + 1).toNat = i.toNat + 1 by omega, List.take_succ_eq_append_getElem hit, List.all_append, ha]; simp [e2]
          · rw [show (i + 1).toNat = i.toNat + 1 by omega, List.take_succ_eq_append_getElem hit, List.map_append, List.nodup_append]
            refine ⟨hd, by simp, fun a ha' b hb' => ?_⟩
            obtain ⟨x, hx, rfl⟩ := List.mem_map.1 ha'
            obtain ⟨j, hj, rfl⟩ := List.getElem_of_mem hx
            rw [List.length_take] at hj
            simp at hb'; subst hb'
            simp only [List.getElem_take]
            exact hb j (by omega) (by omega)
    · have e' : i = ms.length := by simp at e; omega
      rw [e', Int.toNat_natCast, List.take_length] at ha hd
      have : rightB ms = true := by
        unfold rightB
        rw [ha]
        simp only [hd, decide_true, Bool.and_true]
        simp; omega
      rw [this] at hk; exact hk
end TL

namespace TL
open Go Go.Proofs
variable {B : List Nat} {h : PH} {K : Value → PH → Prop} {s p q k : List UInt8} {lA : Option Addr} {lC : Nat} {ms : List Mt}

def twoL : List Mt := [⟨[97, 112, 112], true⟩, ⟨[111, 112, 115], false⟩]
theorem cTwo (hk : ∀ b h', Buf EncMt T_api_Mount [b] h' (some ⟨b, 0, none⟩) 2 2 twoL → h.Sub h' → K (.slice (some ⟨b, 0, none⟩) 2 2) h') : CallH Try.prog id_law11_two [] K h := by
  refine F_law11_two_ok (nwL (cs := [.string (⟨#[97, 112, 112]⟩ : ByteArray), .bool true, .string (⟨#[111, 112, 115]⟩ : ByteArray), .bool false]) fun b h1 hb0 hb1 c1 => ?_)
  exact hk b h1 ⟨rfl, .inr ⟨b, [], rfl, rfl, hb1, rfl, by decide⟩⟩ c1.sub0
theorem eCut {r : List UInt8 × List UInt8 × Bool} (hs : p.length ≤ 4611686018427387904) (e : cutV p = r) (hk : K (.tuple #[.string (mk r.1), .string (mk r.2.1), .bool r.2.2]) h) : CallH Try.prog id_path_Cut [.string (mk p)] K h :=
  cCut hs (by rw [e]; exact hk)
theorem eJoin {m : List UInt8} {r : List UInt8 × Bool} (hs : m.length ≤ 4611686018427387904) (e : joinV m k = r) (hk : K (.tuple #[.string (mk r.1), .bool r.2]) h) : CallH Try.prog id_path_Join [.string (mk m), .string (mk k)] K h :=
  cJoin hs (by rw [e]; exact hk)
theorem eOf {r : Mt × Nat} (hl : SR EncMt h lA ms) (hn : ms.length ≤ 1000000) (hp : p.length ≤ 4611686018427387904) (e : ofB ms p = r) (hk : ∀ h', h.Sub h' → K (.tuple #[.agg #[.string (mk r.1.s), .bool r.1.ship], .int .i64 (r.2 : Int)]) h') : CallH Try.prog id_path_Of [.slice lA ms.length lC, .string (mk p)] K h :=
  cOf hl hn hp (by rw [e]; exact hk)
theorem eShips {r : Bool} (hl : SR EncMt h lA ms) (hn : ms.length ≤ 1000000) (hp : p.length ≤ 4611686018427387904) (e : shipsB ms p = r) (hk : ∀ h', h.Sub h' → K (.bool r) h') : CallH Try.prog id_path_Ships [.slice lA ms.length lC, .string (mk p)] K h :=
  cShips hl hn hp (by rw [e]; exact hk)
theorem eRight {r : Bool} (hl : SR EncMt h lA ms) (hc : ms.length ≤ lC) (hn : ms.length ≤ 1000000) (hs : ∀ x ∈ ms, x.s.length ≤ 1000000) (e : rightB ms = r) (hk : ∀ h', h.Sub h' → K (.bool r) h') : CallH Try.prog id_path_Right [.slice lA ms.length lC] K h :=
  cRight hl hc hn hs (by rw [e]; exact hk)
theorem cWakes (hk : ∀ h', h.Sub h' → K (.bool true) h') : CallH Try.prog id_law11_wakes [] K h := by
  refine F_law11_wakes_ok (eCut (p := [97, 112, 112, 47, 100, 98]) (r := ([97, 112, 112], [100, 98], true)) (by decide) (by kernel_rfl) ⟨_, _, _, rfl, ?_⟩)
  refine eJoin (m := [97, 112, 112]) (k := [100, 98]) (r := ([97, 112, 112, 47, 100, 98], true)) (by decide) (by kernel_rfl) ⟨_, _, rfl, fun _ => ?_, fun e => absurd e (by decide)⟩
  refine cTwo fun b h1 b1 s1 => ⟨_, _, _, rfl, eShips (p := [97, 112, 112, 47, 100, 98]) (ms := twoL) (r := true) b1.sr (by decide) (by decide) (by kernel_rfl) fun h2 s2 => ⟨_, rfl, fun _ => ?_, nofun⟩⟩
  refine cTwo fun b h3 b3 s3 => ⟨_, _, _, rfl, eShips (p := [111, 112, 115, 47, 107]) (ms := twoL) (r := false) b3.sr (by decide) (by decide) (by kernel_rfl) fun h4 s4 => ⟨_, rfl, hk h4 (((s1.tr s2).tr s3).tr s4)⟩⟩
theorem wk {h1 : PH} (s : h.Sub h1) (hk : ∀ h', h.Sub h' → K (.bool true) h') : CallH Try.prog id_law11_wakes [] (fun v h2 => ∃ t : Bool, v = .bool t ∧ K (.bool t) h2) h1 :=
  cWakes fun h' s' => ⟨_, rfl, hk h' (s.tr s')⟩
theorem wk0 (hk : ∀ h', h.Sub h' → K (.bool true) h') : CallH Try.prog id_law11_wakes [] (fun v h2 => ∃ t : Bool, v = .bool t ∧ K (.bool t) h2) h := wk (fun _ _ e => e) hk
theorem cGreat1 (hl : SR EncMt h lA ms) (hk : ∀ b, (b = false → ms.length ≤ 100 ∧ ∀ x ∈ ms, x.s.length ≤ 1000) → K (.bool b) h) : CallH Try.prog id_law11_Great [.slice lA ms.length lC] K h := by
  refine F_law11_Great_ok ⟨fun _ => hk true nofun, fun e => ?_⟩
  have hn : ms.length ≤ 100 := by simp at e; omega
  refine LoopP.ind (fun (z : Int × Unit) h' => h' = h ∧ (0 ≤ z.1 ∧ z.1 ≤ ms.length) ∧ ∀ j : Nat, (hj : j < ms.length) → (j : Int) < z.1 → ms[j].s.length ≤ 1000) (fun z _ => (ms.length - z.1).toNat) ?_ ⟨rfl, ⟨by decide, by show (0 : Int) ≤ _; omega⟩, fun j _ hj => by simp only at hj; omega⟩
  rintro ⟨i, u⟩ h1 ⟨rfl, ⟨i0, i1⟩, ha⟩
  dsimp only at i0 i1 ha ⊢
  refine ⟨fun e => ?_, fun e => hk _ fun _ => ⟨hn, fun x hx => ?_⟩⟩
  · have e : i < ms.length := by simpa using e
    have hit : i.toNat < ms.length := by omega
    obtain ⟨b, o, hA, hr⟩ := hl.get hit
    refine ⟨b, o, ⟨hA, i0, e⟩, _, hr _ 0 1 rfl (by decide), fun _ => hk true nofun, fun e2 => ?_⟩
    rw [size_mk] at e2
    have e2 : ms[i.toNat].s.length ≤ 1000 := by simp at e2; omega
    rw [wrap64 (n := i + 1) (by omega) (by omega)]
    refine ⟨⟨rfl, ⟨by omega, by omega⟩, fun j hj hji => ?_⟩, by omega⟩
    by_cases hji2 : (j : Int) < i
    · exact ha j hj hji2
    · have : j = i.toNat := by omega
      subst this; exact e2
  · have e : i = ms.length := by simp at e; omega
    obtain ⟨j, hj, rfl⟩ := List.getElem_of_mem hx
    exact ha j hj (by omega)

theorem PathCuts_den (hk : ∀ h', h.Sub h' → K (.bool true) h') : CallH Try.prog id_law11_PathCuts [.string (mk p), .string (mk k)] K h := by
  refine F_law11_PathCuts_ok ⟨fun _ => wk0 hk, fun e => ?_⟩
  simp only [Bool.or_eq_false_iff, decide_eq_false_iff_not, size_mk] at e
  refine cCut (by omega) ⟨_, _, _, rfl, cRCut (by omega) ⟨_, _, _, rfl, cJoin (by omega) ⟨_, _, rfl, ?_⟩⟩⟩
  refine ⟨fun z h' => h' = h ∧ z.1 = (namedB p && keyB k), ?_, ?_⟩
  · exact cRNamed ⟨_, rfl, fun e => cRKey ⟨_, rfl, rfl, by simp [e]⟩, fun e => ⟨rfl, by simp [e]⟩⟩
  · rintro ⟨_, u⟩ h1 ⟨rfl, rfl⟩
    refine ⟨fun z h' => h' = h1 ∧ z.1 = mk (joinV p k).1, ⟨fun e => ?_, fun e => ?_⟩, ?_⟩
    · have em : (⟨#[47]⟩ : ByteArray) = mk [47] := rfl
      rw [em, mk_append, mk_append, size_mk, size_mk, size_mk, size_mk]
      refine ⟨by simp; omega, by simp; omega, rfl, ?_⟩
      have e : (namedB p && keyB k) = true := e
      simp [joinV, e]
    · have e : (namedB p && keyB k) = false := e
      refine ⟨rfl, ?_⟩
      simp only [joinV, e]; rfl
    · rintro ⟨_, u⟩ h2 ⟨rfl, rfl⟩
      refine ⟨fun _ => wk0 hk, fun e => ?_⟩
      have e2 : (joinV p k).2 = (namedB p && keyB k) := by unfold joinV; cases namedB p && keyB k <;> rfl
      rw [e2] at e
      simp [strEq_self] at e
theorem cutV_some (h : (cutV p).2.2 = true) : p = (cutV p).1 ++ 47 :: (cutV p).2.1 ∧ namedB (cutV p).1 = true ∧ keyB (cutV p).2.1 = true := by
  cases hc : cutB p with
  | none => rw [cut_none hc] at h; cases h
  | some x =>
    rw [cut_some (m := x.1) (k := x.2) hc]
    exact (cut_iff (m := x.1) (k := x.2)).1 hc
theorem cutV_none (h : (cutV p).2.2 = false) : cutV p = ([], [], false) := by
  cases hc : cutB p with
  | none => exact cut_none hc
  | some x => rw [cut_some (m := x.1) (k := x.2) hc] at h; cases h
theorem PathBack_den (hk : ∀ h', h.Sub h' → K (.bool true) h') : CallH Try.prog id_law11_PathBack [.string (mk p), .string (mk k)] K h := by
  refine F_law11_PathBack_ok ⟨fun _ => wk0 hk, fun e => ?_⟩
  simp only [Bool.or_eq_false_iff, decide_eq_false_iff_not, size_mk] at e
  refine cCut (by omega) ⟨_, _, _, rfl, fun _ h' => h' = h, ⟨fun e1 => ?_, fun e1 => ?_⟩, ?_⟩
  · obtain ⟨h1, h2, h3⟩ := cutV_some e1
    have l1 := named_len h2
    have l2 := key_len h3
    have hj : joinV (cutV p).1 (cutV p).2.1 = (p, true) := by unfold joinV; rw [h2, h3]; simp [← h1]
    refine eJoin (by omega) hj ⟨_, _, rfl, fun e => ?_, fun _ => rfl⟩
    have := congrArg List.length h1
    simp at this
    rw [size_mk] at e
    simp [strEq_self] at e; omega
  · have := cutV_none e1
    rw [this]
    exact ⟨fun e => absurd e (by decide), fun _ => rfl⟩
  · rintro u h1 rfl
    refine cJoin (by omega) ⟨_, _, rfl, fun e2 => ?_, fun e2 => ?_⟩
    · have : joinV p k = ([], false) := by
        unfold joinV at e2 ⊢; split
        · rename_i h; rw [if_pos h] at e2; cases e2
        · rfl
      rw [this]
      exact ⟨fun _ => wk0 hk, fun e => absurd e (by decide)⟩
    · have hb : (namedB p && keyB k) = true := by
        unfold joinV at e2
        cases hb : namedB p && keyB k with
        | true => rfl
        | false => rw [hb] at e2; simp at e2
      have hj : joinV p k = (p ++ 47 :: k, true) := by unfold joinV; rw [hb]; rfl
      rw [hj]
      simp only [Bool.and_eq_true] at hb
      have hc : cutV (p ++ 47 :: k) = (p, k, true) := cut_some (cut_iff.2 ⟨rfl, hb.1, hb.2⟩)
      refine eCut (by simp; omega) hc ⟨_, _, _, rfl, fun _ => wk0 hk, fun e => ?_⟩
      simp [strEq_self] at e

/-! ### What lies between -/
theorem le_pre : ∀ {m a b c : List UInt8}, (Op.bytesLess (m ++ a) c || decide ((m ++ a) = c)) = true → (Op.bytesLess c (m ++ b) || decide (c = (m ++ b))) = true → ∃ d, c = m ++ d
  | [], _, _, c, _, _ => ⟨c, rfl⟩
  | x :: m, a, b, [], h1, _ => by simp [Op.bytesLess] at h1
  | x :: m, a, b, y :: c, h1, h2 => by
    have hxy : x = y := by
      simp only [List.cons_append, Op.bytesLess, Bool.or_eq_true, Bool.and_eq_true, decide_eq_true_eq, beq_iff_eq, List.cons.injEq] at h1 h2
      have a1 : x < y ∨ x = y := by
        rcases h1 with (h | h) | h
        · exact .inl h
        · exact .inr h.1
        · exact .inr h.1
      have a2 : y < x ∨ y = x := by
        rcases h2 with (h | h) | h
        · exact .inl h
        · exact .inr h.1
        · exact .inr h.1
      rcases a1 with a1 | a1
      · rcases a2 with a2 | a2
        · rw [UInt8.lt_iff_toNat_lt] at a1 a2; omega
        · exact a2.symm
      · exact a1
    subst hxy
    have hlt : ¬ x < x := fun h => by rw [UInt8.lt_iff_toNat_lt] at h; omega
    simp only [List.cons_append, Op.bytesLess, hlt, decide_false, Bool.false_or, beq_self_eq_true, Bool.true_and, List.cons.injEq, true_and] at h1 h2
    obtain ⟨d, rfl⟩ := le_pre h1 h2
    exact ⟨d, rfl⟩
theorem between {m ka kb mc kc : List UInt8} (hm : (47 : UInt8) ∉ m) (hmc : (47 : UInt8) ∉ mc)
    (h1 : (strLt (mk (m ++ 47 :: ka)) (mk (mc ++ 47 :: kc)) || strEq (mk (m ++ 47 :: ka)) (mk (mc ++ 47 :: kc))) = true) (h2 : (strLt (mk (mc ++ 47 :: kc)) (mk (m ++ 47 :: kb)) || strEq (mk (mc ++ 47 :: kc)) (mk (m ++ 47 :: kb))) = true) : mc = m := by
  rw [strEq_mk'] at h1 h2
  unfold strLt at h1 h2
  simp only [bys_mk] at h1 h2
  have e : ∀ k, m ++ 47 :: k = (m ++ [47]) ++ k := fun k => by simp
  rw [e ka] at h1
  rw [e kb] at h2
  obtain ⟨d, hd⟩ := le_pre h1 h2
  rw [← e d] at hd
  have t1 := take_of (k := kc) hmc
  have t2 := take_of (k := d) hm
  rw [hd, t2] at t1
  exact t1.symm
theorem PathSides_den {a b c : List UInt8} (hk : ∀ h', h.Sub h' → K (.bool true) h') : CallH Try.prog id_law11_PathSides [.string (mk a), .string (mk b), .string (mk c)] K h := by
  refine F_law11_PathSides_ok ⟨fun _ => wk0 hk, fun e => ?_⟩
  simp only [Bool.or_eq_false_iff, decide_eq_false_iff_not, size_mk] at e
  refine cCut (by omega) ⟨_, _, _, rfl, cCut (by omega) ⟨_, _, _, rfl, cCut (by omega) ⟨_, _, _, rfl, fun e1 => ?_, fun _ => wk0 hk⟩⟩⟩
  rw [strEq_mk'] at e1
  simp only [Bool.or_eq_false_iff, Bool.not_eq_false', decide_eq_true_eq] at e1
  obtain ⟨⟨⟨ea, eb⟩, ec⟩, em⟩ := e1
  obtain ⟨a1, a2, _⟩ := cutV_some ea
  obtain ⟨b1, b2, _⟩ := cutV_some eb
  obtain ⟨c1, c2, _⟩ := cutV_some ec
  refine ⟨fun _ => ⟨fun _ => wk0 hk, fun e2 => ⟨fun _ => wk0 hk, fun e3 => ?_⟩⟩, fun e2 => ⟨fun _ => wk0 hk, fun e3 => ?_⟩⟩
  · exfalso
    simp only [Bool.not_eq_false', Bool.and_eq_true] at e2
    rw [strEq_mk'] at e3
    have e3 : (cutV c).1 ≠ (cutV a).1 := by simpa using e3
    refine e3 (between (ka := (cutV b).2.1) (kb := (cutV a).2.1) (kc := (cutV c).2.1) (named_no a2) (named_no c2) ?_ ?_)
    · rw [← c1, em, ← b1]; exact e2.1
    · rw [← c1, ← a1]; exact e2.2
  · exfalso
    simp only [Bool.and_eq_true] at e2
    rw [strEq_mk'] at e3
    have e3 : (cutV c).1 ≠ (cutV a).1 := by simpa using e3
    refine e3 (between (ka := (cutV a).2.1) (kb := (cutV b).2.1) (kc := (cutV c).2.1) (named_no a2) (named_no c2) ?_ ?_)
    · rw [← c1, ← a1]; exact e2.1
    · rw [← c1, em, ← b1]; exact e2.2
theorem PathMounts_den (hl : SR EncMt h lA ms) (hc : ms.length ≤ lC) (hk : ∀ h', h.Sub h' → K (.bool true) h') : CallH Try.prog id_law11_PathMounts [.slice lA ms.length lC, .string (mk p)] K h := by
  refine F_law11_PathMounts_ok (cGreat1 hl fun b hg => ⟨_, rfl, fun _ => wk0 hk, fun e => ?_⟩)
  simp only [Bool.or_eq_false_iff, decide_eq_false_iff_not, size_mk] at e
  obtain ⟨hn, hs⟩ := hg e.1
  refine cOf hl (by omega) (by omega) fun h1 s1 => ⟨_, _, _, rfl, cROf (hl.sub s1) (by omega) (by omega) ⟨_, _, _, rfl, fun _ => ?_, fun e => by simp [strEq_self] at e⟩⟩
  refine cRight (hl.sub s1) hc (by omega) (fun x hx => by have := hs x hx; omega) fun h2 s2 => ⟨_, rfl, cRRight (hl.sub (s1.tr s2)) ⟨_, rfl, fun _ => ?_, fun e => by simp at e⟩⟩
  exact cShips (hl.sub (s1.tr s2)) (by omega) (by omega) fun h3 s3 => ⟨_, rfl, cRShips (hl.sub ((s1.tr s2).tr s3)) (by omega) (by omega) ⟨_, rfl, fun _ => wk ((s1.tr s2).tr s3) hk, fun e => by simp at e⟩⟩

/-! ### Mounts turned -/
theorem right_rev (h : rightB ms = true) : rightB ms.reverse = true := by
  simp only [rightB, Bool.and_eq_true, decide_eq_true_eq] at h ⊢
  refine ⟨by simpa using h.1, by simpa using h.2.1, ?_⟩
  rw [List.map_reverse]
  exact List.pairwise_reverse.2 (h.2.2.imp fun h e => h e.symm)
theorem find_same {m : List UInt8} {l l' : List Mt} (hp : ∀ x, x ∈ l ↔ x ∈ l') (hd : ∀ x ∈ l, ∀ y ∈ l, x.s = y.s → x = y) : l.find? (fun x => x.s == m) = l'.find? (fun x => x.s == m) := by
  cases h1 : l.find? (fun x => x.s == m) with
  | none =>
    rw [List.find?_eq_none] at h1
    symm
    rw [List.find?_eq_none]
    exact fun x hx => h1 x ((hp x).2 hx)
  | some x =>
    have hx := List.mem_of_find?_eq_some h1
    have ex := List.find?_some h1
    cases h2 : l'.find? (fun x => x.s == m) with
    | none =>
      rw [List.find?_eq_none] at h2
      exact absurd ex (h2 x ((hp x).1 hx))
    | some y =>
      have hy := (hp y).2 (List.mem_of_find?_eq_some h2)
      have ey := List.find?_some h2
      have : x.s = y.s := by
        simp only [beq_iff_eq] at ex ey
        rw [ex, ey]
      rw [hd x hx y hy this]
theorem right_uniq (h : rightB ms = true) : ∀ x ∈ ms, ∀ y ∈ ms, x.s = y.s → x = y := by
  intro x hx y hy e
  obtain ⟨i, hi, rfl⟩ := List.getElem_of_mem hx
  obtain ⟨j, hj, rfl⟩ := List.getElem_of_mem hy
  by_cases hij : i = j
  · subst hij; rfl
  · rw [right_dup hi hj hij e] at h; cases h
theorem of_rev (h : rightB ms = true) : ofB ms.reverse p = ofB ms p := by
  unfold ofB
  cases cutB p with
  | none => rfl
  | some x =>
    simp only
    rw [find_same (l := ms.reverse) (l' := ms) (by simp) (by intro x hx y hy; exact right_uniq h x (by simpa using hx) y (by simpa using hy))]
theorem rev_ne (h : rightB ms = true) (h2 : 2 ≤ ms.length) : ms ≠ ms.reverse := by
  intro e
  have h0 : ms[0] = ms[ms.length - 1] := by
    have : ms[0]? = ms.reverse[0]? := by rw [← e]
    rw [List.getElem?_reverse (by omega)] at this
    rw [List.getElem?_eq_getElem (by omega), List.getElem?_eq_getElem (by omega)] at this
    have := Option.some.inj this
    simpa using this
  have := right_dup (ms := ms) (i := 0) (j := ms.length - 1) (by omega) (by omega) (by omega) (by rw [h0])
  rw [this] at h; cases h
theorem ships_same (h : (cutV p).1 = (cutV q).1) (h1 : (cutV p).2.2 = true) (h2 : (cutV q).2.2 = true) : shipsB ms p = shipsB ms q := by
  obtain ⟨a1, a2, a3⟩ := cutV_some h1
  obtain ⟨b1, b2, b3⟩ := cutV_some h2
  have c1 := cut_iff.2 ⟨a1, a2, a3⟩
  have c2 := cut_iff.2 ⟨b1, b2, b3⟩
  have : ofB ms p = ofB ms q := by
    unfold ofB
    rw [c1, c2]
    simp only [h]
  unfold shipsB; rw [this]
theorem ships_none (h : (cutV p).2.2 = false) : shipsB ms p = false := by
  have : cutB p = none := by
    cases hc : cutB p with
    | none => rfl
    | some x => rw [cut_some (m := x.1) (k := x.2) hc] at h; cases h
  simp [shipsB, ofB, this]
theorem PathFilter_den (hl : SR EncMt h lA ms) (hc : ms.length ≤ lC) (hk : ∀ h', h.Sub h' → K (.bool true) h') : CallH Try.prog id_law11_PathFilter [.slice lA ms.length lC, .string (mk p), .string (mk q)] K h := by
  refine F_law11_PathFilter_ok (cGreat1 hl fun b hg => ⟨_, rfl, fun _ => wk0 hk, fun e => ?_⟩)
  simp only [Bool.or_eq_false_iff, decide_eq_false_iff_not, size_mk] at e
  obtain ⟨hn, hs⟩ := hg e.1.1
  refine cCut (by omega) ⟨_, _, _, rfl, cCut (by omega) ⟨_, _, _, rfl, fun _ h' => h.Sub h', ⟨fun e1 => ?_, fun e1 => ⟨fun e2 => ?_, fun _ _ _ e => e⟩⟩, ?_⟩⟩
  · rw [strEq_mk'] at e1
    simp only [Bool.and_eq_true, decide_eq_true_eq] at e1
    have hsame := ships_same (ms := ms) e1.2 e1.1.1 e1.1.2
    refine cShips hl (by omega) (by omega) fun h1 s1 => ⟨_, rfl, cShips (hl.sub s1) (by omega) (by omega) fun h2 s2 => ⟨_, rfl, fun _ => ⟨fun e2 => ?_, fun _ => s1.tr s2⟩, fun e2 => ?_⟩⟩
    · rw [e1.1.1] at e2; cases e2
    · rw [hsame] at e2; simp at e2
  · refine cShips hl (by omega) (by omega) fun h1 s1 => ⟨_, rfl, fun e3 => ?_, fun _ => s1⟩
    rw [ships_none (by simpa using e2)] at e3; cases e3
  · rintro u h1 s1
    rw [wrap64 (n := (ms.length : Int) - 1) (by omega) (by omega)]
    refine LoopP.ind (fun (z : (Option Addr × Nat × Nat) × Int × Unit) h' => (-1 ≤ z.2.1 ∧ z.2.1 < ms.length) ∧ ∃ B', Buf EncMt T_api_Mount B' h' z.1.1 z.1.2.1 z.1.2.2 (ms.drop (z.2.1 + 1).toNat).reverse ∧ Chg [] B' h h') (fun z _ => (z.2.1 + 1).toNat) ?_
      ⟨⟨by show (-1 : Int) ≤ (ms.length : Int) - 1; omega, by show (ms.length : Int) - 1 < _; omega⟩, [], by
        show Buf EncMt T_api_Mount [] h1 none 0 0 (ms.drop (((ms.length : Int) - 1) + 1).toNat).reverse
        rw [show ((ms.length : Int) - 1 + 1).toNat = ms.length by omega, List.drop_length]
        exact Buf.nil _ _ _ _, ⟨fun b o _ e => s1 b o e, by simp⟩⟩
    rintro ⟨⟨tA, tN, tC⟩, i, u⟩ h2 ⟨⟨i0, i1⟩, B2, b2, c2⟩
    dsimp only at i0 i1 b2 ⊢
    refine ⟨fun e => ?_, fun e => ?_⟩
    · have e : 0 ≤ i := by simpa using e
      have hit : i.toNat < ms.length := by omega
      obtain ⟨b, o, hA, hr⟩ := (hl.sub c2.sub0).get hit
      have hlen := b2.1
      rw [List.length_reverse, List.length_drop] at hlen
      refine ⟨b, o, ⟨hA, e, i1⟩, _, _, hr _ 0 2 rfl (by decide), b2.append (new := [ms[i.toNat]]) rfl rfl rfl (by omega) fun a' c' B' h' hb' hc' _ => ?_⟩
      rw [wrap64 (n := i - 1) (by omega) (by omega)]
      refine ⟨⟨⟨by omega, by omega⟩, B', ?_, c2.trans hc'⟩, by omega⟩
      have : (ms.drop (i - 1 + 1).toNat).reverse = (ms.drop (i + 1).toNat).reverse ++ [ms[i.toNat]] := by
        rw [show (i - 1 + 1).toNat = i.toNat by omega, List.drop_eq_getElem_cons hit, List.reverse_cons, show (i + 1).toNat = i.toNat + 1 by omega]
      rw [this]; exact hb'
    · have e : i = -1 := by simp at e; omega
      subst e
      have b2 : Buf EncMt T_api_Mount B2 h2 tA tN tC ms.reverse := by simpa using b2
      have hlen := b2.1
      subst hlen
      have hl2 := hl.sub c2.sub0
      have hs' : ∀ x ∈ ms.reverse, x.s.length ≤ 1000000 := fun x hx => by have := hs x (by simpa using hx); omega
      refine cRight hl2 hc (by omega) (fun x hx => by have := hs x hx; omega) fun h3 s3 => ⟨_, rfl, fun _ => wk (c2.sub0.tr s3) hk, fun e => ?_⟩
      have hR : rightB ms = true := by simpa using e
      have s03 := c2.sub0.tr s3
      have b3 := b2.sub s3
      refine cOf (hl.sub s03) (by omega) (by omega) fun h4 s4 => ⟨_, _, _, rfl, eOf (ms := ms.reverse) (b3.sub s4).sr (by rw [List.length_reverse]; omega) (by omega) (of_rev hR) fun h5 s5 => ⟨_, _, _, rfl, ?_⟩⟩
      have b5 := (b3.sub s4).sub s5
      have s05 := (s03.tr s4).tr s5
      refine eRight (ms := ms.reverse) b5.sr b5.le (by rw [List.length_reverse]; omega) hs' (right_rev hR) fun h6 s6 => ⟨_, rfl, fun _ => ?_, fun e => by simp [strEq_self] at e⟩
      have s06 := s05.tr s6
      have hsr : shipsB ms.reverse p = shipsB ms p := by unfold shipsB; rw [of_rev hR]
      refine cShips (hl.sub s06) (by omega) (by omega) fun h7 s7 => ⟨_, rfl, eShips (ms := ms.reverse) ((b5.sub s6).sub s7).sr (by rw [List.length_reverse]; omega) (by omega) hsr fun h8 s8 => ⟨_, rfl, fun _ => ?_, fun e => by simp at e⟩⟩
      have s08 := (s06.tr s7).tr s8
      have hl8 := hl.sub s08
      refine cSame hl8 hl8 (by omega) ⟨_, rfl, fun _ => ⟨fun e2 => ?_, fun _ => wk s08 hk⟩, fun e => by simp at e⟩
      have hne := rev_ne hR (by simp at e2; omega)
      exact cSame hl8 (((b5.sub s6).sub s7).sub s8).sr (by omega) ⟨_, rfl, fun _ => wk s08 hk, fun e => by simp [hne] at e⟩
end TL

namespace TL
open Go Go.Proofs
variable {B : List Nat} {h : PH} {K : Value → PH → Prop} {s p q k : List UInt8} {lA : Option Addr} {lC : Nat} {ms : List Mt}

def EncS : Enc (List UInt8) where
  enc s := [.string (mk s)]
  k := 1
  len _ := rfl
  one p v hv := by
    rw [List.mem_singleton] at hv; rw [hv]; rfl
  pos := by decide
def ten : List (List UInt8) := [[97, 112, 112, 47], [47, 100, 98], [97, 112, 112, 47, 97, 47, 98], [65, 112, 112, 47, 120], [97, 112, 112], [], [47], [97, 98, 99, 100, 101, 102, 103, 104, 105, 47, 120], [97, 112, 112, 47, 48, 49, 50, 51, 52, 53, 54, 55, 56, 57, 48, 49, 50, 51, 52, 53, 54, 55, 56, 57, 48, 49, 50, 51, 52], [97, 112, 112, 47, 97, 0]]
theorem ten_ok : ten.all (fun s => !(cutV s).2.2 && decide (s.length ≤ 40)) = true := by kernel_rfl
def five : List Mt := [⟨[97], false⟩, ⟨[98], false⟩, ⟨[99], false⟩, ⟨[100], false⟩, ⟨[101], false⟩]
def appapp : List Mt := [⟨[97, 112, 112], false⟩, ⟨[97, 112, 112], true⟩]
theorem newMt {n : Nat} {KK : Nat → PH → Prop} (l : List Mt) {cells : List Value} (he : cells = EncMt.row l) (hn : n = l.length) (hk : ∀ b h', Buf EncMt T_api_Mount [b] h' (some ⟨b, 0, none⟩) n n l → h.Sub h' → KK b h') : newH h (.cells cells.toArray T_api_Mount (0, 0)) KK := by
  subst he hn
  refine nwL fun b h1 _ hb1 c1 => hk b h1 ⟨rfl, .inr ⟨b, [], rfl, rfl, by simpa using hb1, by simp, Nat.le_refl _⟩⟩ c1.sub0
theorem PathKnown_den (hk : ∀ h', h.Sub h' → K (.bool true) h') : CallH Try.prog id_law11_PathKnown [] K h := by
  refine F_law11_PathKnown_ok (newH_eq (o' := .cells (EncS.row ten ++ []).toArray 9 (0, 0)) (by kernel_rfl) (nwL fun bv h1 hb0 hb1 c1 => ?_))
  have hbuf : Buf EncS 9 [bv] h1 (some ⟨bv, 0, none⟩) 10 10 ten := ⟨rfl, .inr ⟨bv, [], rfl, rfl, hb1, rfl, by decide⟩⟩
  refine LoopP.ind (fun (z : Int × Unit) h' => h' = h1 ∧ 0 ≤ z.1 ∧ z.1 ≤ 10) (fun z _ => (10 - z.1).toNat) ?_ ⟨rfl, by decide, by decide⟩
  rintro ⟨i, u⟩ h2 ⟨rfl, i0, i1⟩
  dsimp only at i0 i1 ⊢
  refine ⟨fun e => ?_, fun _ => ?_⟩
  · have e : i < 10 := by simpa using e
    have hit : i.toNat < ten.length := by show i.toNat < 10; omega
    have hch := List.all_eq_true.1 ten_ok _ (List.getElem_mem hit)
    have e10 : i < ((10 : Nat) : Int) := e
    refine ⟨bv, 0, ⟨rfl, i0, e10⟩, _, hbuf.sr.getAt hit _ 0 1 rfl (by decide), ?_⟩
    generalize ten[i.toNat] = s at hch
    simp only [Bool.and_eq_true, decide_eq_true_eq, Bool.not_eq_true'] at hch
    refine cCut (by omega) ⟨_, _, _, rfl, fun e => ?_, fun _ => ?_⟩
    · rw [hch.1] at e; cases e
    · rw [wrap64 (n := i + 1) (by omega) (by omega)]
      exact ⟨⟨rfl, by omega, by omega⟩, by omega⟩
  have s2 := c1.sub0
  clear hbuf hb1 hb0 c1
  refine eCut (p := [97, 98, 99, 100, 101, 102, 103, 104, 47, 48, 49, 50, 51, 52, 53, 54, 55, 56, 57, 48, 49, 50, 51, 52, 53, 54, 55, 56, 57, 48, 49, 50, 51]) (r := ([97, 98, 99, 100, 101, 102, 103, 104], [48, 49, 50, 51, 52, 53, 54, 55, 56, 57, 48, 49, 50, 51, 52, 53, 54, 55, 56, 57, 48, 49, 50, 51], true)) (by decide) (by kernel_rfl) ⟨_, _, _, rfl, ?_⟩
  refine eJoin (m := [97, 112, 112]) (k := [97, 47, 98]) (r := ([], false)) (by decide) (by kernel_rfl) ⟨_, _, rfl, ?_⟩
  refine eJoin (m := [110, 105, 110, 101, 99, 104, 97, 114, 115]) (k := [120]) (r := ([], false)) (by decide) (by kernel_rfl) ⟨_, _, rfl, ?_⟩
  refine cTwo fun b3 h3 t3 s3 => ⟨_, _, _, rfl, eOf (ms := twoL) (p := [97, 112, 112, 47, 100, 98]) (r := (⟨[97, 112, 112], true⟩, 0)) t3.sr (by decide) (by decide) (by kernel_rfl) fun h4 s4 => ⟨_, _, _, rfl, ?_⟩⟩
  refine cTwo fun b5 h5 t5 s5 => ⟨_, _, _, rfl, eOf (ms := twoL) (p := [119, 101, 98, 47, 120]) (r := (mt0, 21)) t5.sr (by decide) (by decide) (by kernel_rfl) fun h6 s6 => ⟨_, _, _, rfl, ?_⟩⟩
  refine cTwo fun b7 h7 t7 s7 => ⟨_, _, _, rfl, eOf (ms := twoL) (p := [97, 112, 112]) (r := (mt0, 20)) t7.sr (by decide) (by decide) (by kernel_rfl) fun h8 s8 => ⟨_, _, _, rfl, ?_⟩⟩
  have s08 : h.Sub h8 := (((((s2.tr s3).tr s4).tr s5).tr s6).tr s7).tr s8
  refine newMt five (n := 5) rfl rfl fun b9 h9 f9 s9 => ?_
  refine ⟨fun z h' => z.1 = true ∧ h.Sub h', ?_, ?_⟩
  · refine cTwo fun b10 h10 t10 s10 => ⟨_, _, _, rfl, eRight (ms := twoL) (r := true) t10.sr (by decide) (by decide) (by decide) (by kernel_rfl) fun h11 s11 => ⟨_, rfl, fun _ => ?_, nofun⟩⟩
    refine eRight (ms := []) (lA := none) (r := false) (.inl rfl) (by decide) (by decide) (by simp) (by kernel_rfl) fun h12 s12 => ⟨_, rfl, fun _ => ?_, nofun⟩
    refine newMt appapp (n := 2) rfl rfl fun b13 h13 t13 s13 => ?_
    refine eRight (ms := appapp) (r := false) t13.sr (by decide) (by decide) (by decide) (by kernel_rfl) fun h14 s14 => ⟨_, rfl, fun _ => ?_, nofun⟩
    have s9_14 : h9.Sub h14 := (((s10.tr s11).tr s12).tr s13).tr s14
    have f14 := f9.sub s9_14
    refine eRight (ms := five) (r := false) f14.sr (by decide) (by decide) (by decide) (by kernel_rfl) fun h15 s15 => ⟨_, rfl, fun _ => by decide, fun _ => ?_, nofun⟩
    have f15 := f14.sub s15
    refine eRight (ms := five.take 4) (r := true) (f15.sr.slice (lo := 0) (hi := 4) (L := 0) rfl (by decide) (by decide)) (by decide) (by decide) (by decide) (by kernel_rfl) fun h16 s16 => ⟨_, rfl, fun _ => ?_, nofun⟩
    refine newMt [⟨[], false⟩] (n := 1) rfl rfl fun b17 h17 t17 s17 => ?_
    refine eRight (ms := [⟨[], false⟩]) (r := false) t17.sr (by decide) (by decide) (by decide) (by kernel_rfl) fun h18 s18 => ⟨_, rfl, rfl, ?_⟩
    exact (((((s08.tr s9).tr s9_14).tr s15).tr s16).tr s17).tr s18
  · rintro ⟨_, u⟩ h10 ⟨rfl, s10⟩
    refine ⟨fun _ => cSame (ms := []) (m2 := []) (.inl rfl) (.inl rfl) (by decide) ⟨_, rfl, fun _ => ?_, nofun⟩, fun e => ?_⟩
    · refine cTwo fun b11 h11 t11 s11 => ⟨_, _, _, rfl, cTwo fun b12 h12 t12 s12 => ⟨_, _, _, rfl, by decide, ?_⟩⟩
      refine cSame (ms := twoL) (m2 := twoL.take 1) (t11.sub s12).sr (t12.sr.slice (lo := 0) (hi := 1) (L := 0) rfl (by decide) (by decide)) (by decide) ⟨_, rfl, fun _ => wk ((s10.tr s11).tr s12) hk, fun e => absurd e (by decide)⟩
    · simp at e
      exact absurd e (by decide)
end TL
