/-
  Contracts of layer path and of the document's. No condition.
-/
import Derived.Test.YtgibhmeaikodjaaText
import Derived.Test.YtgibhmeaikodjaaLibD
namespace TL
open Go Go.Proofs
variable {B : List Nat} {h : PH} {K : Value → PH → Prop}

/-! ### Paths, plainly -/
def namedB (s : List UInt8) : Bool := (s.all fun b => decide (97 ≤ b.toNat) && decide (b.toNat ≤ 122)) && (decide (1 ≤ s.length) && decide (s.length ≤ 8))
def keyB (s : List UInt8) : Bool := (decide (1 ≤ s.length) && decide (s.length ≤ 24)) && (decide ((0 : UInt8) ∉ s) && decide ((47 : UInt8) ∉ s))
def cutB (p : List UInt8) : Option (List UInt8 × List UInt8) :=
  if (47 : UInt8) ∈ p then
    if namedB (p.takeWhile (· != 47)) && keyB (p.drop ((p.takeWhile (· != 47)).length + 1)) then some (p.takeWhile (· != 47), p.drop ((p.takeWhile (· != 47)).length + 1)) else none
  else none
def cutV (p : List UInt8) : List UInt8 × List UInt8 × Bool := match cutB p with
  | some (m, k) => (m, k, true)
  | none => ([], [], false)
theorem named_no {s : List UInt8} (h : namedB s = true) : (47 : UInt8) ∉ s := fun hm => by
  simp only [namedB, Bool.and_eq_true, List.all_eq_true, decide_eq_true_eq] at h
  have := (h.1 47 hm).1
  exact absurd this (by decide)
theorem take_of {m k : List UInt8} (h : (47 : UInt8) ∉ m) : (m ++ 47 :: k).takeWhile (· != 47) = m := by
  rw [List.takeWhile_append_of_pos]
  · simp
  · intro b hb
    have : b ≠ 47 := fun e => h (e ▸ hb)
    simpa using this
theorem cut_iff {p m k : List UInt8} : cutB p = some (m, k) ↔ p = m ++ 47 :: k ∧ namedB m = true ∧ keyB k = true := by
  unfold cutB
  constructor
  · intro h
    split at h
    · rename_i hp
      split at h
      · rename_i hb
        simp only [Bool.and_eq_true] at hb
        simp only [Option.some.injEq, Prod.mk.injEq] at h
        obtain ⟨h1, h2⟩ := h
        rw [h1] at h2 hb
        rw [h2] at hb
        refine ⟨?_, hb.1, hb.2⟩
        have hi : ¬ idxB p 47 < 0 := fun h => idxB_none.1 h hp
        obtain ⟨i, _, hlt, ht, hd⟩ := idxB_some hi
        have : p = p.take i ++ p.drop i := (List.take_append_drop i p).symm
        rw [ht, h1, hd] at this
        rw [this]
        congr 2
        rw [← h2, ← h1, ← ht, List.length_take, Nat.min_eq_left (by omega)]
      · cases h
    · cases h
  · rintro ⟨rfl, h1, h2⟩
    have ht := take_of (k := k) (named_no h1)
    rw [if_pos (by simp), ht]
    have hd : (m ++ 47 :: k).drop (m.length + 1) = k := by rw [← List.drop_drop, List.drop_left]; rfl
    rw [hd, h1, h2]; rfl
theorem cut_none {p : List UInt8} (h : cutB p = none) : cutV p = ([], [], false) := by simp [cutV, h]
theorem cut_some {p m k : List UInt8} (h : cutB p = some (m, k)) : cutV p = (m, k, true) := by simp [cutV, h]

/-! ### Contracts -/
variable {s p l m k : List UInt8}
theorem cNamed (hs : s.length ≤ 4611686018427387904) (hk : K (.bool (namedB s)) h) : CallH Try.prog id_path_named [.string (mk s)] K h := by
  refine F_path_named_ok (LoopP.ind (fun (z : Int × Unit) h' => h' = h ∧ (0 ≤ z.1 ∧ z.1 ≤ s.length) ∧ (s.take z.1.toNat).all (fun b => decide (97 ≤ b.toNat) && decide (b.toNat ≤ 122)) = true) (fun z _ => (s.length - z.1).toNat) ?_ ⟨rfl, ⟨by decide, by show (0 : Int) ≤ _; omega⟩, by simp⟩)
  rintro ⟨i, u⟩ h1 ⟨rfl, ⟨i0, i1⟩, ha⟩
  dsimp only at i0 i1 ha ⊢
  rw [size_mk]
  refine ⟨fun e => ?_, fun e => ?_⟩
  · have e : i < s.length := by simpa using e
    have hit : i.toNat < s.length := by omega
    have hb : byteAt (mk s) i = ((s[i.toNat]).toNat : Int) := by rw [byteAt_mk]; simp [List.getD, hit]
    rw [hb]
    refine ⟨⟨i0, e⟩, fun _ => ⟨i0, e⟩, fun e2 => ?_, fun e2 => ?_⟩
    · have : namedB s = false := by
        have hm := List.getElem_mem hit
        simp only [Bool.or_eq_true, decide_eq_true_eq] at e2
        cases hn : namedB s with
        | false => rfl
        | true =>
          simp only [namedB, Bool.and_eq_true, List.all_eq_true, decide_eq_true_eq] at hn
          have := hn.1 _ hm
          omega
      rw [this] at hk; exact hk
    · simp only [Bool.or_eq_false_iff, decide_eq_false_iff_not] at e2
      rw [wrap64 (n := i + 1) (by omega) (by omega)]
      refine ⟨⟨rfl, ⟨by omega, by omega⟩, ?_⟩, by omega⟩
      rw [show (i + 1).toNat = i.toNat + 1 by omega, List.take_succ_eq_append_getElem hit, List.all_append, ha]
      simp; omega
  · have e : i = s.length := by simp at e; omega
    rw [e] at ha
    simp only [Int.toNat_natCast, List.take_length] at ha
    have : namedB s = (decide ((s.length : Int) ≥ 1) && decide ((s.length : Int) ≤ 8)) := by
      unfold namedB; rw [ha]
      simp only [Bool.true_and]
      congr 1
      · simp; omega
      · simp; omega
    rw [← this]; exact hk
theorem cIndexByte {c : Nat} (hk : K (.int .i64 (idxB s (UInt8.ofNat c))) h) : CallH Try.prog id_internal_stringslite_IndexByte [.string (mk s), .int .u8 (c : Int)] K h :=
  F_internal_stringslite_IndexByte_ok (extH_of Try.func83 (by kernel_rfl) (by kernel_rfl) (by kernel_rfl) (e := Extern.BytealgIndexByte.indexByte) (by kernel_rfl) (fun _ => ro_indexByte) ⟨_, rfl, hk⟩)
theorem cIndexByte2 {c : Nat} (hk : K (.int .i64 (idxB s (UInt8.ofNat c))) h) : CallH Try.prog id_strings_IndexByte [.string (mk s), .int .u8 (c : Int)] K h :=
  F_strings_IndexByte_ok (cIndexByte ⟨_, rfl, hk⟩)
theorem cKey (hk : K (.bool (keyB s)) h) : CallH Try.prog id_path_key [.string (mk s)] K h := by
  refine F_path_key_ok ?_
  unfold F_path_key
  rw [size_mk]
  have hl : (decide ((s.length : Int) ≥ 1) && decide ((s.length : Int) ≤ 24)) = (decide (1 ≤ s.length) && decide (s.length ≤ 24)) := by
    congr 1
    · simp; omega
    · simp; omega
  rw [hl]
  unfold keyB at hk
  refine ⟨fun e => ?_, fun e => ?_⟩
  · rw [e, Bool.true_and] at hk
    refine cIndexByte2 (c := 0) ⟨_, rfl, fun e1 => ?_, fun e1 => ?_⟩
    · have e1 : (0 : UInt8) ∉ s := idxB_none.1 (by simpa using e1)
      refine cIndexByte2 (c := 47) ⟨_, rfl, ?_⟩
      have : decide (idxB s (UInt8.ofNat 47) < 0) = (decide ((0 : UInt8) ∉ s) && decide ((47 : UInt8) ∉ s)) := by
        simp only [e1, decide_true, Bool.true_and, not_false_eq_true]
        exact decide_eq_decide.2 idxB_none
      rw [this]; exact hk
    · have e1 : ¬ (0 : UInt8) ∉ s := fun h => by
        have := idxB_none.2 h
        simp at e1
        omega
      simp only [e1, decide_false, Bool.false_and] at hk
      exact hk
  · rw [e] at hk; exact hk
theorem cStrCut (hs : s.length ≤ 4611686018427387904) (hk : ((47 : UInt8) ∉ s → K (.tuple #[.string (mk s), .string (mk []), .bool false]) h)) (hk2 : (47 : UInt8) ∈ s → K (.tuple #[.string (mk (s.takeWhile (· != 47))), .string (mk (s.drop ((s.takeWhile (· != 47)).length + 1))), .bool true]) h) :
    CallH Try.prog id_strings_Cut [.string (mk s), .string (⟨#[47]⟩ : ByteArray)] K h := by
  have key : ∀ {K' : Value → PH → Prop}, K' (.int .i64 (idxB s 47)) h → CallH Try.prog id_internal_stringslite_Index [.string (mk s), .string (⟨#[47]⟩ : ByteArray)] K' h := by
    intro K' hk'
    refine F_internal_stringslite_Index_ok ⟨fun e => ?_, fun _ => ⟨fun _ => ⟨by decide, cIndexByte (c := 47) ⟨_, rfl, hk'⟩⟩, fun e => absurd e (by decide)⟩⟩
    have e1 : ((((⟨#[47]⟩ : ByteArray).size : Int) == (0 : Int)) || strEq (⟨#[47]⟩ : ByteArray) (mk s)) = strEq (mk [47]) (mk s) := by
      rw [show (((⟨#[47]⟩ : ByteArray).size : Int) == (0 : Int)) = false by decide, Bool.false_or]; rfl
    rw [e1, strEq_mk] at e
    rw [← e] at hk'; exact hk'
  refine F_strings_Cut_ok (F_internal_stringslite_Cut_ok (key ⟨_, rfl, fun e => ?_, fun e => ?_⟩))
  · have e : ¬ idxB s 47 < 0 := by simp at e; omega
    have hm : (47 : UInt8) ∈ s := by
      by_cases h : (47 : UInt8) ∈ s
      · exact h
      · exact absurd (idxB_none.2 h) e
    obtain ⟨i, hi, hlt, ht, hd⟩ := idxB_some e
    rw [hi, size_mk, show (((⟨#[47]⟩ : ByteArray).size : Nat) : Int) = 1 by decide, wrap64 (by omega) (by omega)]
    refine ⟨⟨by omega, by omega, by omega⟩, ⟨by omega, by omega, by omega⟩, _, _, _, rfl, ?_⟩
    have hlen : (s.takeWhile (· != 47)).length = i := by rw [← ht, List.length_take]; omega
    have := hk2 hm
    rw [hlen, ← ht] at this
    rw [subS_mk, subS_mk]
    have e1 : ((s.drop (0 : Int).toNat).take ((i : Int).toNat - (0 : Int).toNat)) = s.take i := by simp
    have e2 : ((s.drop ((i : Int) + 1).toNat).take ((s.length : Int).toNat - ((i : Int) + 1).toNat)) = s.drop (i + 1) := by
      rw [show ((i : Int) + 1).toNat = i + 1 by omega, List.take_of_length_le (by rw [List.length_drop]; omega)]
    rw [e1, e2]; exact this
  · have e : idxB s 47 < 0 := by simp at e; omega
    exact ⟨_, _, _, rfl, hk (idxB_none.1 e)⟩
theorem cCut (hs : p.length ≤ 4611686018427387904) (hk : K (.tuple #[.string (mk (cutV p).1), .string (mk (cutV p).2.1), .bool (cutV p).2.2]) h) : CallH Try.prog id_path_Cut [.string (mk p)] K h := by
  refine F_path_Cut_ok (cStrCut hs (fun hm => ⟨_, _, _, rfl, fun e => absurd e (by decide), fun _ => ?_⟩) fun hm => ⟨_, _, _, rfl, fun _ => ?_, fun e => absurd e (by decide)⟩)
  · have : cutB p = none := by unfold cutB; rw [if_neg hm]
    rw [cut_none this] at hk; exact hk
  · have hlen : (p.takeWhile (· != 47)).length ≤ p.length := (List.takeWhile_sublist _).length_le
    refine cNamed (by omega) ⟨_, rfl, fun e => cKey ⟨_, rfl, fun e2 => ?_, fun e2 => ?_⟩, fun e => ?_⟩
    · have : cutB p = none := by unfold cutB; rw [if_pos hm, if_neg]; simp at e e2 ⊢; simp [e2]
      rw [cut_none this] at hk; exact hk
    · have : cutB p = some (p.takeWhile (· != 47), p.drop ((p.takeWhile (· != 47)).length + 1)) := by unfold cutB; rw [if_pos hm, if_pos]; simp at e e2 ⊢; exact ⟨e, e2⟩
      rw [cut_some this] at hk; exact hk
    · have : cutB p = none := by unfold cutB; rw [if_pos hm, if_neg]; simp at e ⊢; simp [e]
      rw [cut_none this] at hk; exact hk
def joinV (m k : List UInt8) : List UInt8 × Bool := if namedB m && keyB k then (m ++ 47 :: k, true) else ([], false)
theorem key_len (h : keyB k = true) : k.length ≤ 24 := by
  simp only [keyB, Bool.and_eq_true, decide_eq_true_eq] at h; exact h.1.2
theorem named_len (h : namedB m = true) : m.length ≤ 8 := by
  simp only [namedB, Bool.and_eq_true, decide_eq_true_eq] at h; exact h.2.2
/-! ### Mounts -/
structure Mt where
  s : List UInt8
  ship : Bool
  deriving DecidableEq
def EncMt : Enc Mt where
  enc x := [.string (mk x.s), .bool x.ship]
  k := 2
  len _ := rfl
  one p v hv := by
    simp only [List.mem_cons, List.not_mem_nil, or_false] at hv
    rcases hv with rfl | rfl <;> rfl
  pos := by decide
def mt0 : Mt := ⟨[], false⟩
def ofB (l : List Mt) (p : List UInt8) : Mt × Nat := match cutB p with
  | none => (mt0, 20)
  | some (m, _) => match l.find? (fun x => x.s == m) with
    | none => (mt0, 21)
    | some x => (x, 0)
def shipsB (l : List Mt) (p : List UInt8) : Bool := (ofB l p).2 == 0 && (ofB l p).1.ship
def rightB (l : List Mt) : Bool := (decide (1 ≤ l.length) && decide (l.length ≤ 4)) && ((l.all fun x => namedB x.s) && decide (l.map (·.s)).Nodup)
variable {lA : Option Addr} {lC : Nat} {ms : List Mt}
theorem cIndexFunc {f : Value} (hf : one1 f = true) (hl : SR EncMt h lA ms) (hn : ms.length ≤ 1000000) (q : Mt → Bool) (hq : ∀ (x : Mt) (K' : Value → PH → Prop), K' (.bool (q x)) h → CallV Try.prog f [.agg #[.string (mk x.s), .bool x.ship]] K' h)
    (hk : K (.int .i64 (match ms.findIdx? q with
      | some i => (i : Int)
      | none => -1)) h) : CallH Try.prog id_slices_IndexFunc_api_Mount_api_Mount [.slice lA ms.length lC, f] K h := by
  refine F_slices_IndexFunc_api_Mount_api_Mount_ok hf (LoopP.ind (fun (z : Int × Unit) h' => h' = h ∧ (0 ≤ z.1 ∧ z.1 ≤ ms.length) ∧ ∀ j : Nat, (hj : j < ms.length) → (j : Int) < z.1 → q ms[j] = false) (fun z _ => (ms.length - z.1).toNat) ?_ ⟨rfl, ⟨by decide, by show (0 : Int) ≤ _; omega⟩, fun j _ hj => by simp only at hj; omega⟩)
  rintro ⟨i, u⟩ h1 ⟨rfl, ⟨i0, i1⟩, ha⟩
  dsimp only at i0 i1 ha ⊢
  refine ⟨fun e => ?_, fun e => ?_⟩
  · have e : i < ms.length := by simpa using e
    have hit : i.toNat < ms.length := by omega
    obtain ⟨b, o, hA, hr⟩ := hl.get hit
    refine ⟨b, o, ⟨hA, i0, e⟩, _, _, hr _ 0 2 rfl (by decide), hq ms[i.toNat] _ ⟨_, rfl, fun e2 => ?_, fun e2 => ?_⟩⟩
    · have : ms.findIdx? q = some i.toNat := by
        rw [List.findIdx?_eq_some_iff_getElem]
        refine ⟨hit, e2, fun j hj => ?_⟩
        have := ha j (by omega) (by omega)
        simpa using this
      rw [this] at hk
      simp only at hk
      rw [Int.toNat_of_nonneg i0] at hk; exact hk
    · rw [wrap64 (n := i + 1) (by omega) (by omega)]
      refine ⟨⟨rfl, ⟨by omega, by omega⟩, fun j hj hji => ?_⟩, by omega⟩
      by_cases hji2 : (j : Int) < i
      · exact ha j hj hji2
      · have : j = i.toNat := by omega
        subst this; exact e2
  · have e : i = ms.length := by simp at e; omega
    have : ms.findIdx? q = none := by
      rw [List.findIdx?_eq_none_iff]
      intro x hx
      obtain ⟨j, hj, rfl⟩ := List.getElem_of_mem hx
      exact ha j hj (by omega)
    rw [this] at hk; exact hk
theorem cOf (hl : SR EncMt h lA ms) (hn : ms.length ≤ 1000000) (hp : p.length ≤ 4611686018427387904) (hk : ∀ h', h.Sub h' → K (.tuple #[.agg #[.string (mk (ofB ms p).1.s), .bool (ofB ms p).1.ship], .int .i64 ((ofB ms p).2 : Int)]) h') : CallH Try.prog id_path_Of [.slice lA ms.length lC, .string (mk p)] K h := by
  refine F_path_Of_ok (cCut hp ⟨_, _, _, rfl, nwL (cs := [.string (⟨#[]⟩ : ByteArray)]) fun b h1 hb0 hb1 c1 => stL (cs' := [.string (mk (cutV p).1)]) hb1 rfl rfl fun h2 hb2 c2 => ⟨fun e => ?_, fun e => ?_⟩⟩)
  · have hs : h.Sub h2 := (c1.trans c2).sub0
    have : cutB p = none := by
      cases hc : cutB p with
      | none => rfl
      | some x => simp [cutV, hc] at e
    have ho : ofB ms p = (mt0, 20) := by simp [ofB, this]
    rw [ho] at hk
    exact hk h2 hs
  · have hs : h.Sub h2 := (c1.trans c2).sub0
    obtain ⟨m, k, hc⟩ : ∃ m k, cutB p = some (m, k) := by
      cases hc : cutB p with
      | none => simp [cutV, hc] at e
      | some x => exact ⟨x.1, x.2, rfl⟩
    rw [cut_some hc] at hb2
    have hl2 := hl.sub hs
    refine cIndexFunc rfl hl2 hn (fun x => x.s == m) (fun x K' hk' => ⟨by kernel_rfl, ?_⟩) ?_
    · refine F_path_Of_1_ok ⟨_, rdsL hb2 rfl rfl, ?_⟩
      rw [strEq_mk']
      have : decide (x.s = m) = (x.s == m) := by by_cases h : x.s = m <;> simp [h]
      rw [this]; exact hk'
    · unfold ofB at hk
      simp only [hc] at hk
      cases hf : ms.findIdx? (fun x => x.s == m) with
      | none =>
        have : ms.find? (fun x => x.s == m) = none := by
          rw [List.find?_eq_none]
          rw [List.findIdx?_eq_none_iff] at hf
          intro x hx; rw [hf x hx]; simp
        rw [this] at hk
        exact ⟨_, rfl, fun _ => hk h2 hs, fun e => absurd e (by decide)⟩
      | some i =>
        rw [List.findIdx?_eq_some_iff_getElem] at hf
        obtain ⟨hi, h1, h2'⟩ := hf
        have : ms.find? (fun x => x.s == m) = some ms[i] := by
          rw [List.find?_eq_some_iff_getElem]
          exact ⟨h1, i, hi, rfl, fun j hj => by simpa using h2' j hj⟩
        rw [this] at hk
        obtain ⟨b, o, hA, hr⟩ := hl2.get hi
        exact ⟨_, rfl, fun e => by simp at e; omega, fun _ => ⟨b, o, ⟨hA, by simp only; omega, by simp only; omega⟩, _, _, hr _ 0 2 rfl (by decide), hk h2 hs⟩⟩
theorem cShips (hl : SR EncMt h lA ms) (hn : ms.length ≤ 1000000) (hp : p.length ≤ 4611686018427387904) (hk : ∀ h', h.Sub h' → K (.bool (shipsB ms p)) h') : CallH Try.prog id_path_Ships [.slice lA ms.length lC, .string (mk p)] K h := by
  refine F_path_Ships_ok (cOf hl hn hp fun h' s' => ⟨_, _, _, rfl, ?_⟩)
  have := hk h' s'
  unfold shipsB at this
  have e : (((ofB ms p).2 : Int) == 0) = ((ofB ms p).2 == 0) := by cases (ofB ms p).2 <;> rfl
  rw [e]; exact this
variable {q : List UInt8}

/-! ### The document's functions -/
theorem cRNamed (hk : K (.bool (namedB s)) h) : CallH Try.prog id_ref11_Named [.string (mk s)] K h := by
  refine F_ref11_Named_ok ?_
  unfold F_ref11_Named
  rw [size_mk]
  refine ⟨fun e => ?_, fun e => ?_⟩
  · have : namedB s = false := by
      simp only [Bool.or_eq_true, decide_eq_true_eq] at e
      cases hn : namedB s with
      | false => rfl
      | true =>
        simp only [namedB, Bool.and_eq_true, decide_eq_true_eq] at hn
        omega
    rw [this] at hk; exact hk
  · simp only [Bool.or_eq_false_iff, decide_eq_false_iff_not] at e
    refine LoopP.ind (fun (z : Int × Unit) h' => h' = h ∧ (0 ≤ z.1 ∧ z.1 ≤ s.length) ∧ (s.take z.1.toNat).all (fun b => decide (97 ≤ b.toNat) && decide (b.toNat ≤ 122)) = true) (fun z _ => (s.length - z.1).toNat) ?_ ⟨rfl, ⟨by decide, by show (0 : Int) ≤ _; omega⟩, by simp⟩
    rintro ⟨i, u⟩ h1 ⟨rfl, ⟨i0, i1⟩, ha⟩
    dsimp only at i0 i1 ha ⊢
    refine ⟨fun e => ?_, fun e => ?_⟩
    · have e : i < s.length := by simpa using e
      have hit : i.toNat < s.length := by omega
      have hb : byteAt (mk s) i = ((s[i.toNat]).toNat : Int) := by rw [byteAt_mk]; simp [List.getD, hit]
      rw [hb]
      refine ⟨⟨i0, e⟩, fun _ => ⟨i0, e⟩, fun e2 => ?_, fun e2 => ?_⟩
      · have : namedB s = false := by
          have hm := List.getElem_mem hit
          simp only [Bool.or_eq_true, decide_eq_true_eq] at e2
          cases hn : namedB s with
          | false => rfl
          | true =>
            simp only [namedB, Bool.and_eq_true, List.all_eq_true, decide_eq_true_eq] at hn
            have := hn.1 _ hm
            omega
        rw [this] at hk; exact hk
      · simp only [Bool.or_eq_false_iff, decide_eq_false_iff_not] at e2
        rw [wrap64 (n := i + 1) (by omega) (by omega)]
        refine ⟨⟨rfl, ⟨by omega, by omega⟩, ?_⟩, by omega⟩
        rw [show (i + 1).toNat = i.toNat + 1 by omega, List.take_succ_eq_append_getElem hit, List.all_append, ha]
        simp; omega
    · have e' : i = s.length := by simp at e; omega
      rw [e'] at ha
      simp only [Int.toNat_natCast, List.take_length] at ha
      have : namedB s = true := by
        unfold namedB; rw [ha]; simp; omega
      rw [this] at hk; exact hk
theorem cRKey (hk : K (.bool (keyB s)) h) : CallH Try.prog id_ref11_Key [.string (mk s)] K h := by
  refine F_ref11_Key_ok ?_
  unfold F_ref11_Key
  rw [size_mk]
  refine ⟨fun e => ?_, fun e => ?_⟩
  · have : keyB s = false := by
      simp only [Bool.or_eq_true, decide_eq_true_eq] at e
      cases hn : keyB s with
      | false => rfl
      | true =>
        simp only [keyB, Bool.and_eq_true, decide_eq_true_eq] at hn
        omega
    rw [this] at hk; exact hk
  · simp only [Bool.or_eq_false_iff, decide_eq_false_iff_not] at e
    refine LoopP.ind (fun (z : Int × Unit) h' => h' = h ∧ (0 ≤ z.1 ∧ z.1 ≤ s.length) ∧ (0 : UInt8) ∉ s.take z.1.toNat ∧ (47 : UInt8) ∉ s.take z.1.toNat) (fun z _ => (s.length - z.1).toNat) ?_ ⟨rfl, ⟨by decide, by show (0 : Int) ≤ _; omega⟩, by simp, by simp⟩
    rintro ⟨i, u⟩ h1 ⟨rfl, ⟨i0, i1⟩, ha, hb'⟩
    dsimp only at i0 i1 ha hb' ⊢
    refine ⟨fun e => ?_, fun e => ?_⟩
    · have e : i < s.length := by simpa using e
      have hit : i.toNat < s.length := by omega
      have hb : byteAt (mk s) i = ((s[i.toNat]).toNat : Int) := by rw [byteAt_mk]; simp [List.getD, hit]
      rw [hb]
      refine ⟨⟨i0, e⟩, fun _ => ⟨i0, e⟩, fun e2 => ?_, fun e2 => ?_⟩
      · have : keyB s = false := by
          have hm := List.getElem_mem hit
          simp only [Bool.or_eq_true, beq_iff_eq] at e2
          cases hn : keyB s with
          | false => rfl
          | true =>
            simp only [keyB, Bool.and_eq_true, decide_eq_true_eq] at hn
            exfalso
            rcases e2 with e2 | e2
            · exact hn.2.1 (by rw [show (0 : UInt8) = s[i.toNat] from UInt8.toNat_inj.1 (by show 0 = _; omega)]; exact hm)
            · exact hn.2.2 (by rw [show (47 : UInt8) = s[i.toNat] from UInt8.toNat_inj.1 (by show 47 = _; omega)]; exact hm)
        rw [this] at hk; exact hk
      · simp only [Bool.or_eq_false_iff, beq_eq_false_iff_ne] at e2
        rw [wrap64 (n := i + 1) (by omega) (by omega)]
        refine ⟨⟨rfl, ⟨by omega, by omega⟩, ?_, ?_⟩, by omega⟩
        · rw [show (i + 1).toNat = i.toNat + 1 by omega, List.take_succ_eq_append_getElem hit]
          intro hm
          rcases List.mem_append.1 hm with hm | hm
          · exact ha hm
          · rw [List.mem_singleton] at hm
            exact e2.1 (by rw [← hm]; rfl)
        · rw [show (i + 1).toNat = i.toNat + 1 by omega, List.take_succ_eq_append_getElem hit]
          intro hm
          rcases List.mem_append.1 hm with hm | hm
          · exact hb' hm
          · rw [List.mem_singleton] at hm
            exact e2.2 (by rw [← hm]; rfl)
    · have e' : i = s.length := by simp at e; omega
      rw [e'] at ha hb'
      simp only [Int.toNat_natCast, List.take_length] at ha hb'
      have : keyB s = true := by
        unfold keyB; simp [ha, hb']; omega
      rw [this] at hk; exact hk
theorem cRCut (hs : p.length ≤ 4611686018427387904) (hk : K (.tuple #[.string (mk (cutV p).1), .string (mk (cutV p).2.1), .bool (cutV p).2.2]) h) : CallH Try.prog id_ref11_Cut [.string (mk p)] K h := by
  refine F_ref11_Cut_ok (LoopP.ind (fun (z : Int × Unit) h' => h' = h ∧ (0 ≤ z.1 ∧ z.1 ≤ p.length) ∧ (47 : UInt8) ∉ p.take z.1.toNat) (fun z _ => (p.length - z.1).toNat) ?_ ⟨rfl, ⟨by decide, by show (0 : Int) ≤ _; omega⟩, by simp⟩)
  rintro ⟨i, u⟩ h1 ⟨rfl, ⟨i0, i1⟩, ha⟩
  dsimp only at i0 i1 ha ⊢
  rw [size_mk]
  refine ⟨fun e => ?_, fun e => ?_⟩
  · have e : i < p.length := by simpa using e
    have hit : i.toNat < p.length := by omega
    have hb : byteAt (mk p) i = ((p[i.toNat]).toNat : Int) := by rw [byteAt_mk]; simp [List.getD, hit]
    rw [hb, wrap64 (n := i + 1) (by omega) (by omega)]
    refine ⟨⟨i0, e⟩, fun e2 => ⟨⟨by omega, by omega, by omega⟩, ?_⟩, fun e2 => ?_⟩
    · have hc : p[i.toNat] = 47 := UInt8.toNat_inj.1 (by simp only [beq_iff_eq] at e2; show _ = 47; omega)
      have hsp : p = p.take i.toNat ++ 47 :: p.drop (i.toNat + 1) := by rw [← hc, ← List.drop_eq_getElem_cons hit, List.take_append_drop]
      have e1 : subS (mk p) 0 i = mk (p.take i.toNat) := by rw [subS_mk]; simp
      have e3 : subS (mk p) (i + 1) ((p.length : Nat) : Int) = mk (p.drop (i.toNat + 1)) := by
        rw [subS_mk, show (i + 1).toNat = i.toNat + 1 by omega, List.take_of_length_le (by rw [List.length_drop]; omega)]
      have hval : ∀ m k, cutB p = some (m, k) → m = p.take i.toNat ∧ k = p.drop (i.toNat + 1) := fun m k hmk => by
        obtain ⟨h1, h2, h3⟩ := cut_iff.1 hmk
        have ht1 := take_of (k := k) (named_no h2)
        have ht2 := take_of (m := p.take i.toNat) (k := p.drop (i.toNat + 1)) ha
        rw [← h1] at ht1
        rw [← hsp] at ht2
        rw [ht1] at ht2
        refine ⟨ht2, ?_⟩
        have h4 := h1.symm.trans hsp
        rw [ht2] at h4
        have := List.append_cancel_left h4
        injection this
      rw [e1, e3]
      refine cRNamed ⟨_, rfl, fun _ => ⟨by omega, by omega, by omega⟩, fun e4 => cRKey ⟨_, rfl, fun e5 => ⟨⟨by omega, by omega, by omega⟩, ⟨by omega, by omega, by omega⟩, ?_⟩, fun e5 => ?_⟩, fun e4 => ?_⟩
      · have : cutB p = some (p.take i.toNat, p.drop (i.toNat + 1)) := cut_iff.2 ⟨hsp, e4, e5⟩
        rw [cut_some this] at hk; exact hk
      · have : cutB p = none := by
          cases hc : cutB p with
          | none => rfl
          | some x =>
            obtain ⟨h1, h2⟩ := hval x.1 x.2 hc
            have := ((cut_iff (p := p) (m := x.1) (k := x.2)).1 hc).2.2
            rw [h2, e5] at this; cases this
        rw [cut_none this] at hk; exact hk
      · have : cutB p = none := by
          cases hc : cutB p with
          | none => rfl
          | some x =>
            obtain ⟨h1, h2⟩ := hval x.1 x.2 hc
            have := ((cut_iff (p := p) (m := x.1) (k := x.2)).1 hc).2.1
            rw [h1, e4] at this; cases this
        rw [cut_none this] at hk; exact hk
    · refine ⟨⟨rfl, ⟨by omega, by omega⟩, ?_⟩, by omega⟩
      rw [show (i + 1).toNat = i.toNat + 1 by omega, List.take_succ_eq_append_getElem hit]
      intro hm
      rcases List.mem_append.1 hm with hm | hm
      · exact ha hm
      · rw [List.mem_singleton] at hm
        rw [← hm] at e2; exact absurd e2 (by decide)
  · have e' : i = p.length := by simp at e; omega
    rw [e'] at ha
    simp only [Int.toNat_natCast, List.take_length] at ha
    have : cutB p = none := by unfold cutB; rw [if_neg ha]
    rw [cut_none this] at hk; exact hk
theorem cROf (hl : SR EncMt h lA ms) (hn : ms.length ≤ 1000000) (hp : p.length ≤ 4611686018427387904) (hk : K (.tuple #[.agg #[.string (mk (ofB ms p).1.s), .bool (ofB ms p).1.ship], .int .i64 ((ofB ms p).2 : Int)]) h) : CallH Try.prog id_ref11_Of [.slice lA ms.length lC, .string (mk p)] K h := by
  refine F_ref11_Of_ok (cRCut hp ⟨_, _, _, rfl, fun e => ?_, fun e => ?_⟩)
  · have : cutB p = none := by
      cases hc : cutB p with
      | none => rfl
      | some x => simp [cutV, hc] at e
    have ho : ofB ms p = (mt0, 20) := by simp [ofB, this]
    rw [ho] at hk
    exact hk
  · obtain ⟨m, k, hc⟩ : ∃ m k, cutB p = some (m, k) := by
      cases hc : cutB p with
      | none => simp [cutV, hc] at e
      | some x => exact ⟨x.1, x.2, rfl⟩
    rw [cut_some hc]
    unfold ofB at hk
    simp only [hc] at hk
    refine LoopP.ind (fun (z : Int × ByteArray × Bool × Unit) h' => h' = h ∧ (0 ≤ z.1 ∧ z.1 ≤ ms.length) ∧ ∀ j : Nat, (hj : j < ms.length) → (j : Int) < z.1 → ms[j].s ≠ m) (fun z _ => (ms.length - z.1).toNat) ?_ ⟨rfl, ⟨by decide, by show (0 : Int) ≤ _; omega⟩, fun j _ hj => by simp only at hj; omega⟩
    rintro ⟨i, u⟩ h1 ⟨rfl, ⟨i0, i1⟩, ha⟩
    dsimp only at i0 i1 ha ⊢
    refine ⟨fun e => ?_, fun e => ?_⟩
    · have e : i < ms.length := by simpa using e
      have hit : i.toNat < ms.length := by omega
      obtain ⟨b, o, hA, hr⟩ := hl.get hit
      refine ⟨b, o, ⟨hA, i0, e⟩, _, hr _ 0 1 rfl (by decide), fun e2 => ⟨b, o, ⟨hA, i0, e⟩, _, _, hr _ 0 2 rfl (by decide), ?_⟩, fun e2 => ?_⟩
      · have e2 := strEq_mk.1 e2
        have : ms.find? (fun x => x.s == m) = some ms[i.toNat] := by
          rw [List.find?_eq_some_iff_getElem]
          refine ⟨by simp [e2], i.toNat, hit, rfl, fun j hj => ?_⟩
          have := ha j (by omega) (by omega)
          simpa using this
        rw [this] at hk; exact hk
      · rw [strEq_mk'] at e2
        have e2 : ms[i.toNat].s ≠ m := by simpa using e2
        rw [wrap64 (n := i + 1) (by omega) (by omega)]
        refine ⟨⟨rfl, ⟨by omega, by omega⟩, fun j hj hji => ?_⟩, by omega⟩
        by_cases hji2 : (j : Int) < i
        · exact ha j hj hji2
        · have : j = i.toNat := by omega
          subst this; exact e2
    · have e : i = ms.length := by simp at e; omega
      have : ms.find? (fun x => x.s == m) = none := by
        rw [List.find?_eq_none]
        intro x hx
        obtain ⟨j, hj, rfl⟩ := List.getElem_of_mem hx
        have := ha j hj (by omega)
        simpa using this
      rw [this] at hk; exact hk
theorem cRShips (hl : SR EncMt h lA ms) (hn : ms.length ≤ 1000000) (hp : p.length ≤ 4611686018427387904) (hk : K (.bool (shipsB ms p)) h) : CallH Try.prog id_ref11_Ships [.slice lA ms.length lC, .string (mk p)] K h := by
  refine F_ref11_Ships_ok (cROf hl hn hp ⟨_, _, _, rfl, ?_⟩)
  unfold shipsB at hk
  have e : (((ofB ms p).2 : Int) == 0) = ((ofB ms p).2 == 0) := by cases (ofB ms p).2 <;> rfl
  rw [e]; exact hk

theorem cGreat1 (hl : SR EncMt h lA ms) (hk : ∀ b, (b = false → ms.length ≤ 100 ∧ ∀ x ∈ ms, x.s.length ≤ 1000) → K (.bool b) h) : CallH Try.prog id_law11_Great [.slice lA ms.length lC] K h := by
  refine F_law11_Great_ok ⟨fun _ => hk true nofun, fun e => ?_⟩
  have hn : ms.length ≤ 100 := by simp at e; omega
  refine LoopP.ind (fun (z : Int × Unit) h' => h' = h ∧ (0 ≤ z.1 ∧ z.1 ≤ ms.length) ∧ ∀ j : Nat, (hj : j < ms.length) → (j : Int) < z.1 → ms[j].s.length ≤ 1000) (fun z _ => (ms.length - z.1).toNat) ?_ ⟨rfl, ⟨by decide, by show (0 : Int) ≤ _; omega⟩, fun j _ hj => by simp only at hj; omega⟩
  rintro ⟨i, u⟩ h1 ⟨rfl, ⟨i0, i1⟩, ha⟩
  dsimp only at i0 i1 ha ⊢
  refine ⟨fun e => ?_, fun e => hk _ fun _ => ⟨hn, fun x hx => ?_⟩⟩
  · have e : i < ms.length := by simpa using e
    have hit : i.toNat < ms.length := by omega
    obtain ⟨b, o, hA, hr⟩ := hl.get hit
    refine ⟨b, o, ⟨hA, i0, e⟩, _, hr _ 0 1 rfl (by decide), fun _ => hk true nofun, fun e2 => ?_⟩
    rw [size_mk] at e2
    have e2 : ms[i.toNat].s.length ≤ 1000 := by simp at e2; omega
    rw [wrap64 (n := i + 1) (by omega) (by omega)]
    refine ⟨⟨rfl, ⟨by omega, by omega⟩, fun j hj hji => ?_⟩, by omega⟩
    by_cases hji2 : (j : Int) < i
    · exact ha j hj hji2
    · have : j = i.toNat := by omega
      subst this; exact e2
  · have e : i = ms.length := by simp at e; omega
    obtain ⟨j, hj, rfl⟩ := List.getElem_of_mem hx
    exact ha j hj (by omega)

theorem cutV_some (h : (cutV p).2.2 = true) : p = (cutV p).1 ++ 47 :: (cutV p).2.1 ∧ namedB (cutV p).1 = true ∧ keyB (cutV p).2.1 = true := by
  cases hc : cutB p with
  | none => rw [cut_none hc] at h; cases h
  | some x =>
    rw [cut_some (m := x.1) (k := x.2) hc]
    exact (cut_iff (m := x.1) (k := x.2)).1 hc
theorem cutV_none (h : (cutV p).2.2 = false) : cutV p = ([], [], false) := by
  cases hc : cutB p with
  | none => exact cut_none hc
  | some x => rw [cut_some (m := x.1) (k := x.2) hc] at h; cases h
/-! ### What lies between -/
/-! ### Mounts turned -/
end TL

namespace TL
open Go Go.Proofs
variable {B : List Nat} {h : PH} {K : Value → PH → Prop}

/-- what is wrong of an operation -/
def oe (o : OpR) : Nat := if o.k ≠ 1 ∧ o.k ≠ 2 then 10 else if cutB o.p = none then 20 else if 32 < o.v.length then 3 else if o.k = 2 ∧ o.v ≠ [] then 1 else 0
def eachE : List OpR → Nat
  | [] => 0
  | o :: r => if oe o = 0 then eachE r else oe o
def rightE (i e : Int) (ops : List OpR) : Nat := if i < 1 ∨ 4611686018427387904 < i ∨ e < 1 then 1 else if 4 < ops.length then 3 else eachE ops
variable {oA : Option Addr} {oC : Nat} {ops : List OpR}
theorem eachE_at : ∀ {l : List OpR} {i : Nat}, (∀ j, (hj : j < l.length) → j < i → oe l[j] = 0) → (hi : i < l.length) → oe l[i] ≠ 0 → eachE l = oe l[i]
  | [], _, _, hi, _ => absurd hi (by simp)
  | o :: r, 0, _, _, hne => by
    simp only [List.getElem_cons_zero] at hne ⊢
    simp [eachE, hne]
  | o :: r, i + 1, ha, hi, hne => by
    have h0 := ha 0 (by simp) (by omega)
    simp only [List.getElem_cons_zero] at h0
    simp only [eachE, h0, if_true]
    exact eachE_at (l := r) (i := i) (fun j hj hji => by
      have := ha (j + 1) (by simp; omega) (by omega)
      simpa using this) (by simpa using hi) (by simpa using hne)
theorem eachE_all : ∀ {l : List OpR}, (∀ j, (hj : j < l.length) → oe l[j] = 0) → eachE l = 0
  | [], _ => rfl
  | o :: r, ha => by
    have h0 := ha 0 (by simp)
    simp only [List.getElem_cons_zero] at h0
    simp only [eachE, h0, if_true]
    exact eachE_all fun j hj => by
      have := ha (j + 1) (by simp; omega)
      simpa using this

theorem cRight1 {p : List UInt8} (hp : p.length ≤ 4611686018427387904) (hk : K (.int .i64 (if cutB p = none then 20 else 0)) h) : CallH Try.prog id_batch_Right_1 [.string (mk p)] K h := by
  refine F_batch_Right_1_ok (cCut hp ⟨_, _, _, rfl, fun e => ?_, fun e => ?_⟩)
  · cases hc : cutB p with
    | none => rw [hc, if_pos rfl] at hk; exact hk
    | some q => obtain ⟨m, k⟩ := q; rw [cut_some hc] at e; cases e
  · cases hc : cutB p with
    | none => rw [cut_none hc] at e; cases e
    | some q => rw [hc, if_neg (by simp)] at hk; exact hk
/-- the first thing that is wrong of operations -/
theorem cEach (hl : SR EncOp h oA ops) (hn : ops.length ≤ 1000000) (hp : ∀ o ∈ ops, o.p.length ≤ 4611686018427387904) (hk : K (.int .i64 (eachE ops : Int)) h) :
    CallH Try.prog id_batch_each [.slice oA ops.length oC, .func (.func id_batch_Right_1) #[] #[]] K h := by
  refine F_batch_each_ok rfl (LoopP.ind (fun (z : Int × Unit) h' => h' = h ∧ (0 ≤ z.1 ∧ z.1 ≤ ops.length) ∧ ∀ j : Nat, (hj : j < ops.length) → (j : Int) < z.1 → oe ops[j] = 0) (fun z _ => (ops.length - z.1).toNat) ?_ ⟨rfl, ⟨by decide, by show (0 : Int) ≤ _; omega⟩, fun j _ hj => by simp only at hj; omega⟩)
  rintro ⟨i, u⟩ h1 ⟨rfl, ⟨i0, i1⟩, ha⟩
  dsimp only at i0 i1 ha ⊢
  refine ⟨fun e => ?_, fun e => ?_⟩
  · have e : i < ops.length := by simpa using e
    have hit : i.toNat < ops.length := by omega
    obtain ⟨b, o, hA, hr⟩ := hl.get hit
    have bad : ∀ n : Nat, oe ops[i.toNat] = n → n ≠ 0 → K (.int .i64 (n : Int)) h1 := fun n hn hz => by
      have := eachE_at (l := ops) (i := i.toNat) (fun j hj hji => ha j hj (by omega)) hit (by rw [hn]; exact hz)
      rw [this, hn] at hk; exact hk
    refine ⟨b, o, ⟨hA, i0, e⟩, _, _, _, hr _ 0 3 rfl (by decide), fun e1 => ?_, fun e1 => ?_⟩
    · refine bad 10 ?_ (by decide)
      simp only [Bool.and_eq_true, bne_iff_ne, ne_eq] at e1
      simp [oe, e1]
    · have k1 : ¬ (ops[i.toNat].k ≠ 1 ∧ ops[i.toNat].k ≠ 2) := fun h => by simp [h.1, h.2] at e1
      refine ⟨by kernel_rfl, cRight1 (hp _ (List.getElem_mem hit)) ⟨_, rfl, fun e2 => ?_, fun e2 => ?_⟩⟩
      · have hc : cutB ops[i.toNat].p = none := Classical.byContradiction fun h => by simp [h] at e2
        rw [if_pos hc]
        refine bad 20 ?_ (by decide)
        simp only [oe, if_neg k1, hc, if_true]
      · have hc : ¬ cutB ops[i.toNat].p = none := fun h => by simp [h] at e2
        refine ⟨fun e3 => ?_, fun e3 => ?_⟩
        · have e3 : 32 < ops[i.toNat].v.length := by
            have hsz : (mk ops[i.toNat].v).size = ops[i.toNat].v.length := size_mk _
            rw [hsz] at e3; simp at e3; omega
          refine bad 3 ?_ (by decide)
          simp only [oe, if_neg k1, if_neg hc, e3, if_true]
        · have e3 : ¬ 32 < ops[i.toNat].v.length := by
            have hsz : (mk ops[i.toNat].v).size = ops[i.toNat].v.length := size_mk _
            rw [hsz] at e3; simp at e3; omega
          have hs : (strEq (mk ops[i.toNat].v) (⟨#[]⟩ : ByteArray)) = decide (ops[i.toNat].v = []) := by
            rw [show (⟨#[]⟩ : ByteArray) = mk [] from rfl, strEq_mk']
          refine ⟨fun e4 => ?_, fun e4 => ?_⟩
          · have e4 : ops[i.toNat].k = 2 ∧ ops[i.toNat].v ≠ [] := by rw [hs] at e4; simpa using e4
            refine bad 1 ?_ (by decide)
            simp only [oe, if_neg k1, if_neg hc, if_neg e3]
            rw [if_pos e4]
          · have e4 : ¬ (ops[i.toNat].k = 2 ∧ ops[i.toNat].v ≠ []) := fun h => by rw [hs] at e4; simp [h.1, h.2] at e4
            rw [wrap64 (n := i + 1) (by omega) (by omega)]
            refine ⟨⟨rfl, ⟨by omega, by omega⟩, fun j hj hji => ?_⟩, by omega⟩
            by_cases hji2 : (j : Int) < i
            · exact ha j hj hji2
            · have : j = i.toNat := by omega
              subst this
              simp only [oe, if_neg k1, if_neg hc, if_neg e3]
              rw [if_neg e4]
  · have e : i = ops.length := by simp at e; omega
    rw [eachE_all fun j hj => ha j hj (by omega)] at hk
    exact hk
theorem cRightB {i e : Int} (hl : SR EncOp h oA ops) (hn : ops.length ≤ 1000000) (hp : ∀ o ∈ ops, o.p.length ≤ 4611686018427387904) (hk : K (.int .i64 (rightE i e ops : Int)) h) :
    CallH Try.prog id_batch_Right [.agg #[.int .i64 i, .int .i64 e, .slice oA ops.length oC]] K h := by
  refine F_batch_Right_ok ⟨fun e1 => ?_, fun e1 => ⟨fun e2 => ?_, fun e2 => cEach hl hn hp ⟨_, rfl, ?_⟩⟩⟩
  · have e1 : i < 1 ∨ 4611686018427387904 < i ∨ e < 1 := by simpa [or_assoc] using e1
    simp only [rightE, if_pos e1] at hk; exact hk
  · have e1 : ¬ (i < 1 ∨ 4611686018427387904 < i ∨ e < 1) := fun h => by
      have : (decide (i < 1) || decide (i > 4611686018427387904) || decide (e < 1)) = true := by simpa [or_assoc] using h
      rw [this] at e1; cases e1
    have e2 : 4 < ops.length := by simp at e2; omega
    simp only [rightE, if_neg e1, if_pos e2] at hk; exact hk
  · have e1 : ¬ (i < 1 ∨ 4611686018427387904 < i ∨ e < 1) := fun h => by
      have : (decide (i < 1) || decide (i > 4611686018427387904) || decide (e < 1)) = true := by simpa [or_assoc] using h
      rw [this] at e1; cases e1
    have e2 : ¬ 4 < ops.length := by simp at e2; omega
    simp only [rightE, if_neg e1, if_neg e2] at hk; exact hk


/-! ### What statements go through -/
theorem cGreatOps (hl : SR EncOp h oA ops) (hk : K (.bool (gOps ops)) h) : CallH Try.prog id_law12_GreatOps [.slice oA ops.length oC] K h := by
  refine F_law12_GreatOps_ok ⟨fun e => ?_, fun e => ?_⟩
  · have e : 100 < ops.length := by simp at e; omega
    simpa [gOps, e] using hk
  · have e0 : ¬ 100 < ops.length := by simp at e; omega
    refine LoopP.ind (fun (z : Int × Unit) h' => h' = h ∧ (0 ≤ z.1 ∧ z.1 ≤ ops.length) ∧ ∀ j : Nat, (hj : j < ops.length) → (j : Int) < z.1 → (decide (1000 < ops[j].p.length) || decide (1000 < ops[j].v.length)) = false) (fun z _ => (ops.length - z.1).toNat) ?_ ⟨rfl, ⟨by decide, by show (0 : Int) ≤ _; omega⟩, fun j _ hj => by simp only at hj; omega⟩
    rintro ⟨i, u⟩ h1 ⟨rfl, ⟨i0, i1⟩, ha⟩
    dsimp only at i0 i1 ha ⊢
    refine ⟨fun e => ?_, fun e => ?_⟩
    · have e : i < ops.length := by simpa using e
      have hit : i.toNat < ops.length := by omega
      obtain ⟨b, o, hA, hr⟩ := hl.get hit
      have s1 : (decide (((mk ops[i.toNat].p).size : Int) > (1000 : Int)) || decide (((mk ops[i.toNat].v).size : Int) > (1000 : Int))) = (decide (1000 < ops[i.toNat].p.length) || decide (1000 < ops[i.toNat].v.length)) := by
        rw [size_mk, size_mk]
        congr 1 <;> (rw [decide_eq_decide]; omega)
      refine ⟨b, o, ⟨hA, i0, e⟩, _, hr _ 1 1 rfl (by decide), b, o, fun _ => ⟨hA, i0, e⟩, _, fun _ => hr _ 2 1 rfl (by decide), fun e2 => ?_, fun e2 => ?_⟩
      · rw [s1] at e2
        have : gOps ops = true := by
          simp only [gOps, Bool.or_eq_true, List.any_eq_true]
          exact .inr ⟨_, List.getElem_mem hit, by simpa using e2⟩
        rw [this] at hk; exact hk
      · rw [s1] at e2
        rw [wrap64 (n := i + 1) (by omega) (by omega)]
        refine ⟨⟨rfl, ⟨by omega, by omega⟩, fun j hj hji => ?_⟩, by omega⟩
        by_cases hji2 : (j : Int) < i
        · exact ha j hj hji2
        · have : j = i.toNat := by omega
          subst this; exact e2
    · have e : i = ops.length := by simp at e; omega
      have : gOps ops = false := by
        simp only [gOps, Bool.or_eq_false_iff, List.any_eq_false]
        refine ⟨by simpa using e0, fun o ho => ?_⟩
        obtain ⟨j, hj, rfl⟩ := List.getElem_of_mem ho
        have := ha j hj (by omega)
        simpa using this
      rw [this] at hk; exact hk

variable {pA : Option Addr} {pC : Nat} {prs : List PrR}
theorem cGreatPairs (hl : SR EncPr h pA prs) (hk : K (.bool (gPrs prs)) h) : CallH Try.prog id_law13_GreatPairs [.slice pA prs.length pC] K h := by
  refine F_law13_GreatPairs_ok ⟨fun e => ?_, fun e => ?_⟩
  · have e : 200 < prs.length := by simp at e; omega
    simpa [gPrs, e] using hk
  · have e0 : ¬ 200 < prs.length := by simp at e; omega
    refine LoopP.ind (fun (z : Int × Unit) h' => h' = h ∧ (0 ≤ z.1 ∧ z.1 ≤ prs.length) ∧ ∀ j : Nat, (hj : j < prs.length) → (j : Int) < z.1 → (decide (1000 < prs[j].p.length) || decide (1000 < prs[j].v.length)) = false) (fun z _ => (prs.length - z.1).toNat) ?_ ⟨rfl, ⟨by decide, by show (0 : Int) ≤ _; omega⟩, fun j _ hj => by simp only at hj; omega⟩
    rintro ⟨i, u⟩ h1 ⟨rfl, ⟨i0, i1⟩, ha⟩
    dsimp only at i0 i1 ha ⊢
    refine ⟨fun e => ?_, fun e => ?_⟩
    · have e : i < prs.length := by simpa using e
      have hit : i.toNat < prs.length := by omega
      obtain ⟨b, o, hA, hr⟩ := hl.get hit
      have s1 : (decide (((mk prs[i.toNat].p).size : Int) > (1000 : Int)) || decide (((mk prs[i.toNat].v).size : Int) > (1000 : Int))) = (decide (1000 < prs[i.toNat].p.length) || decide (1000 < prs[i.toNat].v.length)) := by
        rw [size_mk, size_mk]
        congr 1 <;> (rw [decide_eq_decide]; omega)
      refine ⟨b, o, ⟨hA, i0, e⟩, _, hr _ 0 1 rfl (by decide), b, o, fun _ => ⟨hA, i0, e⟩, _, fun _ => hr _ 1 1 rfl (by decide), fun e2 => ?_, fun e2 => ?_⟩
      · rw [s1] at e2
        have : gPrs prs = true := by
          simp only [gPrs, Bool.or_eq_true, List.any_eq_true]
          exact .inr ⟨_, List.getElem_mem hit, by simpa using e2⟩
        rw [this] at hk; exact hk
      · rw [s1] at e2
        rw [wrap64 (n := i + 1) (by omega) (by omega)]
        refine ⟨⟨rfl, ⟨by omega, by omega⟩, fun j hj hji => ?_⟩, by omega⟩
        by_cases hji2 : (j : Int) < i
        · exact ha j hj hji2
        · have : j = i.toNat := by omega
          subst this; exact e2
    · have e : i = prs.length := by simp at e; omega
      have : gPrs prs = false := by
        simp only [gPrs, Bool.or_eq_false_iff, List.any_eq_false]
        refine ⟨by simpa using e0, fun o ho => ?_⟩
        obtain ⟨j, hj, rfl⟩ := List.getElem_of_mem ho
        have := ha j hj (by omega)
        simpa using this
      rw [this] at hk; exact hk
variable {rA eA : Option Addr} {rC eN eC : Nat} {rows : List OsR} {i0 i1 : Int}
end TL
