/-
  Contracts of the document's answer for layer omap. No condition.
-/
import Derived.Test.YtgibhmeaikodjaaLaw
namespace TL
open Go Go.Proofs Go.Shelf
variable {B : List Nat} {h : PH} {K : Value → PH → Prop} {x : Option Addr} {S : List PrR}
variable {rA lA oA : Option Addr} {rC lC oC : Nat} {rows : List OsR} {ms : List Mt} {ops : List OpR}

/-! ### Texts in their order -/
theorem bl_irr (x : UInt8) : (decide (x < x)) = false := by simp
theorem lt_pre : ∀ (c a b : List UInt8), (c ++ a < c ++ b) ↔ a < b
  | [], _, _ => Iff.rfl
  | x :: c, a, b => by
    rw [List.cons_append, List.cons_append, List.cons_lt_cons_iff]
    constructor
    · rintro (h | ⟨_, h⟩)
      · exact absurd h (by simp)
      · exact (lt_pre c a b).1 h
    · intro h; exact .inr ⟨rfl, (lt_pre c a b).2 h⟩
theorem cLess {a b : List UInt8} (ha : a.length ≤ 4611686018427387904) (hk : K (.bool (decide (a < b))) h) : CallH Try.prog id_ref11_Less [.string (mk a), .string (mk b)] K h := by
  refine F_ref11_Less_ok (LoopP.ind (fun (z : Int × Unit) h' => ∃ i : Nat, z.1 = (i : Int) ∧ i ≤ a.length ∧ i ≤ b.length ∧ a.take i = b.take i ∧ h' = h) (fun z _ => (a.length - z.1).toNat) ?_ ⟨0, rfl, Nat.zero_le _, Nat.zero_le _, by simp, rfl⟩)
  rintro ⟨_, u⟩ h ⟨i, rfl, hi, hib, heq, rfl⟩
  dsimp only
  rw [size_mk, size_mk]
  refine ⟨fun e => ?_, fun e => ?_⟩
  · have e : i < a.length ∧ i < b.length := by simpa using e
    have hba : byteAt (mk a) (i : Int) = (a[i].toNat : Int) := by rw [byteAt_mk]; simp [List.getD, e.1]
    have hbb : byteAt (mk b) (i : Int) = (b[i].toNat : Int) := by rw [byteAt_mk]; simp [List.getD, e.2]
    rw [hba, hbb]
    refine ⟨⟨by omega, by omega⟩, ⟨by omega, by omega⟩, fun e2 => ⟨⟨by omega, by omega⟩, ⟨by omega, by omega⟩, ?_⟩, fun e2 => ?_⟩
    · have e2 : a[i].toNat ≠ b[i].toNat := by
        intro hh; rw [hh] at e2; simp at e2
      have hne : a[i] ≠ b[i] := fun hh => e2 (by rw [hh])
      have : (a < b) ↔ a[i] < b[i] := by
        have h1 : a = a.take i ++ a[i] :: a.drop (i + 1) := by rw [← List.drop_eq_getElem_cons e.1, List.take_append_drop]
        have h2 : b = a.take i ++ b[i] :: b.drop (i + 1) := by rw [heq, ← List.drop_eq_getElem_cons e.2, List.take_append_drop]
        have h3 : (a < b) ↔ (a.take i ++ a[i] :: a.drop (i + 1) < a.take i ++ b[i] :: b.drop (i + 1)) := by rw [← h1, ← h2]
        rw [h3, lt_pre, List.cons_lt_cons_iff]
        exact ⟨fun h => h.resolve_right fun h => hne h.1, .inl⟩
      have h4 : decide ((a[i].toNat : Int) < (b[i].toNat : Int)) = decide (a < b) := by
        rw [decide_eq_decide, this, UInt8.lt_iff_toNat_lt]; omega
      rw [h4]; exact hk
    · have e2 : a[i].toNat = b[i].toNat := by
        have : ((a[i].toNat : Int)) = (b[i].toNat : Int) := by simpa using e2
        omega
      have e2 : a[i] = b[i] := UInt8.toNat_inj.1 e2
      rw [wrap64 (n := (i : Int) + 1) (by omega) (by omega)]
      refine ⟨⟨i + 1, rfl, by omega, by omega, ?_, rfl⟩, by omega⟩
      rw [List.take_succ_eq_append_getElem e.1, List.take_succ_eq_append_getElem e.2, heq, e2]
  · have e : ¬ (i < a.length ∧ i < b.length) := by
      intro hh
      have : (decide ((i : Int) < (a.length : Int)) && decide ((i : Int) < (b.length : Int))) = true := by simp; omega
      rw [this] at e; cases e
    have : (a < b) ↔ a.length < b.length := by
      by_cases hia : i = a.length
      · subst hia
        rw [List.take_length] at heq
        have h2 : b = a ++ b.drop a.length := by conv => lhs; rw [← List.take_append_drop a.length b, ← heq]
        constructor
        · intro hlt
          rw [h2] at hlt
          have h5 : (a ++ [] < a ++ b.drop a.length) := by simpa using hlt
          rw [lt_pre] at h5
          cases hd : b.drop a.length with
          | nil => rw [hd] at h5; exact absurd h5 (List.lt_irrefl _)
          | cons y r =>
            have := congrArg List.length hd
            simp at this; omega
        · intro hlt
          have h5 : (a ++ [] < a ++ b.drop a.length) := by
            rw [lt_pre]
            cases hd : b.drop a.length with
            | nil => have := congrArg List.length hd; simp at this; omega
            | cons y r => exact List.nil_lt_cons _ _
          rw [← h2] at h5
          simpa using h5
      · have hib2 : i = b.length := by omega
        subst hib2
        rw [List.take_length] at heq
        have h2 : a = b ++ a.drop b.length := by conv => lhs; rw [← List.take_append_drop b.length a, heq]
        constructor
        · intro hlt
          rw [h2] at hlt
          have h5 : (b ++ a.drop b.length < b ++ []) := by simpa using hlt
          rw [lt_pre] at h5
          exact absurd h5 (List.not_lt_nil _)
        · intro hlt; omega
    have h4 : decide ((a.length : Int) < (b.length : Int)) = decide (a < b) := by
      rw [decide_eq_decide, this]; omega
    rw [h4]; exact hk

/-! ### Where a path is -/
def pos : List PrR → List UInt8 → Nat
  | [], _ => 0
  | x :: r, p => if x.p < p then pos r p + 1 else 0
theorem pos_le : ∀ (S : List PrR) (p : List UInt8), pos S p ≤ S.length
  | [], _ => Nat.le_refl _
  | x :: r, p => by unfold pos; split; have := pos_le r p; simp; omega; omega
theorem pos_lt : ∀ {S : List PrR} {p : List UInt8} {j : Nat} (hj : j < S.length), j < pos S p → S[j].p < p
  | x :: r, p, 0, _, h => by
    unfold pos at h
    split at h
    · assumption
    · omega
  | x :: r, p, j + 1, hj, h => by
    unfold pos at h
    split at h
    · exact pos_lt (S := r) (by simpa using hj) (by omega)
    · omega
theorem pos_eq {S : List PrR} {p : List UInt8} {i : Nat} (hi : i ≤ S.length) (h1 : ∀ j, (hj : j < S.length) → j < i → S[j].p < p) (h2 : (hj : i < S.length) → ¬ S[i].p < p) : pos S p = i := by
  induction S generalizing i with
  | nil => simp at hi; subst hi; rfl
  | cons x r ih =>
    unfold pos
    cases i with
    | zero => rw [if_neg (show ¬ x.p < p from h2 (by simp))]
    | succ i =>
      rw [if_pos (show x.p < p from h1 0 (by simp) (by omega)), ih (i := i) (by simpa using hi) (fun j hj hji => show r[j].p < p from h1 (j + 1) (by simpa using hj) (by omega)) (fun hj => show ¬ r[i].p < p from h2 (by simpa using hj))]
theorem pos_there {S : List PrR} (hu : Up S) {p : List UInt8} : (decide ((pos S p : Int) < (S.length : Int)) && (match S[pos S p]? with
    | some x => decide (x.p = p)
    | none => false)) = (look S p).isSome := by
  induction S with
  | nil => simp [pos, look]
  | cons x r ih =>
    obtain ⟨h1, h2⟩ := List.pairwise_cons.1 hu
    unfold pos look
    by_cases e : x.p < p
    · rw [if_pos e, if_neg (fun e2 => by rw [e2] at e; exact List.lt_irrefl _ e), List.getElem?_cons_succ, ← ih h2]
      congr 1
      rw [decide_eq_decide]; simp
    · rw [if_neg e]
      by_cases e2 : x.p = p
      · simp [e2]
      · have : look r p = none := look_none.2 fun y hy e3 => by
          have := h1 y hy
          rw [e3] at this; exact e this
        simp [e2, this]
theorem ins_pos {S : List PrR} (hu : Up S) (p v : List UInt8) : ins S p v = S.take (pos S p) ++ ⟨p, v⟩ :: S.drop (if (look S p).isSome = true then pos S p + 1 else pos S p) := by
  induction S with
  | nil => simp [ins, pos, look]
  | cons x r ih =>
    obtain ⟨h1, h2⟩ := List.pairwise_cons.1 hu
    unfold ins pos look
    by_cases e : x.p < p
    · have e3 : ¬ p < x.p := List.lt_asymm e
      have e4 : ¬ x.p = p := fun e2 => by rw [e2] at e; exact List.lt_irrefl _ e
      rw [if_pos e, if_neg e3, if_neg e4, if_neg e4, ih h2]
      split <;> simp
    · rw [if_neg e]
      by_cases e2 : x.p = p
      · rw [if_neg (fun h => by rw [e2] at h; exact List.lt_irrefl _ h), if_pos e2, if_pos e2]
        simp
      · have hp : p < x.p := lt_of_not e e2
        have : look r p = none := look_none.2 fun y hy e3 => by
          have := h1 y hy
          rw [e3] at this; exact e this
        rw [if_pos hp, if_neg e2, this]
        simp
theorem del_pos {S : List PrR} (hu : Up S) (p : List UInt8) : del S p = if (look S p).isSome = true then S.take (pos S p) ++ S.drop (pos S p + 1) else S := by
  induction S with
  | nil => simp [del, look]
  | cons x r ih =>
    obtain ⟨h1, h2⟩ := List.pairwise_cons.1 hu
    have hd : del (x :: r) p = if x.p = p then del r p else x :: del r p := by
      unfold del
      rw [List.filter_cons]
      by_cases e : x.p = p <;> simp [e]
    unfold pos look
    rw [hd]
    by_cases e2 : x.p = p
    · have : look r p = none := look_none.2 fun y hy e3 => by
        have := h1 y hy
        rw [e3, e2] at this; exact List.lt_irrefl _ this
      have hlt : ¬ x.p < p := fun h => by rw [e2] at h; exact List.lt_irrefl _ h
      rw [if_pos e2, if_pos e2, ih h2, this, if_neg hlt]
      simp
    · rw [if_neg e2, if_neg e2]
      by_cases e : x.p < p
      · rw [if_pos e, ih h2]
        split <;> simp
      · have : look r p = none := look_none.2 fun y hy e3 => by
          have := h1 y hy
          rw [e3] at this; exact e this
        rw [ih h2, this]
        simp

/-! ### The document's map -/
variable {mA : Option Addr} {mC : Nat} {p v : List UInt8}
theorem cFind (hl : SR EncPr h mA S) (hu : Up S) (hn : S.length ≤ 1000000) (hp : ∀ x ∈ S, x.p.length ≤ 1000000) (hk : K (.tuple #[.int .i64 (pos S p : Int), .bool (look S p).isSome]) h) : CallH Try.prog id_ref13_Map_find [.agg #[.slice mA S.length mC], .string (mk p)] K h := by
  refine F_ref13_Map_find_ok ⟨fun z h' => z.1 = (pos S p : Int) ∧ h' = h, ?_, ?_⟩
  · refine LoopP.ind (fun (z : Int × Unit) h' => ∃ i : Nat, z.1 = (i : Int) ∧ i ≤ S.length ∧ h' = h ∧ ∀ j, (hj : j < S.length) → j < i → S[j].p < p) (fun z _ => (S.length - z.1).toNat) ?_ ⟨0, rfl, Nat.zero_le _, rfl, fun _ _ h => absurd h (Nat.not_lt_zero _)⟩
    rintro ⟨_, u⟩ h1 ⟨i, rfl, hi, rfl, hj⟩
    dsimp only
    by_cases e : i < S.length
    · obtain ⟨b, o, hA, hr⟩ := hl.get e
      refine ⟨b, o, fun _ => ⟨hA, by omega, by omega⟩, mk S[i].p, fun _ => hr _ 0 1 (by simp [EncPr]) (by decide), fun _ => cLess (by have := hp _ (List.getElem_mem e); omega) ⟨_, rfl, fun e2 => ?_, fun e2 => ?_⟩, fun e2 => by simp at e2; omega⟩
      · have e2 : S[i].p < p := by simpa using e2
        rw [wrap64 (n := (i : Int) + 1) (by omega) (by omega)]
        refine ⟨⟨i + 1, rfl, by omega, rfl, fun j hj2 hji => ?_⟩, by omega⟩
        by_cases hji2 : j < i
        · exact hj j hj2 hji2
        · have : j = i := by omega
          subst this; exact e2
      · have e2 : ¬ S[i].p < p := by simpa using e2
        exact ⟨by rw [pos_eq hi hj fun _ => e2], rfl⟩
    · refine ⟨0, 0, fun e2 => by simp at e2; omega, mk [], fun e2 => by simp at e2; omega, fun e2 => by simp at e2; omega, fun _ => ⟨?_, rfl⟩⟩
      rw [pos_eq hi hj fun h => absurd h e]
  · rintro ⟨_, u⟩ h1 ⟨e, rfl⟩
    dsimp only at e ⊢
    subst e
    have hth := pos_there (p := p) hu
    by_cases e : pos S p < S.length
    · obtain ⟨b, o, hA, hr⟩ := hl.get e
      refine ⟨b, o, fun _ => ⟨hA, by omega, by omega⟩, mk S[pos S p].p, fun _ => hr _ 0 1 (by simp [EncPr]) (by decide), ?_⟩
      rw [List.getElem?_eq_getElem e] at hth
      rw [strEq_mk', hth]; exact hk
    · refine ⟨0, 0, fun e2 => by simp at e2; omega, mk [], fun e2 => by simp at e2; omega, ?_⟩
      have hno : decide ((pos S p : Int) < (S.length : Int)) = false := by simp; omega
      rw [hno, Bool.false_and] at hth ⊢
      rw [hth]; exact hk
/-- what the document's map is in memory -/
structure RfAt (h : PH) (a : Option Addr) (c : Nat) (S : List PrR) : Prop where
  sr : SR EncPr h a S
  le : S.length ≤ c
  up : Up S
  n : S.length ≤ 1000
  p : ∀ x ∈ S, x.p.length ≤ 1000000
theorem RfAt.sub {g : PH} (x : RfAt h mA mC S) (s : h.Sub g) : RfAt g mA mC S := ⟨x.sr.sub s, x.le, x.up, x.n, x.p⟩
theorem cWith (hx : RfAt h mA mC S) (hn : S.length ≤ 900) (hp : p.length ≤ 1000000) (hk : ∀ a c h', RfAt h' a c (ins S p v) → h.Sub h' → K (.agg #[.slice a (ins S p v).length c]) h') : CallH Try.prog id_ref13_Map_With [.agg #[.slice mA S.length mC], .string (mk p), .string (mk v)] K h := by
  have hle := hx.le
  have hpl := pos_le S p
  have hres : ∀ a c h' B', Buf EncPr T_api_Pair B' h' a (ins S p v).length c (ins S p v) → Chg [] B' h h' → K (.agg #[.slice a (ins S p v).length c]) h' := fun a c h' B' hb hc => by
    refine hk a c h' ⟨hb.sr, hb.le, hx.up.ins _ _, ?_, fun y hy => ?_⟩ hc.sub0
    · rw [ins_len _ _ _ hx.up]; split <;> omega
    · rcases ins_mem hy with rfl | hy
      · exact hp
      · exact hx.p y hy
  refine F_ref13_Map_With_ok (cFind hx.sr hx.up (by omega) hx.p ⟨_, _, rfl, ⟨by omega, by omega, by omega, by omega⟩, EncPr.row ((S.drop 0).take (pos S p - 0)), ?_, ?_⟩)
  · exact hx.sr.part (lo := 0) (hi := pos S p) rfl (by omega) (by omega) (by simp; omega)
  · refine (Buf.nil EncPr T_api_Pair h none).append (new := (S.drop 0).take (pos S p - 0)) (by simp <;> omega) rfl rfl (by simp <;> omega) ?_
    intro a1 k1 B1 h1 b1 c1 _
    refine b1.append (new := [⟨p, v⟩]) rfl rfl rfl (by simp; omega) ?_
    intro a2 k2 B2 h2 b2 c2 _
    have c12 := c1.trans c2
    have hrow : ([] : List PrR) ++ (S.drop 0).take (pos S p - 0) ++ [⟨p, v⟩] = S.take (pos S p) ++ [⟨p, v⟩] := by simp
    rw [hrow] at b2
    have hlen : 0 + ((pos S p : Int).toNat - (0 : Int).toNat) + 1 = pos S p + 1 := by simp
    have hins := ins_pos hx.up p v
    refine ⟨fun e => ?_, fun e => ?_⟩
    · rw [e, if_pos rfl] at hins
      have hlt : pos S p < S.length := by
        have := pos_there (p := p) hx.up
        rw [e] at this
        simp only [Bool.and_eq_true, decide_eq_true_eq] at this
        omega
      rw [wrap64 (n := (pos S p : Int) + 1) (by omega) (by omega)]
      refine ⟨⟨by omega, by omega, by omega, by omega⟩, EncPr.row ((S.drop (pos S p + 1)).take (S.length - (pos S p + 1))), ?_, ?_⟩
      · have := (hx.sr.sub c12.sub0).part (mx := ((mC : Nat) : Int)) (L := (pos S p : Int) + 1) (lo := pos S p + 1) (hi := S.length) (by omega) (by omega) (by omega) (by omega)
        rw [show ((S.length : Nat) : Int).toNat - ((pos S p : Int) + 1).toNat = S.length - (pos S p + 1) by omega]
        exact this
      · refine b2.append (new := (S.drop (pos S p + 1)).take (S.length - (pos S p + 1))) (by simp <;> omega) rfl rfl (by simp <;> omega) ?_
        intro a3 k3 B3 h3 b3 c3 _
        rw [List.take_of_length_le (l := S.drop (pos S p + 1)) (by simp)] at b3
        have hf : S.take (pos S p) ++ [⟨p, v⟩] ++ S.drop (pos S p + 1) = ins S p v := by rw [hins]; simp
        rw [hf] at b3
        have hn3 := b3.1
        rw [hn3] at b3 ⊢
        exact hres a3 k3 h3 B3 b3 (c12.trans c3)
    · rw [e] at hins
      simp only [Bool.false_eq_true, if_false] at hins
      refine ⟨⟨by omega, by omega, by omega, by omega⟩, EncPr.row ((S.drop (pos S p)).take (S.length - pos S p)), ?_, ?_⟩
      · have := (hx.sr.sub c12.sub0).part (mx := ((mC : Nat) : Int)) (L := (pos S p : Int)) (lo := pos S p) (hi := S.length) (by omega) (by omega) (by omega) (by omega)
        rw [show ((S.length : Nat) : Int).toNat - (pos S p : Int).toNat = S.length - pos S p by omega]
        exact this
      · refine b2.append (new := (S.drop (pos S p)).take (S.length - pos S p)) (by simp) rfl rfl (by simp; omega) ?_
        intro a3 k3 B3 h3 b3 c3 _
        rw [List.take_of_length_le (l := S.drop (pos S p)) (by simp)] at b3
        have hf : S.take (pos S p) ++ [⟨p, v⟩] ++ S.drop (pos S p) = ins S p v := by rw [hins]; simp
        rw [hf] at b3
        have hn3 := b3.1
        rw [hn3] at b3 ⊢
        exact hres a3 k3 h3 B3 b3 (c12.trans c3)
theorem cWithout (hx : RfAt h mA mC S) (hk : ∀ a c h', RfAt h' a c (del S p) → h.Sub h' → K (.agg #[.slice a (del S p).length c]) h') : CallH Try.prog id_ref13_Map_Without [.agg #[.slice mA S.length mC], .string (mk p)] K h := by
  have hle := hx.le
  have hpl := pos_le S p
  have hl1000 := hx.n
  have hd := del_pos hx.up p
  have hres : ∀ a c h' B', Buf EncPr T_api_Pair B' h' a (del S p).length c (del S p) → Chg [] B' h h' → K (.agg #[.slice a (del S p).length c]) h' := fun a c h' B' hb hc =>
    hk a c h' ⟨hb.sr, hb.le, hx.up.del _, Nat.le_trans (del_len _ _) hx.n, fun y hy => hx.p y (List.mem_filter.1 hy).1⟩ hc.sub0
  refine F_ref13_Map_Without_ok (cFind hx.sr hx.up (by omega) hx.p ⟨_, _, rfl, fun e => ?_, fun e => ?_⟩)
  · have e : (look S p).isSome = false := by simpa using e
    rw [e] at hd
    simp only [Bool.false_eq_true, if_false] at hd
    rw [hd] at hk
    exact hk mA mC h hx fun _ _ e => e
  · have e : (look S p).isSome = true := by simpa using e
    rw [e, if_pos rfl] at hd
    have hlt : pos S p < S.length := by
      have := pos_there (p := p) hx.up
      rw [e] at this
      simp only [Bool.and_eq_true, decide_eq_true_eq] at this
      omega
    refine ⟨⟨by omega, by omega, by omega, by omega⟩, EncPr.row ((S.drop 0).take (pos S p - 0)), hx.sr.part (lo := 0) (hi := pos S p) rfl (by omega) (by omega) (by simp; omega), ?_⟩
    refine (Buf.nil EncPr T_api_Pair h none).append (new := (S.drop 0).take (pos S p - 0)) (by simp <;> omega) rfl rfl (by simp <;> omega) ?_
    intro a1 k1 B1 h1 b1 c1 _
    have hrow : ([] : List PrR) ++ (S.drop 0).take (pos S p - 0) = S.take (pos S p) := by simp
    rw [hrow] at b1
    rw [wrap64 (n := (pos S p : Int) + 1) (by omega) (by omega)]
    refine ⟨⟨by omega, by omega, by omega, by omega⟩, EncPr.row ((S.drop (pos S p + 1)).take (S.length - (pos S p + 1))), ?_, ?_⟩
    · have := (hx.sr.sub c1.sub0).part (mx := ((mC : Nat) : Int)) (L := (pos S p : Int) + 1) (lo := pos S p + 1) (hi := S.length) (by omega) (by omega) (by omega) (by omega)
      rw [show ((S.length : Nat) : Int).toNat - ((pos S p : Int) + 1).toNat = S.length - (pos S p + 1) by omega]
      exact this
    · refine b1.append (new := (S.drop (pos S p + 1)).take (S.length - (pos S p + 1))) (by simp <;> omega) rfl rfl (by simp <;> omega) ?_
      intro a3 k3 B3 h3 b3 c3 _
      rw [List.take_of_length_le (l := S.drop (pos S p + 1)) (by simp), ← hd] at b3
      have hn3 := b3.1
      rw [hn3] at b3 ⊢
      exact hres a3 k3 h3 B3 b3 (c1.trans c3)
theorem cRGet (hx : RfAt h mA mC S) (hk : K (.tuple #[.string (mk ((look S p).getD [])), .bool (look S p).isSome]) h) : CallH Try.prog id_ref13_Map_Get [.agg #[.slice mA S.length mC], .string (mk p)] K h := by
  have hl1000 := hx.n
  refine F_ref13_Map_Get_ok (cFind hx.sr hx.up (by omega) hx.p ⟨_, _, rfl, fun e => ?_, fun e => ?_⟩)
  · have e : look S p = none := by
      cases hl : look S p with
      | none => rfl
      | some y => rw [hl] at e; simp at e
    rw [e] at hk; exact hk
  · have e : (look S p).isSome = true := by simpa using e
    have hth := pos_there (p := p) hx.up
    rw [e] at hth
    simp only [Bool.and_eq_true, decide_eq_true_eq] at hth
    have hlt : pos S p < S.length := by omega
    rw [List.getElem?_eq_getElem hlt] at hth
    have hpp : S[pos S p].p = p := by simpa using hth.2
    have hlk := look_of_mem hx.up (List.getElem_mem hlt)
    rw [hpp] at hlk
    rw [hlk] at hk
    obtain ⟨b, o, hA, hr⟩ := hx.sr.get hlt
    exact ⟨b, o, ⟨hA, by omega, by omega⟩, mk S[pos S p].v, hr _ 1 1 (by simp [EncPr]) (by decide), hk⟩
theorem cRValue {o : OpR} (hk : K (.int .i64 (if 32 < o.v.length then 3 else if o.k = 2 ∧ o.v ≠ [] then 1 else 0)) h) : CallH Try.prog id_ref12_value [.agg #[.int .u8 o.k, .string (mk o.p), .string (mk o.v)]] K h := by
  have hs : (strEq (mk o.v) (⟨#[]⟩ : ByteArray)) = decide (o.v = []) := by rw [show (⟨#[]⟩ : ByteArray) = mk [] from rfl, strEq_mk']
  refine F_ref12_value_ok ⟨fun e => ?_, fun e => ⟨fun e2 => ?_, fun e2 => ?_⟩⟩
  · rw [size_mk] at e
    rw [if_pos (by simp at e; omega)] at hk; exact hk
  · rw [size_mk] at e
    rw [hs] at e2
    rw [if_neg (by simp at e; omega), if_pos (by simpa using e2)] at hk; exact hk
  · rw [size_mk] at e
    rw [hs] at e2
    rw [if_neg (by simp at e; omega), if_neg (by simpa using e2)] at hk; exact hk
theorem cRRight12 {i e : Int} (hl : SR EncOp h oA ops) (hp : ∀ o ∈ ops, o.p.length ≤ 4611686018427387904) (hk : K (.int .i64 (rightE i e ops : Int)) h) : CallH Try.prog id_ref12_Right [.agg #[.int .i64 i, .int .i64 e, .slice oA ops.length oC]] K h := by
  have hor : ((decide (i < 1) || decide (i > 4611686018427387904)) || decide (e < 1)) = true ↔ (i < 1 ∨ 4611686018427387904 < i ∨ e < 1) := by
    simp [or_assoc]
  refine F_ref12_Right_ok ⟨fun e1 => ?_, fun e1 => ⟨fun e2 => ?_, fun e2 => ?_⟩⟩
  · have e1 := hor.1 e1
    simp only [rightE, if_pos e1] at hk; exact hk
  · have e1 : ¬ (i < 1 ∨ 4611686018427387904 < i ∨ e < 1) := fun h => by rw [hor.2 h] at e1; cases e1
    have e2 : 4 < ops.length := by simp at e2; omega
    simp only [rightE, if_neg e1, if_pos e2] at hk; exact hk
  · have e1 : ¬ (i < 1 ∨ 4611686018427387904 < i ∨ e < 1) := fun h => by rw [hor.2 h] at e1; cases e1
    have e2 : ¬ 4 < ops.length := by simp at e2; omega
    simp only [rightE, if_neg e1, if_neg e2] at hk
    refine LoopP.ind (fun (z : Int × Unit) h' => h' = h ∧ (0 ≤ z.1 ∧ z.1 ≤ ops.length) ∧ ∀ j : Nat, (hj : j < ops.length) → (j : Int) < z.1 → oe ops[j] = 0) (fun z _ => (ops.length - z.1).toNat) ?_ ⟨rfl, ⟨by decide, by show (0 : Int) ≤ _; omega⟩, fun j _ hj => by simp only at hj; omega⟩
    rintro ⟨i, u⟩ h1 ⟨rfl, ⟨i0, i1⟩, ha⟩
    dsimp only at i0 i1 ha ⊢
    refine ⟨fun e => ?_, fun e => ?_⟩
    · have e : i < ops.length := by simpa using e
      have hit : i.toNat < ops.length := by omega
      obtain ⟨b, o, hA, hr⟩ := hl.get hit
      have bad : ∀ n : Nat, oe ops[i.toNat] = n → n ≠ 0 → K (.int .i64 (n : Int)) h1 := fun n hn hz => by
        have := eachE_at (l := ops) (i := i.toNat) (fun j hj hji => ha j hj (by omega)) hit (by rw [hn]; exact hz)
        rw [this, hn] at hk; exact hk
      refine ⟨b, o, ⟨hA, i0, e⟩, ops[i.toNat].k, hr _ 0 1 rfl (by decide), b, o, fun _ => ⟨hA, i0, e⟩, ops[i.toNat].k, fun _ => hr _ 0 1 rfl (by decide), fun e3 => ?_, fun e3 => ?_⟩
      · refine bad 10 ?_ (by decide)
        simp only [Bool.and_eq_true, bne_iff_ne, ne_eq] at e3
        simp [oe, e3]
      · have k1 : ¬ (ops[i.toNat].k ≠ 1 ∧ ops[i.toNat].k ≠ 2) := fun h => by simp [h.1, h.2] at e3
        refine ⟨b, o, ⟨hA, i0, e⟩, mk ops[i.toNat].p, hr _ 1 1 rfl (by decide), cRCut (hp _ (List.getElem_mem hit)) ⟨_, _, _, rfl, fun e4 => ?_, fun e4 => ?_⟩⟩
        · have hc : cutB ops[i.toNat].p = none := by
            cases hh : cutB ops[i.toNat].p with
            | none => rfl
            | some y => rw [show (cutV ops[i.toNat].p).2.2 = true by simp [cutV, hh]] at e4; cases e4
          refine bad 20 ?_ (by decide)
          simp only [oe, if_neg k1, hc, if_true]
        · have hc : ¬ cutB ops[i.toNat].p = none := fun hh => by rw [cut_none hh] at e4; cases e4
          have hoe : oe ops[i.toNat] = if 32 < ops[i.toNat].v.length then 3 else if ops[i.toNat].k = 2 ∧ ops[i.toNat].v ≠ [] then 1 else 0 := by
            simp only [oe, if_neg k1, if_neg hc]
          refine ⟨b, o, ⟨hA, i0, e⟩, ops[i.toNat].k, mk ops[i.toNat].p, mk ops[i.toNat].v, hr _ 0 3 rfl (by decide), cRValue ?_⟩
          have hcast : ((if 32 < ops[i.toNat].v.length then 3 else if ops[i.toNat].k = 2 ∧ ops[i.toNat].v ≠ [] then 1 else 0 : Int)) = ((oe ops[i.toNat] : Nat) : Int) := by
            rw [hoe]; split
            · rfl
            · split <;> rfl
          rw [hcast]
          refine ⟨_, rfl, fun e5 => ?_, fun e5 => ?_⟩
          · exact bad _ rfl (fun h => by rw [h] at e5; simp at e5)
          · have e5 : oe ops[i.toNat] = 0 := by
              have : ((oe ops[i.toNat] : Nat) : Int) = 0 := by simpa using e5
              omega
            rw [wrap64 (n := i + 1) (by omega) (by omega)]
            refine ⟨⟨rfl, ⟨by omega, by omega⟩, fun j hj hji => ?_⟩, by omega⟩
            by_cases hji2 : (j : Int) < i
            · exact ha j hj hji2
            · have : j = i.toNat := by omega
              subst this; exact e5
    · have e : i = ops.length := by simp at e; omega
      rw [eachE_all fun j hj => ha j hj (by omega)] at hk
      exact hk
theorem cRDoes (hx : RfAt h mA mC S) (hn : S.length + ops.length ≤ 900) (hl : SR EncOp h oA ops) (hp : ∀ o ∈ ops, o.p.length ≤ 1000000) (hk : ∀ a c h', RfAt h' a c (doOps S ops) → h.Sub h' → K (.agg #[.slice a (doOps S ops).length c]) h') : CallH Try.prog id_ref13_Map_Does [.agg #[.slice mA S.length mC], .slice oA ops.length oC] K h := by
  refine F_ref13_Map_Does_ok (LoopP.ind (fun (z : Int × (Option Addr × Nat × Nat) × Unit) h' => ∃ (i : Nat) (a : Option Addr) (c : Nat), z = ((i : Int), (a, (doOps S (ops.take i)).length, c), ()) ∧ i ≤ ops.length ∧ RfAt h' a c (doOps S (ops.take i)) ∧ (doOps S (ops.take i)).length ≤ S.length + i ∧ h.Sub h') (fun z _ => (ops.length - z.1).toNat) ?_
    ⟨0, mA, mC, rfl, Nat.zero_le _, hx, Nat.le_refl _, fun _ _ e => e⟩)
  rintro _ h1 ⟨i, a, c, rfl, hi, hx1, hl1, s1⟩
  dsimp only
  refine ⟨fun e => ?_, fun e => ?_⟩
  · have e : i < ops.length := by simpa using e
    obtain ⟨b, o, hA, hr⟩ := (hl.sub s1).get e
    have hstep := doOps_step S e
    refine ⟨b, o, ⟨hA, by omega, by omega⟩, ops[i].k, hr _ 0 1 (by simp [EncOp]) (by decide), fun e2 => ?_, fun e2 => ?_⟩
    · have e2 : ops[i].k = 2 := by simpa using e2
      rw [if_pos e2] at hstep
      refine ⟨b, o, ⟨hA, by omega, by omega⟩, mk ops[i].p, hr _ 1 1 (by simp [EncOp]) (by decide), cWithout hx1 fun a2 c2 h2 hx2 s2 => ⟨_, _, _, rfl, ?_⟩⟩
      rw [wrap64 (n := (i : Int) + 1) (by omega) (by omega)]
      rw [← hstep] at hx2 ⊢
      refine ⟨⟨i + 1, a2, c2, rfl, by omega, hx2, ?_, s1.tr s2⟩, by omega⟩
      rw [hstep]
      have := del_len (doOps S (ops.take i)) ops[i].p
      omega
    · have e2 : ¬ ops[i].k = 2 := by simpa using e2
      rw [if_neg e2] at hstep
      refine ⟨b, o, ⟨hA, by omega, by omega⟩, mk ops[i].p, hr _ 1 1 (by simp [EncOp]) (by decide), b, o, ⟨hA, by omega, by omega⟩, mk ops[i].v, hr _ 2 1 (by simp [EncOp]) (by decide), cWith hx1 (by omega) (hp _ (List.getElem_mem e)) fun a2 c2 h2 hx2 s2 => ⟨_, _, _, rfl, ?_⟩⟩
      rw [wrap64 (n := (i : Int) + 1) (by omega) (by omega)]
      rw [← hstep] at hx2 ⊢
      refine ⟨⟨i + 1, a2, c2, rfl, by omega, hx2, ?_, s1.tr s2⟩, by omega⟩
      rw [hstep, ins_len _ _ _ hx1.up]
      split <;> omega
  · have e : i = ops.length := by simp at e; omega
    subst e
    rw [List.take_length] at hx1 ⊢
    exact hk a c h1 hx1 s1
theorem cRDo (hx : RfAt h mA mC S) (hn : S.length ≤ 48) (hl : SR EncOp h oA ops) (hop : ∀ o ∈ ops, o.p.length ≤ 1000000) (hk : ∀ a c h', RfAt h' a c (doS S ops) → h.Sub h' → K (.tuple #[.agg #[.slice a (doS S ops).length c], .int .i64 (doE S ops : Int)]) h') : CallH Try.prog id_ref13_Map_Do [.agg #[.slice mA S.length mC], .slice oA ops.length oC] K h := by
  refine F_ref13_Map_Do_ok (cRRight12 hl (fun o ho => by have := hop o ho; omega) ⟨_, rfl, fun e => ?_, fun e => ?_⟩)
  · have e : rightE 1 1 ops ≠ 0 := fun h => by rw [h] at e; simp at e
    have hE : doE S ops = rightE 1 1 ops := by unfold doE; rw [if_pos e]
    have hS : doS S ops = S := by unfold doS; rw [hE, if_neg e]
    rw [hE, hS] at hk
    exact hk _ _ h hx fun _ _ e => e
  · have e : rightE 1 1 ops = 0 := by
      have : ((rightE 1 1 ops : Nat) : Int) = 0 := by simpa using e
      omega
    have h4 := (right_zero e).1
    refine cRDoes hx (by omega) hl hop fun a c h1 hx1 s1 => ⟨_, _, _, rfl, fun e3 => ?_, fun e3 => ?_⟩
    · have e3 : 48 < (doOps S ops).length := by simp at e3; omega
      have hE : doE S ops = 6 := by unfold doE; rw [if_neg (by simp [e]), if_pos e3]
      have hS : doS S ops = S := by unfold doS; rw [hE, if_neg (by decide)]
      rw [hE, hS] at hk
      exact hk _ _ h1 (hx.sub s1) s1
    · have e3 : ¬ 48 < (doOps S ops).length := by simp at e3; omega
      have hE : doE S ops = 0 := by unfold doE; rw [if_neg (by simp [e]), if_neg e3]
      have hS : doS S ops = doOps S ops := by unfold doS; rw [hE, if_pos rfl]
      rw [hE, hS] at hk
      exact hk _ _ h1 hx1 s1
theorem cROf13 {l : List PrR} (hl : SR EncPr h lA l) (hp : ∀ x ∈ l, x.p.length ≤ 1000000) (hk : ∀ a c h', RfAt h' a c (ofV l).2 → h.Sub h' → K (.tuple #[.agg #[.slice a (ofV l).2.length c], .int .i64 ((ofV l).1 : Int)]) h') :
    CallH Try.prog id_ref13_Of [.slice lA l.length lC] K h := by
  have hnil : ∀ g, RfAt g none 0 [] := fun g => ⟨.inl rfl, Nat.le_refl _, List.Pairwise.nil, by decide, by simp⟩
  refine F_ref13_Of_ok ⟨fun e => ?_, fun e => ?_⟩
  · have e : 48 < l.length := by simp at e; omega
    have hv : ofV l = (6, []) := by unfold ofV; rw [if_pos e]
    rw [hv] at hk
    exact hk none 0 h (hnil h) fun _ _ e => e
  · have e : ¬ 48 < l.length := by simp at e; omega
    have hv : ofV l = ofL l [] := by unfold ofV; rw [if_neg e]
    rw [hv] at hk
    refine LoopP.ind (fun (z : Int × (Option Addr × Nat × Nat) × (Option Addr × Nat × Nat) × Unit) h' => ∃ (i : Nat) (S : List PrR) (a : Option Addr) (c : Nat) (q : Option Addr × Nat × Nat), z = ((i : Int), q, (a, S.length, c), ()) ∧ i ≤ l.length ∧ ofL l [] = ofL (l.drop i) S ∧ RfAt h' a c S ∧ S.length ≤ i ∧ h.Sub h') (fun z _ => (l.length - z.1).toNat) ?_
      ⟨0, [], none, 0, (none, 0, 0), rfl, Nat.zero_le _, rfl, hnil h, Nat.le_refl _, fun _ _ e => e⟩
    rintro _ h2 ⟨i, S, a, c, q, rfl, hi, hof, hx, hSi, s2⟩
    dsimp only
    refine ⟨fun e2 => ?_, fun e2 => ?_⟩
    · have e2 : i < l.length := by simpa using e2
      obtain ⟨b, o, hA, hr⟩ := (hl.sub s2).get e2
      rw [List.drop_eq_getElem_cons e2, ofL] at hof
      have hpi := hp _ (List.getElem_mem e2)
      refine ⟨b, o, ⟨hA, by omega, by omega⟩, mk l[i].p, hr _ 0 1 (by simp [EncPr]) (by decide), cRCut (by omega) ⟨_, _, _, rfl, b, o, fun _ => ⟨hA, by omega, by omega⟩, mk l[i].v, fun _ => hr _ 1 1 (by simp [EncPr]) (by decide), fun e3 => ?_, fun e3 => ?_⟩⟩
      · have e3 : cutB l[i].p = none ∨ 32 < l[i].v.length := by
          rw [size_mk] at e3
          simp only [Bool.or_eq_true, Bool.not_eq_true', decide_eq_true_eq] at e3
          rcases e3 with e3 | e3
          · left
            cases hc : cutB l[i].p with
            | none => rfl
            | some y => simp [cutV, hc] at e3
          · right; omega
        rw [if_pos e3] at hof
        rw [hof] at hk
        exact hk none 0 h2 (hnil h2) s2
      · have e3 : ¬ (cutB l[i].p = none ∨ 32 < l[i].v.length) := by
          rw [size_mk] at e3
          simp only [Bool.or_eq_false_iff, Bool.not_eq_false', decide_eq_false_iff_not] at e3
          rintro (h | h)
          · rw [cut_none h] at e3; exact absurd e3.1 (by decide)
          · omega
        rw [if_neg e3] at hof
        refine ⟨b, o, ⟨hA, by omega, by omega⟩, mk l[i].p, hr _ 0 1 (by simp [EncPr]) (by decide), cFind hx.sr hx.up (by omega) hx.p ⟨_, _, rfl, fun e4 => ?_, fun e4 => ?_⟩⟩
        · have e4 : look S l[i].p ≠ none := fun h => by rw [h] at e4; cases e4
          rw [if_pos e4] at hof
          rw [hof] at hk
          exact hk none 0 h2 (hnil h2) s2
        · have e4 : ¬ look S l[i].p ≠ none := fun h => by
            cases hc : look S l[i].p with
            | none => exact h hc
            | some y => rw [hc] at e4; cases e4
          rw [if_neg e4] at hof
          refine ⟨b, o, ⟨hA, by omega, by omega⟩, mk l[i].p, hr _ 0 1 (by simp [EncPr]) (by decide), b, o, ⟨hA, by omega, by omega⟩, mk l[i].v, hr _ 1 1 (by simp [EncPr]) (by decide), cWith hx (by omega) hpi fun a2 c2 h3 hx3 s3 => ⟨_, _, _, rfl, ?_⟩⟩
          rw [wrap64 (n := (i : Int) + 1) (by omega) (by omega)]
          refine ⟨⟨i + 1, _, a2, c2, _, rfl, by omega, hof, hx3, ?_, s2.tr s3⟩, by omega⟩
          rw [ins_len _ _ _ hx.up]
          split <;> omega
    · have e2 : i = l.length := by simp at e2; omega
      subst e2
      rw [List.drop_length, ofL] at hof
      rw [hof] at hk
      exact hk a c h2 hx s2
theorem cRList (hx : RfAt h mA mC S) (hk : ∀ a c B' h', Buf EncS 9 B' h' a ((S.map (·.p)).filter (hasPre p)).length c ((S.map (·.p)).filter (hasPre p)) → Chg [] B' h h' → K (.slice a ((S.map (·.p)).filter (hasPre p)).length c) h') : CallH Try.prog id_ref13_Map_List [.agg #[.slice mA S.length mC], .string (mk p)] K h := by
  have hl1000 := hx.n
  refine F_ref13_Map_List_ok (LoopP.ind (fun (z : (Option Addr × Nat × Nat) × Int × Unit) h' => ∃ (i : Nat) (a : Option Addr) (n c : Nat) (B' : List Nat), z = ((a, n, c), (i : Int), ()) ∧ i ≤ S.length ∧ Buf EncS 9 B' h' a n c (((S.map (·.p)).take i).filter (hasPre p)) ∧ Chg [] B' h h') (fun z _ => (S.length - z.2.1).toNat) ?_
    ⟨0, none, 0, 0, [], rfl, Nat.zero_le _, Buf.nil _ _ _ _, Chg.refl _ _⟩)
  rintro _ h1 ⟨i, a, n, c, B1, rfl, hi, hb1, c1⟩
  dsimp only
  have hbn := hb1.1
  have hfl : (((S.map (·.p)).take i).filter (hasPre p)).length ≤ i := Nat.le_trans (List.length_filter_le _ _) (by rw [List.length_take]; omega)
  refine ⟨fun e => ?_, fun e => ?_⟩
  · have e : i < S.length := by simpa using e
    obtain ⟨b, o, hA, hr⟩ := (hx.sr.sub c1.sub0).get e
    have hq : (decide (((mk S[i].p).size : Int) ≥ ((mk p).size : Int)) && strEq (subS (mk S[i].p) 0 ((mk p).size : Int)) (mk p)) = hasPre p S[i].p := by
      rw [subS_mk, strEq_mk', size_mk, size_mk]
      unfold hasPre
      congr 1
      rw [decide_eq_decide]; omega
    have hft := filter_take (hasPre p) (l := S.map (·.p)) (i := i) (by simpa using e)
    simp only [List.getElem_map] at hft
    refine ⟨b, o, ⟨hA, by omega, by omega⟩, mk S[i].p, hr _ 0 1 (by simp [EncPr]) (by decide), fun e3 => ⟨by omega, by omega, by simpa using e3⟩, ?_⟩
    rw [hq]
    refine ⟨fun e2 => ?_, fun e2 => ?_⟩
    · rw [if_pos e2] at hft
      refine hb1.append (new := [S[i].p]) rfl rfl rfl (by omega) fun a' c' B' h' hb' hc' _ => ?_
      rw [wrap64 (n := (i : Int) + 1) (by omega) (by omega)]
      exact ⟨⟨i + 1, a', n + 1, c', B', rfl, by omega, by rw [hft]; exact hb', c1.trans hc'⟩, by omega⟩
    · rw [if_neg (by rw [e2]; decide), List.append_nil] at hft
      rw [wrap64 (n := (i : Int) + 1) (by omega) (by omega)]
      exact ⟨⟨i + 1, a, n, c, B1, rfl, by omega, by rw [hft]; exact hb1, c1⟩, by omega⟩
  · have e : i = S.length := by simp at e; omega
    subst e
    rw [List.take_of_length_le (by simp)] at hb1 hbn
    rw [hbn] at hb1 ⊢
    exact hk a c B1 h1 hb1 c1
theorem cRFilter (hx : RfAt h mA mC S) (hl : SR EncMt h lA ms) (hn : ms.length ≤ 1000000) (hk : ∀ a c B' h', Buf EncPr T_api_Pair B' h' a (shipS ms S).length c (shipS ms S) → Chg [] B' h h' → K (.agg #[.slice a (shipS ms S).length c]) h') : CallH Try.prog id_ref13_Map_Filter [.agg #[.slice mA S.length mC], .slice lA ms.length lC] K h := by
  have hl1000 := hx.n
  refine F_ref13_Map_Filter_ok (LoopP.ind (fun (z : Int × (Option Addr × Nat × Nat) × Unit) h' => ∃ (i : Nat) (a : Option Addr) (n c : Nat) (B' : List Nat), z = ((i : Int), (a, n, c), ()) ∧ i ≤ S.length ∧ Buf EncPr T_api_Pair B' h' a n c (shipS ms (S.take i)) ∧ Chg [] B' h h') (fun z _ => (S.length - z.1).toNat) ?_
    ⟨0, none, 0, 0, [], rfl, Nat.zero_le _, Buf.nil _ _ _ _, Chg.refl _ _⟩)
  rintro _ h1 ⟨i, a, n, c, B1, rfl, hi, hb1, c1⟩
  dsimp only
  have hbn := hb1.1
  have hfl : (shipS ms (S.take i)).length ≤ i := Nat.le_trans (List.length_filter_le _ _) (by rw [List.length_take]; omega)
  refine ⟨fun e => ?_, fun e => ?_⟩
  · have e : i < S.length := by simpa using e
    obtain ⟨b, o, hA, hr⟩ := (hx.sr.sub c1.sub0).get e
    have hft : shipS ms (S.take (i + 1)) = shipS ms (S.take i) ++ if shipsB ms S[i].p = true then [S[i]] else [] := filter_take (fun (x : PrR) => shipsB ms x.p) e
    refine ⟨b, o, ⟨hA, by omega, by omega⟩, mk S[i].p, hr _ 0 1 (by simp [EncPr]) (by decide), cRShips (hl.sub c1.sub0) hn (by have := hx.p _ (List.getElem_mem e); omega) ⟨_, rfl, fun e2 => ?_, fun e2 => ?_⟩⟩
    · rw [if_pos e2] at hft
      refine ⟨b, o, ⟨hA, by omega, by omega⟩, mk S[i].p, mk S[i].v, hr _ 0 2 (by simp [EncPr]) (by decide), ?_⟩
      refine hb1.append (new := [S[i]]) rfl rfl rfl (by omega) fun a' c' B' h' hb' hc' _ => ?_
      rw [wrap64 (n := (i : Int) + 1) (by omega) (by omega)]
      exact ⟨⟨i + 1, a', n + 1, c', B', rfl, by omega, by rw [hft]; exact hb', c1.trans hc'⟩, by omega⟩
    · rw [if_neg (by rw [e2]; decide), List.append_nil] at hft
      rw [wrap64 (n := (i : Int) + 1) (by omega) (by omega)]
      exact ⟨⟨i + 1, a, n, c, B1, rfl, by omega, by rw [hft]; exact hb1, c1⟩, by omega⟩
  · have e : i = S.length := by simp at e; omega
    subst e
    rw [List.take_length] at hb1 hbn
    rw [hbn] at hb1 ⊢
    exact hk a c B1 h1 hb1 c1
end TL

namespace TL
open Go Go.Proofs Go.Shelf
variable {B : List Nat} {h : PH} {K : Value → PH → Prop} {x : Option Addr} {S : List PrR}
variable {rA lA oA : Option Addr} {rC lC oC : Nat} {rows : List OsR} {ms : List Mt} {ops : List OpR} {l : List PrR}

/-- a map's change leaves rows of pairs -/
theorem OmAt.keepPrs {B' : List Nat} {h' : PH} {a : Option Addr} {l : List PrR} (hx : OmAt B h x S) (hl : SR EncPr h a l) (c : Chg B B' h h') : SR EncPr h' a l := by
  rcases hl with hl | ⟨b, o, ha, hr⟩
  · exact .inl hl
  · by_cases h0 : l = []
    · exact .inl h0
    · obtain ⟨bn, bm, rfl, rfl, h1, h2, h3⟩ := hx
      obtain ⟨cs, T, fr, hb, hle, hv⟩ := rds_some hr
      have hpos : 0 < l.length := List.length_pos_iff.2 h0
      have hsz : 2 ≤ cs.size := by
        have : l.length * EncPr.k = l.length * 2 := rfl
        omega
      refine .inr ⟨b, o, ha, ?_⟩
      have hbn : b ∉ [bn, bm] := by
        intro hm
        simp only [List.mem_cons, List.not_mem_nil, or_false] at hm
        rcases hm with rfl | rfl
        · rw [h2] at hb
          cases hb
          simp at hsz
        · obtain ⟨es, c', e, _⟩ := h3
          rw [e] at hb; cases hb
      unfold PH.rds at hr ⊢
      rw [hb] at hr
      rw [c.keep hb hbn]; exact hr
theorem RfAt.chg {B' : List Nat} {h' : PH} {a : Option Addr} {c : Nat} {T : List PrR} (hx : OmAt B h x S) (hr : RfAt h a c T) (cc : Chg B B' h h') : RfAt h' a c T := ⟨hx.keepPrs hr.sr cc, hr.le, hr.up, hr.n, hr.p⟩
theorem gd_ofV (l : List PrR) : Gd (ofV l).2 := by
  cases hv : ofV l with
  | mk e T =>
    by_cases he : e = 0
    · subst he; exact (ofV_gd hv).2.2
    · have : T = [] := by
        unfold ofV at hv
        split at hv
        · cases hv; rfl
        · have key : ∀ (l S : List PrR) e T, ofL l S = (e, T) → e ≠ 0 → T = [] := by
            intro l
            induction l with
            | nil => intro S e T h hne; simp [ofL] at h; exact absurd h.1.symm hne
            | cons x r ih =>
              intro S e T h hne
              unfold ofL at h
              split at h
              · cases h; rfl
              · split at h
                · cases h; rfl
                · exact ih _ _ _ h hne
          exact key _ _ _ _ hv he
      rw [this]; exact gd0
theorem ofV_err (h : (ofV l).1 ≠ 0) : (ofV l).2 = [] := by
  unfold ofV at h ⊢
  split
  · rfl
  · rename_i hn
    rw [if_neg hn] at h
    have key : ∀ (l S : List PrR), (ofL l S).1 ≠ 0 → (ofL l S).2 = [] := by
      intro l
      induction l with
      | nil => intro S h; exact absurd rfl h
      | cons x r ih =>
        intro S h
        unfold ofL at h ⊢
        split
        · rfl
        · rename_i h1
          rw [if_neg h1] at h
          split
          · rfl
          · rename_i h2
            rw [if_neg h2] at h
            exact ih _ h
    exact key _ _ h

/-- omap.Of, whatever it tells -/
theorem cOfU (hl : SR EncPr h lA l) (hp : ∀ x ∈ l, x.p.length ≤ 4611686018427387904) : CallH Try.prog id_omap_Of [.slice lA l.length lC] (fun v h6 => ∃ m, v = .tuple #[.pointer m, .int .i64 ((ofV l).1 : Int)] ∧ h.Sub h6 ∧ (((ofV l).1 = 0 ∧ ∃ B, OmAt B h6 m (ofV l).2 ∧ Chg [] B h h6) ∨ ((ofV l).1 ≠ 0 ∧ m = none))) h :=
  cOfO hl hp (fun e0 m B6 h6 m6 c6 => ⟨m, by rw [e0]; rfl, c6.sub0, .inl ⟨e0, B6, m6, c6⟩⟩) (fun e0 h6 s6 => ⟨none, rfl, s6, .inr ⟨e0, rfl⟩⟩)
theorem OmapPlays_den {p : List UInt8} (hl : SR EncPr h lA l) (hr : SR EncOs h rA rows) (hs : ∀ r ∈ rows, SR EncOp h r.a r.ops) (hk : ∀ h', h.Sub h' → K (.bool true) h') : CallH Try.prog id_law13_OmapPlays [.slice lA l.length lC, .slice rA rows.length rC, .string (mk p)] K h := by
  refine F_law13_OmapPlays_ok ⟨fun _ h' => h' = h ∧ gPrs l = false ∧ gRows rows = false, cGreatPairs hl ⟨_, rfl, fun el => cGreatO hr hs ⟨_, rfl, fun _ => wk0 hk, fun eg => ⟨rfl, el, (Bool.or_eq_false_iff.1 eg).1⟩⟩, fun _ => wk0 hk⟩, ?_⟩
  rintro _ hh ⟨rfl, el, eg⟩
  have hrl := (gRows_no eg).1
  have hlp := (gPrs_no el).2
  refine (cOfU hl (fun x hx => by have := (hlp x hx).1; omega)).mono ?_
  rintro _ h6 ⟨m, rfl, s6, hm⟩
  refine ⟨_, _, rfl, cROf13 (hl.sub s6) (fun x hx => by have := (hlp x hx).1; omega) fun a c h7 hx7 s7 => ⟨_, _, _, _, rfl, fun e => ?_, fun _ => ?_⟩⟩
  · exfalso
    rcases hm with ⟨e0, B, hx, _⟩ | ⟨e0, rfl⟩
    · obtain ⟨bn, bm, rfl, _⟩ := hx
      simp [e0] at e
    · have : ((ofV l).1 : Int) ≠ 0 := by omega
      simp at e
      exact e0 e
  refine ⟨fun z h' => RfAt h' a c (ofV l).2 ∧ ∃ B, OmAt B h' z.1 (ofV l).2 ∧ Chg [] B hh h', ⟨fun e => ?_, fun e => ?_⟩, ?_⟩
  · have e0 : (ofV l).1 ≠ 0 := fun h => by rw [h] at e; simp at e
    refine cNewO fun y B9 h9 y9 c9 => ⟨_, rfl, hx7.sub c9.sub0, B9, ?_, Chg.from (s6.tr s7) c9⟩
    rw [ofV_err e0]; exact y9
  · have e0 : (ofV l).1 = 0 := by
      have : (((ofV l).1 : Nat) : Int) = 0 := by simpa using e
      omega
    rcases hm with ⟨_, B, hx, cB⟩ | ⟨e1, _⟩
    · exact ⟨hx7, B, hx.sub s7, ⟨fun b o _ e => s7 b o (cB.sub0 b o e), cB.2⟩⟩
    · exact absurd e0 e1
  rintro ⟨m, u⟩ h8 ⟨hx8, B8, m8, c8⟩
  dsimp only at m8 ⊢
  have hg0 := gd_ofV l
  generalize (ofV l).2 = S0 at hx8 m8 hg0
  refine LoopP.ind (fun (z : Int × (Option Addr × Nat × Nat) × Unit) h' => ∃ (i : Nat) (a : Option Addr) (c : Nat) (S : List PrR) (B : List Nat), z = ((i : Int), (a, S.length, c), ()) ∧ i ≤ rows.length ∧ RfAt h' a c S ∧ OmAt B h' m S ∧ Gd S ∧ Chg [] B hh h') (fun z _ => (rows.length - z.1).toNat) ?_
    ⟨0, a, c, S0, B8, rfl, Nat.zero_le _, hx8, m8, hg0, c8⟩
  clear hx8 m8 hg0 c8 hx7 hm
  rintro _ h9 ⟨i, a, c, S, B9, rfl, hi, hx9, m9, hg, c9⟩
  dsimp only
  refine ⟨fun e => ?_, fun _ => wk c9.sub0 hk⟩
  have e : i < rows.length := by simpa using e
  refine doRows hr hs eg e c9.sub0 m9 fun B10 h10 m10 c10 => ⟨_, rfl, ?_⟩
  have hx10 := hx9.chg m9 c10
  have c910 := c9.trans c10
  have hg10 := hg.do rows[i].ops
  obtain ⟨b, o, hA, hrd⟩ := (hr.sub c910.sub0).get e
  obtain ⟨q1, q2, q3⟩ := rowOps (h := h10) eg (fun r hr => (hs r hr).sub c910.sub0) e
  have q4 : ∀ o ∈ rows[i].ops, o.p.length ≤ 1000000 := fun o ho => by
    have := (gOps_no ((gRows_no eg).2 _ (List.getElem_mem e))).2 o ho
    omega
  refine ⟨b, o, ⟨hA, by omega, by omega⟩, rows[i].a, rows[i].ops.length, rows[i].c, hrd _ 0 1 (by simp [EncOs]) (by decide), cRDo hx10 hg.1 q1 q4 fun a2 c2 h11 hx11 s11 => ⟨_, _, _, _, rfl, ?_⟩⟩
  have m11 := m10.sub s11
  refine cGet m11 ⟨_, _, rfl, cRGet hx11 ⟨_, _, rfl, fun _ => ?_, fun e2 => by simp [strEq_self] at e2⟩⟩
  refine cLen m11 hg10 fun h12 s12 => ⟨_, rfl, fun _ => ?_, fun e2 => by simp at e2⟩
  have m12 := m11.sub s12
  have hx12 := hx11.sub s12
  refine cAll m12 hg10 fun a13 k13 B13 h13 b13 c13 => ⟨_, _, _, rfl, cRSame b13.sr (hx12.sub c13.sub0).sr (by have := hg10.1; omega) ⟨_, rfl, fun _ => ?_, fun e2 => by simp at e2⟩⟩
  have m13 := m12.chg c13 (Dj.nil _)
  have hx13 := hx12.sub c13.sub0
  refine cListO (pre := p) m13 hg10 fun a14 k14 B14 h14 b14 c14 => ⟨_, _, _, rfl, cRList (p := p) (hx13.sub c14.sub0) fun a15 k15 B15 h15 b15 c15 => ⟨_, _, _, rfl, ?_⟩⟩
  refine cSameTexts (b14.sr.sub c15.sub0) b15.sr ?_ ⟨_, rfl, fun e2 => by simp at e2, fun _ => ?_⟩
  · have h1 := List.length_filter_le (hasPre p) ((doS S rows[i].ops).map (·.p))
    have := hg10.1
    simp at h1; omega
  · rw [wrap64 (n := (i : Int) + 1) (by omega) (by omega)]
    have s1015 : h10.Sub h15 := s11.tr (s12.tr (c13.sub0.tr (c14.sub0.tr c15.sub0)))
    have hx15 := hx13.sub (c14.sub0.tr c15.sub0)
    exact ⟨⟨i + 1, a2, c2, _, B10, rfl, by omega, hx15, m10.sub s1015, hg10, ⟨fun b o _ e => s1015 b o (c910.sub0 b o e), c910.2⟩⟩, by omega⟩
theorem OmapFilters_den (hl : SR EncPr h lA l) {qA : Option Addr} {qC : Nat} (hm : SR EncMt h qA ms) (hk : ∀ h', h.Sub h' → K (.bool true) h') : CallH Try.prog id_law13_OmapFilters [.slice lA l.length lC, .slice qA ms.length qC] K h := by
  refine F_law13_OmapFilters_ok ⟨fun _ h' => h' = h ∧ gPrs l = false ∧ ms.length ≤ 100, cGreatPairs hl ⟨_, rfl, fun el => cGreat1 hm fun b hb => ⟨_, rfl, fun _ => wk0 hk, fun e => ⟨rfl, el, (hb e).1⟩⟩, fun _ => wk0 hk⟩, ?_⟩
  rintro _ hh ⟨rfl, el, hm100⟩
  have hlp := (gPrs_no el).2
  refine (cOfU hl (fun x hx => by have := (hlp x hx).1; omega)).mono ?_
  rintro _ h6 ⟨m, rfl, s6, hmm⟩
  refine ⟨_, _, rfl, cROf13 (hl.sub s6) (fun x hx => by have := (hlp x hx).1; omega) fun a c h7 hx7 s7 => ⟨_, _, _, _, rfl, fun e => by simp at e, fun _ => ⟨fun _ => wk (s6.tr s7) hk, fun e => ?_⟩⟩⟩
  have e0 : (ofV l).1 = 0 := by
    have : (((ofV l).1 : Nat) : Int) = 0 := by simpa using e
    omega
  have hg := gd_ofV l
  obtain ⟨B6, m6⟩ : ∃ B, OmAt B h6 m (ofV l).2 := by
    rcases hmm with ⟨_, B, hx, _⟩ | ⟨e1, _⟩
    · exact ⟨B, hx⟩
    · exact absurd e0 e1
  generalize (ofV l).2 = S at hx7 m6 hg
  have m7 := m6.sub s7
  have s07 := s6.tr s7
  refine cFilterO m7 hg (hm.sub s07) (by omega) fun y B9 h9 y9 c9 => ⟨_, rfl, nwL (cs := EncOp.row [⟨1, [122, 122, 122, 47, 122], [122]⟩]) fun b h10 hb hb10 c10 => ?_⟩
  have hops : SR EncOp h10 (some ⟨b, 0, none⟩) [⟨1, [122, 122, 122, 47, 122], [122]⟩] := .inr ⟨b, 0, rfl, rdsL hb10 rfl rfl⟩
  refine cDo (ops := [⟨1, [122, 122, 122, 47, 122], [122]⟩]) (y9.chg c10 (Dj.nil _)) hops (by decide) (by decide) fun B11 h11 y11 c11 => ⟨_, rfl, ?_⟩
  have c711 : Chg [] B11 h7 h11 := by
    have c910 : Chg [] B9 h7 h10 := ⟨fun b o _ e => c10.sub0 b o (c9.sub0 b o e), c9.2⟩
    exact c910.trans c11
  have s711 := c711.sub0
  have m11 := m7.sub s711
  refine cFilterO m11 hg (hm.sub (s07.tr s711)) (by omega) fun z B12 h12 z12 c12 => ⟨_, rfl, cAll z12 (hg.ship ms) fun a13 k13 B13 h13 b13 c13 => ⟨_, _, _, rfl, ?_⟩⟩
  have s713 := s711.tr (c12.sub0.tr c13.sub0)
  refine cRFilter (hx7.sub s713) (hm.sub (s07.tr s713)) (by omega) fun a14 k14 B14 h14 b14 c14 => ⟨_, _, _, rfl, cRSame (b13.sr.sub c14.sub0) b14.sr (by have := (hg.ship ms).1; omega) ⟨_, rfl, fun _ => ?_, fun e2 => by simp at e2⟩⟩
  have s714 := s713.tr c14.sub0
  refine cAll (m7.sub s714) hg fun a15 k15 B15 h15 b15 c15 => ⟨_, _, _, rfl, cRSame b15.sr (hx7.sub (s714.tr c15.sub0)).sr (by have := hg.1; omega) ⟨_, rfl, fun _ => wk (s07.tr (s714.tr c15.sub0)) hk, fun e2 => by simp at e2⟩⟩

/-! ### The chapter's examples -/
def kA (i : Nat) : UInt8 := UInt8.ofNat (97 + i % 24)
def kB (i : Nat) : UInt8 := UInt8.ofNat (97 + i / 24)
def kP (i : Nat) : List UInt8 := [97, 112, 112, 47, kA i, kB i]
def kOp (i : Nat) : OpR := ⟨1, kP i, [49]⟩
def kS (n : Nat) : List PrR := (List.range n).foldl (fun S i => ins S (kP i) [49]) []
theorem k_bytes : ∀ i : Nat, i < 48 → IntKind.wrap .u8 (IntKind.wrap .i64 ((97 : Int) + ((i : Int).tmod (24 : Int)))) = ((kA i).toNat : Int) ∧ IntKind.wrap .u8 (IntKind.wrap .i64 ((97 : Int) + (IntKind.wrap .i64 ((i : Int).tdiv (24 : Int))))) = ((kB i).toNat : Int) := by decide +kernel
theorem k_right : ∀ i < 48, rightE 1 1 [kOp i] = 0 := by decide +kernel
theorem k_len : ∀ i < 49, (kS i).length ≤ 48 := by decide +kernel
theorem k_step (i : Nat) : doOps (kS i) [kOp i] = kS (i + 1) := by
  unfold kS
  rw [List.range_succ, List.foldl_append]; rfl
theorem k_do {i : Nat} (hi : i < 48) : doE (kS i) [kOp i] = 0 ∧ doS (kS i) [kOp i] = kS (i + 1) := by
  have h1 : doE (kS i) [kOp i] = 0 := doE_zero.2 ⟨k_right i hi, by rw [k_step]; exact k_len (i + 1) (by omega)⟩
  exact ⟨h1, by unfold doS; rw [if_pos h1, k_step]⟩
def appAA : List UInt8 := [97, 112, 112, 47, 97, 97]
def appZZ : List UInt8 := [97, 112, 112, 47, 122, 122]
def eOps : List OpR := [⟨1, appAA, [57]⟩, ⟨1, appZZ, [49]⟩]
def fOps : List OpR := [⟨1, appZZ, [49]⟩, ⟨2, appAA, []⟩]
theorem e_do : doE (kS 48) eOps = 6 := by decide +kernel
theorem e_get : look (kS 48) appAA = some [49] := by decide +kernel
theorem f_do : doE (kS 48) fOps = 0 := by decide +kernel
theorem f_len : (doS (kS 48) fOps).length = 48 := by decide +kernel
theorem cPutK {p v : ByteArray} (hk : K (.agg #[.int .u8 1, .string p, .string v]) h) : CallH Try.prog id_law13_OmapKnown_1 [.string p, .string v] K h := F_law13_OmapKnown_1_ok hk
theorem OmapKnown_den (hk : ∀ h', h.Sub h' → K (.bool true) h') : CallH Try.prog id_law13_OmapKnown [] K h := by
  refine F_law13_OmapKnown_ok (cNewO fun m B1 h1 m1 c1 => ⟨_, rfl, cPutK ⟨_, _, _, rfl, cPutK ⟨_, _, _, rfl, cPutK ⟨_, _, _, rfl, nwL (cs := EncOp.row wOps) fun b2 h2 hb hb2 c2 => ?_⟩⟩⟩⟩)
  have hops : SR EncOp h2 (some ⟨b2, 0, none⟩) wOps := .inr ⟨b2, 0, rfl, rdsL hb2 rfl rfl⟩
  refine cDo (ops := wOps) (m1.chg c2 (Dj.nil _)) hops (by decide) (by decide) fun B3 h3 m3 c3 => ⟨_, rfl, ?_⟩
  rw [wS_eq] at m3
  rw [wE_eq]
  have c03 : Chg [] B3 h h3 := (c1.onto c2.sub0).trans c3
  refine cAll m3 wGd fun a4 k4 B4 h4 b4 c4 => ⟨_, _, _, rfl, cTwo fun bt h5 ht s5 => ⟨_, _, _, rfl, cFilterO (ms := twoL) ((m3.sub c4.sub0).sub s5) wGd ht (by decide) fun y B6 h6 y6 c6 => ⟨_, rfl, ?_⟩⟩⟩
  have hsh : shipS twoL wS = [⟨appC, [51]⟩] := by decide +kernel
  have hg6 := wGd.ship twoL
  rw [hsh] at y6 hg6
  refine cAll y6 hg6 fun a7 k7 B7 h7 b7 c7 => ⟨_, _, _, rfl, ?_⟩
  have s37 : h3.Sub h7 := c4.sub0.tr (s5.tr (c6.sub0.tr c7.sub0))
  have b47 := b4.sr.sub (s5.tr (c6.sub0.tr c7.sub0))
  refine ⟨fun z h' => z.1 = true ∧ h' = h7, ?_, ?_⟩
  · obtain ⟨p1, o1, hA1, hr1⟩ := b47.get (i := 0) (by decide)
    obtain ⟨p2, o2, hA2, hr2⟩ := b47.get (i := 1) (by decide)
    obtain ⟨p3, o3, hA3, hr3⟩ := b7.sr.get (i := 0) (by decide)
    refine ⟨p1, o1, fun _ => ⟨hA1, by decide, by decide⟩, mk appC, mk [51], fun _ => hr1 _ 0 2 rfl (by decide), fun _ => ?_, fun e => absurd e (by decide)⟩
    refine ⟨p2, o2, fun _ => ⟨hA2, by decide, by decide⟩, mk opsB, fun _ => hr2 _ 0 1 rfl (by decide), p3, o3, fun _ => ⟨hA3, by decide, by decide⟩, mk appC, fun _ => hr3 _ 0 1 rfl (by decide), by decide +kernel, rfl⟩
  rintro ⟨_, u⟩ h7 ⟨rfl, rfl⟩
  have m7 := m3.sub s37
  have c07 : Chg [] B3 h h7 := ⟨fun b o _ e => s37 b o (c03.sub0 b o e), c03.2⟩
  refine cPutK ⟨_, _, _, rfl, nwL (cs := EncOp.row [⟨1, [65, 112, 112, 47, 120], [49]⟩]) fun b8 h8 hb8 hb8' c8 => ?_⟩
  have hop8 : SR EncOp h8 (some ⟨b8, 0, none⟩) [⟨1, [65, 112, 112, 47, 120], [49]⟩] := .inr ⟨b8, 0, rfl, rdsL hb8' rfl rfl⟩
  refine cDo (ops := [⟨1, [65, 112, 112, 47, 120], [49]⟩]) (m7.chg c8 (Dj.nil _)) hop8 (by decide) (by decide) fun B9 h9 m9 c9 => ⟨_, rfl, ?_⟩
  rw [show doE wS [⟨1, [65, 112, 112, 47, 120], [49]⟩] = 20 by decide +kernel]
  rw [show doS wS [⟨1, [65, 112, 112, 47, 120], [49]⟩] = wS by decide +kernel] at m9
  have c09 : Chg [] B9 h h9 := (c07.onto c8.sub0).trans c9
  refine cPutK ⟨_, _, _, rfl, cPutK ⟨_, _, _, rfl, cPutK ⟨_, _, _, rfl, cPutK ⟨_, _, _, rfl, cPutK ⟨_, _, _, rfl, nwL (cs := EncOp.row (List.replicate 5 ⟨1, appA, [49]⟩)) fun b10 h10 hb10 hb10' c10 => ?_⟩⟩⟩⟩⟩
  have hop10 : SR EncOp h10 (some ⟨b10, 0, none⟩) (List.replicate 5 ⟨1, appA, [49]⟩) := .inr ⟨b10, 0, rfl, rdsL hb10' rfl rfl⟩
  refine cDo (ops := List.replicate 5 ⟨1, appA, [49]⟩) (m9.chg c10 (Dj.nil _)) hop10 (by decide) (by decide) fun B11 h11 m11 c11 => ⟨_, rfl, ?_⟩
  rw [show doE wS (List.replicate 5 ⟨1, appA, [49]⟩) = 3 by decide +kernel]
  have s011 : h.Sub h11 := ((c09.onto c10.sub0).trans c11).sub0
  refine nwL (cs := EncPr.row [⟨appA, []⟩, ⟨appA, []⟩]) fun b12 h12 hb12 hb12' c12 => ?_
  have hp12 : SR EncPr h12 (some ⟨b12, 0, none⟩) [⟨appA, []⟩, ⟨appA, []⟩] := .inr ⟨b12, 0, rfl, rdsL hb12' rfl rfl⟩
  have v12 : ofV [⟨appA, []⟩, ⟨appA, []⟩] = (5, []) := by decide +kernel
  refine cOfO (l := [⟨appA, []⟩, ⟨appA, []⟩]) hp12 (by decide) (fun e => by rw [v12] at e; cases e) (fun _ h13 s13 => ⟨_, _, rfl, ?_⟩)
  rw [v12]
  refine nwL (cs := EncPr.row [⟨[97, 112, 112], []⟩]) fun b14 h14 hb14 hb14' c14 => ?_
  have hp14 : SR EncPr h14 (some ⟨b14, 0, none⟩) [⟨[97, 112, 112], []⟩] := .inr ⟨b14, 0, rfl, rdsL hb14' rfl rfl⟩
  have v14 : ofV [⟨[97, 112, 112], []⟩] = (1, []) := by decide +kernel
  refine cOfO (l := [⟨[97, 112, 112], []⟩]) hp14 (by decide) (fun e => by rw [v14] at e; cases e) (fun _ h15 s15 => ⟨_, _, rfl, ?_⟩)
  rw [v14]
  refine ⟨by decide, nwL (cs := EncPr.row (List.replicate 49 ⟨[], []⟩)) fun b16 h16 hb16 hb16' c16 => ?_⟩
  have hp16 : SR EncPr h16 (some ⟨b16, 0, none⟩) (List.replicate 49 ⟨[], []⟩) := .inr ⟨b16, 0, rfl, rdsL hb16' rfl rfl⟩
  have v16 : ofV (List.replicate 49 ⟨[], []⟩) = (6, []) := by decide +kernel
  refine cOfO (l := List.replicate 49 ⟨[], []⟩) hp16 (by decide) (fun e => by rw [v16] at e; cases e) (fun _ h17 s17 => ⟨_, _, rfl, ?_⟩)
  rw [v16]
  have s017 : h.Sub h17 := s011.tr (c12.sub0.tr (s13.tr (c14.sub0.tr (s15.tr (c16.sub0.tr s17)))))
  refine cNewO fun n B18 h18 n18 c18 => ⟨_, rfl, ?_⟩
  refine LoopP.ind (fun (z : Int × Unit) h' => ∃ (i : Nat) (B : List Nat), z.1 = (i : Int) ∧ i ≤ 48 ∧ OmAt B h' n (kS i) ∧ Gd (kS i) ∧ Chg [] B h h') (fun z _ => (48 - z.1).toNat) ?_ ⟨0, B18, rfl, by decide, n18, gd0, Chg.from s017 c18⟩
  rintro ⟨_, u⟩ h19 ⟨i, B19, rfl, hi, n19, hg, c19⟩
  dsimp only
  refine ⟨fun e => ?_, fun e => ?_⟩
  · have e : i < 48 := by simp at e; omega
    obtain ⟨kb1, kb2⟩ := k_bytes i e
    rw [kb1, kb2]
    refine nwL (cs := EncB.row [kA i, kB i]) fun b20 h20 hb20 hb20' c20 => ?_
    have hstr : SR EncB h20 (some ⟨b20, 0, none⟩) [kA i, kB i] := .inr ⟨b20, 0, rfl, rdsL hb20' rfl rfl⟩
    refine ⟨mk [kA i, kB i], hstr.str, ?_⟩
    have em : (⟨#[97, 112, 112, 47]⟩ : ByteArray) = mk [97, 112, 112, 47] := rfl
    rw [em, mk_append, size_mk, size_mk]
    refine ⟨by simp, cPutK ⟨_, _, _, rfl, nwL (cs := EncOp.row [kOp i]) fun b21 h21 hb21 hb21' c21 => ?_⟩⟩
    have hop21 : SR EncOp h21 (some ⟨b21, 0, none⟩) [kOp i] := .inr ⟨b21, 0, rfl, rdsL hb21' rfl rfl⟩
    obtain ⟨kd1, kd2⟩ := k_do e
    have n21 := (n19.chg c20 (Dj.nil _)).chg c21 (Dj.nil _)
    have c021 : Chg [] B19 h h21 := ⟨fun b o _ e => c21.sub0 b o (c20.sub0 b o (c19.sub0 b o e)), c19.2⟩
    have hg2 := hg.do [kOp i]
    refine cDo (ops := [kOp i]) n21 hop21 (by simp) (fun o ho => by simp at ho; subst ho; simp [kOp, kP]) fun B22 h22 n22 c22 => ⟨_, rfl, fun e2 => by rw [kd1] at e2; simp at e2, fun _ => ?_⟩
    rw [kd2] at n22 hg2
    rw [wrap64 (n := (i : Int) + 1) (by omega) (by omega)]
    exact ⟨⟨i + 1, B22, rfl, by omega, n22, hg2, c021.trans c22⟩, by omega⟩
  · have e : i = 48 := by simp at e; omega
    subst e
    refine cPutK ⟨_, _, _, rfl, cPutK ⟨_, _, _, rfl, nwL (cs := EncOp.row eOps) fun b20 h20 hb20 hb20' c20 => ?_⟩⟩
    have hop20 : SR EncOp h20 (some ⟨b20, 0, none⟩) eOps := .inr ⟨b20, 0, rfl, rdsL hb20' rfl rfl⟩
    have n20 := n19.chg c20 (Dj.nil _)
    have c020 : Chg [] B19 h h20 := ⟨fun b o _ e => c20.sub0 b o (c19.sub0 b o e), c19.2⟩
    refine cDo (ops := eOps) n20 hop20 (by decide) (by decide) fun B21 h21 n21 c21 => ⟨_, rfl, ?_⟩
    have hS21 : doS (kS 48) eOps = kS 48 := by unfold doS; rw [e_do, if_neg (by decide)]
    rw [hS21] at n21
    rw [e_do]
    have c021 := c020.trans c21
    refine cGet (p := appAA) n21 ?_
    rw [e_get]
    refine ⟨_, _, rfl, cPutK ⟨_, _, _, rfl, nwL (cs := EncOp.row fOps) fun b22 h22 hb22 hb22' c22 => ?_⟩⟩
    have hop22 : SR EncOp h22 (some ⟨b22, 0, none⟩) fOps := .inr ⟨b22, 0, rfl, rdsL hb22' rfl rfl⟩
    have n22 := n21.chg c22 (Dj.nil _)
    have c022 : Chg [] B21 h h22 := ⟨fun b o _ e => c22.sub0 b o (c021.sub0 b o e), c021.2⟩
    have hg23 := hg.do fOps
    refine cDo (ops := fOps) n22 hop22 (by decide) (by decide) fun B23 h23 n23 c23 => ⟨_, rfl, ?_⟩
    rw [f_do]
    have c023 := c022.trans c23
    have hlen := f_len
    generalize doS (kS 48) fOps = T at n23 hg23 hlen
    have h0 : doE T [] = 0 := doE_zero.2 ⟨by decide, Nat.le_of_eq hlen⟩
    have h0S : doS T [] = T := by
      unfold doS
      rw [if_pos h0]; rfl
    refine cDo (ops := []) (oA := none) n23 (.inl rfl) (by decide) (by simp) fun B24 h24 n24 c24 => ⟨_, rfl, fun _ => ?_, fun e2 => absurd e2 (by decide)⟩
    rw [h0S] at n24
    refine cLen n24 hg23 fun h25 s25 => ⟨_, rfl, fun _ => wk ((c023.trans c24).sub0.tr s25) hk, fun e2 => ?_⟩
    rw [h0, hlen] at e2
    exact absurd e2 (by decide)
end TL
