/-
  The denotation library, part W: rows of records in blocks, loops with an invariant, changes of the heap. No condition.
-/
import Derived.Test.YtmcgndbfoebcnaaGreatLibC
import Derived.Carry
import Derived.ChangeSame
import Derived.OpenShut
import Derived.WalkKit
import Derived.ProofKit
import Derived.Deep.Slices
import Derived.Sort.Walk0
import Derived.MapKept
namespace TL
open Go

theorem LoopP.ind {T : Type} {F : (T → PH → Prop) → T → PH → Prop} (I : T → PH → Prop) (μ : T → PH → Nat) (step : ∀ x h, I x h → F (fun y g => I y g ∧ μ y g < μ x h) x h) : ∀ {x : T} {h : PH}, I x h → LoopP F x h := by
  have key : ∀ n x h, μ x h = n → I x h → LoopP F x h := by
    intro n
    induction n using Nat.strongRecOn with
    | _ n ih =>
      intro x h hn hi
      exact LoopP.mk (fun y g => I y g ∧ μ y g < μ x h) (fun y g hy => ih (μ y g) (hn ▸ hy.2) y g rfl hy.1) (step x h hi)
  intro x h hi
  exact key _ x h rfl hi

theorem JoinP.here {T : Type} {F : (T → PH → Prop) → Prop} {R : T → PH → Prop} (h : F R) : JoinP F R := ⟨R, h, fun _ _ h => h⟩

/-! ### Changes of the heap: blocks outside B stay; the blocks of B' are of B or new -/
def Chg (B B' : List Nat) (h h' : PH) : Prop := (∀ b o, b ∉ B → h b = some o → h' b = some o) ∧ (∀ b ∈ B', b ∈ B ∨ h b = none)
theorem Chg.refl (B : List Nat) (h : PH) : Chg B B h h := ⟨fun _ _ _ e => e, fun _ e => .inl e⟩
theorem Chg.trans {B C D : List Nat} {h g k : PH} (x : Chg B C h g) (y : Chg C D g k) : Chg B D h k := by
  refine ⟨fun b o hb e => y.1 b o (fun hc => ?_) (x.1 b o hb e), fun b hb => ?_⟩
  · rcases x.2 b hc with h1 | h1
    · exact hb h1
    · rw [h1] at e; cases e
  · rcases y.2 b hb with h1 | h1
    · exact x.2 b h1
    · by_cases hB : b ∈ B
      · exact .inl hB
      · refine .inr ?_
        cases e : h b with
        | none => rfl
        | some o => rw [x.1 b o hB e] at h1; cases h1
theorem Chg.sub {B B' C C' : List Nat} {h g : PH} (x : Chg B B' h g) (h1 : ∀ b ∈ B, b ∈ C) (h2 : ∀ b ∈ C', b ∈ B' ∨ b ∈ C) : Chg C C' h g :=
  ⟨fun b o hb e => x.1 b o (fun hc => hb (h1 b hc)) e, fun b hb => by
    rcases h2 b hb with h3 | h3
    · exact (x.2 b h3).imp (h1 b) id
    · exact .inl h3⟩
theorem Chg.upd {h : PH} {b : Nat} (o : Obj) : Chg [b] [b] h (h.upd b o) := ⟨fun x u hx e => by
    rw [PH.upd_ne _ _ (by simpa using hx)]; exact e, fun _ e => .inl e⟩
theorem Chg.new {h : PH} {b : Nat} (o : Obj) (hb : h b = none) : Chg [] [b] h (h.upd b o) := ⟨fun x u _ e => PH.upd_old o hb e, fun x hx => by
    simp at hx; subst hx; exact .inr hb⟩
theorem Chg.keep {B B' : List Nat} {h g : PH} (x : Chg B B' h g) {b : Nat} {o : Obj} (e : h b = some o) (hb : b ∉ B) : g b = some o := x.1 b o hb e
theorem Chg.fresh {B B' : List Nat} {h g : PH} (x : Chg B B' h g) {b : Nat} {o : Obj} (e : h b = some o) (hb : b ∉ B) : b ∉ B' := fun hm => by
  rcases x.2 b hm with h1 | h1
  · exact hb h1
  · rw [h1] at e; cases e

/-! ### Rows of records -/
structure Enc (α : Type) where
  enc : α → List Value
  k : Nat
  len : ∀ x, (enc x).length = k
  one : ∀ x, ∀ v ∈ enc x, one1 v = true
  pos : 0 < k
section
variable {α : Type} (E : Enc α)
def Enc.row (l : List α) : List Value := l.flatMap E.enc
theorem Enc.row_len (l : List α) : (E.row l).length = l.length * E.k := by
  induction l with
  | nil => simp [Enc.row]
  | cons x r ih =>
    simp only [Enc.row, List.flatMap_cons, List.length_append, E.len, List.length_cons] at ih ⊢
    rw [ih, Nat.succ_mul, Nat.add_comm]
theorem Enc.row_nil : E.row [] = [] := rfl
theorem Enc.row_cons (x : α) (r : List α) : E.row (x :: r) = E.enc x ++ E.row r := by simp [Enc.row]
theorem Enc.row_app (l r : List α) : E.row (l ++ r) = E.row l ++ E.row r := by simp [Enc.row]
theorem Enc.row_one (l : List α) : ∀ v ∈ E.row l, one1 v = true := fun v hv => by
  simp only [Enc.row, List.mem_flatMap] at hv
  obtain ⟨x, _, hx⟩ := hv
  exact E.one x v hx
theorem Enc.row_drop : ∀ (l : List α) (i : Nat), (E.row l).drop (i * E.k) = E.row (l.drop i)
  | [], i => by simp [Enc.row]
  | x :: r, 0 => by simp
  | x :: r, i + 1 => by
    rw [E.row_cons, List.drop_succ_cons, ← Enc.row_drop r i, Nat.succ_mul, Nat.add_comm, ← List.drop_drop]
    congr 1
    rw [List.drop_append_of_le_length (by rw [E.len]; omega), List.drop_of_length_le (by rw [E.len]; omega)]; simp
theorem Enc.row_take : ∀ (l : List α) (i : Nat), (E.row l).take (i * E.k) = E.row (l.take i)
  | [], i => by simp [Enc.row]
  | x :: r, 0 => by simp [Enc.row]
  | x :: r, i + 1 => by
    rw [E.row_cons, List.take_succ_cons, E.row_cons, ← Enc.row_take r i, Nat.succ_mul, Nat.add_comm, List.take_append, E.len]
    congr 1
    · rw [List.take_of_length_le (by rw [E.len]; omega)]
    · congr 1; omega
theorem Enc.row_field {l : List α} {i f m : Nat} (tail : List Value) (hi : i < l.length) (hf : f + m ≤ E.k) : ((E.row l ++ tail).drop (i * E.k + f)).take m = ((E.enc l[i]).drop f).take m := by
  have h1 : i * E.k ≤ (E.row l).length := by rw [E.row_len]; exact Nat.mul_le_mul_right _ (by omega)
  rw [← List.drop_drop, List.drop_append_of_le_length h1, E.row_drop, List.drop_eq_getElem_cons hi, E.row_cons, List.append_assoc, List.drop_append_of_le_length (by rw [E.len]; omega),
    List.take_append_of_le_length (by rw [List.length_drop, E.len]; omega)]

theorem rds_of {h : PH} {b o n : Nat} {cs : List Value} {T : TypeId} {fr : Nat × Nat} (hb : h b = some (.cells cs.toArray T fr)) (hn : o + n ≤ cs.length) : h.rds b o n = some ((cs.drop o).take n) := by
  unfold PH.rds; rw [hb]; simp [hn]
theorem rds_to {h : PH} {b o n : Nat} {vs : List Value} (e : h.rds b o n = some vs) (f m : Nat) (hf : f + m ≤ n) : h.rds b (o + f) m = some ((vs.drop f).take m) := by
  obtain ⟨c, T, fr, hb, hle, rfl⟩ := rds_some e
  unfold PH.rds; rw [hb]
  simp only [show o + f + m ≤ c.size by omega, if_true]
  rw [List.drop_take, List.take_take, List.drop_drop]
  congr 2; omega

/-- a row that is only read -/
def SR (h : PH) (a : Option Addr) (l : List α) : Prop := l = [] ∨ ∃ b o, a = some ⟨b, o, none⟩ ∧ h.rds b o (l.length * E.k) = some (E.row l)
variable {E}
theorem SR.sub {h g : PH} {a : Option Addr} {l : List α} (x : SR E h a l) (hs : h.Sub g) : SR E g a l := by
  rcases x with x | ⟨b, o, e, hr⟩
  · exact .inl x
  · exact .inr ⟨b, o, e, rds_sub hs hr⟩
theorem SR.get {h : PH} {a : Option Addr} {l : List α} (x : SR E h a l) {i : Nat} (hi : i < l.length) :
    ∃ b o, a = some ⟨b, o, none⟩ ∧ ∀ o' f m, o' = o + i * E.k + f → f + m ≤ E.k → h.rds b o' m = some (((E.enc l[i]).drop f).take m) := by
  rcases x with rfl | ⟨b, o, e, hr⟩
  · simp at hi
  · refine ⟨b, o, e, fun o' f m ho hf => ?_⟩
    subst ho
    have h1 : i * E.k + E.k ≤ l.length * E.k := by rw [← Nat.succ_mul]; exact Nat.mul_le_mul_right _ hi
    have := rds_to hr (i * E.k + f) m (by omega)
    rw [Nat.add_assoc, this]
    have h2 := E.row_field (f := f) (m := m) [] hi hf
    rw [List.append_nil] at h2
    rw [h2]
theorem SR.src {h : PH} {a : Option Addr} {l : List α} (x : SR E h a l) : srcH h a (l.length * E.k) (E.row l) := by
  refine ⟨E.row_len l, E.row_one l, ?_⟩
  rcases x with rfl | ⟨b, o, e, hr⟩
  · exact .inl (by simp)
  · exact .inr ⟨b, o, e, hr⟩
theorem SR.part {h : PH} {a : Option Addr} {l : List α} (x : SR E h a l) {lo hi : Nat} {mx : Int} {L : Int} (hL : L.toNat = lo) (h1 : lo ≤ hi) (h2 : hi ≤ l.length) (h3 : hi ≤ mx.toNat) : srcH h (slA a E.k L mx) ((hi - lo) * E.k) (E.row ((l.drop lo).take (hi - lo))) := by
  refine ⟨by rw [E.row_len, List.length_take, List.length_drop]; congr 1; omega, E.row_one _, ?_⟩
  by_cases h0 : hi - lo = 0
  · exact .inl (by simp [h0])
  · refine .inr ?_
    rcases x with rfl | ⟨b, o, e, hr⟩
    · simp at h2; omega
    · refine ⟨b, o + lo * E.k, ?_, ?_⟩
      · unfold slA; rw [hL, if_neg (by omega), e, Option.map_some, addr_add]
      · have hle : lo * E.k + (hi - lo) * E.k ≤ l.length * E.k := by rw [← Nat.add_mul]; exact Nat.mul_le_mul_right _ (by omega)
        rw [rds_to hr (lo * E.k) _ hle, E.row_drop, E.row_take]

/-- a row of one's own: the block's cells are the row and what lies behind it -/
def Buf (E : Enc α) (T : TypeId) (B : List Nat) (h : PH) (a : Option Addr) (n c : Nat) (l : List α) : Prop :=
  n = l.length ∧ ((c = 0 ∧ B = [] ∧ l = []) ∨ ∃ b tail, a = some ⟨b, 0, none⟩ ∧ B = [b] ∧ h b = some (.cells (E.row l ++ tail).toArray T (0, 0)) ∧ tail.length = (c - n) * E.k ∧ n ≤ c)
variable {T : TypeId} {B : List Nat} {h : PH} {a : Option Addr} {n c : Nat} {l : List α}
theorem Buf.nil (E : Enc α) (T : TypeId) (h : PH) (a : Option Addr) : Buf E T [] h a 0 0 ([] : List α) := ⟨rfl, .inl ⟨rfl, rfl, rfl⟩⟩
theorem Buf.le (x : Buf E T B h a n c l) : n ≤ c := by
  rcases x with ⟨rfl, ⟨_, _, rfl⟩ | ⟨_, _, _, _, _, _, h⟩⟩
  · simp
  · exact h
theorem Buf.sr (x : Buf E T B h a n c l) : SR E h a l := by
  obtain ⟨rfl, ⟨_, _, rfl⟩ | ⟨b, tail, e, _, hb, _, _⟩⟩ := x
  · exact .inl rfl
  · refine .inr ⟨b, 0, e, ?_⟩
    rw [rds_of hb (by rw [List.length_append, E.row_len]; omega)]
    rw [← E.row_len, List.drop_zero, List.take_left]
theorem Buf.keep {h' : PH} (x : Buf E T B h a n c l) (hk : ∀ b ∈ B, ∀ o, h b = some o → h' b = some o) : Buf E T B h' a n c l := by
  obtain ⟨rfl, hx | ⟨b, tail, e, hB, hb, h1, h2⟩⟩ := x
  · exact ⟨rfl, .inl hx⟩
  · subst hB
    exact ⟨rfl, .inr ⟨b, tail, e, rfl, hk b (by simp) _ hb, h1, h2⟩⟩
theorem Buf.chg {C C' : List Nat} {h' : PH} (x : Buf E T B h a n c l) (y : Chg C C' h h') (hd : ∀ b ∈ B, b ∉ C) : Buf E T B h' a n c l :=
  x.keep fun b hb _ e => y.keep e (hd b hb)
theorem unfr0 (c : Array Value) : Unfr c (0, 0) := .inl (Nat.le_refl _)
theorem stH_mk {b o : Nat} {vs : List Value} {K : PH → Prop} {cs : List Value} {T : TypeId} (hb : h b = some (.cells cs.toArray T (0, 0))) (hn : o + vs.length ≤ cs.length)
    (hk : K (h.upd b (.cells (cs.take o ++ vs ++ cs.drop (o + vs.length)).toArray T (0, 0)))) : stH h b o vs K :=
  ⟨_, _, _, hb, unfr0 _, by simpa using hn, hk⟩
/-- append -/
theorem Buf.append {bt m : Nat} {z vs : List Value} {new : List α} {K : Option Addr → Nat → Nat → PH → Prop} (x : Buf E T B h a n c l) (hm : m = new.length) (hv : vs = E.row new) (hz : z.length = E.k)
    (hbt : (n + m) * bt ≤ 140737488355328) (hk : ∀ a' c' B' h', Buf E T B' h' a' (n + m) c' (l ++ new) → Chg B B' h h' → (n + m ≤ c → a' = a ∧ c' = c ∧ B' = B) → K a' (n + m) c' h') : appH T E.k bt z a n c m vs K h := by
  subst hm hv
  refine ⟨E.row_len new, fun hle => ⟨fun h0 => ?_, fun h0 => ?_⟩, fun hlt => ⟨hbt, E.row l, ?_, fun c' hc hc2 b hb => ?_⟩⟩
  · have hnil : new = [] := by
      rcases Nat.mul_eq_zero.1 h0 with h0 | h0
      · exact List.length_eq_zero_iff.1 h0
      · have := E.pos; omega
    subst hnil
    refine hk a c B h ?_ (Chg.refl _ _) fun _ => ⟨rfl, rfl, rfl⟩
    simpa using x
  · have hne : new.length ≠ 0 := fun e => h0 (by rw [e, Nat.zero_mul])
    obtain ⟨rfl, ⟨rfl, _, _⟩ | ⟨b, tail, e, rfl, hb, h1, h2⟩⟩ := x
    · omega
    · refine ⟨b, 0, e, stH_mk hb ?_ ?_⟩
      · rw [List.length_append, E.row_len, E.row_len, h1, Nat.zero_add, ← Nat.add_mul, ← Nat.add_mul]
        exact Nat.mul_le_mul_right _ (by omega)
      · rw [Nat.zero_add, ← E.row_len l, List.take_left, ← List.drop_drop, List.drop_left]
        refine hk a c [b] _ ⟨by simp, .inr ⟨b, tail.drop (E.row new).length, e, rfl, ?_, ?_, ?_⟩⟩ (Chg.upd _) fun _ => ⟨rfl, rfl, rfl⟩
        · rw [PH.upd_same, E.row_app, List.append_assoc]
        · rw [List.length_drop, h1, E.row_len, ← Nat.sub_mul]; congr 1; omega
        · exact hle
  · have := x.sr.src
    rw [← x.1] at this
    exact this
  · refine hk _ c' [b] _ ⟨by rw [List.length_append, ← x.1], .inr ⟨b, (List.replicate (c' - (n + new.length)) z).flatten, rfl, rfl, ?_, ?_, hc⟩⟩ ?_ fun h => by omega
    · rw [PH.upd_same, E.row_app, List.append_assoc]
    · simp [hz]
    · exact (Chg.new _ hb).sub (by simp) (by simp)
end

/-- reading and writing a block whose cells are written out -/
theorem rdsL {h : PH} {b : Nat} {cs : List Value} {T : TypeId} {fr : Nat × Nat} (hb : h b = some (.cells cs.toArray T fr)) {o n : Nat} {vs : List Value} (hn : Nat.ble (o + n) cs.length = true) (hv : (cs.drop o).take n = vs) : h.rds b o n = some vs := by
  rw [rds_of hb (Nat.le_of_ble_eq_true hn), hv]
theorem stL {h : PH} {b o : Nat} {vs cs' : List Value} {K : PH → Prop} {cs : List Value} {T : TypeId} (hb : h b = some (.cells cs.toArray T (0, 0))) (hn : Nat.ble (o + vs.length) cs.length = true)
    (he : cs.take o ++ vs ++ cs.drop (o + vs.length) = cs') (hk : ∀ h', h' b = some (.cells cs'.toArray T (0, 0)) → Chg [b] [b] h h' → K h') : stH h b o vs K :=
  stH_mk hb (Nat.le_of_ble_eq_true hn) (by rw [he]; exact hk _ (PH.upd_same ..) (Chg.upd _))
theorem nwL {h : PH} {cs : List Value} {T : TypeId} {K : Nat → PH → Prop} (hk : ∀ b h', h b = none → h' b = some (.cells cs.toArray T (0, 0)) → Chg [] [b] h h' → K b h') : newH h (.cells cs.toArray T (0, 0)) K :=
  fun b hb => hk b _ hb (PH.upd_same ..) (Chg.new _ hb)
/-- a change of one part -/
theorem Chg.left {B B' C : List Nat} {h g : PH} (x : Chg B B' h g) : Chg (B ++ C) (B' ++ C) h g := x.sub (fun b hb => List.mem_append_left _ hb) fun b hb => by
  rcases List.mem_append.1 hb with hb | hb
  · exact .inl hb
  · exact .inr (List.mem_append_right _ hb)
theorem Chg.right {B B' C : List Nat} {h g : PH} (x : Chg B B' h g) : Chg (C ++ B) (C ++ B') h g := x.sub (fun b hb => List.mem_append_right _ hb) fun b hb => by
  rcases List.mem_append.1 hb with hb | hb
  · exact .inr (List.mem_append_left _ hb)
  · exact .inl hb
theorem Chg.head {B : List Nat} {b : Nat} {h g : PH} (x : Chg [b] [b] h g) : Chg (b :: B) (b :: B) h g := x.left (C := B)
theorem Chg.tail {B B' : List Nat} {b : Nat} {h g : PH} (x : Chg B B' h g) : Chg (b :: B) (b :: B') h g := x.right (C := [b])

theorem notIn1 {B : List Nat} {b : Nat} (h : b ∉ B) : ∀ x ∈ B, x ∉ [b] := fun x hx hm => by
  rw [List.mem_singleton] at hm
  rw [hm] at hx; exact h hx

/-- the blocks are there -/
def Has (B : List Nat) (h : PH) : Prop := ∀ b ∈ B, ∃ o, h b = some o
theorem Buf.has {α : Type} {E : Enc α} {T : TypeId} {B : List Nat} {h : PH} {a : Option Addr} {n c : Nat} {l : List α} (x : Buf E T B h a n c l) : Has B h := fun b hb => by
  obtain ⟨rfl, ⟨_, rfl, _⟩ | ⟨b', tail, _, rfl, h1, _, _⟩⟩ := x
  · cases hb
  · rw [List.mem_singleton] at hb; subst hb; exact ⟨_, h1⟩
def Dj (B C : List Nat) : Prop := ∀ b ∈ B, b ∉ C
theorem Dj.symm {B C : List Nat} (x : Dj B C) : Dj C B := fun b hb hc => x b hc hb
theorem Dj.nil (B : List Nat) : Dj B [] := fun _ _ h => by cases h
theorem Chg.dj {B B' C : List Nat} {h h' : PH} (x : Chg B B' h h') (d : Dj C B) (hc : Has C h) : Dj C B' := fun b hb hm => by
  rcases x.2 b hm with h1 | h1
  · exact d b hb h1
  · obtain ⟨o, ho⟩ := hc b hb; rw [h1] at ho; cases ho
theorem Chg.has {B B' C : List Nat} {h h' : PH} (x : Chg B B' h h') (d : Dj C B) (hc : Has C h) : Has C h' := fun b hb => by
  obtain ⟨o, ho⟩ := hc b hb
  exact ⟨o, x.keep ho (d b hb)⟩
theorem Chg.sub0 {B : List Nat} {h g : PH} (c : Chg [] B h g) : h.Sub g := fun b o e => c.1 b o (by simp) e
theorem wrap64 {n : Int} (h1 : -9223372036854775808 ≤ n) (h2 : n ≤ 9223372036854775807) : IntKind.wrap .i64 n = n := by
  simp [IntKind.wrap, IntKind.bits, IntKind.signed]; omega
theorem strEq_self (s : ByteArray) : strEq s s = true := by simp [strEq]
theorem strEq_iff {s t : ByteArray} : strEq s t = true ↔ s = t := by
  simp only [strEq, beq_iff_eq, bys]
  exact ⟨fun e => by
    cases s; cases t
    simp only [Array.toList_inj] at e
    rw [e], fun e => by rw [e]⟩

theorem Chg.onto {B : List Nat} {h g k : PH} (c : Chg [] B h g) (s : g.Sub k) : Chg [] B h k := ⟨fun b o hb e => s b o (c.1 b o hb e), c.2⟩

end TL

namespace TL
open Go

variable {α : Type} {E : Enc α} {T : TypeId} {B : List Nat} {h : PH} {a : Option Addr} {n c : Nat} {l : List α}
theorem Buf.take (x : Buf E T B h a n c l) {i : Nat} (hi : i ≤ n) : Buf E T B h a i c (l.take i) := by
  obtain ⟨rfl, ⟨rfl, hB, rfl⟩ | ⟨b, tail, e, hB, hb, h1, h2⟩⟩ := x
  · simp at hi; subst hi
    exact ⟨rfl, .inl ⟨rfl, hB, rfl⟩⟩
  · refine ⟨by simp [hi], .inr ⟨b, E.row (l.drop i) ++ tail, e, hB, ?_, ?_, by omega⟩⟩
    · rw [← List.append_assoc, ← E.row_app, List.take_append_drop]; exact hb
    · rw [List.length_append, E.row_len, h1, ← Nat.add_mul, List.length_drop]; congr 1; omega
theorem slA0 {k : Nat} {mx : Int} (a : Option Addr) (ha : ∀ x, a = some x → x.spot = none) : slA a k 0 mx = a := by
  unfold slA
  split
  · rfl
  · cases a with
    | none => rfl
    | some x =>
      obtain ⟨b, o, s⟩ := x
      have : s = none := ha _ rfl
      subst this
      simp [addr_add]
theorem Buf.spot (x : Buf E T B h a n c l) (hc : c ≠ 0) : ∃ b, a = some ⟨b, 0, none⟩ ∧ B = [b] := by
  obtain ⟨rfl, ⟨rfl, _, _⟩ | ⟨b, tail, e, hB, _, _, _⟩⟩ := x
  · exact absurd rfl hc
  · exact ⟨b, e, hB⟩
/-- what lies behind is written -/
theorem Buf.behind (x : Buf E T B h a n c l) {b o : Nat} (ha : a = some ⟨b, 0, none⟩) (hc : c ≠ 0) {vs : List Value} (ho : o = n * E.k) (hv : vs.length ≤ (c - n) * E.k) {K : PH → Prop} (hk : ∀ h', Buf E T B h' a n c l → Chg B B h h' → K h') : stH h b o vs K := by
  obtain ⟨rfl, ⟨rfl, _, _⟩ | ⟨b', tail, e, rfl, hb, h1, h2⟩⟩ := x
  · exact absurd rfl hc
  · rw [ha] at e; cases e
    subst ho
    refine stH_mk hb ?_ (hk _ ⟨rfl, .inr ⟨b, vs ++ tail.drop vs.length, ha, rfl, ?_, ?_, h2⟩⟩ (Chg.upd _))
    · rw [List.length_append, E.row_len, h1]; omega
    · rw [PH.upd_same, ← E.row_len l, List.take_left, ← List.drop_drop, List.drop_left, List.append_assoc]
    · rw [List.length_append, List.length_drop, h1]; omega

/-- slices.Delete -/
def DelF (T : TypeId) (k bt : Nat) (z : List Value) (sA : Option Addr) (sN sC : Nat) (i : Int) (j : Int) (K : Value → PH → Prop) (h : PH) : Prop :=
  (0 ≤ i ∧ i ≤ j ∧ j ≤ ((sN : Nat) : Int) ∧ ((sN : Nat) : Int) ≤ (sC : Nat)) ∧
  (((i == j) = true →
      K (.slice sA sN sC) h) ∧
    ((i == j) = false →
      (0 ≤ (0 : Int) ∧ (0 : Int) ≤ i ∧ i ≤ ((sC : Nat) : Int) ∧ ((sC : Nat) : Int) ≤ (sC : Nat)) ∧
      (0 ≤ j ∧ j ≤ ((sN : Nat) : Int) ∧ ((sN : Nat) : Int) ≤ ((sC : Nat) : Int) ∧ ((sC : Nat) : Int) ≤ (sC : Nat)) ∧
      ∃ vs : List Value, srcH h (slA sA k j ((sC : Nat) : Int)) ((((sN : Nat) : Int).toNat - j.toNat) * k) vs ∧
      appH T k bt z (slA sA k (0 : Int) ((sC : Nat) : Int)) (i.toNat - (0 : Int).toNat) (((sC : Nat) : Int).toNat - (0 : Int).toNat) (((sN : Nat) : Int).toNat - j.toNat) vs (fun sA_1 sN_1 sC_1 h1 =>
        (0 ≤ ((sN_1 : Nat) : Int) ∧ ((sN_1 : Nat) : Int) ≤ ((sN : Nat) : Int) ∧ ((sN : Nat) : Int) ≤ ((sC_1 : Nat) : Int) ∧ ((sC_1 : Nat) : Int) ≤ (sC_1 : Nat)) ∧
        (((((sN : Nat) : Int).toNat - ((sN_1 : Nat) : Int).toNat) * k = 0 →
            K (.slice sA_1 sN_1 sC_1) h1) ∧
          ((((sN : Nat) : Int).toNat - ((sN_1 : Nat) : Int).toNat) * k ≠ 0 → ∃ bv ov : Nat, (slA sA_1 k ((sN_1 : Nat) : Int) ((sC_1 : Nat) : Int)) = some ⟨bv, ov, none⟩ ∧ stH h1 bv ov (List.replicate (((sN : Nat) : Int).toNat - ((sN_1 : Nat) : Int).toNat) z).flatten fun h2 =>
            K (.slice sA_1 sN_1 sC_1) h2))) h))
theorem DelF_ok {bt : Nat} {z : List Value} {i j : Int} {K : Value → PH → Prop} (x : Buf E T B h a n c l) (hz : z.length = E.k) (hi : 0 ≤ i) (hij : i ≤ j) (hj : j ≤ (n : Int)) (hbt : n * bt ≤ 140737488355328)
    (hk : ∀ h', Buf E T B h' a (n - (j.toNat - i.toNat)) c (l.take i.toNat ++ l.drop j.toNat) → Chg B B h h' → K (.slice a (n - (j.toNat - i.toNat)) c) h') : DelF T E.k bt z a n c i j K h := by
  have hle := x.le
  have hnl := x.1
  refine ⟨⟨hi, hij, hj, by omega⟩, fun he => ?_, fun he => ⟨⟨by omega, by omega, by omega, by omega⟩, ⟨by omega, by omega, by omega, by omega⟩, ?_⟩⟩
  · have he : i = j := by simpa using he
    subst he
    simp only [Nat.sub_self, Nat.sub_zero, List.take_append_drop] at hk
    exact hk h x (Chg.refl _ _)
  · have he : i ≠ j := by simpa using he
    have hc : c ≠ 0 := by omega
    obtain ⟨b, ha, hB⟩ := x.spot hc
    refine ⟨E.row (l.drop j.toNat), ?_, ?_⟩
    · have := x.sr.part (mx := ((c : Nat) : Int)) (L := j) (hi := n) rfl (by omega) (by omega) (by omega)
      rw [List.take_of_length_le (by rw [List.length_drop]; omega)] at this
      simpa using this
    · rw [slA0 a (fun y hy => by rw [ha] at hy; cases hy; rfl)]
      have hx := x.take (i := i.toNat) (by omega)
      rw [show i.toNat - (0 : Int).toNat = i.toNat by simp, show (((c : Nat) : Int).toNat - (0 : Int).toNat) = c by simp, show ((n : Nat) : Int).toNat - j.toNat = n - j.toNat by simp]
      refine hx.append (new := l.drop j.toNat) (by rw [List.length_drop]; omega) rfl hz (Nat.le_trans (Nat.mul_le_mul_right _ (by omega)) hbt) ?_
      intro a' c' B' h' hx' hc' hsame
      obtain ⟨rfl, rfl, rfl⟩ := hsame (by omega)
      have hn' : i.toNat + (n - j.toNat) = n - (j.toNat - i.toNat) := by omega
      rw [hn'] at hx' ⊢
      refine ⟨⟨by omega, by omega, by omega, by omega⟩, fun h0 => hk h' hx' hc', fun h0 => ?_⟩
      refine ⟨b, (n - (j.toNat - i.toNat)) * E.k, ?_, hx'.behind ha hc rfl ?_ fun h2 hx2 hc2 => hk h2 hx2 (hc'.trans hc2)⟩
      · unfold slA
        rw [if_neg (by omega), ha, Option.map_some, addr_add]; simp
      · simp [hz]
        exact Nat.mul_le_mul_right _ (by omega)

/-- slices.Clone -/
def CloneF (T : TypeId) (k bt : Nat) (z : List Value) (sA : Option Addr) (sN _ : Nat) (K : Value → PH → Prop) (h : PH) : Prop :=
  (((Option.isNone sA) = true →
      K (.slice none 0 0) h) ∧
    ((Option.isNone sA) = false →
      newH h (.cells #[] T (0, 0)) fun bv h1 =>
      ∃ vs : List Value, srcH h1 sA (sN * k) vs ∧
      appH T k bt z (some ⟨bv, 0, none⟩) 0 0 sN vs (fun tA tN tC h2 =>
        K (.slice tA tN tC) h2) h1))
theorem SR.none_nil (x : SR E h a l) (ha : a.isNone = true) : l = [] := by
  rcases x with x | ⟨b, o, e, _⟩
  · exact x
  · rw [e] at ha; cases ha
theorem CloneF_ok {bt sC : Nat} {z : List Value} {K : Value → PH → Prop} (x : SR E h a l) (hz : z.length = E.k) (hbt : l.length * bt ≤ 140737488355328)
    (hk : ∀ a' c' B' h', Buf E T B' h' a' l.length c' l → Chg [] B' h h' → K (.slice a' l.length c') h') : CloneF T E.k bt z a l.length sC K h := by
  refine ⟨fun he => ?_, fun he => ?_⟩
  · have := x.none_nil he
    subst this
    exact hk none 0 [] h (Buf.nil _ _ _ _) (Chg.refl _ _)
  · refine nwL (cs := []) fun b h1 hb hb1 hc1 => ⟨E.row l, (x.sub fun b o e => hc1.1 b o (by simp) e).src, ?_⟩
    have hb0 : Buf E T [] h1 (some ⟨b, 0, none⟩) 0 0 [] := Buf.nil _ _ _ _
    refine hb0.append (new := l) rfl rfl hz (by simpa using hbt) ?_
    intro a' c' B' h' hx' hc' _
    rw [Nat.zero_add] at hx' ⊢
    refine hk a' c' B' h' (by simpa using hx') ⟨fun b o _ e => hc'.1 b o (by simp) (hc1.1 b o (by simp) e), fun b hb => ?_⟩
    rcases hc'.2 b hb with h2 | h2
    · cases h2
    · refine .inr ?_
      cases e : h b with
      | none => rfl
      | some o => rw [hc1.1 b o (by simp) e] at h2; cases h2

end TL

namespace TL
open Go Go.RowKit Go.WideShapes Go.ChangeShapes

/-- the whole heap -/
def whole (w : World) : PH := fun b => w.heap[b]?
theorem whole_in (w : World) : (whole w).In w := fun _ _ e => e
/-- what a call left alone -/
structure Left0 (W W' : World) : Prop where
  os : W'.os = W.os
  output : W'.output = W.output
  size : W.heap.size ≤ W'.heap.size
  block : ∀ k, k < W.heap.size → W'.heap[k]? = W.heap[k]?
theorem left_of {W W' : World} {h' : PH} (hF : Frm (whole W) W h' W') (hs : (whole W).Sub h') : Left0 W W' :=
  ⟨hF.os, hF.out, hF.size, fun k hk => by
    have h1 : whole W k = some W.heap[k] := Array.getElem?_eq_getElem hk
    rw [hF.inn k _ (hs k _ h1), Array.getElem?_eq_getElem hk]⟩
/-- a law's call -/
theorem law_call {P : Program} {f : FuncId} {args : Array Value} {W : World} (hc : CallH P f args.toList (fun v h' => v = .bool true ∧ (whole W).Sub h') (whole W)) : Calls P f args W fun e W' => e = .returned (.bool true) ∧ Left0 W W' := by
  have := hc W (whole_in W)
  simp only [Array.toArray_toList] at this
  refine Calls.mono this ?_
  rintro e W' ⟨v, h', rfl, ⟨rfl, hs⟩, hF⟩
  exact ⟨rfl, left_of hF hs⟩
theorem Left0.below {W W' : World} (h : Left0 W W') : Below W.heap.size W { W' with tape := W.tape } := ⟨h.os, rfl, h.output, h.size, h.block⟩

section
variable {H : Type} {enc : TypeId × Value → H} {P : Program}
theorem all_stays (hl : laidOutB P = true) {W W' : World} (hb : Left0 W W') : ∀ {ts : List TypeId} {vs : List Value} {ds : List (DataW H)} {ps : List MemPlace}, (∀ t ∈ ts, P.readableRec t = true ∧ t < P.types.size) →
    DataW.TrodAll enc P W 0 (fun _ => true) true ts vs ds ps → (∀ x ∈ ps, x.block < W.heap.size) → ∀ sp : Nat → Bool, (∀ x ∈ ps, sp x.block = true) → DataW.TrodAll enc P W' 0 sp true ts vs ds ps
  | [], [], [], _, _, h, _, _, _ => h
  | _ :: _, _ :: _, _ :: _, _, hT, ⟨p, q, h1, h2, e⟩, hlt, sp, hs => by
    subst e
    obtain ⟨hr, hrow⟩ := hT _ List.mem_cons_self
    refine ⟨p, q, ?_, all_stays hl hb (fun t ht => hT t (List.mem_cons_of_mem _ ht)) h2 (fun x hx => hlt x (List.mem_append_right _ hx)) sp (fun x hx => hs x (List.mem_append_right _ hx)), rfl⟩
    have hb2 := hb.below
    exact WideElems.Trod_stays (W' := W') hl hr hrow h1 (fun x hx => by have := hb2.same (hlt x (List.mem_append_left _ hx)); cases x <;> exact this) (fun x hx => hs x (List.mem_append_left _ hx))

theorem law_post {f : Func} {s : ChangeSpec} {apart fresh handsOn again : Bool} {W W' : World} {args : Array Value} {v : Value} {ds gs : List (DataW H)} {before pa pv : List MemPlace}
    (hW : DataW.Whole enc P f.params.toList s.vars apart W args.toList ds gs before)
    (hres : ∀ (b : Nat) (sp : Nat → Bool) (hd : Bool), DataW.TrodAll enc P W' b sp hd f.resultTypes.toList (v.resultList f.resultTypes.size) (s.fn H (ds ++ gs)).results [])
    (hargs : ∀ sp : Nat → Bool, (∀ p ∈ before, sp p.block = true) → DataW.TrodAll enc P W' 0 sp true f.params.toList args.toList (s.fn H (ds ++ gs)).args pa)
    (hvars : ∀ sp : Nat → Bool, (∀ p ∈ before, sp p.block = true) → DataW.TrodVars enc P W' sp s.vars (s.fn H (ds ++ gs)).vars pv)
    (hps : before = pa ++ pv) (hb0 : Left0 W W')
    (hok : ∀ (j : Nat) (t : TypeId) (r : Value), f.resultTypes[j]? = some t → (v.resultList f.resultTypes.size)[j]? = some r → Value.okWide P W' .any 0 t r) :
    s.post enc P f apart fresh handsOn again W args v W' := by
  have hb := hb0.below
  have hlt : ∀ p ∈ before, p.block < W.heap.size := fun p hp => hW.lt p hp
  have hold : ∀ p ∈ before, (fun b => decide (b < W.heap.size)) p.block = true := fun p hp => by simpa using hlt p hp
  refine ⟨ds, gs, before, [], pa, pv, hW, hres _ _ _, hargs _ hold, hvars _ hold, World.keptBut_mono (fun p hp => ⟨hp, ?_⟩) (hb.frame (· ∈ before)), fun _ => ?_⟩
  · rw [hps, List.mem_append] at hp
    exact Or.inr hp
  · obtain ⟨_, _, _, _, _, hz, hn⟩ := hW
    refine ⟨hok, _, _, ([] ++ pa) ++ pv, ⟨[] ++ pa, pv, trodAll_append (hargs _ (fun _ _ => rfl)) (hres _ _ _), hvars _ (fun _ _ => rfl), rfl, ?_, ?_⟩, ?_⟩
    · intro b off hp
      have hin : MemPlace.cell b off ∈ before := by rw [hps]; simpa using hp
      have hfz : W'.frozen? ⟨b, off, none⟩ = W.frozen? ⟨b, off, none⟩ := hb.frozen (hlt _ hin)
      rw [hfz]
      exact hz b off hin
    · intro ha
      have := hn ha
      rw [hps] at this
      simpa using this
    · intro p hp _
      rw [hps]
      simpa using hp
end

end TL

namespace TL
open Go Go.RowKit Go.WideShapes Go.ChangeShapes

theorem cell_whole {w : World} {b o : Nat} {v : Value} (h : w.cell? ⟨b, o, none⟩ = some v) : ∃ c T fr, whole w b = some (.cells c T fr) ∧ c[o]? = some v := by
  unfold World.cell? at h
  split at h
  · rename_i c T fr hb
    exact ⟨c, T, fr, hb, by simpa using h⟩
  · cases h
theorem rds_whole {w : World} {b o : Nat} {vs : List Value} (h : ∀ i, i < vs.length → w.cell? ⟨b, o + i, none⟩ = vs[i]?) (hn : vs ≠ []) : (whole w).rds b o vs.length = some vs := by
  have hpos : 0 < vs.length := List.length_pos_iff.2 hn
  have h0 := h 0 hpos
  rw [List.getElem?_eq_getElem hpos] at h0
  obtain ⟨c, T, fr, hb, _⟩ := cell_whole h0
  have hc : ∀ i, i < vs.length → c[o + i]? = vs[i]? := fun i hi => by
    have h1 := h i hi
    rw [List.getElem?_eq_getElem hi] at h1 ⊢
    obtain ⟨c', T', fr', hb', hv⟩ := cell_whole h1
    rw [hb] at hb'; cases hb'
    exact hv
  have hle : o + vs.length ≤ c.size := by
    have h1 := hc (vs.length - 1) (by omega)
    rw [List.getElem?_eq_getElem (by omega)] at h1
    have := (Array.getElem?_eq_some_iff.1 h1).1
    omega
  unfold PH.rds
  rw [hb]
  simp only [hle, if_true]
  congr 1
  apply List.ext_getElem?
  intro i
  by_cases hi : i < vs.length
  · rw [List.getElem?_take, if_pos hi, List.getElem?_drop, Array.getElem?_toList]
    exact hc i hi
  · rw [List.getElem?_eq_none (by simp; omega), List.getElem?_eq_none (by omega)]

variable {α : Type} {E : Enc α}
theorem SR_of_cells {w : World} {base : Nat} {b o : Nat} : ∀ (n : Nat), (∀ i, i < n → ∃ x, w.cells? base ((⟨b, o, none⟩ : Addr).add (i * E.k)) E.k = some (E.enc x)) → ∃ l : List α, l.length = n ∧ SR E (whole w) (some ⟨b, o, none⟩) l := by
  intro n h
  obtain ⟨l, hl, hx⟩ : ∃ l : List α, l.length = n ∧ ∀ i (hi : i < l.length), w.cells? base ((⟨b, o, none⟩ : Addr).add (i * E.k)) E.k = some (E.enc l[i]) := by
    induction n with
    | zero => exact ⟨[], rfl, fun i hi => by cases hi⟩
    | succ n ih =>
      obtain ⟨l, hl, hx⟩ := ih fun i hi => h i (by omega)
      obtain ⟨x, hxn⟩ := h n (by omega)
      refine ⟨l ++ [x], by simp [hl], fun i hi => ?_⟩
      by_cases hin : i < l.length
      · rw [List.getElem_append_left hin]; exact hx i hin
      · have : i = n := by simp at hi; omega
        subst this
        subst hl
        simpa using hxn
  refine ⟨l, hl, ?_⟩
  cases l with
  | nil => exact .inl rfl
  | cons x0 r =>
    refine .inr ⟨b, o, rfl, ?_⟩
    rw [← E.row_len]
    refine rds_whole (fun j hj => ?_) ?_
    · rw [E.row_len] at hj
      have hi : j / E.k < (x0 :: r).length := Nat.div_lt_of_lt_mul (by rw [Nat.mul_comm]; exact hj)
      have hm : j % E.k < E.k := Nat.mod_lt _ E.pos
      obtain ⟨_, _, h3⟩ := World.cells?_some (hx (j / E.k) hi)
      have h4 := h3 (j % E.k) hm
      rw [addr_add, addr_add, Nat.add_assoc, Nat.mul_comm, Nat.div_add_mod] at h4
      rw [h4]
      have h5 := E.row_field (l := x0 :: r) (i := j / E.k) (f := j % E.k) (m := 1) [] hi (by omega)
      rw [List.append_nil, Nat.mul_comm, Nat.div_add_mod] at h5
      have h6 := congrArg (fun l => l[0]?) h5
      simp only [List.getElem?_take, List.getElem?_drop] at h6
      simpa using h6.symm
    · intro e
      have := congrArg List.length e
      rw [E.row_len] at this
      simp only [List.length_cons, List.length_nil] at this
      have := E.pos
      rcases Nat.mul_eq_zero.1 (by assumption) with h | h <;> omega

/-- a slice of records, opened -/
theorem open_rows {H : Type} {enc : TypeId × Value → H} {P : Program} {w : World} {t e : TypeId} {v : Value} {d : DataW H} {ps : List MemPlace} (ht : P.underlying t = some (.slice e)) (hk : P.cellsOf e = E.k)
    (hE : ∀ n cs y, DataW.trod enc P w 0 (fun _ => true) true n e cs = some y → ∃ x, cs = E.enc x) (h : DataW.Trod enc P w 0 (fun _ => true) true t v d ps) (h1 : one1 v = true) :
    ∃ (a : Option Addr) (l : List α) (c : Nat), v = .slice a l.length c ∧ SR E (whole w) a l ∧ l.length ≤ c ∧ c ≤ maxLen := by
  obtain ⟨fuel, h⟩ := h
  have hv : v.cells.toList = [v] := by cases v <;> simp [one1] at h1 <;> rfl
  rw [hv] at h
  rcases Go.Deep.open_slice ht h with ⟨h0, _⟩ | ⟨a, len, cap, m, n, D, Pl, h0, _, hle, hcap, hm, _, hx⟩
  · have : v = .slice none 0 0 := by simpa using h0
    subst this
    exact ⟨none, [], 0, rfl, .inl rfl, Nat.le_refl _, Nat.zero_le _⟩
  · have : v = .slice (some a) len cap := by simpa using h0
    subst this
    have hlm : len ≤ m := by rw [hm]; simp; exact hle
    obtain ⟨b, o, sp⟩ := a
    cases sp with
    | none =>
      obtain ⟨l, hl, hs⟩ := SR_of_cells (E := E) (w := w) (base := 0) (b := b) (o := o) len fun i hi => by
        obtain ⟨cs', h2, h3⟩ := hx i (by omega)
        obtain ⟨x, rfl⟩ := hE _ _ _ h3
        rw [hk] at h2
        exact ⟨x, h2⟩
      exact ⟨_, l, cap, by rw [hl], hs, by rw [hl]; exact hle, hcap⟩
    | some s =>
      have h0 : len = 0 := by
        rcases Nat.eq_zero_or_pos len with h0 | h0
        · exact h0
        · obtain ⟨cs', h2, h3⟩ := hx 0 (by omega)
          obtain ⟨x, rfl⟩ := hE _ _ _ h3
          obtain ⟨_, h4, h5⟩ := World.cells?_some h2
          have hp := E.pos
          have h6 := h5 0 (by omega)
          rw [List.getElem?_eq_getElem (by rw [E.len]; exact hp)] at h6
          simp only [World.cell?, Addr.add] at h6
          split at h6 <;> simp at h6
      subst h0
      exact ⟨_, [], cap, rfl, .inl rfl, Nat.zero_le _, hcap⟩

/-! ### The ranges of integers -/
theorem wf_u8 {n : Int} (h : (Lit.int .u8 n).wf = true) : 0 ≤ n ∧ n < 256 := by
  simp only [Lit.wf, Bool.and_eq_true, decide_eq_true_eq] at h
  have : 0 ≤ n ∧ n ≤ 255 := by simpa [IntKind.min, IntKind.max, IntKind.signed, IntKind.bits] using h
  omega
theorem wf_u64 {n : Int} (h : (Lit.int .u64 n).wf = true) : 0 ≤ n ∧ n < 18446744073709551616 := by
  simp only [Lit.wf, Bool.and_eq_true, decide_eq_true_eq] at h
  have : 0 ≤ n ∧ n ≤ 18446744073709551615 := by simpa [IntKind.min, IntKind.max, IntKind.signed, IntKind.bits] using h
  omega
theorem wf_i64 {n : Int} (h : (Lit.int .i64 n).wf = true) : -9223372036854775808 ≤ n ∧ n ≤ 9223372036854775807 := by
  simp only [Lit.wf, Bool.and_eq_true, decide_eq_true_eq] at h
  simpa [IntKind.min, IntKind.max, IntKind.signed, IntKind.bits] using h
theorem maxLen_le {n : Nat} (h : n ≤ maxLen) : n ≤ 9223372036854775807 := h

/-! ### The shape of a record's cells -/
def shOk : List Ty → List Value → Prop
  | [], [] => True
  | .int k :: r, v :: vs => (∃ n, v = .int k n ∧ (Lit.int k n).wf = true) ∧ shOk r vs
  | .bool :: r, v :: vs => (∃ b, v = .bool b) ∧ shOk r vs
  | .str :: r, v :: vs => (∃ s : ByteArray, v = .string s ∧ s.size ≤ maxLen) ∧ shOk r vs
  | _, _ => False
theorem shOk_len : ∀ {ks : List Ty} {vs : List Value}, shOk ks vs → vs.length = ks.length
  | [], [], _ => rfl
  | .int k :: r, v :: vs, h => by simp [shOk_len h.2]
  | .bool :: r, v :: vs, h => by simp [shOk_len h.2]
  | .str :: r, v :: vs, h => by simp [shOk_len h.2]
  | [], _ :: _, h => h.elim
  | .int _ :: _, [], h => h.elim
  | .bool :: _, [], h => h.elim
  | .str :: _, [], h => h.elim
  | .ptr :: _, [], h => h.elim
  | .slice :: _, [], h => h.elim
  | .map :: _, [], h => h.elim
  | .any :: _, [], h => h.elim
  | .fn :: _, [], h => h.elim
  | .ptr :: _, _ :: _, h => h.elim
  | .slice :: _, _ :: _, h => h.elim
  | .map :: _, _ :: _, h => h.elim
  | .any :: _, _ :: _, h => h.elim
  | .fn :: _, _ :: _, h => h.elim
theorem shOk_app : ∀ {ks ks' : List Ty} {vs vs' : List Value}, shOk ks vs → shOk ks' vs' → shOk (ks ++ ks') (vs ++ vs')
  | [], _, [], _, _, h => h
  | .int _ :: _, _, _ :: _, _, h, h' => ⟨h.1, shOk_app h.2 h'⟩
  | .bool :: _, _, _ :: _, _, h, h' => ⟨h.1, shOk_app h.2 h'⟩
  | .str :: _, _, _ :: _, _, h, h' => ⟨h.1, shOk_app h.2 h'⟩
  | [], _, _ :: _, _, h, _ => h.elim
  | .int _ :: _, _, [], _, h, _ => h.elim
  | .bool :: _, _, [], _, h, _ => h.elim
  | .str :: _, _, [], _, h, _ => h.elim
  | .ptr :: _, _, [], _, h, _ => h.elim
  | .slice :: _, _, [], _, h, _ => h.elim
  | .map :: _, _, [], _, h, _ => h.elim
  | .any :: _, _, [], _, h, _ => h.elim
  | .fn :: _, _, [], _, h, _ => h.elim
  | .ptr :: _, _, _ :: _, _, h, _ => h.elim
  | .slice :: _, _, _ :: _, _, h, _ => h.elim
  | .map :: _, _, _ :: _, _, h, _ => h.elim
  | .any :: _, _, _ :: _, _, h, _ => h.elim
  | .fn :: _, _, _ :: _, _, h, _ => h.elim
def dFs (D : TypeId → Option (List Ty)) : List Field → Nat → Option (List Ty)
  | [], _ => some []
  | f :: r, o => match f.offset == o, D f.type with
    | true, some ks => match dFs D r (o + ks.length) with
      | some ks' => some (ks ++ ks')
      | none => none
    | _, _ => none
def dTy (P : Program) : Nat → TypeId → Option (List Ty)
  | 0, _ => none
  | n + 1, t => match P.underlying t with
    | some (.int k) => some [.int k]
    | some .bool => some [.bool]
    | some .string => some [.str]
    | some (.struct fs) => match dFs (dTy P n) fs.toList 0 with
      | some ks => match ks.length == P.cellsOf t with
        | true => some ks
        | false => none
      | none => none
    | _ => none
theorem dFs_ok {P : Program} {D : TypeId → Option (List Ty)} {cs : List Value} {R : TypeId → List Value → Prop} (hD : ∀ t ks vs, D t = some ks → R t vs → shOk ks vs) : ∀ {fs : List Field} {o : Nat} {ks : List Ty}, dFs D fs o = some ks →
    (∀ f ∈ fs, R f.type ((cs.drop f.offset).take (P.cellsOf f.type))) → shOk ks ((cs.drop o).take ks.length)
  | [], o, ks, h, _ => by simp [dFs] at h; subst h; simp [shOk]
  | f :: r, o, ks, h, hf => by
    simp only [dFs] at h
    split at h
    · rename_i k1 ho h1
      split at h
      · rename_i k2 h2
        cases h
        have ho := beq_iff_eq.1 ho
        have s1 := hD _ _ _ h1 (hf f List.mem_cons_self)
        rw [ho] at s1
        have l1 := shOk_len s1
        have s2 := dFs_ok hD h2 fun g hg => hf g (List.mem_cons_of_mem _ hg)
        have e1 : (cs.drop o).take (P.cellsOf f.type) = (cs.drop o).take k1.length := by
          rw [← l1, List.length_take]
          rcases Nat.le_total (P.cellsOf f.type) (cs.drop o).length with hle | hle
          · rw [Nat.min_eq_left hle]
          · rw [Nat.min_eq_right hle, List.take_of_length_le hle, List.take_length]
        rw [e1] at s1
        have := shOk_app s1 s2
        rw [List.length_append, List.take_add, List.drop_drop]
        exact this
      · cases h
    · cases h
theorem dTy_ok {P : Program} {H : Type} {enc : TypeId × Value → H} {w : World} {sp : Nat → Bool} : ∀ (f : Nat) {n : Nat} {t : TypeId} {ks : List Ty} {cs : List Value} {y : DataW H × List MemPlace}, dTy P f t = some ks → DataW.trod enc P w 0 sp true n t cs = some y → shOk ks cs
  | 0, _, _, _, _, _, h, _ => by cases h
  | f + 1, n, t, ks, cs, y, h, hy => by
    simp only [dTy] at h
    split at h
    · rename_i k hu
      cases h
      obtain ⟨m, rfl, _, hw⟩ := DataW.trod_int hu hy
      exact ⟨⟨m, rfl, hw⟩, trivial⟩
    · rename_i hu
      cases h
      obtain ⟨b, rfl, _⟩ := DataW.trod_bool hu hy
      exact ⟨⟨b, rfl⟩, trivial⟩
    · rename_i hu
      cases h
      obtain ⟨s, rfl, _, hs⟩ := DataW.trod_string hu hy
      exact ⟨⟨s, rfl, hs⟩, trivial⟩
    · rename_i fs hu
      split at h
      · rename_i k1 h1
        split at h
        · rename_i hk
          cases h
          obtain ⟨xs, n', _, _, hl, hlen, hf⟩ := DataW.trod_struct hu hy
          have := dFs_ok (P := P) (cs := cs) (R := fun t vs => ∃ y, DataW.trod enc P w 0 sp true n' t vs = some y) (fun t ks vs hD ⟨y, hy⟩ => dTy_ok f hD hy) h1 fun g hg => by
            obtain ⟨i, hi, hg⟩ := List.getElem_of_mem hg
            have h2 := hf i g (by rw [← hg]; simp at hi ⊢)
            rw [List.getElem?_eq_getElem (by rw [hlen]; simpa using hi)] at h2
            exact ⟨_, h2⟩
          have hk := beq_iff_eq.1 hk
          rw [List.drop_zero, hk, ← hl, List.take_length] at this
          exact this
        · cases h
      · cases h
    · cases h
theorem sh_nil {vs : List Value} (h : shOk [] vs) : vs = [] := by
  cases vs with
  | nil => rfl
  | cons _ _ => exact h.elim
theorem sh_int {k : IntKind} {r : List Ty} {vs : List Value} (h : shOk (.int k :: r) vs) : ∃ n vs', vs = .int k n :: vs' ∧ (Lit.int k n).wf = true ∧ shOk r vs' := by
  cases vs with
  | nil => exact h.elim
  | cons v vs => obtain ⟨⟨n, rfl, hw⟩, h⟩ := h; exact ⟨n, vs, rfl, hw, h⟩
theorem sh_bool {r : List Ty} {vs : List Value} (h : shOk (.bool :: r) vs) : ∃ b vs', vs = .bool b :: vs' ∧ shOk r vs' := by
  cases vs with
  | nil => exact h.elim
  | cons v vs => obtain ⟨⟨n, rfl⟩, h⟩ := h; exact ⟨n, vs, rfl, h⟩
theorem sh_str {r : List Ty} {vs : List Value} (h : shOk (.str :: r) vs) : ∃ (s : ByteArray) (vs' : List Value), vs = .string s :: vs' ∧ s.size ≤ maxLen ∧ shOk r vs' := by
  cases vs with
  | nil => exact h.elim
  | cons v vs => obtain ⟨⟨n, rfl, hs⟩, h⟩ := h; exact ⟨n, vs, rfl, hs, h⟩

theorem one_slice {P : Program} {w : World} {r : Reach} {base : Nat} {t e : TypeId} {v : Value} (ht : P.underlying t = some (.slice e)) (h : Value.okWide P w r base t v) : one1 v = true := by
  unfold Value.okWide at h
  simp only [ht] at h
  unfold Cell.okWide at h
  simp only [ht] at h
  unfold Cell.ok at h
  simp only [ht] at h
  cases v <;> first | rfl | exact h.elim

theorem one_plain {P : Program} {w : World} {r : Reach} {base : Nat} {t : TypeId} {v : Value} (ht : P.underlying t = some .bool ∨ P.underlying t = some .string ∨ ∃ k, P.underlying t = some (.int k)) (h : Value.okWide P w r base t v) : one1 v = true := by
  unfold Value.okWide at h
  rcases ht with ht | ht | ⟨k, ht⟩ <;> simp only [ht] at h <;> unfold Cell.okWide at h <;> simp only [ht] at h <;> unfold Cell.ok at h <;> simp only [ht] at h <;> cases v <;> first | rfl | exact h.elim
section
variable {H : Type} {enc : TypeId × Value → H} {P : Program} {w : World} {t : TypeId} {v : Value} {d : DataW H} {ps : List MemPlace} {r : Reach} {base : Nat}
theorem cells_one (h1 : one1 v = true) : v.cells.toList = [v] := by cases v <;> simp [one1] at h1 <;> rfl
theorem open_int {k : IntKind} (ht : P.underlying t = some (.int k)) (h : DataW.Trod enc P w 0 (fun _ => true) true t v d ps) (hv : Value.okWide P w r base t v) : ∃ n, v = .int k n ∧ (Lit.int k n).wf = true := by
  obtain ⟨fuel, h⟩ := h
  rw [cells_one (one_plain (.inr (.inr ⟨k, ht⟩)) hv)] at h
  obtain ⟨n, hn, _, hw⟩ := DataW.trod_int ht h
  cases hn; exact ⟨n, rfl, hw⟩
theorem open_str (ht : P.underlying t = some .string) (h : DataW.Trod enc P w 0 (fun _ => true) true t v d ps) (hv : Value.okWide P w r base t v) : ∃ s : ByteArray, v = .string s ∧ s.size ≤ maxLen := by
  obtain ⟨fuel, h⟩ := h
  rw [cells_one (one_plain (.inr (.inl ht)) hv)] at h
  obtain ⟨n, hn, _, hw⟩ := DataW.trod_string ht h
  cases hn; exact ⟨n, rfl, hw⟩
theorem open_bool (ht : P.underlying t = some .bool) (h : DataW.Trod enc P w 0 (fun _ => true) true t v d ps) (hv : Value.okWide P w r base t v) : ∃ b : Bool, v = .bool b := by
  obtain ⟨fuel, h⟩ := h
  rw [cells_one (one_plain (.inl ht) hv)] at h
  obtain ⟨n, hn, _⟩ := DataW.trod_bool ht h
  cases hn; exact ⟨n, rfl⟩
end

end TL

namespace TL
open Go

def mk (l : List UInt8) : ByteArray := ⟨l.toArray⟩
theorem bys_mk (l : List UInt8) : bys (mk l) = l := by simp [bys, mk]
theorem mk_bys (s : ByteArray) : mk (bys s) = s := by cases s; simp [mk, bys]
theorem ex_mk (s : ByteArray) : ∃ l, s = mk l := ⟨bys s, (mk_bys s).symm⟩
theorem size_mk (l : List UInt8) : (mk l).size = l.length := by simp [mk, ByteArray.size]
theorem mk_inj {l m : List UInt8} (h : mk l = mk m) : l = m := by
  have := congrArg bys h
  simpa [bys_mk] using this
theorem byteAt_mk (l : List UInt8) (i : Int) : byteAt (mk l) i = ((l.getD i.toNat 0).toNat : Int) := by unfold byteAt; rw [bys_mk]
theorem byteAt_lt (s : ByteArray) (i : Int) : 0 ≤ byteAt s i ∧ byteAt s i < 256 := by
  unfold byteAt
  have := ((bys s).getD i.toNat 0).toNat_lt
  omega
theorem mk_append (l m : List UInt8) : mk l ++ mk m = mk (l ++ m) := by
  apply ByteArray.ext
  show (mk l ++ mk m).data = _
  rw [ByteArray.data_append]; simp [mk]
theorem mk_nil : mk [] = ⟨#[]⟩ := rfl
theorem subS_mk (l : List UInt8) (lo hi : Int) : subS (mk l) lo hi = mk ((l.drop lo.toNat).take (hi.toNat - lo.toNat)) := by
  unfold subS
  apply ByteArray.ext
  rw [ByteArray.data_extract]
  simp [mk, List.take_drop]
theorem strEq_mk {l m : List UInt8} : strEq (mk l) (mk m) = true ↔ l = m := by
  rw [strEq_iff]
  exact ⟨mk_inj, fun e => by rw [e]⟩
theorem strEq_mk' (l m : List UInt8) : strEq (mk l) (mk m) = decide (l = m) := by
  by_cases h : l = m
  · simp [h, strEq_self]
  · simp [h]
    cases e : strEq (mk l) (mk m) with
    | false => rfl
    | true => exact absurd (strEq_mk.1 e) h
def EncB : Enc UInt8 where
  enc b := [.int .u8 (b.toNat : Int)]
  k := 1
  len _ := rfl
  one p v hv := by
    simp only [List.mem_cons, List.not_mem_nil, or_false] at hv
    rw [hv]; rfl
  pos := by decide
theorem row_map : ∀ (l : List UInt8), EncB.row l = l.map fun x => Value.int .u8 (x.toNat : Int)
  | [] => rfl
  | b :: r => by rw [EncB.row_cons, row_map r]; rfl
theorem byteVs_mk (l : List UInt8) : byteVs (mk l) = EncB.row l := by rw [row_map, byteVs, bys_mk]
/-- a row of bytes as a text -/
theorem SR.str {h : PH} {a : Option Addr} {l : List UInt8} (x : SR EncB h a l) : strH h a l.length (mk l) := by
  unfold strH
  rw [byteVs_mk]
  have := x.src
  simpa [EncB] using this

/-! ### Numbers' lengths in bits -/
def blen (n : Nat) : Nat := if n = 0 then 0 else Nat.log2 n + 1
theorem blen_le {n m : Nat} : blen n ≤ m ↔ n < 2 ^ m := by
  unfold blen
  split
  · rename_i h; subst h
    exact ⟨fun _ => Nat.pow_pos (by decide), fun _ => Nat.zero_le _⟩
  · rename_i h
    rw [← Nat.log2_lt h]; omega
theorem blen_shift {n s : Nat} (h : 2 ^ s ≤ n) : blen n = s + blen (n / 2 ^ s) := by
  have hp : 0 < 2 ^ s := Nat.pow_pos (by decide)
  have h1 : 0 < n / 2 ^ s := Nat.div_pos h hp
  apply Nat.le_antisymm
  · rw [blen_le]
    have := blen_le.1 (Nat.le_refl (blen (n / 2 ^ s)))
    rw [Nat.pow_add, Nat.mul_comm]
    exact (Nat.div_lt_iff_lt_mul hp).1 this
  · have h2 : blen (n / 2 ^ s) ≤ blen n - s := by
      rw [blen_le]
      rw [Nat.div_lt_iff_lt_mul hp, Nat.mul_comm, ← Nat.pow_add]
      refine Nat.lt_of_lt_of_le (blen_le.1 (Nat.le_refl (blen n))) (Nat.pow_le_pow_right (by decide) ?_)
      omega
    have h3 : ¬ blen n ≤ s := fun hle => by
      have := blen_le.1 hle; omega
    omega
theorem shr_nat {n s : Nat} (hs : s < 64) : shrV .u64 (n : Int) (s : Int) = ((n / 2 ^ s : Nat) : Int) := by
  unfold shrV
  rw [show min (s : Int).toNat (IntKind.bits .u64) = s by simp [IntKind.bits]; omega, Int.fdiv_eq_ediv_of_nonneg _ (Int.le_of_lt (by exact_mod_cast Nat.pow_pos (by decide)))]
  norm_cast
theorem wrap_u8 {n : Int} (h0 : 0 ≤ n) (h1 : n < 256) : IntKind.wrap .u8 n = n := by
  simp [IntKind.wrap, IntKind.bits, IntKind.signed]; omega
theorem wrap_u64 {n : Int} (h0 : 0 ≤ n) (h1 : n < 18446744073709551616) : IntKind.wrap .u64 n = n := by
  simp [IntKind.wrap, IntKind.bits, IntKind.signed]; omega
theorem wrap_u32 {n : Int} (h0 : 0 ≤ n) (h1 : n < 4294967296) : IntKind.wrap .u32 n = n := by
  simp [IntKind.wrap, IntKind.bits, IntKind.signed]; omega

end TL

namespace TL
open Go
variable {B : List Nat} {h : PH}
theorem Chg.pre {B B' C : List Nat} {h h1 h2 : PH} (c : Chg [] C h h1) (d : Chg B B' h1 h2) (_ : Has B h) : Chg B B' h h2 := by
  refine ⟨fun b o hb e => d.1 b o hb (c.sub0 b o e), fun b hb => ?_⟩
  rcases d.2 b hb with h3 | h3
  · exact .inl h3
  · refine .inr ?_
    cases e : h b with
    | none => rfl
    | some o => rw [c.sub0 b o e] at h3; cases h3
theorem SR.avoid {α : Type} {E : Enc α} {a : Option Addr} {l : List α} (x : SR E h a l) {b o : Nat} (hb : h b = none) (e : a = some ⟨b, o, none⟩) : l = [] := by
  rcases x with hl | ⟨b2, o2, e2, hr⟩
  · exact hl
  · rw [e] at e2; cases e2
    unfold PH.rds at hr; rw [hb] at hr; cases hr
theorem Buf.avoid {α : Type} {E : Enc α} {T : TypeId} {a : Option Addr} {n c : Nat} {l : List α} (x : Buf E T B h a n c l) {b o : Nat} (hb : b ∉ B) (e : a = some ⟨b, o, none⟩) : l = [] := by
  obtain ⟨_, ⟨_, _, h⟩ | ⟨b2, _, e2, rfl, _⟩⟩ := x
  · exact h
  · rw [e] at e2; cases e2; simp at hb
theorem SR.slice {α : Type} {E : Enc α} {a : Option Addr} {l : List α} (x : SR E h a l) {lo hi : Nat} {mx L : Int} (hL : L.toNat = lo) (h2 : hi ≤ l.length) (h3 : hi ≤ mx.toNat) : SR E h (slA a E.k L mx) ((l.drop lo).take (hi - lo)) := by
  by_cases h0 : hi - lo = 0
  · left; rw [h0]; rfl
  · rcases x with rfl | ⟨b, o, e, hr⟩
    · simp at h2; omega
    · refine .inr ⟨b, o + lo * E.k, ?_, ?_⟩
      · unfold slA; rw [hL, if_neg (by omega), e, Option.map_some, addr_add]
      · rw [List.length_take, List.length_drop, Nat.min_eq_left (by omega)]
        have hle : lo * E.k + (hi - lo) * E.k ≤ l.length * E.k := by rw [← Nat.add_mul]; exact Nat.mul_le_mul_right _ (by omega)
        rw [rds_to hr (lo * E.k) _ hle, E.row_drop, E.row_take]
theorem SR.at1 {α : Type} {E : Enc α} {a : Option Addr} {l : List α} (x : SR E h a l) {i : Nat} (hi : i < l.length) {mx L : Int} (hL : L.toNat = i) (h3 : l.length ≤ mx.toNat) : SR E h (slA a E.k L mx) [l[i]] := by
  have := x.slice (lo := i) (hi := i + 1) (mx := mx) hL (by omega) (by omega)
  rw [List.drop_eq_getElem_cons hi, show i + 1 - i = 1 by omega] at this
  exact this
theorem Chg.from {B' : List Nat} {h g k : PH} (s : h.Sub g) (c : Chg [] B' g k) : Chg [] B' h k := ⟨fun b o _ e => c.sub0 b o (s b o e), fun b hb => by
  rcases c.2 b hb with h1 | h1
  · cases h1
  · refine .inr ?_
    cases e : h b with
    | none => rfl
    | some o => rw [s b o e] at h1; cases h1⟩
theorem SR.getAt {α : Type} {E : Enc α} {b o : Nat} {l : List α} (x : SR E h (some ⟨b, o, none⟩) l) {i : Nat} (hi : i < l.length) : ∀ o' f m, o' = o + i * E.k + f → f + m ≤ E.k → h.rds b o' m = some (((E.enc l[i]).drop f).take m) := by
  obtain ⟨b', o', e, hr⟩ := x.get hi
  cases e; exact hr
theorem Buf.sub {α : Type} {E : Enc α} {T : TypeId} {a : Option Addr} {n c : Nat} {l : List α} {g : PH} (x : Buf E T B h a n c l) (s : h.Sub g) : Buf E T B g a n c l := x.keep fun b _ o e => s b o e
theorem newH_eq {o o' : Obj} {K : Nat → PH → Prop} (e : o = o') (hh : newH h o' K) : newH h o K := e ▸ hh
theorem Buf.setAt {α : Type} {E : Enc α} {T : TypeId} {B : List Nat} {h : PH} {a : Option Addr} {n c : Nat} {l : List α} (x : Buf E T B h a n c l) {i f o' : Nat} (hi : i < l.length) {vs : List Value} {y : α} {b o : Nat} (ha : a = some ⟨b, o, none⟩) (ho : o' = o + i * E.k + f)
    (hy : (E.enc l[i]).take f ++ vs ++ (E.enc l[i]).drop (f + vs.length) = E.enc y) (hf : f + vs.length ≤ E.k) {K : PH → Prop} (hk : ∀ h', Buf E T B h' a n c (l.set i y) → Chg B B h h' → K h') : stH h b o' vs K := by
  obtain ⟨rfl, ⟨rfl, _, rfl⟩ | ⟨b', tail, e, rfl, hb, h1, h2⟩⟩ := x
  · simp at hi
  · rw [ha] at e; cases e
    subst ho
    have hl : i * E.k + E.k ≤ l.length * E.k := by rw [← Nat.succ_mul]; exact Nat.mul_le_mul_right _ hi
    refine stH_mk hb (by rw [List.length_append, E.row_len]; omega) (hk _ ⟨by simp, .inr ⟨b, tail, ha, rfl, ?_, ?_, ?_⟩⟩ (Chg.upd _))
    · rw [PH.upd_same]
      congr 2
      congr 1
      have hsplit : l = l.take i ++ l[i] :: l.drop (i + 1) := by rw [← List.drop_eq_getElem_cons hi, List.take_append_drop]
      have hset : l.set i y = l.take i ++ y :: l.drop (i + 1) := by rw [List.set_eq_take_append_cons_drop, if_pos hi]
      have h3 : E.row l = E.row (l.take i) ++ (E.enc l[i] ++ E.row (l.drop (i + 1))) := by
        conv => lhs; rw [hsplit]
        rw [E.row_app, E.row_cons]
      have hlt : (E.row (l.take i)).length = i * E.k := by rw [E.row_len, List.length_take, Nat.min_eq_left (by omega)]
      rw [hset, E.row_app, E.row_cons, ← hy, h3, Nat.zero_add]
      simp only [List.append_assoc]
      rw [List.take_append, hlt, List.take_of_length_le (by omega), show i * E.k + f - i * E.k = f by omega, List.take_append_of_le_length (by rw [E.len]; omega)]
      rw [List.drop_append, hlt, List.drop_of_length_le (by omega), show i * E.k + f + vs.length - i * E.k = f + vs.length by omega, List.drop_append_of_le_length (by rw [E.len]; omega)]
      simp only [List.append_assoc, List.nil_append]
    · simp [h1]
    · simpa using h2
/-- append(append([]T{}, l[:k]..), l[k+1:]..) -/
theorem cutOut {α : Type} {E : Enc α} {T : TypeId} {kk bt : Nat} {z : List Value} {a : Option Addr} {n c : Nat} {l : List α} {k : Nat} {BL : List Nat} {J : Option Addr → Nat → Nat → PH → Prop} (hkk : kk = E.k) (hl : Buf E T BL h a n c l) (hz : z.length = kk) (hk : k < l.length) (hb : l.length * bt ≤ 140737488355328) (hn : l.length < 1000000)
    (hj : ∀ a' n' c' B' h', Buf E T B' h' a' n' c' (l.eraseIdx k) → Chg [] B' h h' → J a' n' c' h') :
    (0 ≤ (0 : Int) ∧ (0 : Int) ≤ (k : Int) ∧ (k : Int) ≤ ((c : Nat) : Int) ∧ ((c : Nat) : Int) ≤ (c : Nat)) ∧
    (0 ≤ (IntKind.wrap .i64 ((k : Int) + (1 : Int))) ∧ (IntKind.wrap .i64 ((k : Int) + (1 : Int))) ≤ ((n : Nat) : Int) ∧ ((n : Nat) : Int) ≤ ((c : Nat) : Int) ∧ ((c : Nat) : Int) ≤ (c : Nat)) ∧
    newH h (.cells #[] T (0, 0)) fun bv h17 =>
    ∃ vs : List Value, srcH h17 (slA a kk (0 : Int) ((c : Nat) : Int)) (((k : Int).toNat - (0 : Int).toNat) * kk) vs ∧
    appH T kk bt z (some ⟨bv, 0, none⟩) 0 0 ((k : Int).toNat - (0 : Int).toNat) vs (fun tA tN tC h18 =>
      ∃ vs_1 : List Value, srcH h18 (slA a kk (IntKind.wrap .i64 ((k : Int) + (1 : Int))) ((c : Nat) : Int)) ((((n : Nat) : Int).toNat - (IntKind.wrap .i64 ((k : Int) + (1 : Int))).toNat) * kk) vs_1 ∧
      appH T kk bt z tA tN tC (((n : Nat) : Int).toNat - (IntKind.wrap .i64 ((k : Int) + (1 : Int))).toNat) vs_1 (fun leftA leftN leftC h19 => J leftA leftN leftC h19) h18) h17 := by
  subst hkk
  have hnl := hl.1
  have hle := hl.le
  rw [wrap64 (n := (k : Int) + 1) (by omega) (by omega)]
  refine ⟨⟨by omega, by omega, by omega, by omega⟩, ⟨by omega, by omega, by omega, by omega⟩, nwL (cs := []) fun bv h1 hb0 hb1 c1 => ⟨E.row ((l.drop 0).take (k - 0)), ?_, ?_⟩⟩
  · exact (hl.chg c1 (Dj.nil _)).sr.part (lo := 0) (hi := k) rfl (by omega) (by omega) (by simp; omega)
  · have hmul : ∀ m, m ≤ l.length → m * bt ≤ 140737488355328 := fun m hm => Nat.le_trans (Nat.mul_le_mul_right _ hm) hb
    refine (Buf.nil E T h1 _).append (new := (l.drop 0).take (k - 0)) (by simp; omega) rfl hz (hmul _ (by simp; omega)) ?_
    intro a1 n1 B1 h2 hw1 c2 _
    have c12 : Chg [] B1 h h2 := (c1.trans (c2.sub (C := [bv]) (C' := B1) (by simp) fun b hb => .inl hb))
    refine ⟨E.row ((l.drop (k + 1)).take (n - (k + 1))), ?_, ?_⟩
    · have := (hl.chg c12 (Dj.nil _)).sr.part (mx := ((c : Nat) : Int)) (L := (k : Int) + 1) (lo := k + 1) (hi := n) (by omega) (by omega) (by omega) (by omega)
      simpa using this
    · refine hw1.append (new := (l.drop (k + 1)).take (n - (k + 1))) (by simp; omega) rfl hz (hmul _ (by simp; omega)) ?_
      intro a2 n2 B2 h3 hw2 c3 _
      have he : ([] : List α) ++ (l.drop 0).take (k - 0) ++ (l.drop (k + 1)).take (n - (k + 1)) = l.eraseIdx k := by
        rw [List.eraseIdx_eq_take_drop_succ, List.take_of_length_le (l := l.drop (k + 1)) (by simp; omega)]; simp
      rw [he] at hw2
      exact hj _ _ _ _ _ hw2 (c12.trans c3)
theorem PH.Sub.tr {a b c : PH} (x : a.Sub b) (y : b.Sub c) : a.Sub c := fun q o e => y q o (x q o e)
end TL

namespace TL
open Go

theorem extH_on {P : Program} {f : FuncId} {fn : Func} {args : List Value} {e : Array Value → Sem Value} {v : Value} {K : Value → PH → Prop} {h : PH} (hf : P.funcs[f]? = some fn) (hn : (fn.name == "runtime.NumGoroutine") = false) (hb : fn.body.isNone = true)
    (h1 : (Extern.findNext fn).isNone = true) (h2 : Extern.find fn = some e) (hv : ∀ g, h.Sub g → ro P (e args.toArray) g = some v) (hk : K v h) : ExtH P f args K h := by
  refine ⟨v, fun g hg => ?_, hk⟩
  have h1 : Extern.findNext fn = none := by simpa using h1
  unfold callFunc
  rw [ro_bind, ro_program, Option.bind_some]
  simp only [hf, hn, hb, h1, h2]
  simp only [Bool.false_eq_true, if_false, if_true]
  show ro P (mark (.extern f) >>= fun _ => _) g = _
  rw [ro_bind]
  have hm : ro P (mark (.extern f)) g = some () := rfl
  rw [hm, Option.bind_some]
  show ro P ((e args.toArray) >>= fun a => pure (Next.value a)) g = _
  rw [ro_bind, hv g hg]; rfl
theorem extH_of {P : Program} {f : FuncId} {fn : Func} {args : List Value} {e : Array Value → Sem Value} {v : Value} {K : Value → PH → Prop} {h : PH} (hf : P.funcs[f]? = some fn) (hn : (fn.name == "runtime.NumGoroutine") = false) (hb : fn.body.isNone = true)
    (h1 : (Extern.findNext fn).isNone = true) (h2 : Extern.find fn = some e) (hv : ∀ g, ro P (e args.toArray) g = some v) (hk : K v h) : ExtH P f args K h :=
  extH_on hf hn hb h1 h2 (fun g _ => hv g) hk
/-- the first place of a byte -/
def idxB (l : List UInt8) (c : UInt8) : Int := match l.findIdx? (· == c) with
  | some i => (i : Int)
  | none => -1
theorem find_range {l : List UInt8} {c : UInt8} : (match (List.range l.length).find? fun i => l.getD i 0 == c with
    | some i => (i : Int)
    | none => -1) = idxB l c := by
  unfold idxB
  have : (List.range l.length).find? (fun i => l.getD i 0 == c) = l.findIdx? (· == c) := by
    cases e : l.findIdx? (· == c) with
    | none =>
      rw [List.findIdx?_eq_none_iff] at e
      rw [List.find?_eq_none]
      intro i hi
      rw [List.mem_range] at hi
      have := e l[i] (List.getElem_mem hi)
      simp [List.getD, hi]; simpa using this
    | some i =>
      rw [List.findIdx?_eq_some_iff_getElem] at e
      obtain ⟨hi, h1, h2⟩ := e
      rw [List.find?_range_eq_some]
      refine ⟨by simpa [List.getD, hi] using h1, List.mem_range.2 hi, fun j hj => ?_⟩
      have := h2 j hj
      simpa [List.getD, show j < l.length by omega] using this
  rw [this]
theorem ro_indexByte {P : Program} {g : PH} {l : List UInt8} {c : Nat} : ro P (Extern.BytealgIndexByte.indexByte #[.string (mk l), .int .u8 (c : Int)]) g = some (.int .i64 (idxB l (UInt8.ofNat c))) := by
  show ro P (do
    let b ← Extern.Bytes.bytesOf (.string (mk l))
    let c ← Extern.Bytes.asByte (.int .u8 (c : Int))
    match (List.range b.size).find? fun i => b[i]! == c with
    | some i => pure (goInt i)
    | none => pure (goInt (-1))) g = _
  have e1 : ro P (Extern.Bytes.bytesOf (.string (mk l))) g = some (mk l) := rfl
  have e2 : ro P (Extern.Bytes.asByte (.int .u8 (c : Int))) g = some (UInt8.ofNat c) := by
    show some ((c : Int).toNat.toUInt8) = _
    simp [Nat.toUInt8]
  rw [ro_bind, e1, Option.bind_some, ro_bind, e2, Option.bind_some, size_mk]
  have e3 : (fun i => (mk l)[i]! == UInt8.ofNat c) = fun i => l.getD i 0 == UInt8.ofNat c := by
    funext i
    congr 1
    by_cases hi : i < l.length
    · rw [getElem!_pos (mk l) i (by rw [size_mk]; exact hi)]
      simp [List.getD, hi]
      rfl
    · rw [getElem!_neg (mk l) i (by rw [size_mk]; exact hi)]
      simp [List.getD, hi]
      rfl
  rw [e3, ← find_range]
  cases (List.range l.length).find? fun i => l.getD i 0 == UInt8.ofNat c <;> rfl
theorem idxB_none {l : List UInt8} {c : UInt8} : idxB l c < 0 ↔ c ∉ l := by
  unfold idxB
  cases e : l.findIdx? (· == c) with
  | none =>
    rw [List.findIdx?_eq_none_iff] at e
    refine ⟨fun _ hm => ?_, fun _ => by show (-1 : Int) < 0; decide⟩
    have := e c hm
    simp at this
  | some i =>
    rw [List.findIdx?_eq_some_iff_getElem] at e
    obtain ⟨hi, h1, _⟩ := e
    refine ⟨fun h => by simp only at h; omega, fun h => ?_⟩
    have : l[i] = c := by simpa using h1
    exact absurd (this ▸ List.getElem_mem hi) h
/-- a text cut at the first place of a byte -/
theorem idxB_some {l : List UInt8} {c : UInt8} (h : ¬ idxB l c < 0) : ∃ i : Nat, idxB l c = (i : Int) ∧ i < l.length ∧ l.take i = l.takeWhile (· != c) ∧ l.drop i = c :: l.drop (i + 1) := by
  unfold idxB at h ⊢
  cases e : l.findIdx? (· == c) with
  | none => rw [e] at h; exact absurd (by show (-1 : Int) < 0; decide) h
  | some i =>
    rw [List.findIdx?_eq_some_iff_getElem] at e
    obtain ⟨hi, h1, h2⟩ := e
    have hc : l[i] = c := by simpa using h1
    refine ⟨i, rfl, hi, ?_, by rw [List.drop_eq_getElem_cons hi, hc]⟩
    have hsplit : l = l.take i ++ c :: l.drop (i + 1) := by rw [← hc, ← List.drop_eq_getElem_cons hi, List.take_append_drop]
    have : (l.take i ++ c :: l.drop (i + 1)).takeWhile (· != c) = l.take i := by
      rw [List.takeWhile_append_of_pos]
      · simp
      · intro b hb
        obtain ⟨j, hj, rfl⟩ := List.getElem_of_mem hb
        rw [List.length_take] at hj
        have := h2 j (by omega)
        simpa using this
    rw [← hsplit] at this
    exact this.symm
end TL

namespace TL
open Go Go.RowKit Go.WideShapes Go.ChangeShapes

inductive DT | int (k : IntKind) | bool | str | sl (t : TypeId) | ints (k : IntKind) (n : Nat)
def DT.n : DT → Nat
  | .ints _ n => n
  | _ => 1
def dN : List DT → Nat
  | [] => 0
  | d :: r => d.n + dN r
theorem take1 {α : Type} {l : List α} {i : Nat} (h : i < l.length) : (l.drop i).take 1 = [l[i]] := by
  rw [List.drop_eq_getElem_cons h]; rfl
variable {R : TypeId → Value → Prop}
def sh1 (R : TypeId → Value → Prop) : DT → List Value → Prop
  | .int k, vs => ∃ n, vs = [.int k n] ∧ (Lit.int k n).wf = true
  | .bool, vs => ∃ b, vs = [.bool b]
  | .str, vs => ∃ s : ByteArray, vs = [.string s] ∧ s.size ≤ maxLen
  | .sl t, vs => ∃ v, vs = [v] ∧ one1 v = true ∧ R t v
  | .ints k n, vs => ∃ l : List Int, vs = l.map (Value.int k) ∧ l.length = n ∧ ∀ x ∈ l, (Lit.int k x).wf = true
def shT (R : TypeId → Value → Prop) : List DT → List Value → Prop
  | [], vs => vs = []
  | d :: r, vs => ∃ a b, vs = a ++ b ∧ sh1 R d a ∧ shT R r b
theorem sh1_len {d : DT} {vs : List Value} (h : sh1 R d vs) : vs.length = d.n := by
  cases d <;> simp only [sh1] at h
  · obtain ⟨n, rfl, _⟩ := h; rfl
  · obtain ⟨n, rfl⟩ := h; rfl
  · obtain ⟨n, rfl, _⟩ := h; rfl
  · obtain ⟨n, rfl, _⟩ := h; rfl
  · obtain ⟨l, rfl, h, _⟩ := h; simp [h, DT.n]
theorem shT_len : ∀ {ks : List DT} {vs : List Value}, shT R ks vs → vs.length = dN ks
  | [], vs, h => by simp only [shT] at h; subst h; rfl
  | d :: r, vs, h => by
    obtain ⟨a, b, rfl, h1, h2⟩ := h
    rw [List.length_append, sh1_len h1, shT_len h2]; rfl
theorem shT_app : ∀ {ks ks' : List DT} {vs vs' : List Value}, shT R ks vs → shT R ks' vs' → shT R (ks ++ ks') (vs ++ vs')
  | [], _, vs, _, h, h' => by simp only [shT] at h; subst h; exact h'
  | d :: r, _, vs, vs', h, h' => by
    obtain ⟨a, b, rfl, h1, h2⟩ := h
    exact ⟨a, b ++ vs', by simp, h1, shT_app h2 h'⟩
theorem shT_one {d : DT} {vs : List Value} (h : sh1 R d vs) : shT R [d] vs := ⟨vs, [], by simp, h, rfl⟩
theorem dN_app (a b : List DT) : dN (a ++ b) = dN a + dN b := by
  induction a with
  | nil => simp [dN]
  | cons d r ih => simp [dN, ih, Nat.add_assoc]

def dFsT (D : TypeId → Option (List DT)) : List Field → Nat → Option (List DT)
  | [], _ => some []
  | f :: r, o => match f.offset == o, D f.type with
    | true, some ks => match dFsT D r (o + dN ks) with
      | some ks' => some (ks ++ ks')
      | none => none
    | _, _ => none
def dT (P : Program) : Nat → TypeId → Option (List DT)
  | 0, _ => none
  | n + 1, t => match P.underlying t with
    | some (.int k) => some [.int k]
    | some .bool => some [.bool]
    | some .string => some [.str]
    | some (.slice _) => some [.sl t]
    | some (.array m e) => match P.underlying e, P.cellsOf e == 1, P.cellsOf t == m with
      | some (.int k), true, true => some [.ints k m]
      | _, _, _ => none
    | some (.struct fs) => match dFsT (dT P n) fs.toList 0 with
      | some ks => match dN ks == P.cellsOf t with
        | true => some ks
        | false => none
      | none => none
    | _ => none
theorem dFsT_ok {P : Program} {D : TypeId → Option (List DT)} {cs : List Value} {T : TypeId → List Value → Prop} (hD : ∀ t ks vs, D t = some ks → T t vs → shT R ks vs) : ∀ {fs : List Field} {o : Nat} {ks : List DT}, dFsT D fs o = some ks →
    (∀ f ∈ fs, T f.type ((cs.drop f.offset).take (P.cellsOf f.type))) → shT R ks ((cs.drop o).take (dN ks))
  | [], o, ks, h, _ => by simp [dFsT] at h; subst h; simp [shT, dN]
  | f :: r, o, ks, h, hf => by
    simp only [dFsT] at h
    split at h
    · rename_i k1 ho h1
      split at h
      · rename_i k2 h2
        cases h
        have ho := beq_iff_eq.1 ho
        have s1 := hD _ _ _ h1 (hf f List.mem_cons_self)
        rw [ho] at s1
        have l1 := shT_len s1
        have s2 := dFsT_ok hD h2 fun g hg => hf g (List.mem_cons_of_mem _ hg)
        have e1 : (cs.drop o).take (P.cellsOf f.type) = (cs.drop o).take (dN k1) := by
          rw [← l1, List.length_take]
          rcases Nat.le_total (P.cellsOf f.type) (cs.drop o).length with hle | hle
          · rw [Nat.min_eq_left hle]
          · rw [Nat.min_eq_right hle, List.take_of_length_le hle, List.take_length]
        rw [e1] at s1
        have := shT_app s1 s2
        rw [dN_app, List.take_add, List.drop_drop]
        exact this
      · cases h
    · cases h
/-- what a slice's value reads as -/
def Trd {H : Type} (enc : TypeId × Value → H) (P : Program) (w : World) (t : TypeId) (v : Value) : Prop := ∃ d ps, DataW.Trod enc P w 0 (fun _ => true) true t v d ps
theorem dT_ok {P : Program} {H : Type} {enc : TypeId × Value → H} {w : World} : ∀ (f : Nat) {n : Nat} {t : TypeId} {ks : List DT} {cs : List Value} {y : DataW H × List MemPlace}, dT P f t = some ks → DataW.trod enc P w 0 (fun _ => true) true n t cs = some y → shT (Trd enc P w) ks cs
  | 0, _, _, _, _, _, h, _ => by cases h
  | f + 1, n, t, ks, cs, y, h, hy => by
    simp only [dT] at h
    split at h
    · rename_i k hu
      cases h
      obtain ⟨m, rfl, _, hw⟩ := DataW.trod_int hu hy
      exact shT_one ⟨m, rfl, hw⟩
    · rename_i hu
      cases h
      obtain ⟨b, rfl, _⟩ := DataW.trod_bool hu hy
      exact shT_one ⟨b, rfl⟩
    · rename_i hu
      cases h
      obtain ⟨s, rfl, _, hs⟩ := DataW.trod_string hu hy
      exact shT_one ⟨s, rfl, hs⟩
    · rename_i e hu
      cases h
      have hone : ∃ v, cs = [v] ∧ v.cells.toList = [v] ∧ one1 v = true := by
        rcases DataW.trod_slice hu hy with ⟨rfl, _⟩ | ⟨a, len, cap, _, _, _, _, rfl, _⟩
        · exact ⟨_, rfl, rfl, rfl⟩
        · exact ⟨_, rfl, rfl, rfl⟩
      obtain ⟨v, rfl, hv, h1⟩ := hone
      obtain ⟨d, ps⟩ := y
      exact shT_one ⟨v, rfl, h1, d, ps, n, by rw [hv]; exact hy⟩
    · rename_i m e hu
      split at h
      · rename_i k he hc hm
        cases h
        have hc := beq_iff_eq.1 hc
        have hm := beq_iff_eq.1 hm
        obtain ⟨xs, n', _, _, hl, hlen, hf⟩ := DataW.trod_array hu hy
        have hcell : ∀ i, i < m → ∃ z, (cs.drop i).take 1 = [.int k z] ∧ (Lit.int k z).wf = true := fun i hi => by
          have h2 := hf i hi
          rw [List.getElem?_eq_getElem (by omega), hc, Nat.mul_one] at h2
          obtain ⟨z, hz, _, hw⟩ := DataW.trod_int he h2
          exact ⟨z, hz, hw⟩
        have hcl : cs.length = m := by rw [hl, hm]
        refine shT_one ⟨cs.map intV, ?_, by simp [hcl], fun x hx => ?_⟩
        · apply List.ext_getElem
          · simp
          · intro i h1 h2
            obtain ⟨z, hz, _⟩ := hcell i (by omega)
            rw [take1 h1] at hz
            simp only [List.cons.injEq, and_true] at hz
            simp [hz, intV]
        · obtain ⟨v, hv, rfl⟩ := List.mem_map.1 hx
          obtain ⟨i, hi, rfl⟩ := List.getElem_of_mem hv
          obtain ⟨z, hz, hw⟩ := hcell i (by omega)
          rw [take1 hi] at hz
          simp only [List.cons.injEq, and_true] at hz
          rw [hz]; exact hw
      · cases h
    · rename_i fs hu
      split at h
      · rename_i k1 h1
        split at h
        · rename_i hk
          cases h
          obtain ⟨xs, n', _, _, hl, hlen, hf⟩ := DataW.trod_struct hu hy
          have := dFsT_ok (P := P) (cs := cs) (T := fun t vs => ∃ y, DataW.trod enc P w 0 (fun _ => true) true n' t vs = some y) (fun t ks vs hD ⟨y, hy⟩ => dT_ok f hD hy) h1 fun g hg => by
            obtain ⟨i, hi, hg⟩ := List.getElem_of_mem hg
            have h2 := hf i g (by rw [← hg]; simp at hi ⊢)
            rw [List.getElem?_eq_getElem (by rw [hlen]; simpa using hi)] at h2
            exact ⟨_, h2⟩
          have hk := beq_iff_eq.1 hk
          rw [List.drop_zero, hk, ← hl, List.take_length] at this
          exact this
        · cases h
      · cases h
    · cases h
theorem sT_nil {vs : List Value} (h : shT R [] vs) : vs = [] := h
theorem sT_int {k : IntKind} {r : List DT} {vs : List Value} (h : shT R (.int k :: r) vs) : ∃ n vs', vs = .int k n :: vs' ∧ (Lit.int k n).wf = true ∧ shT R r vs' := by
  obtain ⟨a, b, rfl, ⟨n, rfl, hw⟩, h⟩ := h
  exact ⟨n, b, rfl, hw, h⟩
theorem sT_bool {r : List DT} {vs : List Value} (h : shT R (.bool :: r) vs) : ∃ x vs', vs = .bool x :: vs' ∧ shT R r vs' := by
  obtain ⟨a, b, rfl, ⟨n, rfl⟩, h⟩ := h
  exact ⟨n, b, rfl, h⟩
theorem sT_str {r : List DT} {vs : List Value} (h : shT R (.str :: r) vs) : ∃ (s : ByteArray) (vs' : List Value), vs = .string s :: vs' ∧ s.size ≤ maxLen ∧ shT R r vs' := by
  obtain ⟨a, b, rfl, ⟨n, rfl, hw⟩, h⟩ := h
  exact ⟨n, b, rfl, hw, h⟩
theorem sT_sl {t : TypeId} {r : List DT} {vs : List Value} (h : shT R (.sl t :: r) vs) : ∃ v vs', vs = v :: vs' ∧ one1 v = true ∧ R t v ∧ shT R r vs' := by
  obtain ⟨a, b, rfl, ⟨v, rfl, h1, h2⟩, h⟩ := h
  exact ⟨v, b, rfl, h1, h2, h⟩
theorem sT_ints {k : IntKind} {n : Nat} {r : List DT} {vs : List Value} (h : shT R (.ints k n :: r) vs) : ∃ (l : List Int) (vs' : List Value), vs = l.map (Value.int k) ++ vs' ∧ l.length = n ∧ (∀ x ∈ l, (Lit.int k x).wf = true) ∧ shT R r vs' := by
  obtain ⟨a, b, rfl, ⟨l, rfl, h1, h2⟩, h⟩ := h
  exact ⟨l, b, rfl, h1, h2, h⟩

/-- a slice of records, opened, with what is known of each -/
theorem open_rowsQ {α : Type} {E : Enc α} {Q : α → Prop} {H : Type} {enc : TypeId × Value → H} {P : Program} {w : World} {t e : TypeId} {v : Value} (ht : P.underlying t = some (.slice e)) (hk : P.cellsOf e = E.k)
    (hE : ∀ n cs y, DataW.trod enc P w 0 (fun _ => true) true n e cs = some y → ∃ x, cs = E.enc x ∧ Q x) (h : Trd enc P w t v) (h1 : one1 v = true) :
    ∃ (a : Option Addr) (l : List α) (c : Nat), v = .slice a l.length c ∧ SR E (whole w) a l ∧ l.length ≤ c ∧ c ≤ maxLen ∧ ∀ x ∈ l, Q x := by
  classical
  let E2 : Enc {x : α // Q x} := ⟨fun x => E.enc x.1, E.k, fun x => E.len x.1, fun x => E.one x.1, E.pos⟩
  obtain ⟨d, ps, h⟩ := h
  obtain ⟨a, l, c, hv, hs, hle, hm⟩ := open_rows (E := E2) ht hk (fun n cs y hy => by
    obtain ⟨x, hx, hq⟩ := hE n cs y hy
    exact ⟨⟨x, hq⟩, hx⟩) h h1
  have hrow : ∀ l : List {x : α // Q x}, E2.row l = E.row (l.map (·.1)) := fun l => by
    simp only [Enc.row, List.flatMap_map]; rfl
  refine ⟨a, l.map (·.1), c, by simpa using hv, ?_, by simpa using hle, hm, fun x hx => ?_⟩
  · rcases hs with rfl | ⟨b, o, ha, hr⟩
    · exact .inl rfl
    · refine .inr ⟨b, o, ha, ?_⟩
      rw [List.length_map, ← hrow]; exact hr
  · obtain ⟨y, _, rfl⟩ := List.mem_map.1 hx
    exact y.2

/-- a struct, opened -/
theorem open_aggT {H : Type} {enc : TypeId × Value → H} {P : Program} {w : World} {t : TypeId} {v : Value} {d : DataW H} {ps : List MemPlace} {r : Reach} {base : Nat} (f : Nat) {ks : List DT} (ht : aggT P t = true) (hT : dT P f t = some ks)
    (h : DataW.Trod enc P w 0 (fun _ => true) true t v d ps) (hv : Value.okWide P w r base t v) : ∃ vs : List Value, v = .agg vs.toArray ∧ shT (Trd enc P w) ks vs := by
  have hv : ∃ cs, v = .agg cs := by
    unfold Value.okWide at hv
    unfold aggT at ht
    split at ht
    · rename_i hu; rw [hu] at hv; obtain ⟨cs, e, _⟩ := hv; exact ⟨cs, e⟩
    · rename_i hu; rw [hu] at hv; obtain ⟨cs, e, _⟩ := hv; exact ⟨cs, e⟩
    · cases ht
  obtain ⟨cs, rfl⟩ := hv
  obtain ⟨fuel, h⟩ := h
  exact ⟨cs.toList, rfl, dT_ok f hT h⟩

end TL

namespace TL
open Go

theorem LoopP.indE {T : Type} {F : (T → PH → Prop) → T → PH → Prop} (I : Nat → T → PH → Prop) (step : ∀ n x h, I n x h → F (fun y g => ∃ m, m < n ∧ I m y g) x h) : ∀ {n : Nat} {x : T} {h : PH}, I n x h → LoopP F x h := by
  intro n
  induction n using Nat.strongRecOn with
  | _ n ih =>
    intro x h hi
    exact LoopP.mk (fun y g => ∃ m, m < n ∧ I m y g) (fun y g ⟨m, hm, hy⟩ => ih m hm hy) (step n x h hi)

/-- what a key's value is -/
def va (es : List MapEntry) (k : Value) : Option Value := (fi es k 0).map (·.2)
theorem fi_shift {k : Value} : ∀ (es : List MapEntry) (i : Nat), fi es k i = (fi es k 0).map fun p => (p.1 + i, p.2)
  | [], _ => rfl
  | e :: r, i => by
    unfold fi
    cases keq k e.key with
    | true => simp
    | false =>
      simp only
      rw [fi_shift r (i + 1), fi_shift r 1]
      cases fi r k 0 with
      | none => rfl
      | some p => simp; omega
theorem va_nil (k : Value) : va [] k = none := rfl
theorem va_cons (e : MapEntry) (r : List MapEntry) (k : Value) : va (e :: r) k = if keq k e.key = true then some e.val else va r k := by
  unfold va
  rw [fi]
  cases keq k e.key with
  | true => rfl
  | false =>
    simp only [Bool.false_eq_true, if_false]
    rw [fi_shift r 1]
    cases fi r k 0 <;> rfl
theorem fi_none_iff {es : List MapEntry} {k : Value} : fi es k 0 = none ↔ va es k = none := by
  unfold va
  cases fi es k 0 <;> simp
theorem lk_va (es : List MapEntry) (k z : Value) : lk es k z = match va es k with
    | some v => (v, true)
    | none => (z, false) := by
  unfold lk va
  cases fi es k 0 <;> rfl
theorem va_append (es fs : List MapEntry) (k : Value) : va (es ++ fs) k = (va es k).or (va fs k) := by
  induction es with
  | nil => simp [va_nil]
  | cons e r ih =>
    rw [List.cons_append, va_cons, va_cons, ih]
    split <;> simp
theorem va_none {es : List MapEntry} {k : Value} : va es k = none ↔ ∀ e ∈ es, keq k e.key = false := by
  induction es with
  | nil => simp [va_nil]
  | cons e r ih =>
    rw [va_cons]
    split
    · rename_i h; simp [h]
    · rename_i h; simp [h, ih]
section
variable {kd : KD}
theorem keq_comm {a b : Value} (ha : kOk kd a = true) (hb : kOk kd b = true) : keq a b = keq b a := by
  rw [Bool.eq_iff_iff, keq_eq ha hb, keq_eq hb ha]; exact eq_comm
theorem va_congr {es : List MapEntry} {k k' : Value} (hk : kOk kd k = true) (hk' : kOk kd k' = true) (h : keq k' k = true) : va es k' = va es k := by
  rw [(keq_eq hk' hk).1 h]
theorem va_modify {k v : Value} (hk : kOk kd k = true) {k' : Value} (hk' : kOk kd k' = true) : ∀ {es : List MapEntry} {j : Nat} {v0 : Value}, (∀ e ∈ es, kOk kd e.key = true) → fi es k 0 = some (j, v0) → va (es.modify j fun e => { e with key := k, val := v }) k' = if keq k' k = true then some v else va es k'
  | [], _, _, _, h => by cases h
  | e :: r, j, v0, he, h => by
    have he1 := he e List.mem_cons_self
    rw [fi] at h
    cases hq : keq k e.key with
    | true =>
      rw [hq] at h
      cases h
      rw [List.modify_zero_cons, va_cons, va_cons]
      dsimp only
      have : k = e.key := (keq_eq hk he1).1 hq
      rw [← this]
      split <;> rfl
    | false =>
      rw [hq] at h
      dsimp only at h
      rw [fi_shift] at h
      cases hf : fi r k 0 with
      | none => rw [hf] at h; cases h
      | some p =>
        obtain ⟨j', v'⟩ := p
        rw [hf] at h
        cases h
        rw [List.modify_succ_cons, va_cons, va_cons, va_modify hk hk' (fun e h => he e (List.mem_cons_of_mem _ h)) hf]
        by_cases h1 : keq k' e.key = true
        · rw [if_pos h1, if_pos h1]
          have : k' = e.key := (keq_eq hk' he1).1 h1
          have h2 : keq k' k = false := by rw [this, keq_comm he1 hk]; exact hq
          simp [h2]
        · rw [if_neg h1, if_neg h1]
theorem va_upM {es : List MapEntry} {k v : Value} {c : Nat} (he : ∀ e ∈ es, kOk kd e.key = true) (hk : kOk kd k = true) {k' : Value} (hk' : kOk kd k' = true) : va (upM es k v c).1 k' = if keq k' k = true then some v else va es k' := by
  unfold upM
  cases hf : fi es k 0 with
  | some p => obtain ⟨j, v0⟩ := p; exact va_modify hk hk' he hf
  | none =>
    dsimp only
    rw [va_append, va_cons, va_nil]
    dsimp only
    have hn := fi_none_iff.1 hf
    split
    · rename_i h
      rw [va_congr hk hk' h, hn]; rfl
    · simp
theorem upM_keys {es : List MapEntry} {k v : Value} {c : Nat} (hk : kOk kd k = true) (he : ∀ e ∈ es, kOk kd e.key = true) : ∀ e ∈ (upM es k v c).1, kOk kd e.key = true := by
  unfold upM
  cases hf : fi es k 0 with
  | some p =>
    obtain ⟨j, v0⟩ := p
    intro e hm
    dsimp only at hm
    obtain ⟨i, hi, rfl⟩ := List.getElem_of_mem hm
    rw [List.getElem_modify]
    split
    · exact hk
    · exact he _ (List.getElem_mem _)
  | none =>
    intro e hm
    rcases List.mem_append.1 hm with h | h
    · exact he e h
    · simp at h; subst h; exact hk
/-- no key twice -/
def NdK (es : List MapEntry) : Prop := es.Pairwise fun a b => keq a.key b.key = false
theorem NdK.upM {es : List MapEntry} {k v : Value} {c : Nat} (hn : NdK es) (hk : kOk kd k = true) (he : ∀ e ∈ es, kOk kd e.key = true) : NdK (upM es k v c).1 := by
  unfold TL.upM
  cases hf : fi es k 0 with
  | some p =>
    obtain ⟨j, v0⟩ := p
    dsimp only
    have hkey : (es.modify j fun e => { e with key := k, val := v }).map (·.key) = es.map (·.key) := by
      obtain ⟨hj, e, h1, h2, h3, _⟩ := fi_some hf
      apply List.ext_getElem
      · simp
      · intro i h4 h5
        simp only [List.getElem_map, List.getElem_modify]
        split
        · rename_i hij
          subst hij
          rw [Nat.sub_zero] at h1
          have h6 : es[j]'(by simpa using h5) = e := by
            rw [List.getElem?_eq_getElem (by simpa using h5)] at h1; exact Option.some.inj h1
          rw [h6]
          exact (keq_eq hk (he e h2)).1 h3
        · rfl
    have h1 : (es.map (·.key)).Pairwise fun a b => keq a b = false := List.pairwise_map.2 hn
    rw [← hkey] at h1
    exact List.pairwise_map.1 h1
  | none =>
    refine List.pairwise_append.2 ⟨hn, by simp, fun a ha b hb => ?_⟩
    simp at hb; subst hb
    dsimp only
    rw [keq_comm (he a ha) hk]
    exact va_none.1 (fi_none_iff.1 hf) a ha
theorem va_erase {k : Value} (hk : kOk kd k = true) {k' : Value} (hk' : kOk kd k' = true) : ∀ {es : List MapEntry} {j : Nat} {v0 : Value}, (∀ e ∈ es, kOk kd e.key = true) → NdK es → fi es k 0 = some (j, v0) → va (es.eraseIdx j) k' = if keq k' k = true then none else va es k'
  | [], _, _, _, _, h => by cases h
  | e :: r, j, v0, he, hn, h => by
    have he1 := he e List.mem_cons_self
    rw [fi] at h
    cases hq : keq k e.key with
    | true =>
      rw [hq] at h
      cases h
      rw [List.eraseIdx_zero, List.tail_cons, va_cons]
      have hke : k = e.key := (keq_eq hk he1).1 hq
      rw [← hke]
      split
      · rename_i h1
        rw [va_congr hk hk' h1, va_none]
        intro e' hm
        rw [hke]
        exact (List.pairwise_cons.1 hn).1 e' hm
      · rfl
    | false =>
      rw [hq] at h
      dsimp only at h
      rw [fi_shift] at h
      cases hf : fi r k 0 with
      | none => rw [hf] at h; cases h
      | some p =>
        obtain ⟨j', v'⟩ := p
        rw [hf] at h
        cases h
        rw [List.eraseIdx_cons_succ, va_cons, va_cons, va_erase hk hk' (fun e h => he e (List.mem_cons_of_mem _ h)) (List.pairwise_cons.1 hn).2 hf]
        by_cases h1 : keq k' e.key = true
        · rw [if_pos h1, if_pos h1]
          have : k' = e.key := (keq_eq hk' he1).1 h1
          have h2 : keq k' k = false := by rw [this, keq_comm he1 hk]; exact hq
          simp [h2]
        · rw [if_neg h1, if_neg h1]
theorem va_dlM {es : List MapEntry} {k : Value} (he : ∀ e ∈ es, kOk kd e.key = true) (hn : NdK es) (hk : kOk kd k = true) {k' : Value} (hk' : kOk kd k' = true) : va (dlM es k) k' = if keq k' k = true then none else va es k' := by
  unfold dlM
  cases hf : fi es k 0 with
  | some p => obtain ⟨j, v0⟩ := p; exact va_erase hk hk' he hn hf
  | none =>
    dsimp only
    split
    · rename_i h
      rw [va_congr hk hk' h]; exact fi_none_iff.1 hf
    · rfl
theorem dlM_sub (es : List MapEntry) (k : Value) : (dlM es k).Sublist es := by
  unfold dlM
  split
  · exact List.eraseIdx_sublist _ _
  · exact List.Sublist.refl _
theorem NdK.dlM {es : List MapEntry} (hn : NdK es) (k : Value) : NdK (dlM es k) := List.Pairwise.sublist (dlM_sub es k) hn
end

/-! ### A map of integers to integers that holds 1 at some -/
def OneMap (h : PH) (r : Nat) (S : Int → Bool) : Prop := ∃ es c, h r = some (.map (es : List MapEntry).toArray c) ∧ (∀ e ∈ es, kOk (.int .i64) e.key = true) ∧ ∀ k, va es (.int .i64 k) = if S k = true then some (.int .i64 1) else none
theorem OneMap.new {h : PH} {r : Nat} (e : h r = some (.map #[] 0)) : OneMap h r fun _ => false := ⟨[], 0, e, fun _ h => (by cases h), fun _ => rfl⟩
theorem OneMap.keep {h g : PH} {r : Nat} {S : Int → Bool} (x : OneMap h r S) (e : ∀ o, h r = some o → g r = some o) : OneMap g r S := by
  obtain ⟨es, c, h1, h2, h3⟩ := x
  exact ⟨es, c, e _ h1, h2, h3⟩
theorem OneMap.has {h : PH} {r : Nat} {S : Int → Bool} (x : OneMap h r S) : Has [r] h := fun b hb => by
  obtain ⟨es, c, h1, _⟩ := x
  simp at hb; subst hb; exact ⟨_, h1⟩
theorem OneMap.look {h : PH} {r : Nat} {S : Int → Bool} (x : OneMap h r S) (k : Int) : lkH (.int .i64) h (some r) (.int .i64 k) (.int .i64 0) (.int .i64 (if S k = true then 1 else 0)) (S k) := by
  obtain ⟨es, c, h1, h2, h3⟩ := x
  refine ⟨es, ⟨⟨c, h1⟩, h2⟩, ?_⟩
  rw [lk_va, h3]
  cases S k <;> rfl
theorem OneMap.put {h : PH} {r : Nat} {S : Int → Bool} (x : OneMap h r S) (k : Int) {K : PH → Prop} (hk : ∀ h', OneMap h' r (fun j => j == k || S j) → Chg [r] [r] h h' → K h') : muH (.int .i64) h (some r) (.int .i64 k) (.int .i64 1) K := by
  obtain ⟨es, c, h1, h2, h3⟩ := x
  refine ⟨r, es, c, rfl, h1, h2, hk _ ⟨_, _, PH.upd_same _ _ _, upM_keys rfl h2, fun j => ?_⟩ (Chg.upd _)⟩
  rw [va_upM h2 rfl rfl, h3]
  show (if (j == k) = true then _ else _) = if (j == k || S j) = true then _ else _
  cases j == k <;> rfl
end TL

namespace TL
open Go

theorem strLt_mk (l m : List UInt8) : strLt (mk l) (mk m) = decide (l < m) := by
  unfold strLt; rw [bys_mk, bys_mk, Proofs.bytesLess_eq]

/-! ### Records -/
structure PrR where
  p : List UInt8
  v : List UInt8
  deriving DecidableEq
def EncPr : Enc PrR where
  enc o := [.string (mk o.p), .string (mk o.v)]
  k := 2
  len _ := rfl
  one o v hv := by
    simp only [List.mem_cons, List.not_mem_nil, or_false] at hv
    rcases hv with rfl | rfl <;> rfl
  pos := by decide
def gPrs (l : List PrR) : Bool := decide (200 < l.length) || l.any fun o => decide (1000 < o.p.length) || decide (1000 < o.v.length)
theorem gPrs_no {l : List PrR} (hg : gPrs l = false) : l.length ≤ 200 ∧ ∀ o ∈ l, o.p.length ≤ 1000 ∧ o.v.length ≤ 1000 := by
  simp only [gPrs, Bool.or_eq_false_iff, List.any_eq_false, decide_eq_false_iff_not] at hg
  refine ⟨by omega, fun o ho => ?_⟩
  have := hg.2 o ho
  simp at this
  omega
structure OpR where
  k : Int
  p : List UInt8
  v : List UInt8
  deriving DecidableEq
def EncOp : Enc OpR where
  enc o := [.int .u8 o.k, .string (mk o.p), .string (mk o.v)]
  k := 3
  len _ := rfl
  one o v hv := by
    simp only [List.mem_cons, List.not_mem_nil, or_false] at hv
    rcases hv with rfl | rfl | rfl <;> rfl
  pos := by decide
def gOps (ops : List OpR) : Bool := decide (100 < ops.length) || ops.any fun o => decide (1000 < o.p.length) || decide (1000 < o.v.length)
theorem gOps_no {ops : List OpR} (hg : gOps ops = false) : ops.length ≤ 100 ∧ ∀ o ∈ ops, o.p.length ≤ 1000 ∧ o.v.length ≤ 1000 := by
  simp only [gOps, Bool.or_eq_false_iff, List.any_eq_false, decide_eq_false_iff_not] at hg
  refine ⟨by omega, fun o ho => ?_⟩
  have := hg.2 o ho
  simp at this
  omega
/-- a slice of operations in a row -/
structure OsR where
  a : Option Addr
  c : Nat
  ops : List OpR
def EncOs : Enc OsR where
  enc r := [.slice r.a r.ops.length r.c]
  k := 1
  len _ := rfl
  one o v hv := by
    simp only [List.mem_cons, List.not_mem_nil, or_false] at hv
    rcases hv with rfl; rfl
  pos := by decide
def EncS : Enc (List UInt8) where
  enc o := [.string (mk o)]
  k := 1
  len _ := rfl
  one o v hv := by
    simp only [List.mem_cons, List.not_mem_nil, or_false] at hv
    rcases hv with rfl; rfl
  pos := by decide

/-! ### Rows of pairs that rise -/
def Up (S : List PrR) : Prop := S.Pairwise fun a b => a.p < b.p
def look : List PrR → List UInt8 → Option (List UInt8)
  | [], _ => none
  | x :: r, p => if x.p = p then some x.v else look r p
def ins : List PrR → List UInt8 → List UInt8 → List PrR
  | [], p, v => [⟨p, v⟩]
  | x :: r, p, v => if p < x.p then ⟨p, v⟩ :: x :: r else if x.p = p then ⟨p, v⟩ :: r else x :: ins r p v
def del (S : List PrR) (p : List UInt8) : List PrR := S.filter fun x => decide (x.p ≠ p)
theorem look_ins (S : List PrR) (p v q : List UInt8) : look (ins S p v) q = if p = q then some v else look S q := by
  induction S with
  | nil => simp [ins, look]
  | cons x r ih =>
    unfold ins
    split
    · rw [look]
    · split
      · rename_i h; rw [look, look, h]; split <;> rfl
      · rename_i h
        rw [look, ih, look]
        by_cases h1 : x.p = q
        · rw [if_pos h1, if_pos h1, if_neg (fun e => h (h1.trans e.symm))]
        · rw [if_neg h1, if_neg h1]
theorem look_del (S : List PrR) (p q : List UInt8) : look (del S p) q = if p = q then none else look S q := by
  induction S with
  | nil => simp [del, look]
  | cons x r ih =>
    unfold del at ih ⊢
    rw [List.filter_cons]
    by_cases h : x.p = p
    · rw [if_neg (by simp [h]), ih, look, h]
      by_cases h1 : p = q
      · simp [h1]
      · simp [h1]
    · rw [if_pos (by simp [h]), look, ih, look]
      by_cases h1 : x.p = q
      · rw [if_pos h1, if_pos h1, if_neg (fun e => h (h1.trans e.symm))]
      · rw [if_neg h1, if_neg h1]
theorem look_none {S : List PrR} {p : List UInt8} : look S p = none ↔ ∀ x ∈ S, x.p ≠ p := by
  induction S with
  | nil => simp [look]
  | cons x r ih =>
    rw [look]
    split
    · rename_i h; simp [h]
    · rename_i h; simp [h, ih]
theorem look_mem {S : List PrR} {p v : List UInt8} (h : look S p = some v) : ⟨p, v⟩ ∈ S := by
  induction S with
  | nil => simp [look] at h
  | cons x r ih =>
    rw [look] at h
    split at h
    · rename_i h1
      cases h
      subst h1
      exact List.mem_cons_self
    · exact List.mem_cons_of_mem _ (ih h)
theorem look_of_mem {S : List PrR} (hu : Up S) {x : PrR} (h : x ∈ S) : look S x.p = some x.v := by
  induction S with
  | nil => cases h
  | cons y r ih =>
    obtain ⟨h1, h2⟩ := List.pairwise_cons.1 hu
    rw [look]
    rcases List.mem_cons.1 h with rfl | h
    · rw [if_pos rfl]
    · rw [if_neg, ih h2 h]
      intro e
      have := h1 x h
      rw [e] at this
      exact List.lt_irrefl _ this
theorem ins_mem {S : List PrR} {p v : List UInt8} {x : PrR} (h : x ∈ ins S p v) : x = ⟨p, v⟩ ∨ x ∈ S := by
  induction S with
  | nil => simp [ins] at h; exact .inl h
  | cons y r ih =>
    unfold ins at h
    split at h
    · rcases List.mem_cons.1 h with h | h
      · exact .inl h
      · exact .inr h
    · split at h
      · rcases List.mem_cons.1 h with h | h
        · exact .inl h
        · exact .inr (List.mem_cons_of_mem _ h)
      · rcases List.mem_cons.1 h with h | h
        · exact .inr (by rw [h]; exact List.mem_cons_self)
        · rcases ih h with h | h
          · exact .inl h
          · exact .inr (List.mem_cons_of_mem _ h)
theorem lt_of_not {a b : List UInt8} (h1 : ¬ a < b) (h2 : a ≠ b) : b < a :=
  Classical.byContradiction fun h => h2 (List.le_antisymm (List.not_lt.1 h) (List.not_lt.1 h1))
theorem Up.ins {S : List PrR} (hu : Up S) (p v : List UInt8) : Up (ins S p v) := by
  induction S with
  | nil => simp [TL.ins, Up]
  | cons x r ih =>
    obtain ⟨h1, h2⟩ := List.pairwise_cons.1 hu
    unfold TL.ins
    split
    · rename_i h
      refine List.pairwise_cons.2 ⟨fun y hy => ?_, hu⟩
      rcases List.mem_cons.1 hy with rfl | hy
      · exact h
      · exact List.lt_trans h (h1 y hy)
    · rename_i h
      split
      · rename_i h3
        refine List.pairwise_cons.2 ⟨fun y hy => ?_, h2⟩
        rw [← h3]; exact h1 y hy
      · rename_i h3
        refine List.pairwise_cons.2 ⟨fun y hy => ?_, ih h2⟩
        rcases ins_mem hy with rfl | hy
        · exact lt_of_not h (fun e => h3 e.symm)
        · exact h1 y hy
theorem Up.del {S : List PrR} (hu : Up S) (p : List UInt8) : Up (del S p) := hu.sublist List.filter_sublist
theorem Up.nodup {S : List PrR} (hu : Up S) : (S.map (·.p)).Nodup := by
  refine List.pairwise_map.2 (hu.imp fun {a b} h e => ?_)
  rw [e] at h
  exact List.lt_irrefl _ h
theorem Up.ext : ∀ {S T : List PrR}, Up S → Up T → (∀ p, look S p = look T p) → S = T
  | [], [], _, _, _ => rfl
  | [], y :: t, _, _, h => by have := h y.p; simp [look] at this
  | x :: s, [], _, _, h => by have := h x.p; simp [look] at this
  | x :: s, y :: t, hs, ht, h => by
    obtain ⟨s1, s2⟩ := List.pairwise_cons.1 hs
    obtain ⟨t1, t2⟩ := List.pairwise_cons.1 ht
    have hxy : x.p = y.p := by
      have hx := h x.p
      rw [look, if_pos rfl, look] at hx
      have hy := h y.p
      rw [look] at hy
      by_cases e : x.p = y.p
      · exact e
      · rw [if_neg (fun e2 => e e2.symm)] at hx
        rw [if_neg e, look, if_pos rfl] at hy
        have m1 := t1 _ (look_mem hx.symm)
        have m2 := s1 _ (look_mem hy)
        exact absurd (List.lt_trans m1 m2) (List.lt_irrefl _)
    have hv : x.v = y.v := by
      have hx := h x.p
      rw [look, if_pos rfl, look, if_pos hxy.symm] at hx
      exact Option.some.inj hx
    have hrest : s = t := Up.ext s2 t2 fun p => by
      have := h p
      rw [look, look] at this
      by_cases e : x.p = p
      · have e1 : look s p = none := look_none.2 fun z hz e2 => by have := s1 z hz; rw [e2, ← e] at this; exact List.lt_irrefl _ this
        have e3 : look t p = none := look_none.2 fun z hz e2 => by have := t1 z hz; rw [e2, ← e, hxy] at this; exact List.lt_irrefl _ this
        rw [e1, e3]
      · rw [if_neg e, if_neg (fun e2 => e (hxy.trans e2))] at this
        exact this
    rw [hrest]
    cases x; cases y
    simp only at hxy hv
    rw [hxy, hv]
theorem ins_len (S : List PrR) (p v : List UInt8) (hu : Up S) : (ins S p v).length = S.length + if look S p = none then 1 else 0 := by
  induction S with
  | nil => simp [ins, look]
  | cons x r ih =>
    obtain ⟨h1, h2⟩ := List.pairwise_cons.1 hu
    unfold ins
    split
    · rename_i h
      have : look (x :: r) p = none := look_none.2 fun y hy e => by
        rcases List.mem_cons.1 hy with rfl | hy
        · rw [e] at h; exact List.lt_irrefl _ h
        · have := h1 y hy; rw [e] at this; exact List.lt_irrefl _ (List.lt_trans h this)
      simp [this]
    · split
      · rename_i h; simp [look, h]
      · rename_i h
        rw [List.length_cons, ih h2, look, if_neg h, List.length_cons]; omega
theorem del_len (S : List PrR) (p : List UInt8) : (del S p).length ≤ S.length := List.length_filter_le _ _
end TL

namespace TL
open Go Go.MapKept

def strV (v : List UInt8) : Value := .string (mk v)
theorem keq_strV (a b : List UInt8) : keq (strV a) (strV b) = decide (a = b) := strEq_mk' a b
theorem strV_inj {a b : List UInt8} (h : strV a = strV b) : a = b := by
  unfold strV at h; exact mk_inj (Value.string.inj h)
structure SMapE (es : List MapEntry) (c : Nat) (S : List PrR) : Prop where
  st : Stamped es.toArray c
  key : ∀ e ∈ es, ∃ p, e.key = strV p
  at_ : ∀ p, va es (strV p) = (look S p).map strV
  up : Up S
def SMap (h : PH) (r : Nat) (S : List PrR) : Prop := ∃ es c, h r = some (.map (es : List MapEntry).toArray c) ∧ SMapE es c S
variable {es : List MapEntry} {c : Nat} {S : List PrR} {h g : PH} {r : Nat}
theorem SMapE.kOk (x : SMapE es c S) : ∀ e ∈ es, kOk .str e.key = true := fun e he => by
  obtain ⟨p, hp⟩ := x.key e he
  rw [hp]; rfl
theorem SMapE.nd (x : SMapE es c S) : NdK es := by
  have h3 : (es.map (·.key)).Nodup := by simpa using x.st.2.2
  refine (List.pairwise_map.1 h3).imp_of_mem fun {a b} ha hb hne => ?_
  obtain ⟨p, hp⟩ := x.key a ha
  obtain ⟨q, hq⟩ := x.key b hb
  rw [hp, hq] at hne ⊢
  rw [keq_strV]
  simpa using fun e => hne (by rw [e])
theorem SMapE.nil (c : Nat) : SMapE [] c [] := ⟨stamped_empty c, fun _ h => (by cases h), fun _ => rfl, List.Pairwise.nil⟩
theorem stamped_sub {es fs : List MapEntry} (h : Stamped es.toArray c) (s : fs.Sublist es) : Stamped fs.toArray c := by
  obtain ⟨h1, h2, h3⟩ := h
  simp only [Stamped] at h1 h2 h3 ⊢
  exact ⟨fun x hx => h1 x (s.subset hx), h2.sublist (s.map _), h3.sublist (s.map _)⟩
theorem stamped_up {k v : Value} (h : Stamped es.toArray c) (hk : kOk .str k = true) (he : ∀ e ∈ es, TL.kOk .str e.key = true) : Stamped (upM es k v c).1.toArray (upM es k v c).2 := by
  unfold upM
  cases hf : fi es k 0 with
  | some p =>
    obtain ⟨j, v0⟩ := p
    dsimp only
    have hkey : (es.modify j fun e => { e with key := k, val := v }).map (·.key) = es.map (·.key) := by
      obtain ⟨hj, e, h1, h2, h3, _⟩ := fi_some hf
      apply List.ext_getElem
      · simp
      · intro i h4 h5
        simp only [List.getElem_map, List.getElem_modify]
        split
        · rename_i hij
          subst hij
          rw [Nat.sub_zero] at h1
          have h6 : es[j]'(by simpa using h5) = e := by
            rw [List.getElem?_eq_getElem (by simpa using h5)] at h1; exact Option.some.inj h1
          rw [h6]
          exact (keq_eq hk (he e h2)).1 h3
        · rfl
    have hborn : (es.modify j fun e => { e with key := k, val := v }).map (·.born) = es.map (·.born) := by
      apply List.ext_getElem
      · simp
      · intro i h4 h5
        simp only [List.getElem_map, List.getElem_modify]
        split <;> rfl
    obtain ⟨h1, h2, h3⟩ := h
    simp only [Stamped] at h1 h2 h3 ⊢
    refine ⟨fun x hx => ?_, by rw [hborn]; exact h2, by rw [hkey]; exact h3⟩
    have : x.born ∈ es.map (·.born) := by rw [← hborn]; exact List.mem_map_of_mem hx
    obtain ⟨y, hy, e⟩ := List.mem_map.1 this
    rw [← e]; exact h1 y hy
  | none =>
    dsimp only
    have := stamped_push h (key := k) (val := v) fun x hx e => by
      have := va_none.1 (fi_none_iff.1 hf) x (by simpa using hx)
      rw [← e, keq_self (he x (by simpa using hx))] at this; cases this
    simpa using this
theorem SMapE.put (x : SMapE es c S) (p v : List UInt8) : SMapE (upM es (strV p) (strV v) c).1 (upM es (strV p) (strV v) c).2 (ins S p v) := by
  refine ⟨stamped_up x.st rfl x.kOk, fun e he => ?_, fun q => ?_, x.up.ins p v⟩
  · have := upM_keys (kd := .str) (k := strV p) (v := strV v) (c := c) rfl x.kOk e he
    obtain ⟨s, hs⟩ := str_ok this
    obtain ⟨l, rfl⟩ := ex_mk s
    exact ⟨l, hs⟩
  · rw [va_upM (kd := .str) x.kOk rfl rfl, x.at_, keq_strV, look_ins]
    by_cases e : p = q
    · simp [e]
    · have e2 : ¬ q = p := fun h => e h.symm
      simp [e, e2]
theorem SMapE.del (x : SMapE es c S) (p : List UInt8) : SMapE (dlM es (strV p)) c (del S p) := by
  refine ⟨stamped_sub x.st (dlM_sub _ _), fun e he => x.key e ((dlM_sub _ _).subset he), fun q => ?_, x.up.del p⟩
  rw [va_dlM (kd := .str) x.kOk x.nd rfl rfl, x.at_, keq_strV, look_del]
  by_cases e : p = q
  · simp [e]
  · have e2 : ¬ q = p := fun h => e h.symm
    simp [e, e2]
theorem SMapE.perm (x : SMapE es c S) : (es.map (·.key)).Perm (S.map fun x => strV x.p) := by
  have h3 : (es.map (·.key)).Nodup := by simpa using x.st.2.2
  have h4 : (S.map fun x => strV x.p).Nodup := by
    have := x.up.nodup
    have h5 : (S.map fun x => strV x.p) = (S.map (·.p)).map strV := by simp [Function.comp_def]
    rw [h5]
    exact List.pairwise_map.2 (this.imp fun {a b} hne e => hne (strV_inj e))
  refine (List.perm_ext_iff_of_nodup h3 h4).2 fun k => ?_
  constructor
  · intro hk
    obtain ⟨e, he, rfl⟩ := List.mem_map.1 hk
    obtain ⟨p, hp⟩ := x.key e he
    rw [hp]
    have h1 := x.at_ p
    cases hl : look S p with
    | some v => exact List.mem_map.2 ⟨⟨p, v⟩, look_mem hl, rfl⟩
    | none =>
      rw [hl] at h1
      have := va_none.1 h1 e he
      rw [hp, keq_strV] at this
      simp at this
  · intro hk
    obtain ⟨y, hy, rfl⟩ := List.mem_map.1 hk
    have h1 := x.at_ y.p
    rw [look_of_mem x.up hy] at h1
    have h2 : ¬ ∀ e ∈ es, keq (strV y.p) e.key = false := fun hn => by
      rw [va_none.2 hn] at h1; cases h1
    simp only [Classical.not_forall, Bool.not_eq_false] at h2
    obtain ⟨e, he, h3⟩ := h2
    obtain ⟨p, hp⟩ := x.key e he
    rw [hp, keq_strV] at h3
    refine List.mem_map.2 ⟨e, he, ?_⟩
    rw [hp]
    simp at h3
    rw [h3]
theorem SMapE.len (x : SMapE es c S) : es.length = S.length := by have := x.perm.length_eq; simpa using this
theorem SMap.new (e : h r = some (.map #[] 0)) : SMap h r [] := ⟨[], 0, e, SMapE.nil 0⟩
theorem SMap.keep (x : SMap h r S) (e : ∀ o, h r = some o → g r = some o) : SMap g r S := by
  obtain ⟨es, c, h1, h2⟩ := x
  exact ⟨es, c, e _ h1, h2⟩
theorem SMap.up (x : SMap h r S) : Up S := by obtain ⟨_, _, _, h⟩ := x; exact h.up
theorem SMap.there (x : SMap h r S) : ∃ o, h r = some o := by obtain ⟨_, _, e, _⟩ := x; exact ⟨_, e⟩
theorem SMap.mapH (x : SMap h r S) : ∃ es c, h r = some (.map (es : List MapEntry).toArray c) ∧ SMapE es c S ∧ TL.mapH .str h (some r) es := by
  obtain ⟨es, c, h1, h2⟩ := x
  exact ⟨es, c, h1, h2, ⟨⟨c, h1⟩, h2.kOk⟩⟩
theorem SMap.look (x : SMap h r S) (p : List UInt8) : lkH .str h (some r) (strV p) (strV []) (strV ((TL.look S p).getD [])) (TL.look S p).isSome := by
  obtain ⟨es, c, h1, h2, h3⟩ := x.mapH
  refine ⟨es, h3, ?_⟩
  rw [lk_va, h2.at_]
  cases TL.look S p <;> rfl
theorem SMap.put (x : SMap h r S) (p v : List UInt8) {K : PH → Prop} (hk : ∀ h', SMap h' r (ins S p v) → Chg [r] [r] h h' → K h') : muH .str h (some r) (strV p) (strV v) K := by
  obtain ⟨es, c, h1, h2⟩ := x
  exact ⟨r, es, c, rfl, h1, h2.kOk, hk _ ⟨_, _, PH.upd_same _ _ _, h2.put p v⟩ (Chg.upd _)⟩
theorem SMap.del (x : SMap h r S) (p : List UInt8) {K : PH → Prop} (hk : ∀ h', SMap h' r (del S p) → Chg [r] [r] h h' → K h') : mdH .str h (some r) (strV p) K := by
  obtain ⟨es, c, h1, h2⟩ := x
  refine ⟨nofun, fun r0 e => ?_⟩
  cases e
  exact ⟨es, c, h1, h2.kOk, hk _ ⟨_, _, PH.upd_same _ _ _, h2.del p⟩ (Chg.upd _)⟩
theorem SMap.len (x : SMap h r S) : lenM h (some r) S.length := by
  obtain ⟨es, c, h1, h2⟩ := x
  exact ⟨_, c, h1, by simp [h2.len]⟩
end TL

namespace TL
open Go
/-- g lies in h, and has no part of N; what N has is there -/
structure Spl (g : PH) (N : List Nat) (h : PH) : Prop where
  sub : g.Sub h
  av : ∀ b ∈ N, g b = none
  has : TL.Has N h
/-- a step: N turns to N', g grows to g' by what is new -/
structure Stp (g : PH) (N : List Nat) (h : PH) (g' : PH) (N' : List Nat) (h' : PH) : Prop where
  chg : Chg N N' h h'
  gs : g.Sub g'
  gn : ∀ b, b ∉ N → (∃ o, h b = some o) → g b = none → g' b = none
  spl : Spl g' N' h'
variable {g g' g'' h h' h'' : PH} {N N' N'' M M' B : List Nat}
theorem PH.Sub.rf (h : PH) : h.Sub h := fun _ _ e => e
theorem Stp.refl (s : Spl g N h) : Stp g N h g N h := ⟨Chg.refl _ _, PH.Sub.rf _, fun _ _ _ e => e, s⟩
theorem Stp.trans (x : Stp g N h g' N' h') (y : Stp g' N' h' g'' N'' h'') : Stp g N h g'' N'' h'' := by
  refine ⟨x.chg.trans y.chg, x.gs.tr y.gs, fun b hb hh hg => ?_, y.spl⟩
  obtain ⟨o, ho⟩ := hh
  refine y.gn b (fun hm => ?_) ⟨o, x.chg.keep ho hb⟩ (x.gn b hb ⟨o, ho⟩ hg)
  rcases x.chg.2 b hm with h1 | h1
  · exact hb h1
  · rw [ho] at h1; cases h1
/-- the blocks of N change alone; what stays stays -/
theorem Spl.chg (s : Spl g N h) (c : Chg N N' h h') (hh : Has N' h') : Stp g N h g N' h' := by
  refine ⟨c, PH.Sub.rf _, fun _ _ _ e => e, fun b o e => c.1 b o (fun hb => by rw [s.av b hb] at e; cases e) (s.sub b o e), fun b hb => ?_, hh⟩
  rcases c.2 b hb with h1 | h1
  · exact s.av b h1
  · cases e : g b with
    | none => rfl
    | some o => rw [s.sub b o e] at h1; cases h1
/-- what is new stays from now on -/
def PH.plus (g h : PH) (B : List Nat) : PH := fun b => if b ∈ B then h b else g b
theorem plus_in {b : Nat} (hb : b ∈ B) : PH.plus g h B b = h b := by simp [PH.plus, hb]
theorem plus_out {b : Nat} (hb : b ∉ B) : PH.plus g h B b = g b := by simp [PH.plus, hb]
theorem Spl.new (s : Spl g N h) (c : Chg [] B h h') : Stp g N h (PH.plus g h' B) N h' := by
  have hn : ∀ b ∈ B, h b = none := fun b hb => by
    rcases c.2 b hb with h1 | h1
    · cases h1
    · exact h1
  have hg : ∀ b ∈ B, g b = none := fun b hb => by
    cases e : g b with
    | none => rfl
    | some o => rw [← s.sub b o e, hn b hb]
  have nB : ∀ b ∈ N, b ∉ B := fun b hb hm => by
    obtain ⟨o, ho⟩ := s.has b hb
    rw [hn b hm] at ho; cases ho
  refine ⟨(c.sub0 |> fun z => ⟨fun b o _ e => z b o e, fun b hb => .inl hb⟩), fun b o e => ?_, fun b _ hh e => ?_, fun b o e => ?_, fun b hb => ?_, fun b hb => ?_⟩
  · by_cases hb : b ∈ B
    · rw [hg b hb] at e; cases e
    · rw [plus_out hb]; exact e
  · by_cases hb : b ∈ B
    · obtain ⟨o, ho⟩ := hh; rw [hn b hb] at ho; cases ho
    · rw [plus_out hb]; exact e
  · by_cases hb : b ∈ B
    · rw [plus_in hb] at e; exact e
    · rw [plus_out hb] at e; exact c.sub0 b o (s.sub b o e)
  · rw [plus_out (nB b hb)]; exact s.av b hb
  · obtain ⟨o, ho⟩ := s.has b hb
    exact ⟨o, c.sub0 b o ho⟩
/-- what is new is thrown away, or read alone -/
theorem Spl.grow (s : Spl g N h) (hs : h.Sub h') : Stp g N h g N h' :=
  ⟨⟨fun b o _ e => hs b o e, fun _ hb => .inl hb⟩, PH.Sub.rf _, fun _ _ _ e => e, s.sub.tr hs, s.av, fun b hb => by obtain ⟨o, ho⟩ := s.has b hb; exact ⟨o, hs b o ho⟩⟩
/-- what is new is to change -/
theorem Spl.own (s : Spl g N h) (c : Chg [] B h h') (hh : Has B h') : Stp g N h g (B ++ N) h' := by
  refine ⟨⟨fun b o _ e => c.sub0 b o e, fun b hb => ?_⟩, PH.Sub.rf _, fun _ _ _ e => e, s.sub.tr c.sub0, fun b hb => ?_, fun b hb => ?_⟩
  · rcases List.mem_append.1 hb with hb | hb
    · rcases c.2 b hb with h1 | h1
      · cases h1
      · exact .inr h1
    · exact .inl hb
  · rcases List.mem_append.1 hb with hb | hb
    · cases e : g b with
      | none => rfl
      | some o =>
        rcases c.2 b hb with h1 | h1
        · cases h1
        · rw [s.sub b o e] at h1; cases h1
    · exact s.av b hb
  · rcases List.mem_append.1 hb with hb | hb
    · exact hh b hb
    · obtain ⟨o, ho⟩ := s.has b hb; exact ⟨o, c.sub0 b o ho⟩
/-- a part of what changes -/
theorem Spl.left (s : Spl g (N ++ M) h) : Spl g N h := ⟨s.sub, fun b hb => s.av b (List.mem_append_left _ hb), fun b hb => s.has b (List.mem_append_left _ hb)⟩
theorem Spl.right (s : Spl g (N ++ M) h) : Spl g M h := ⟨s.sub, fun b hb => s.av b (List.mem_append_right _ hb), fun b hb => s.has b (List.mem_append_right _ hb)⟩
theorem Stp.frame (x : Stp g N h g' N' h') (s : Spl g (N ++ M) h) (d : Dj M N) : Stp g (N ++ M) h g' (N' ++ M) h' ∧ Dj M N' := by
  have hM : Has M h := s.right.has
  have d' : Dj M N' := x.chg.dj d hM
  refine ⟨⟨x.chg.left, x.gs, fun b hb hh e => x.gn b (fun hm => hb (List.mem_append_left _ hm)) hh e, x.spl.sub, fun b hb => ?_, fun b hb => ?_⟩, d'⟩
  · rcases List.mem_append.1 hb with hb | hb
    · exact x.spl.av b hb
    · exact x.gn b (d b hb) (hM b hb) (s.right.av b hb)
  · rcases List.mem_append.1 hb with hb | hb
    · exact x.spl.has b hb
    · obtain ⟨o, ho⟩ := hM b hb
      exact ⟨o, x.chg.keep ho (d b hb)⟩
theorem Stp.frameR (x : Stp g N h g' N' h') (s : Spl g (M ++ N) h) (d : Dj M N) : Stp g (M ++ N) h g' (M ++ N') h' ∧ Dj M N' := by
  have hM : Has M h := s.left.has
  have d' : Dj M N' := x.chg.dj d hM
  refine ⟨⟨x.chg.right, x.gs, fun b hb hh e => x.gn b (fun hm => hb (List.mem_append_right _ hm)) hh e, x.spl.sub, fun b hb => ?_, fun b hb => ?_⟩, d'⟩
  · rcases List.mem_append.1 hb with hb | hb
    · exact x.gn b (d b hb) (hM b hb) (s.left.av b hb)
    · exact x.spl.av b hb
  · rcases List.mem_append.1 hb with hb | hb
    · obtain ⟨o, ho⟩ := hM b hb
      exact ⟨o, x.chg.keep ho (d b hb)⟩
    · exact x.spl.has b hb
theorem Spl.start (h : PH) : Spl h [] h := ⟨PH.Sub.rf _, fun _ hb => (by cases hb), fun _ hb => (by cases hb)⟩
/-- what g has is there -/
theorem Stp.old (x : Stp g N h g' N' h') {b : Nat} {o : Obj} (e : g b = some o) : h' b = some o := x.spl.sub b o (x.gs b o e)
theorem Stp.gh (x : Stp g N h g' N' h') : g.Sub h' := x.gs.tr x.spl.sub
end TL

namespace TL
open Go
variable {P : Program} {f : FuncId} {args : List Value} {K K' : Value → PH → Prop} {g h : PH} {N : List Nat}
theorem CallH.frame {hs : PH} (s : hs.Sub h) (x : CallH P f args K hs) (hk : ∀ v h' H, K v h' → h'.Sub H → (∀ b o, h b = some o → hs b = none → h' b = none ∧ H b = some o) → K' v H) : CallH P f args K' h := by
  intro w hi
  refine Calls.mono (x w fun b o e => hi b o (s b o e)) ?_
  rintro e w' ⟨v, h', rfl, hK, fr⟩
  have hold : ∀ b o, h b = some o → hs b = none → h' b = none ∧ w'.heap[b]? = some o := fun b o e1 e2 => by
    obtain ⟨a1, a2⟩ := fr.old b (hi.lt e1) e2
    exact ⟨a1, a2.trans (hi b o e1)⟩
  refine ⟨v, fun b => match h' b with
    | some o => some o
    | none => if (hs b).isSome then none else h b, rfl, hk v h' _ hK (fun b o e => by simp [e]) (fun b o e1 e2 => ?_), fun b o e1 => ?_, fr.size, fun b hb e1 => ?_, fr.os, fr.out⟩
  · obtain ⟨a1, _⟩ := hold b o e1 e2
    exact ⟨a1, by simp [a1, e2, e1]⟩
  · cases e2 : h' b with
    | some o' =>
      simp only [e2] at e1; cases e1
      exact fr.inn b _ e2
    | none =>
      simp only [e2] at e1
      cases e3 : hs b with
      | some o' => simp [e3] at e1
      | none =>
        simp only [e3, Option.isSome_none, Bool.false_eq_true, if_false] at e1
        exact (hold b o e1 e3).2
  · have e3 : hs b = none := by
      cases e : hs b with
      | none => rfl
      | some o => rw [s b o e] at e1; cases e1
    obtain ⟨a1, a2⟩ := fr.old b hb e3
    exact ⟨by simp [a1, e3, e1], a2⟩
/-- a call that changes nothing old, on what stays -/
theorem Spl.call (s : Spl g N h) (x : CallH P f args K g) (hk : ∀ v g' H, K v g' → (g.Sub g' → Stp g N h g' N H ∧ ∀ b ∈ N, ∀ o, h b = some o → H b = some o) → K' v H) : CallH P f args K' h := by
  refine x.frame s.sub fun v g' H hK hs ho => hk v g' H hK fun hgg => ⟨?_, fun b hb o e => (ho b o e (s.av b hb)).2⟩
  refine ⟨⟨fun b o _ e => ?_, fun b hb => .inl hb⟩, hgg, fun b _ hh e => ?_, hs, fun b hb => ?_, fun b hb => ?_⟩
  · cases eg : g b with
    | none => exact (ho b o e eg).2
    | some o' =>
      have := s.sub b o' eg
      rw [this] at e; cases e
      exact hs b _ (hgg b _ eg)
  · obtain ⟨o, ho'⟩ := hh
    exact (ho b o ho' e).1
  · obtain ⟨o, ho'⟩ := s.has b hb
    exact (ho b o ho' (s.av b hb)).1
  · obtain ⟨o, ho'⟩ := s.has b hb
    exact ⟨o, (ho b o ho' (s.av b hb)).2⟩
theorem Spl.chg0 {g0 : PH} (s : Spl g N h) (s0 : g0.Sub g) : Chg [] N g0 h := ⟨fun b o _ e => s.sub b o (s0 b o e), fun b hb => .inr (by
  cases e : g0 b with
  | none => rfl
  | some o => have := s0 b o e; rw [s.av b hb] at this; cases this)⟩
theorem Spl.of0 {g0 : PH} (c : Chg [] N g0 h) (hh : Has N h) : Spl g0 N h := ⟨c.sub0, fun b hb => by
  rcases c.2 b hb with h1 | h1
  · cases h1
  · exact h1, hh⟩
theorem Stp.same {g' h' : PH} {N' : List Nat} (x : Stp g N h g' N' h') {b : Nat} {o : Obj} (e : h b = some o) (hb : b ∉ N) : h' b = some o := x.chg.keep e hb
end TL

namespace TL
open Go
variable {g g' g'' h h' h'' : PH} {N N' N'' M M' B C : List Nat}
theorem Stp.less (x : Stp g N h g' N' h') (hs : ∀ b ∈ M, b ∈ N') : Stp g N h g' M h' :=
  ⟨⟨x.chg.1, fun b hb => x.chg.2 b (hs b hb)⟩, x.gs, x.gn, x.spl.sub, fun b hb => x.spl.av b (hs b hb), fun b hb => x.spl.has b (hs b hb)⟩
theorem Spl.less (x : Spl g N h) (hs : ∀ b ∈ M, b ∈ N) : Spl g M h := ⟨x.sub, fun b hb => x.av b (hs b hb), fun b hb => x.has b (hs b hb)⟩
theorem Spl.freeze (s : Spl g (B ++ N) h) (d : Dj B N) : Stp g (B ++ N) h (PH.plus g h B) N h := by
  refine ⟨⟨fun b o _ e => e, fun b hb => .inl (List.mem_append_right _ hb)⟩, fun b o e => ?_, fun b hb _ e => ?_, fun b o e => ?_, fun b hb => ?_, s.right.has⟩
  · rw [plus_out (fun hb => by rw [s.left.av b hb] at e; cases e)]; exact e
  · rw [plus_out (fun h1 => hb (List.mem_append_left _ h1))]; exact e
  · by_cases hb : b ∈ B
    · rw [plus_in hb] at e; exact e
    · rw [plus_out hb] at e; exact s.sub b o e
  · rw [plus_out (fun h1 => d b h1 hb)]; exact s.right.av b hb
/-- new blocks, then a change of the whole -/
theorem Dj.new (hN : Has N h) (c : Chg [] B h h') : Dj B N := fun b hb hm => by
  obtain ⟨o, ho⟩ := hN b hm
  rcases c.2 b hb with h1 | h1
  · cases h1
  · rw [ho] at h1; cases h1
theorem Dj.chg (d : Dj B N) (hN : Has N h) (c : Chg B C h h') : Dj C N := fun b hb hm => by
  rcases c.2 b hb with h1 | h1
  · exact d b h1 hm
  · obtain ⟨o, ho⟩ := hN b hm; rw [ho] at h1; cases h1
theorem Dj.app {A B C : List Nat} (x : Dj A C) (y : Dj B C) : Dj (A ++ B) C := fun b hb => by
  rcases List.mem_append.1 hb with hb | hb
  · exact x b hb
  · exact y b hb
theorem Dj.appR {A B C : List Nat} (x : Dj A B) (y : Dj A C) : Dj A (B ++ C) := fun b hb hm => by
  rcases List.mem_append.1 hm with hm | hm
  · exact x b hb hm
  · exact y b hb hm
theorem Dj.l {A B C : List Nat} (x : Dj (A ++ B) C) : Dj A C := fun b hb => x b (List.mem_append_left _ hb)
theorem Dj.r {A B C : List Nat} (x : Dj (A ++ B) C) : Dj B C := fun b hb => x b (List.mem_append_right _ hb)
theorem Has.app {A B : List Nat} (x : Has A h) (y : Has B h) : Has (A ++ B) h := fun b hb => by
  rcases List.mem_append.1 hb with hb | hb
  · exact x b hb
  · exact y b hb
theorem Has.sub (x : Has N h) (s : h.Sub h') : Has N h' := fun b hb => by
  obtain ⟨o, ho⟩ := x b hb; exact ⟨o, s b o ho⟩
/-- a part of what changes, changed -/
theorem Spl.part (s : Spl g (B ++ N) h) (d : Dj B N) (c : Chg B C h h') (hh : Has C h') : Stp g (B ++ N) h g (C ++ N) h' :=
  s.chg c.left (hh.app fun b hb => by
    obtain ⟨o, ho⟩ := s.right.has b hb
    exact ⟨o, c.keep ho fun h1 => d b h1 hb⟩)
theorem Spl.partR (s : Spl g (N ++ B) h) (d : Dj B N) (c : Chg B C h h') (hh : Has C h') : Stp g (N ++ B) h g (N ++ C) h' :=
  s.chg c.right (Has.app (fun b hb => by
    obtain ⟨o, ho⟩ := s.left.has b hb
    exact ⟨o, c.keep ho fun h1 => d b h1 hb⟩) hh)
end TL
