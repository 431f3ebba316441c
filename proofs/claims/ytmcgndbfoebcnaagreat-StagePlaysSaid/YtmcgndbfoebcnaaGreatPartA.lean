/-
  The denotation library, part A: heap fragments and the heap-level weakest precondition of a semantic program. It proves that what 'hp' says of a heap fragment holds of a run over every world that holds that heap. No condition.
-/
import Derived.Still
import Derived.Tactics
import Derived.KernelRfl
import Derived.Laws.Strings
import Derived.Laws.StructEq
import Derived.Laws.Append
namespace TL
open Go
abbrev PH := Nat → Option Obj
def PH.upd (h : PH) (b : Nat) (o : Obj) : PH := fun x => if x = b then some o else h x
def PH.In (h : PH) (w : World) : Prop := ∀ b o, h b = some o → w.heap[b]? = some o
def PH.Sub (h g : PH) : Prop := ∀ b o, h b = some o → g b = some o
def PH.rds (h : PH) (b o n : Nat) : Option (List Value) :=
 match h b with
 | some (.cells c _ _) => if o + n ≤ c.size then some ((c.toList.drop o).take n) else none
 | _ => none
def Unfr (c : Array Value) (fr : Nat × Nat) : Prop := fr.2 ≤ fr.1 ∨ c.size ≤ fr.1
def splice (c : Array Value) (o : Nat) (vs : List Value) : Array Value := (c.toList.take o ++ vs ++ c.toList.drop (o + vs.length)).toArray
structure Frm (h : PH) (w : World) (h' : PH) (w' : World) : Prop where
 inn : h'.In w'
 size : w.heap.size ≤ w'.heap.size
 old : ∀ b, b < w.heap.size → h b = none → h' b = none ∧ w'.heap[b]? = w.heap[b]?
 os : w'.os = w.os
 out : w'.output = w.output
theorem Frm.refl {h : PH} {w : World} (hi : h.In w) : Frm h w h w := ⟨hi, Nat.le_refl _, fun _ _ e => ⟨e, rfl⟩, rfl, rfl⟩
theorem Frm.trans {h h' h'' : PH} {w w' w'' : World} (x : Frm h w h' w') (y : Frm h' w' h'' w'') : Frm h w h'' w'' :=
 ⟨y.inn, Nat.le_trans x.size y.size, fun b hb e => by
  obtain ⟨e1, e2⟩ := x.old b hb e
  obtain ⟨e3, e4⟩ := y.old b (Nat.lt_of_lt_of_le hb x.size) e1
  exact ⟨e3, e4.trans e2⟩, y.os.trans x.os, y.out.trans x.out⟩
theorem PH.In.lt {h : PH} {w : World} (hi : h.In w) {b : Nat} {o : Obj} (e : h b = some o) : b < w.heap.size :=
 (Array.getElem?_eq_some_iff.1 (hi b o e)).1
theorem PH.In.fresh {h : PH} {w : World} (hi : h.In w) : h w.heap.size = none := by
 cases e : h w.heap.size with
 | none => rfl
 | some o => exact absurd (hi.lt e) (Nat.lt_irrefl _)
theorem PH.upd_same (h : PH) (b : Nat) (o : Obj) : (h.upd b o) b = some o := by simp [PH.upd]
theorem PH.upd_ne (h : PH) {b x : Nat} (o : Obj) (e : x ≠ b) : (h.upd b o) x = h x := by simp [PH.upd, e]
theorem PH.upd_old {h : PH} {b x : Nat} (o : Obj) {u : Obj} (hb : h b = none) (e : h x = some u) : (h.upd b o) x = some u := by
 rw [PH.upd_ne _ _ (fun hx => by rw [hx, hb] at e; cases e)]; exact e
theorem Frm.new {h : PH} {w : World} (hi : h.In w) (o : Obj) : Frm h w (h.upd w.heap.size o) { w with heap := w.heap.push o } := by
 refine ⟨fun b u e => ?_, by simp, fun b hb e => ⟨?_, ?_⟩, rfl, rfl⟩
 ·by_cases hb : b = w.heap.size
  ·subst hb; rw [PH.upd_same] at e; cases e; simp
  ·rw [PH.upd_ne _ _ hb] at e
   have := hi.lt e
   rw [show ({ w with heap := w.heap.push o } : World).heap[b]? = w.heap[b]? by simp [Array.getElem?_push, Nat.ne_of_lt this]]
   exact hi b u e
 ·rw [PH.upd_ne _ _ (Nat.ne_of_lt hb)]; exact e
 ·simp [Array.getElem?_push, Nat.ne_of_lt hb]
theorem Frm.set {h : PH} {w : World} (hi : h.In w) {r : Nat} {o0 : Obj} (h0 : h r = some o0) (o : Obj) (f : Obj → Obj) (hf : f o0 = o) :
  Frm h w (h.upd r o) { w with heap := w.heap.modify r f } := by
 have hlt := hi.lt h0
 refine ⟨fun b u e => ?_, by simp, fun b hb e => ⟨?_, ?_⟩, rfl, rfl⟩
 ·by_cases hb : b = r
  ·subst hb; rw [PH.upd_same] at e; cases e
   simp [Array.getElem?_modify, hi _ _ h0, hf]
  ·rw [PH.upd_ne _ _ hb] at e
   simp [Array.getElem?_modify, Ne.symm hb, hi _ _ e]
 ·rw [PH.upd_ne _ _ (fun hx => by rw [hx, h0] at e; cases e)]; exact e
 ·have : r ≠ b := fun hx => by rw [← hx, h0] at e; cases e
  simp [Array.getElem?_modify, this]
def one1 : Value → Bool
 | .agg _ | .tuple _ => false
 | _ => true
def shapeOf : Obj → Option (TypeId × Nat)
 | .cells c e _ => some (e, c.size)
 | _ => none
def isCells : Obj → Bool
 | .cells .. => true
 | _ => false
def hp {α : Type} (P : Program) : Sem α → (α → PH → Prop) → PH → Prop
 | .pure a, Q, h => Q a h
 | .load _ a k, Q, h => a.spot = none ∧ ∃ c T fr v, h a.block = some (.cells c T fr) ∧ c[a.off]? = some v ∧ hp P (k v) Q h
 | .store _ a v k, Q, h => a.spot = none ∧ one1 v = true ∧ ∃ c T fr, h a.block = some (.cells c T fr) ∧ a.off < c.size ∧ Unfr c fr ∧
   hp P k Q (h.upd a.block (.cells (c.setIfInBounds a.off v) T fr))
 | .new o k, Q, h => ∀ r, h r = none → hp P (k r) Q (h.upd r o)
 | .shape r k, Q, h => ∃ o, h r = some o ∧ hp P (k (shapeOf o)) Q h
 | .freeze a n k, Q, h => ∃ c T fr, h a.block = some (.cells c T fr) ∧ n ≠ 0 ∧
   hp P k Q (h.upd a.block (.cells c T (if fr.1 == fr.2 then (a.off, a.off + n) else (min fr.1 a.off, max fr.2 (a.off + n)))))
 | .frozen a k, Q, h => ∃ c T fr, h a.block = some (.cells c T fr) ∧ hp P (k (decide (fr.1 ≤ a.off) && decide (a.off < fr.2))) Q h
 | .getObj r k, Q, h => ∃ o, h r = some o ∧ isCells o = false ∧ hp P (k o) Q h
 | .setObj r o k, Q, h => ∃ o0, h r = some o0 ∧ isCells o0 = false ∧ hp P k Q (h.upd r o)
 | .choose q k, Q, h => if q.forced then hp P (k 0) Q h else ∀ n, hp P (k (q.cut n)) Q h
 | .sys .., _, _ => False
 | .program k, Q, h => hp P (k P) Q h
 | .mark _ k, Q, h => hp P k Q h
 | .halt _, _, _ => False
theorem hp_bind {α β : Type} {P : Program} {s : Sem α} {f : α → Sem β} {Q : β → PH → Prop} : ∀ {h : PH},
  hp P (s >>= f) Q h = hp P s (fun a h => hp P (f a) Q h) h := by
 show ∀ {h : PH}, hp P (s.bind f) Q h = hp P s (fun a h => hp P (f a) Q h) h
 induction s with
 | pure a => intro h; rfl
 | load m a k ih => intro h; simp only [Sem.bind, hp, ih]
 | store m a v k ih => intro h; simp only [Sem.bind, hp, ih]
 | new o k ih => intro h; simp only [Sem.bind, hp, ih]
 | shape r k ih => intro h; simp only [Sem.bind, hp, ih]
 | freeze a n k ih => intro h; simp only [Sem.bind, hp, ih]
 | frozen a k ih => intro h; simp only [Sem.bind, hp, ih]
 | getObj r k ih => intro h; simp only [Sem.bind, hp, ih]
 | setObj r o k ih => intro h; simp only [Sem.bind, hp, ih]
 | choose q k ih => intro h; simp only [Sem.bind, hp, ih]
 | sys c k ih => intro h; rfl
 | program k ih => intro h; simp only [Sem.bind, hp, ih]
 | mark m k ih => intro h; simp only [Sem.bind, hp, ih]
 | halt y => intro h; rfl
theorem frozen_of {w : World} {a : Addr} {c : Array Value} {T : TypeId} {fr : Nat × Nat} (hb : w.heap[a.block]? = some (.cells c T fr)) (ho : a.off < c.size) (hu : Unfr c fr) : w.frozen? a = false := by
 obtain ⟨lo, hi⟩ := fr
 simp only [World.frozen?, hb]
 rcases hu with hu | hu <;> simp at hu ⊢ <;> omega
theorem hp_run {α : Type} {P : Program} {s : Sem α} {Q : α → PH → Prop} : ∀ {h : PH} {w : World}, hp P s Q h → h.In w →
  ∃ v w' h', s.run P w = .ok v w' ∧ Q v h' ∧ Frm h w h' w' := by
 induction s with
 | pure a => intro h w x hi; exact ⟨a, w, h, rfl, x, Frm.refl hi⟩
 | load m a k ih =>
  rintro h w ⟨h0, c, T, fr, v, h1, h2, h3⟩ hi
  obtain ⟨u, w', h', e1, e2, e3⟩ := ih v h3 hi
  refine ⟨u, w', h', ?_, e2, e3⟩
  have hc : w.cell? a = some v := by simp [World.cell?, hi _ _ h1, h0, h2]
  simp only [Sem.run, hc]; exact e1
 | store m a v k ih =>
  rintro h w ⟨h0, h1, c, T, fr, h2, h3, h4, h5⟩ hi
  have hb := hi _ _ h2
  have hset : w.setCell a v = { w with heap := w.heap.modify a.block fun | .cells c elem frozen => .cells (if a.spot.isSome then c else c.setIfInBounds a.off v) elem frozen | o => o } := rfl
  have hF := Frm.set hi h2 (.cells (c.setIfInBounds a.off v) T fr) (fun | .cells c elem frozen => .cells (if a.spot.isSome then c else c.setIfInBounds a.off v) elem frozen | o => o) (by simp [h0])
  rw [← hset] at hF
  obtain ⟨u, w', h', e1, e2, e3⟩ := ih h5 hF.inn
  refine ⟨u, w', h', ?_, e2, hF.trans e3⟩
  have hc : w.cell? a = some c[a.off] := by simp [World.cell?, hb, h0, h3]
  have hz : w.frozen? a = false := frozen_of hb h3 h4
  cases v <;> simp [one1] at h1 <;> simp [Sem.run, hc, hz, e1]
 | new o k ih =>
  intro h w x hi
  have hF := Frm.new hi o
  obtain ⟨u, w', h', e1, e2, e3⟩ := ih w.heap.size (x _ hi.fresh) hF.inn
  exact ⟨u, w', h', e1, e2, hF.trans e3⟩
 | shape r k ih =>
  rintro h w ⟨o, h1, h2⟩ hi
  obtain ⟨u, w', h', e1, e2, e3⟩ := ih _ h2 hi
  refine ⟨u, w', h', ?_, e2, e3⟩
  have : w.shape? r = shapeOf o := by simp only [World.shape?, hi _ _ h1]; cases o <;> rfl
  simp only [Sem.run, this]; exact e1
 | freeze a n k ih =>
  rintro h w ⟨c, T, fr, h1, h2, h3⟩ hi
  have hF := Frm.set hi h1 _ (fun | .cells c elem (lo, hi) => .cells c elem (if lo == hi then (a.off, a.off + n) else (min lo a.off, max hi (a.off + n))) | o => o) rfl
  have hset : w.freeze a n = { w with heap := w.heap.modify a.block fun | .cells c elem (lo, hi) => .cells c elem (if lo == hi then (a.off, a.off + n) else (min lo a.off, max hi (a.off + n))) | o => o } := by
   unfold World.freeze
   rw [if_neg h2]
   congr 2
  rw [← hset] at hF
  obtain ⟨u, w', h', e1, e2, e3⟩ := ih h3 hF.inn
  exact ⟨u, w', h', e1, e2, hF.trans e3⟩
 | frozen a k ih =>
  rintro h w ⟨c, T, fr, h1, h2⟩ hi
  obtain ⟨u, w', h', e1, e2, e3⟩ := ih _ h2 hi
  refine ⟨u, w', h', ?_, e2, e3⟩
  have : w.frozen? a = (decide (fr.1 ≤ a.off) && decide (a.off < fr.2)) := by simp only [World.frozen?, hi _ _ h1]
  simp only [Sem.run, this]; exact e1
 | getObj r k ih =>
  rintro h w ⟨o, h1, h2, h3⟩ hi
  obtain ⟨u, w', h', e1, e2, e3⟩ := ih _ h3 hi
  refine ⟨u, w', h', ?_, e2, e3⟩
  have hb := hi _ _ h1
  cases o <;> simp [isCells] at h2 <;> simp only [Sem.run, hb] <;> exact e1
 | setObj r o k ih =>
  rintro h w ⟨o0, h1, h2, h3⟩ hi
  have hF := Frm.set hi h1 o (fun _ => o) rfl
  have hset : ({ w with heap := w.heap.modify r fun _ => o } : World) = { w with heap := w.heap.setIfInBounds r o } := by
   have e : w.heap.modify r (fun _ => o) = w.heap.setIfInBounds r o := by
    apply Array.ext_getElem?
    intro i
    rw [Array.getElem?_modify, Array.getElem?_setIfInBounds]
    have hlt := hi.lt h1
    by_cases e : r = i
    ·subst e; simp [hlt]
    ·simp [e]
   rw [e]
  rw [hset] at hF
  obtain ⟨u, w', h', e1, e2, e3⟩ := ih h3 hF.inn
  refine ⟨u, w', h', ?_, e2, hF.trans e3⟩
  have hb := hi _ _ h1
  cases o0 <;> simp [isCells] at h2 <;> simp only [Sem.run, hb] <;> exact e1
 | choose q k ih =>
  intro h w x hi
  simp only [hp] at x
  by_cases hc : q.forced = true
  ·rw [if_pos hc] at x
   obtain ⟨u, w', h', e1, e2, e3⟩ := ih _ x hi
   exact ⟨u, w', h', by simp only [Sem.run, hc, if_true]; exact e1, e2, e3⟩
  ·rw [if_neg hc] at x
   have hF : Frm h w h { w with drawn := w.drawn + 1 } := ⟨hi, Nat.le_refl _, fun _ _ e => ⟨e, rfl⟩, rfl, rfl⟩
   obtain ⟨u, w', h', e1, e2, e3⟩ := ih _ (x (w.tape w.drawn q)) hF.inn
   exact ⟨u, w', h', by simp only [Sem.run, if_neg hc]; exact e1, e2, hF.trans e3⟩
 | sys c k ih => intro h w x; exact x.elim
 | program k ih =>
  intro h w x hi
  exact ih _ x hi
 | mark m k ih => intro h w x hi; exact ih x hi
 | halt y => intro h w x; exact x.elim
def ro {α : Type} (P : Program) : Sem α → PH → Option α
 | .pure a, _ => some a
 | .load _ a k, h => match a.spot, h a.block with
  | none, some (.cells c _ _) => match c[a.off]? with
   | some v => ro P (k v) h
   | none => none
  | _, _ => none
 | .shape r k, h => match h r with
  | some o => ro P (k (shapeOf o)) h
  | none => none
 | .getObj r k, h => match h r with
  | some o => match isCells o with
   | false => ro P (k o) h
   | true => none
  | none => none
 | .frozen a k, h => match h a.block with
  | some (.cells _ _ fr) => ro P (k (decide (fr.1 ≤ a.off) && decide (a.off < fr.2))) h
  | _ => none
 | .program k, h => ro P (k P) h
 | .mark _ k, h => ro P k h
 | _, _ => none
end TL

namespace TL
open Go
inductive Ty | int (k : IntKind) | bool | str | ptr | slice | map | any | fn
inductive TCh | one (t : Ty) | ints (k : IntKind) (n : Nat) | raw (n : Nat)
inductive Ch | one (v : Value) | ints (k : IntKind) (n : Nat) (l : List Int) | raw (n : Nat) (l : List Value)
inductive E0 | v (x : Value) | lit (b : Bool) | agg (cs : List Ch) | fn (x : Value) | box (k off : Nat) | boxi (k base n : Nat) (i : Nat) | sl (k n : Nat)
inductive EV | s (x : E0) | tup (xs : List E0) | iff (t : Nat) (w : Bool) (x : E0) | off (t : Nat) (w : Bool)
inductive Rs | one (x : E0) | tup (xs : List E0) | skip
abbrev Env := List (Nat × EV)
abbrev BX := List (List Ch)
inductive Cl | heap (p : PH → Prop) | loc (k off n : Nat)
abbrev Grd := Option (Nat × Bool × Bool)
def imp (G : Grd) (C : Prop) : Prop := match G with
 | none => C
 | some (_, b, w) => (b = w → C)
def flat : List Ch → List Value
 | [] => []
 | .one v :: r => v :: flat r
 | .ints k _ l :: r => l.map (Value.int k) ++ flat r
 | .raw _ l :: r => l ++ flat r
def chN : List Ch → Nat
 | [] => 0
 | .one _ :: r => chN r + 1
 | .ints _ n _ :: r => n + chN r
 | .raw n _ :: r => n + chN r
def chOk : List Ch → Prop
 | [] => True
 | .one v :: r => one1 v = true ∧ chOk r
 | .ints _ n l :: r => l.length = n ∧ chOk r
 | .raw n l :: r => l.length = n ∧ (∀ v ∈ l, one1 v = true) ∧ chOk r
def chSplit : List Ch → Nat → Option (List Ch × List Ch)
 | cs, 0 => some ([], cs)
 | [], _ + 1 => none
 | .one v :: r, n + 1 => match chSplit r n with
  | some (a, b) => some (.one v :: a, b)
  | none => none
 | .ints k m l :: r, n + 1 => match Nat.ble m (n + 1) with
  | true => match chSplit r (n + 1 - m) with
   | some (a, b) => some (.ints k m l :: a, b)
   | none => none
  | false => some ([.ints k (n + 1) (l.take (n + 1))], .ints k (m - (n + 1)) (l.drop (n + 1)) :: r)
 | .raw m l :: r, n + 1 => match Nat.ble m (n + 1) with
  | true => match chSplit r (n + 1 - m) with
   | some (a, b) => some (.raw m l :: a, b)
   | none => none
  | false => none
def chGet (cs : List Ch) (off n : Nat) : Option (List Ch) :=
 match chSplit cs off with
 | some (_, r) => match chSplit r n with
  | some (x, _) => some x
  | none => none
 | none => none
def kEq : IntKind → IntKind → Bool
 | .i8, .i8 | .i16, .i16 | .i32, .i32 | .i64, .i64 | .u8, .u8 | .u16, .u16 | .u32, .u32 | .u64, .u64 => true
 | _, _ => false
def intsOf (k : IntKind) : List Ch → Option (List Int)
 | [] => some []
 | .one (.int k' n) :: r => match kEq k k', intsOf k r with
  | true, some l => some (n :: l)
  | _, _ => none
 | _ => none
def rowOf (k : IntKind) (n : Nat) : List Ch → Option (List Int)
 | [.ints k' m l] => match kEq k k', Nat.beq m n with
  | true, true => some l
  | _, _ => none
 | cs => intsOf k cs
def setI : List Ch → Nat → IntKind → Int → Option (List Ch)
 | [], _, _, _ => none
 | .one _ :: _, 0, _, _ => none
 | .one x :: r, off + 1, k, v => match setI r off k v with
  | some r' => some (.one x :: r')
  | none => none
 | .ints k' m l :: r, off, k, v => match Nat.blt off m with
  | true => match kEq k' k with
   | true => some (.ints k' m (l.set off v) :: r)
   | false => none
  | false => match setI r (off - m) k v with
   | some r' => some (.ints k' m l :: r')
   | none => none
 | .raw m l :: r, off, k, v => match Nat.blt off m with
  | true => none
  | false => match setI r (off - m) k v with
   | some r' => some (.raw m l :: r')
   | none => none
def chSetG (cs : List Ch) (off : Nat) (new : List Ch) : Option (List Ch) :=
 match chSplit cs off with
 | some (a, r) => match chSplit r (chN new) with
  | some (_, b) => some (a ++ (new ++ b))
  | none => none
 | none => none
def chSet (cs : List Ch) (off : Nat) (new : List Ch) : Option (List Ch) :=
 match new with
 | [.one (.int k v)] => match setI cs off k v with
  | some r => some r
  | none => chSetG cs off new
 | _ => chSetG cs off new
def exTy : Ty → (Value → Prop) → Prop
 | .int k, K => ∃ n : Int, K (.int k n)
 | .bool, K => ∃ b : Bool, K (.bool b)
 | .str, K => ∃ s : ByteArray, K (.string s)
 | .ptr, K => ∃ p : Option Addr, K (.pointer p)
 | .slice, K => ∃ (a : Option Addr) (n c : Nat), K (.slice a n c)
 | .map, K => ∃ r : Option Nat, K (.map r)
 | .any, K => ∃ v : Value, one1 v = true ∧ K v
 | .fn, K => ∃ v : Value, one1 v = true ∧ K v
def exCh : List TCh → (List Ch → Prop) → Prop
 | [], K => K []
 | .one t :: r, K => exTy t fun v => exCh r fun cs => K (.one v :: cs)
 | .ints k n :: r, K => ∃ l : List Int, l.length = n ∧ exCh r fun cs => K (.ints k n l :: cs)
 | .raw n :: r, K => ∃ l : List Value, (l.length = n ∧ ∀ v ∈ l, one1 v = true) ∧ exCh r fun cs => K (.raw n l :: cs)
def sizeT (P : Program) (t : TypeId) : Nat := match P.info? t with
 | some i => i.size
 | none => 0
def aggT (P : Program) (t : TypeId) : Bool := match P.underlying t with
 | some (.struct _) => true
 | some (.array _ _) => true
 | _ => false
def rep {α : Type} : Nat → α → List α
 | 0, _ => []
 | n + 1, a => a :: rep n a
def catN : Nat → List TCh → List TCh
 | 0, _ => []
 | n + 1, l => l ++ catN n l
def tchs (P : Program) : Nat → TypeId → List TCh
 | 0, _ => []
 | f + 1, t => match P.underlying t with
  | some (.int k) => [.one (.int k)]
  | some .bool => [.one .bool]
  | some .string => [.one .str]
  | some (.pointer _) => [.one .ptr]
  | some (.slice _) => [.one .slice]
  | some (.map _ _) => [.one .map]
  | some (.func _ _ _) => [.one .fn]
  | some (.struct fs) => fs.toList.flatMap fun x => tchs P f x.type
  | some (.array n e) => match P.underlying e with
   | some (.int k) => match Nat.ble n 4 with
    | true => rep n (.one (.int k))
    | false => [.ints k n]
   | _ => match Nat.ble (n * sizeT P e) 12 with
    | true => catN n (tchs P f e)
    | false => [.raw (n * sizeT P e)]
  | _ => [.one .any]
def tcs (P : Program) (t : TypeId) : List TCh := tchs P 12 t
def isFnT (P : Program) (t : TypeId) : Bool := match P.underlying t with
 | some (.func _ _ _) => true
 | _ => false
def toE (P : Program) (t : TypeId) (cs : List Ch) : Option E0 :=
 match P.underlying t with
 | none => none
 | some _ => match aggT P t with
  | true => some (.agg cs)
  | false => match cs with
   | [.one v] => match isFnT P t with
    | true => some (.fn v)
    | false => some (.v v)
   | [.ints k 1 l] => some (.v (.int k (l.getD 0 0)))
   | _ => none
def chsOf : E0 → Option (List Ch)
 | .v x => some [.one x]
 | .lit b => some [.one (.bool b)]
 | .fn x => some [.one x]
 | .agg cs => some cs
 | _ => none
def val : E0 → Option Value
 | .v x => some x
 | .lit b => some (.bool b)
 | .fn x => some x
 | .agg cs => some (.agg (flat cs).toArray)
 | _ => none
def vals : List E0 → Option (List Value)
 | [] => some []
 | x :: r => match val x, vals r with
  | some v, some vs => some (v :: vs)
  | _, _ => none
def get : Env → Nat → Option EV
 | [], _ => none
 | (t, x) :: r, s => match Nat.beq t s with
  | true => some x
  | false => get r s
def dep (s : Nat) : EV → Bool
 | .iff t _ _ => Nat.beq t s
 | .off t _ => Nat.beq t s
 | _ => false
def clear (s : Nat) : Env → Env
 | [] => []
 | (t, x) :: r => match Nat.beq t s, dep s x with
  | false, false => (t, x) :: clear s r
  | _, _ => clear s r
def put (e : Env) (s : Nat) (x : EV) : Env := (s, x) :: clear s e
def cv : Value → Option E0
 | .bool b => some (.lit b)
 | .agg cs => match cs.toList.all one1 with
  | true => some (.agg (cs.toList.map .one))
  | false => none
 | .tuple _ => none
 | v => some (.v v)
def opv (e : Env) (G : Grd) : Operand → Option E0
 | .tmp t => match get e t with
  | some (.s x) => some x
  | some (.iff s w x) => match G with
   | some (s', _, w') => match Nat.beq s s', w == w' with
    | true, true => some x
    | _, _ => none
   | none => match get e s with
    | some (.s (.lit b)) => match w == b with
     | true => some x
     | false => none
    | _ => none
  | _ => none
 | .const v => cv v
 | .global g => some (.v (.pointer (some ⟨g, 0, none⟩)))
 | .func f => some (.v (.func (.func f) #[] #[]))
def opvs (e : Env) (G : Grd) : List Operand → Option (List E0)
 | [] => some []
 | x :: r => match opv e G x, opvs e G r with
  | some v, some vs => some (v :: vs)
  | _, _ => none
def bitsV (op : BinOp) (k : IntKind) (x y : Int) : Int :=
 let a := BitVec.ofInt k.bits x
 let b := BitVec.ofInt k.bits y
 k.wrap (match op with
  | .and => (a &&& b).toNat
  | .or => (a ||| b).toNat
  | .xor => (a ^^^ b).toNat
  | _ => (a &&& ~~~b).toNat)
def shlV (k : IntKind) (x y : Int) : Int := k.wrap (x * 2 ^ (min y.toNat k.bits))
def shrV (k : IntKind) (x y : Int) : Int := x.fdiv (2 ^ (min y.toNat k.bits))
def bys (s : ByteArray) : List UInt8 := s.data.toList
def strEq (x y : ByteArray) : Bool := bys x == bys y
def strLt (x y : ByteArray) : Bool := Op.bytesLess (bys x) (bys y)
def byteAt (s : ByteArray) (i : Int) : Int := (((bys s).getD i.toNat 0).toNat : Int)
def subS (s : ByteArray) (lo hi : Int) : ByteArray := s.extract lo.toNat hi.toNat
def minV (x y : Int) : Int := if y < x then y else x
def maxV (x y : Int) : Int := if y > x then y else x
def slA (a : Option Addr) (sz : Nat) (lo mx : Int) : Option Addr := if mx.toNat = lo.toNat then a else a.map (·.add (lo.toNat * sz))
def isLitI : Operand → Bool
 | .const (.int _ _) => true
 | _ => false
def adr (o n : Nat) : Nat := match n with
 | 0 => o
 | n + 1 => o + (n + 1)
def eqI : List Ch → List Ch → Option Bool
 | [.one (.int k a)], [.one (.int k' b)] => match kEq k k' with
  | true => some (a == b)
  | false => none
 | _, _ => none
def eqS : List Ch → List Ch → Option Bool
 | [.one (.string a)], [.one (.string b)] => some (strEq a b)
 | _, _ => none
def eqB : List Ch → List Ch → Option Bool
 | [.one (.bool a)], [.one (.bool b)] => some (a == b)
 | _, _ => none
def eqFs (P : Program) (E : TypeId → List Ch → List Ch → Option Bool) : List Field → List Ch → List Ch → Option Bool
 | [], _, _ => some true
 | f :: r, cs, ds => match f.name == "_", chGet cs f.offset (sizeT P f.type), chGet ds f.offset (sizeT P f.type) with
  | false, some x, some y => match E f.type x y, eqFs P E r cs ds with
   | some a, some b => some (a && b)
   | _, _ => none
  | _, _, _ => none
def eqT (P : Program) : Nat → TypeId → List Ch → List Ch → Option Bool
 | 0, _, _, _ => none
 | n + 1, t, cs, ds => match P.underlying t with
  | some (.int _) => eqI cs ds
  | some .string => eqS cs ds
  | some .bool => eqB cs ds
  | some (.struct fs) => match P.stoodInHeld t with
   | false => eqFs P (eqT P n) fs.toList cs ds
   | true => none
  | some (.array m e) => match n, P.underlying e, sizeT P e, cs, ds with
   | _ + 1, some (.int _), 1, [.ints k a l], [.ints k' b l'] => match kEq k k', Nat.beq a m, Nat.beq b m with
    | true, true, true => some (l == l')
    | _, _, _ => none
   | _, _, _, _, _ => none
  | _ => none
def zeros (k : IntKind) : Nat → List Value → Option (List Value)
 | 0, vs => some vs
 | n + 1, .int k' z :: vs => match kEq k k', decide (z = 0) with
  | true, true => zeros k n vs
  | _, _ => none
 | _ + 1, _ => none
def shapeZ : List TCh → List Value → Option (List Ch)
 | [], [] => some []
 | .one _ :: r, v :: vs => match one1 v, shapeZ r vs with
  | true, some cs => some (.one v :: cs)
  | _, _ => none
 | .ints k n :: r, vs => match zeros k n vs with
  | some vs' => match shapeZ r vs' with
   | some cs => some (.ints k n (List.replicate n 0) :: cs)
   | none => none
  | none => none
 | .raw n :: r, vs => match Nat.ble n vs.length, (vs.take n).all one1, shapeZ r (vs.drop n) with
  | true, true, some cs => some (.raw n (vs.take n) :: cs)
  | _, _, _ => none
 | _, _ => none
def zeroE (P : Program) (t : TypeId) : Option (List Ch) := match P.info? t with
 | some i => match i.zero with
  | some z => match Nat.beq z.cells.size i.size with
   | true => shapeZ (tcs P t) z.cells.toList
   | false => none
  | none => none
 | none => none
inductive KD | int (k : IntKind) | str | arr (k : IntKind) (n : Nat) | rec2 (k k' : IntKind)
def kdRec (P : Program) (t : TypeId) : List Field → Option KD
 | [f, g] => match f.name == "_", g.name == "_", P.underlying f.type, P.underlying g.type, Nat.beq f.offset 0, Nat.beq g.offset 1 with
  | false, false, some (.int k), some (.int k'), true, true => match Nat.beq (sizeT P f.type) 1, Nat.beq (sizeT P g.type) 1, P.stoodInHeld t with
   | true, true, false => some (.rec2 k k')
   | _, _, _ => none
  | _, _, _, _, _, _ => none
 | _ => none
def kdOf (P : Program) (t : TypeId) : Option KD := match P.underlying t with
 | some (.int k) => some (.int k)
 | some .string => some .str
 | some (.array n e) => match P.underlying e, sizeT P e with
  | some (.int k), 1 => some (.arr k n)
  | _, _ => none
 | some (.struct fs) => kdRec P t fs.toList
 | _ => none
def isIntK (k : IntKind) : Value → Bool
 | .int k' _ => kEq k k'
 | _ => false
def kOk : KD → Value → Bool
 | .int k, v => isIntK k v
 | .str, .string _ => true
 | .arr k n, .agg a => Nat.beq a.toList.length n && a.toList.all (isIntK k)
 | .rec2 k k', .agg a => match a.toList with
  | [x, y] => isIntK k x && isIntK k' y
  | _ => false
 | _, _ => false
def intV : Value → Int
 | .int _ n => n
 | _ => 0
def keq : Value → Value → Bool
 | .int _ a, .int _ b => a == b
 | .string a, .string b => strEq a b
 | .agg a, .agg b => a.toList.map intV == b.toList.map intV
 | _, _ => false
def kOkE : KD → E0 → Bool
 | .int k, .v (.int k' _) => kEq k k'
 | .str, .v (.string _) => true
 | .arr k n, .agg [.ints k' m _] => kEq k k' && Nat.beq m n
 | .rec2 k k', .agg [.one (.int j _), .one (.int j' _)] => kEq k j && kEq k' j'
 | _, _ => false
def fi : List MapEntry → Value → Nat → Option (Nat × Value)
 | [], _, _ => none
 | e :: r, k, i => match keq k e.key with
  | true => some (i, e.val)
  | false => fi r k (i + 1)
def mapH (kd : KD) (h : PH) (r : Option Nat) (es : List MapEntry) : Prop :=
 (match r with
  | none => es = []
  | some r => ∃ c, h r = some (.map es.toArray c)) ∧ ∀ e ∈ es, kOk kd e.key = true
def lk (es : List MapEntry) (k z : Value) : Value × Bool := match fi es k 0 with
 | some (_, v) => (v, true)
 | none => (z, false)
def lkH (kd : KD) (h : PH) (r : Option Nat) (k z v : Value) (ok : Bool) : Prop := ∃ es, mapH kd h r es ∧ lk es k z = (v, ok)
def upM (es : List MapEntry) (k v : Value) (c : Nat) : List MapEntry × Nat := match fi es k 0 with
 | some (i, _) => (es.modify i fun e => { e with key := k, val := v }, c)
 | none => (es ++ [{ key := k, val := v, born := c }], c + 1)
def muH (kd : KD) (h : PH) (r : Option Nat) (k v : Value) (K : PH → Prop) : Prop :=
 ∃ r0 es c, r = some r0 ∧ h r0 = some (.map (es : List MapEntry).toArray c) ∧ (∀ e ∈ es, kOk kd e.key = true) ∧ K (h.upd r0 (.map (upM es k v c).1.toArray (upM es k v c).2))
def dlM (es : List MapEntry) (k : Value) : List MapEntry := match fi es k 0 with
 | some (i, _) => es.eraseIdx i
 | none => es
def mdH (kd : KD) (h : PH) (r : Option Nat) (k : Value) (K : PH → Prop) : Prop :=
 (r = none → K h) ∧ ∀ r0, r = some r0 → ∃ es c, h r0 = some (.map (es : List MapEntry).toArray c) ∧ (∀ e ∈ es, kOk kd e.key = true) ∧ K (h.upd r0 (.map (dlM es k).toArray c))
def lenM (h : PH) (r : Option Nat) (n : Nat) : Prop := match r with
 | none => n = 0
 | some r => ∃ es c, h r = some (.map es c) ∧ n = es.size
abbrev KK := Rs → Option Cl → BX → PH → Prop
def denMove (e : Env) (G : Grd) (x : Operand) (bx : BX) (h : PH) (K : KK) : Prop :=
 match x with
 | .tmp s => match get e s with
  | some (.tup xs) => match G with
   | none => K (.tup xs) none bx h
   | some _ => False
  | _ => match opv e G x with
   | some v => K (.one v) none bx h
   | none => False
 | x => match opv e G x with
  | some v => K (.one v) none bx h
  | none => False
def denPick (e : Env) (G : Grd) (c a b : Operand) (bx : BX) (h : PH) (K : KK) : Prop :=
 match c with
 | .tmp sc => match get e sc with
  | some (.s (.lit true)) => match opv e G a with
   | some x => K (.one x) none bx h
   | none => False
  | some (.s (.lit false)) => match opv e G b with
   | some x => K (.one x) none bx h
   | none => False
  | some (.s (.v (.bool bc))) => match b with
   | .const (.bool false) => match opv e (some (sc, bc, true)) a with
    | some (.v (.bool x)) => K (.one (.v (.bool (bc && x)))) none bx h
    | some (.lit x) => K (.one (.v (.bool (bc && x)))) none bx h
    | _ => False
   | _ => match a with
    | .const (.bool true) => match opv e (some (sc, bc, false)) b with
     | some (.v (.bool x)) => K (.one (.v (.bool (bc || x)))) none bx h
     | some (.lit x) => K (.one (.v (.bool (bc || x)))) none bx h
     | _ => False
    | _ => False
  | _ => False
 | _ => False
def denInt (op : BinOp) (k : IntKind) (a b : Int) (y : Operand) (G : Grd) (K : E0 → Prop) : Prop :=
 match op with
 | .add => K (.v (.int k (k.wrap (a + b))))
 | .sub => K (.v (.int k (k.wrap (a - b))))
 | .mul => K (.v (.int k (k.wrap (a * b))))
 | .quo => match isLitI y with
  | true => match decide (b = 0) with
   | true => False
   | false => K (.v (.int k (k.wrap (a.tdiv b))))
  | false => imp G (b ≠ 0) ∧ K (.v (.int k (k.wrap (a.tdiv b))))
 | .rem => match isLitI y with
  | true => match decide (b = 0) with
   | true => False
   | false => K (.v (.int k (a.tmod b)))
  | false => imp G (b ≠ 0) ∧ K (.v (.int k (a.tmod b)))
 | .and => K (.v (.int k (bitsV .and k a b)))
 | .or => K (.v (.int k (bitsV .or k a b)))
 | .xor => K (.v (.int k (bitsV .xor k a b)))
 | .andNot => K (.v (.int k (bitsV .andNot k a b)))
 | .eql => K (.v (.bool (a == b)))
 | .neq => K (.v (.bool (a != b)))
 | .lss => K (.v (.bool (decide (a < b))))
 | .leq => K (.v (.bool (decide (a ≤ b))))
 | .gtr => K (.v (.bool (decide (a > b))))
 | .geq => K (.v (.bool (decide (a ≥ b))))
 | _ => False
def denShift (op : BinOp) (k : IntKind) (a b : Int) (y : Operand) (G : Grd) (K : E0 → Prop) : Prop :=
 match op with
 | .shl => match isLitI y with
  | true => match decide (b < 0) with
   | true => False
   | false => K (.v (.int k (shlV k a b)))
  | false => imp G (0 ≤ b) ∧ K (.v (.int k (shlV k a b)))
 | .shr => match isLitI y with
  | true => match decide (b < 0) with
   | true => False
   | false => K (.v (.int k (shrV k a b)))
  | false => imp G (0 ≤ b) ∧ K (.v (.int k (shrV k a b)))
 | _ => False
def denStr (op : BinOp) (a b : ByteArray) (G : Grd) (K : E0 → Prop) : Prop :=
 match op with
 | .add => imp G (((a.size + b.size : Nat) : Int) ≤ 9223372036854775807) ∧ K (.v (.string (a ++ b)))
 | .eql => K (.v (.bool (strEq a b)))
 | .neq => K (.v (.bool (!(strEq a b))))
 | .lss => K (.v (.bool (strLt a b)))
 | .leq => K (.v (.bool (strLt a b || strEq a b)))
 | .gtr => K (.v (.bool (!(strLt a b || strEq a b))))
 | .geq => K (.v (.bool (!(strLt a b))))
 | _ => False
def eqOp (op : BinOp) (t : Bool) : Option E0 :=
 match op with
 | .eql => some (.v (.bool t))
 | .neq => some (.v (.bool (!t)))
 | _ => none
def isShift : BinOp → Bool
 | .shl => true
 | .shr => true
 | _ => false
def denBin (P : Program) (op : BinOp) (xt : TypeId) (x y : E0) (yo : Operand) (G : Grd) (K : E0 → Prop) : Prop :=
 match x, y with
 | .v (.int k a), .v (.int k' b) => match isShift op with
  | true => denShift op k a b yo G K
  | false => match kEq k k' with
   | true => denInt op k a b yo G K
   | false => False
 | .v (.string a), .v (.string b) => denStr op a b G K
 | .v (.bool a), .v (.bool b) => match P.underlying xt, eqOp op (a == b) with
  | some .bool, some r => K r
  | _, _ => False
 | .v (.bool a), .lit b => match P.underlying xt, eqOp op (a == b) with
  | some .bool, some r => K r
  | _, _ => False
 | .lit a, .v (.bool b) => match P.underlying xt, eqOp op (a == b) with
  | some .bool, some r => K r
  | _, _ => False
 | .v (.pointer a), .v (.pointer none) => match P.underlying xt, eqOp op a.isNone with
  | some (.pointer _), some r => K r
  | _, _ => False
 | .v (.slice a _ _), .v (.slice none _ _) => match P.underlying xt, eqOp op a.isNone with
  | some (.slice _), some r => K r
  | _, _ => False
 | .v (.map a), .v (.map none) => match P.underlying xt, eqOp op a.isNone with
  | some (.map _ _), some r => K r
  | _, _ => False
 | .agg cs, .agg ds => match aggT P xt, P.eqGuardType P.depth xt, eqT P 12 xt cs ds with
  | true, false, some t => match eqOp op t with
   | some r => K r
   | none => False
  | _, _, _ => False
 | _, _ => False
def denUn (op : UnOp) (x : E0) (K : E0 → Prop) : Prop :=
 match op, x with
 | .not, .v (.bool b) => K (.v (.bool (!b)))
 | .not, .lit true => K (.lit false)
 | .not, .lit false => K (.lit true)
 | .neg, .v (.int k n) => K (.v (.int k (k.wrap (0 - n))))
 | .xor, .v (.int k n) => K (.v (.int k (bitsV .xor k (if k.signed then -1 else k.max) n)))
 | _, _ => False
def bnd (G : Grd) (e : Env) (d : Int) (o : Option Operand) (K : Int → Prop) : Prop :=
 match o with
 | none => K d
 | some x => match opv e G x with
  | some (.v (.int _ n)) => K n
  | _ => False
def sl3 (hi mx : Option Operand) : Bool := match hi, mx with
 | none, some _ => false
 | _, _ => true
def denSlice (P : Program) (e : Env) (G : Grd) (t : TypeId) (x : E0) (lo hi mx : Option Operand) (K : E0 → Prop) : Prop :=
 match P.underlying t, x with
 | some .string, .v (.string s) => match mx with
  | some _ => False
  | none => bnd G e 0 lo fun l => bnd G e s.size hi fun r => imp G (0 ≤ l ∧ l ≤ r ∧ r ≤ s.size) ∧ K (.v (.string (subS s l r)))
 | some (.slice el), .v (.slice a n c) => match sizeT P el, sl3 hi mx with
  | _ + 1, true => bnd G e 0 lo fun l => bnd G e n hi fun r => bnd G e c mx fun m =>
    imp G (0 ≤ l ∧ l ≤ r ∧ r ≤ m ∧ m ≤ c) ∧ K (.v (.slice (slA a (sizeT P el) l m) (r.toNat - l.toNat) (m.toNat - l.toNat)))
  | _, _ => False
 | some (.array n el), .v (.pointer (some ⟨b, o, none⟩)) => match sizeT P el, sl3 hi mx with
  | _ + 1, true => bnd G e 0 lo fun l => bnd G e n hi fun r => bnd G e n mx fun m =>
    imp G (0 ≤ l ∧ l ≤ r ∧ r ≤ m ∧ m ≤ n) ∧ K (.v (.slice (slA (some ⟨b, o, none⟩) (sizeT P el) l m) (r.toNat - l.toNat) (m.toNat - l.toNat)))
  | _, _ => False
 | _, _ => False
def denFieldAddr (P : Program) (t : TypeId) (x : E0) (f : Nat) (K : E0 → Prop) : Prop :=
 match P.underlying t with
 | some (.struct fs) => match fs[f]? with
  | some fd => match sizeT P fd.type with
   | 0 => False
   | _ + 1 => match x with
    | .v (.pointer (some ⟨b, o, none⟩)) => K (.v (.pointer (some ⟨b, adr o fd.offset, none⟩)))
    | .box k o => K (.box k (adr o fd.offset))
    | _ => False
  | none => False
 | _ => False
def litI : Operand → Option Int
 | .const (.int _ n) => some n
 | _ => none
def denIndexAddr (P : Program) (e : Env) (G : Grd) (t : TypeId) (x : E0) (io : Operand) (K : E0 → Prop) : Prop :=
 match P.underlying t with
 | some (.array n el) => match sizeT P el with
  | 0 => False
  | _ + 1 => match litI io with
   | some i => match decide (0 ≤ i ∧ i < n) with
    | true => match x with
     | .v (.pointer (some ⟨b, o, none⟩)) => K (.v (.pointer (some ⟨b, adr o (i.toNat * sizeT P el), none⟩)))
     | .box k o => K (.box k (adr o (i.toNat * sizeT P el)))
     | _ => False
    | false => False
   | none => match opv e G io with
    | some (.v (.int _ i)) => match x with
     | .v (.pointer (some ⟨b, o, none⟩)) => imp G (0 ≤ i ∧ i < n) ∧ K (.v (.pointer (some ⟨b, o + i.toNat * sizeT P el, none⟩)))
     | .box k o => imp G (0 ≤ i ∧ i < n) ∧ K (.boxi k o (n * sizeT P el) (i.toNat * sizeT P el))
     | _ => False
    | _ => False
 | some (.slice el) => match sizeT P el with
  | 0 => False
  | _ + 1 => match x, opv e G io with
   | .v (.slice a n _), some (.v (.int _ i)) => ∃ b o, imp G (a = some ⟨b, o, none⟩ ∧ 0 ≤ i ∧ i < n) ∧ K (.v (.pointer (some ⟨b, o + i.toNat * sizeT P el, none⟩)))
   | _, _ => False
 | _ => False
def denIndex (P : Program) (e : Env) (G : Grd) (t : TypeId) (x : E0) (io : Operand) (K : E0 → Prop) : Prop :=
 match P.underlying t, x with
 | some .string, .v (.string s) => match opv e G io with
  | some (.v (.int _ i)) => imp G (0 ≤ i ∧ i < s.size) ∧ K (.v (.int .u8 (byteAt s i)))
  | _ => False
 | some (.array n el), .agg cs => match litI io with
  | some i => match decide (0 ≤ i ∧ i < n), sizeT P el with
   | true, _ + 1 => match chGet cs (i.toNat * sizeT P el) (sizeT P el) with
    | some r => match toE P el r with
     | some x => K x
     | none => False
    | none => False
   | _, _ => False
  | none => match opv e G io, cs, sizeT P el, aggT P el, P.underlying el with
   | some (.v (.int _ i)), [.ints k m l], 1, false, some _ => imp G (0 ≤ i ∧ i < n ∧ i < m) ∧ K (.v (.int k (l.getD i.toNat 0)))
   | _, _, _, _, _ => False
 | _, _ => False
def denField (P : Program) (t : TypeId) (x : E0) (f : Nat) (K : E0 → Prop) : Prop :=
 match P.underlying t, x with
 | some (.struct fs), .agg cs => match fs[f]? with
  | some fd => match chGet cs fd.offset (sizeT P fd.type) with
   | some r => match toE P fd.type r with
    | some y => K y
    | none => False
   | none => False
  | none => False
 | _, _ => False
def fillE (e : Env) (place : Nat → Option (Nat × Nat)) : List (Nat × Operand) → List Ch → Option (List Ch)
 | [], cs => some cs
 | (i, x) :: r, cs => match opv e none x, place i with
  | some y, some (off, size) => match chsOf y with
   | some new => match Nat.beq (chN new) size, chSet cs off new with
    | true, some cs' => fillE e place r cs'
    | _, _ => none
   | none => none
  | _, _ => none
def fieldPl (P : Program) (fs : Array Field) (i : Nat) : Option (Nat × Nat) := match fs[i]? with
 | some f => some (f.offset, sizeT P f.type)
 | none => none
def infoAll (P : Program) (fs : Array Field) : Bool := fs.toList.all fun f => (P.info? f.type).isSome
def buildE (P : Program) (e : Env) (t : TypeId) (ps : List (Nat × Operand)) : Option (List Ch) :=
 match zeroE P t, P.underlying t with
 | some z, some (.struct fs) => match infoAll P fs with
  | true => fillE e (fieldPl P fs) ps z
  | false => none
 | some z, some (.array _ el) => match P.info? el with
  | some i => fillE e (fun j => some (j * i.size, i.size)) ps z
  | none => none
 | _, _ => none
def catC : Nat → List Ch → List Ch
 | 0, _ => []
 | n + 1, l => l ++ catC n l
def buildS (P : Program) (e : Env) (el : TypeId) (n : Nat) (ps : List (Nat × Operand)) : Option (List Ch) :=
 match zeroE P el, P.info? el with
 | some z, some i => fillE e (fun j => some (j * i.size, i.size)) ps (catC n z)
 | _, _ => none
def newH (h : PH) (o : Obj) (K : Nat → PH → Prop) : Prop := ∀ b, h b = none → K b (h.upd b o)
def stH (h : PH) (b o : Nat) (vs : List Value) (K : PH → Prop) : Prop :=
 ∃ c T fr, h b = some (.cells c T fr) ∧ Unfr c fr ∧ o + vs.length ≤ c.size ∧ K (h.upd b (.cells (splice c o vs) T fr))
def CallH (P : Program) (f : FuncId) (args : List Value) (K : Value → PH → Prop) (h : PH) : Prop :=
 ∀ w, h.In w → Calls P f args.toArray w (fun e w' => ∃ v h', e = .returned v ∧ K v h' ∧ Frm h w h' w')
def hasBody (P : Program) (n : FuncId) : Bool := match P.funcs[n]? with
 | some fn => match fn.body with
  | some _ => !(fn.name == "runtime.NumGoroutine")
  | none => false
 | none => false
def CallV (P : Program) (fv : Value) (args : List Value) (K : Value → PH → Prop) (h : PH) : Prop :=
 match fv with
 | .func (.func f) first cap => hasBody P f = true ∧ CallH P f (first.toList ++ (args ++ cap.toList)) K h
 | _ => False
def nx (P : Program) (Q : Value → PH → Prop) (n : Next) (g : PH) : Prop := match n with
 | .value v => Q v g
 | .skip => Q undef g
 | .enter f args => CallH P f args.toList Q g
 | _ => False
def srcH (h : PH) (a : Option Addr) (cells : Nat) (vs : List Value) : Prop :=
 vs.length = cells ∧ (∀ v ∈ vs, one1 v = true) ∧ (cells = 0 ∨ ∃ b o, a = some ⟨b, o, none⟩ ∧ h.rds b o cells = some vs)
def byteVs (s : ByteArray) : List Value := (bys s).map fun x => Value.int .u8 (x.toNat : Int)
def appH (el : TypeId) (sz bt : Nat) (z : List Value) (a : Option Addr) (n c m : Nat) (vs : List Value) (K : Option Addr → Nat → Nat → PH → Prop) (h : PH) : Prop :=
 vs.length = m * sz ∧
 (n + m ≤ c → (m * sz = 0 → K a (n + m) c h) ∧ (m * sz ≠ 0 → ∃ b o, a = some ⟨b, o, none⟩ ∧ stH h b (o + n * sz) vs fun h' => K a (n + m) c h')) ∧
 (c < n + m → (n + m) * bt ≤ 140737488355328 ∧ ∃ olds, srcH h a (n * sz) olds ∧ ∀ c', n + m ≤ c' → c' ≤ 9223372036854775807 →
  newH h (.cells (olds ++ (vs ++ (List.replicate (c' - (n + m)) z).flatten)).toArray el (0, 0)) fun b h' => K (some ⟨b, 0, none⟩) (n + m) c' h')
def nthB (bx : BX) (k : Nat) : Option (List Ch) := match bx, k with
 | [], _ => none
 | c :: _, 0 => some c
 | _ :: r, k + 1 => nthB r k
def setB (bx : BX) (k : Nat) (c : List Ch) : BX := match bx, k with
 | [], _ => []
 | _ :: r, 0 => c :: r
 | x :: r, k + 1 => x :: setB r k c
def memN (l : List Nat) (x : Nat) : Bool := match l with
 | [] => false
 | y :: r => match Nat.beq y x with
  | true => true
  | false => memN r x
def denNew (priv : List Nat) (dst : Option Nat) (T : TypeId) (cs : List Ch) (bx : BX) (h : PH) (K : KK) : Prop :=
 match dst with
 | some d => match memN priv d with
  | true => K (.one (.box bx.length 0)) none (bx ++ [cs]) h
  | false => newH h (.cells (flat cs).toArray T (0, 0)) fun b h' => K (.one (.v (.pointer (some ⟨b, 0, none⟩)))) none bx h'
 | none => False
def denNewSl (priv : List Nat) (dst : Option Nat) (T : TypeId) (n : Nat) (cs : List Ch) (bx : BX) (h : PH) (K : KK) : Prop :=
 match dst with
 | some d => match memN priv d with
  | true => K (.one (.sl bx.length n)) none (bx ++ [cs]) h
  | false => newH h (.cells (flat cs).toArray T (0, 0)) fun b h' => K (.one (.v (.slice (some ⟨b, 0, none⟩) n n))) none bx h'
 | none => False
def denLoad (P : Program) (G : Grd) (t : TypeId) (x : E0) (bx : BX) (h : PH) (K : KK) : Prop :=
 match x with
 | .v (.pointer (some ⟨b, o, none⟩)) => exCh (tcs P t) fun cs => match toE P t cs with
  | some r => imp G (h.rds b o (sizeT P t) = some (flat cs)) ∧ K (.one r) (some (.heap fun h' => imp G (h'.rds b o (sizeT P t) = some (flat cs)))) bx h
  | none => False
 | .box k o => match nthB bx k with
  | some c => match chGet c o (sizeT P t) with
   | some cs => match toE P t cs with
    | some r => K (.one r) (some (.loc k o (sizeT P t))) bx h
    | none => False
   | none => False
  | none => False
 | .boxi k o n i => match nthB bx k, P.underlying t with
  | some c, some (.int kk) => match chGet c o n with
   | some cs => match rowOf kk n cs with
    | some l => imp G (i < n) ∧ K (.one (.v (.int kk (l.getD i 0)))) (some (.loc k o n)) bx h
    | none => False
   | none => False
  | _, _ => False
 | _ => False
def denStore (P : Program) (t : TypeId) (x y : E0) (bx : BX) (h : PH) (K : KK) : Prop :=
 match chsOf y with
 | some cs => match Nat.beq (chN cs) (sizeT P t), sizeT P t with
  | true, _ + 1 => match x with
   | .v (.pointer (some ⟨b, o, none⟩)) => stH h b o (flat cs) fun h' => K .skip none bx h'
   | .box k o => match nthB bx k with
    | some c => match chSet c o cs with
     | some c' => K .skip (some (.loc k o (sizeT P t))) (setB bx k c') h
     | none => False
    | none => False
   | .boxi k o n i => match nthB bx k, cs with
    | some c, [.one (.int kk v)] => match chGet c o n with
     | some ds => match rowOf kk n ds with
      | some l => match chSetG c o [.ints kk n (l.set i v)] with
       | some c' => i < n ∧ K .skip (some (.loc k o n)) (setB bx k c') h
       | none => False
      | none => False
     | none => False
    | _, _ => False
   | _ => False
  | _, _ => False
 | none => False
def exRes (P : Program) (ts : List TypeId) (K : List E0 → List Value → Prop) : Prop := match ts with
 | [] => K [] []
 | t :: r => exCh (tcs P t) fun cs => match toE P t cs with
  | some x => match val x with
   | some v => exRes P r fun xs vs => K (x :: xs) (v :: vs)
   | none => False
  | none => False
def callK (P : Program) (ts : List TypeId) (bx : BX) (K : KK) (v : Value) (h : PH) : Prop := match ts with
 | [] => K .skip none bx h
 | [t] => exCh (tcs P t) fun cs => match toE P t cs with
  | some x => match val x with
   | some u => v = u ∧ K (.one x) none bx h
   | none => False
  | none => False
 | ts => exRes P ts fun xs vs => v = .tuple vs.toArray ∧ K (.tup xs) none bx h
def resT (P : Program) (t : TypeId) : List TypeId := match P.underlying t with
 | some (.tuple ts) => ts.toList
 | _ => [t]
def denLen (P : Program) (t : TypeId) (x : E0) (K : E0 → Prop) : Prop :=
 match P.underlying t, x with
 | some .string, .v (.string s) => K (.v (.int .i64 (s.size : Int)))
 | some (.slice _), .v (.slice _ n _) => K (.v (.int .i64 (n : Int)))
 | some (.array n _), _ => K (.v (.int .i64 (n : Int)))
 | _, _ => False
def denCap (P : Program) (t : TypeId) (x : E0) (K : E0 → Prop) : Prop :=
 match P.underlying t, x with
 | some (.slice _), .v (.slice _ _ c) => K (.v (.int .i64 (c : Int)))
 | _, _ => False
def zeroVs (P : Program) (t : TypeId) : List Value := match P.info? t with
 | some i => match i.zero with
  | some z => z.cells.toList
  | none => []
 | none => []
def bytesT (P : Program) (t : TypeId) : Nat := match P.info? t with
 | some i => i.bytes
 | none => 0
def hasZero (P : Program) (t : TypeId) : Bool := match P.info? t with
 | some i => match i.zero with
  | some z => Nat.beq z.cells.size i.size
  | none => false
 | none => false
def appOk (P : Program) (t : TypeId) : Bool := match hasZero P t, bytesT P t, sizeT P t with
 | true, _ + 1, _ + 1 => (zeroVs P t).all one1
 | _, _, _ => false
def denApp (P : Program) (ts : List TypeId) (x y : E0) (bx : BX) (h : PH) (K : KK) : Prop :=
 match ts with
 | [t, t2] => match P.underlying t, x with
  | some (.slice el), .v (.slice a n c) => match appOk P el with
   | true => match P.underlying t2, y with
    | some (.slice _), .sl k m => match nthB bx k with
     | some cs => appH el (sizeT P el) (bytesT P el) (zeroVs P el) a n c m (flat cs) (fun a' n' c' h' => K (.one (.v (.slice a' n' c'))) none bx h') h
     | none => False
    | some (.slice _), .v (.slice a2 m _) => ∃ vs, srcH h a2 (m * sizeT P el) vs ∧
      appH el (sizeT P el) (bytesT P el) (zeroVs P el) a n c m vs (fun a' n' c' h' => K (.one (.v (.slice a' n' c'))) none bx h') h
    | some .string, .v (.string s) => match sizeT P el with
     | 1 => appH el 1 (bytesT P el) (zeroVs P el) a n c s.size (byteVs s) (fun a' n' c' h' => K (.one (.v (.slice a' n' c'))) none bx h') h
     | _ => False
    | some (.int _), .v (.int .i64 m) => (0 ≤ m ∧ m * ((bytesT P el : Nat) : Int) ≤ 140737488355328) ∧
      appH el (sizeT P el) (bytesT P el) (zeroVs P el) a n c m.toNat (List.replicate m.toNat (zeroVs P el)).flatten (fun a' n' c' h' => K (.one (.v (.slice a' n' c'))) none bx h') h
    | _, _ => False
   | false => False
  | _, _ => False
 | _ => False
def denCopy (P : Program) (ts : List TypeId) (x y : E0) (bx : BX) (h : PH) (K : KK) : Prop :=
 match ts with
 | [t, t2] => match P.underlying t, x with
  | some (.slice el), .v (.slice a n _) => match P.underlying t2, y, sizeT P el with
   | some (.slice _), .v (.slice a2 m _), _ + 1 => ∃ vs, srcH h a2 (min m n * sizeT P el) vs ∧
     (vs.length = 0 → K (.one (.v (.int .i64 ((min m n : Nat) : Int)))) none bx h) ∧
     (vs.length ≠ 0 → ∃ b o, a = some ⟨b, o, none⟩ ∧ stH h b o vs fun h' => K (.one (.v (.int .i64 ((min m n : Nat) : Int)))) none bx h')
   | _, _, _ => False
  | _, _ => False
 | _ => False
def denClear (P : Program) (ts : List TypeId) (x : E0) (bx : BX) (h : PH) (K : KK) : Prop :=
 match ts with
 | [t] => match P.underlying t, x with
  | some (.slice el), .v (.slice a n _) => match appOk P el with
   | true => (n * sizeT P el = 0 → K .skip none bx h) ∧
     (n * sizeT P el ≠ 0 → ∃ b o, a = some ⟨b, o, none⟩ ∧ stH h b o (List.replicate n (zeroVs P el)).flatten fun h' => K .skip none bx h')
   | false => False
  | _, _ => False
 | _ => False
def denMM (f : Int → Int → Int) : List E0 → (E0 → Prop) → Prop
 | [.v (.int k a), .v (.int k' b)], K => match kEq k k' with
  | true => K (.v (.int k (f a b)))
  | false => False
 | _, _ => False
def strH (h : PH) (a : Option Addr) (n : Nat) (s : ByteArray) : Prop := srcH h a n (byteVs s)
def denConv (P : Program) (src dst : TypeId) (x : E0) (bx : BX) (h : PH) (K : KK) : Prop :=
 match P.underlying src, P.underlying dst, x with
 | some (.int _), some (.int k), .v (.int _ n) => K (.one (.v (.int k (k.wrap n)))) none bx h
 | some .string, some .string, .v (.string s) => K (.one (.v (.string s))) none bx h
 | some .string, some (.slice el), .v (.string s) => match P.underlying el with
  | some (.int .u8) => ∀ c, s.size ≤ c → newH h (.cells (byteVs s ++ List.replicate (c - s.size) (Value.int .u8 0)).toArray el (c, c + 1)) fun b h' =>
    K (.one (.v (.slice (some ⟨b, 0, none⟩) s.size c))) none bx h'
  | _ => False
 | some (.slice el), some .string, .v (.slice a n _) => match P.underlying el with
  | some (.int .u8) => ∃ s, strH h a n s ∧ K (.one (.v (.string s))) (some (.heap fun h' => strH h' a n s)) bx h
  | _ => False
 | _, _, _ => False
def strConv (P : Program) (src dst : TypeId) : Bool :=
 match P.underlying src, P.underlying dst with
 | some (.slice _), some .string => true
 | _, _ => false
def mapT (P : Program) (ts : List TypeId) : Bool := match ts with
 | [t] => match P.underlying t with
  | some (.map _ _) => true
  | _ => false
 | _ => false
def zeroV (P : Program) (t : TypeId) : Option Value := match P.info? t with
 | some i => i.zero
 | none => none
def denLookup (P : Program) (mt : TypeId) (x k : E0) (ok : Bool) (bx : BX) (h : PH) (K : KK) : Prop :=
 match P.underlying mt, x with
 | some (.map kt et), .v (.map r) => match kdOf P kt, val k, zeroV P et with
  | some kd, some kv, some z => match kOkE kd k with
   | true => exCh (tcs P et) fun cs => match toE P et cs with
    | some y => match val y with
     | some v => ∃ b : Bool, lkH kd h r kv z v b ∧ match ok with
      | true => K (.tup [y, .v (.bool b)]) (some (.heap fun h' => lkH kd h' r kv z v b)) bx h
      | false => K (.one y) (some (.heap fun h' => lkH kd h' r kv z v b)) bx h
     | none => False
    | none => False
   | false => False
  | _, _, _ => False
 | _, _ => False
def denUpdate (P : Program) (mt : TypeId) (x k y : E0) (bx : BX) (h : PH) (K : KK) : Prop :=
 match P.underlying mt, x with
 | some (.map kt _), .v (.map r) => match kdOf P kt, val k, val y with
  | some kd, some kv, some v => match kOkE kd k with
   | true => muH kd h r kv v fun h' => K .skip none bx h'
   | false => False
  | _, _, _ => False
 | _, _ => False
def denDelete (P : Program) (ts : List TypeId) (x k : E0) (bx : BX) (h : PH) (K : KK) : Prop :=
 match ts, x with
 | mt :: _, .v (.map r) => match P.underlying mt, val k with
  | some (.map kt _), some kv => match kdOf P kt with
   | some kd => match kOkE kd k with
    | true => mdH kd h r kv fun h' => K .skip none bx h'
    | false => False
   | none => False
  | _, _ => False
 | _, _ => False
def denLenM (x : E0) (bx : BX) (h : PH) (K : KK) : Prop := match x with
 | .v (.map r) => ∃ n : Nat, lenM h r n ∧ K (.one (.v (.int .i64 (n : Int)))) (some (.heap fun h' => lenM h' r n)) bx h
 | _ => False
def denMakeS (P : Program) (t : TypeId) (x y : E0) (bx : BX) (h : PH) (K : KK) : Prop :=
 match P.underlying t, x, y with
 | some (.slice el), .v (.int _ n), .v (.int _ c) => match appOk P el with
  | true => (0 ≤ n ∧ n ≤ c ∧ c * bytesT P el ≤ 140737488355328) ∧
    newH h (.cells (List.replicate c.toNat (zeroVs P el)).flatten.toArray el (0, 0)) fun b h' => K (.one (.v (.slice (some ⟨b, 0, none⟩) n.toNat c.toNat))) none bx h'
  | false => False
 | _, _, _ => False
def pureConv (P : Program) (src dst : TypeId) : Bool :=
 match P.underlying src, P.underlying dst with
 | some (.int _), some (.int _) => true
 | some .string, some .string => true
 | _, _ => false
def ExtH (P : Program) (f : FuncId) (args : List Value) (K : Value → PH → Prop) (h : PH) : Prop :=
 ∃ v, (∀ g, h.Sub g → ro P (callFunc f args.toArray) g = some (.value v)) ∧ K v h
def denCall (P : Program) (e : Env) (c : Call) (t : TypeId) (bx : BX) (h : PH) (K : KK) : Prop :=
 match c.callee, opvs e none c.args.toList with
 | .value f, some xs => match vals xs, opv e none f with
  | some vs, some (.v (.func (.func n) first cap)) => match hasBody P n with
   | true => CallH P n (first.toList ++ (vs ++ cap.toList)) (callK P (resT P t) bx K) h
   | false => ExtH P n (first.toList ++ (vs ++ cap.toList)) (callK P (resT P t) bx K) h
  | some vs, some (.fn fv) => CallV P fv vs (callK P (resT P t) bx K) h
  | _, _ => False
 | .builtin .append, some [x, y] => denApp P c.argTypes.toList x y bx h K
 | .builtin .copy, some [x, y] => denCopy P c.argTypes.toList x y bx h K
 | .builtin .clear, some [x] => denClear P c.argTypes.toList x bx h K
 | .builtin .delete, some [x, y] => denDelete P c.argTypes.toList x y bx h K
 | _, _ => False
def k1 (bx : BX) (h : PH) (K : KK) (x : E0) : Prop := K (.one x) none bx h
def denStep (P : Program) (priv : List Nat) (o : Oper) (G : Grd) (e : Env) (bx : BX) (h : PH) (K : KK) : Prop :=
 match o.op with
 | .move x => denMove e G x bx h K
 | .assign x => denMove e G x bx h K
 | .pick c a b => denPick e G c a b bx h K
 | .nilCheck x => match opv e G x with
  | some (.v (.pointer p)) => ∃ b o, imp G (p = some ⟨b, o, none⟩) ∧ K (.one (.v (.pointer (some ⟨b, o, none⟩)))) none bx h
  | some (.box k n) => K (.one (.box k n)) none bx h
  | _ => False
 | .binOp op xt x y _ => match opv e G x, opv e G y with
  | some a, some b => denBin P op xt a b y G (k1 bx h K)
  | _, _ => False
 | .unOp op _ x => match opv e G x with
  | some a => denUn op a (k1 bx h K)
  | none => False
 | .fieldAddr t x f => match opv e G x with
  | some a => denFieldAddr P t a f (k1 bx h K)
  | none => False
 | .field t x f => match opv e G x with
  | some a => denField P t a f (k1 bx h K)
  | none => False
 | .indexAddr t x i => match opv e G x with
  | some a => denIndexAddr P e G t a i (k1 bx h K)
  | none => False
 | .index t x i => match opv e G x with
  | some a => denIndex P e G t a i (k1 bx h K)
  | none => False
 | .slice t x lo hi mx => match opv e G x with
  | some a => denSlice P e G t a lo hi mx (k1 bx h K)
  | none => False
 | .extract x i => match x with
  | .tmp s => match get e s with
   | some (.tup xs) => match xs[i]? with
    | some y => K (.one y) none bx h
    | none => False
   | _ => False
  | _ => False
 | .load t x => match opv e G x with
  | some a => denLoad P G t a bx h K
  | none => False
 | .call c => match c.callee with
  | .builtin .len => match mapT P c.argTypes.toList with
   | true => match G, opvs e none c.args.toList with
    | none, some [x] => denLenM x bx h K
    | _, _ => False
   | false => match opvs e G c.args.toList, c.argTypes.toList with
    | some [x], [t] => denLen P t x (k1 bx h K)
    | _, _ => False
  | .builtin .cap => match opvs e G c.args.toList, c.argTypes.toList with
   | some [x], [t] => denCap P t x (k1 bx h K)
   | _, _ => False
  | .builtin .min => match opvs e G c.args.toList with
   | some xs => denMM minV xs (k1 bx h K)
   | none => False
  | .builtin .max => match opvs e G c.args.toList with
   | some xs => denMM maxV xs (k1 bx h K)
   | none => False
  | _ => match G with
   | none => denCall P e c o.type bx h K
   | some _ => False
 | .convert src dst x => match G, pureConv P src dst with
  | _, true => match opv e G x with
   | some a => denConv P src dst a bx h K
   | none => False
  | none, false => match opv e none x with
   | some a => denConv P src dst a bx h K
   | none => False
  | some _, false => False
 | .lookup t x k ok => match G with
  | none => match opv e none x, opv e none k with
   | some a, some b => denLookup P t a b ok bx h K
   | _, _ => False
  | some _ => False
 | .mapUpdate t m k x => match G with
  | none => match opv e none m, opv e none k, opv e none x with
   | some a, some b, some c => denUpdate P t a b c bx h K
   | _, _, _ => False
  | some _ => False
 | .makeMap _ n => match G, n with
  | none, none => newH h (.map #[] 0) fun b h' => K (.one (.v (.map (some b)))) none bx h'
  | _, _ => False
 | .makeSlice t x y => match G with
  | none => match opv e none x, opv e none y with
   | some a, some b => denMakeS P t a b bx h K
   | _, _ => False
  | some _ => False
 | .build t ps => match G with
  | none => match buildE P e t ps.toList with
   | some cs => K (.one (.agg cs)) none bx h
   | none => False
  | some _ => False
 | .makeFunc fn first cap => match G with
  | none => match opvs e none first.toList, opvs e none cap.toList with
   | some xs, some ys => match vals xs, vals ys with
    | some us, some vs => K (.one (.v (.func fn us.toArray vs.toArray))) none bx h
    | _, _ => False
   | _, _ => False
  | some _ => False
 | .alloc t => match G with
  | none => match zeroE P t with
   | some cs => denNew priv o.dst t cs bx h K
   | none => False
  | some _ => False
 | .box t x => match G with
  | none => match opv e none x with
   | some a => match chsOf a with
    | some cs => denNew priv o.dst t cs bx h K
    | none => False
   | none => False
  | some _ => False
 | .buildSlice t n ps => match G with
  | none => match P.underlying t with
   | some (.slice el) => match buildS P e el n ps.toList with
    | some cs => match Nat.ble (n * sizeT P el) 16777216 with
     | true => denNewSl priv o.dst el n cs bx h K
     | false => False
    | none => False
   | _ => False
  | some _ => False
 | .store t x y => match G with
  | none => match opv e none x, opv e none y with
   | some a, some b => denStore P t a b bx h K
   | _, _ => False
  | some _ => False
 | _ => False
def lazyOk (P : Program) (o : Oper) : Bool := match o.op with
 | .move _ | .assign _ | .pick .. | .nilCheck _ | .binOp .. | .unOp .. | .fieldAddr .. | .field .. | .indexAddr .. | .index .. | .slice .. | .extract .. | .load .. => true
 | .call c => match c.callee with
  | .builtin .len => !(mapT P c.argTypes.toList)
  | .builtin .cap | .builtin .min | .builtin .max => true
  | _ => false
 | .convert s d _ => pureConv P s d
 | _ => false
structure WB where
 l : List Nat
 n : Nat
def okW (wb : WB) (k : Nat) : Bool := match Nat.ble wb.n k with
 | true => true
 | false => memN wb.l k
def updE (e : Env) (dst : Option Nat) (G : Grd) (r : Rs) : Env := match dst with
 | none => e
 | some d => match r, G with
  | .one x, none => put e d (.s x)
  | .one x, some (s, _, w) => match Nat.beq s d with
   | true => clear d e
   | false => put e d (.iff s w x)
  | .tup xs, none => put e d (.tup xs)
  | _, _ => clear d e
def dstOk (N : Nat) (dst : Option Nat) : Bool := match dst with
 | none => true
 | some d => Nat.blt d N
def wOk (wb : WB) (r : Rs) (c : Option Cl) : Bool := match r, c with
 | .skip, some (.loc k _ _) => okW wb k
 | _, _ => true
def know (e : Env) (s : Nat) (b : Bool) : Env := (s, .s (.lit b)) :: e
abbrev KO := Rs → Option Cl → Env → BX → PH → Prop
def denOp1 (P : Program) (N : Nat) (priv : List Nat) (wb : WB) (o : Oper) (G : Grd) (e : Env) (bx : BX) (h : PH) (K : KO) : Prop :=
 match dstOk N o.dst with
 | true => denStep P priv o G e bx h fun r c bx' h' => match wOk wb r c with
  | true => K r c (updE e o.dst G r) bx' h'
  | false => False
 | false => False
def updO (e : Env) (dst : Option Nat) : Env := match dst with
 | none => e
 | some d => put e d (.off d true)
def denSk (N : Nat) (o : Oper) (e : Env) (bx : BX) (h : PH) (K : KO) : Prop :=
 match dstOk N o.dst with
 | true => K .skip none (updO e o.dst) bx h
 | false => False
def slotOf (ops : Array Oper) (j : Nat) : Option Nat := match ops[j]? with
 | some o => o.dst
 | none => none
def denG1 (P : Program) (N : Nat) (priv : List Nat) (wb : WB) (o : Oper) (s : Nat) (x : E0) (want : Bool) (e : Env) (bx : BX) (h : PH) (K : KO) : Prop :=
 match x with
 | .lit b => match b == want with
  | true => denOp1 P N priv wb o none e bx h K
  | false => denSk N o e bx h K
 | .v (.bool b) => match lazyOk P o with
  | true => denOp1 P N priv wb o (some (s, b, want)) e bx h K
  | false => (b = want → denOp1 P N priv wb o none (know e s want) bx h K) ∧ (b = !want → denSk N o (know e s (!want)) bx h K)
 | _ => False
def denGo (P : Program) (N : Nat) (priv : List Nat) (wb : WB) (ops : Array Oper) (o : Oper) (e : Env) (bx : BX) (h : PH) (K : KO) : Prop :=
 match o.guard with
 | none => denOp1 P N priv wb o none e bx h K
 | some (j, want) => match slotOf ops j with
  | none => False
  | some s => match get e s with
   | some (.s x) => denG1 P N priv wb o s x want e bx h K
   | some (.iff s0 w0 x) => match get e s0 with
    | some (.s (.lit b0)) => match b0 == w0 with
     | true => denG1 P N priv wb o s x want ((s, .s x) :: e) bx h K
     | false => denSk N o e bx h K
    | some (.s (.v (.bool b0))) =>
     (b0 = w0 → denG1 P N priv wb o s x want ((s, .s x) :: know e s0 w0) bx h K) ∧ (b0 = !w0 → denSk N o (know e s0 (!w0)) bx h K)
    | _ => False
   | some (.off _ _) => denSk N o e bx h K
   | _ => False
def denOps (P : Program) (N : Nat) (priv : List Nat) (wb : WB) (ops : Array Oper) : List Oper → Env → BX → PH → (Env → BX → PH → Prop) → Prop
 | [], e, bx, h, K => K e bx h
 | o :: r, e, bx, h, K => denGo P N priv wb ops o e bx h fun _ _ e' bx' h' => denOps P N priv wb ops r e' bx' h' K
def masks : List Oper → List Nat → List Nat
 | [], acc => acc
 | o :: r, acc => masks r (acc ++ [o.after.toList.foldl (fun m e => match Region.binds .any e with
  | true => m ||| (1 <<< e.on) ||| acc.getD e.on 0
  | false => m) 0])
def anc (ms : List Nat) (j i : Nat) : Bool := (ms.getD j 0).testBit i
def calm (P : Program) (o : Oper) : Bool := match o.op with
 | .build .. | .makeFunc .. | .lookup .. => true
 | .convert s d _ => match strConv P s d with
  | true => true
  | false => lazyOk P o
 | .call c => match c.callee with
  | .builtin .len => true
  | _ => lazyOk P o
 | _ => lazyOk P o
def isLoad (o : Oper) : Bool := match o.op with
 | .load .. => true
 | _ => false
def isRd (P : Program) (o : Oper) : Bool := match o.op with
 | .load .. | .lookup .. => true
 | .convert s d _ => strConv P s d
 | .call c => match c.callee with
  | .builtin .len => mapT P c.argTypes.toList
  | _ => false
 | _ => false
def grows (o : Oper) : Bool := match o.op with
 | .alloc .. | .box .. | .buildSlice .. | .makeMap .. | .makeSlice .. => true
 | _ => false
def pairOk (P : Program) (ops : Array Oper) (ms : List Nat) (i j : Nat) : Bool :=
 match ops[i]?, ops[j]? with
 | some x, some y =>
  (anc ms i j || anc ms j i || x.apart ops y) &&
  (!calm P x || !isRd P x || anc ms i j || match y.dst with
   | some d => !(x.looksAt ops).contains d
   | none => true)
 | _, _ => false
def selfOk (P : Program) (ops : Array Oper) (x : Oper) : Bool :=
 !calm P x || match x.dst with
  | some d => !(x.looksAt ops).contains d
  | none => true
def noSel (ops : Array Oper) : Bool := ops.toList.all fun o => match o.op with
 | .select .. => false
 | _ => true
def regOk (P : Program) (ops : Array Oper) (ms : List Nat) : Bool :=
 (ops.toList.all (selfOk P ops)) && noSel ops &&
 (List.range ops.size).all fun i => (List.range ops.size).all fun j => i == j || pairOk P ops ms i j
def clH : List (Nat × Cl) → PH → Prop → Prop
 | [], _, K => K
 | (_, .heap p) :: C, h, K => p h ∧ clH C h K
 | (_, .loc ..) :: C, h, K => clH C h K
def clL (k off n : Nat) : List (Nat × Cl) → Bool
 | [] => true
 | (_, .loc k' off' n') :: C => (!(Nat.beq k k') || Nat.ble (off + n) off' || Nat.ble (off' + n') off) && clL k off n C
 | _ :: C => clL k off n C
def keepC (ms : List Nat) (i : Nat) : List (Nat × Cl) → List (Nat × Cl)
 | [] => []
 | (r, c) :: C => match anc ms i r with
  | true => keepC ms i C
  | false => (r, c) :: keepC ms i C
def addC (P : Program) (i : Nat) (o : Oper) (c : Option Cl) (C : List (Nat × Cl)) : List (Nat × Cl) := match isRd P o, c with
 | true, some x => (i, x) :: C
 | _, _ => C
def memL (l : List Nat) (x : Nat) : Bool := memN l x
def subL : List Nat → List Nat → Bool
 | [], _ => true
 | x :: r, l => match memN l x with
  | true => subL r l
  | false => false
inductive Ord | nil | one (i : Nat) (r : Ord) | alt (i : Nat) (r s : Ord)
def Ord.of : List Nat → Ord
 | [] => .nil
 | i :: r => .one i (Ord.of r)
def Ord.dep : Ord → Nat
 | .nil => 0
 | .one _ r => r.dep + 1
 | .alt _ r s => max (r.dep + 1) s.dep
def effK (ms : List Nat) (i : Nat) (o : Oper) (C : List (Nat × Cl)) (N : List (Nat × Cl) → Env → BX → PH → Prop) : KO := fun rs c e' bx' h' => match grows o, rs, c with
 | true, _, none => N (keepC ms i C) e' bx' h'
 | _, .skip, some (.loc k off n) => match clL k off n (keepC ms i C) with
  | true => N (keepC ms i C) e' bx' h'
  | false => False
 | _, _, _ => clH (keepC ms i C) h' (N (keepC ms i C) e' bx' h')
def denDraw (P : Program) (N : Nat) (priv : List Nat) (wb : WB) (ops : Array Oper) (ms : List Nat) : Ord → List Nat → Array Bool → List (Nat × Cl) → Env → BX → PH → (Env → BX → PH → Prop) → Prop
 | .nil, _, listed, _, e, bx, h, K => match Region.ready .any ops listed with
  | [] => K e bx h
  | _ => False
 | .one i r, seen, listed, C, e, bx, h, K => match ops[i]? with
  | none => False
  | some o => match calm P o with
   | true => match seen, memL (Region.ready .any ops listed) i with
    | [], true => denGo P N priv wb ops o e bx h fun _ c e' bx' h' => denDraw P N priv wb ops ms r [] (listed.setIfInBounds i true) (addC P i o c C) e' bx' h' K
    | _, _ => False
   | false => match memL (Region.ready .any ops listed) i, subL (Region.ready .any ops listed) (i :: seen) with
    | true, true => denGo P N priv wb ops o e bx h (effK ms i o C fun C' e' bx' h' => denDraw P N priv wb ops ms r [] (listed.setIfInBounds i true) C' e' bx' h' K)
    | _, _ => False
 | .alt i r s, seen, listed, C, e, bx, h, K => match ops[i]? with
  | none => False
  | some o => match calm P o, memL (Region.ready .any ops listed) i with
   | false, true => denGo P N priv wb ops o e bx h (effK ms i o C fun C' e' bx' h' => denDraw P N priv wb ops ms r [] (listed.setIfInBounds i true) C' e' bx' h' K) ∧
     denDraw P N priv wb ops ms s (i :: seen) listed C e bx h K
   | _, _ => False
abbrev tyD : Ty → Type
 | .int _ => Int
 | .bool => Bool
 | .str => ByteArray
 | .ptr => Option Addr
 | .slice => Option Addr × Nat × Nat
 | .map => Option Nat
 | .any => Value
 | .fn => Value
def encY : (t : Ty) → tyD t → Value
 | .int k, n => .int k n
 | .bool, b => .bool b
 | .str, s => .string s
 | .ptr, p => .pointer p
 | .slice, x => .slice x.1 x.2.1 x.2.2
 | .map, r => .map r
 | .any, v => v
 | .fn, v => v
def decY : (t : Ty) → Value → Option (tyD t)
 | .int k, .int k' n => match kEq k k' with
  | true => some n
  | false => none
 | .bool, .bool b => some b
 | .str, .string s => some s
 | .ptr, .pointer p => some p
 | .slice, .slice a n c => some (a, n, c)
 | .map, .map r => some r
 | .any, v => some v
 | .fn, v => some v
 | _, _ => none
abbrev tupT : List TCh → Type
 | [] => Unit
 | .one t :: r => tyD t × tupT r
 | .ints _ _ :: r => List Int × tupT r
 | .raw _ :: r => List Value × tupT r
def encT : (l : List TCh) → tupT l → List Ch
 | [], _ => []
 | .one t :: r, x => .one (encY t x.1) :: encT r x.2
 | .ints k n :: r, x => .ints k n x.1 :: encT r x.2
 | .raw n :: r, x => .raw n x.1 :: encT r x.2
def decT : (l : List TCh) → List Ch → Option (tupT l)
 | [], [] => some ()
 | .one t :: r, .one v :: cs => match decY t v, decT r cs with
  | some x, some y => some (x, y)
  | _, _ => none
 | .ints k n :: r, .ints k' n' l :: cs => match kEq k k', Nat.beq n n', decT r cs with
  | true, true, some y => some (l, y)
  | _, _, _ => none
 | .raw n :: r, .raw n' l :: cs => match Nat.beq n n', decT r cs with
  | true, some y => some (l, y)
  | _, _ => none
 | _, _ => none
structure Hd where
 sl : List (Nat × Ty)
 ag : List (Nat × List TCh)
 bo : List (Nat × List TCh)
def hdT (d : Hd) : List TCh := d.sl.map (fun p => .one p.2) ++ (d.ag.flatMap (·.2) ++ d.bo.flatMap (·.2))
def isFn : Ty → Bool
 | .fn => true
 | _ => false
def slV (e : Env) (s : Nat) : Option Value := match get e s with
 | some (.s x) => match x with
  | .v v => some v
  | .lit b => some (.bool b)
  | .fn v => some v
  | _ => none
 | _ => none
def slVs (e : Env) : List (Nat × Ty) → Option (List Ch)
 | [] => some []
 | (s, _) :: r => match slV e s, slVs e r with
  | some v, some cs => some (.one v :: cs)
  | _, _ => none
def normB : List TCh → List Ch → Option (List Ch)
 | [], [] => some []
 | .one _ :: r, .one v :: cs => match normB r cs with
  | some x => some (.one v :: x)
  | none => none
 | .ints k n :: r, cs => match chSplit cs n with
  | some (a, b) => match rowOf k n a, normB r b with
   | some l, some x => some (.ints k n l :: x)
   | _, _ => none
  | none => none
 | .raw n :: r, .raw m l :: cs => match normB r cs with
  | some x => match Nat.beq n m with
   | true => some (.raw m l :: x)
   | false => none
  | none => none
 | _, _ => none
def boVs (bx : BX) : List (Nat × List TCh) → Option (List Ch)
 | [] => some []
 | (k, ts) :: r => match nthB bx k, boVs bx r with
  | some c, some cs => match normB ts c with
   | some c' => some (c' ++ cs)
   | none => none
  | _, _ => none
def agVs (e : Env) : List (Nat × List TCh) → Option (List Ch)
 | [] => some []
 | (s, ts) :: r => match get e s, agVs e r with
  | some (.s (.agg c)), some cs => match normB ts c with
   | some c' => some (c' ++ cs)
   | none => none
  | _, _ => none
def lenA : List (Nat × List TCh) → Nat
 | [] => 0
 | (_, ts) :: r => ts.length + lenA r
def hdOf (d : Hd) (e : Env) (bx : BX) : Option (tupT (hdT d)) := match slVs e d.sl, agVs e d.ag, boVs bx d.bo with
 | some a, some g, some b => decT (hdT d) (a ++ (g ++ b))
 | _, _, _ => none
def eBase (W : List Nat) : Env → Env
 | [] => []
 | (t, x) :: r => match memN W t, x with
  | false, .s y => (t, .s y) :: eBase W r
  | false, .tup y => (t, .tup y) :: eBase W r
  | _, _ => eBase W r
def eHead (base : Env) : List (Nat × Ty) → List Ch → Env
 | [], _ => base
 | (s, t) :: r, .one v :: cs => (s, .s (match isFn t with
  | true => .fn v
  | false => .v v)) :: eHead base r cs
 | _ :: r, _ :: cs => eHead base r cs
 | _, _ => base
def bHead (bx : BX) : List (Nat × List TCh) → List Ch → BX
 | [], _ => bx
 | (k, ts) :: r, cs => bHead (setB bx k (cs.take ts.length)) r (cs.drop ts.length)
def wrOps : List Oper → List Nat
 | [] => []
 | o :: r => match o.dst with
  | some d => d :: wrOps r
  | none => wrOps r
def eHeadA (base : Env) : List (Nat × List TCh) → List Ch → Env
 | [], _ => base
 | (s, ts) :: r, cs => (s, .s (.agg (cs.take ts.length))) :: eHeadA base r (cs.drop ts.length)
def hdE (d : Hd) (base : Env) (cs : List Ch) : Env := eHead (eHeadA base d.ag (cs.drop d.sl.length)) d.sl cs
def hdB (d : Hd) (bx : BX) (cs : List Ch) : BX := bHead bx d.bo ((cs.drop d.sl.length).drop (lenA d.ag))
def wr : Code → List Nat
 | .region _ ops _ => wrOps ops.toList
 | .seq a b => wr a ++ wr b
 | .cond _ a b => wr a ++ wr b
 | .block _ c => wr c
 | .loop c => wr c
 | .scope c => wr c
 | _ => []
inductive LoopP {T : Type} (F : (T → PH → Prop) → T → PH → Prop) : T → PH → Prop
 | mk (R : T → PH → Prop) {x : T} {h : PH} : (∀ y g, R y g → LoopP F y g) → F R x h → LoopP F x h
def JoinP {T : Type} (F : (T → PH → Prop) → Prop) (R : T → PH → Prop) : Prop := ∃ J : T → PH → Prop, F J ∧ ∀ x h, J x h → R x h
def keyOf : Code → Nat
 | .region id _ _ => id * 2 + 2
 | .block id _ => id * 2 + 1
 | .seq a _ => keyOf a
 | _ => 0
inductive Ex | normal | exit (id : Nat) | ret
abbrev KX := Ex → Env → BX → PH → Prop
structure Hints where
 priv : List Nat
 order : List (Nat × Ord)
 heads : List (Nat × Hd)
 joins : List (Nat × Hd)
def lkp {α : Type} : List (Nat × α) → Nat → Option α
 | [], _ => none
 | (i, x) :: r, j => match Nat.beq i j with
  | true => some x
  | false => lkp r j
def allW (wb : WB) : List (Nat × List TCh) → Bool
 | [] => true
 | (k, _) :: r => match okW wb k with
  | true => allW wb r
  | false => false
def ordOf (H : Hints) (id n : Nat) : Ord := match lkp H.order id with
 | some l => l
 | none => Ord.of (List.range n)
def den (P : Program) (N : Nat) (H : Hints) : Code → WB → Env → BX → PH → KX → Prop
 | .skip, _, e, bx, h, K => K .normal e bx h
 | .region id ops draw, wb, e, bx, h, K => match draw with
  | false => denOps P N H.priv wb ops ops.toList e bx h (K .normal)
  | true => match regOk P ops (masks ops.toList []) && (P.follows .mixedOrders && Nat.ble (ordOf H id ops.size).dep ops.size) with
   | true => denDraw P N H.priv wb ops (masks ops.toList []) (ordOf H id ops.size) [] (Array.replicate ops.size false) [] e bx h (K .normal)
   | false => False
 | .seq a b, wb, e, bx, h, K => match lkp H.joins (keyOf b) with
  | some d => match allW wb d.bo with
   | true => JoinP (fun (J : tupT (hdT d) → PH → Prop) => den P N H a ⟨d.bo.map (·.1), bx.length⟩ e bx h fun ex e' bx' h' => match ex with
     | .normal => match hdOf d e' bx' with
      | some x' => J x' h'
      | none => False
     | ex => K ex e' bx' h') (fun (x : tupT (hdT d)) (h : PH) => den P N H b wb (hdE d (eBase (wr a) e) (encT (hdT d) x)) (hdB d bx (encT (hdT d) x)) h K)
   | false => False
  | none => den P N H a wb e bx h fun ex e' bx' h' => match ex with
   | .normal => den P N H b wb e' bx' h' K
   | ex => K ex e' bx' h'
 | .cond c a b, wb, e, bx, h, K => match opv e none c with
  | some (.lit true) => den P N H a wb e bx h K
  | some (.lit false) => den P N H b wb e bx h K
  | some (.v (.bool x)) => (x = true → den P N H a wb e bx h K) ∧ (x = false → den P N H b wb e bx h K)
  | _ => False
 | .block id c, wb, e, bx, h, K => match c with
  | .loop c' => match lkp H.heads id, allW wb ((lkp H.heads id).elim [] (·.bo)) with
   | some d, true => match hdOf d e bx with
    | some x0 => LoopP (fun (J : tupT (hdT d) → PH → Prop) (x : tupT (hdT d)) (h : PH) =>
      den P N H c' ⟨d.bo.map (·.1), bx.length⟩ (hdE d (eBase (wr c') e) (encT (hdT d) x)) (hdB d bx (encT (hdT d) x)) h fun ex e' bx' h' => match ex with
       | .normal => match hdOf d e' bx' with
        | some x' => J x' h'
        | none => False
       | .exit i => match Nat.beq i id with
        | true => K .normal e' bx' h'
        | false => K (.exit i) e' bx' h'
       | .ret => K .ret e' bx' h') x0 h
    | none => False
   | _, _ => False
  | c => den P N H c wb e bx h fun ex e' bx' h' => match ex with
   | .normal => K .normal e' bx' h'
   | .exit i => match Nat.beq i id with
    | true => K .normal e' bx' h'
    | false => K (.exit i) e' bx' h'
   | .ret => K .ret e' bx' h'
 | .exit id, _, e, bx, h, K => K (.exit id) e bx h
 | .ret, _, e, bx, h, K => K .ret e bx h
 | _, _, _, _, _, _ => False
def denRes1 (P : Program) (e : Env) (bx : BX) (h : PH) : ResultVar → (Value → Prop) → Prop
 | .tmp t, K => match opv e none (.tmp t) with
  | some x => match val x with
   | some v => K v
   | none => False
  | none => False
 | .cell a t, K => match opv e none (.tmp a) with
  | some x => denLoad P none t x bx h fun r _ _ _ => match r with
   | .one y => match val y with
    | some v => K v
    | none => False
   | _ => False
  | none => False
def denRess (P : Program) (e : Env) (bx : BX) (h : PH) : List ResultVar → (List Value → Prop) → Prop
 | [], K => K []
 | r :: rs, K => denRes1 P e bx h r fun v => denRess P e bx h rs fun vs => K (v :: vs)
def denRet (P : Program) (rs : List ResultVar) (e : Env) (bx : BX) (h : PH) (K : Value → PH → Prop) : Prop :=
 match rs with
 | [] => K (.tuple #[]) h
 | [r] => denRes1 P e bx h r fun v => K v h
 | rs => denRess P e bx h rs fun vs => K (.tuple vs.toArray) h
def env0 : List E0 → Nat → Env
 | [], _ => []
 | x :: r, i => (i, .s x) :: env0 r (i + 1)
def denF (P : Program) (fn : Func) (H : Hints) (xs : List E0) (K : Value → PH → Prop) (h : PH) : Prop :=
 match fn.body, Nat.ble xs.length fn.ntmps with
 | some c, true => den P fn.ntmps H c ⟨[], 0⟩ (env0 xs 0) [] h fun ex e bx h' => match ex with
  | .exit _ => False
  | _ => denRet P fn.results.toList e bx h' K
 | _, _ => False
end TL

namespace TL
open Go
theorem chN_flat : ∀ {cs : List Ch}, chOk cs → (flat cs).length = chN cs
 | [], _ => rfl
 | .one v :: r, h => by simp [flat, chN, chN_flat (cs := r) h.2]
 | .ints k n l :: r, h => by simp [flat, chN, chN_flat (cs := r) h.2, h.1]
 | .raw n l :: r, h => by simp [flat, chN, chN_flat (cs := r) h.2.2, h.1]
theorem flat_one1 : ∀ {cs : List Ch}, chOk cs → ∀ v ∈ flat cs, one1 v = true
 | [], _, v, hv => by simp [flat] at hv
 | .one u :: r, h, v, hv => by
  simp only [flat, List.mem_cons] at hv
  rcases hv with rfl | hv
  ·exact h.1
  ·exact flat_one1 h.2 v hv
 | .ints k n l :: r, h, v, hv => by
  simp only [flat, List.mem_append, List.mem_map] at hv
  rcases hv with ⟨x, _, rfl⟩ | hv
  ·rfl
  ·exact flat_one1 h.2 v hv
 | .raw n l :: r, h, v, hv => by
  simp only [flat, List.mem_append] at hv
  rcases hv with hv | hv
  ·exact h.2.1 v hv
  ·exact flat_one1 h.2.2 v hv
theorem flat_append (a b : List Ch) : flat (a ++ b) = flat a ++ flat b := by
 induction a with
 | nil => rfl
 | cons x r ih => cases x <;> simp [flat, ih]
theorem chN_append (a b : List Ch) : chN (a ++ b) = chN a + chN b := by
 induction a with
 | nil => simp [chN]
 | cons x r ih => cases x <;> simp [chN, ih] <;> omega
theorem chOk_append {a b : List Ch} : chOk (a ++ b) ↔ chOk a ∧ chOk b := by
 induction a with
 | nil => simp [chOk]
 | cons x r ih => cases x <;> simp [chOk, ih, and_assoc]
theorem chSplit_ok : ∀ {cs : List Ch} {n : Nat} {a b : List Ch}, chSplit cs n = some (a, b) → chOk cs → flat cs = flat a ++ flat b ∧ chN a = n ∧ chOk a ∧ chOk b := by
 intro cs
 induction cs with
 | nil =>
  intro n a b h ho
  cases n with
  | zero => simp [chSplit] at h; obtain ⟨rfl, rfl⟩ := h; exact ⟨rfl, rfl, trivial, ho⟩
  | succ n => simp [chSplit] at h
 | cons x r ih =>
  intro n a b h ho
  cases n with
  | zero => simp [chSplit] at h; obtain ⟨rfl, rfl⟩ := h; exact ⟨rfl, rfl, trivial, ho⟩
  | succ n =>
   cases x with
   | one v =>
    simp only [chSplit] at h
    split at h
    ·rename_i a' b' h1
     simp at h; obtain ⟨rfl, rfl⟩ := h
     obtain ⟨e1, e2, e3, e4⟩ := ih h1 ho.2
     exact ⟨by simp [flat, e1], by simp [chN, e2], ⟨ho.1, e3⟩, e4⟩
    ·cases h
   | ints k m l =>
    simp only [chSplit] at h
    split at h
    ·rename_i hb
     have hb := Nat.le_of_ble_eq_true hb
     split at h
     ·rename_i a' b' h1
      simp at h; obtain ⟨rfl, rfl⟩ := h
      obtain ⟨e1, e2, e3, e4⟩ := ih h1 ho.2
      exact ⟨by simp [flat, e1], by simp only [chN, e2]; omega, ⟨ho.1, e3⟩, e4⟩
     ·cases h
    ·rename_i hb
     have hb : ¬ m ≤ n + 1 := fun h => by rw [Nat.ble_eq_true_of_le h] at hb; cases hb
     simp at h; obtain ⟨rfl, rfl⟩ := h
     have hl := ho.1
     refine ⟨?_, by simp [chN], ⟨by simp; omega, trivial⟩, ⟨by simp; omega, ho.2⟩⟩
     simp only [flat, List.append_nil]
     rw [← List.append_assoc, ← List.map_append, List.take_append_drop]
   | raw m l =>
    simp only [chSplit] at h
    split at h
    ·rename_i hb
     have hb := Nat.le_of_ble_eq_true hb
     split at h
     ·rename_i a' b' h1
      simp at h; obtain ⟨rfl, rfl⟩ := h
      obtain ⟨e1, e2, e3, e4⟩ := ih h1 ho.2.2
      exact ⟨by simp [flat, e1], by simp only [chN, e2]; omega, ⟨ho.1, ho.2.1, e3⟩, e4⟩
     ·cases h
    ·cases h
theorem chGet_ok {cs x : List Ch} {off n : Nat} (h : chGet cs off n = some x) (ho : chOk cs) :
  flat x = ((flat cs).drop off).take n ∧ chN x = n ∧ chOk x ∧ off + n ≤ chN cs := by
 simp only [chGet] at h
 split at h
 ·rename_i a r h1
  split at h
  ·rename_i y z h2
   simp at h; subst h
   obtain ⟨e1, e2, e3, e4⟩ := chSplit_ok h1 ho
   obtain ⟨f1, f2, f3, f4⟩ := chSplit_ok h2 e4
   have la : (flat a).length = off := by rw [chN_flat e3, e2]
   have ly : (flat y).length = n := by rw [chN_flat f3, f2]
   refine ⟨?_, f2, f3, ?_⟩
   ·rw [e1, f1]
    rw [List.drop_append_of_le_length (by omega), ← la, List.drop_length, List.nil_append, ← ly, List.take_left]
   ·have := chN_flat ho
    rw [e1, f1] at this
    simp at this; omega
  ·cases h
 ·cases h
theorem chSetG_ok {cs x new : List Ch} {off : Nat} (h : chSetG cs off new = some x) (ho : chOk cs) (hn : chOk new) :
  flat x = (flat cs).take off ++ flat new ++ (flat cs).drop (off + chN new) ∧ chOk x ∧ chN x = chN cs ∧ off + chN new ≤ chN cs := by
 simp only [chSetG] at h
 split at h
 ·rename_i a r h1
  split at h
  ·rename_i y z h2
   simp at h; subst h
   obtain ⟨e1, e2, e3, e4⟩ := chSplit_ok h1 ho
   obtain ⟨f1, f2, f3, f4⟩ := chSplit_ok h2 e4
   have la : (flat a).length = off := by rw [chN_flat e3, e2]
   have ly : (flat y).length = chN new := by rw [chN_flat f3, f2]
   have hc := chN_flat ho
   rw [e1, f1] at hc
   simp at hc
   have hz := chN_flat f4
   refine ⟨?_, ?_, ?_, ?_⟩
   ·rw [e1, f1]
    simp only [flat_append, List.append_assoc]
    rw [List.take_append_of_le_length (by omega), ← la, List.take_length]
    congr 2
    rw [List.drop_append, List.drop_of_length_le (by omega), List.nil_append, List.drop_append, List.drop_of_length_le (by omega), List.nil_append]
    simp [ly]
   ·rw [chOk_append, chOk_append]; exact ⟨e3, hn, f4⟩
   ·rw [chN_append, chN_append, e2]; omega
   ·omega
  ·cases h
 ·cases h
theorem kEq_eq {k k' : IntKind} (h : kEq k k' = true) : k = k' := by cases k <;> cases k' <;> simp [kEq] at h <;> rfl
theorem setI_ok : ∀ {cs x : List Ch} {off : Nat} {k : IntKind} {v : Int}, setI cs off k v = some x → chOk cs →
  flat x = (flat cs).set off (.int k v) ∧ chOk x ∧ chN x = chN cs ∧ off < chN cs := by
 intro cs
 induction cs with
 | nil => intro x off k v h; simp [setI] at h
 | cons c r ih =>
  intro x off k v h ho
  cases c with
  | one u =>
   cases off with
   | zero => simp [setI] at h
   | succ off =>
    simp only [setI] at h
    split at h
    ·rename_i r' h1
     simp at h; subst h
     obtain ⟨e1, e2, e3, e4⟩ := ih h1 ho.2
     exact ⟨by simp [flat, e1], ⟨ho.1, e2⟩, by simp [chN, e3], by simp only [chN]; omega⟩
    ·cases h
  | ints k' m l =>
   have hl := ho.1
   simp only [setI] at h
   split at h
   ·rename_i hb
    have hb : off < m := Nat.le_of_ble_eq_true hb
    split at h
    ·rename_i hk
     have hk := kEq_eq hk
     subst hk
     simp at h; subst h
     refine ⟨?_, ⟨by simp [hl], ho.2⟩, by simp [chN], by simp only [chN]; omega⟩
     simp only [flat]
     rw [List.set_append_left _ _ (by simpa [hl] using hb), List.map_set]
    ·cases h
   ·rename_i hb
    have hb : m ≤ off := by
     rcases Nat.lt_or_ge off m with hh | hh
     ·have : Nat.blt off m = true := Nat.ble_eq_true_of_le hh
      rw [this] at hb; cases hb
     ·exact hh
    split at h
    ·rename_i r' h1
     simp at h; subst h
     obtain ⟨e1, e2, e3, e4⟩ := ih h1 ho.2
     refine ⟨?_, ⟨ho.1, e2⟩, by simp [chN, e3], by simp only [chN]; omega⟩
     simp only [flat, e1]
     rw [List.set_append_right _ _ (by simpa [hl] using hb)]
     simp [hl]
    ·cases h
  | raw m l =>
   have hl := ho.1
   simp only [setI] at h
   split at h
   ·cases h
   ·rename_i hb
    have hb : m ≤ off := by
     rcases Nat.lt_or_ge off m with hh | hh
     ·have : Nat.blt off m = true := Nat.ble_eq_true_of_le hh
      rw [this] at hb; cases hb
     ·exact hh
    split at h
    ·rename_i r' h1
     simp at h; subst h
     obtain ⟨e1, e2, e3, e4⟩ := ih h1 ho.2.2
     refine ⟨?_, ⟨ho.1, ho.2.1, e2⟩, by simp [chN, e3], by simp only [chN]; omega⟩
     simp only [flat, e1]
     rw [List.set_append_right _ _ (by simpa [hl] using hb)]
     simp [hl]
    ·cases h
theorem set_as_splice {α : Type} (l : List α) (i : Nat) (v : α) (h : i < l.length) : l.set i v = l.take i ++ [v] ++ l.drop (i + 1) := by
 rw [List.set_eq_take_append_cons_drop, if_pos h]; simp
theorem chSet_ok {cs x new : List Ch} {off : Nat} (h : chSet cs off new = some x) (ho : chOk cs) (hn : chOk new) :
  flat x = (flat cs).take off ++ flat new ++ (flat cs).drop (off + chN new) ∧ chOk x ∧ chN x = chN cs ∧ off + chN new ≤ chN cs := by
 unfold chSet at h
 split at h
 ·rename_i k v
  split at h
  ·rename_i r h1
   simp at h; subst h
   obtain ⟨e1, e2, e3, e4⟩ := setI_ok h1 ho
   refine ⟨?_, e2, e3, by simp only [chN]; omega⟩
   rw [e1, set_as_splice _ _ _ (by rw [chN_flat ho]; exact e4)]
   rfl
  ·exact chSetG_ok h ho hn
 ·exact chSetG_ok h ho hn
theorem intsOf_ok {k : IntKind} : ∀ {cs : List Ch} {l : List Int}, intsOf k cs = some l → flat cs = l.map (Value.int k) ∧ chN cs = l.length
 | [], l, h => by simp [intsOf] at h; subst h; exact ⟨rfl, rfl⟩
 | .one (.int k' n) :: r, l, h => by
  simp only [intsOf] at h
  split at h
  ·rename_i l' h1 h2
   simp at h; subst h
   obtain ⟨e1, e2⟩ := intsOf_ok (cs := r) h2
   have hk := kEq_eq h1
   subst hk
   exact ⟨by simp [flat, e1], by simp [chN, e2]⟩
  ·cases h
 | .one (.bool _) :: _, _, h | .one (.float ..) :: _, _, h | .one (.complex ..) :: _, _, h | .one (.string _) :: _, _, h | .one (.pointer _) :: _, _, h | .one (.slice ..) :: _, _, h
 | .one (.map _) :: _, _, h | .one (.chan _) :: _, _, h | .one (.func ..) :: _, _, h | .one .nilFunc :: _, _, h | .one (.iface ..) :: _, _, h | .one .nilIface :: _, _, h | .one (.agg _) :: _, _, h | .one (.tuple _) :: _, _, h
 | .ints .. :: _, _, h | .raw .. :: _, _, h => by simp [intsOf] at h
theorem rowOf_ok {k : IntKind} {n : Nat} {cs : List Ch} {l : List Int} (h : rowOf k n cs = some l) (hn : chN cs = n) (ho : chOk cs) : flat cs = l.map (Value.int k) ∧ l.length = n := by
 unfold rowOf at h
 split at h
 ·rename_i k' m l'
  split at h
  ·rename_i h1 h2
   simp at h; subst h
   rw [kEq_eq h1]
   exact ⟨by simp [flat], ho.1.trans (Nat.eq_of_beq_eq_true h2)⟩
  ·cases h
 ·obtain ⟨e1, e2⟩ := intsOf_ok h
  exact ⟨e1, e2.symm.trans hn⟩
end TL

namespace TL
open Go
theorem ro_bind {α β : Type} {P : Program} {s : Sem α} {f : α → Sem β} {h : PH} : ro P (s >>= f) h = (ro P s h).bind fun a => ro P (f a) h := by
 show ro P (s.bind f) h = (ro P s h).bind fun a => ro P (f a) h
 induction s with
 | pure a => rfl
 | load m a k ih =>
  simp only [Sem.bind, ro]
  split
  ·split
   ·exact ih _
   ·rfl
  ·rfl
 | shape r k ih =>
  simp only [Sem.bind, ro]
  split
  ·exact ih _
  ·rfl
 | getObj r k ih =>
  simp only [Sem.bind, ro]
  split
  ·split
   ·exact ih _
   ·rfl
  ·rfl
 | frozen a k ih =>
  simp only [Sem.bind, ro]
  split
  ·exact ih _
  ·rfl
 | program k ih => simp only [Sem.bind, ro]; exact ih _
 | mark m k ih => simp only [Sem.bind, ro]; exact ih
 | _ => rfl
theorem ro_run {α : Type} {P : Program} {s : Sem α} {a : α} {h : PH} {w : World} (hr : ro P s h = some a) (hi : h.In w) : s.run P w = .ok a w := by
 induction s with
 | pure b => simp only [ro, Option.some.injEq] at hr; subst hr; rfl
 | load m x k ih =>
  simp only [ro] at hr
  split at hr
  ·rename_i c T fr hs hb
   split at hr
   ·rename_i v hv
    have hc : w.cell? x = some v := by simp [World.cell?, hi _ _ hb, hs, hv]
    simp only [Sem.run, hc]; exact ih v hr
   ·cases hr
  ·cases hr
 | shape r k ih =>
  simp only [ro] at hr
  split at hr
  ·rename_i o ho
   have : w.shape? r = shapeOf o := by simp only [World.shape?, hi _ _ ho]; cases o <;> rfl
   simp only [Sem.run, this]; exact ih _ hr
  ·cases hr
 | getObj r k ih =>
  simp only [ro] at hr
  split at hr
  ·rename_i o ho
   split at hr
   ·rename_i hc
    have hb := hi _ _ ho
    cases o <;> simp [isCells] at hc <;> simp only [Sem.run, hb] <;> exact ih _ hr
   ·cases hr
  ·cases hr
 | frozen x k ih =>
  simp only [ro] at hr
  split at hr
  ·rename_i c T fr ho
   have : w.frozen? x = (decide (fr.1 ≤ x.off) && decide (x.off < fr.2)) := by simp only [World.frozen?, hi _ _ ho]
   simp only [Sem.run, this]; exact ih _ hr
  ·cases hr
 | program k ih => exact ih _ hr
 | mark m k ih => exact ih hr
 | _ => simp [ro] at hr
theorem ro_hp {α : Type} {P : Program} {s : Sem α} {a : α} {h : PH} {Q : α → PH → Prop} (hr : ro P s h = some a) (hq : Q a h) : hp P s Q h := by
 induction s with
 | pure b => simp only [ro, Option.some.injEq] at hr; subst hr; exact hq
 | load m x k ih =>
  simp only [ro] at hr
  split at hr
  ·rename_i c T fr hs hb
   split at hr
   ·rename_i v hv
    exact ⟨hs, c, _, _, v, hb, hv, ih v hr⟩
   ·cases hr
  ·cases hr
 | shape r k ih =>
  simp only [ro] at hr
  split at hr
  ·rename_i o ho
   exact ⟨o, ho, ih _ hr⟩
  ·cases hr
 | getObj r k ih =>
  simp only [ro] at hr
  split at hr
  ·rename_i o ho
   split at hr
   ·rename_i hc
    exact ⟨o, ho, hc, ih _ hr⟩
   ·cases hr
  ·cases hr
 | frozen x k ih =>
  simp only [ro] at hr
  split at hr
  ·rename_i c T fr ho
   exact ⟨c, T, fr, ho, ih _ hr⟩
  ·cases hr
 | program k ih => exact ih _ hr
 | mark m k ih => exact ih hr
 | _ => simp [ro] at hr
section
variable {P : Program} {h : PH}
theorem ro_pure {α : Type} (a : α) : ro P (pure a) h = some a := rfl
theorem ro_map {α β : Type} (f : α → β) (s : Sem α) : ro P (f <$> s) h = (ro P s h).map f := by
 show ro P (s >>= fun a => pure (f a)) h = _
 rw [ro_bind]; cases ro P s h <;> rfl
theorem ro_underlying (t : TypeId) : ro P (underlying t) h = P.underlying t := by
 show ro P (match P.underlying t with | some d => (pure d : Sem TypeDesc) | none => stuck "no such type") h = _
 cases P.underlying t <;> rfl
theorem ro_typeInfo (t : TypeId) : ro P (typeInfo t) h = P.info? t := by
 show ro P (match P.info? t with | some i => (pure i : Sem TypeInfo) | none => stuck "no such type") h = _
 cases P.info? t <;> rfl
theorem ro_sizeOf (t : TypeId) : ro P (Go.sizeOf t) h = (P.info? t).map (·.size) := by
 unfold Go.sizeOf; rw [ro_bind, ro_typeInfo]; cases P.info? t <;> rfl
theorem ro_program : ro P program h = some P := rfl
theorem ro_isAgg (t : TypeId) : ro P (isAgg t) h = (P.underlying t).map fun d => match d with | .struct _ | .array _ _ => true | _ => false := by
 unfold isAgg; rw [ro_bind, ro_underlying]
 cases P.underlying t with
 | none => rfl
 | some d => cases d <;> rfl
end
abbrev BS := List (Nat × TypeId)
def e0Ok (bs : BS) : E0 → Value → Prop
 | .v x, v => v = x ∧ one1 x = true
 | .lit b, v => v = .bool b
 | .fn x, v => v = x ∧ one1 x = true
 | .agg cs, v => chOk cs ∧ v = .agg (flat cs).toArray
 | .box k o, v => ∃ b T, bs[k]? = some (b, T) ∧ v = .pointer (some ⟨b, o, none⟩)
 | .boxi k base _ i, v => ∃ b T, bs[k]? = some (b, T) ∧ v = .pointer (some ⟨b, base + i, none⟩)
 | .sl k n, v => ∃ b T, bs[k]? = some (b, T) ∧ v = .slice (some ⟨b, 0, none⟩) n n
def e0sOk (bs : BS) : List E0 → List Value → Prop
 | [], [] => True
 | x :: r, v :: vs => e0Ok bs x v ∧ e0sOk bs r vs
 | _, _ => False
def evOk (tmps : Array Value) (bs : BS) : EV → Value → Prop
 | .s x, v => e0Ok bs x v
 | .tup xs, v => ∃ vs, v = .tuple vs.toArray ∧ e0sOk bs xs vs
 | .iff t w x, v => (tmps.getD t undef = .bool w → e0Ok bs x v) ∧ (¬ tmps.getD t undef = .bool w → v = undef)
 | .off _ _, v => v = undef
structure Fits (N : Nat) (bs : BS) (e : Env) (a : Act) : Prop where
 env : ∀ p ∈ e, evOk a.tmps bs p.2 (a.tmps.getD p.1 undef)
 size : a.tmps.size = N
 defs : a.defers = []
theorem get_mem : ∀ {e : Env} {s : Nat} {x : EV}, get e s = some x → (s, x) ∈ e
 | (t, y) :: r, s, x, h => by
  simp only [get] at h
  split at h
  ·rename_i hb
   simp at h; subst h
   have := Nat.eq_of_beq_eq_true hb; subst this
   exact List.mem_cons_self
  ·exact List.mem_cons_of_mem _ (get_mem h)
theorem clear_mem : ∀ {e : Env} {d : Nat} {p : Nat × EV}, p ∈ clear d e → p ∈ e ∧ p.1 ≠ d ∧ dep d p.2 = false
 | (t, y) :: r, d, p, h => by
  simp only [clear] at h
  split at h
  ·rename_i h1 h2
   rcases List.mem_cons.1 h with rfl | h
   ·exact ⟨List.mem_cons_self, Nat.ne_of_beq_eq_false h1, h2⟩
   ·obtain ⟨a, b, c⟩ := clear_mem h; exact ⟨List.mem_cons_of_mem _ a, b, c⟩
  ·obtain ⟨a, b, c⟩ := clear_mem h; exact ⟨List.mem_cons_of_mem _ a, b, c⟩
theorem getD_set_ne' {l : Array Value} {d s : Nat} {v u : Value} (h : s ≠ d) : (l.setIfInBounds d v).getD s u = l.getD s u := by
 simp [Array.getElem?_setIfInBounds_ne (Ne.symm h)]
theorem getD_set_same' {l : Array Value} {d : Nat} {v u : Value} (h : d < l.size) : (l.setIfInBounds d v).getD d u = v := by
 simp [h]
theorem fits_clear {N : Nat} {bs : BS} {e : Env} {a : Act} (hf : Fits N bs e a) (d : Nat) (v : Value) : Fits N bs (clear d e) (a.put (some d) v) := by
 refine ⟨fun p hp => ?_, by simp [Act.put, hf.size], hf.defs⟩
 obtain ⟨h1, h2, h3⟩ := clear_mem hp
 have h4 := hf.env p h1
 obtain ⟨s, x⟩ := p
 simp only [Act.put] at *
 rw [getD_set_ne' h2]
 cases x with
 | s x => exact h4
 | tup xs => exact h4
 | iff t w x =>
  simp only [dep] at h3
  simp only [evOk]
  rw [getD_set_ne' (Nat.ne_of_beq_eq_false h3)]
  exact h4
 | off t w => exact h4
theorem fits_put {N : Nat} {bs : BS} {e : Env} {a : Act} (hf : Fits N bs e a) {d : Nat} (hd : d < N) {v : Value} {x : EV} (hx : evOk (a.put (some d) v).tmps bs x v) : Fits N bs (put e d x) (a.put (some d) v) := by
 have hc := fits_clear hf d v
 refine ⟨fun p hp => ?_, hc.size, hc.defs⟩
 rcases List.mem_cons.1 hp with rfl | hp
 ·have : (a.put (some d) v).tmps.getD d undef = v := getD_set_same' (by rw [hf.size]; exact hd)
  simp only [this]; exact hx
 ·exact hc.env p hp
theorem Fits.get {N : Nat} {bs : BS} {e : Env} {a : Act} (hf : Fits N bs e a) {s : Nat} {x : EV} (h : get e s = some x) : evOk a.tmps bs x (a.tmps.getD s undef) := hf.env _ (get_mem h)
def GT (G : Grd) (a : Act) : Prop := match G with
 | none => True
 | some (s, b, w) => a.tmps.getD s undef = .bool w ∧ b = w
theorem imp_of {G : Grd} {a : Act} {C : Prop} (h : imp G C) (hg : GT G a) : C := by
 unfold imp at h
 split at h
 ·exact h
 ·exact h hg.2
theorem cv_ok {bs : BS} {v : Value} {x : E0} (h : cv v = some x) : e0Ok bs x v := by
 cases v <;> simp only [cv] at h
 case bool b => simp at h; subst h; exact rfl
 case agg cs =>
  split at h
  ·rename_i ha
   simp at h; subst h
   refine ⟨?_, ?_⟩
   ·generalize cs.toList = l at ha
    induction l with
    | nil => trivial
    | cons y r ih => simp only [List.all_cons, Bool.and_eq_true] at ha; exact ⟨ha.1, ih ha.2⟩
   ·have : flat (cs.toList.map .one) = cs.toList := by
     generalize cs.toList = l
     induction l with
     | nil => rfl
     | cons y r ih => simp [flat, ih]
    rw [this]
  ·cases h
 case tuple => cases h
 all_goals (simp at h; subst h; exact ⟨rfl, rfl⟩)
theorem opv_ok {N : Nat} {bs : BS} {e : Env} {G : Grd} {a : Act} {x : Operand} {y : E0} (h : opv e G x = some y) (hf : Fits N bs e a) (hg : GT G a) : e0Ok bs y (a.eval x) := by
 cases x with
 | tmp t =>
  simp only [opv] at h
  split at h
  ·rename_i z hz
   simp at h; subst h
   exact hf.get hz
  ·rename_i s w z hz
   have h1 := hf.get hz
   split at h
   ·rename_i s' b' w'
    split at h
    ·rename_i hs hw
     simp at h; subst h
     have := Nat.eq_of_beq_eq_true hs; subst this
     have := beq_iff_eq.1 hw; subst this
     exact h1.1 hg.1
    ·cases h
   ·split at h
    ·rename_i b hb
     split at h
     ·rename_i hw
      simp at h; subst h
      have := beq_iff_eq.1 hw; subst this
      exact h1.1 (hf.get hb)
     ·cases h
    ·cases h
  ·cases h
 | const v => exact cv_ok h
 | global g => simp [opv] at h; subst h; exact ⟨rfl, rfl⟩
 | func f => simp [opv] at h; subst h; exact ⟨rfl, rfl⟩
theorem opvs_ok {N : Nat} {bs : BS} {e : Env} {G : Grd} {a : Act} : ∀ {xs : List Operand} {ys : List E0}, opvs e G xs = some ys → Fits N bs e a → GT G a → e0sOk bs ys (xs.map a.eval)
 | [], ys, h, _, _ => by simp [opvs] at h; subst h; trivial
 | x :: r, ys, h, hf, hg => by
  simp only [opvs] at h
  split at h
  ·rename_i v vs h1 h2
   simp at h; subst h
   exact ⟨opv_ok h1 hf hg, opvs_ok h2 hf hg⟩
  ·cases h
theorem val_ok {bs : BS} {x : E0} {v u : Value} (h : val x = some v) (ho : e0Ok bs x u) : u = v := by
 cases x <;> simp only [val, Option.some.injEq, reduceCtorEq] at h
 ·subst h; exact ho.1
 ·subst h; exact ho
 ·subst h; exact ho.2
 ·subst h; exact ho.1
theorem vals_ok {bs : BS} : ∀ {xs : List E0} {vs us : List Value}, vals xs = some vs → e0sOk bs xs us → us = vs
 | [], vs, us, h, ho => by
  simp [vals] at h; subst h
  cases us with
  | nil => rfl
  | cons _ _ => exact ho.elim
 | x :: r, vs, us, h, ho => by
  simp only [vals] at h
  split at h
  ·rename_i v vs' h1 h2
   simp at h; subst h
   cases us with
   | nil => exact ho.elim
   | cons u us => rw [val_ok h1 ho.1, vals_ok h2 ho.2]
  ·cases h
theorem chsOf_ok {bs : BS} {x : E0} {cs : List Ch} {u : Value} (h : chsOf x = some cs) (ho : e0Ok bs x u) : chOk cs ∧ u.cells = (flat cs).toArray := by
 cases x <;> simp only [chsOf, Option.some.injEq, reduceCtorEq] at h
 case v y => subst h; obtain ⟨rfl, h1⟩ := ho; refine ⟨⟨h1, trivial⟩, ?_⟩; cases u <;> simp [one1] at h1 <;> rfl
 case lit b => subst h; have : u = .bool b := ho; subst this; exact ⟨⟨rfl, trivial⟩, rfl⟩
 case agg => subst h; obtain ⟨h1, rfl⟩ := ho; exact ⟨h1, rfl⟩
 case fn y => subst h; obtain ⟨rfl, h1⟩ := ho; refine ⟨⟨h1, trivial⟩, ?_⟩; cases u <;> simp [one1] at h1 <;> rfl
end TL

namespace TL
open Go
theorem ro_v {P : Program} {s : Sem Value} {g : PH} {v : Value} (h : ro P s g = some v) : ro P (do pure (Next.value (← s))) g = some (.value v) := by
 rw [ro_bind, h]; rfl
def Ev (P : Program) (bs : BS) (s : Sem Value) (K : E0 → Prop) : Prop := ∃ x v, (∀ g, ro P s g = some v) ∧ e0Ok bs x v ∧ K x
theorem Ev.val {P : Program} {bs : BS} {s : Sem Value} {K : E0 → Prop} {v : Value} (h3 : K (.v v)) (h2 : one1 v = true) (h1 : ∀ g, ro P s g = some v) : Ev P bs s K := ⟨.v v, v, h1, ⟨rfl, h2⟩, h3⟩
theorem Ev.of {P : Program} {bs : BS} {s : Sem Value} {K : E0 → Prop} {x : E0} {v : Value} (h3 : K x) (h2 : e0Ok bs x v) (h1 : ∀ g, ro P s g = some v) : Ev P bs s K := ⟨x, v, h1, h2, h3⟩
theorem denInt_ok {P : Program} {bs : BS} {op : BinOp} {k : IntKind} {x y : Int} {yo : Operand} {G : Grd} {a : Act} {K : E0 → Prop} {xt : TypeId}
  (h : denInt op k x y yo G K) (hg : GT G a) (hs : isShift op = false) : Ev P bs (binOp op xt (.int k x) (.int k y)) K := by
 cases op <;> simp only [denInt] at h <;> simp only [isShift] at hs
 case quo =>
  split at h
  ·split at h
   ·exact h.elim
   ·rename_i hd
    have hd : ¬ y = 0 := of_decide_eq_false hd
    exact .val h rfl (fun g => by simp [binOp, Op.intDiv, hd, ro_pure])
  ·have hd := imp_of h.1 hg
   exact .val h.2 rfl (fun g => by simp [binOp, Op.intDiv, hd, ro_pure])
 case rem =>
  split at h
  ·split at h
   ·exact h.elim
   ·rename_i hd
    have hd : ¬ y = 0 := of_decide_eq_false hd
    exact .val h rfl (fun g => by simp [binOp, Op.intDiv, hd, ro_pure])
  ·have hd := imp_of h.1 hg
   exact .val h.2 rfl (fun g => by simp [binOp, Op.intDiv, hd, ro_pure])
 all_goals exact .val h rfl (fun g => by simp only [binOp, Op.intArith, Op.intBits, Op.intCmp, ne_eq, not_true_eq_false, if_false]; exact ro_pure _)
theorem denShift_ok {P : Program} {bs : BS} {op : BinOp} {k k' : IntKind} {x y : Int} {yo : Operand} {G : Grd} {a : Act} {K : E0 → Prop} {xt : TypeId}
  (h : denShift op k x y yo G K) (hg : GT G a) : Ev P bs (binOp op xt (.int k x) (.int k' y)) K := by
 have key : 0 ≤ y → ¬ y < 0 := fun h => by omega
 cases op <;> simp only [denShift] at h
 case shl =>
  split at h
  ·split at h
   ·exact h.elim
   ·rename_i hd
    have hd : ¬ y < 0 := of_decide_eq_false hd
    exact .val h rfl (fun g => by simp only [binOp, Op.shift, hd, if_false]; exact ro_pure _)
  ·have hd := key (imp_of h.1 hg)
   exact .val h.2 rfl (fun g => by simp only [binOp, Op.shift, hd, if_false]; exact ro_pure _)
 case shr =>
  split at h
  ·split at h
   ·exact h.elim
   ·rename_i hd
    have hd : ¬ y < 0 := of_decide_eq_false hd
    exact .val h rfl (fun g => by simp only [binOp, Op.shift, hd, if_false]; exact ro_pure _)
  ·have hd := key (imp_of h.1 hg)
   exact .val h.2 rfl (fun g => by simp only [binOp, Op.shift, hd, if_false]; exact ro_pure _)
theorem toList_bys (s : ByteArray) : s.toList = bys s := by
 exact Go.ByteArray.toList_eq s
theorem denStr_ok {P : Program} {bs : BS} {op : BinOp} {x y : ByteArray} {G : Grd} {a : Act} {K : E0 → Prop} {xt : TypeId}
  (h : denStr op x y G K) (hg : GT G a) : Ev P bs (binOp op xt (.string x) (.string y)) K := by
 cases op <;> simp only [denStr] at h
 case add =>
  have hd := imp_of h.1 hg
  have hd' : ¬ ((x.size + y.size : Nat) : Int) > IntKind.i64.max := by
   have : IntKind.i64.max = 9223372036854775807 := by decide
   rw [this]; omega
  exact .val h.2 rfl (fun g => by simp only [binOp, Op.stringOp, hd', if_false]; exact ro_pure _)
 all_goals exact .val h rfl (fun g => by simp only [binOp, Op.stringOp, toList_bys]; exact ro_pure _)
theorem ro_part {P : Program} {g : PH} (t : TypeId) (cs : Array Value) (off : Nat) (d : TypeDesc) (i : TypeInfo) (hd : P.underlying t = some d) (hi : P.info? t = some i) :
  ro P (part t cs off) g = if aggT P t then some (.agg (cs.extract off (off + i.size))) else cs[off]? := by
 unfold part aggT
 rw [ro_bind, ro_isAgg, hd]
 have hz : ro P (Go.sizeOf t) g = some i.size := by rw [ro_sizeOf, hi]; rfl
 cases d <;> simp only [Option.map_some, Option.bind_some, if_true, Bool.false_eq_true, if_false]
 case struct => rw [ro_bind, hz]; rfl
 case array => rw [ro_bind, hz]; rfl
 all_goals (cases h : cs[off]? <;> rfl)
def vOf (P : Program) (t : TypeId) (cs : List Ch) : Option Value := match aggT P t with
 | true => some (.agg (flat cs).toArray)
 | false => match cs with
  | [.one v] => some v
  | _ => none
def aggD : TypeDesc → Bool
 | .struct _ => true
 | .array _ _ => true
 | _ => false
theorem aggT_of {P : Program} {t : TypeId} {d : TypeDesc} (h : P.underlying t = some d) : aggT P t = aggD d := by
 unfold aggT; rw [h]; cases d <;> rfl
theorem sizeT_of {P : Program} {t : TypeId} {i : TypeInfo} (h : P.info? t = some i) : sizeT P t = i.size := by unfold sizeT; rw [h]
theorem info_of_underlying {P : Program} {t : TypeId} {d : TypeDesc} (h : P.underlying t = some d) : ∃ i, P.info? t = some i := by
 unfold Program.underlying at h
 cases hi : P.info? t with
 | none => rw [hi] at h; cases h
 | some i => exact ⟨i, rfl⟩
theorem extract_flat {cs : List Ch} {off n : Nat} {x : List Ch} (h : chGet cs off n = some x) (ho : chOk cs) : (flat cs).toArray.extract off (off + n) = (flat x).toArray := by
 obtain ⟨e, _, _, _⟩ := chGet_ok h ho
 rw [e]
 simp [List.extract_toArray, List.extract_eq_take_drop]
theorem ro_part_get {P : Program} {g : PH} {t : TypeId} {cs x : List Ch} {off : Nat} {v : Value} (h : chGet cs off (sizeT P t) = some x) (ho : chOk cs) (hv : vOf P t x = some v) (d : TypeDesc) (hd : P.underlying t = some d) :
  ro P (part t (flat cs).toArray off) g = some v := by
 obtain ⟨i, hi⟩ := info_of_underlying hd
 rw [ro_part t _ off d i hd hi]
 unfold vOf at hv
 have hs := sizeT_of hi
 cases ha : aggT P t with
 | true =>
  rw [ha] at hv
  simp at hv; subst hv
  simp only [if_true]
  rw [← hs, extract_flat h ho]
 | false =>
  rw [ha] at hv
  simp only at hv
  split at hv
  ·rename_i u
   simp at hv; subst hv
   obtain ⟨e, hn, _, hle⟩ := chGet_ok h ho
   simp only [Bool.false_eq_true, if_false]
   simp only [flat] at e
   simp only [chN] at hn
   rw [← hn] at e
   have : ((flat cs).drop off)[0]? = some u := by
    cases hx : (flat cs).drop off with
    | nil => rw [hx] at e; simp at e
    | cons y r => rw [hx] at e; simp at e; simp [e]
   simpa using this
  ·cases hv
theorem strEq_beq (a b : ByteArray) : (a == b) = strEq a b := by
 rw [beq_toListBytes]; simp [strEq, toList_bys]
theorem ro_forIn_cons {P : Program} {g : PH} {α β : Type} (x : α) (l : List α) (b : β) (f : α → β → Sem (ForInStep β)) :
  ro P (forIn (x :: l) b f) g = (ro P (f x b) g).bind fun r => match r with
   | .done b => some b
   | .yield b => ro P (forIn l b f) g := by
 rw [List.forIn_cons, ro_bind]
 congr 1
 funext r
 cases r <;> rfl
theorem intList_eq (k : IntKind) {P : Program} {g : PH} (d : Nat) (e : TypeId) (kk : IntKind) (hu : P.underlying e = some (.int kk)) (i : TypeInfo) (hi : P.info? e = some i) (h1 : i.size = 1) (l l' : List Int) :
  ∀ (n s : Nat), s + n = l.length → l.length = l'.length →
  ro P (forIn (m := Sem) (List.range' s n 1) ((none, ()) : Option Bool × Unit) fun j _ => do
   let x ← part e ((l.map (Value.int k)).toArray) (j * i.size)
   let y ← part e ((l'.map (Value.int k)).toArray) (j * i.size)
   let r ← Op.equalIn (d + 1) e x y
   if (!r) = true then pure (ForInStep.done (some false, ())) else pure (ForInStep.yield (none, ()))) g =
   some (if (l.drop s == l'.drop s) = true then (none, ()) else (some false, ())) := by
 have ha : aggT P e = false := by rw [aggT_of hu]; rfl
 intro n
 induction n with
 | zero =>
  intro s hs hl
  have e1 : l.drop s = [] := List.drop_of_length_le (by omega)
  have e2 : l'.drop s = [] := List.drop_of_length_le (by omega)
  simp [e1, e2, ro_pure]
 | succ n ih =>
  intro s hs hl
  have s1 : s < l.length := by omega
  have s2 : s < l'.length := by omega
  have p1 : ro P (part e ((l.map (Value.int k)).toArray) (s * i.size)) g = some (.int k l[s]) := by
   rw [ro_part e _ _ _ i hu hi, ha]; simp [h1, s1]
  have p2 : ro P (part e ((l'.map (Value.int k)).toArray) (s * i.size)) g = some (.int k l'[s]) := by
   rw [ro_part e _ _ _ i hu hi, ha]; simp [h1, s2]
  have p3 : ro P (Op.equalIn (d + 1) e (.int k l[s]) (.int k l'[s])) g = some (l[s] == l'[s]) := by
   simp only [Op.equalIn]
   rw [ro_bind, ro_underlying, hu]
   simp [ro_pure]
  rw [List.range'_succ, ro_forIn_cons]
  rw [ro_bind, p1, Option.bind_some, ro_bind, p2, Option.bind_some, ro_bind, p3, Option.bind_some]
  rw [List.drop_eq_getElem_cons s1, List.drop_eq_getElem_cons s2]
  by_cases hq : l[s] = l'[s]
  ·rw [if_neg (by simp [hq]), ro_pure, Option.bind_some]
   simp only [List.cons_beq_cons, hq, beq_self_eq_true, Bool.true_and]
   exact ih (s + 1) (by omega) hl
  ·rw [if_pos (by simp [hq]), ro_pure, Option.bind_some]
   have e0 : (l[s] :: l.drop (s + 1) == l'[s] :: l'.drop (s + 1)) = false := by
    rw [List.cons_beq_cons, Bool.and_eq_false_iff]
    exact .inl (by simpa using hq)
   simp only [e0, Bool.false_eq_true, if_false]
theorem scalar_v {P : Program} {t : TypeId} {d : TypeDesc} (h : P.underlying t = some d) (hf : aggD d = false) (x : Value) : vOf P t [.one x] = some x := by
 unfold vOf; rw [aggT_of h, hf]
theorem fields_eq {P : Program} {g : PH} (n : Nat) (ih : ∀ (t : TypeId) (cs ds : List Ch) (b : Bool), eqT P n t cs ds = some b → chOk cs → chOk ds →
      ∃ x y, vOf P t cs = some x ∧ vOf P t ds = some y ∧ (∃ d, P.underlying t = some d) ∧ ∀ d, n ≤ d → ro P (Op.equalIn d t x y) g = some b) (cs ds : List Ch) (hc : chOk cs) (hd : chOk ds) (d : Nat) (hn : n ≤ d) :
    ∀ (fs : List Field) (b : Bool), eqFs P (eqT P n) fs cs ds = some b →
    ro P (forIn (m := Sem) fs ((none, ()) : Option Bool × Unit) fun f _ =>
      if f.name ≠ "_" then do
        let x ← part f.type (flat cs).toArray f.offset
        let y ← part f.type (flat ds).toArray f.offset
        let r ← Op.equalIn d f.type x y
        if (!r) = true then pure (ForInStep.done (some false, ())) else pure (ForInStep.yield (none, ()))
      else pure (ForInStep.yield (none, ()))) g = some (if b = true then (none, ()) else (some false, ())) := by
  intro fs
  induction fs with
  | nil => intro b h; simp [eqFs] at h; subst h; rfl
  | cons f fs ihf =>
    intro b h
    simp only [eqFs] at h
    split at h
    · rename_i x y h1 h2 h3
      split at h
      · rename_i p q h4 h5
        simp at h; subst h
        obtain ⟨_, _, hx, _⟩ := chGet_ok h2 hc
        obtain ⟨_, _, hy, _⟩ := chGet_ok h3 hd
        obtain ⟨u, v, hu, hv, ⟨dd, hdd⟩, he⟩ := ih f.type x y p h4 hx hy
        rw [ro_forIn_cons, if_pos (by simpa using h1), ro_bind, ro_part_get h2 hc hu dd hdd, Option.bind_some, ro_bind, ro_part_get h3 hd hv dd hdd, Option.bind_some, ro_bind, he d hn, Option.bind_some]
        cases p with
        | true => rw [if_neg (by simp), ro_pure, Option.bind_some, Bool.true_and]; exact ihf q h5
        | false => rw [if_pos (by simp), ro_pure, Option.bind_some, Bool.false_and]; rfl
      · cases h
    · cases h
theorem eqT_ok {P : Program} {g : PH} : ∀ (n : Nat) (t : TypeId) (cs ds : List Ch) (b : Bool), eqT P n t cs ds = some b → chOk cs → chOk ds →
  ∃ x y, vOf P t cs = some x ∧ vOf P t ds = some y ∧ (∃ d, P.underlying t = some d) ∧ ∀ d, n ≤ d → ro P (Op.equalIn d t x y) g = some b := by
 intro n
 induction n with
 | zero => intro t cs ds b h; simp [eqT] at h
 | succ n ih =>
  intro t cs ds b h hc hd
  simp only [eqT] at h
  split at h
  ·rename_i k hu
   unfold eqI at h
   split at h
   ·rename_i k1 m k2 m2
    split at h
    ·rename_i hk
     have := kEq_eq hk; subst this
     simp at h; subst h
     refine ⟨_, _, scalar_v hu rfl _, scalar_v hu rfl _, ⟨_, hu⟩, fun d hd => ?_⟩
     obtain ⟨d, rfl⟩ : ∃ d', d = d' + 1 := ⟨d - 1, by omega⟩
     simp only [Op.equalIn]
     rw [ro_bind, ro_underlying, hu]
     simp [ro_pure]
    ·cases h
   ·cases h
  ·rename_i hu
   unfold eqS at h
   split at h
   ·simp at h; subst h
    refine ⟨_, _, scalar_v hu rfl _, scalar_v hu rfl _, ⟨_, hu⟩, fun d hd => ?_⟩
    obtain ⟨d, rfl⟩ : ∃ d', d = d' + 1 := ⟨d - 1, by omega⟩
    simp only [Op.equalIn]
    rw [ro_bind, ro_underlying, hu]
    simp [ro_pure, strEq_beq]
   ·cases h
  ·rename_i hu
   unfold eqB at h
   split at h
   ·simp at h; subst h
    refine ⟨_, _, scalar_v hu rfl _, scalar_v hu rfl _, ⟨_, hu⟩, fun d hd => ?_⟩
    obtain ⟨d, rfl⟩ : ∃ d', d = d' + 1 := ⟨d - 1, by omega⟩
    simp only [Op.equalIn]
    rw [ro_bind, ro_underlying, hu]
    simp [ro_pure]
   ·cases h
  ·rename_i fs hu
   split at h
   ·rename_i hst
    refine ⟨.agg (flat cs).toArray, .agg (flat ds).toArray, by unfold vOf; rw [aggT_of hu]; rfl, by unfold vOf; rw [aggT_of hu]; rfl, ⟨_, hu⟩, fun d hdn => ?_⟩
    obtain ⟨d, rfl⟩ : ∃ d', d = d' + 1 := ⟨d - 1, by omega⟩
    simp only [Op.equalIn]
    rw [ro_bind, ro_underlying, hu, Option.bind_some, ro_bind, ro_program, Option.bind_some]
    simp only [hst, Bool.false_eq_true, if_false]
    rw [ro_bind, ← Array.forIn_toList, fields_eq n ih cs ds hc hd d (by omega) fs.toList b h, Option.bind_some]
    cases b <;> rfl
   ·cases h
  ·rename_i m e hu
   split at h
   ·rename_i kk k a l k' b' l' he hs
    split at h
    ·rename_i h1 h2 h3
     simp at h; subst h
     have := kEq_eq h1; subst this
     have := Nat.eq_of_beq_eq_true h2; subst this
     have := Nat.eq_of_beq_eq_true h3; subst this
     obtain ⟨i, hi⟩ := info_of_underlying he
     have hs1 := sizeT_of hi
     refine ⟨.agg (flat [.ints k _ l]).toArray, .agg (flat [.ints k _ l']).toArray, by unfold vOf; rw [aggT_of hu]; rfl, by unfold vOf; rw [aggT_of hu]; rfl, ⟨_, hu⟩, fun d hdn => ?_⟩
     obtain ⟨d, rfl⟩ : ∃ d', d = d' + 1 := ⟨d - 1, by omega⟩
     simp only [Op.equalIn]
     rw [ro_bind, ro_underlying, hu, Option.bind_some, ro_bind, ro_sizeOf, hi, Option.map_some, Option.bind_some, ro_bind]
     simp only [flat, List.append_nil]
     rw [Std.Legacy.Range.forIn_eq_forIn_range', Std.Legacy.Range.size]
     simp only [Nat.sub_zero, Nat.add_sub_cancel, Nat.div_one]
     obtain ⟨d, rfl⟩ : ∃ d', d = d' + 1 := ⟨d - 1, by omega⟩
     have hl := hc.1
     have hl' := hd.1
     rw [intList_eq k (P := P) (g := g) d e kk he i hi (by omega) l l' _ 0 (by omega) (by omega), Option.bind_some]
     simp only [List.drop_zero]
     cases l == l' <;> rfl
    ·cases h
   ·cases h
  ·cases h
end TL

namespace TL
open Go
theorem ev_guard {P : Program} {bs : BS} {op : BinOp} {t : TypeId} {x y : Operand} {a b : Value} {K : E0 → Prop} (h1 : ∀ g, ro P (eqGuard op t x y a b) g = some ()) (h : Ev P bs (binOp op t a b) K) :
  Ev P bs (do eqGuard op t x y a b; binOp op t a b) K := by
 obtain ⟨r, v, e1, e2, e3⟩ := h
 exact ⟨r, v, fun g => by rw [ro_bind, h1 g]; exact e1 g, e2, e3⟩
theorem ev_equal {P : Program} {bs : BS} {t : TypeId} {x y : Value} {op : BinOp} {b : Bool} {r : E0} {K : E0 → Prop} (hr : eqOp op b = some r) (hk : K r) (h : ∀ g, ro P (Op.equal t x y) g = some b)
  (h1 : ∀ o, binOp .eql t x y = o → o = (do pure (.bool (← Op.equal t x y)))) (h2 : ∀ o, binOp .neq t x y = o → o = (do pure (.bool (!(← Op.equal t x y))))) :
  Ev P bs (binOp op t x y) K := by
 cases op <;> simp [eqOp] at hr
 ·subst hr; exact .val hk rfl fun g => by rw [h1 _ rfl, ro_bind, h g]; rfl
 ·subst hr; exact .val hk rfl fun g => by rw [h2 _ rfl, ro_bind, h g]; rfl
theorem eq_bool {P : Program} {g : PH} {t : TypeId} (d : Nat) (a b : Bool) (hu : P.underlying t = some .bool) : ro P (Op.equalIn (d + 1) t (.bool a) (.bool b)) g = some (a == b) := by
 simp only [Op.equalIn]; rw [ro_bind, ro_underlying, hu]; rfl
theorem eq_ptr {P : Program} {g : PH} {t : TypeId} (d : Nat) {el : TypeId} (a : Option Addr) (hu : P.underlying t = some (.pointer el)) : ro P (Op.equalIn (d + 1) t (.pointer a) (.pointer none)) g = some a.isNone := by
 simp only [Op.equalIn]; rw [ro_bind, ro_underlying, hu]; cases a <;> rfl
theorem eq_slice {P : Program} {g : PH} {t : TypeId} (d : Nat) {el : TypeId} (a : Option Addr) (n c m k : Nat) (hu : P.underlying t = some (.slice el)) : ro P (Op.equalIn (d + 1) t (.slice a n c) (.slice none m k)) g = some a.isNone := by
 simp only [Op.equalIn]; rw [ro_bind, ro_underlying, hu]; cases a <;> rfl
theorem eq_map {P : Program} {g : PH} {t : TypeId} (d : Nat) {k el : TypeId} (a : Option Nat) (hu : P.underlying t = some (.map k el)) : ro P (Op.equalIn (d + 1) t (.map a) (.map none)) g = some a.isNone := by
 simp only [Op.equalIn]; rw [ro_bind, ro_underlying, hu]; cases a <;> rfl
theorem denBin_ok {P : Program} {bs : BS} {op : BinOp} {xt : TypeId} {x y : E0} {xo yo : Operand} {G : Grd} {a : Act} {K : E0 → Prop}
    (h : denBin P op xt x y yo G K) (hx : e0Ok bs x (a.eval xo)) (hy : e0Ok bs y (a.eval yo)) (hg : GT G a) :
    Ev P bs (do eqGuard op xt xo yo (a.eval xo) (a.eval yo); binOp op xt (a.eval xo) (a.eval yo)) K := by
  unfold denBin at h
  split at h
  · obtain ⟨hx, _⟩ := hx; obtain ⟨hy, _⟩ := hy
    rw [hx, hy]
    refine ev_guard (fun g => by cases op <;> rfl) ?_
    split at h
    · exact denShift_ok h hg
    · split at h
      · rename_i hs _ hk
        have := kEq_eq hk; subst this
        exact denInt_ok h hg hs
      · exact h.elim
  · obtain ⟨hx, _⟩ := hx; obtain ⟨hy, _⟩ := hy
    rw [hx, hy]
    exact ev_guard (fun g => by cases op <;> rfl) (denStr_ok h hg)
  all_goals (first
    | (rename_i p q
       have hxv : a.eval xo = .bool p := by first | exact hx.1 | exact hx
       have hyv : a.eval yo = .bool q := by first | exact hy.1 | exact hy
       rw [hxv, hyv]
       refine ev_guard (fun g => by cases op <;> rfl) ?_
       split at h
       · rename_i hu hr
         refine ev_equal hr h (fun g => eq_bool 9999 _ _ hu) (fun o ho => by subst ho; rfl) (fun o ho => by subst ho; rfl)
       · exact h.elim)
    | skip)
  · rename_i p
    obtain ⟨hx, _⟩ := hx; obtain ⟨hy, _⟩ := hy
    rw [hx, hy]
    refine ev_guard (fun g => by cases op <;> rfl) ?_
    split at h
    · rename_i hu hr
      refine ev_equal hr h (fun g => eq_ptr 9999 _ hu) (fun o ho => by subst ho; rfl) (fun o ho => by subst ho; rfl)
    · exact h.elim
  · rename_i p _ _ _ _
    obtain ⟨hx, _⟩ := hx; obtain ⟨hy, _⟩ := hy
    rw [hx, hy]
    refine ev_guard (fun g => by cases op <;> rfl) ?_
    split at h
    · rename_i hu hr
      refine ev_equal hr h (fun g => eq_slice 9999 _ _ _ _ _ hu) (fun o ho => by subst ho; rfl) (fun o ho => by subst ho; rfl)
    · exact h.elim
  · rename_i p
    obtain ⟨hx, _⟩ := hx; obtain ⟨hy, _⟩ := hy
    rw [hx, hy]
    refine ev_guard (fun g => by cases op <;> rfl) ?_
    split at h
    · rename_i hu hr
      refine ev_equal hr h (fun g => eq_map 9999 _ hu) (fun o ho => by subst ho; rfl) (fun o ho => by subst ho; rfl)
    · exact h.elim
  · rename_i cs ds
    obtain ⟨hc, hx⟩ := hx; obtain ⟨hd, hy⟩ := hy
    rw [hx, hy]
    split at h
    · rename_i t hag hgd heq
      split at h
      · rename_i r hr
        refine ev_guard (fun g => ?_) ?_
        · cases op <;> first
            | rfl
            | (simp only [eqGuard, Bool.not_true, Bool.false_eq_true, if_false]
               rw [ro_bind, ro_program, Option.bind_some, ro_bind, ro_program, Option.bind_some]
               simp [hgd, ro_pure])
        · refine ev_equal hr h (fun g => ?_) (fun o ho => by subst ho; rfl) (fun o ho => by subst ho; rfl)
          obtain ⟨x, y, hx, hy, ⟨dd, hdd⟩, he⟩ := eqT_ok (g := g) 12 xt cs ds t heq hc hd
          have hag : x = .agg (flat cs).toArray ∧ y = .agg (flat ds).toArray := by
            unfold vOf at hx hy
            rw [hag] at hx hy; simp at hx hy; exact ⟨hx.symm, hy.symm⟩
          obtain ⟨rfl, rfl⟩ := hag
          exact he 10000 (by omega)
      · exact h.elim
    · exact h.elim
  · exact h.elim
theorem denUn_ok {P : Program} {bs : BS} {op : UnOp} {x : E0} {u : Value} {K : E0 → Prop} (h : denUn op x K) (hx : e0Ok bs x u) : Ev P bs (Op.unary op u) K := by
 unfold denUn at h
 split at h
 ·obtain ⟨rfl, _⟩ := hx; exact .val h rfl fun g => rfl
 ·have : u = .bool true := hx
  subst this; exact .of h (show Value.bool false = .bool false from rfl) fun g => rfl
 ·have : u = .bool false := hx
  subst this; exact .of h (show Value.bool true = .bool true from rfl) fun g => rfl
 ·obtain ⟨rfl, _⟩ := hx; exact .val h rfl fun g => rfl
 ·obtain ⟨rfl, _⟩ := hx; exact .val h rfl fun g => rfl
 ·exact h.elim
theorem addr_add (b o n : Nat) : (⟨b, o, none⟩ : Addr).add n = ⟨b, o + n, none⟩ := by
 unfold Addr.add; split
 ·rename_i h; subst h; rfl
 ·rfl
theorem adr_eq (o n : Nat) : adr o n = o + n := by cases n <;> rfl
theorem denFieldAddr_ok {P : Program} {bs : BS} {t : TypeId} {x : E0} {f : Nat} {u : Value} {K : E0 → Prop} (h : denFieldAddr P t x f K) (hx : e0Ok bs x u) : Ev P bs (Instr.fieldAt t u f) K := by
 unfold denFieldAddr at h
 split at h
 ·rename_i fs hu
  split at h
  ·rename_i fd hf
   split at h
   ·exact h.elim
   ·rename_i n hs
    have place : ∀ g b o, ro P (fieldPlace ⟨b, o, none⟩ fd) g = some ⟨b, o + fd.offset, none⟩ := fun g b o => by
     obtain ⟨i, hi⟩ : ∃ i, P.info? fd.type = some i := by
      unfold sizeT at hs
      cases hi : P.info? fd.type with
      | none => rw [hi] at hs; cases hs
      | some i => exact ⟨i, rfl⟩
     unfold fieldPlace
     rw [ro_bind, ro_sizeOf, hi, Option.map_some, Option.bind_some, if_neg (by rw [← sizeT_of hi, hs]; omega), ro_pure, addr_add]
    have run : ∀ b o, u = .pointer (some ⟨b, o, none⟩) → ∀ g, ro P (Instr.fieldAt t u f) g = some (.pointer (some ⟨b, o + fd.offset, none⟩)) := fun b o hu' g => by
     subst hu'
     unfold Instr.fieldAt
     rw [ro_bind, ro_underlying, hu]
     simp only [Option.bind_some, hf]
     rw [ro_bind, show ro P (Instr.sureAddr (.pointer (some ⟨b, o, none⟩))) g = some ⟨b, o, none⟩ from rfl, Option.bind_some, ro_bind, place]; rfl
    split at h
    ·obtain ⟨hx, _⟩ := hx
     rw [adr_eq] at h
     exact .val h rfl (run _ _ hx)
    ·obtain ⟨b, T, hb, hx⟩ := hx
     rw [adr_eq] at h
     exact .of h ⟨b, T, hb, rfl⟩ (run _ _ hx)
    ·exact h.elim
  ·exact h.elim
 ·exact h.elim
theorem toE_ok {P : Program} {bs : BS} {t : TypeId} {cs : List Ch} {x : E0} (h : toE P t cs = some x) (ho : chOk cs) : ∃ v, e0Ok bs x v ∧ (∃ d, P.underlying t = some d) ∧
  (aggT P t = true → v = .agg (flat cs).toArray) ∧ (aggT P t = false → flat cs = [v]) := by
 unfold toE at h
 split at h
 ·cases h
 ·rename_i d hd
  have hd' : ∃ d, P.underlying t = some d := ⟨d, hd⟩
  split at h
  ·rename_i ha
   simp at h; subst h
   exact ⟨_, ⟨ho, rfl⟩, hd', fun _ => rfl, fun h => by rw [ha] at h; cases h⟩
  ·rename_i ha
   split at h
   ·rename_i v
    split at h
    ·simp at h; subst h; exact ⟨v, ⟨rfl, ho.1⟩, hd', (fun h => by rw [ha] at h; cases h), fun _ => rfl⟩
    ·simp at h; subst h; exact ⟨v, ⟨rfl, ho.1⟩, hd', (fun h => by rw [ha] at h; cases h), fun _ => rfl⟩
   ·rename_i k l
    simp at h; subst h
    have hl := ho.1
    refine ⟨_, ⟨rfl, rfl⟩, hd', (fun h => by rw [ha] at h; cases h), fun _ => ?_⟩
    match l, hl with
    | [z], _ => rfl
   ·cases h
theorem ro_part_toE {P : Program} {bs : BS} {t : TypeId} {cs r : List Ch} {off : Nat} {x : E0} (h1 : chGet cs off (sizeT P t) = some r) (h2 : toE P t r = some x) (ho : chOk cs) :
  ∃ v, e0Ok bs x v ∧ ∀ g, ro P (part t (flat cs).toArray off) g = some v := by
 obtain ⟨e, hn, hr, hle⟩ := chGet_ok h1 ho
 obtain ⟨v, hv, ⟨d, hd⟩, h3, h4⟩ := toE_ok (bs := bs) h2 hr
 obtain ⟨i, hi⟩ := info_of_underlying hd
 refine ⟨v, hv, fun g => ?_⟩
 rw [ro_part t _ off d i hd hi]
 cases ha : aggT P t with
 | true => rw [h3 ha, if_pos rfl, ← sizeT_of hi, extract_flat h1 ho]
 | false =>
  have h4 := h4 ha
  rw [if_neg (by simp)]
  have hsz : sizeT P t = 1 := by rw [← hn, ← chN_flat hr, h4]; rfl
  rw [h4] at e
  cases hx : (flat cs).drop off with
  | nil => rw [hx] at e; simp at e
  | cons y q =>
   rw [hx, hsz] at e
   simp at e
   have : ((flat cs).drop off)[0]? = some v := by rw [hx, e]; rfl
   simpa using this
theorem denField_ok {P : Program} {bs : BS} {t : TypeId} {x : E0} {f : Nat} {u : Value} {K : E0 → Prop} (h : denField P t x f K) (hx : e0Ok bs x u) : Ev P bs (Instr.field t u f) K := by
 unfold denField at h
 split at h
 ·rename_i fs cs hu
  obtain ⟨hc, rfl⟩ := hx
  split at h
  ·rename_i fd hf
   split at h
   ·rename_i r hr
    split at h
    ·rename_i y hy
     obtain ⟨v, hv, key⟩ := ro_part_toE (bs := bs) hr hy hc
     refine .of h hv fun g => ?_
     unfold Instr.field
     rw [ro_bind, ro_underlying, hu]
     simp only [Option.bind_some, hf]
     rw [ro_bind, show ro P (asAgg (.agg (flat cs).toArray)) g = some (flat cs).toArray from rfl, Option.bind_some]
     exact key g
    ·exact h.elim
   ·exact h.elim
  ·exact h.elim
 ·exact h.elim
theorem opv_int {N : Nat} {bs : BS} {e : Env} {G : Grd} {a : Act} {x : Operand} {k : IntKind} {n : Int} (h : opv e G x = some (.v (.int k n))) (hf : Fits N bs e a) (hg : GT G a) : a.eval x = .int k n := (opv_ok h hf hg).1
theorem litI_ok {x : Operand} {n : Int} {a : Act} (h : litI x = some n) : ∃ k, a.eval x = .int k n := by
 unfold litI at h
 split at h
 ·simp at h; subst h; exact ⟨_, rfl⟩
 ·cases h
theorem info_of_size {P : Program} {t : TypeId} {n : Nat} (h : sizeT P t = n + 1) : ∃ i, P.info? t = some i := by
 unfold sizeT at h
 cases hi : P.info? t with
 | none => rw [hi] at h; cases h
 | some i => exact ⟨i, rfl⟩
theorem denIndexAddr_ok {P : Program} {N : Nat} {bs : BS} {e : Env} {G : Grd} {a : Act} {t : TypeId} {x : E0} {io : Operand} {u : Value} {K : E0 → Prop} (h : denIndexAddr P e G t x io K)
  (hf : Fits N bs e a) (hg : GT G a) (hx : e0Ok bs x u) : Ev P bs (Instr.indexAt t u (a.eval io)) K := by
 unfold denIndexAddr at h
 split at h
 ·rename_i n el hu
  split at h
  ·exact h.elim
  ·rename_i sz hs
   obtain ⟨inf, hi⟩ := info_of_size hs
   have run : ∀ b o k (i : Int), u = .pointer (some ⟨b, o, none⟩) → a.eval io = .int k i → 0 ≤ i ∧ i < n → ∀ g, ro P (Instr.indexAt t u (a.eval io)) g = some (.pointer (some ⟨b, o + i.toNat * sizeT P el, none⟩)) := fun b o k i e1 e2 e3 g => by
    rw [e1, e2]
    simp [Instr.indexAt, asIntOf, Instr.sureAddr, ro_bind, ro_map, ro_underlying, ro_sizeOf, hu, hi, e3, addr_add, sizeT_of hi]
   split at h
   ·rename_i i hli
    obtain ⟨k, hk⟩ := litI_ok (a := a) hli
    split at h
    ·rename_i hb
     have hb := of_decide_eq_true hb
     split at h
     ·obtain ⟨hx, _⟩ := hx
      rw [adr_eq] at h
      exact .val h rfl (run _ _ _ _ hx hk hb)
     ·obtain ⟨b, T, hbb, hx⟩ := hx
      rw [adr_eq] at h
      exact .of h ⟨b, T, hbb, rfl⟩ (run _ _ _ _ hx hk hb)
     ·exact h.elim
    ·exact h.elim
   ·split at h
    ·rename_i k i ho
     have hk := opv_int ho hf hg
     split at h
     ·obtain ⟨hx, _⟩ := hx
      exact .val h.2 rfl (run _ _ _ _ hx hk (imp_of h.1 hg))
     ·obtain ⟨b, T, hbb, hx⟩ := hx
      exact .of h.2 ⟨b, T, hbb, rfl⟩ (run _ _ _ _ hx hk (imp_of h.1 hg))
     ·exact h.elim
    ·exact h.elim
 ·rename_i el hu
  split at h
  ·exact h.elim
  ·rename_i sz hs
   obtain ⟨inf, hi⟩ := info_of_size hs
   split at h
   ·rename_i sa n c k i ho
    obtain ⟨b, o, hb, hk⟩ := h
    obtain ⟨e1, e2⟩ := imp_of hb hg
    obtain ⟨hx, _⟩ := hx
    have he := opv_int ho hf hg
    subst hx e1
    refine .val hk rfl fun g => ?_
    rw [he]
    simp [Instr.indexAt, asIntOf, ro_bind, ro_map, ro_underlying, ro_sizeOf, hu, hi, e2, addr_add, sizeT_of hi]
   ·exact h.elim
 ·exact h.elim
theorem denIndex_ok {P : Program} {N : Nat} {bs : BS} {e : Env} {G : Grd} {a : Act} {t : TypeId} {x : E0} {io : Operand} {u : Value} {K : E0 → Prop} (h : denIndex P e G t x io K)
  (hf : Fits N bs e a) (hg : GT G a) (hx : e0Ok bs x u) : Ev P bs (Instr.index t u (a.eval io)) K := by
 unfold denIndex at h
 split at h
 ·rename_i s hu
  split at h
  ·rename_i k i ho
   obtain ⟨hx, _⟩ := hx
   have he := opv_int ho hf hg
   have hb := imp_of h.1 hg
   refine .val h.2 rfl fun g => ?_
   rw [he, hx]
   have hlt : i.toNat < s.size := by omega
   have hby : s[i.toNat]? = some s[i.toNat] := getElem?_pos s i.toNat hlt
   have hval : byteAt s i = (s[i.toNat].toNat : Int) := by
    unfold byteAt bys
    have hd : i.toNat < s.data.toList.length := hlt
    rw [List.getD_eq_getElem?_getD, List.getElem?_eq_getElem hd]
    rfl
   simp [Instr.index, asIntOf, ro_bind, ro_pure, ro_underlying, hu, hb.1, hby, hval]
  ·exact h.elim
 ·rename_i n el cs hu
  obtain ⟨hc, rfl⟩ := hx
  split at h
  ·rename_i i hli
   obtain ⟨k, hk⟩ := litI_ok (a := a) hli
   split at h
   ·rename_i m hb hs
    have hb := of_decide_eq_true hb
    obtain ⟨inf, hi⟩ := info_of_size hs
    split at h
    ·rename_i r hr
     split at h
     ·rename_i y hy
      obtain ⟨v, hv, key⟩ := ro_part_toE (bs := bs) hr hy hc
      refine .of h hv fun g => ?_
      rw [hk]
      have := key g
      rw [sizeT_of hi] at this
      simp [Instr.index, asIntOf, ro_bind, ro_underlying, hu, hb, ro_sizeOf, hi, this]
     ·exact h.elim
    ·exact h.elim
   ·exact h.elim
  ·split at h
   ·rename_i k i kk m l dd ho hs ha hd
    obtain ⟨inf, hi⟩ := info_of_size hs
    have he := opv_int ho hf hg
    have hb := imp_of h.1 hg
    refine .val h.2 rfl fun g => ?_
    rw [he]
    have hl := hc.1
    have hp := ro_part (g := g) el (flat [.ints kk m l]).toArray (i.toNat * inf.size) _ inf hd hi
    rw [ha, if_neg (by simp)] at hp
    have hsz : inf.size = 1 := by rw [← sizeT_of hi, hs]
    have hlt : i.toNat < l.length := by omega
    have hcell : (flat [.ints kk m l]).toArray[i.toNat * inf.size]? = some (.int kk (l.getD i.toNat 0)) := by
     simp [flat, hsz, hlt]
    rw [hcell] at hp
    simp [Instr.index, asIntOf, ro_bind, ro_underlying, hu, hb, ro_sizeOf, hi, hp]
   ·exact h.elim
 ·exact h.elim
end TL

namespace TL
open Go
theorem bnd_ok {N : Nat} {bs : BS} {e : Env} {G : Grd} {a : Act} {d : Int} {o : Option Operand} {K : Int → Prop} (h : bnd G e d o K) (hf : Fits N bs e a) (hg : GT G a) :
  ∃ n, K n ∧ ((o = none ∧ n = d) ∨ ∃ x k, o = some x ∧ a.eval x = .int k n) := by
 unfold bnd at h
 split at h
 ·exact ⟨d, h, .inl ⟨rfl, rfl⟩⟩
 ·rename_i x
  split at h
  ·rename_i k n ho
   exact ⟨n, h, .inr ⟨x, k, rfl, opv_int ho hf hg⟩⟩
  ·exact h.elim
theorem ro_bound {P : Program} {g : PH} {k : IntKind} {i : Int} {y : Nat} {c : BoundsCode} (h : 0 ≤ i ∧ i ≤ y) : ro P (Instr.sliceBound (.int k i) y c) g = some i.toNat := by
 simp [Instr.sliceBound, asIntOf, ro_pure, h]
theorem ro_bounds {P : Program} {g : PH} {s : Bool} {n c : Nat} {a : Act} {lo hi mx : Option Operand} {l r m : Int} (h0 : 0 ≤ l) (h1 : l ≤ r) (h2 : r ≤ m) (h3 : m ≤ c)
  (el : (lo = none ∧ l = 0) ∨ ∃ x k, lo = some x ∧ a.eval x = .int k l) (er : (hi = none ∧ r = n) ∨ ∃ x k, hi = some x ∧ a.eval x = .int k r)
  (em : (mx = none ∧ m = c) ∨ ∃ x k, mx = some x ∧ a.eval x = .int k m) (h4 : sl3 hi mx = true) :
  ro P (Instr.sliceBounds s n c (lo.map a.eval) (hi.map a.eval) (mx.map a.eval)) g = some (l.toNat, r.toNat, m.toNat) := by
 unfold Instr.sliceBounds
 rcases em with ⟨rfl, rfl⟩ | ⟨xm, km, rfl, em⟩
 ·rcases er with ⟨rfl, rfl⟩ | ⟨xr, kr, rfl, er⟩
  ·rcases el with ⟨rfl, rfl⟩ | ⟨xl, kl, rfl, el⟩
   ·simp [ro_pure]
   ·have := ro_bound (P := P) (g := g) (k := kl) (c := .sliceB) (i := l) (y := n) ⟨h0, by omega⟩
    simp [el, this, ro_map]
  ·have hr := ro_bound (P := P) (g := g) (k := kr) (c := if s = true then .sliceAcap else .sliceAlen) (i := r) (y := c) ⟨by omega, by omega⟩
   rcases el with ⟨rfl, rfl⟩ | ⟨xl, kl, rfl, el⟩
   ·simp [er, hr, ro_map]
   ·have := ro_bound (P := P) (g := g) (k := kl) (c := .sliceB) (i := l) (y := r.toNat) ⟨h0, by omega⟩
    simp [ro_bind, el, er, hr, this, ro_map]
 ·have hm := ro_bound (P := P) (g := g) (k := km) (c := if s = true then .slice3Acap else .slice3Alen) (i := m) (y := c) ⟨by omega, by omega⟩
  rcases er with ⟨rfl, rfl⟩ | ⟨xr, kr, rfl, er⟩
  ·simp [sl3] at h4
  ·have hr := ro_bound (P := P) (g := g) (k := kr) (c := .slice3B) (i := r) (y := m.toNat) ⟨by omega, by omega⟩
   rcases el with ⟨rfl, rfl⟩ | ⟨xl, kl, rfl, el⟩
   ·simp [ro_bind, er, em, hm, hr, ro_map]
   ·have := ro_bound (P := P) (g := g) (k := kl) (c := .slice3C) (i := l) (y := r.toNat) ⟨h0, by omega⟩
    simp [ro_bind, el, er, em, hm, hr, this, ro_map]
theorem denSlice_ok {P : Program} {N : Nat} {bs : BS} {e : Env} {G : Grd} {a : Act} {t : TypeId} {x : E0} {lo hi mx : Option Operand} {u : Value} {K : E0 → Prop} (h : denSlice P e G t x lo hi mx K)
  (hf : Fits N bs e a) (hg : GT G a) (hx : e0Ok bs x u) : Ev P bs (Instr.sliceAt t u (lo.map a.eval) (hi.map a.eval) (mx.map a.eval)) K := by
 unfold denSlice at h
 split at h
 ·rename_i s hu
  obtain ⟨rfl, _⟩ := hx
  split at h
  ·exact h.elim
  ·obtain ⟨l, h, el⟩ := bnd_ok h hf hg
   obtain ⟨r, h, er⟩ := bnd_ok h hf hg
   obtain ⟨h0, h1, h2⟩ := imp_of h.1 hg
   refine .val h.2 rfl fun g => ?_
   have hb := ro_bounds (P := P) (g := g) (s := false) (n := s.size) (c := s.size) (m := s.size) (mx := none) h0 h1 h2 (Int.le_refl _) el er (.inl ⟨rfl, rfl⟩) (by cases hi <;> rfl)
   simp only [Option.map_none] at hb ⊢
   simp [Instr.sliceAt, Instr.slice, ro_bind, ro_map, ro_underlying, hu, hb, subS]
 ·rename_i el' sa n c hu
  obtain ⟨rfl, _⟩ := hx
  split at h
  ·rename_i sz hs h4
   obtain ⟨inf, hi'⟩ := info_of_size hs
   obtain ⟨l, h, el⟩ := bnd_ok h hf hg
   obtain ⟨r, h, er⟩ := bnd_ok h hf hg
   obtain ⟨m, h, em⟩ := bnd_ok h hf hg
   obtain ⟨h0, h1, h2, h3⟩ := imp_of h.1 hg
   refine .val h.2 rfl fun g => ?_
   have hb := ro_bounds (P := P) (g := g) (s := true) h0 h1 h2 h3 el er em h4
   simp [Instr.sliceAt, Instr.slice, ro_bind, ro_map, ro_underlying, ro_sizeOf, hi', hu, hb, slA, sizeT_of hi']
  ·exact h.elim
 ·rename_i n el' b o hu
  obtain ⟨rfl, _⟩ := hx
  split at h
  ·rename_i sz hs h4
   obtain ⟨inf, hi'⟩ := info_of_size hs
   obtain ⟨l, h, el⟩ := bnd_ok h hf hg
   obtain ⟨r, h, er⟩ := bnd_ok h hf hg
   obtain ⟨m, h, em⟩ := bnd_ok h hf hg
   obtain ⟨h0, h1, h2, h3⟩ := imp_of h.1 hg
   refine .val h.2 rfl fun g => ?_
   have hb := ro_bounds (P := P) (g := g) (s := false) h0 h1 h2 h3 el er em h4
   simp [Instr.sliceAt, Instr.sureAddr, ro_bind, ro_map, ro_underlying, ro_sizeOf, hi', hu, hb, slA, sizeT_of hi']
   split <;> rfl
  ·exact h.elim
 ·exact h.elim
theorem denLen_ok {P : Program} {bs : BS} {t ty : TypeId} {x : E0} {u : Value} {K : E0 → Prop} (h : denLen P t x K) (hx : e0Ok bs x u) : Ev P bs (Builtin.len_ #[t] ty #[u]) K := by
 unfold denLen at h
 split at h
 ·rename_i s hu
  obtain ⟨rfl, _⟩ := hx
  exact .val h rfl fun g => by simp [Builtin.len_, ro_bind, ro_pure, ro_underlying, hu, goInt]
 ·rename_i el a n c hu
  obtain ⟨rfl, _⟩ := hx
  exact .val h rfl fun g => by simp [Builtin.len_, ro_bind, ro_pure, ro_underlying, hu, goInt]
 ·rename_i n el hu
  exact .val h rfl fun g => by simp [Builtin.len_, ro_bind, ro_pure, ro_underlying, hu, goInt]
 ·exact h.elim
theorem denCap_ok {P : Program} {bs : BS} {t ty : TypeId} {x : E0} {u : Value} {K : E0 → Prop} (h : denCap P t x K) (hx : e0Ok bs x u) : Ev P bs (Builtin.cap_ #[t] ty #[u]) K := by
 unfold denCap at h
 split at h
 ·rename_i el a n c hu
  obtain ⟨rfl, _⟩ := hx
  exact .val h rfl fun g => by simp [Builtin.cap_, ro_bind, ro_pure, ro_underlying, hu, goInt]
 ·exact h.elim
theorem denMin_ok {P : Program} {bs : BS} {ts : Array TypeId} {ty : TypeId} {xs : List E0} {us : List Value} {K : E0 → Prop} (h : denMM minV xs K) (hx : e0sOk bs xs us) : Ev P bs (Builtin.min_ ts ty us.toArray) K := by
 unfold denMM at h
 split at h
 ·split at h
  ·rename_i hk
   have := kEq_eq hk; subst this
   match us, hx with
   | [u, v], ⟨⟨hu, _⟩, ⟨hv, _⟩, _⟩ =>
    subst hu hv
    exact .val h rfl fun g => by simp [Builtin.min_, Builtin.min2, ro_pure, minV]
  ·exact h.elim
 ·exact h.elim
theorem denMax_ok {P : Program} {bs : BS} {ts : Array TypeId} {ty : TypeId} {xs : List E0} {us : List Value} {K : E0 → Prop} (h : denMM maxV xs K) (hx : e0sOk bs xs us) : Ev P bs (Builtin.max_ ts ty us.toArray) K := by
 unfold denMM at h
 split at h
 ·split at h
  ·rename_i hk
   have := kEq_eq hk; subst this
   match us, hx with
   | [u, v], ⟨⟨hu, _⟩, ⟨hv, _⟩, _⟩ =>
    subst hu hv
    exact .val h rfl fun g => by simp [Builtin.max_, Builtin.max2, ro_pure, maxV]
  ·exact h.elim
 ·exact h.elim
end TL

namespace TL
open Go
theorem zeros_ok {k : IntKind} : ∀ {n : Nat} {vs r : List Value}, zeros k n vs = some r → vs = (List.replicate n 0).map (Value.int k) ++ r
 | 0, vs, r, h => by simp [zeros] at h; subst h; rfl
 | n + 1, [], r, h => by simp [zeros] at h
 | n + 1, v :: vs, r, h => by
  cases v with
  | int k' z =>
   simp only [zeros] at h
   split at h
   ·rename_i hk hz
    have := kEq_eq hk; subst this
    have hz := of_decide_eq_true hz
    have := zeros_ok h
    rw [this, hz]; simp [List.replicate_succ]
   ·cases h
  | _ => simp [zeros] at h
theorem shapeZ_ok : ∀ {ts : List TCh} {vs : List Value} {cs : List Ch}, shapeZ ts vs = some cs → flat cs = vs ∧ chOk cs
 | [], vs, cs, h => by
  cases vs with
  | nil => simp [shapeZ] at h; subst h; exact ⟨rfl, trivial⟩
  | cons v vs => simp [shapeZ] at h
 | .one t :: r, [], cs, h => by simp [shapeZ] at h
 | .one t :: r, v :: vs, cs, h => by
  simp only [shapeZ] at h
  split at h
  ·rename_i cs' h1 h2
   simp at h; subst h
   obtain ⟨e1, e2⟩ := shapeZ_ok h2
   exact ⟨by simp [flat, e1], h1, e2⟩
  ·cases h
 | .ints k n :: r, vs, cs, h => by
  simp only [shapeZ] at h
  split at h
  ·rename_i vs' h1
   split at h
   ·rename_i cs' h2
    simp at h; subst h
    obtain ⟨e1, e2⟩ := shapeZ_ok h2
    exact ⟨by simp only [flat, e1]; exact (zeros_ok h1).symm, by simp, e2⟩
   ·cases h
  ·cases h
 | .raw n :: r, vs, cs, h => by
  simp only [shapeZ] at h
  split at h
  ·rename_i cs' h1 h2 h3
   simp at h; subst h
   obtain ⟨e1, e2⟩ := shapeZ_ok h3
   have hl := Nat.le_of_ble_eq_true h1
   exact ⟨by simp [flat, e1], by simp; omega, fun v hv => List.all_eq_true.1 h2 v hv, e2⟩
  ·cases h
theorem zeroE_ok {P : Program} {t : TypeId} {cs : List Ch} (h : zeroE P t = some cs) : ∃ i z, P.info? t = some i ∧ i.zero = some z ∧ z.cells = (flat cs).toArray ∧ chOk cs ∧ chN cs = i.size := by
 unfold zeroE at h
 split at h
 ·rename_i i hi
  split at h
  ·rename_i z hz
   split at h
   ·rename_i hs
    obtain ⟨e1, e2⟩ := shapeZ_ok h
    refine ⟨i, z, hi, hz, by rw [e1], e2, ?_⟩
    rw [← chN_flat e2, e1]
    simpa using Nat.eq_of_beq_eq_true hs
   ·cases h
  ·cases h
 ·cases h
theorem ro_zeroValue {P : Program} {g : PH} {t : TypeId} {i : TypeInfo} {z : Value} (hi : P.info? t = some i) (hz : i.zero = some z) : ro P (zeroValue t) g = some z := by
 unfold zeroValue; rw [ro_bind, ro_typeInfo, hi]; simp only [Option.bind_some, hz]; rfl
theorem lay_eq : ∀ (l : List Value) (j : Nat) (cs : Array Value) (off : Nat), off + j + l.length ≤ cs.size →
  ((l.zipIdx j).foldl (fun cs x => cs.setIfInBounds (off + x.2) x.1) cs).toList = cs.toList.take (off + j) ++ l ++ cs.toList.drop (off + j + l.length)
 | [], j, cs, off, h => by simp
 | v :: l, j, cs, off, h => by
  simp only [List.length_cons] at h
  rw [List.zipIdx_cons, List.foldl_cons, lay_eq l (j + 1) _ off (by simp; omega)]
  simp only [Array.toList_setIfInBounds, List.length_cons]
  have e1 : (cs.toList.set (off + j) v).take (off + (j + 1)) = cs.toList.take (off + j) ++ [v] := by
   rw [set_as_splice _ _ _ (by simp; omega)]
   rw [List.take_append_of_le_length (by simp; omega)]
   rw [List.take_of_length_le (by simp; omega)]
  have e2 : (cs.toList.set (off + j) v).drop (off + (j + 1) + l.length) = cs.toList.drop (off + j + (l.length + 1)) := by
   rw [List.drop_set_of_lt (by omega)]
   congr 1; omega
  rw [e1, e2]; simp
theorem fillE_ok {N : Nat} {bs : BS} {e : Env} {a : Act} {place : Nat → Option (Nat × Nat)} (hf : Fits N bs e a) : ∀ {ps : List (Nat × Operand)} {cs r : List Ch}, fillE e place ps cs = some r → chOk cs →
  Instr.fill place (flat cs).toArray (ps.map fun p => (p.1, a.eval p.2)) = some (flat r).toArray ∧ chOk r ∧ chN r = chN cs
 | [], cs, r, h, hc => by simp [fillE] at h; subst h; exact ⟨rfl, hc, rfl⟩
 | (i, x) :: ps, cs, r, h, hc => by
  simp only [fillE] at h
  split at h
  ·rename_i y off size h1 h2
   split at h
   ·rename_i new h3
    split at h
    ·rename_i cs' h4 h5
     obtain ⟨hn, hcell⟩ := chsOf_ok h3 (opv_ok h1 hf trivial)
     obtain ⟨e1, e2, e3, e4⟩ := chSet_ok h5 hc hn
     obtain ⟨f1, f2, f3⟩ := fillE_ok hf h e2
     have hsz := Nat.eq_of_beq_eq_true h4
     have hlen := chN_flat hn
     have hlc := chN_flat hc
     refine ⟨?_, f2, f3.trans e3⟩
     simp only [List.map_cons, Instr.fill, h2]
     have c1 : (a.eval x).cells.size = size := by rw [hcell]; simp [hlen, hsz]
     rw [if_neg (by simp [c1, hlc]; omega)]
     rw [← f1]
     congr 1
     apply Array.toList_inj.1
     rw [hcell, ← Array.foldl_toList]
     have hz : ((flat new).toArray.zipIdx).toList = (flat new).zipIdx 0 := by simp
     rw [hz]
     have := lay_eq (flat new) 0 (flat cs).toArray off (by simp [hlen, hlc]; omega)
     simp only [Nat.add_zero] at this
     rw [this, e1, hlen]
    ·cases h
   ·cases h
  ·cases h
theorem ro_places {P : Program} {g : PH} : ∀ (fs : List Field), (fs.all fun f => (P.info? f.type).isSome) = true →
  ro P (fs.mapM (m := Sem) fun f => do pure (f.offset, ← Go.sizeOf f.type)) g = some (fs.map fun f => (f.offset, sizeT P f.type))
 | [], _ => rfl
 | f :: fs, h => by
  simp only [List.all_cons, Bool.and_eq_true] at h
  obtain ⟨i, hi⟩ := Option.isSome_iff_exists.1 h.1
  rw [List.mapM_cons, ro_bind, ro_bind, ro_sizeOf, hi, Option.map_some, Option.bind_some, ro_pure, Option.bind_some, ro_bind, ro_places fs h.2, Option.bind_some, ro_pure]
  simp [sizeT_of hi]
theorem buildE_ok {P : Program} {N : Nat} {bs : BS} {e : Env} {a : Act} {t : TypeId} {ps : List (Nat × Operand)} {cs : List Ch} (h : buildE P e t ps = some cs) (hf : Fits N bs e a) :
  chOk cs ∧ ∀ g, ro P (Instr.build t (ps.map fun p => (p.1, a.eval p.2)).toArray) g = some (.agg (flat cs).toArray) := by
 unfold buildE at h
 split at h
 ·rename_i z fs hz hu
  split at h
  ·rename_i hall
   obtain ⟨i, zv, hi, hzv, hcz, hok, _⟩ := zeroE_ok hz
   obtain ⟨e1, e2, _⟩ := fillE_ok hf h hok
   refine ⟨e2, fun g => ?_⟩
   unfold Instr.build
   rw [ro_bind, ro_zeroValue hi hzv, Option.bind_some]
   simp only []
   rw [ro_bind, ro_underlying, hu, Option.bind_some]
   simp only []
   rw [Array.mapM_eq_mapM_toList, ro_bind, ro_map, ro_places fs.toList hall, Option.map_some, Option.bind_some]
   have hp : (fun j => ((fs.toList.map fun f => (f.offset, sizeT P f.type)).toArray[j]? : Option (Nat × Nat))) = fieldPl P fs := by
    funext j
    unfold fieldPl
    cases hj : fs[j]? <;> simp [hj]
   rw [hcz]
   simp only [hp, e1]
   rfl
  ·cases h
 ·rename_i z n el hz hu
  split at h
  ·rename_i inf hinf
   obtain ⟨i, zv, hi, hzv, hcz, hok, _⟩ := zeroE_ok hz
   obtain ⟨e1, e2, _⟩ := fillE_ok hf h hok
   refine ⟨e2, fun g => ?_⟩
   unfold Instr.build
   rw [ro_bind, ro_zeroValue hi hzv, Option.bind_some]
   simp only []
   rw [ro_bind, ro_underlying, hu, Option.bind_some]
   simp only []
   rw [ro_bind, ro_sizeOf, hinf, Option.map_some, Option.bind_some, hcz]
   simp only [e1]
   rfl
  ·cases h
 ·cases h
end TL

namespace TL
open Go
def rsOk (bs : BS) : Rs → Value → Prop
 | .one x, v => e0Ok bs x v
 | .tup xs, v => ∃ vs, v = .tuple vs.toArray ∧ e0sOk bs xs vs
 | .skip, _ => False
def Yv (P : Program) (bs : BS) (s : Sem Next) (K : Rs → Prop) : Prop := ∃ r v, (∀ g, ro P s g = some (.value v)) ∧ rsOk bs r v ∧ K r
theorem Yv.ev {P : Program} {bs : BS} {s : Sem Value} {K : Rs → Prop} (h : Ev P bs s fun x => K (.one x)) : Yv P bs (do pure (Next.value (← s))) K := by
 obtain ⟨x, v, e1, e2, e3⟩ := h
 exact ⟨.one x, v, fun g => ro_v (e1 g), e2, e3⟩
theorem denPick_ok {P : Program} {N : Nat} {bs : BS} {e : Env} {G : Grd} {a : Act} {c x y : Operand} {bx : BX} {h : PH} {K : KK} (hh : denPick e G c x y bx h K) (hf : Fits N bs e a) (hg : GT G a) :
  Yv P bs (do pure (Next.value (if ← asBool (a.eval c) then a.eval x else a.eval y))) (fun r => K r none bx h) := by
 unfold denPick at hh
 have run : ∀ b g, a.eval c = .bool b → ro P (do pure (Next.value (if ← asBool (a.eval c) then a.eval x else a.eval y))) g = some (.value (if b = true then a.eval x else a.eval y)) := fun b g hb => by
  rw [hb]; rfl
 split at hh
 ·rename_i sc
  split at hh
  ·rename_i hs
   have hb : a.eval (.tmp sc) = .bool true := hf.get hs
   split at hh
   ·rename_i z hz
    exact ⟨.one z, _, fun g => run true g hb, opv_ok hz hf hg, hh⟩
   ·exact hh.elim
  ·rename_i hs
   have hb : a.eval (.tmp sc) = .bool false := hf.get hs
   split at hh
   ·rename_i z hz
    exact ⟨.one z, _, fun g => run false g hb, opv_ok hz hf hg, hh⟩
   ·exact hh.elim
  ·rename_i bc hs
   have hb : a.eval (.tmp sc) = .bool bc := (hf.get hs).1
   have hgt : ∀ w, bc = w → GT (some (sc, bc, w)) a := fun w hw => ⟨by subst hw; exact hb, hw⟩
   split at hh
   ·split at hh
    ·rename_i z hz
     refine ⟨.one _, _, fun g => run bc g hb, ?_, hh⟩
     cases bc with
     | true => have := (opv_ok hz hf (hgt true rfl)).1; rw [if_pos rfl, this]; exact ⟨rfl, rfl⟩
     | false => exact ⟨rfl, rfl⟩
    ·rename_i z hz
     refine ⟨.one _, _, fun g => run bc g hb, ?_, hh⟩
     cases bc with
     | true =>
      have : a.eval x = .bool z := opv_ok hz hf (hgt true rfl)
      rw [if_pos rfl, this]; exact ⟨rfl, rfl⟩
     | false => exact ⟨rfl, rfl⟩
    ·exact hh.elim
   ·split at hh
    ·split at hh
     ·rename_i z hz
      refine ⟨.one _, _, fun g => run bc g hb, ?_, hh⟩
      cases bc with
      | false => have := (opv_ok hz hf (hgt false rfl)).1; rw [if_neg (by simp), this]; exact ⟨rfl, rfl⟩
      | true => exact ⟨rfl, rfl⟩
     ·rename_i z hz
      refine ⟨.one _, _, fun g => run bc g hb, ?_, hh⟩
      cases bc with
      | false =>
       have : a.eval y = .bool z := opv_ok hz hf (hgt false rfl)
       rw [if_neg (by simp), this]; exact ⟨rfl, rfl⟩
      | true => exact ⟨rfl, rfl⟩
     ·exact hh.elim
    ·exact hh.elim
  ·exact hh.elim
 ·exact hh.elim
theorem e0sOk_get {bs : BS} : ∀ {xs : List E0} {vs : List Value} {i : Nat} {x : E0}, e0sOk bs xs vs → xs[i]? = some x → ∃ v, vs[i]? = some v ∧ e0Ok bs x v
 | [], vs, i, x, _, h => by simp at h
 | y :: r, [], i, x, ho, h => ho.elim
 | y :: r, v :: vs, 0, x, ho, h => by simp at h; subst h; exact ⟨v, rfl, ho.1⟩
 | y :: r, v :: vs, i + 1, x, ho, h => by
  simp only [List.getElem?_cons_succ] at h ⊢
  exact e0sOk_get ho.2 h
theorem denConv_pure {P : Program} {bs : BS} {s d : TypeId} {x : E0} {u : Value} {bx : BX} {h : PH} {K : KK} (hh : denConv P s d x bx h K) (hp : pureConv P s d = true) (hx : e0Ok bs x u) :
  Ev P bs (convert s d u) (fun y => K (.one y) none bx h) := by
 unfold pureConv at hp
 unfold denConv at hh
 split at hp
 ·rename_i k1 k2 h1 h2
  simp only [h1, h2] at hh
  split at hh
  ·rename_i heq1 heq2
   obtain ⟨rfl, _⟩ := hx
   simp only [Option.some.injEq, TypeDesc.int.injEq] at heq1 heq2
   subst heq2
   exact .val hh rfl fun g => by unfold convert; rw [ro_bind, ro_underlying, h1, Option.bind_some, ro_bind, ro_underlying, h2]; rfl
  all_goals first
   | exact hh.elim
   | (rename_i q1 q2; cases q1; done)
   | (rename_i q1 q2; cases q2; done)
 ·rename_i h1 h2
  simp only [h1, h2] at hh
  split at hh
  all_goals first
   | exact hh.elim
   | (rename_i q1 q2; cases q1; done)
   | (rename_i q1 q2; cases q2; done)
   | skip
  ·obtain ⟨rfl, _⟩ := hx
   exact .val hh rfl fun g => by unfold convert; rw [ro_bind, ro_underlying, h1, Option.bind_some, ro_bind, ro_underlying, h2]; rfl
 ·cases hp
theorem Yv.mk {P : Program} {bs : BS} {s : Sem Next} {K : Rs → Prop} {r : Rs} {v : Value} (h1 : K r) (h2 : rsOk bs r v) (h3 : ∀ g, ro P s g = some (.value v)) : Yv P bs s K := ⟨r, v, h3, h2, h1⟩
theorem denMove_ok {P : Program} {N : Nat} {bs : BS} {e : Env} {G : Grd} {a : Act} {x : Operand} {bx : BX} {h : PH} {K : KK} (hx : denMove e G x bx h K) (hf : Fits N bs e a) (hg : GT G a) :
  Yv P bs (pure (Next.value (a.eval x))) (fun r => K r none bx h) := by
 unfold denMove at hx
 split at hx
 ·rename_i s
  split at hx
  ·rename_i xs hs
   split at hx
   ·exact ⟨.tup xs, _, fun g => rfl, hf.get hs, hx⟩
   ·exact hx.elim
  ·split at hx
   ·rename_i v hv; exact ⟨.one v, _, fun g => rfl, opv_ok hv hf hg, hx⟩
   ·exact hx.elim
 ·split at hx
  ·rename_i v hv; exact ⟨.one v, _, fun g => rfl, opv_ok hv hf hg, hx⟩
  ·exact hx.elim
theorem map_toList_eval (a : Act) (xs : Array Operand) : xs.map a.eval = (xs.toList.map a.eval).toArray := by
 apply Array.toList_inj.1; simp
theorem calm_ok {P : Program} {N : Nat} {priv : List Nat} {bs : BS} {e : Env} {G : Grd} {a : Act} {o : Oper} {bx : BX} {h : PH} {K : KK} (hh : denStep P priv o G e bx h K) (hc : calm P o = true) (hl : isRd P o = false)
  (hf : Fits N bs e a) (hg : GT G a) : Yv P bs (execOp a.eval o) (fun r => K r none bx h) := by
 obtain ⟨dst, op, type, pos, after, guard⟩ := o
 cases op <;> simp only [denStep] at hh <;> try (simp [calm, lazyOk] at hc; done)
 case move x => exact denMove_ok hh hf hg
 case assign x => exact denMove_ok hh hf hg
 case pick c x y => exact denPick_ok hh hf hg
 case nilCheck x =>
  split at hh
  ·rename_i p hp
   obtain ⟨b, o, h1, h2⟩ := hh
   have h1 := imp_of h1 hg
   subst h1
   have := (opv_ok hp hf hg).1
   refine .mk h2 ⟨rfl, rfl⟩ fun g => ?_
   simp only [execOp, this]; rfl
  ·rename_i k n hp
   obtain ⟨b, T, hb, this⟩ := opv_ok hp hf hg
   refine .mk hh ⟨b, T, hb, rfl⟩ fun g => ?_
   simp only [execOp, this]; rfl
  ·exact hh.elim
 case binOp op xt x y yt =>
  split at hh
  ·rename_i p q hp hq
   exact .ev (denBin_ok hh (opv_ok hp hf hg) (opv_ok hq hf hg) hg)
  ·exact hh.elim
 case unOp op xt x =>
  split at hh
  ·rename_i p hp; exact .ev (denUn_ok hh (opv_ok hp hf hg))
  ·exact hh.elim
 case fieldAddr t x f =>
  split at hh
  ·rename_i p hp; exact .ev (denFieldAddr_ok hh (opv_ok hp hf hg))
  ·exact hh.elim
 case field t x f =>
  split at hh
  ·rename_i p hp; exact .ev (denField_ok hh (opv_ok hp hf hg))
  ·exact hh.elim
 case indexAddr t x i =>
  split at hh
  ·rename_i p hp; exact .ev (denIndexAddr_ok hh hf hg (opv_ok hp hf hg))
  ·exact hh.elim
 case index t x i =>
  split at hh
  ·rename_i p hp; exact .ev (denIndex_ok hh hf hg (opv_ok hp hf hg))
  ·exact hh.elim
 case slice t x lo hi mx =>
  split at hh
  ·rename_i p hp; exact .ev (denSlice_ok hh hf hg (opv_ok hp hf hg))
  ·exact hh.elim
 case extract x i =>
  split at hh
  ·rename_i s
   split at hh
   ·rename_i xs hs
    split at hh
    ·rename_i y hy
     obtain ⟨vs, hv, ho⟩ := hf.get hs
     obtain ⟨v, h1, h2⟩ := e0sOk_get ho hy
     refine .mk hh h2 fun g => ?_
     have : a.eval (.tmp s) = .tuple vs.toArray := hv
     refine ro_v ?_
     rw [this]
     simp [Instr.extract, h1, ro_pure]
    ·exact hh.elim
   ·exact hh.elim
  ·exact hh.elim
 case load t x => simp [isRd] at hl
 case lookup => simp [isRd] at hl
 case convert s d x =>
  have hs : strConv P s d = false := by simpa [isRd] using hl
  have hp : pureConv P s d = true := by simpa [calm, lazyOk, hs] using hc
  rw [hp] at hh
  split at hh
  ·split at hh
   ·rename_i p hp'
    exact .ev (denConv_pure hh hp (opv_ok hp' hf hg))
   ·exact hh.elim
  ·rename_i hx; cases hx
  ·rename_i hx; cases hx
 case build t ps =>
  split at hh
  ·split at hh
   ·rename_i cs hcs
    obtain ⟨h1, h2⟩ := buildE_ok hcs hf
    refine .mk hh ⟨h1, rfl⟩ fun g => ?_
    refine ro_v ?_
    have : (ps.map fun (i, x) => (i, a.eval x)) = (ps.toList.map fun p => (p.1, a.eval p.2)).toArray := by
     apply Array.toList_inj.1; simp
    rw [this]; exact h2 g
   ·exact hh.elim
  ·exact hh.elim
 case makeFunc fn first cap =>
  split at hh
  ·split at hh
   ·rename_i xs ys hx hy
    split at hh
    ·rename_i us vs hu hv
     refine .mk hh ⟨rfl, rfl⟩ fun g => ?_
     refine ro_v ?_
     rw [map_toList_eval, map_toList_eval, vals_ok hu (opvs_ok hx hf trivial), vals_ok hv (opvs_ok hy hf trivial)]
     rfl
    ·exact hh.elim
   ·exact hh.elim
  ·exact hh.elim
 case call c =>
  obtain ⟨callee, args, argTypes⟩ := c
  simp only [calm, lazyOk] at hc
  have bi : ∀ b, callee = .builtin b → ∀ g, ro P (execOp a.eval ⟨dst, .call ⟨callee, args, argTypes⟩, type, pos, after, guard⟩) g = ro P (builtin b argTypes type (args.map fun | .const _ => true | _ => false) (args.map a.eval)) g := fun b hb g => by
   subst hb; rfl
  split at hh
  ·rename_i hcal
   simp only at hcal
   have hm : mapT P argTypes.toList = false := by subst hcal; simpa [isRd] using hl
   rw [hm] at hh
   simp only at hh
   split at hh
   ·rename_i x t h1 h2
    have ho := opvs_ok h1 hf hg
    obtain ⟨x', v, e1, e2, e3⟩ := denLen_ok (ty := type) hh (u := (args.toList.map a.eval).headD undef) (by
     cases hq : args.toList.map a.eval with
     | nil => rw [hq] at ho; exact ho.elim
     | cons u us => rw [hq] at ho; exact ho.1)
    refine .mk e3 e2 fun g => ?_
    rw [bi _ hcal g]
    refine ro_v ?_
    have ha : args.map a.eval = #[(args.toList.map a.eval).headD undef] := by
     rw [map_toList_eval]
     cases hq : args.toList.map a.eval with
     | nil => rw [hq] at ho; exact ho.elim
     | cons u us =>
      cases us with
      | nil => rfl
      | cons _ _ => rw [hq] at ho; exact ho.2.elim
    have ht : argTypes = #[t] := by apply Array.toList_inj.1; exact h2
    rw [ha, ht]; exact e1 g
   ·exact hh.elim
  ·rename_i hcal
   simp only at hcal
   split at hh
   ·rename_i x t h1 h2
    have ho := opvs_ok h1 hf hg
    obtain ⟨x', v, e1, e2, e3⟩ := denCap_ok (ty := type) hh (u := (args.toList.map a.eval).headD undef) (by
     cases hq : args.toList.map a.eval with
     | nil => rw [hq] at ho; exact ho.elim
     | cons u us => rw [hq] at ho; exact ho.1)
    refine .mk e3 e2 fun g => ?_
    rw [bi _ hcal g]
    refine ro_v ?_
    have ha : args.map a.eval = #[(args.toList.map a.eval).headD undef] := by
     rw [map_toList_eval]
     cases hq : args.toList.map a.eval with
     | nil => rw [hq] at ho; exact ho.elim
     | cons u us =>
      cases us with
      | nil => rfl
      | cons _ _ => rw [hq] at ho; exact ho.2.elim
    have ht : argTypes = #[t] := by apply Array.toList_inj.1; exact h2
    rw [ha, ht]; exact e1 g
   ·exact hh.elim
  ·rename_i hcal
   simp only at hcal
   split at hh
   ·rename_i xs h1
    obtain ⟨x', v, e1, e2, e3⟩ := denMin_ok (ts := argTypes) (ty := type) hh (opvs_ok h1 hf hg)
    refine .mk e3 e2 fun g => ?_
    rw [bi _ hcal g, map_toList_eval]
    exact ro_v (e1 g)
   ·exact hh.elim
  ·rename_i hcal
   simp only at hcal
   split at hh
   ·rename_i xs h1
    obtain ⟨x', v, e1, e2, e3⟩ := denMax_ok (ts := argTypes) (ty := type) hh (opvs_ok h1 hf hg)
    refine .mk e3 e2 fun g => ?_
    rw [bi _ hcal g, map_toList_eval]
    exact ro_v (e1 g)
   ·exact hh.elim
  ·rename_i n1 n2 n3 n4
   exfalso
   revert hc
   cases callee with
   | builtin b => cases b <;> simp_all
   | _ => simp
end TL

namespace TL
open Go
structure Inv (bs : BS) (bx : BX) (h g : PH) : Prop where
 len : bs.length = bx.length
 nd : ∀ (i j b : Nat) (T : TypeId) (b' : Nat) (T' : TypeId), bs[i]? = some (b, T) → bs[j]? = some (b', T') → b = b' → i = j
 out : ∀ (k b : Nat) (T : TypeId), bs[k]? = some (b, T) → h b = none
 box : ∀ (k b : Nat) (T : TypeId) (c : List Ch), bs[k]? = some (b, T) → nthB bx k = some c → chOk c ∧ g b = some (.cells (flat c).toArray T (0, 0))
 off : ∀ x : Nat, (∀ (k b : Nat) (T : TypeId), bs[k]? = some (b, T) → x ≠ b) → g x = h x
theorem PH.Sub.refl (h : PH) : h.Sub h := fun _ _ e => e
theorem PH.Sub.trans {a b c : PH} (x : a.Sub b) (y : b.Sub c) : a.Sub c := fun p o e => y p o (x p o e)
theorem PH.Sub.new {h g : PH} (x : h.Sub g) {r : Nat} (hr : g r = none) (o : Obj) : h.Sub (g.upd r o) := fun b u e => by
 rw [PH.upd_old o hr (x b u e)]
theorem Inv.sub {bs : BS} {bx : BX} {h g : PH} (i : Inv bs bx h g) : h.Sub g := fun b o e => by
 rw [i.off b (fun k b' T hk hb => by subst hb; rw [i.out k b T hk] at e; cases e)]; exact e
theorem nthB_lt : ∀ {bx : BX} {k : Nat}, k < bx.length → ∃ c, nthB bx k = some c
 | c :: _, 0, _ => ⟨c, rfl⟩
 | _ :: r, k + 1, h => by
  obtain ⟨c, hc⟩ := nthB_lt (bx := r) (k := k) (by simpa using h)
  exact ⟨c, hc⟩
theorem nthB_some_lt : ∀ {bx : BX} {k : Nat} {c : List Ch}, nthB bx k = some c → k < bx.length
 | [], k, c, h => by cases k <;> simp [nthB] at h
 | _ :: _, 0, _, _ => by simp
 | _ :: r, k + 1, c, h => by
  have := nthB_some_lt (bx := r) (k := k) (c := c) h
  simp only [List.length_cons]; omega
theorem bs_lt {bs : BS} {k : Nat} {p : Nat × TypeId} (h : bs[k]? = some p) : k < bs.length := (List.getElem?_eq_some_iff.1 h).1
theorem Inv.at {bs : BS} {bx : BX} {h g : PH} (i : Inv bs bx h g) {k : Nat} {c : List Ch} (hc : nthB bx k = some c) : ∃ b T, bs[k]? = some (b, T) ∧ chOk c ∧ g b = some (.cells (flat c).toArray T (0, 0)) := by
 have hk : k < bs.length := by rw [i.len]; exact nthB_some_lt hc
 obtain ⟨⟨b, T⟩, hb⟩ : ∃ p, bs[k]? = some p := ⟨bs[k], List.getElem?_eq_getElem hk⟩
 exact ⟨b, T, hb, i.box k b T c hb hc⟩
theorem rds_some {g : PH} {b o n : Nat} {vs : List Value} (h : g.rds b o n = some vs) : ∃ c T fr, g b = some (.cells c T fr) ∧ o + n ≤ c.size ∧ vs = (c.toList.drop o).take n := by
 unfold PH.rds at h
 split at h
 ·rename_i c T fr hb
  split at h
  ·rename_i hle
   simp at h; exact ⟨c, _, _, hb, hle, h.symm⟩
  ·cases h
 ·cases h
theorem rds_sub {h g : PH} (hs : h.Sub g) {b o n : Nat} {vs : List Value} (e : h.rds b o n = some vs) : g.rds b o n = some vs := by
 obtain ⟨c, T, fr, hb, hle, rfl⟩ := rds_some e
 unfold PH.rds
 rw [hs _ _ hb]; simp [hle]
theorem rds_len {g : PH} {b o n : Nat} {vs : List Value} (h : g.rds b o n = some vs) : vs.length = n := by
 obtain ⟨c, T, fr, hb, hle, rfl⟩ := rds_some h
 simp; omega
theorem ro_load {P : Program} {g : PH} {b o : Nat} {c : Array Value} {T : TypeId} {fr : Nat × Nat} {v : Value} (hb : g b = some (.cells c T fr)) (hv : c[o]? = some v) : ro P (load ⟨b, o, none⟩) g = some v := by
 show ro P (.load _ _ _) g = _
 simp [ro, hb, hv]
theorem ro_loadCellsFrom {P : Program} {g : PH} {b o : Nat} {c : Array Value} {T : TypeId} {fr : Nat × Nat} (hb : g b = some (.cells c T fr)) : ∀ (n i : Nat) (acc : Array Value), o + i + n ≤ c.size →
  ro P (loadCellsFrom ⟨b, o, none⟩ i n acc) g = some (acc ++ ((c.toList.drop (o + i)).take n).toArray)
 | 0, i, acc, _ => by simp [loadCellsFrom, ro_pure]
 | n + 1, i, acc, h => by
  have hlt : o + i < c.size := by omega
  rw [loadCellsFrom, ro_bind, addr_add, ro_load hb (Array.getElem?_eq_getElem hlt), Option.bind_some, ro_loadCellsFrom hb n (i + 1) _ (by omega)]
  congr 1
  apply Array.toList_inj.1
  have hd : c.toList.drop (o + i) = c[o + i] :: c.toList.drop (o + i + 1) := by
   rw [List.drop_eq_getElem_cons (by simpa using hlt)]; simp
  simp [hd, Nat.add_assoc]
theorem ro_loadCells {P : Program} {g : PH} {b o n : Nat} {vs : List Value} (h : g.rds b o n = some vs) : ro P (loadCells ⟨b, o, none⟩ n) g = some vs.toArray := by
 obtain ⟨c, T, fr, hb, hle, rfl⟩ := rds_some h
 have := ro_loadCellsFrom (P := P) (o := o) hb n 0 #[] (by omega)
 unfold loadCells
 rw [this]; simp
theorem ro_isAgg' {P : Program} {g : PH} {t : TypeId} {d : TypeDesc} (hd : P.underlying t = some d) : ro P (isAgg t) g = some (aggT P t) := by
 rw [ro_isAgg, hd, aggT_of hd]; cases d <;> rfl
theorem ro_loadVar {P : Program} {bs : BS} {t : TypeId} {b o : Nat} {cs : List Ch} {x : E0} (hx : toE P t cs = some x) (hc : chOk cs) :
  ∃ v, e0Ok bs x v ∧ ∀ g, PH.rds g b o (sizeT P t) = some (flat cs) → ro P (loadVar t ⟨b, o, none⟩) g = some v := by
 obtain ⟨v, hv, ⟨d, hd⟩, h3, h4⟩ := toE_ok (bs := bs) hx hc
 obtain ⟨i, hi⟩ := info_of_underlying hd
 refine ⟨v, hv, fun g hr => ?_⟩
 unfold loadVar
 rw [ro_bind, ro_isAgg' hd, Option.bind_some]
 cases ha : aggT P t with
 | true =>
  rw [if_pos rfl, ro_bind, ro_sizeOf, hi, Option.map_some, Option.bind_some, ← sizeT_of hi, ro_bind, ro_loadCells hr, h3 ha]; rfl
 | false =>
  rw [if_neg (by simp)]
  have hl := rds_len hr
  rw [h4 ha] at hr hl
  obtain ⟨c, T, fr, hb, hle, hq⟩ := rds_some hr
  simp at hl
  rw [← hl] at hq hle
  refine ro_load hb ?_
  have hlt : o < c.size := by omega
  have hd' : c.toList.drop o = c[o] :: c.toList.drop (o + 1) := by
   rw [List.drop_eq_getElem_cons (by simpa using hlt)]; simp
  rw [hd'] at hq
  simp at hq
  rw [Array.getElem?_eq_getElem hlt, hq]
theorem exTy_ok {t : Ty} {K : Value → Prop} (h : exTy t K) : ∃ v, one1 v = true ∧ K v := by
 cases t <;> simp only [exTy] at h
 case slice => obtain ⟨a, n, c, h⟩ := h; exact ⟨_, rfl, h⟩
 case any => exact h
 case fn => exact h
 all_goals (obtain ⟨x, h⟩ := h; exact ⟨_, rfl, h⟩)
theorem exCh_ok : ∀ {ts : List TCh} {K : List Ch → Prop}, exCh ts K → ∃ cs, chOk cs ∧ K cs
 | [], K, h => ⟨[], trivial, h⟩
 | .one t :: r, K, h => by
  obtain ⟨v, hv, h⟩ := exTy_ok h
  obtain ⟨cs, hc, h⟩ := exCh_ok h
  exact ⟨.one v :: cs, ⟨hv, hc⟩, h⟩
 | .ints k n :: r, K, ⟨l, hl, h⟩ => by
  obtain ⟨cs, hc, h⟩ := exCh_ok h
  exact ⟨.ints k n l :: cs, ⟨hl, hc⟩, h⟩
 | .raw n :: r, K, ⟨l, hl, h⟩ => by
  obtain ⟨cs, hc, h⟩ := exCh_ok h
  exact ⟨.raw n l :: cs, ⟨hl.1, hl.2, hc⟩, h⟩
def CG (bs : BS) (bx : BX) (c : Cl) (g : PH) : Prop := match c with
 | .heap p => ∃ h, PH.Sub h g ∧ p h
 | .loc k off n => ∃ b T c0, bs[k]? = some (b, T) ∧ nthB bx k = some c0 ∧ g.rds b off n = some (((flat c0).drop off).take n)
theorem Inv.rds {bs : BS} {bx : BX} {h g : PH} (i : Inv bs bx h g) {k off n : Nat} {c : List Ch} (hc : nthB bx k = some c) (hle : off + n ≤ chN c) : CG bs bx (.loc k off n) g := by
 obtain ⟨b, T, hb, ho, hg⟩ := i.at hc
 refine ⟨b, T, c, hb, hc, ?_⟩
 unfold PH.rds
 rw [hg]
 have := chN_flat ho
 simp [this, hle]
theorem rowOf_get {k : IntKind} {n : Nat} {cs : List Ch} {l : List Int} {i : Nat} (h : rowOf k n cs = some l) (hn : chN cs = n) (ho : chOk cs) (hi : i < n) : (flat cs)[i]? = some (.int k (l.getD i 0)) := by
 obtain ⟨e1, e2⟩ := rowOf_ok h hn ho
 rw [e1]; simp [e2, hi]
def CR (bx : BX) (h : PH) : Cl → Prop
 | .heap p => p h
 | .loc k off n => ∃ c0, nthB bx k = some c0 ∧ off + n ≤ chN c0
theorem load_ok {P : Program} {N : Nat} {priv : List Nat} {bs : BS} {e : Env} {G : Grd} {a : Act} {o : Oper} {bx : BX} {h g : PH} {K : KK} (hh : denStep P priv o G e bx h K) (hl : isLoad o = true)
  (hf : Fits N bs e a) (hg : GT G a) (hi : Inv bs bx h g) : ∃ r c v, K r (some c) bx h ∧ rsOk bs r v ∧ CG bs bx c g ∧ CR bx h c ∧ ∀ g', CG bs bx c g' → ro P (execOp a.eval o) g' = some (.value v) := by
 obtain ⟨dst, op, type, pos, after, guard⟩ := o
 cases op <;> simp [isLoad] at hl
 rename_i t x
 simp only [denStep] at hh
 split at hh
 ·rename_i y hy
  have hv := opv_ok hy hf hg
  unfold denLoad at hh
  split at hh
  ·rename_i b o
   obtain ⟨cs, hc, hh⟩ := exCh_ok hh
   split at hh
   ·rename_i r hr
    obtain ⟨v, h1, h2⟩ := ro_loadVar (bs := bs) (b := b) (o := o) hr hc
    refine ⟨_, _, v, hh.2, h1, ⟨h, hi.sub, hh.1⟩, hh.1, ?_⟩
    rintro g' ⟨h', hs, hp⟩
    refine ro_v ?_
    rw [hv.1]
    show ro P (do loadVar t (← Instr.sureAddr _)) g' = _
    rw [ro_bind, show ro P (Instr.sureAddr (.pointer (some ⟨b, o, none⟩))) g' = some ⟨b, o, none⟩ from rfl, Option.bind_some]
    exact h2 g' (rds_sub hs (imp_of hp hg))
   ·exact hh.elim
  ·rename_i k o
   split at hh
   ·rename_i c hcb
    split at hh
    ·rename_i cs hcs
     split at hh
     ·rename_i r hr
      obtain ⟨b, T, hb, hco, _⟩ := hi.at hcb
      obtain ⟨e1, e2, e3, e4⟩ := chGet_ok hcs hco
      obtain ⟨v, h1, h2⟩ := ro_loadVar (bs := bs) (b := b) (o := o) hr e3
      refine ⟨_, _, v, hh, h1, hi.rds hcb e4, ⟨_, hcb, e4⟩, ?_⟩
      rintro g' ⟨b', T', c', hb', hc', hr'⟩
      rw [hb] at hb'; rw [hcb] at hc'
      cases hb'; cases hc'
      obtain ⟨b'', T'', hb'', hv⟩ := hv
      rw [hb] at hb''; cases hb''
      refine ro_v ?_
      rw [hv]
      show ro P (do loadVar t (← Instr.sureAddr _)) g' = _
      rw [ro_bind, show ro P (Instr.sureAddr (.pointer (some ⟨b, o, none⟩))) g' = some ⟨b, o, none⟩ from rfl, Option.bind_some]
      exact h2 g' (by rw [e1]; exact hr')
     ·exact hh.elim
    ·exact hh.elim
   ·exact hh.elim
  ·rename_i k o n i
   split at hh
   ·rename_i c kk hcb hu
    split at hh
    ·rename_i cs hcs
     split at hh
     ·rename_i l hrow
      have hin := imp_of hh.1 hg
      obtain ⟨b, T, hb, hco, _⟩ := hi.at hcb
      obtain ⟨e1, e2, e3, e4⟩ := chGet_ok hcs hco
      refine ⟨_, _, _, hh.2, ⟨rfl, rfl⟩, hi.rds hcb e4, ⟨_, hcb, e4⟩, ?_⟩
      rintro g' ⟨b', T', c', hb', hc', hr'⟩
      rw [hb] at hb'; rw [hcb] at hc'
      cases hb'; cases hc'
      obtain ⟨b'', T'', hb'', hv⟩ := hv
      rw [hb] at hb''; cases hb''
      refine ro_v ?_
      rw [hv]
      show ro P (do loadVar t (← Instr.sureAddr _)) g' = _
      rw [ro_bind, show ro P (Instr.sureAddr (.pointer (some ⟨b, o + i, none⟩))) g' = some ⟨b, o + i, none⟩ from rfl, Option.bind_some]
      unfold loadVar
      rw [ro_bind, ro_isAgg' hu, aggT_of hu, Option.bind_some, if_neg (by simp [aggD])]
      obtain ⟨cc, T', fr, hgb, hle, hq⟩ := rds_some hr'
      refine ro_load hgb ?_
      have hget := rowOf_get hrow e2 e3 hin
      rw [e1, hq] at hget
      simpa [List.getElem?_take, hin] using hget
     ·exact hh.elim
    ·exact hh.elim
   ·exact hh.elim
  ·exact hh.elim
 ·exact hh.elim
end TL

namespace TL
open Go
theorem PH.upd_upd (h : PH) (b : Nat) (x y : Obj) : (h.upd b x).upd b y = h.upd b y := by
 funext z; unfold PH.upd; split <;> rfl
theorem PH.upd_self {h : PH} {b : Nat} {o : Obj} (e : h b = some o) : h.upd b o = h := by
 funext z; unfold PH.upd; split
 ·rename_i hz; subst hz; exact e.symm
 ·rfl
theorem Inv.newHeap {bs : BS} {bx : BX} {h g : PH} (i : Inv bs bx h g) {r : Nat} (hr : g r = none) (o : Obj) : Inv bs bx (h.upd r o) (g.upd r o) := by
 have nb : ∀ k b T, bs[k]? = some (b, T) → b ≠ r := fun k b T hk hb => by
  obtain ⟨c, hc⟩ := nthB_lt (bx := bx) (k := k) (by rw [← i.len]; exact bs_lt hk)
  have := (i.box k b T c hk hc).2
  rw [hb, hr] at this; cases this
 refine ⟨i.len, i.nd, fun k b T hk => ?_, fun k b T c hk hc => ⟨(i.box k b T c hk hc).1, ?_⟩, fun x hx => ?_⟩
 ·rw [PH.upd_ne _ _ (nb k b T hk)]; exact i.out k b T hk
 ·rw [PH.upd_ne _ _ (nb k b T hk)]; exact (i.box k b T c hk hc).2
 ·unfold PH.upd; split
  ·rfl
  ·exact i.off x hx
theorem Inv.setHeap {bs : BS} {bx : BX} {h g : PH} (i : Inv bs bx h g) {r : Nat} {o0 : Obj} (hr : h r = some o0) (o : Obj) : Inv bs bx (h.upd r o) (g.upd r o) := by
 have nb : ∀ k b T, bs[k]? = some (b, T) → b ≠ r := fun k b T hk hb => by
  have := i.out k b T hk
  rw [hb, hr] at this; cases this
 refine ⟨i.len, i.nd, fun k b T hk => ?_, fun k b T c hk hc => ⟨(i.box k b T c hk hc).1, ?_⟩, fun x hx => ?_⟩
 ·rw [PH.upd_ne _ _ (nb k b T hk)]; exact i.out k b T hk
 ·rw [PH.upd_ne _ _ (nb k b T hk)]; exact (i.box k b T c hk hc).2
 ·unfold PH.upd; split
  ·rfl
  ·exact i.off x hx
theorem nthB_append : ∀ {bx : BX} {k : Nat} {c d : List Ch}, nthB (bx ++ [d]) k = some c → (k < bx.length ∧ nthB bx k = some c) ∨ (k = bx.length ∧ c = d)
 | [], 0, c, d, h => by simp [nthB] at h; exact .inr ⟨rfl, h.symm⟩
 | [], k + 1, c, d, h => by simp [nthB] at h
 | x :: r, 0, c, d, h => by simp [nthB] at h; exact .inl ⟨by simp, by simp [nthB, h]⟩
 | x :: r, k + 1, c, d, h => by
  rcases nthB_append (bx := r) (k := k) (c := c) (d := d) h with ⟨h1, h2⟩ | ⟨h1, h2⟩
  ·exact .inl ⟨by simp; omega, h2⟩
  ·exact .inr ⟨by simp [h1], h2⟩
theorem nthB_append_l : ∀ {bx : BX} {k : Nat} (l : BX), k < bx.length → nthB (bx ++ l) k = nthB bx k
 | x :: r, 0, l, _ => rfl
 | x :: r, k + 1, l, h => nthB_append_l (bx := r) l (by simpa using h)
theorem Inv.newBox {bs : BS} {bx : BX} {h g : PH} (i : Inv bs bx h g) {r : Nat} (hr : g r = none) (T : TypeId) {cs : List Ch} (hc : chOk cs) :
  Inv (bs ++ [(r, T)]) (bx ++ [cs]) h (g.upd r (.cells (flat cs).toArray T (0, 0))) := by
 have nb : ∀ k b T, bs[k]? = some (b, T) → b ≠ r := fun k b T hk hb => by
  obtain ⟨c, hc⟩ := nthB_lt (bx := bx) (k := k) (by rw [← i.len]; exact bs_lt hk)
  have := (i.box k b T c hk hc).2
  rw [hb, hr] at this; cases this
 have part : ∀ k b T', (bs ++ [(r, T)])[k]? = some (b, T') → (k < bs.length ∧ bs[k]? = some (b, T')) ∨ (k = bs.length ∧ b = r ∧ T' = T) := fun k b T' hk => by
  rcases Nat.lt_trichotomy k bs.length with hl | hl | hl
  ·rw [List.getElem?_append_left hl] at hk; exact .inl ⟨hl, hk⟩
  ·subst hl; simp at hk; exact .inr ⟨rfl, hk.1.symm, hk.2.symm⟩
  ·have : (bs ++ [(r, T)])[k]? = none := List.getElem?_eq_none (by simp; omega)
   rw [this] at hk; cases hk
 refine ⟨by simp [i.len], fun k j b T1 b' T2 hk hj e => ?_, fun k b T' hk => ?_, fun k b T' c hk hc' => ?_, fun x hx => ?_⟩
 ·rcases part _ _ _ hk with ⟨h1, h2⟩ | ⟨h1, h2, _⟩ <;> rcases part _ _ _ hj with ⟨h3, h4⟩ | ⟨h3, h4, _⟩
  ·exact i.nd _ _ _ _ _ _ h2 h4 e
  ·exact absurd (e.trans h4) (nb _ _ _ h2)
  ·exact absurd (e.symm.trans h2) (nb _ _ _ h4)
  ·omega
 ·rcases part _ _ _ hk with ⟨h1, h2⟩ | ⟨h1, h2, _⟩
  ·exact i.out _ _ _ h2
  ·subst h2
   cases hh : h b with
   | none => rfl
   | some o => rw [i.sub _ _ hh] at hr; cases hr
 ·rcases part _ _ _ hk with ⟨h1, h2⟩ | ⟨h1, h2, h3⟩
  ·rcases nthB_append hc' with ⟨h4, h5⟩ | ⟨h4, _⟩
   ·obtain ⟨e1, e2⟩ := i.box _ _ _ _ h2 h5
    exact ⟨e1, by rw [PH.upd_ne _ _ (nb _ _ _ h2)]; exact e2⟩
   ·rw [i.len] at h1; omega
  ·subst h2 h3
   rcases nthB_append hc' with ⟨h4, h5⟩ | ⟨h4, h5⟩
   ·rw [i.len] at h1; omega
   ·subst h5; exact ⟨hc, PH.upd_same _ _ _⟩
 ·have hx1 : x ≠ r := hx bs.length r T (by simp)
  rw [PH.upd_ne _ _ hx1]
  exact i.off x fun k b T' hk => hx k b T' (by rw [List.getElem?_append_left (bs_lt hk)]; exact hk)
theorem nthB_setB : ∀ {bx : BX} {k j : Nat} {c : List Ch}, nthB (setB bx k c) j = if j = k ∧ k < bx.length then some c else nthB bx j
 | [], k, j, c => by cases j <;> simp [setB, nthB]
 | x :: r, 0, 0, c => by simp [setB, nthB]
 | x :: r, 0, j + 1, c => by simp [setB, nthB]
 | x :: r, k + 1, 0, c => by simp [setB, nthB]
 | x :: r, k + 1, j + 1, c => by
  have := nthB_setB (bx := r) (k := k) (j := j) (c := c)
  simp only [setB, nthB, this, List.length_cons]
  by_cases e : j = k ∧ k < r.length
  ·rw [if_pos e, if_pos (by omega)]
  ·rw [if_neg e, if_neg (by omega)]
theorem setB_len : ∀ {bx : BX} {k : Nat} {c : List Ch}, (setB bx k c).length = bx.length
 | [], _, _ => rfl
 | _ :: _, 0, _ => rfl
 | _ :: r, k + 1, c => by simp [setB, setB_len (bx := r)]
theorem Inv.setBox {bs : BS} {bx : BX} {h g : PH} (i : Inv bs bx h g) {k b : Nat} {T : TypeId} (hk : bs[k]? = some (b, T)) {c : List Ch} (hc : chOk c) : Inv bs (setB bx k c) h (g.upd b (.cells (flat c).toArray T (0, 0))) := by
 have hkl : k < bx.length := by rw [← i.len]; exact bs_lt hk
 refine ⟨by rw [setB_len]; exact i.len, i.nd, i.out, fun j b' T' d hj hd => ?_, fun x hx => ?_⟩
 ·rw [nthB_setB] at hd
  split at hd
  ·rename_i e
   obtain ⟨rfl, _⟩ := e
   rw [hk] at hj; cases hj
   simp at hd; subst hd
   exact ⟨hc, PH.upd_same _ _ _⟩
  ·rename_i e
   obtain ⟨e1, e2⟩ := i.box j b' T' d hj hd
   refine ⟨e1, ?_⟩
   rw [PH.upd_ne _ _ (fun hb => e ⟨i.nd j k b' T' b T hj hk hb, hkl⟩)]
   exact e2
 ·rw [PH.upd_ne _ _ (hx k b T hk)]
  exact i.off x hx
section
variable {P : Program} {g : PH}
theorem hp_new {o : Obj} {Q : Nat → PH → Prop} (h : ∀ r, g r = none → Q r (g.upd r o)) : hp P (newObj o) Q g := h
theorem hp_newVar {t : TypeId} {v : Value} {Q : Addr → PH → Prop} (h : ∀ r, g r = none → Q ⟨r, 0, none⟩ (g.upd r (.cells v.cells t (0, 0)))) : hp P (newVar t v) Q g := by
 unfold newVar newRow
 rw [hp_bind]
 exact hp_new fun r hr => h r hr
theorem hp_newRow {t : TypeId} {c : Array Value} {Q : Addr → PH → Prop} (h : ∀ r, g r = none → Q ⟨r, 0, none⟩ (g.upd r (.cells c t (0, 0)))) : hp P (newRow t c) Q g := by
 unfold newRow
 rw [hp_bind]
 exact hp_new fun r hr => h r hr
end
theorem splice_nil (c : Array Value) (o : Nat) : splice c o [] = c := by
 apply Array.toList_inj.1; simp [splice]
theorem splice_cons {c : Array Value} {o : Nat} {v : Value} {vs : List Value} (h : o + (vs.length + 1) ≤ c.size) : splice (c.setIfInBounds o v) (o + 1) vs = splice c o (v :: vs) := by
 apply Array.toList_inj.1
 have h1 : o < c.toList.length := by simp; omega
 simp only [splice, Array.toList_setIfInBounds, List.length_cons]
 have e1 : (c.toList.set o v).take (o + 1) = c.toList.take o ++ [v] := by
  rw [set_as_splice _ _ _ h1]
  rw [List.take_append_of_le_length (by simp; omega)]
  rw [List.take_of_length_le (by simp; omega)]
 have e2 : (c.toList.set o v).drop (o + 1 + vs.length) = c.toList.drop (o + (vs.length + 1)) := by
  rw [List.drop_set_of_lt (by omega)]
  congr 1; omega
 rw [e1, e2]; simp
theorem hp_storeCells {P : Program} {b o : Nat} {T : TypeId} {fr : Nat × Nat} {Q : Unit → PH → Prop} : ∀ (vs : List Value) (i : Nat) (g : PH) (c : Array Value), g b = some (.cells c T fr) → Unfr c fr →
  o + i + vs.length ≤ c.size → (∀ v ∈ vs, one1 v = true) → Q () (g.upd b (.cells (splice c (o + i) vs) T fr)) → hp P (storeCells ⟨b, o, none⟩ vs i) Q g
 | [], i, g, c, hb, hu, hl, h1, hq => by
  rw [splice_nil, PH.upd_self hb] at hq; exact hq
 | v :: vs, i, g, c, hb, hu, hl, h1, hq => by
  simp only [List.length_cons] at hl
  rw [storeCells, hp_bind, addr_add]
  show hp P (.store _ _ _ _) _ g
  refine ⟨rfl, h1 v List.mem_cons_self, c, T, fr, hb, by show o + i < c.size; omega, hu, ?_⟩
  refine hp_storeCells vs (i + 1) _ _ (PH.upd_same _ _ _) ?_ (by simp; omega) (fun u hu => h1 u (List.mem_cons_of_mem _ hu)) ?_
  ·unfold Unfr at *; simpa using hu
  ·rw [PH.upd_upd]
   have := splice_cons (c := c) (o := o + i) (v := v) (vs := vs) (by omega)
   rw [show o + (i + 1) = o + i + 1 by omega, this]
   exact hq
theorem CallH.beside {P : Program} {f : FuncId} {vs : List Value} {Q : Value → PH → Prop} {bs : BS} {bx : BX} {h g : PH} (hc : CallH P f vs Q h) (i : Inv bs bx h g) :
  CallH P f vs (fun v g' => ∃ h', Q v h' ∧ Inv bs bx h' g') g := by
 intro w hw
 have hin : h.In w := fun b o e => hw b o (i.sub b o e)
 refine (hc w hin).mono ?_
 rintro e w' ⟨v, h', rfl, hq, hF⟩
 classical
 let g' : PH := fun x => match h' x with
  | some o => some o
  | none => if ∃ (k b : Nat) (T : TypeId), bs[k]? = some (b, T) ∧ x = b then g x else none
 have outs : ∀ k b T, bs[k]? = some (b, T) → h' b = none ∧ w'.heap[b]? = w.heap[b]? := fun k b T hk => by
  obtain ⟨c, hcb⟩ := nthB_lt (bx := bx) (k := k) (by rw [← i.len]; exact bs_lt hk)
  exact hF.old b (hw.lt (i.box k b T c hk hcb).2) (i.out k b T hk)
 have at_box : ∀ k b T, bs[k]? = some (b, T) → g' b = g b := fun k b T hk => by
  simp only [g', (outs k b T hk).1]
  rw [if_pos ⟨k, b, T, hk, rfl⟩]
 refine ⟨v, g', rfl, ⟨h', hq, i.len, i.nd, fun k b T hk => (outs k b T hk).1, fun k b T c hk hcb => ⟨(i.box k b T c hk hcb).1, ?_⟩, fun x hx => ?_⟩, fun b o e => ?_, hF.size, fun b hb e => ?_, hF.os, hF.out⟩
 ·rw [at_box k b T hk]; exact (i.box k b T c hk hcb).2
 ·simp only [g']
  cases h' x with
  | some o => rfl
  | none => rw [if_neg (fun ⟨k, b, T, hk, e⟩ => hx k b T hk e)]
 ·simp only [g'] at e
  cases hh : h' b with
  | some u => rw [hh] at e; simp at e; subst e; exact hF.inn b u hh
  | none =>
   rw [hh] at e
   simp only at e
   split at e
   ·rename_i hex
    obtain ⟨k, b', T, hk, rfl⟩ := hex
    rw [(outs k b T hk).2]; exact hw b o e
   ·cases e
 ·have hb' : h b = none := by
   cases hh : h b with
   | none => rfl
   | some o => rw [i.sub b o hh] at e; cases e
  obtain ⟨e1, e2⟩ := hF.old b hb hb'
  refine ⟨?_, e2⟩
  simp only [g', e1]
  split
  ·exact e
  ·rfl
end TL

namespace TL
open Go
def EffPost (o : Oper) (bs : BS) (bx : BX) (h _ : PH) (K : KK) (v : Value) (g' : PH) : Prop :=
 ∃ r c bs2 bx' h', K r c bx' h' ∧ Inv (bs ++ bs2) bx' h' g' ∧ (r = .skip ∨ rsOk (bs ++ bs2) r v) ∧
  (∀ k c0, nthB bx k = some c0 → (∀ off n, ¬ (r = .skip ∧ c = some (.loc k off n))) → nthB bx' k = some c0) ∧
  (∀ k off n, r = .skip → c = some (.loc k off n) → h' = h ∧ ∀ c0, nthB bx k = some c0 → ∃ c1, nthB bx' k = some c1 ∧ chN c1 = chN c0 ∧
   ∀ off' n', (off + n ≤ off' ∨ off' + n' ≤ off) → ((flat c1).drop off').take n' = ((flat c0).drop off').take n') ∧
  (grows o = true → h.Sub h')
theorem EffPost.heap {o : Oper} {bs : BS} {bx : BX} {h g : PH} {K : KK} {v : Value} {g' h' : PH} {r : Rs} (hk : K r none bx h') (i : Inv bs bx h' g') (hr : r = .skip ∨ rsOk bs r v) (hg : grows o = true → h.Sub h') :
  EffPost o bs bx h g K v g' :=
 ⟨r, none, [], bx, h', hk, by simpa using i, by simpa using hr, (fun _ _ e _ => e), (fun _ _ _ _ e => by cases e), hg⟩
theorem EffPost.box {o : Oper} {bs : BS} {bx : BX} {h g : PH} {K : KK} {v : Value} {r0 : Nat} {T : TypeId} {cs : List Ch} {r : Rs} (hk : K r none (bx ++ [cs]) h) (i : Inv bs bx h g) (hr0 : g r0 = none) (hc : chOk cs)
  (hr : rsOk (bs ++ [(r0, T)]) r v) : EffPost o bs bx h g K v (g.upd r0 (.cells (flat cs).toArray T (0, 0))) :=
 ⟨r, none, [(r0, T)], bx ++ [cs], h, hk, i.newBox hr0 T hc, .inr hr, (fun k c0 e _ => by rw [nthB_append_l _ (nthB_some_lt e)]; exact e), (fun _ _ _ _ e => by cases e),
  fun _ => PH.Sub.refl h⟩
theorem nx_v {P : Program} {Q : Value → PH → Prop} {s : Sem Value} {g : PH} (h : hp P s Q g) : hp P (do pure (Next.value (← s))) (nx P Q) g := by
 rw [hp_bind]; exact h
theorem nx_u {P : Program} {Q : Value → PH → Prop} {s : Sem Unit} {g : PH} (h : hp P s (fun _ => Q undef) g) : hp P (do s; pure Next.skip) (nx P Q) g := by
 rw [hp_bind]; exact h
theorem denNew_ok {priv : List Nat} {o : Oper} {T : TypeId} {cs : List Ch} {bs : BS} {bx : BX} {h g : PH} {K : KK} (hh : denNew priv o.dst T cs bx h K) (i : Inv bs bx h g) (hc : chOk cs) (r : Nat) (hr : g r = none) :
  EffPost o bs bx h g K (.pointer (some ⟨r, 0, none⟩)) (g.upd r (.cells (flat cs).toArray T (0, 0))) := by
 unfold denNew at hh
 split at hh
 ·split at hh
  ·refine .box hh i hr hc ⟨r, T, ?_, rfl⟩
   rw [← i.len]; simp
  ·have hr' : h r = none := by
    cases e : h r with
    | none => rfl
    | some o => rw [i.sub _ _ e] at hr; cases hr
   exact .heap (hh r hr') (i.newHeap hr _) (.inr ⟨rfl, rfl⟩) fun _ => (PH.Sub.refl h).new hr' _
 ·exact hh.elim
theorem denNewSl_ok {priv : List Nat} {o : Oper} {T : TypeId} {n : Nat} {cs : List Ch} {bs : BS} {bx : BX} {h g : PH} {K : KK} (hh : denNewSl priv o.dst T n cs bx h K) (i : Inv bs bx h g) (hc : chOk cs) (r : Nat) (hr : g r = none) :
  EffPost o bs bx h g K (.slice (some ⟨r, 0, none⟩) n n) (g.upd r (.cells (flat cs).toArray T (0, 0))) := by
 unfold denNewSl at hh
 split at hh
 ·split at hh
  ·refine .box hh i hr hc ⟨r, T, ?_, rfl⟩
   rw [← i.len]; simp
  ·have hr' : h r = none := by
    cases e : h r with
    | none => rfl
    | some o => rw [i.sub _ _ e] at hr; cases hr
   exact .heap (hh r hr') (i.newHeap hr _) (.inr ⟨rfl, rfl⟩) fun _ => (PH.Sub.refl h).new hr' _
 ·exact hh.elim
theorem catC_len : ∀ (n : Nat) (z : List Ch), (flat (catC n z)).length = n * (flat z).length
 | 0, z => by simp [catC, flat]
 | n + 1, z => by simp [catC, flat_append, catC_len n z, Nat.succ_mul, Nat.add_comm]
theorem catC_get (z : List Ch) : ∀ (n i : Nat), i < n * (flat z).length → (flat (catC n z))[i]? = (flat z)[i % (flat z).length]?
 | 0, i, h => by simp at h
 | n + 1, i, h => by
  rw [catC, flat_append]
  rcases Nat.lt_or_ge i (flat z).length with hl | hl
  ·rw [List.getElem?_append_left hl, Nat.mod_eq_of_lt hl]
  ·rw [List.getElem?_append_right hl, catC_get z n _ (by rw [Nat.succ_mul] at h; omega)]
   congr 1
   rw [Nat.mod_eq_sub_mod hl]
theorem catC_ok {z : List Ch} (hz : chOk z) : ∀ n, chOk (catC n z)
 | 0 => trivial
 | n + 1 => chOk_append.2 ⟨hz, catC_ok hz n⟩
theorem catC_cells {z : List Ch} (n : Nat) : (Array.range (n * (flat z).length)).map (fun i => (flat z).toArray[i % (flat z).toArray.size]!) = (flat (catC n z)).toArray := by
 apply Array.ext_getElem?
 intro i
 rcases Nat.lt_or_ge i (n * (flat z).length) with h | h
 ·have hp : 0 < (flat z).length := by
   rcases Nat.eq_zero_or_pos (flat z).length with h0 | h0
   ·rw [h0] at h; simp at h
   ·exact h0
  have hm := Nat.mod_lt i hp
  rw [show (flat (catC n z)).toArray[i]? = (flat (catC n z))[i]? from by simp, catC_get z n i h]
  simp [h, hm]
 ·rw [Array.getElem?_eq_none (by simpa using h), show (flat (catC n z)).toArray[i]? = (flat (catC n z))[i]? from by simp, List.getElem?_eq_none (by rw [catC_len]; exact h)]
theorem buildS_ok {P : Program} {N : Nat} {bs : BS} {e : Env} {a : Act} {el : TypeId} {n : Nat} {ps : List (Nat × Operand)} {cs : List Ch} (h : buildS P e el n ps = some cs) (hf : Fits N bs e a) :
  ∃ i z zc, P.info? el = some i ∧ i.zero = some z ∧ z.cells = (flat zc).toArray ∧ i.size = (flat zc).length ∧ chOk cs ∧
   Instr.fill (fun j => some (j * i.size, i.size)) (flat (catC n zc)).toArray (ps.map fun p => (p.1, a.eval p.2)) = some (flat cs).toArray := by
 unfold buildS at h
 split at h
 ·rename_i zc i hz hi
  obtain ⟨i', z, hi', hzv, hcz, hok, hn⟩ := zeroE_ok hz
  rw [hi] at hi'; cases hi'
  obtain ⟨e1, e2, _⟩ := fillE_ok hf h (catC_ok hok n)
  exact ⟨_, z, zc, hi, hzv, hcz, by rw [chN_flat hok, hn], e2, e1⟩
 ·cases h
theorem hp_buildSlice {P : Program} {t el : TypeId} {n : Nat} {i : TypeInfo} {z : Value} {zc cs : List Ch} {ps : List (Nat × Value)} {g : PH} {Q : Value → PH → Prop} (hu : P.underlying t = some (.slice el)) (hi : P.info? el = some i) (hz : i.zero = some z)
  (hzc : z.cells = (flat zc).toArray) (hs : i.size = (flat zc).length) (hle : n * i.size ≤ 16777216) (hfill : Instr.fill (fun j => some (j * i.size, i.size)) (flat (catC n zc)).toArray ps = some (flat cs).toArray)
  (hq : ∀ r, g r = none → Q (.slice (some ⟨r, 0, none⟩) n n) (g.upd r (.cells (flat cs).toArray el (0, 0)))) : hp P (Instr.buildSlice t n ps.toArray) Q g := by
 unfold Instr.buildSlice
 rw [hp_bind]
 refine ro_hp (by rw [ro_underlying, hu]) ?_
 simp only []
 rw [hp_bind]
 refine ro_hp (by rw [ro_sizeOf, hi]; rfl) ?_
 simp only []
 rw [if_neg (by omega)]
 by_cases h0 : n * i.size = 0
 ·rw [if_pos h0, hp_bind]
  refine ro_hp (ro_pure _) ?_
  have hl := catC_len n zc
  rw [← hs, h0] at hl
  rw [List.eq_nil_of_length_eq_zero hl] at hfill
  have hz0 : ∀ f : Nat → Value, (Array.range 0).map f = #[] := fun f => by simp
  simp only [h0, hz0, hfill]
  rw [hp_bind]
  exact hp_newRow hq
 ·rw [if_neg h0, hp_bind]
  refine ro_hp (ro_zeroValue hi hz) ?_
  rw [hp_bind]
  refine ro_hp (ro_pure _) ?_
  have hcc := catC_cells (z := zc) n
  rw [← hs] at hcc
  simp only [hzc, hcc, hfill]
  rw [hp_bind]
  exact hp_newRow hq
theorem hp_storeVar {P : Program} {t : TypeId} {b o : Nat} {v : Value} {cs : List Ch} {c : Array Value} {T : TypeId} {fr : Nat × Nat} {g : PH} {Q : Unit → PH → Prop} {i : TypeInfo} (hi : P.info? t = some i) (hv : v.cells = (flat cs).toArray) (hc : chOk cs) (hn : chN cs = i.size)
  (hb : g b = some (.cells c T fr)) (hu : Unfr c fr) (hl : o + chN cs ≤ c.size) (hq : Q () (g.upd b (.cells (splice c o (flat cs)) T fr))) : hp P (Instr.storeAt t (.pointer (some ⟨b, o, none⟩)) v) Q g := by
 unfold Instr.storeAt
 rw [hp_bind]
 show hp P (storeVar t ⟨b, o, none⟩ v) Q g
 unfold storeVar
 rw [hp_bind]
 refine ro_hp (by rw [ro_sizeOf, hi]; rfl) ?_
 have hlen := chN_flat hc
 rw [if_neg (by rw [hv]; simp [hlen, hn]), hv]
 exact hp_storeCells (flat cs) 0 g c hb hu (by rw [hlen]; omega) (flat_one1 hc) hq
theorem splice_lit {l : List Value} {o : Nat} {vs : List Value} : splice l.toArray o vs = (l.take o ++ vs ++ l.drop (o + vs.length)).toArray := rfl
theorem range_keep {l l' vs : List Value} {off : Nat} (h : l' = l.take off ++ vs ++ l.drop (off + vs.length)) (hl : off + vs.length ≤ l.length) (off' n' : Nat) (hd : off + vs.length ≤ off' ∨ off' + n' ≤ off) : (l'.drop off').take n' = (l.drop off').take n' := by
 apply List.ext_getElem?
 intro j
 simp only [List.getElem?_take, List.getElem?_drop]
 split
 ·rename_i hj
  rw [h]
  rcases hd with hd | hd
  ·rw [List.getElem?_append_right (by simp; omega), List.getElem?_drop]
   congr 1
   simp; omega
  ·rw [List.append_assoc, List.getElem?_append_left (by simp; omega), List.getElem?_take_of_lt (by omega)]
 ·rfl
end TL

namespace TL
open Go
theorem callF_body {P : Program} {n : FuncId} {args : Array Value} {g : PH} (h : hasBody P n = true) : ro P (callFunc n args) g = some (.enter n args) := by
 unfold hasBody at h
 split at h
 ·rename_i fn hf
  split at h
  ·rename_i b hb
   unfold callFunc
   rw [ro_bind, ro_program, Option.bind_some]
   simp only [hf]
   have hn : (fn.name == "runtime.NumGoroutine") = false := by simpa using h
   rw [hn]
   simp [hb, ro_pure]
  ·cases h
 ·cases h
theorem exRes_ok {P : Program} {bs : BS} : ∀ {ts : List TypeId} {K : List E0 → List Value → Prop}, exRes P ts K → ∃ xs vs, e0sOk bs xs vs ∧ K xs vs
 | [], K, h => ⟨[], [], trivial, h⟩
 | t :: r, K, h => by
  simp only [exRes] at h
  obtain ⟨cs, hc, h⟩ := exCh_ok h
  split at h
  ·rename_i x hx
   split at h
   ·rename_i v hv
    obtain ⟨u, hu, _⟩ := toE_ok (bs := bs) hx hc
    have := val_ok hv hu
    subst this
    obtain ⟨xs, vs, h1, h2⟩ := exRes_ok h
    exact ⟨x :: xs, u :: vs, ⟨hu, h1⟩, h2⟩
   ·exact h.elim
  ·exact h.elim
theorem callK_ok {P : Program} {bs : BS} {ts : List TypeId} {bx : BX} {K : KK} {v : Value} {h : PH} (hh : callK P ts bx K v h) : ∃ r, (r = .skip ∨ rsOk bs r v) ∧ K r none bx h := by
 unfold callK at hh
 split at hh
 ·exact ⟨.skip, .inl rfl, hh⟩
 ·obtain ⟨cs, hc, hh⟩ := exCh_ok hh
  split at hh
  ·rename_i x hx
   split at hh
   ·rename_i u hu
    obtain ⟨hv, hk⟩ := hh
    obtain ⟨w, hw, _⟩ := toE_ok (bs := bs) hx hc
    have := val_ok hu hw
    subst this hv
    exact ⟨.one x, .inr hw, hk⟩
   ·exact hh.elim
  ·exact hh.elim
 ·obtain ⟨xs, vs, h1, rfl, h2⟩ := exRes_ok (bs := bs) hh
  exact ⟨.tup xs, .inr ⟨vs, rfl, h1⟩, h2⟩
theorem CallH.mono {P : Program} {f : FuncId} {vs : List Value} {K K' : Value → PH → Prop} {h : PH} (hc : CallH P f vs K h) (hk : ∀ v h', K v h' → K' v h') : CallH P f vs K' h :=
 fun w hw => (hc w hw).mono fun _ _ ⟨v, h', e, k, f⟩ => ⟨v, h', e, hk v h' k, f⟩
theorem call_post {P : Program} {o : Oper} {bs : BS} {bx : BX} {h g : PH} {K : KK} {t : TypeId} {n : FuncId} {vs : List Value} (hg : grows o = false) (hh : CallH P n vs (callK P (resT P t) bx K) h) (i : Inv bs bx h g) :
  CallH P n vs (EffPost o bs bx h g K) g :=
 (CallH.beside hh i).mono fun v g' ⟨h', hk, i'⟩ => by
  obtain ⟨r, hr, hk⟩ := callK_ok (bs := bs) hk
  exact .heap hk i' hr (by rw [hg]; intro h; cases h)
theorem stH_hp {P : Program} {bs : BS} {bx : BX} {h g : PH} {b o : Nat} {vs : List Value} {K : PH → Prop} {Q : Unit → PH → Prop} (hh : stH h b o vs K) (i : Inv bs bx h g) (h1 : ∀ v ∈ vs, one1 v = true)
  (hq : ∀ h' g', K h' → Inv bs bx h' g' → Q () g') : hp P (storeCells ⟨b, o, none⟩ vs) Q g := by
 obtain ⟨c, T, fr, hb, hu, hl, hk⟩ := hh
 exact hp_storeCells vs 0 g c (i.sub _ _ hb) hu (by simpa using hl) h1 (hq _ _ hk (i.setHeap hb _))
theorem srcH_ro {P : Program} {h g : PH} {a : Option Addr} {n c sz m : Nat} {vs : List Value} (hs : srcH h a (m * sz) vs) (hsub : h.Sub g) (hn : a = none → m * sz = 0) : ro P (Builtin.firstCells sz m (.slice a n c)) g = some vs.toArray := by
 obtain ⟨hl, _, hs⟩ := hs
 cases a with
 | none =>
  have : vs = [] := List.eq_nil_of_length_eq_zero (by rw [hl, hn rfl])
  subst this; rfl
 | some a =>
  rcases hs with h0 | ⟨b, o, he, hr⟩
  ·have hv : vs = [] := List.eq_nil_of_length_eq_zero (by rw [hl, h0])
   subst hv
   show ro P (loadCells a (m * sz)) g = _
   rw [h0]; rfl
  ·cases he
   exact ro_loadCells (rds_sub hsub hr)
theorem srcH_one {h : PH} {a : Option Addr} {n : Nat} {vs : List Value} (hs : srcH h a n vs) : a = none → n = 0 := fun e => by
 subst e
 rcases hs.2.2 with h0 | ⟨b, o, he, _⟩
 ·exact h0
 ·cases he
theorem flat_ones : ∀ z : List Value, flat (z.map Ch.one) = z
 | [] => rfl
 | y :: r => by simp [flat, flat_ones r]
theorem toList_zeroCells (z : List Value) (n : Nat) : Builtin.zeroCells z.toArray n = (List.replicate n z).flatten.toArray := by
 have key := catC_cells (z := z.map .one) n
 rw [flat_ones] at key
 unfold Builtin.zeroCells
 have hc : ∀ n, flat (catC n (z.map Ch.one)) = (List.replicate n z).flatten := by
  intro n
  induction n with
  | zero => rfl
  | succ n ih => rw [catC, flat_append, flat_ones, ih, List.replicate_succ, List.flatten_cons]
 rw [hc] at key
 simpa using key
theorem appOk_ok {P : Program} {t : TypeId} (h : appOk P t = true) : ∃ i z, P.info? t = some i ∧ i.zero = some z ∧ z.cells = (zeroVs P t).toArray ∧ (zeroVs P t).length = i.size ∧ sizeT P t = i.size ∧ bytesT P t = i.bytes ∧ 0 < i.size ∧ 0 < i.bytes ∧ ∀ v ∈ zeroVs P t, one1 v = true := by
 unfold appOk at h
 split at h
 ·rename_i bt sz h1 h2 h3
  obtain ⟨i, hi⟩ := info_of_size h3
  have hs := sizeT_of hi
  have hb : bytesT P t = i.bytes := by unfold bytesT; rw [hi]
  unfold hasZero at h1
  rw [hi] at h1
  simp only at h1
  split at h1
  ·rename_i z hz
   have hzv : zeroVs P t = z.cells.toList := by unfold zeroVs; rw [hi]; simp [hz]
   refine ⟨i, z, hi, hz, by rw [hzv], by rw [hzv]; simpa using Nat.eq_of_beq_eq_true h1, hs, hb, by omega, by omega, List.all_eq_true.1 h⟩
  ·cases h1
 ·cases h
theorem hp_append {P : Program} {bs : BS} {bx : BX} {h g : PH} {t t2 ty el : TypeId} {d2 : TypeDesc} {x : Value} {a : Option Addr} {n c m : Nat} {vs : List Value} {K : Option Addr → Nat → Nat → PH → Prop} {Q : Value → PH → Prop}
    (hu : P.underlying t = some (.slice el)) (hok : appOk P el = true) (hu2 : P.underlying t2 = some d2) (hd2 : ∀ k, d2 ≠ .int k) (hlen : ro P (Builtin.lenOf x) g = some m)
    (hsrc : ∀ g', g.Sub g' → ro P (Builtin.firstCells (sizeT P el) m x) g' = some vs.toArray) (h1 : ∀ v ∈ vs, one1 v = true) (i : Inv bs bx h g)
    (hh : appH el (sizeT P el) (bytesT P el) (zeroVs P el) a n c m vs K h) (hq : ∀ a' n' c' h' g', K a' n' c' h' → Inv bs bx h' g' → Q (.slice a' n' c') g') :
    hp P (Builtin.append_ #[t, t2] ty #[.slice a n c, x]) Q g := by
  obtain ⟨inf, z, hi, hz, hzc, hzl, hs, hb, hs0, hb0, hz1⟩ := appOk_ok hok
  obtain ⟨hvl, hfit, hgrow⟩ := hh
  unfold Builtin.append_
  simp only [List.getElem?_toArray, List.getElem?_cons_zero, List.getElem?_cons_succ]
  rw [hp_bind]
  refine ro_hp (by rw [ro_underlying, hu]) ?_
  simp only []
  rw [hp_bind]
  refine ro_hp (by rw [ro_sizeOf, hi]; rfl) ?_
  rw [hp_bind]
  refine ro_hp (by rw [ro_underlying, hu2]) ?_
  rw [hp_bind]
  refine ro_hp (ro_pure _) ?_
  have hm : (match d2 with | .int _ => true | _ => false) = false := by cases d2 <;> first | rfl | exact absurd rfl (hd2 _)
  simp only [Bool.false_eq_true, if_false, Bool.not_false, if_true, false_or]
  rw [hp_bind]
  refine ro_hp hlen ?_
  rw [← hs]
  by_cases hle : n + m ≤ c
  · rw [if_pos hle, hp_bind]
    refine ro_hp (hsrc g (PH.Sub.refl g)) ?_
    obtain ⟨f1, f2⟩ := hfit hle
    by_cases h0 : m * sizeT P el = 0
    · have hv : vs = [] := List.eq_nil_of_length_eq_zero (by rw [hvl, h0])
      subst hv
      have hk := hq _ _ _ _ _ (f1 h0) i
      cases a with
      | none => exact hk
      | some a => exact hk
    · obtain ⟨b, o, rfl, hst⟩ := f2 h0
      simp only []
      rw [hp_bind, addr_add]
      exact stH_hp hst i h1 fun h' g' hk i' => hq _ _ _ _ _ hk i'
  · rw [if_neg hle]
    obtain ⟨hbd, olds, hold, hnew⟩ := hgrow (by omega)
    have hbd' : (n + m) * inf.bytes ≤ 140737488355328 := by rw [← hb]; exact hbd
    rw [hp_bind]
    refine ro_hp (by rw [ro_typeInfo, hi]) ?_
    rw [if_neg (by omega), hp_bind]
    refine ro_hp (by rw [ro_typeInfo, hi]) ?_
    have hfits := growslice_fits (need := n + m) (old := c) (bytes := inf.bytes) (by omega) hbd'
    rw [if_neg (by have : (2 : Nat) ^ 48 = 281474976710656 := by decide
                   omega), hp_bind]
    show hp P (.choose _ _) _ g
    simp only [hp, Question.forced, Bool.false_eq_true, if_false]
    intro tp
    have hcap1 : n + m ≤ (Question.appendCap (n + m) c el).cut tp := by simp [Question.cut]
    have hsm : n + m < 2 ^ 63 := by
      have : n + m ≤ (n + m) * inf.bytes := Nat.le_mul_of_pos_right _ hb0
      have : (2 : Nat) ^ 63 = 9223372036854775808 := by decide
      omega
    have hcap2 : (Question.appendCap (n + m) c el).cut tp ≤ 9223372036854775807 := by
      have := Nat.mod_lt tp (show 0 < 2 ^ 63 - (n + m) by omega)
      have e : (2 : Nat) ^ 63 = 9223372036854775808 := by decide
      simp only [Question.cut]
      omega
    generalize (Question.appendCap (n + m) c el).cut tp = c' at hcap1 hcap2 ⊢
    rw [hp_bind]
    refine ro_hp (by rw [ro_typeInfo, hi]) ?_
    rw [hp_bind]
    have hask : ro P (askRoom (c' * inf.bytes)) g = some () := by unfold askRoom; split <;> rfl
    refine ro_hp hask ?_
    rw [hp_bind]
    refine ro_hp (srcH_ro (c := c) hold i.sub (srcH_one hold)) ?_
    rw [hp_bind]
    refine ro_hp (hsrc g (PH.Sub.refl g)) ?_
    rw [hp_bind]
    refine ro_hp (ro_zeroValue hi hz) ?_
    rw [hp_bind]
    refine hp_newRow fun r hr => ?_
    have hr' : h r = none := by
      cases e : h r with
      | none => rfl
      | some o => rw [i.sub _ _ e] at hr; cases hr
    have hk := hnew c' hcap1 hcap2 r hr'
    have e : (olds.toArray ++ vs.toArray ++ Builtin.zeroCells z.cells (c' - (n + m)) : Array Value) = (olds ++ (vs ++ (List.replicate (c' - (n + m)) (zeroVs P el)).flatten)).toArray := by
      rw [hzc, toList_zeroCells]; simp
    show Q _ _
    rw [e]
    exact hq _ _ _ _ _ hk (i.newHeap hr _)
theorem hp_append0 {P : Program} {bs : BS} {bx : BX} {h g : PH} {t t2 ty el : TypeId} {k2 : IntKind} {a : Option Addr} {n c : Nat} {m : Int} {K : Option Addr → Nat → Nat → PH → Prop} {Q : Value → PH → Prop}
    (hu : P.underlying t = some (.slice el)) (hok : appOk P el = true) (hu2 : P.underlying t2 = some (.int k2)) (hm0 : 0 ≤ m) (hm1 : m * ((bytesT P el : Nat) : Int) ≤ 140737488355328) (i : Inv bs bx h g)
    (hh : appH el (sizeT P el) (bytesT P el) (zeroVs P el) a n c m.toNat (List.replicate m.toNat (zeroVs P el)).flatten K h) (hq : ∀ a' n' c' h' g', K a' n' c' h' → Inv bs bx h' g' → Q (.slice a' n' c') g') :
    hp P (Builtin.append_ #[t, t2] ty #[.slice a n c, .int .i64 m]) Q g := by
  obtain ⟨inf, z, hi, hz, hzc, hzl, hs, hb, hs0, hb0, hz1⟩ := appOk_ok hok
  obtain ⟨hvl, hfit, hgrow⟩ := hh
  unfold Builtin.append_
  simp only [List.getElem?_toArray, List.getElem?_cons_zero, List.getElem?_cons_succ]
  rw [hp_bind]
  refine ro_hp (by rw [ro_underlying, hu]) ?_
  simp only []
  rw [hp_bind]
  refine ro_hp (by rw [ro_sizeOf, hi]; rfl) ?_
  rw [hp_bind]
  refine ro_hp (by rw [ro_underlying, hu2]) ?_
  rw [hp_bind]
  refine ro_hp (ro_pure _) ?_
  have hmb : m ≤ 140737488355328 := by
    rw [hb] at hm1
    have : m * 1 ≤ m * (inf.bytes : Int) := Int.mul_le_mul_of_nonneg_left (by omega) hm0
    omega
  have hw : IntKind.wrap .i64 m = m := by simp [IntKind.wrap, IntKind.bits, IntKind.signed]; omega
  simp only [if_true, Bool.not_true, Bool.false_eq_true, if_false, true_or, and_true]
  rw [hp_bind]
  refine ro_hp (a := m) rfl ?_
  rw [hw, if_neg (by omega), hp_bind]
  refine ro_hp (by rw [ro_typeInfo, hi]) ?_
  rw [if_neg (by rw [hb] at hm1; have : (2 : Int) ^ 48 = 281474976710656 := by decide
                 omega)]
  rw [hp_bind]
  refine ro_hp (ro_pure _) ?_
  rw [hs] at hvl hfit hgrow
  have hsrc : ∀ g', ro P (if m.toNat * inf.size = 0 then pure #[] else do pure (Builtin.zeroCells (← zeroValue el).cells m.toNat)) g' = some (List.replicate m.toNat (zeroVs P el)).flatten.toArray := fun g' => by
    by_cases h0 : m.toNat * inf.size = 0
    · rw [if_pos h0]
      have hv : (List.replicate m.toNat (zeroVs P el)).flatten = [] := List.eq_nil_of_length_eq_zero (by rw [hvl, h0])
      rw [hv]; rfl
    · rw [if_neg h0, ro_bind, ro_zeroValue hi hz, Option.bind_some, hzc, toList_zeroCells]; rfl
  have h1 : ∀ v ∈ (List.replicate m.toNat (zeroVs P el)).flatten, one1 v = true := fun v hv => by
    obtain ⟨l, hl, hv⟩ := List.mem_flatten.1 hv
    rw [(List.mem_replicate.1 hl).2] at hv
    exact hz1 v hv
  generalize hvs : (List.replicate m.toNat (zeroVs P el)).flatten = vs at hvl hfit hgrow hsrc h1
  generalize m.toNat = m at hvl hfit hgrow hsrc
  by_cases hle : n + m ≤ c
  · rw [if_pos hle, hp_bind]
    refine ro_hp (hsrc g) ?_
    obtain ⟨f1, f2⟩ := hfit hle
    by_cases h0 : m * inf.size = 0
    · have hv : vs = [] := List.eq_nil_of_length_eq_zero (by rw [hvl, h0])
      subst hv
      have hk := hq _ _ _ _ _ (f1 h0) i
      cases a with
      | none => exact hk
      | some a => exact hk
    · obtain ⟨b, o, rfl, hst⟩ := f2 h0
      simp only []
      rw [hp_bind, addr_add]
      exact stH_hp hst i h1 fun h' g' hk i' => hq _ _ _ _ _ hk i'
  · rw [if_neg hle]
    obtain ⟨hbd, olds, hold, hnew⟩ := hgrow (by omega)
    have hbd' : (n + m) * inf.bytes ≤ 140737488355328 := by rw [← hb]; exact hbd
    rw [hp_bind]
    refine ro_hp (by rw [ro_typeInfo, hi]) ?_
    rw [if_neg (by have h7 : n + m ≤ (n + m) * inf.bytes := Nat.le_mul_of_pos_right _ hb0
                   have h8 : IntKind.max .i64 = 9223372036854775807 := by decide
                   omega), hp_bind]
    refine ro_hp (by rw [ro_typeInfo, hi]) ?_
    have hfits := growslice_fits (need := n + m) (old := c) (bytes := inf.bytes) (by omega) hbd'
    rw [if_neg (by have : (2 : Nat) ^ 48 = 281474976710656 := by decide
                   omega), hp_bind]
    show hp P (.choose _ _) _ g
    simp only [hp, Question.forced, Bool.false_eq_true, if_false]
    intro tp
    have hcap1 : n + m ≤ (Question.appendCap (n + m) c el).cut tp := by simp [Question.cut]
    have hsm : n + m < 2 ^ 63 := by
      have : n + m ≤ (n + m) * inf.bytes := Nat.le_mul_of_pos_right _ hb0
      have : (2 : Nat) ^ 63 = 9223372036854775808 := by decide
      omega
    have hcap2 : (Question.appendCap (n + m) c el).cut tp ≤ 9223372036854775807 := by
      have := Nat.mod_lt tp (show 0 < 2 ^ 63 - (n + m) by omega)
      have e : (2 : Nat) ^ 63 = 9223372036854775808 := by decide
      simp only [Question.cut]
      omega
    generalize (Question.appendCap (n + m) c el).cut tp = c' at hcap1 hcap2 ⊢
    rw [hp_bind]
    refine ro_hp (by rw [ro_typeInfo, hi]) ?_
    rw [hp_bind]
    have hask : ro P (askRoom (c' * inf.bytes)) g = some () := by unfold askRoom; split <;> rfl
    refine ro_hp hask ?_
    rw [hp_bind]
    refine ro_hp (srcH_ro (c := c) hold i.sub (srcH_one hold)) ?_
    rw [hp_bind]
    refine ro_hp (hsrc g) ?_
    rw [hp_bind]
    refine ro_hp (ro_zeroValue hi hz) ?_
    rw [hp_bind]
    refine hp_newRow fun r hr => ?_
    have hr' : h r = none := by
      cases e : h r with
      | none => rfl
      | some o => rw [i.sub _ _ e] at hr; cases hr
    have hk := hnew c' hcap1 hcap2 r hr'
    have e : (olds.toArray ++ vs.toArray ++ Builtin.zeroCells z.cells (c' - (n + m)) : Array Value) = (olds ++ (vs ++ (List.replicate (c' - (n + m)) (zeroVs P el)).flatten)).toArray := by
      rw [hzc, toList_zeroCells]; simp
    show Q _ _
    rw [e]
    exact hq _ _ _ _ _ hk (i.newHeap hr _)
end TL

namespace TL
open Go
theorem byteVs_one {s : ByteArray} : ∀ v ∈ byteVs s, one1 v = true := by
 intro v hv
 unfold byteVs at hv
 obtain ⟨x, _, rfl⟩ := List.mem_map.1 hv
 rfl
theorem EffPost.loc {o : Oper} {bs : BS} {bx : BX} {h g : PH} {K : KK} {k b off n : Nat} {T : TypeId} {c c' new : List Ch} (i : Inv bs bx h g) (hk : bs[k]? = some (b, T)) (hc : nthB bx k = some c) (hok : chOk c')
  (hcn : chN c' = chN c) (hn : chOk new) (hle : off + chN new ≤ chN c) (hnn : chN new = n) (hfl : flat c' = (flat c).take off ++ flat new ++ (flat c).drop (off + chN new)) (hco : chOk c) (hh : K .skip (some (.loc k off n)) (setB bx k c') h) (hg : grows o = false) :
  EffPost o bs bx h g K undef (g.upd b (.cells (flat c').toArray T (0, 0))) := by
 have hkl : k < bx.length := nthB_some_lt hc
 refine ⟨.skip, some (.loc k off n), [], setB bx k c', h, hh, by simpa using i.setBox hk hok, .inl rfl, fun k' c0 e hne => ?_, fun k' off' n' _ e => ?_, fun e => by rw [hg] at e; cases e⟩
 ·rw [nthB_setB, if_neg (fun ⟨e1, _⟩ => hne off n ⟨rfl, by rw [e1]⟩)]; exact e
 ·simp only [Option.some.injEq, Cl.loc.injEq] at e
  obtain ⟨rfl, rfl, rfl⟩ := e
  refine ⟨rfl, fun c0 e0 => ?_⟩
  rw [hc] at e0; cases e0
  refine ⟨c', by rw [nthB_setB, if_pos ⟨rfl, hkl⟩], hcn, fun p q hd => ?_⟩
  have hlen := chN_flat hn
  have hlc := chN_flat hco
  exact range_keep (vs := flat new) (off := off) (by rw [hfl, hlen]) (by rw [hlen, hlc]; exact hle) p q (by rw [hlen, hnn]; exact hd)
theorem denStore_ok {P : Program} {o : Oper} {t : TypeId} {x y : E0} {u w : Value} {bs : BS} {bx : BX} {h g : PH} {K : KK} (hh : denStore P t x y bx h K) (hx : e0Ok bs x u) (hy : e0Ok bs y w) (i : Inv bs bx h g) (hg : grows o = false) :
  hp P (do Instr.storeAt t u w; pure Next.skip) (nx P (EffPost o bs bx h g K)) g := by
 have ng : ∀ g' : PH, grows o = true → h.Sub g' := fun g' e => by rw [hg] at e; cases e
 refine nx_u ?_
 unfold denStore at hh
 split at hh
 ·rename_i cs hcs
  obtain ⟨hc, hcell⟩ := chsOf_ok hcs hy
  split at hh
  ·rename_i sz hsz hs
   have hsz := Nat.eq_of_beq_eq_true hsz
   have hlen := chN_flat hc
   obtain ⟨inf, hi⟩ := info_of_size hs
   have hci : chN cs = inf.size := by rw [hsz, sizeT_of hi]
   split at hh
   ·rename_i b o
    obtain ⟨rfl, _⟩ := hx
    obtain ⟨c, T, fr, hb, hu, hl, hk⟩ := hh
    refine hp_storeVar hi hcell hc hci (i.sub _ _ hb) hu (by rw [hlen] at hl; exact hl) ?_
    exact .heap hk (i.setHeap hb _) (.inl rfl) (ng _)
   ·rename_i k o
    obtain ⟨b, T, hb, rfl⟩ := hx
    split at hh
    ·rename_i c hcb
     split at hh
     ·rename_i c' hset
      obtain ⟨b', T', hb', hco, hgb⟩ := i.at hcb
      rw [hb] at hb'; cases hb'
      obtain ⟨e1, e2, e3, e4⟩ := chSet_ok hset hco hc
      have hlc := chN_flat hco
      refine hp_storeVar hi hcell hc hci hgb (.inl (Nat.le_refl _)) (by simp [hlc]; omega) ?_
      have := EffPost.loc (o := ‹Oper›) (n := sizeT P t) i hb hcb e2 e3 hc e4 hsz e1 hco hh hg
      rw [splice_lit, hlen, ← e1]
      exact this
     ·exact hh.elim
    ·exact hh.elim
   ·rename_i k o n idx
    obtain ⟨b, T, hb, rfl⟩ := hx
    split at hh
    ·rename_i c kk v hcb _hold
     split at hh
     ·rename_i ds hds
      split at hh
      ·rename_i l hrow
       split at hh
       ·rename_i c' hset
        obtain ⟨hin, hh⟩ := hh
        obtain ⟨b', T', hb', hco, hgb⟩ := i.at hcb
        rw [hb] at hb'; cases hb'
        obtain ⟨d1, d2, d3, d4⟩ := chGet_ok hds hco
        obtain ⟨r1, r2⟩ := rowOf_ok hrow d2 d3
        have hno : chOk [Ch.ints kk n (l.set idx v)] := ⟨by simp [r2], trivial⟩
        obtain ⟨e1, e2, e3, e4⟩ := chSetG_ok hset hco hno
        have hlc := chN_flat hco
        have hnn : chN [Ch.ints kk n (l.set idx v)] = n := by simp [chN]
        refine hp_storeVar hi hcell hc hci hgb (.inl (Nat.le_refl _)) (by simp [chN, hlc]; omega) ?_
        have := EffPost.loc (o := ‹Oper›) (n := n) i hb hcb e2 e3 hno e4 hnn e1 hco hh hg
        have hsp : (splice (flat c).toArray (o + idx) (flat [Ch.one (.int kk v)])) = (flat c').toArray := by
         rw [splice_lit, e1, hnn]
         congr 1
         simp only [flat, List.append_nil, List.length_singleton, List.map_set]
         have hrr : l.map (Value.int kk) = ((flat c).drop o).take n := by rw [← r1, d1]
         rw [hrr]
         apply List.ext_getElem?
         intro j
         rw [← set_as_splice _ _ _ (by omega), List.getElem?_set]
         by_cases hj : o + idx = j
         ·subst hj
          rw [if_pos rfl, if_pos (by omega), List.append_assoc, List.getElem?_append_right (by simp; omega)]
          have h1 : (List.take o (flat c)).length = o := by simp; omega
          rw [h1, show o + idx - o = idx by omega, List.getElem?_append_left (by simp; omega), List.getElem?_set, if_pos rfl, if_pos (by simp; omega)]
         ·rw [if_neg hj, List.append_assoc]
          rcases Nat.lt_or_ge j o with h1 | h1
          ·rw [List.getElem?_append_left (by simp; omega), List.getElem?_take_of_lt h1]
          ·rw [List.getElem?_append_right (by simp; omega)]
           simp only [List.length_take]
           rw [show min o (flat c).length = o by omega]
           rcases Nat.lt_or_ge (j - o) n with h2 | h2
           ·rw [List.getElem?_append_left (by simp; omega), List.getElem?_set, if_neg (by omega), List.getElem?_take_of_lt h2, List.getElem?_drop]
            congr 1; omega
           ·rw [List.getElem?_append_right (by simp; omega), List.getElem?_drop]
            congr 1; simp; omega
        rw [hsp]
        exact this
       ·exact hh.elim
      ·exact hh.elim
     ·exact hh.elim
    ·exact hh.elim
   ·exact hh.elim
  ·exact hh.elim
 ·exact hh.elim
end TL

namespace TL
open Go
theorem kdRec_ok {P : Program} {t : TypeId} {fs : List Field} {d : KD} (h : kdRec P t fs = some d) : ∃ f g k k', fs = [f, g] ∧ d = .rec2 k k' ∧ (f.name == "_") = false ∧ (g.name == "_") = false ∧
  P.underlying f.type = some (.int k) ∧ P.underlying g.type = some (.int k') ∧ f.offset = 0 ∧ g.offset = 1 ∧ sizeT P f.type = 1 ∧ sizeT P g.type = 1 ∧ P.stoodInHeld t = false := by
 unfold kdRec at h
 split at h
 ·split at h
  ·split at h
   ·simp at h
    rename_i k k' h1 h2 h3 h4 h5 h6 _ _ _ h7 h8 h9
    exact ⟨_, _, _, _, rfl, h.symm, h1, h2, h3, h4, Nat.eq_of_beq_eq_true h5, Nat.eq_of_beq_eq_true h6, Nat.eq_of_beq_eq_true h7, Nat.eq_of_beq_eq_true h8, h9⟩
   ·cases h
  ·cases h
 ·cases h
theorem kdOf_ok {P : Program} {t : TypeId} {d : KD} (h : kdOf P t = some d) : match d with
  | .int k => P.underlying t = some (.int k)
  | .str => P.underlying t = some .string
  | .arr k n => ∃ e, P.underlying t = some (.array n e) ∧ P.underlying e = some (.int k) ∧ sizeT P e = 1
  | .rec2 k k' => ∃ fs f g, P.underlying t = some (.struct fs) ∧ fs.toList = [f, g] ∧ (f.name == "_") = false ∧ (g.name == "_") = false ∧
    P.underlying f.type = some (.int k) ∧ P.underlying g.type = some (.int k') ∧ f.offset = 0 ∧ g.offset = 1 ∧ sizeT P f.type = 1 ∧ sizeT P g.type = 1 ∧ P.stoodInHeld t = false := by
 unfold kdOf at h
 split at h
 ·rename_i hu; simp at h; subst h; exact hu
 ·rename_i hu; simp at h; subst h; exact hu
 ·rename_i hu
  split at h
  ·rename_i h1 h2; simp at h; subst h; exact ⟨_, hu, h1, h2⟩
  ·cases h
 ·rename_i fs hu
  obtain ⟨f, g, k, k', h1, rfl, h2⟩ := kdRec_ok h
  exact ⟨fs, f, g, hu, h1, h2⟩
 ·cases h
theorem isIntK_ok {k : IntKind} {v : Value} (h : isIntK k v = true) : v = .int k (intV v) := by
 cases v <;> simp [isIntK] at h
 rw [kEq_eq h]; rfl
theorem ints_of {k : IntKind} : ∀ {l : List Value}, l.all (isIntK k) = true → l = (l.map intV).map (Value.int k)
 | [], _ => rfl
 | v :: r, h => by
  simp only [List.all_cons, Bool.and_eq_true] at h
  simp only [List.map_cons]
  rw [← isIntK_ok h.1, ← ints_of h.2]
theorem arr_ok {k : IntKind} {n : Nat} {v : Value} (h : kOk (.arr k n) v = true) : ∃ l : List Int, v = .agg (l.map (Value.int k)).toArray ∧ l.length = n := by
 cases v <;> simp [kOk] at h
 rename_i a
 refine ⟨a.toList.map intV, ?_, by simpa using h.1⟩
 rw [← ints_of (List.all_eq_true.2 fun x hx => by
  obtain ⟨i, hi, e⟩ := List.getElem_of_mem hx
  rw [← e]; exact h.2 i (by simpa using hi))]
theorem rec_ok {k k' : IntKind} {v : Value} (h : kOk (.rec2 k k') v = true) : ∃ x y : Int, v = .agg #[.int k x, .int k' y] := by
 cases v <;> simp [kOk] at h
 rename_i a
 split at h
 ·rename_i x y hl
  simp only [Bool.and_eq_true] at h
  refine ⟨intV x, intV y, ?_⟩
  rw [← isIntK_ok h.1, ← isIntK_ok h.2]
  congr 1
  apply Array.toList_inj.1; exact hl
 ·cases h
theorem str_ok {v : Value} (h : kOk .str v = true) : ∃ s, v = .string s := by
 cases v <;> simp [kOk] at h
 exact ⟨_, rfl⟩
theorem int_ok {k : IntKind} {v : Value} (h : kOk (.int k) v = true) : ∃ n, v = .int k n := ⟨_, isIntK_ok h⟩
theorem intV_map (k : IntKind) : ∀ l : List Int, (l.map (Value.int k)).map intV = l
 | [] => rfl
 | x :: l => by simp only [List.map_cons, intV_map k l]; rfl
theorem bys_inj {a b : ByteArray} (h : bys a = bys b) : a = b := by
 cases a; cases b; simp [bys] at h; exact congrArg _ h
theorem keq_eq {d : KD} {a b : Value} (ha : kOk d a = true) (hb : kOk d b = true) : keq a b = true ↔ a = b := by
 cases d with
 | int k =>
  obtain ⟨x, rfl⟩ := int_ok ha; obtain ⟨y, rfl⟩ := int_ok hb
  simp [keq]
 | str =>
  obtain ⟨x, rfl⟩ := str_ok ha; obtain ⟨y, rfl⟩ := str_ok hb
  simp only [keq, strEq, Value.string.injEq, beq_iff_eq]
  exact ⟨bys_inj, fun h => by rw [h]⟩
 | arr k n =>
  obtain ⟨x, rfl, _⟩ := arr_ok ha; obtain ⟨y, rfl, _⟩ := arr_ok hb
  simp only [keq, intV_map, beq_iff_eq]
  exact ⟨fun h => by rw [h], fun h => by
   have := congrArg (fun v : Value => match v with | .agg c => c.toList.map intV | _ => []) h
   simpa only [intV_map] using this⟩
 | rec2 k k' =>
  obtain ⟨x, y, rfl⟩ := rec_ok ha; obtain ⟨z, w, rfl⟩ := rec_ok hb
  simp [keq, intV]
theorem ro_keq {P : Program} {g : PH} {t : TypeId} {d : KD} (h : kdOf P t = some d) {a b : Value} (ha : kOk d a = true) (hb : kOk d b = true) : ro P (Op.equal t a b) g = some (keq a b) := by
 have hd := kdOf_ok h
 unfold Op.equal
 cases d with
 | int k =>
  obtain ⟨x, rfl⟩ := int_ok ha; obtain ⟨y, rfl⟩ := int_ok hb
  show ro P (Op.equalIn Op.maxDepth t _ _) g = _
  generalize hm : Op.maxDepth = m
  obtain ⟨m, rfl⟩ : ∃ j, m = j + 1 := ⟨9999, hm.symm⟩
  simp only [Op.equalIn]; rw [ro_bind, ro_underlying, hd]; simp [ro_pure, keq]
 | str =>
  obtain ⟨x, rfl⟩ := str_ok ha; obtain ⟨y, rfl⟩ := str_ok hb
  generalize hm : Op.maxDepth = m
  obtain ⟨m, rfl⟩ : ∃ j, m = j + 1 := ⟨9999, hm.symm⟩
  simp only [Op.equalIn]; rw [ro_bind, ro_underlying, hd]; simp [ro_pure, keq, strEq_beq]
 | arr k n =>
  obtain ⟨x, rfl, hx⟩ := arr_ok ha; obtain ⟨y, rfl, hy⟩ := arr_ok hb
  obtain ⟨e, hu, he, hs⟩ := hd
  have := eqT_ok (P := P) (g := g) 12 t [.ints k n x] [.ints k n y] (x == y) (by
   have hk : kEq k k = true := by cases k <;> rfl
   simp only [eqT, hu, he, hs, hk]
   simp) ⟨hx, trivial⟩ ⟨hy, trivial⟩
  obtain ⟨u, v, hu', hv', _, hh⟩ := this
  unfold vOf at hu' hv'
  rw [aggT_of hu] at hu' hv'
  simp [aggD, flat] at hu' hv'
  subst hu' hv'
  rw [hh _ (by unfold Op.maxDepth; omega)]
  simp only [keq, intV_map]
 | rec2 k k' =>
  obtain ⟨x, y, rfl⟩ := rec_ok ha; obtain ⟨z, w, rfl⟩ := rec_ok hb
  obtain ⟨fs, f, f', hu, hl, n1, n2, u1, u2, o1, o2, s1, s2, hst⟩ := hd
  have hk : ∀ k, kEq k k = true := fun k => by cases k <;> rfl
  have := eqT_ok (P := P) (g := g) 12 t [.one (.int k x), .one (.int k' y)] [.one (.int k z), .one (.int k' w)] ((x == z) && ((y == w) && true)) (by
   simp [eqT, hu, hst, hl, eqFs, n1, n2, o1, o2, s1, s2, chGet, chSplit, u1, u2, eqI, hk]) ⟨rfl, rfl, trivial⟩ ⟨rfl, rfl, trivial⟩
  obtain ⟨u, v, hu', hv', _, hh⟩ := this
  unfold vOf at hu' hv'
  rw [aggT_of hu] at hu' hv'
  simp [aggD, flat] at hu' hv'
  subst hu' hv'
  rw [hh _ (by unfold Op.maxDepth; omega)]
  simp [keq, intV]
theorem ro_findAsking {P : Program} {g : PH} {t : TypeId} {d : KD} (h : kdOf P t = some d) {k : Value} (hk : kOk d k = true) : ∀ (es : List MapEntry) (i : Nat), (∀ e ∈ es, kOk d e.key = true) →
  ro P (Instr.findAsking t k es i) g = some (fi es k i)
 | [], i, _ => rfl
 | e :: es, i, he => by
  unfold Instr.findAsking fi
  rw [ro_bind, ro_keq h hk (he e List.mem_cons_self), Option.bind_some]
  cases keq k e.key with
  | true => rfl
  | false => exact ro_findAsking h hk es (i + 1) fun e' h' => he e' (List.mem_cons_of_mem _ h')
theorem findNow_int {k : IntKind} {kv : Value} (hk : kOk (.int k) kv = true) : ∀ (es : List MapEntry) (i : Nat), (∀ e ∈ es, kOk (.int k) e.key = true) → Instr.findNow (.int k) kv es i = some (fi es kv i)
 | [], i, _ => rfl
 | e :: es, i, he => by
  obtain ⟨x, rfl⟩ := int_ok hk
  obtain ⟨y, hy⟩ := int_ok (he e List.mem_cons_self)
  unfold Instr.findNow fi
  rw [hy]
  simp only [Instr.sameNow, keq, if_true]
  have ih := findNow_int (kv := .int k x) hk es (i + 1) fun e' h' => he e' (List.mem_cons_of_mem _ h')
  cases x == y with
  | true => rfl
  | false => exact ih
theorem findNow_str {kv : Value} (hk : kOk .str kv = true) : ∀ (es : List MapEntry) (i : Nat), (∀ e ∈ es, kOk .str e.key = true) → Instr.findNow .string kv es i = some (fi es kv i)
 | [], i, _ => rfl
 | e :: es, i, he => by
  obtain ⟨x, rfl⟩ := str_ok hk
  obtain ⟨y, hy⟩ := str_ok (he e List.mem_cons_self)
  unfold Instr.findNow fi
  rw [hy]
  simp only [Instr.sameNow, keq, strEq_beq]
  have ih := findNow_str (kv := .string x) hk es (i + 1) fun e' h' => he e' (List.mem_cons_of_mem _ h')
  cases strEq x y with
  | true => rfl
  | false => exact ih
theorem ro_findKey {P : Program} {g : PH} {t : TypeId} {d : KD} (h : kdOf P t = some d) {k : Value} (hk : kOk d k = true) (es : List MapEntry) (he : ∀ e ∈ es, kOk d e.key = true) :
  ro P (Instr.findKey t k es) g = some (fi es k 0) := by
 have hd := kdOf_ok h
 unfold Instr.findKey
 rw [ro_bind, ro_underlying]
 cases d with
 | int k' => rw [hd, Option.bind_some, findNow_int hk es 0 he]; rfl
 | str => rw [hd, Option.bind_some, findNow_str hk es 0 he]; rfl
 | arr k' n =>
  obtain ⟨e, hu, _⟩ := hd
  rw [hu, Option.bind_some]
  cases es with
  | nil => rfl
  | cons e es =>
   unfold Instr.findNow
   simp only [Instr.sameNow]
   exact ro_findAsking h hk _ 0 he
 | rec2 k' k'' =>
  obtain ⟨fs, f, f', hu, _⟩ := hd
  rw [hu, Option.bind_some]
  cases es with
  | nil => rfl
  | cons e es =>
   unfold Instr.findNow
   simp only [Instr.sameNow]
   exact ro_findAsking h hk _ 0 he
theorem ro_checkInt {P : Program} {g : PH} {t : TypeId} {k : IntKind} (hu : P.underlying t = some (.int k)) (b : Bool) (n : Nat) (v : Value) : ro P (Instr.checkKey b (n + 1) t v) g = some () := by
 unfold Instr.checkKey
 rw [ro_bind, ro_underlying, hu]; rfl
theorem ro_loopUnit {P : Program} {g : PH} {α : Type} (f : α → Unit → Sem (ForInStep Unit)) : ∀ l : List α, (∀ x ∈ l, ro P (f x ()) g = some (.yield ())) → ro P (forIn (m := Sem) l () f) g = some ()
 | [], _ => rfl
 | x :: l, h => by
  rw [ro_forIn_cons, h x List.mem_cons_self, Option.bind_some]
  exact ro_loopUnit f l fun y hy => h y (List.mem_cons_of_mem _ hy)
theorem ro_checkKey {P : Program} {g : PH} {t : TypeId} {d : KD} (h : kdOf P t = some d) {k : Value} (hk : kOk d k = true) (b : Bool) : ro P (Instr.checkKey b 10000 t k) g = some () := by
 have hd := kdOf_ok h
 cases d with
 | int k' => exact ro_checkInt hd b 9999 k
 | str =>
  show ro P (Instr.checkKey b (9999 + 1) t k) g = _
  unfold Instr.checkKey
  rw [ro_bind, ro_underlying, hd]; rfl
 | arr k' n =>
  obtain ⟨e, hu, he, hs⟩ := hd
  obtain ⟨l, rfl, hl⟩ := arr_ok hk
  obtain ⟨i, hi⟩ := info_of_underlying he
  have hs1 := sizeT_of hi
  show ro P (Instr.checkKey b (9999 + 1) t _) g = _
  unfold Instr.checkKey
  rw [ro_bind, ro_underlying, hu, Option.bind_some]
  simp only []
  rw [Std.Legacy.Range.forIn_eq_forIn_range', Std.Legacy.Range.size]
  simp only [Nat.sub_zero, Nat.add_sub_cancel, Nat.div_one]
  rw [ro_bind, ro_loopUnit _ _ (fun x hx => ?_)]
  ·rfl
  ·have hx : x < n := by simp [List.mem_range'_1] at hx; omega
   rw [ro_bind, ro_sizeOf, hi, Option.map_some, Option.bind_some, ro_bind, ro_part e _ _ _ i he hi, aggT_of he]
   simp only [aggD, Bool.false_eq_true, if_false]
   have hx' : x < l.length := by omega
   rw [show x * i.size = x by rw [← hs1, hs]; omega]
   simp only [List.getElem?_toArray, List.getElem?_map, List.getElem?_eq_getElem hx', Option.map_some, Option.bind_some]
   rw [ro_bind, ro_checkInt he b 9998]; rfl
 | rec2 k' k'' =>
  obtain ⟨fs, f, f', hu, hl, n1, n2, u1, u2, o1, o2, s1, s2, hst⟩ := hd
  obtain ⟨x, y, rfl⟩ := rec_ok hk
  show ro P (Instr.checkKey b (9999 + 1) t _) g = _
  unfold Instr.checkKey
  rw [ro_bind, ro_underlying, hu, Option.bind_some]
  simp only []
  rw [← Array.forIn_toList, hl, ro_bind, ro_loopUnit _ _ (fun z hz => ?_)]
  ·rfl
  ·have hz : z = f ∨ z = f' := by simpa using hz
   rcases hz with rfl | rfl
   ·obtain ⟨i, hi⟩ := info_of_underlying u1
    rw [if_pos (by simpa using n1), ro_bind, ro_part _ _ _ _ i u1 hi, aggT_of u1]
    simp only [aggD, Bool.false_eq_true, if_false, o1]
    simp only [List.getElem?_toArray, List.getElem?_cons_zero, Option.bind_some]
    rw [ro_bind, ro_checkInt u1 b 9998]; rfl
   ·obtain ⟨i, hi⟩ := info_of_underlying u2
    rw [if_pos (by simpa using n2), ro_bind, ro_part _ _ _ _ i u2 hi, aggT_of u2]
    simp only [aggD, Bool.false_eq_true, if_false, o2]
    simp only [List.getElem?_toArray, List.getElem?_cons_succ, List.getElem?_cons_zero, Option.bind_some]
    rw [ro_bind, ro_checkInt u2 b 9998]; rfl
theorem kOkE_ok {d : KD} {x : E0} {bs : BS} {v kv : Value} (h : kOkE d x = true) (hx : e0Ok bs x v) (hv : val x = some kv) : v = kv ∧ kOk d kv = true := by
 refine ⟨val_ok hv hx, ?_⟩
 unfold kOkE at h
 split at h
 ·simp [val] at hv; subst hv; simpa [kOk, isIntK] using h
 ·simp [val] at hv; subst hv; rfl
 ·simp only [Bool.and_eq_true] at h
  simp [val] at hv; subst hv
  have hok : chOk _ := hx.1
  have hl := hok.1
  have := Nat.eq_of_beq_eq_true h.2
  simp [kOk, flat, hl, this, isIntK, h.1]
 ·simp only [Bool.and_eq_true] at h
  simp [val] at hv; subst hv
  simp [kOk, flat, isIntK, h.1, h.2]
 ·cases h
theorem fi_some {k : Value} : ∀ {es : List MapEntry} {i j : Nat} {v : Value}, fi es k i = some (j, v) → i ≤ j ∧ ∃ e, es[j - i]? = some e ∧ e ∈ es ∧ keq k e.key = true ∧ e.val = v
 | [], _, _, _, h => by cases h
 | e :: es, i, j, v, h => by
  unfold fi at h
  split at h
  ·rename_i hq
   simp only [Option.some.injEq, Prod.mk.injEq] at h
   obtain ⟨rfl, rfl⟩ := h
   exact ⟨Nat.le_refl _, e, by simp, List.mem_cons_self, hq, rfl⟩
  ·obtain ⟨h1, e', h2, h3, h4, h5⟩ := fi_some h
   refine ⟨by omega, e', ?_, List.mem_cons_of_mem _ h3, h4, h5⟩
   rw [show j - i = (j - (i + 1)) + 1 by omega]; simpa using h2
theorem bits_ints (k : IntKind) (n : Nat) : ∀ l : List Int, (l.map (Value.int k)).all (fun x => Instr.sameBits n x x) = true
 | [] => rfl
 | x :: l => by
  rw [List.map_cons, List.all_cons, bits_ints k n l]
  cases n <;> cases k <;> simp [Instr.sameBits]
theorem zip_self {α : Type} (f : α → α → Bool) : ∀ l : List α, ((l.zip l).all fun p => f p.1 p.2) = l.all fun x => f x x
 | [] => rfl
 | x :: l => by simp only [List.zip_cons_cons, List.all_cons, zip_self f l]
theorem sameBits_key {d : KD} {k : Value} (h : kOk d k = true) : Instr.sameBits 10000 k k = true := by
 generalize hm : (10000 : Nat) = m
 obtain ⟨m, rfl⟩ : ∃ j, m = j + 1 := ⟨9999, hm.symm⟩
 cases d with
 | int k' => obtain ⟨x, rfl⟩ := int_ok h; cases k' <;> simp [Instr.sameBits]
 | str => obtain ⟨x, rfl⟩ := str_ok h; simp [Instr.sameBits, strEq_beq, strEq]
 | arr k' n =>
  obtain ⟨l, rfl, _⟩ := arr_ok h
  simp only [Instr.sameBits, beq_self_eq_true, Bool.true_and]
  have := zip_self (Instr.sameBits m) (l.map (Value.int k'))
  rw [bits_ints] at this
  exact this
 | rec2 k' k'' => obtain ⟨x, y, rfl⟩ := rec_ok h; cases m <;> cases k' <;> cases k'' <;> simp [Instr.sameBits]
theorem map_obj {P : Program} {kd : KD} {h g : PH} {r : Nat} {es : List MapEntry} (hm : mapH kd h (some r) es) (hs : h.Sub g) : ∃ c, ro P (getObj r) g = some (.map es.toArray c) := by
 obtain ⟨⟨c, hc⟩, _⟩ := hm
 refine ⟨c, ?_⟩
 show ro P (.getObj r .pure) g = _
 simp only [ro, hs _ _ hc, isCells]
theorem ro_lookup {P : Program} {t kt et : TypeId} {kd : KD} {h g : PH} {r : Option Nat} {kv z v : Value} {b ok : Bool} {i : TypeInfo} (hu : P.underlying t = some (.map kt et)) (hkd : kdOf P kt = some kd) (hk : kOk kd kv = true)
  (hi : P.info? et = some i) (hz : i.zero = some z) (hl : lkH kd h r kv z v b) (hs : h.Sub g) : ro P (Instr.lookup t (.map r) kv ok) g = some (if ok then .tuple #[v, .bool b] else v) := by
 obtain ⟨es, hm, hlk⟩ := hl
 have key := fun b' => ro_checkKey (g := g) hkd hk b'
 have find := ro_findKey (g := g) hkd hk es hm.2
 unfold Instr.lookup
 rw [ro_bind, ro_underlying, hu, Option.bind_some]
 simp only []
 have zv := ro_zeroValue (g := g) hi hz
 cases r with
 | none =>
  have he := hm.1
  simp only at he
  subst he
  simp only [lk, fi, Prod.mk.injEq] at hlk
  obtain ⟨rfl, rfl⟩ := hlk
  simp only []
  rw [ro_bind, ro_pure, Option.bind_some, ro_bind, key, Option.bind_some, ro_bind, find, Option.bind_some]
  simp only [fi]
  rw [ro_bind, zv]; rfl
 | some r =>
  obtain ⟨c, hc⟩ := map_obj (P := P) hm hs
  simp only []
  rw [ro_bind, hc, Option.bind_some]
  simp only []
  rw [ro_bind, ro_pure, Option.bind_some, ro_bind, key, Option.bind_some, ro_bind, find, Option.bind_some]
  unfold lk at hlk
  split at hlk
  ·rename_i j w hf
   rw [hf]
   simp only [Prod.mk.injEq] at hlk
   obtain ⟨rfl, rfl⟩ := hlk
   rfl
  ·rename_i hf
   rw [hf]
   simp only [Prod.mk.injEq] at hlk
   obtain ⟨rfl, rfl⟩ := hlk
   simp only []
   rw [ro_bind, zv]; rfl
theorem hp_setObj {P : Program} {r : Nat} {o o0 : Obj} {g : PH} {Q : Unit → PH → Prop} (h0 : g r = some o0) (hc : isCells o0 = false) (hq : Q () (g.upd r o)) : hp P (setObj r o) Q g := ⟨o0, h0, hc, hq⟩
theorem hp_getObj {P : Program} {r : Nat} {o : Obj} {g : PH} {Q : Obj → PH → Prop} (h0 : g r = some o) (hc : isCells o = false) (hq : Q o g) : hp P (getObj r) Q g := ⟨o, h0, hc, hq⟩
theorem hp_mapUpdate {P : Program} {t kt et : TypeId} {kd : KD} {h g : PH} {r : Option Nat} {kv v : Value} {K : PH → Prop} {Q : Unit → PH → Prop} {bs : BS} {bx : BX} (hu : P.underlying t = some (.map kt et)) (hkd : kdOf P kt = some kd) (hk : kOk kd kv = true)
  (hl : muH kd h r kv v K) (i : Inv bs bx h g) (hq : ∀ h' g', K h' → Inv bs bx h' g' → Q () g') : hp P (Instr.mapUpdate t (.map r) kv v) Q g := by
 obtain ⟨r0, es, c, rfl, hr, hes, hK⟩ := hl
 have hg := i.sub _ _ hr
 unfold Instr.mapUpdate
 rw [hp_bind]
 refine ro_hp (by rw [ro_underlying, hu]) ?_
 simp only []
 rw [hp_bind]
 refine hp_getObj hg rfl ?_
 simp only []
 rw [hp_bind]
 refine ro_hp (ro_checkKey hkd hk false) ?_
 rw [hp_bind]
 refine ro_hp (ro_findKey hkd hk es hes) ?_
 have fin : ∀ o, o = Obj.map (upM es kv v c).1.toArray (upM es kv v c).2 → hp P (setObj r0 o) Q g := fun o ho => by
  subst ho
  exact hp_setObj hg rfl (hq _ _ hK (i.setHeap hr _))
 unfold upM at fin
 cases hf : fi es kv 0 with
 | none =>
  rw [hf] at fin
  exact fin _ (by simp)
 | some p =>
  obtain ⟨j, w⟩ := p
  rw [hf] at fin
  simp only [] at fin ⊢
  obtain ⟨_, e, he, hm, hq', _⟩ := fi_some hf
  have hee : kv = e.key := (keq_eq hk (hes e hm)).1 hq'
  have hold : ((es.toArray[j]?).map (·.key)).getD kv = kv := by
   simp only [Nat.sub_zero] at he
   simp [he, hee]
  rw [hp_bind, hold]
  unfold Instr.keyThatStays
  rw [if_pos (sameBits_key hk)]
  refine fin _ ?_
  simp
theorem hp_delete {P : Program} {t kt et ty : TypeId} {ts : List TypeId} {kd : KD} {h g : PH} {r : Option Nat} {kv : Value} {K : PH → Prop} {Q : Value → PH → Prop} {bs : BS} {bx : BX} (hu : P.underlying t = some (.map kt et)) (hkd : kdOf P kt = some kd) (hk : kOk kd kv = true)
  (hl : mdH kd h r kv K) (i : Inv bs bx h g) (hq : ∀ h' g' v, K h' → Inv bs bx h' g' → Q v g') : hp P (Builtin.delete_ (t :: ts).toArray ty #[.map r, kv]) Q g := by
 unfold Builtin.delete_
 simp only [List.getElem?_toArray, List.getElem?_cons_zero, List.getElem?_cons_succ]
 rw [hp_bind]
 refine ro_hp (by rw [ro_underlying, hu]) ?_
 simp only []
 cases r with
 | none =>
  simp only []
  rw [hp_bind]
  refine ro_hp (ro_checkKey hkd hk true) ?_
  exact hq h g _ (hl.1 rfl) i
 | some r0 =>
  obtain ⟨es, c, hr, hes, hK⟩ := hl.2 r0 rfl
  have hg := i.sub _ _ hr
  simp only []
  rw [hp_bind]
  refine hp_getObj hg rfl ?_
  simp only []
  rw [hp_bind]
  refine ro_hp (ro_checkKey hkd hk _) ?_
  rw [hp_bind]
  refine ro_hp (ro_findKey hkd hk es hes) ?_
  have fin : ∀ o, o = Obj.map (dlM es kv).toArray c → hp P (do setObj r0 o; pure (Value.tuple #[])) Q g := fun o ho => by
   subst ho
   rw [hp_bind]; exact hp_setObj hg rfl (hq _ _ _ hK (i.setHeap hr _))
  unfold dlM at fin
  cases hf : fi es kv 0 with
  | none => rw [hf] at fin; exact fin _ rfl
  | some p =>
   obtain ⟨j, w⟩ := p
   rw [hf] at fin
   exact fin _ (by simp)
theorem ro_lenM {P : Program} {t kt et ty : TypeId} {h g : PH} {r : Option Nat} {n : Nat} (hu : P.underlying t = some (.map kt et)) (hl : lenM h r n) (hs : h.Sub g) : ro P (Builtin.len_ #[t] ty #[.map r]) g = some (.int .i64 (n : Int)) := by
 unfold Builtin.len_
 simp only [List.getElem?_toArray, List.getElem?_cons_zero]
 rw [ro_bind, ro_underlying, hu, Option.bind_some]
 cases r with
 | none => have : n = 0 := hl; subst this; rfl
 | some r =>
  obtain ⟨es, c, hr, rfl⟩ := hl
  simp only []
  rw [ro_bind]
  have : ro P (getObj r) g = some (.map es c) := by
   show ro P (.getObj r .pure) g = _
   simp only [ro, hs _ _ hr, isCells]
  rw [this]; rfl
end TL
