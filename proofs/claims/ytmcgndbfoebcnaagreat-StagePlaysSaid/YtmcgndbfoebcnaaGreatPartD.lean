/-
  Loops with a ghost's measure; maps as functions of their keys. No condition.
-/
import Derived.Test.YtmcgndbfoebcnaaGreatPartC
import Derived.Sort.Walk0
import Derived.Lib.Bytealg
import Derived.Test.YtmcgndbfoebcnaaGreatPartB
import Derived.Shelf.SlSortCmp.InsertionK
import Derived.Lib.Walk
import Derived.WalkKit
import Derived.Shelf.SlSortCmp.NoneTotal
import Derived.Shelf.SlSortCmp.WholeK
import Derived.Test.YtmcgndbfoebcnaaGreatProg
namespace TL
open Go
theorem LoopP.indE {T : Type} {F : (T → PH → Prop) → T → PH → Prop} (I : Nat → T → PH → Prop) (step : ∀ n x h, I n x h → F (fun y g => ∃ m, m < n ∧ I m y g) x h) : ∀ {n : Nat} {x : T} {h : PH}, I n x h → LoopP F x h := by
 intro n
 induction n using Nat.strongRecOn with
 | _ n ih =>
  intro x h hi
  exact LoopP.mk (fun y g => ∃ m, m < n ∧ I m y g) (fun y g ⟨m, hm, hy⟩ => ih m hm hy) (step n x h hi)
def va (es : List MapEntry) (k : Value) : Option Value := (fi es k 0).map (·.2)
theorem fi_shift {k : Value} : ∀ (es : List MapEntry) (i : Nat), fi es k i = (fi es k 0).map fun p => (p.1 + i, p.2)
 | [], _ => rfl
 | e :: r, i => by
  unfold fi
  cases keq k e.key with
  | true => simp
  | false =>
   simp only
   rw [fi_shift r (i + 1), fi_shift r 1]
   cases fi r k 0 with
   | none => rfl
   | some p => simp; omega
theorem va_nil (k : Value) : va [] k = none := rfl
theorem va_cons (e : MapEntry) (r : List MapEntry) (k : Value) : va (e :: r) k = if keq k e.key = true then some e.val else va r k := by
 unfold va
 rw [fi]
 cases keq k e.key with
 | true => rfl
 | false =>
  simp only [Bool.false_eq_true, if_false]
  rw [fi_shift r 1]
  cases fi r k 0 <;> rfl
theorem fi_none_iff {es : List MapEntry} {k : Value} : fi es k 0 = none ↔ va es k = none := by
 unfold va
 cases fi es k 0 <;> simp
theorem lk_va (es : List MapEntry) (k z : Value) : lk es k z = match va es k with
  | some v => (v, true)
  | none => (z, false) := by
 unfold lk va
 cases fi es k 0 <;> rfl
theorem va_append (es fs : List MapEntry) (k : Value) : va (es ++ fs) k = (va es k).or (va fs k) := by
 induction es with
 | nil => simp [va_nil]
 | cons e r ih =>
  rw [List.cons_append, va_cons, va_cons, ih]
  split <;> simp
theorem va_none {es : List MapEntry} {k : Value} : va es k = none ↔ ∀ e ∈ es, keq k e.key = false := by
 induction es with
 | nil => simp [va_nil]
 | cons e r ih =>
  rw [va_cons]
  split
  ·rename_i h; simp [h]
  ·rename_i h; simp [h, ih]
section
variable {kd : KD}
theorem keq_comm {a b : Value} (ha : kOk kd a = true) (hb : kOk kd b = true) : keq a b = keq b a := by
 rw [Bool.eq_iff_iff, keq_eq ha hb, keq_eq hb ha]; exact eq_comm
theorem va_congr {es : List MapEntry} {k k' : Value} (hk : kOk kd k = true) (hk' : kOk kd k' = true) (h : keq k' k = true) : va es k' = va es k := by
 rw [(keq_eq hk' hk).1 h]
theorem va_modify {k v : Value} (hk : kOk kd k = true) {k' : Value} (hk' : kOk kd k' = true) : ∀ {es : List MapEntry} {j : Nat} {v0 : Value}, (∀ e ∈ es, kOk kd e.key = true) → fi es k 0 = some (j, v0) → va (es.modify j fun e => { e with key := k, val := v }) k' = if keq k' k = true then some v else va es k'
 | [], _, _, _, h => by cases h
 | e :: r, j, v0, he, h => by
  have he1 := he e List.mem_cons_self
  rw [fi] at h
  cases hq : keq k e.key with
  | true =>
   rw [hq] at h
   cases h
   rw [List.modify_zero_cons, va_cons, va_cons]
   dsimp only
   have : k = e.key := (keq_eq hk he1).1 hq
   rw [← this]
   split <;> rfl
  | false =>
   rw [hq] at h
   dsimp only at h
   rw [fi_shift] at h
   cases hf : fi r k 0 with
   | none => rw [hf] at h; cases h
   | some p =>
    obtain ⟨j', v'⟩ := p
    rw [hf] at h
    cases h
    rw [List.modify_succ_cons, va_cons, va_cons, va_modify hk hk' (fun e h => he e (List.mem_cons_of_mem _ h)) hf]
    by_cases h1 : keq k' e.key = true
    ·rw [if_pos h1, if_pos h1]
     have : k' = e.key := (keq_eq hk' he1).1 h1
     have h2 : keq k' k = false := by rw [this, keq_comm he1 hk]; exact hq
     simp [h2]
    ·rw [if_neg h1, if_neg h1]
theorem va_upM {es : List MapEntry} {k v : Value} {c : Nat} (he : ∀ e ∈ es, kOk kd e.key = true) (hk : kOk kd k = true) {k' : Value} (hk' : kOk kd k' = true) : va (upM es k v c).1 k' = if keq k' k = true then some v else va es k' := by
 unfold upM
 cases hf : fi es k 0 with
 | some p => obtain ⟨j, v0⟩ := p; exact va_modify hk hk' he hf
 | none =>
  dsimp only
  rw [va_append, va_cons, va_nil]
  dsimp only
  have hn := fi_none_iff.1 hf
  split
  ·rename_i h
   rw [va_congr hk hk' h, hn]; rfl
  ·simp
theorem upM_keys {es : List MapEntry} {k v : Value} {c : Nat} (hk : kOk kd k = true) (he : ∀ e ∈ es, kOk kd e.key = true) : ∀ e ∈ (upM es k v c).1, kOk kd e.key = true := by
 unfold upM
 cases hf : fi es k 0 with
 | some p =>
  obtain ⟨j, v0⟩ := p
  intro e hm
  dsimp only at hm
  obtain ⟨i, hi, rfl⟩ := List.getElem_of_mem hm
  rw [List.getElem_modify]
  split
  ·exact hk
  ·exact he _ (List.getElem_mem _)
 | none =>
  intro e hm
  rcases List.mem_append.1 hm with h | h
  ·exact he e h
  ·simp at h; subst h; exact hk
def NdK (es : List MapEntry) : Prop := es.Pairwise fun a b => keq a.key b.key = false
theorem NdK.upM {es : List MapEntry} {k v : Value} {c : Nat} (hn : NdK es) (hk : kOk kd k = true) (he : ∀ e ∈ es, kOk kd e.key = true) : NdK (upM es k v c).1 := by
 unfold TL.upM
 cases hf : fi es k 0 with
 | some p =>
  obtain ⟨j, v0⟩ := p
  dsimp only
  have hkey : (es.modify j fun e => { e with key := k, val := v }).map (·.key) = es.map (·.key) := by
   obtain ⟨hj, e, h1, h2, h3, _⟩ := fi_some hf
   apply List.ext_getElem
   ·simp
   ·intro i h4 h5
    simp only [List.getElem_map, List.getElem_modify]
    split
    ·rename_i hij
     subst hij
     rw [Nat.sub_zero] at h1
     have h6 : es[j]'(by simpa using h5) = e := by
      rw [List.getElem?_eq_getElem (by simpa using h5)] at h1; exact Option.some.inj h1
     rw [h6]
     exact (keq_eq hk (he e h2)).1 h3
    ·rfl
  have h1 : (es.map (·.key)).Pairwise fun a b => keq a b = false := List.pairwise_map.2 hn
  rw [← hkey] at h1
  exact List.pairwise_map.1 h1
 | none =>
  refine List.pairwise_append.2 ⟨hn, by simp, fun a ha b hb => ?_⟩
  simp at hb; subst hb
  dsimp only
  rw [keq_comm (he a ha) hk]
  exact va_none.1 (fi_none_iff.1 hf) a ha
theorem va_erase {k : Value} (hk : kOk kd k = true) {k' : Value} (hk' : kOk kd k' = true) : ∀ {es : List MapEntry} {j : Nat} {v0 : Value}, (∀ e ∈ es, kOk kd e.key = true) → NdK es → fi es k 0 = some (j, v0) → va (es.eraseIdx j) k' = if keq k' k = true then none else va es k'
 | [], _, _, _, _, h => by cases h
 | e :: r, j, v0, he, hn, h => by
  have he1 := he e List.mem_cons_self
  rw [fi] at h
  cases hq : keq k e.key with
  | true =>
   rw [hq] at h
   cases h
   rw [List.eraseIdx_zero, List.tail_cons, va_cons]
   have hke : k = e.key := (keq_eq hk he1).1 hq
   rw [← hke]
   split
   ·rename_i h1
    rw [va_congr hk hk' h1, va_none]
    intro e' hm
    rw [hke]
    exact (List.pairwise_cons.1 hn).1 e' hm
   ·rfl
  | false =>
   rw [hq] at h
   dsimp only at h
   rw [fi_shift] at h
   cases hf : fi r k 0 with
   | none => rw [hf] at h; cases h
   | some p =>
    obtain ⟨j', v'⟩ := p
    rw [hf] at h
    cases h
    rw [List.eraseIdx_cons_succ, va_cons, va_cons, va_erase hk hk' (fun e h => he e (List.mem_cons_of_mem _ h)) (List.pairwise_cons.1 hn).2 hf]
    by_cases h1 : keq k' e.key = true
    ·rw [if_pos h1, if_pos h1]
     have : k' = e.key := (keq_eq hk' he1).1 h1
     have h2 : keq k' k = false := by rw [this, keq_comm he1 hk]; exact hq
     simp [h2]
    ·rw [if_neg h1, if_neg h1]
theorem va_dlM {es : List MapEntry} {k : Value} (he : ∀ e ∈ es, kOk kd e.key = true) (hn : NdK es) (hk : kOk kd k = true) {k' : Value} (hk' : kOk kd k' = true) : va (dlM es k) k' = if keq k' k = true then none else va es k' := by
 unfold dlM
 cases hf : fi es k 0 with
 | some p => obtain ⟨j, v0⟩ := p; exact va_erase hk hk' he hn hf
 | none =>
  dsimp only
  split
  ·rename_i h
   rw [va_congr hk hk' h]; exact fi_none_iff.1 hf
  ·rfl
theorem dlM_sub (es : List MapEntry) (k : Value) : (dlM es k).Sublist es := by
 unfold dlM
 split
 ·exact List.eraseIdx_sublist _ _
 ·exact List.Sublist.refl _
theorem NdK.dlM {es : List MapEntry} (hn : NdK es) (k : Value) : NdK (dlM es k) := List.Pairwise.sublist (dlM_sub es k) hn
end
def OneMap (h : PH) (r : Nat) (S : Int → Bool) : Prop := ∃ es c, h r = some (.map (es : List MapEntry).toArray c) ∧ (∀ e ∈ es, kOk (.int .i64) e.key = true) ∧ ∀ k, va es (.int .i64 k) = if S k = true then some (.int .i64 1) else none
theorem OneMap.new {h : PH} {r : Nat} (e : h r = some (.map #[] 0)) : OneMap h r fun _ => false := ⟨[], 0, e, fun _ h => (by cases h), fun _ => rfl⟩
theorem OneMap.keep {h g : PH} {r : Nat} {S : Int → Bool} (x : OneMap h r S) (e : ∀ o, h r = some o → g r = some o) : OneMap g r S := by
 obtain ⟨es, c, h1, h2, h3⟩ := x
 exact ⟨es, c, e _ h1, h2, h3⟩
theorem OneMap.has {h : PH} {r : Nat} {S : Int → Bool} (x : OneMap h r S) : Has [r] h := fun b hb => by
 obtain ⟨es, c, h1, _⟩ := x
 simp at hb; subst hb; exact ⟨_, h1⟩
theorem OneMap.look {h : PH} {r : Nat} {S : Int → Bool} (x : OneMap h r S) (k : Int) : lkH (.int .i64) h (some r) (.int .i64 k) (.int .i64 0) (.int .i64 (if S k = true then 1 else 0)) (S k) := by
 obtain ⟨es, c, h1, h2, h3⟩ := x
 refine ⟨es, ⟨⟨c, h1⟩, h2⟩, ?_⟩
 rw [lk_va, h3]
 cases S k <;> rfl
theorem OneMap.put {h : PH} {r : Nat} {S : Int → Bool} (x : OneMap h r S) (k : Int) {K : PH → Prop} (hk : ∀ h', OneMap h' r (fun j => j == k || S j) → Chg [r] [r] h h' → K h') : muH (.int .i64) h (some r) (.int .i64 k) (.int .i64 1) K := by
 obtain ⟨es, c, h1, h2, h3⟩ := x
 refine ⟨r, es, c, rfl, h1, h2, hk _ ⟨_, _, PH.upd_same _ _ _, upM_keys rfl h2, fun j => ?_⟩ (Chg.upd _)⟩
 rw [va_upM h2 rfl rfl, h3]
 show (if (j == k) = true then _ else _) = if (j == k || S j) = true then _ else _
 cases j == k <;> rfl
end TL

namespace TL
open Go
theorem strLt_mk (l m : List UInt8) : strLt (mk l) (mk m) = decide (l < m) := by
 unfold strLt; rw [bys_mk, bys_mk, Proofs.bytesLess_eq]
structure PrR where
 p : List UInt8
 v : List UInt8
 deriving DecidableEq
def EncPr : Enc PrR where
 enc o := [.string (mk o.p), .string (mk o.v)]
 k := 2
 len _ := rfl
 one o v hv := by
  simp only [List.mem_cons, List.not_mem_nil, or_false] at hv
  rcases hv with rfl | rfl <;> rfl
 pos := by decide
def gPrs (l : List PrR) : Bool := decide (200 < l.length) || l.any fun o => decide (1000 < o.p.length) || decide (1000 < o.v.length)
theorem gPrs_no {l : List PrR} (hg : gPrs l = false) : l.length ≤ 200 ∧ ∀ o ∈ l, o.p.length ≤ 1000 ∧ o.v.length ≤ 1000 := by
 simp only [gPrs, Bool.or_eq_false_iff, List.any_eq_false, decide_eq_false_iff_not] at hg
 refine ⟨by omega, fun o ho => ?_⟩
 have := hg.2 o ho
 simp at this
 omega
structure OpR where
 k : Int
 p : List UInt8
 v : List UInt8
 deriving DecidableEq
def EncOp : Enc OpR where
 enc o := [.int .u8 o.k, .string (mk o.p), .string (mk o.v)]
 k := 3
 len _ := rfl
 one o v hv := by
  simp only [List.mem_cons, List.not_mem_nil, or_false] at hv
  rcases hv with rfl | rfl | rfl <;> rfl
 pos := by decide
structure OsR where
 a : Option Addr
 c : Nat
 ops : List OpR
def EncOs : Enc OsR where
 enc r := [.slice r.a r.ops.length r.c]
 k := 1
 len _ := rfl
 one o v hv := by
  simp only [List.mem_cons, List.not_mem_nil, or_false] at hv
  rcases hv with rfl; rfl
 pos := by decide
def EncS : Enc (List UInt8) where
 enc o := [.string (mk o)]
 k := 1
 len _ := rfl
 one o v hv := by
  simp only [List.mem_cons, List.not_mem_nil, or_false] at hv
  rcases hv with rfl; rfl
 pos := by decide
def Up (S : List PrR) : Prop := S.Pairwise fun a b => a.p < b.p
def look : List PrR → List UInt8 → Option (List UInt8)
 | [], _ => none
 | x :: r, p => if x.p = p then some x.v else look r p
def ins : List PrR → List UInt8 → List UInt8 → List PrR
 | [], p, v => [⟨p, v⟩]
 | x :: r, p, v => if p < x.p then ⟨p, v⟩ :: x :: r else if x.p = p then ⟨p, v⟩ :: r else x :: ins r p v
def del (S : List PrR) (p : List UInt8) : List PrR := S.filter fun x => decide (x.p ≠ p)
theorem look_ins (S : List PrR) (p v q : List UInt8) : look (ins S p v) q = if p = q then some v else look S q := by
 induction S with
 | nil => simp [ins, look]
 | cons x r ih =>
  unfold ins
  split
  ·rw [look]
  ·split
   ·rename_i h; rw [look, look, h]; split <;> rfl
   ·rename_i h
    rw [look, ih, look]
    by_cases h1 : x.p = q
    ·rw [if_pos h1, if_pos h1, if_neg (fun e => h (h1.trans e.symm))]
    ·rw [if_neg h1, if_neg h1]
theorem look_none {S : List PrR} {p : List UInt8} : look S p = none ↔ ∀ x ∈ S, x.p ≠ p := by
 induction S with
 | nil => simp [look]
 | cons x r ih =>
  rw [look]
  split
  ·rename_i h; simp [h]
  ·rename_i h; simp [h, ih]
theorem look_mem {S : List PrR} {p v : List UInt8} (h : look S p = some v) : ⟨p, v⟩ ∈ S := by
 induction S with
 | nil => simp [look] at h
 | cons x r ih =>
  rw [look] at h
  split at h
  ·rename_i h1
   cases h
   subst h1
   exact List.mem_cons_self
  ·exact List.mem_cons_of_mem _ (ih h)
theorem look_of_mem {S : List PrR} (hu : Up S) {x : PrR} (h : x ∈ S) : look S x.p = some x.v := by
 induction S with
 | nil => cases h
 | cons y r ih =>
  obtain ⟨h1, h2⟩ := List.pairwise_cons.1 hu
  rw [look]
  rcases List.mem_cons.1 h with rfl | h
  ·rw [if_pos rfl]
  ·rw [if_neg, ih h2 h]
   intro e
   have := h1 x h
   rw [e] at this
   exact List.lt_irrefl _ this
theorem ins_mem {S : List PrR} {p v : List UInt8} {x : PrR} (h : x ∈ ins S p v) : x = ⟨p, v⟩ ∨ x ∈ S := by
 induction S with
 | nil => simp [ins] at h; exact .inl h
 | cons y r ih =>
  unfold ins at h
  split at h
  ·rcases List.mem_cons.1 h with h | h
   ·exact .inl h
   ·exact .inr h
  ·split at h
   ·rcases List.mem_cons.1 h with h | h
    ·exact .inl h
    ·exact .inr (List.mem_cons_of_mem _ h)
   ·rcases List.mem_cons.1 h with h | h
    ·exact .inr (by rw [h]; exact List.mem_cons_self)
    ·rcases ih h with h | h
     ·exact .inl h
     ·exact .inr (List.mem_cons_of_mem _ h)
theorem lt_of_not {a b : List UInt8} (h1 : ¬ a < b) (h2 : a ≠ b) : b < a :=
 Classical.byContradiction fun h => h2 (List.le_antisymm (List.not_lt.1 h) (List.not_lt.1 h1))
theorem Up.ins {S : List PrR} (hu : Up S) (p v : List UInt8) : Up (ins S p v) := by
 induction S with
 | nil => simp [TL.ins, Up]
 | cons x r ih =>
  obtain ⟨h1, h2⟩ := List.pairwise_cons.1 hu
  unfold TL.ins
  split
  ·rename_i h
   refine List.pairwise_cons.2 ⟨fun y hy => ?_, hu⟩
   rcases List.mem_cons.1 hy with rfl | hy
   ·exact h
   ·exact List.lt_trans h (h1 y hy)
  ·rename_i h
   split
   ·rename_i h3
    refine List.pairwise_cons.2 ⟨fun y hy => ?_, h2⟩
    rw [← h3]; exact h1 y hy
   ·rename_i h3
    refine List.pairwise_cons.2 ⟨fun y hy => ?_, ih h2⟩
    rcases ins_mem hy with rfl | hy
    ·exact lt_of_not h (fun e => h3 e.symm)
    ·exact h1 y hy
theorem Up.del {S : List PrR} (hu : Up S) (p : List UInt8) : Up (del S p) := hu.sublist List.filter_sublist
theorem Up.nodup {S : List PrR} (hu : Up S) : (S.map (·.p)).Nodup := by
 refine List.pairwise_map.2 (hu.imp fun {a b} h e => ?_)
 rw [e] at h
 exact List.lt_irrefl _ h
theorem Up.ext : ∀ {S T : List PrR}, Up S → Up T → (∀ p, look S p = look T p) → S = T
 | [], [], _, _, _ => rfl
 | [], y :: t, _, _, h => by have := h y.p; simp [look] at this
 | x :: s, [], _, _, h => by have := h x.p; simp [look] at this
 | x :: s, y :: t, hs, ht, h => by
  obtain ⟨s1, s2⟩ := List.pairwise_cons.1 hs
  obtain ⟨t1, t2⟩ := List.pairwise_cons.1 ht
  have hxy : x.p = y.p := by
   have hx := h x.p
   rw [look, if_pos rfl, look] at hx
   have hy := h y.p
   rw [look] at hy
   by_cases e : x.p = y.p
   ·exact e
   ·rw [if_neg (fun e2 => e e2.symm)] at hx
    rw [if_neg e, look, if_pos rfl] at hy
    have m1 := t1 _ (look_mem hx.symm)
    have m2 := s1 _ (look_mem hy)
    exact absurd (List.lt_trans m1 m2) (List.lt_irrefl _)
  have hv : x.v = y.v := by
   have hx := h x.p
   rw [look, if_pos rfl, look, if_pos hxy.symm] at hx
   exact Option.some.inj hx
  have hrest : s = t := Up.ext s2 t2 fun p => by
   have := h p
   rw [look, look] at this
   by_cases e : x.p = p
   ·have e1 : look s p = none := look_none.2 fun z hz e2 => by have := s1 z hz; rw [e2, ← e] at this; exact List.lt_irrefl _ this
    have e3 : look t p = none := look_none.2 fun z hz e2 => by have := t1 z hz; rw [e2, ← e, hxy] at this; exact List.lt_irrefl _ this
    rw [e1, e3]
   ·rw [if_neg e, if_neg (fun e2 => e (hxy.trans e2))] at this
    exact this
  rw [hrest]
  cases x; cases y
  simp only at hxy hv
  rw [hxy, hv]
theorem ins_len (S : List PrR) (p v : List UInt8) (hu : Up S) : (ins S p v).length = S.length + if look S p = none then 1 else 0 := by
 induction S with
 | nil => simp [ins, look]
 | cons x r ih =>
  obtain ⟨h1, h2⟩ := List.pairwise_cons.1 hu
  unfold ins
  split
  ·rename_i h
   have : look (x :: r) p = none := look_none.2 fun y hy e => by
    rcases List.mem_cons.1 hy with rfl | hy
    ·rw [e] at h; exact List.lt_irrefl _ h
    ·have := h1 y hy; rw [e] at this; exact List.lt_irrefl _ (List.lt_trans h this)
   simp [this]
  ·split
   ·rename_i h; simp [look, h]
   ·rename_i h
    rw [List.length_cons, ih h2, look, if_neg h, List.length_cons]; omega
end TL

namespace TL
open Go
def rotr (x n : Nat) : Nat := x * 2 ^ (32 - n) % 4294967296 ||| x / 2 ^ n
def iv (l : List Nat) : List Int := l.map Int.ofNat
def Bd (l : List Nat) : Prop := ∀ x ∈ l, x < 4294967296
theorem iv_len (l : List Nat) : (iv l).length = l.length := by simp [iv]
theorem iv_get (l : List Nat) (i : Nat) : (iv l).getD i 0 = ((l.getD i 0 : Nat) : Int) := by
 unfold iv
 simp only [List.getD_eq_getElem?_getD, List.getElem?_map]
 cases l[i]? <;> rfl
theorem iv_set (l : List Nat) (i n : Nat) : (iv l).set i (n : Int) = iv (l.set i n) := by
 unfold iv; rw [List.map_set]; rfl
theorem getD_part {α : Type} (l : List α) (k : Nat) (d : α) : ((l.drop k).take 1).getD 0 d = l.getD k d := by
 simp only [List.getD_eq_getElem?_getD]
 rw [List.getElem?_take_of_lt (by decide), List.getElem?_drop, Nat.add_zero]
theorem getD_take1 {α : Type} (l : List α) (d : α) : (l.take 1).getD 0 d = l.getD 0 d := getD_part l 0 d
theorem getD_drop {α : Type} (l : List α) (k : Nat) (d : α) : (l.drop k).getD 0 d = l.getD k d := by
 simp only [List.getD_eq_getElem?_getD]
 rw [List.getElem?_drop, Nat.add_zero]
theorem Bd.get {l : List Nat} (h : Bd l) (i : Nat) : l.getD i 0 < 4294967296 := by
 rw [List.getD_eq_getElem?_getD]
 cases e : l[i]? with
 | none => simp
 | some x => exact h x (List.mem_of_getElem? e)
theorem Bd.set {l : List Nat} (h : Bd l) (i : Nat) {n : Nat} (hn : n < 4294967296) : Bd (l.set i n) := fun x hx => by
 rcases List.mem_or_eq_of_mem_set hx with hx | rfl
 ·exact h x hx
 ·exact hn
theorem wrap32 (n : Nat) : IntKind.wrap .u32 (n : Int) = ((n % 4294967296 : Nat) : Int) := by
 simp [IntKind.wrap, IntKind.bits, IntKind.signed]
theorem bv_nat {w : Nat} (n : Nat) : (BitVec.ofInt w (n : Int)).toNat = n % 2 ^ w := by
 rw [BitVec.ofInt_natCast, BitVec.toNat_ofNat]
theorem xor32 {a b : Nat} (ha : a < 4294967296) (hb : b < 4294967296) : bitsV .xor .u32 (a : Int) (b : Int) = ((a ^^^ b : Nat) : Int) := by
 have h : a ^^^ b < 2 ^ 32 := Nat.xor_lt_two_pow (by simpa using ha) (by simpa using hb)
 show IntKind.wrap .u32 (((BitVec.ofInt 32 (a : Int) ^^^ BitVec.ofInt 32 (b : Int)).toNat : Nat) : Int) = _
 rw [BitVec.toNat_xor, bv_nat, bv_nat, Nat.mod_eq_of_lt (by simpa using ha), Nat.mod_eq_of_lt (by simpa using hb), wrap32, Nat.mod_eq_of_lt (by simpa using h)]
theorem and32 {a b : Nat} (ha : a < 4294967296) (hb : b < 4294967296) : bitsV .and .u32 (a : Int) (b : Int) = ((a &&& b : Nat) : Int) := by
 have h : a &&& b < 2 ^ 32 := Nat.and_lt_two_pow _ (by simpa using hb)
 show IntKind.wrap .u32 (((BitVec.ofInt 32 (a : Int) &&& BitVec.ofInt 32 (b : Int)).toNat : Nat) : Int) = _
 rw [BitVec.toNat_and, bv_nat, bv_nat, Nat.mod_eq_of_lt (by simpa using ha), Nat.mod_eq_of_lt (by simpa using hb), wrap32, Nat.mod_eq_of_lt (by simpa using h)]
theorem or32 {a b : Nat} (ha : a < 4294967296) (hb : b < 4294967296) : bitsV .or .u32 (a : Int) (b : Int) = ((a ||| b : Nat) : Int) := by
 have h : a ||| b < 2 ^ 32 := Nat.or_lt_two_pow (by simpa using ha) (by simpa using hb)
 show IntKind.wrap .u32 (((BitVec.ofInt 32 (a : Int) ||| BitVec.ofInt 32 (b : Int)).toNat : Nat) : Int) = _
 rw [BitVec.toNat_or, bv_nat, bv_nat, Nat.mod_eq_of_lt (by simpa using ha), Nat.mod_eq_of_lt (by simpa using hb), wrap32, Nat.mod_eq_of_lt (by simpa using h)]
theorem xor_lt {a b : Nat} (ha : a < 4294967296) (hb : b < 4294967296) : a ^^^ b < 4294967296 := by
 have h : a ^^^ b < 2 ^ 32 := Nat.xor_lt_two_pow (by simpa using ha) (by simpa using hb)
 simpa using h
theorem and_lt {a b : Nat} (hb : b < 4294967296) : a &&& b < 4294967296 := by
 have h : a &&& b < 2 ^ 32 := Nat.and_lt_two_pow _ (by simpa using hb)
 simpa using h
theorem shr32 {a : Nat} {n : Nat} (hn : n ≤ 32) : shrV .u32 (a : Int) (n : Int) = ((a / 2 ^ n : Nat) : Int) := by
 unfold shrV
 rw [show min (n : Int).toNat (IntKind.bits .u32) = n by simp [IntKind.bits]; omega, Int.fdiv_eq_ediv_of_nonneg _ (Int.le_of_lt (by exact_mod_cast Nat.pow_pos (by decide)))]
 norm_cast
theorem div_lt {a n : Nat} (ha : a < 4294967296) : a / 2 ^ n < 4294967296 := Nat.lt_of_le_of_lt (Nat.div_le_self _ _) ha
theorem rotr_lt {x n : Nat} (hx : x < 4294967296) : rotr x n < 4294967296 := by
 have h : rotr x n < 2 ^ 32 := Nat.or_lt_two_pow (Nat.mod_lt _ (by decide)) (by have := div_lt (n := n) hx; simpa using this)
 simpa using h
def sg0 (x : Nat) : Nat := rotr x 7 ^^^ rotr x 18 ^^^ x / 2 ^ 3
def sg1 (x : Nat) : Nat := rotr x 17 ^^^ rotr x 19 ^^^ x / 2 ^ 10
def bs1 (x : Nat) : Nat := rotr x 6 ^^^ rotr x 11 ^^^ rotr x 25
def bs0 (x : Nat) : Nat := rotr x 2 ^^^ rotr x 13 ^^^ rotr x 22
def chooseN (e f g : Nat) : Nat := (e &&& f) ^^^ ((4294967295 ^^^ e) &&& g)
def majN (a b c : Nat) : Nat := (a &&& b) ^^^ (a &&& c) ^^^ (b &&& c)
def be (l : List UInt8) : Nat := l.foldl (fun x b => x * 256 + b.toNat) 0
def beB : Nat → Nat → List UInt8
 | 0, _ => []
 | n + 1, x => UInt8.ofNat (x / 2 ^ (8 * n)) :: beB n x
theorem beB_len : ∀ n x, (beB n x).length = n
 | 0, _ => rfl
 | n + 1, x => by simp [beB, beB_len n x]
def w16 (blk : List UInt8) (n : Nat) : List Nat := (List.range n).foldl (fun w i => w.set i (be ((blk.drop (4 * i)).take 4))) (List.replicate 64 0)
def wStep (w : List Nat) (i : Nat) : List Nat := w.set (16 + i) ((((w.getD i 0 + sg0 (w.getD (1 + i) 0)) % 4294967296 + w.getD (9 + i) 0) % 4294967296 + sg1 (w.getD (14 + i) 0)) % 4294967296)
def wAll (blk : List UInt8) (n : Nat) : List Nat := (List.range n).foldl wStep (w16 blk 16)
def rnd (k w v : List Nat) (i : Nat) : List Nat :=
 [(((((v.getD 7 0 + bs1 (v.getD 4 0)) % 4294967296 + chooseN (v.getD 4 0) (v.getD 5 0) (v.getD 6 0)) % 4294967296 + k.getD i 0) % 4294967296 + w.getD i 0) % 4294967296 + (bs0 (v.getD 0 0) + majN (v.getD 0 0) (v.getD 1 0) (v.getD 2 0)) % 4294967296) % 4294967296,
  v.getD 0 0, v.getD 1 0, v.getD 2 0,
  (v.getD 3 0 + ((((v.getD 7 0 + bs1 (v.getD 4 0)) % 4294967296 + chooseN (v.getD 4 0) (v.getD 5 0) (v.getD 6 0)) % 4294967296 + k.getD i 0) % 4294967296 + w.getD i 0) % 4294967296) % 4294967296,
  v.getD 4 0, v.getD 5 0, v.getD 6 0]
def rnds (k w v : List Nat) (n : Nat) : List Nat := (List.range n).foldl (rnd k w) v
def addH (h v : List Nat) (n : Nat) : List Nat := (List.range n).foldl (fun h i => h.set i ((h.getD i 0 + v.getD i 0) % 4294967296)) h
def turnN (h b k : List Nat) (blk : List UInt8) : List Nat := addH h (rnds k (wAll blk 48) b 64) 8
theorem fold_succ {α : Type} (f : α → Nat → α) (x : α) (n : Nat) : (List.range (n + 1)).foldl f x = f ((List.range n).foldl f x) n := by
 rw [List.range_succ, List.foldl_append]; rfl
theorem fold_inv {α : Type} (Q : α → Prop) (f : α → Nat → α) (hf : ∀ x i, Q x → Q (f x i)) {x : α} (hx : Q x) : ∀ n, Q ((List.range n).foldl f x)
 | 0 => hx
 | n + 1 => by rw [fold_succ]; exact hf _ _ (fold_inv Q f hf hx n)
theorem be_foldl : ∀ (l : List UInt8) (x : Nat), l.foldl (fun x b => x * 256 + b.toNat) x = x * 256 ^ l.length + be l
 | [], x => by simp [be]
 | b :: r, x => by
  unfold be
  rw [List.foldl_cons, List.foldl_cons, be_foldl r, be_foldl r (0 * 256 + b.toNat), List.length_cons, Nat.pow_succ, Nat.add_mul, Nat.zero_mul, Nat.zero_add]
  rw [Nat.mul_comm (256 ^ r.length) 256, ← Nat.mul_assoc, Nat.add_assoc]
theorem be_lt (l : List UInt8) : be l < 256 ^ l.length := by
 induction l with
 | nil => simp [be]
 | cons b r ih =>
  have h := be_foldl r (0 * 256 + b.toNat)
  unfold be
  rw [List.foldl_cons, h, List.length_cons, Nat.pow_succ, Nat.zero_mul, Nat.zero_add]
  have hb := b.toNat_lt
  have h2 : b.toNat * 256 ^ r.length + 256 ^ r.length ≤ 256 ^ r.length * 256 := by
   rw [← Nat.succ_mul, Nat.mul_comm (256 ^ r.length)]
   exact Nat.mul_le_mul_right _ (by omega)
  omega
theorem be4_lt {l : List UInt8} (h : l.length ≤ 4) : be l < 4294967296 := by
 have := be_lt l
 have h2 : 256 ^ l.length ≤ 256 ^ 4 := Nat.pow_le_pow_right (by decide) h
 have h3 : (256 : Nat) ^ 4 = 4294967296 := by decide
 omega
theorem w16_ok (blk : List UInt8) (n : Nat) : (w16 blk n).length = 64 ∧ Bd (w16 blk n) := by
 refine fold_inv (fun w : List Nat => w.length = 64 ∧ Bd w) _ (fun w i ⟨h1, h2⟩ => ⟨by simp [h1], h2.set i (be4_lt (by simp; omega))⟩) ⟨by simp, fun x hx => ?_⟩ n
 rw [(List.mem_replicate.1 hx).2]; decide
theorem wAll_ok (blk : List UInt8) (n : Nat) : (wAll blk n).length = 64 ∧ Bd (wAll blk n) :=
 fold_inv (fun w : List Nat => w.length = 64 ∧ Bd w) _ (fun w i ⟨h1, h2⟩ => ⟨by simp [h1], h2.set _ (Nat.mod_lt _ (by decide))⟩) (w16_ok blk 16) n
theorem rnd_ok {k w v : List Nat} {i : Nat} (hv : v.length = 8 ∧ Bd v) : (rnd k w v i).length = 8 ∧ Bd (rnd k w v i) := by
 refine ⟨rfl, fun x hx => ?_⟩
 simp only [rnd, List.mem_cons, List.not_mem_nil, or_false] at hx
 rcases hx with rfl | rfl | rfl | rfl | rfl | rfl | rfl | rfl
 ·exact Nat.mod_lt _ (by decide)
 ·exact hv.2.get _
 ·exact hv.2.get _
 ·exact hv.2.get _
 ·exact Nat.mod_lt _ (by decide)
 ·exact hv.2.get _
 ·exact hv.2.get _
 ·exact hv.2.get _
theorem rnds_ok {k w v : List Nat} (hv : v.length = 8 ∧ Bd v) (n : Nat) : (rnds k w v n).length = 8 ∧ Bd (rnds k w v n) :=
 fold_inv (fun v : List Nat => v.length = 8 ∧ Bd v) _ (fun _ _ h => rnd_ok h) hv n
theorem addH_ok {h v : List Nat} (hh : h.length = 8 ∧ Bd h) (n : Nat) : (addH h v n).length = 8 ∧ Bd (addH h v n) :=
 fold_inv (fun v : List Nat => v.length = 8 ∧ Bd v) _ (fun _ _ h => ⟨by simp [h.1], h.2.set _ (Nat.mod_lt _ (by decide))⟩) hh n
theorem turn_ok {h b k : List Nat} {blk : List UInt8} (hh : h.length = 8 ∧ Bd h) : (turnN h b k blk).length = 8 ∧ Bd (turnN h b k blk) := addH_ok hh 8
def h0N : List Nat := [1779033703, 3144134277, 1013904242, 2773480762, 1359893119, 2600822924, 528734635, 1541459225]
def kN : List Nat := [1116352408, 1899447441, 3049323471, 3921009573, 961987163, 1508970993, 2453635748, 2870763221,
 3624381080, 310598401, 607225278, 1426881987, 1925078388, 2162078206, 2614888103, 3248222580,
 3835390401, 4022224774, 264347078, 604807628, 770255983, 1249150122, 1555081692, 1996064986,
 2554220882, 2821834349, 2952996808, 3210313671, 3336571891, 3584528711, 113926993, 338241895,
 666307205, 773529912, 1294757372, 1396182291, 1695183700, 1986661051, 2177026350, 2456956037,
 2730485921, 2820302411, 3259730800, 3345764771, 3516065817, 3600352804, 4094571909, 275423344,
 430227734, 506948616, 659060556, 883997877, 958139571, 1322822218, 1537002063, 1747873779,
 1955562222, 2024104815, 2227730452, 2361852424, 2428436474, 2756734187, 3204031479, 3329325298]
theorem h0_ok : h0N.length = 8 ∧ Bd h0N := ⟨rfl, by unfold Bd; decide⟩
theorem k_ok : kN.length = 64 ∧ Bd kN := ⟨rfl, by unfold Bd; decide +kernel⟩
def blks : Nat → List Nat → List UInt8 → List Nat
 | 0, h, _ => h
 | n + 1, h, l => blks n (turnN h h kN (l.take 64)) (l.drop 64)
theorem blks_ok : ∀ (n : Nat) {h : List Nat} {l : List UInt8}, h.length = 8 ∧ Bd h → (blks n h l).length = 8 ∧ Bd (blks n h l)
 | 0, _, _, hh => hh
 | n + 1, _, _, hh => blks_ok n (turn_ok hh)
theorem blks_succ : ∀ (n : Nat) (h : List Nat) (l : List UInt8), blks (n + 1) h l = turnN (blks n h l) (blks n h l) kN ((l.drop (64 * n)).take 64)
 | 0, h, l => rfl
 | n + 1, h, l => by
  rw [blks, blks_succ n, blks, List.drop_drop]
  rw [show 64 + 64 * n = 64 * (n + 1) by omega]
theorem blks_add : ∀ (m n : Nat) (h : List Nat) (l : List UInt8), blks (m + n) h l = blks n (blks m h l) (l.drop (64 * m))
 | 0, n, h, l => by simp [blks]
 | m + 1, n, h, l => by
  rw [show m + 1 + n = (m + n) + 1 by omega, blks, blks_add m n, blks, List.drop_drop]
  rw [show 64 + 64 * m = 64 * (m + 1) by omega]
theorem blks_app : ∀ (n : Nat) (h : List Nat) (l r : List UInt8), 64 * n ≤ l.length → blks n h (l ++ r) = blks n h l
 | 0, _, _, _, _ => rfl
 | n + 1, h, l, r, hl => by
  rw [blks, blks, List.take_append_of_le_length (by omega), List.drop_append_of_le_length (by omega), blks_app n _ _ r (by rw [List.length_drop]; omega)]
def zrs (n : Nat) : Nat := (119 - n % 64) % 64
def padB (n : Nat) : List UInt8 := 128 :: (List.replicate (zrs n) 0 ++ beB 8 (n * 8 % 18446744073709551616))
def outN (h : List Nat) : List UInt8 := h.flatMap fun x => beB 4 x
def shaN (l : List UInt8) : List UInt8 := outN (blks ((l.length + (padB l.length).length) / 64) h0N (l ++ padB l.length))
theorem pad_len (n : Nat) : (n + (padB n).length) % 64 = 0 := by
 simp only [padB, List.length_cons, List.length_append, List.length_replicate, beB_len, zrs]
 omega
end TL

namespace TL
open Go
variable {h : PH} {b o n : Nat} {T : TypeId} {fr : Nat × Nat} {pre mid post new : List Value} {K : PH → Prop}
theorem rds_mid (hb : h b = some (.cells (pre ++ (mid ++ post)).toArray T fr)) (ho : o = pre.length) (hn : n = mid.length) : h.rds b o n = some mid := by
 subst ho hn
 rw [rds_of hb (by simp <;> omega)]
 rw [List.drop_left, List.take_left]
theorem st_mid (hb : h b = some (.cells (pre ++ (mid ++ post)).toArray T (0, 0))) (ho : o = pre.length) (hn : new.length = mid.length) (hk : ∀ h', h' b = some (.cells (pre ++ (new ++ post)).toArray T (0, 0)) → Chg [b] [b] h h' → K h') : stH h b o new K := by
 subst ho
 refine stH_mk hb (by simp <;> omega) (hk _ ?_ (Chg.upd _))
 rw [PH.upd_same]
 congr 2
 rw [List.take_left, hn, ← List.drop_drop, List.drop_left, List.drop_left, List.append_assoc]
theorem rds_mid' {cs : List Value} (hb : h b = some (.cells cs.toArray T fr)) (he : cs = pre ++ (mid ++ post)) (ho : o = pre.length) (hn : n = mid.length) : h.rds b o n = some mid := by
 subst he; exact rds_mid hb ho hn
theorem st_mid' {cs cs' : List Value} (hb : h b = some (.cells cs.toArray T (0, 0))) (he : cs = pre ++ (mid ++ post)) (he' : pre ++ (new ++ post) = cs') (ho : o = pre.length) (hn : new.length = mid.length) (hk : ∀ h', h' b = some (.cells cs'.toArray T (0, 0)) → Chg [b] [b] h h' → K h') : stH h b o new K := by
 subst he he'; exact st_mid hb ho hn hk
theorem SR.off {α : Type} {E : Enc α} {a : Option Addr} {l : List α} {h' : PH} {B B' : List Nat} (x : SR E h a l) (Q : Value → Bool) (hE : ∀ y, ∃ v ∈ E.enc y, Q v = true) (hB : ∀ b ∈ B, ∀ cs T fr, h b = some (.cells cs T fr) → ∀ v ∈ cs.toList, Q v = false) (c : Chg B B' h h') : SR E h' a l := by
 rcases x with h0 | ⟨b, o, ha, hr⟩
 ·exact .inl h0
 ·cases l with
  | nil => exact .inl rfl
  | cons y r =>
   obtain ⟨cs, T, fr, hb, hle, hv⟩ := rds_some hr
   have hbB : b ∉ B := fun hm => by
    obtain ⟨v, hv1, hv2⟩ := hE y
    have h1 : v ∈ E.row (y :: r) := by rw [E.row_cons]; exact List.mem_append_left _ hv1
    rw [hv] at h1
    have h2 := hB b hm cs T fr hb v (List.mem_of_mem_drop (List.mem_of_mem_take h1))
    rw [h2] at hv2; cases hv2
   refine .inr ⟨b, o, ha, ?_⟩
   unfold PH.rds at hr ⊢
   rw [hb] at hr
   rw [c.keep hb hbB]; exact hr
def bi (l : List UInt8) : List Int := l.map fun b => (b.toNat : Int)
theorem bi_len (l : List UInt8) : (bi l).length = l.length := by simp [bi]
theorem row_bi (l : List UInt8) : EncB.row l = (bi l).map (Value.int .u8) := by rw [row_map, bi, List.map_map]; rfl
theorem bi_inj {l m : List UInt8} (h : bi l = bi m) : l = m := by
 unfold bi at h
 exact (List.map_inj_right (fun a b e => UInt8.toNat_inj.1 (by omega))).1 h
theorem bi_beq (l m : List UInt8) : (bi l == bi m) = decide (l = m) := by
 by_cases e : l = m
 ·simp [e]
 ·simp only [e, decide_false, beq_eq_false_iff_ne, ne_eq]
  exact fun h => e (bi_inj h)
end TL

namespace TL
open Go Go.Proofs
variable {B : List Nat} {h : PH} {K : Value → PH → Prop}
theorem ro_shape {P : Program} {g : PH} {r : Nat} {o : Obj} (e : g r = some o) : ro P (Go.shape r) g = some (shapeOf o) := by
 simp only [Go.shape, ro, e]
theorem ro_frozen {P : Program} {g : PH} {a : Addr} {c : Array Value} {T : TypeId} {fr : Nat × Nat} (e : g a.block = some (.cells c T fr)) : ro P (Go.frozen a) g = some (decide (fr.1 ≤ a.off) && decide (a.off < fr.2)) := by
 simp only [Go.frozen, ro, e]
theorem ro_noView {P : Program} {g : PH} {a : Addr} {c : Array Value} {T : TypeId} {fr : Nat × Nat} (e : g a.block = some (.cells c T fr)) : ro P (noView a) g = some () := by
 unfold noView viewAt
 rw [ro_bind, ro_bind, ro_shape e]
 rfl
theorem ro_stringish {P : Program} {g : PH} {a : Addr} {c : Array Value} {T : TypeId} (e : g a.block = some (.cells c T (0, 0))) : ro P (stringish a) g = some false := by
 unfold stringish
 rw [ro_bind, ro_frozen e]
 simp only [Nat.not_lt_zero, decide_false, Bool.and_false, Option.bind_some, Bool.false_eq_true, if_false]
 rw [ro_bind, ro_shape e]
 simp only [shapeOf, Option.bind_some]
 refine (ro_frozen (a := { block := a.block, off := c.size }) (c := c) (T := T) (fr := (0, 0)) e).trans ?_
 simp
theorem ro_apart {P : Program} {g : PH} {a b : Addr} {ca cb : Array Value} {Ta Tb : TypeId} (ea : g a.block = some (.cells ca Ta (0, 0))) (eb : g b.block = some (.cells cb Tb (0, 0))) : ro P (mayBeOne a b) g = some false := by
 unfold mayBeOne
 simp only []
 rw [ro_bind, ro_stringish ea, Option.bind_some]
 rw [ro_bind, ro_stringish eb, Option.bind_some]
 rw [ro_bind, ro_bind, ro_shape ea]
 simp only [Option.bind_some, ro_pure]
 rw [ro_bind, ro_bind, ro_shape eb]
 simp only [Option.bind_some, ro_pure, Bool.false_and, Bool.false_or]
theorem ro_overlaps {P : Program} {g : PH} {ts rs : Array TypeId} {t el : TypeId} {i : TypeInfo} {a b : Addr} {la lb sa sb : Nat} {ca cb : Array Value} {Ta Tb : TypeId} (ht : ts[0]? = some t) (hu : P.underlying t = some (.slice el)) (hi : P.info? el = some i)
  (hn : a.block ≠ b.block) (ea : g a.block = some (.cells ca Ta (0, 0))) (eb : g b.block = some (.cells cb Tb (0, 0))) : ro P (Extern.SlicesOverlaps.overlaps ts rs #[.slice (some a) la sa, .slice (some b) lb sb]) g = some (.bool false) := by
 change ro P (α := Value) (do
  let some t := ts[0]? | stuck "slices.overlaps: no parameter types"
  let .slice elem ← underlying t | stuck "slices.overlaps: slice type expected"
  let size ← sizeOf elem
  match (some a : Option Addr), (some b : Option Addr) with
  | some a, some b =>
   if la = 0 ∨ lb = 0 ∨ size = 0 then pure (Value.bool false)
   else if a.block != b.block && (← Go.frozen a) && (← Go.frozen b) then unsupported .addressObserved
   else do
    if a.block != b.block then do
     noView a; noView b
     if ← mayBeOne a b then return Value.bool ((← choose (.extern "sameAddr.stringBytes" 2)) == 1)
    pure (Value.bool (a.block == b.block && a.off < b.off + lb * size && b.off < a.off + la * size))
  | _, _ => pure (Value.bool false)) g = _
 simp only [ht]
 rw [ro_bind, ro_underlying, hu, Option.bind_some]
 simp only []
 rw [ro_bind, ro_sizeOf, hi]
 simp only [Option.map_some, Option.bind_some]
 split
 ·rfl
 ·have hb : (a.block != b.block) = true := by simpa using hn
  have hb2 : (a.block == b.block) = false := by simpa using hn
  simp only [hb, hb2, Bool.true_and, Bool.false_and, if_true]
  rw [ro_bind, ro_frozen ea]
  simp only [Nat.not_lt_zero, decide_false, Bool.and_false, Option.bind_some, Bool.false_and]
  rw [ro_bind, ro_frozen eb]
  simp only [Nat.not_lt_zero, decide_false, Bool.and_false, Option.bind_some, Bool.false_eq_true, if_false]
  rw [ro_bind, ro_noView ea, Option.bind_some]
  rw [ro_bind, ro_noView eb, Option.bind_some]
  rw [ro_bind, ro_apart ea eb, Option.bind_some]
  rfl
def cmp3 (a b : List UInt8) : Int := if a < b then -1 else if a = b then 0 else 1
theorem compareBytes_eq : ∀ a b : List UInt8, Lib.compareBytes a b = cmp3 a b
 | [], [] => by simp [Lib.compareBytes, cmp3]
 | [], _ :: _ => by simp [Lib.compareBytes, cmp3]
 | _ :: _, [] => by simp [Lib.compareBytes, cmp3]
 | x :: a, y :: b => by
  have ih := compareBytes_eq a b
  unfold Lib.compareBytes
  unfold cmp3 at ih ⊢
  simp only [List.cons_lt_cons_iff, List.cons.injEq]
  by_cases h1 : x < y
  ·simp [h1]
  ·by_cases h2 : x = y
   ·subst h2; simp [ih]
   ·have h3 : y < x := by
     have := UInt8.lt_or_lt_of_ne h2
     rcases this with h | h
     ·exact absurd h h1
     ·exact h
    simp [h1, h2, h3]
theorem cmp3_lt {a b : List UInt8} : cmp3 a b < 0 ↔ a < b := by
 unfold cmp3
 split
 ·simp [*]
 ·split <;> simp [*]
theorem cmp3_eq {a b : List UInt8} : (cmp3 a b == 0) = decide (a = b) := by
 unfold cmp3
 split
 ·rename_i h
  have : a ≠ b := fun e => by subst e; exact List.lt_irrefl a h
  simp [this]
 ·split <;> simp [*]
theorem cCompare {a b : List UInt8} (hk : K (.int .i64 (cmp3 a b)) h) : CallH Tryz.prog id_strings_Compare [.string (mk a), .string (mk b)] K h := by
 refine F_strings_Compare_ok (F_internal_bytealg_CompareString_ok (extH_on Tryz.func188 (by kernel_rfl) (by kernel_rfl) (by kernel_rfl) (e := Extern.BytealgCompare.compare) (by kernel_rfl) (fun g _ => (?_ : _ = some (Value.int .i64 (cmp3 a b)))) ⟨_, rfl, _, rfl, hk⟩))
 change ro Tryz.prog (do pure (goInt (Extern.BytealgCompare.cmp (← Extern.Bytes.bytesOf (.string (mk a))) (← Extern.Bytes.bytesOf (.string (mk b)))))) g = _
 simp only [Extern.Bytes.bytesOf]
 rw [ro_bind, ro_pure, Option.bind_some, ro_bind, ro_pure, Option.bind_some, ro_pure, Lib.cmp_eq, ← compareBytes_eq]
 rfl
end TL

namespace TL
open Go Go.Proofs
variable {B : List Nat} {h : PH} {K : Value → PH → Prop} {a : Option Addr} {n c i : Nat} {l : List PrR} {y : PrR}
theorem cOverlaps {h : PH} {K : Value → PH → Prop} {va b va0 b0 la sa lb sb : Nat} {ca cb : Array Value} {Ta Tb : TypeId} (hn : va ≠ b) (ea : h va = some (.cells ca Ta (0, 0))) (eb : h b = some (.cells cb Tb (0, 0))) (hk : K (.bool false) h) :
  ExtH Tryz.prog id_slices_overlaps_api_Pair [.slice (some ⟨va, va0, none⟩) la sa, .slice (some ⟨b, b0, none⟩) lb sb] K h :=
 extH_on Tryz.func143 (by kernel_rfl) (by kernel_rfl) (by kernel_rfl) (e := Extern.SlicesOverlaps.overlaps #[27, 27] #[4]) (by kernel_rfl) (fun g hg => ro_overlaps (t := 27) (el := T_api_Pair) (i := (Tryz.prog.info? T_api_Pair).getD default) rfl (by kernel_rfl) (by kernel_rfl) hn (hg _ _ ea) (hg _ _ eb)) hk
def zPr : PrR := ⟨[], []⟩
theorem rep_z (m : Nat) : (List.replicate m [Value.string (⟨#[]⟩ : ByteArray), .string (⟨#[]⟩ : ByteArray)]).flatten = EncPr.row (List.replicate m zPr) := by
 induction m with
 | zero => rfl
 | succ m ih => rw [List.replicate_succ, List.flatten_cons, ih, List.replicate_succ, EncPr.row_cons]; rfl
theorem slA_at {b o i c : Nat} {L mx : Int} (hL : L.toNat = i) (hm : mx.toNat = c) (h : i < c) : slA (some ⟨b, o, none⟩ : Option Addr) 2 L mx = some ⟨b, o + i * 2, none⟩ := by
 unfold slA; rw [hL, hm, if_neg (by omega), Option.map_some, addr_add]
theorem one_pr {vb : Nat} {T' : TypeId} {fr : Nat × Nat} (hv : h vb = some (.cells (EncPr.enc y).toArray T' fr)) : SR EncPr h (some ⟨vb, 0, none⟩) [y] :=
 .inr ⟨vb, 0, rfl, by rw [rds_of hv (by simp [EncPr])]; rfl⟩
theorem SR.keep1 {α : Type} {E : Enc α} {vb o : Nat} {l : List α} {C C' : List Nat} {h' : PH} (x : SR E h (some ⟨vb, o, none⟩) l) (c : Chg C C' h h') (hv : vb ∉ C) : SR E h' (some ⟨vb, o, none⟩) l := by
 rcases x with x | ⟨b, o', e, hr⟩
 ·exact .inl x
 ·cases e
  refine .inr ⟨_, _, rfl, ?_⟩
  unfold PH.rds at hr ⊢
  cases e : h vb with
  | none => rw [e] at hr; cases hr
  | some ob => rw [e] at hr; rw [c.keep e hv]; exact hr
set_option maxHeartbeats 1000000 in
theorem cInsert {vb : Nat} {T' : TypeId} (x : Buf EncPr T_api_Pair B h a n c l) (hv : h vb = some (.cells (EncPr.enc y).toArray T' (0, 0))) (hvb : vb ∉ B) (hi : i ≤ n) (hn : n ≤ 1000)
  (hk : ∀ a' c' B' h', Buf EncPr T_api_Pair B' h' a' (n + 1) c' (l.take i ++ y :: l.drop i) → Chg B B' h h' → K (.slice a' (n + 1) c') h') :
  CallH Tryz.prog id_slices_Insert_api_Pair_api_Pair [.slice a n c, .int .i64 (i : Int), .slice (some ⟨vb, 0, none⟩) 1 1] K h := by
 have hle := x.le
 have hnl := x.1
 have sv := one_pr hv
 have w1 : IntKind.wrap .i64 (((n : Nat) : Int) + ((1 : Nat) : Int)) = ((n + 1 : Nat) : Int) := by rw [wrap64] <;> omega
 have w2 : IntKind.wrap .i64 (((n + 1 : Nat) : Int) - ((i : Nat) : Int)) = ((n + 1 - i : Nat) : Int) := by rw [wrap64] <;> omega
 have w3 : IntKind.wrap .i64 (((i : Nat) : Int) + ((1 : Nat) : Int)) = ((i + 1 : Nat) : Int) := by rw [wrap64] <;> omega
 refine F_slices_Insert_api_Pair_api_Pair_ok ⟨⟨by omega, by omega, by omega, by omega⟩, fun e => by simp at e, fun _ => ⟨fun e => ?_, fun e => ?_⟩⟩
 ·have e : i = n := by simp at e; omega
  subst e
  refine ⟨EncPr.row [y], sv.src, x.append (new := [y]) rfl rfl rfl (by omega) fun a' c' B' h' hb hc _ => hk a' c' B' h' ?_ hc⟩
  rw [hnl, List.take_length, List.drop_length, ← hnl]; exact hb
 ·have hin : i < n := by simp at e; omega
  simp only [w1, w2, w3, Int.toNat_natCast, Int.toNat_zero, Nat.sub_zero]
  refine ⟨fun e => ?_, fun e => ?_⟩
  ·have e : c = n := by simp at e; omega
   subst e
   have hm : i + (c + 1 - i) = c + 1 := by omega
   have s1 := x.sr.part (lo := 0) (hi := i) (L := 0) (mx := ((c : Nat) : Int)) rfl (by omega) (by omega) (by omega)
   rw [List.drop_zero, Nat.sub_zero] at s1
   refine ⟨⟨by omega, by omega, by omega, by omega⟩, ⟨by omega, by omega⟩, ?_, fun hle => by omega, fun _ => ⟨by omega, _, s1, fun c' hc' _ => nwL fun b2 h2 hb2n hb2 c2 => ?_⟩⟩
   ·rw [rep_z, EncPr.row_len, List.length_replicate]; rfl
   ·rw [hm] at hc' hb2 ⊢
    have sv2 : SR EncPr h2 (some ⟨vb, 0, none⟩) [y] := sv.sub c2.sub0
    have hbB : b2 ∉ B := fun hm => by obtain ⟨o, e⟩ := x.has b2 hm; rw [hb2n] at e; cases e
    have m1 : min 1 (c + 1 - i) = 1 := by omega
    have m2 : min (c - i) (c + 1 - (i + 1)) = c - i := by omega
    have hil : (l.take i).length = i := by rw [List.length_take]; omega
    have hdl : (l.drop i).length = c - i := by rw [List.length_drop]; omega
    rw [rep_z, rep_z] at hb2
    rw [m1]
    refine ⟨⟨by omega, by omega, by omega, by omega⟩, EncPr.row [y], sv2.src, fun e => by simp [EncPr, Enc.row] at e, fun _ => ⟨b2, 0 + i * 2, slA_at (c := c') (by omega) (by omega) (by omega), ?_⟩⟩
    refine st_mid' (pre := EncPr.row (l.take i)) (mid := EncPr.row [zPr]) (post := EncPr.row (List.replicate (c - i) zPr) ++ EncPr.row (List.replicate (c' - (c + 1)) zPr)) hb2 ?_ rfl ?_ (by rw [EncPr.row_len, EncPr.row_len]; rfl) fun h3 hb3 c3 => ?_
    ·have : EncPr.row (List.replicate (c + 1 - i) zPr) = EncPr.row [zPr] ++ EncPr.row (List.replicate (c - i) zPr) := by
      rw [show c + 1 - i = (c - i) + 1 by omega, List.replicate_succ]; exact EncPr.row_app [zPr] _
     rw [this]; simp only [List.append_assoc]
    ·rw [EncPr.row_len, hil, Nat.zero_add]; rfl
    ·have x3 : Buf EncPr T_api_Pair B h3 a c c l := (x.chg c2 (Dj.nil _)).chg c3 (notIn1 hbB)
     have s3 := x3.sr.part (lo := i) (hi := c) (L := ((i : Nat) : Int)) (mx := ((c : Nat) : Int)) (by omega) (by omega) (by omega) (by omega)
     rw [List.take_of_length_le (by omega)] at s3
     rw [m2]
     refine ⟨⟨by omega, by omega, by omega, by omega⟩, ⟨by omega, by omega, by omega, by omega⟩, EncPr.row (l.drop i), s3, fun e => ?_, fun _ => ⟨b2, 0 + (i + 1) * 2, slA_at (c := c') (by omega) (by omega) (by omega), ?_⟩⟩
     ·rw [EncPr.row_len, hdl] at e
      have : EncPr.k = 2 := rfl
      rw [this] at e; omega
     ·refine st_mid' (pre := EncPr.row (l.take i) ++ EncPr.row [y]) (mid := EncPr.row (List.replicate (c - i) zPr)) (post := EncPr.row (List.replicate (c' - (c + 1)) zPr)) hb3 (by simp only [List.append_assoc]) rfl ?_ (by rw [EncPr.row_len, EncPr.row_len, hdl, List.length_replicate]) fun h4 hb4 c4 => ?_
      ·rw [List.length_append, EncPr.row_len, EncPr.row_len, hil, Nat.zero_add]; show (i + 1) * 2 = i * 2 + 1 * 2; omega
      ·refine hk (some ⟨b2, 0, none⟩) c' [b2] h4 ⟨by simp; omega, .inr ⟨b2, EncPr.row (List.replicate (c' - (c + 1)) zPr), rfl, rfl, ?_, by rw [EncPr.row_len, List.length_replicate], by omega⟩⟩ ?_
       ·rw [hb4, show l.take i ++ y :: l.drop i = l.take i ++ ([y] ++ l.drop i) from rfl, EncPr.row_app, EncPr.row_app]
        simp only [List.append_assoc]
       ·exact ((c2.trans c3).trans c4).sub (by simp) (by simp)
  ·have e : n + 1 ≤ c := by simp at e; omega
   have xs := x.sr
   obtain ⟨_, ⟨rfl, _, _⟩ | ⟨b, tail, rfl, rfl, hb, h1, _⟩⟩ := x
   ·omega
   ·have hvb : vb ≠ b := fun e => hvb (by simp [e])
    have hil : (l.take i).length = i := by rw [List.length_take]; omega
    have hdl : (l.drop i).length = n - i := by rw [List.length_drop]; omega
    have m1 : min 1 (n + 1 - i) = 1 := by omega
    have m2 : min (n + 1 - i) (n + 1 - (i + 1)) = n - i := by omega
    have hk2 : EncPr.k = 2 := rfl
    refine ⟨⟨by omega, by omega, by omega, by omega⟩, ⟨by omega, by omega, by omega, by omega⟩, ?_⟩
    rw [slA0 (some ⟨b, 0, none⟩) (fun x e => by cases e; rfl)]
    rw [slA_at (i := i + 1) (c := c) (by omega) (by omega) (by omega)]
    refine cOverlaps hvb hv hb ⟨_, rfl, fun _ => ?_, fun e => by cases e⟩
    refine ⟨⟨by omega, by omega, by omega, by omega⟩, ⟨by omega, by omega, by omega, by omega⟩, ?_⟩
    rw [m1, m2]
    have hne : ∀ m : List PrR, m ≠ [] → (EncPr.row m).length ≠ 0 := fun m hm e => by
     rw [EncPr.row_len, hk2] at e
     exact hm (List.length_eq_zero_iff.1 (by omega))
    have s3 := xs.part (lo := i) (hi := n) (L := ((i : Nat) : Int)) (mx := ((c : Nat) : Int)) (by omega) (by omega) (by omega) (by omega)
    rw [List.take_of_length_le (by omega)] at s3
    have hd : l.drop i ≠ [] := fun e => by rw [e] at hdl; simp at hdl; omega
    refine ⟨EncPr.row (l.drop i), s3, fun e => absurd e (hne _ hd), fun _ => ⟨b, 0 + (i + 1) * 2, rfl, ?_⟩⟩
    have hsp : tail = tail.take 2 ++ tail.drop 2 := (List.take_append_drop 2 tail).symm
    have htl : tail.length = (c - n) * 2 := h1
    have ht2 : (tail.take 2).length = 2 := by rw [List.length_take, htl]; omega
    have hl1 : l = (l.take i ++ [l[i]'(by omega)]) ++ l.drop (i + 1) := by
     rw [List.take_append_getElem, List.take_append_drop]
    refine st_mid' (pre := EncPr.row (l.take i) ++ EncPr.row [l[i]'(by omega)]) (mid := EncPr.row (l.drop (i + 1)) ++ tail.take 2) (post := tail.drop 2) hb ?_ rfl ?_ ?_ fun h3 hb3 c3 => ?_
    ·conv => lhs; rw [hl1, EncPr.row_app, EncPr.row_app, hsp]
     simp only [List.append_assoc]
    ·rw [List.length_append, EncPr.row_len, EncPr.row_len, hil, Nat.zero_add]; show (i + 1) * 2 = i * 2 + 1 * 2; omega
    ·rw [EncPr.row_len, List.length_append, EncPr.row_len, ht2, hdl, List.length_drop, hk2]; omega
    ·refine ⟨⟨by omega, by omega, by omega, by omega⟩, EncPr.row [y], (sv.keep1 c3 (by simpa using hvb)).src, fun e => absurd e (hne _ (by simp)), fun _ => ⟨b, 0 + i * 2, slA_at (c := c) (by omega) (by omega) (by omega), ?_⟩⟩
     refine st_mid' (pre := EncPr.row (l.take i)) (mid := EncPr.row [l[i]'(by omega)]) (post := EncPr.row (l.drop i) ++ tail.drop 2) hb3 (by simp only [List.append_assoc]) rfl ?_ (by rw [EncPr.row_len, EncPr.row_len]; rfl) fun h4 hb4 c4 => ?_
     ·rw [EncPr.row_len, hil, Nat.zero_add]; rfl
     ·refine hk (some ⟨b, 0, none⟩) c [b] h4 ⟨by simp; omega, .inr ⟨b, tail.drop 2, rfl, rfl, ?_, by rw [List.length_drop, htl, hk2]; omega, e⟩⟩ (c3.trans c4)
      rw [hb4, show l.take i ++ y :: l.drop i = l.take i ++ ([y] ++ l.drop i) from rfl, EncPr.row_app, EncPr.row_app]
      simp only [List.append_assoc]
set_option maxHeartbeats 1000000 in
theorem cReplace {vb : Nat} {T' : TypeId} (x : Buf EncPr T_api_Pair B h a n c l) (hv : h vb = some (.cells (EncPr.enc y).toArray T' (0, 0))) (hvb : vb ∉ B) (hi : i < n) (hn : n ≤ 1000)
  (hk : ∀ h', Buf EncPr T_api_Pair B h' a n c (l.take i ++ y :: l.drop (i + 1)) → Chg B B h h' → K (.slice a n c) h') :
  CallH Tryz.prog id_slices_Replace_api_Pair_api_Pair [.slice a n c, .int .i64 (i : Int), .int .i64 ((i + 1 : Nat) : Int), .slice (some ⟨vb, 0, none⟩) 1 1] K h := by
 have hle := x.le
 have hnl := x.1
 have sv := one_pr hv
 have xs := x.sr
 have w1 : IntKind.wrap .i64 (((i : Nat) : Int) + ((1 : Nat) : Int)) = ((i + 1 : Nat) : Int) := by rw [wrap64] <;> omega
 have w2 : IntKind.wrap .i64 (((i + 1 : Nat) : Int) + ((n - (i + 1) : Nat) : Int)) = ((n : Nat) : Int) := by rw [wrap64] <;> omega
 have hil : (l.take i).length = i := by rw [List.length_take]; omega
 have hdl : (l.drop (i + 1)).length = n - (i + 1) := by rw [List.length_drop]; omega
 obtain ⟨_, ⟨rfl, _, _⟩ | ⟨b, tail, rfl, rfl, hb, h1, _⟩⟩ := id x
 ·omega
 have hvb : vb ≠ b := fun e => hvb (by simp [e])
 have hk2 : EncPr.k = 2 := rfl
 have hne : ∀ m : List PrR, m ≠ [] → (EncPr.row m).length ≠ 0 := fun m hm e => by
  rw [EncPr.row_len, hk2] at e
  exact hm (List.length_eq_zero_iff.1 (by omega))
 refine F_slices_Replace_api_Pair_api_Pair_ok ⟨⟨by omega, by omega, by omega, by omega⟩, fun e => by simp at e; omega, fun _ => ⟨fun e => ?_, fun e => ?_⟩⟩
 ·have e : i + 1 = n := by simp at e; omega
  rw [slA0 (some ⟨b, 0, none⟩) (fun x e => by cases e; rfl)]
  refine ⟨⟨by omega, by omega, by omega, by omega⟩, EncPr.row [y], sv.src, ?_⟩
  have hx := x.take (i := i) (by omega)
  refine hx.append (new := [y]) rfl rfl rfl (by show (i + 1) * 32 ≤ _; omega) fun a' c' B' h' hb' hc he => ?_
  obtain ⟨rfl, rfl, rfl⟩ := he (by omega)
  refine ⟨fun e2 => ?_, fun _ => ?_⟩
  ·simp at e2; omega
  ·have := hk h' ?_ hc
   ·show K (.slice _ (i + 1) _) h'
    rw [e]; exact this
   ·rw [List.drop_of_length_le (by omega), ← e]; exact hb'
 ·have e : i + 1 < n := by simp at e; omega
  refine ⟨⟨by omega, by omega, by omega, by omega⟩, ⟨by omega, by omega, by omega, by omega⟩, ?_⟩
  simp only [Int.toNat_natCast, Int.toNat_zero, Nat.sub_zero, w1, w2]
  rw [slA0 (some ⟨b, 0, none⟩) (fun x e => by cases e; rfl)]
  refine ⟨fun e2 => by simp at e2; omega, fun _ => ⟨⟨by omega, by omega, by omega, by omega⟩, fun _ => ⟨⟨by omega, by omega, by omega, by omega⟩, ?_⟩, fun e2 => by simp at e2⟩⟩
  have m1 : min 1 (n - i) = 1 := by omega
  have m2 : min (n - (i + 1)) (n - (i + 1)) = n - (i + 1) := by omega
  rw [m1]
  refine ⟨EncPr.row [y], sv.src, fun e => absurd e (hne _ (by simp)), fun _ => ⟨b, 0 + i * 2, slA_at (c := c) (by omega) (by omega) (by omega), ?_⟩⟩
  have hl1 : l = (l.take i ++ [l[i]'(by omega)]) ++ l.drop (i + 1) := by
   rw [List.take_append_getElem, List.take_append_drop]
  refine st_mid' (pre := EncPr.row (l.take i)) (mid := EncPr.row [l[i]'(by omega)]) (post := EncPr.row (l.drop (i + 1)) ++ tail) hb ?_ rfl ?_ ?_ fun h3 hb3 c3 => ?_
  ·conv => lhs; rw [hl1, EncPr.row_app, EncPr.row_app]
   simp only [List.append_assoc]
  ·rw [EncPr.row_len, hil, Nat.zero_add]; rfl
  ·rw [EncPr.row_len, EncPr.row_len]; rfl
  ·refine ⟨⟨by omega, by omega, by omega, by omega⟩, ⟨by omega, by omega, by omega, by omega⟩, ?_⟩
   rw [m2]
   have y3 : Buf EncPr T_api_Pair [b] h3 (some ⟨b, 0, none⟩) n c (l.take i ++ y :: l.drop (i + 1)) := ⟨by simp; omega, .inr ⟨b, tail, rfl, rfl, ?_, h1, hle⟩⟩
   ·have s3 := y3.sr.part (lo := i + 1) (hi := n) (L := ((i + 1 : Nat) : Int)) (mx := ((c : Nat) : Int)) (by omega) (by omega) (by simp; omega) (by omega)
    have hd : (l.take i ++ y :: l.drop (i + 1)).drop (i + 1) = l.drop (i + 1) := by
     rw [show l.take i ++ y :: l.drop (i + 1) = (l.take i ++ [y]) ++ l.drop (i + 1) by simp, List.drop_left' (by simp; omega)]
    rw [hd, List.take_of_length_le (by omega)] at s3
    refine ⟨EncPr.row (l.drop (i + 1)), s3, fun e2 => absurd e2 (hne _ fun e3 => by rw [e3] at hdl; simp at hdl; omega), fun _ => ⟨b, 0 + (i + 1) * 2, slA_at (c := c) (by omega) (by omega) (by omega), ?_⟩⟩
    refine st_mid' (pre := EncPr.row (l.take i) ++ EncPr.row [y]) (mid := EncPr.row (l.drop (i + 1))) (post := tail) hb3 (by simp only [List.append_assoc]) rfl ?_ rfl fun h4 hb4 c4 => ?_
    ·rw [List.length_append, EncPr.row_len, EncPr.row_len, hil, Nat.zero_add]; show (i + 1) * 2 = i * 2 + 1 * 2; omega
    ·refine ⟨⟨by omega, by omega, by omega, by omega⟩, fun _ => hk h4 ⟨by simp; omega, .inr ⟨b, tail, rfl, rfl, ?_, h1, hle⟩⟩ (c3.trans c4), fun e2 => by simp at e2⟩
     rw [hb4, show l.take i ++ y :: l.drop (i + 1) = l.take i ++ ([y] ++ l.drop (i + 1)) from rfl, EncPr.row_app, EncPr.row_app]
     simp only [List.append_assoc]
   ·rw [hb3, show l.take i ++ y :: l.drop (i + 1) = l.take i ++ ([y] ++ l.drop (i + 1)) from rfl, EncPr.row_app, EncPr.row_app]
    simp only [List.append_assoc]
theorem cClonePr {lA : Option Addr} {lC : Nat} (x : SR EncPr h lA l) (hn : l.length ≤ 1000) (hk : ∀ a' c' B' h', Buf EncPr T_api_Pair B' h' a' l.length c' l → Chg [] B' h h' → K (.slice a' l.length c') h') :
  CallH Tryz.prog id_slices_Clone_api_Pair_api_Pair [.slice lA l.length lC] K h :=
 F_slices_Clone_api_Pair_api_Pair_ok (CloneF_ok (sC := lC) x rfl (by omega) hk)
def posP (l : List PrR) (p : List UInt8) : Nat := (l.takeWhile fun x => decide (x.p < p)).length
theorem posP_le (l : List PrR) (p : List UInt8) : posP l p ≤ l.length := (List.takeWhile_prefix _).length_le
theorem posP_below {l : List PrR} {p : List UInt8} {j : Nat} (hj : j < posP l p) (hl : j < l.length) : l[j].p < p := by
 induction l generalizing j with
 | nil => simp at hl
 | cons x r ih =>
  unfold posP at hj
  rw [List.takeWhile_cons] at hj
  split at hj
  ·rename_i hx
   cases j with
   | zero => simpa using hx
   | succ j => exact ih (by simpa [posP] using hj) (by simpa using hl)
  ·simp at hj
theorem posP_above {l : List PrR} (hu : Up l) {p : List UInt8} {j : Nat} (hj : posP l p ≤ j) (hl : j < l.length) : ¬ l[j].p < p := by
 induction l generalizing j with
 | nil => simp at hl
 | cons x r ih =>
  unfold posP at hj
  rw [List.takeWhile_cons] at hj
  have hu := List.pairwise_cons.1 hu
  split at hj
  ·cases j with
   | zero => simp at hj
   | succ j => exact ih hu.2 (by simpa [posP] using hj) (by simpa using hl)
  ·rename_i hx
   have hx : ¬ x.p < p := by simpa using hx
   cases j with
   | zero => exact hx
   | succ j =>
    intro h
    exact hx (List.lt_trans (hu.1 _ (List.getElem_mem (by simpa using hl))) h)
theorem posP_eq {l : List PrR} {p : List UInt8} {m : Nat} (hm : m ≤ l.length) (h1 : ∀ j, (hj : j < l.length) → j < m → l[j].p < p) (h2 : ∀ j, (hj : j < l.length) → m ≤ j → ¬ l[j].p < p) : posP l p = m := by
 rcases Nat.lt_trichotomy (posP l p) m with h | h | h
 ·exfalso
  have hl : posP l p < l.length := by omega
  have := h1 _ hl h
  have e : (l.takeWhile fun x => decide (x.p < p)) = l.take (posP l p) := List.prefix_iff_eq_take.1 (List.takeWhile_prefix _)
  have h3 : (l.takeWhile fun x => decide (x.p < p)).length = posP l p := rfl
  have h4 := List.takeWhile_append_dropWhile (p := fun x => decide (x.p < p)) (l := l)
  have h5 : l.dropWhile (fun x => decide (x.p < p)) = l.drop (posP l p) := by
   have := congrArg (List.drop (posP l p)) h4
   rw [List.drop_left' h3] at this
   exact this
  have h6 := List.head?_dropWhile_not (fun x : PrR => decide (x.p < p)) l
  rw [h5, List.head?_drop, List.getElem?_eq_getElem hl] at h6
  simp at h6
  exact h6 this
 ·exact h
 ·exact absurd (posP_below h (by have := posP_le l p; omega)) (h2 m (by have := posP_le l p; omega) (Nat.le_refl _))
end TL

namespace TL
open Go Go.Proofs
variable {B : List Nat} {h : PH} {K : Value → PH → Prop} {a : Option Addr} {n c i : Nat} {l : List PrR} {y : PrR}
theorem look_at {l : List PrR} (hu : Up l) {p : List UInt8} : (look l p).isSome = if hp : posP l p < l.length then decide (l[posP l p].p = p) else false := by
 split
 ·rename_i hp
  by_cases e : l[posP l p].p = p
  ·have := look_of_mem hu (List.getElem_mem hp)
   rw [e] at this
   rw [this]; simp [e]
  ·have : look l p = none := look_none.2 fun x hx ex => by
    obtain ⟨j, hj, rfl⟩ := List.getElem_of_mem hx
    rcases Nat.lt_trichotomy j (posP l p) with h | h | h
    ·have := posP_below h hj; rw [ex] at this; exact List.lt_irrefl _ this
    ·subst h; exact e ex
    ·have h1 := posP_above hu (Nat.le_refl (posP l p)) hp
     have h2 := List.pairwise_iff_getElem.1 hu _ _ hp hj h
     rw [ex] at h2
     exact h1 h2
   rw [this]; simp [e]
 ·rename_i hp
  have : look l p = none := look_none.2 fun x hx ex => by
   obtain ⟨j, hj, rfl⟩ := List.getElem_of_mem hx
   have := posP_below (p := p) (j := j) (by omega) hj
   rw [ex] at this; exact List.lt_irrefl _ this
  rw [this]; rfl
theorem ins_at {l : List PrR} (hu : Up l) (p v : List UInt8) : ins l p v = l.take (posP l p) ++ ⟨p, v⟩ :: l.drop (posP l p + if (look l p).isSome then 1 else 0) := by
 induction l with
 | nil => rfl
 | cons x r ih =>
  have hu2 := List.pairwise_cons.1 hu
  unfold ins posP
  rw [List.takeWhile_cons]
  by_cases h1 : p < x.p
  ·have hn : ¬ x.p < p := fun h => List.lt_irrefl _ (List.lt_trans h h1)
   have : look (x :: r) p = none := look_none.2 fun y hy ey => by
    rcases List.mem_cons.1 hy with rfl | hy
    ·rw [ey] at h1; exact List.lt_irrefl _ h1
    ·have := hu2.1 y hy
     rw [ey] at this; exact hn this
   simp [h1, hn, this]
  ·by_cases h2 : x.p = p
   ·have hn : ¬ x.p < p := fun h => by rw [h2] at h; exact List.lt_irrefl _ h
    subst h2
    simp [look, List.lt_irrefl]
   ·have h3 : x.p < p := lt_of_not h1 (fun e => h2 e.symm)
    have ih := ih hu2.2
    unfold posP at ih
    rw [if_neg h1, if_neg h2, if_pos (by simpa using h3), ih]
    simp only [List.length_cons, List.take_succ_cons, List.cons_append, look, if_neg h2]
    congr 3
    rw [show ∀ m k : Nat, m + 1 + k = (m + k) + 1 by intros; omega, List.drop_succ_cons]
theorem cFind1 {p v q : List UInt8} (hk : K (.int .i64 (cmp3 p q)) h) : CallV Tryz.prog (.func (.func 142) #[] #[]) [.agg #[.string (mk p), .string (mk v)], .string (mk q)] K h :=
 ⟨by kernel_rfl, F_tree_Tree_find_1_ok (cCompare ⟨_, rfl, hk⟩)⟩
theorem cSearch (x : SR EncPr h a l) (hu : Up l) (hn : l.length ≤ 1000) {p : List UInt8} (hk : K (.tuple #[.int .i64 (posP l p : Nat), .bool (look l p).isSome]) h) :
  CallH Tryz.prog id_slices_BinarySearchFunc_api_Pair_api_Pair_string [.slice a l.length c, .string (mk p), .func (.func 142) #[] #[]] K h := by
 refine F_slices_BinarySearchFunc_api_Pair_api_Pair_string_ok rfl (LoopP.ind (fun (z : Int × Int × Unit) h' => h' = h ∧ ∃ i j : Nat, z.1 = i ∧ z.2.1 = j ∧ i ≤ j ∧ j ≤ l.length ∧ (∀ k, (hk : k < l.length) → k < i → l[k].p < p) ∧ (∀ k, (hk : k < l.length) → j ≤ k → ¬ l[k].p < p)) (fun z _ => (z.2.1 - z.1).toNat) ?_ ⟨rfl, 0, l.length, rfl, rfl, by omega, Nat.le_refl _, fun _ _ h => by omega, fun _ _ h => by omega⟩)
 rintro ⟨zi, zj, u⟩ h1 ⟨rfl, i, j, hzi, hzj, hij, hjn, hb, ha⟩
 dsimp only at hzi hzj
 subst hzi hzj
 dsimp only
 refine ⟨fun e => ?_, fun e => ?_⟩
 ·have e : i < j := by simpa using e
  have w : IntKind.wrap .i64 (shrV .u64 (IntKind.wrap .u64 (IntKind.wrap .i64 ((i : Int) + (j : Int)))) (1 : Int)) = (((i + j) / 2 : Nat) : Int) := by
   rw [wrap64 (n := (i : Int) + (j : Int)) (by omega) (by omega)]
   have : IntKind.wrap .u64 ((i : Int) + (j : Int)) = ((i + j : Nat) : Int) := by simp [IntKind.wrap, IntKind.bits, IntKind.signed]; omega
   rw [this]
   have := shr_nat (n := i + j) (s := 1) (by decide)
   rw [show ((1 : Nat) : Int) = (1 : Int) from rfl] at this
   rw [this, wrap64 (by omega) (by omega)]
  rw [w]
  generalize hm : (i + j) / 2 = m
  have hmi : i ≤ m := by omega
  have hmj : m < j := by omega
  obtain ⟨b, o, hA, hr⟩ := x.get (i := m) (by omega)
  have ht : ((m : Nat) : Int).toNat = m := by omega
  rw [ht]
  refine ⟨b, o, ⟨hA, by omega, by omega⟩, _, _, hr _ 0 2 rfl (by decide), cFind1 ⟨_, rfl, fun e2 => ?_, fun e2 => ?_⟩⟩
  ·have e2 : l[m].p < p := cmp3_lt.1 (by simpa using e2)
   rw [wrap64 (n := (m : Int) + 1) (by omega) (by omega)]
   refine ⟨⟨rfl, m + 1, j, by simp, rfl, by omega, hjn, fun k hk hkm => ?_, ha⟩, by omega⟩
   by_cases e3 : k = m
   ·subst e3; exact e2
   ·have h3 := List.pairwise_iff_getElem.1 hu k m hk (by omega) (by omega)
    exact List.lt_trans h3 e2
  ·have e2 : ¬ l[m].p < p := fun h => by have := cmp3_lt.2 h; simp at e2; omega
   refine ⟨⟨rfl, i, m, rfl, rfl, by omega, by omega, hb, fun k hk hkm h3 => ?_⟩, by omega⟩
   by_cases e3 : k = m
   ·subst e3; exact e2 h3
   ·exact e2 (List.lt_trans (List.pairwise_iff_getElem.1 hu m k (by omega) hk (by omega)) h3)
 ·have e : i = j := by simp at e; omega
  subst e
  have hp : posP l p = i := posP_eq hjn hb ha
  have hl := look_at hu (p := p)
  simp only [hp] at hl hk
  by_cases hi : i < l.length
  ·obtain ⟨b, o, hA, hr⟩ := x.get (i := i) hi
   refine ⟨b, o, fun _ => ⟨hA, by omega, by omega⟩, _, _, fun _ => hr _ 0 2 (by simp; rfl) (by decide), fun _ => cFind1 ⟨_, rfl, ?_⟩, fun e => by simp at e; omega⟩
   rw [dif_pos hi] at hl
   rw [cmp3_eq, ← hl]; exact hk
  ·refine ⟨0, 0, fun e => by simp at e; omega, mk [], mk [], fun e => by simp at e; omega, fun e => by simp at e; omega, fun _ => ?_⟩
   rw [dif_neg hi] at hl
   rw [← hl]; exact hk
end TL

namespace TL
open Go Go.Proofs
variable {B : List Nat} {h : PH} {K : Value → PH → Prop}
theorem cRot {x n : Nat} (hx : x < 4294967296) (h1 : 1 ≤ n) (h2 : n ≤ 31) (hk : K (.int .u32 (rotr x n : Int)) h) : CallH Tryz.prog id_math_bits_RotateLeft32 [.int .u32 (x : Int), .int .i64 (-(n : Int))] K h := by
 have e1 : bitsV .and .u64 (IntKind.wrap .u64 (-(n : Int))) 31 = ((32 - n : Nat) : Int) := by
  have key : ∀ n : Nat, n ≤ 31 → 1 ≤ n → bitsV .and .u64 (IntKind.wrap .u64 (-(n : Int))) 31 = ((32 - n : Nat) : Int) := by decide +kernel
  exact key n h2 h1
 have e2 : IntKind.wrap .u64 ((32 : Int) - ((32 - n : Nat) : Int)) = (n : Int) := by rw [wrap_u64 (by omega) (by omega)]; omega
 refine F_math_bits_RotateLeft32_ok ?_
 unfold F_math_bits_RotateLeft32
 rw [e1, e2]
 refine ⟨by omega, by omega, ?_⟩
 have h3 : shlV .u32 (x : Int) ((32 - n : Nat) : Int) = ((x * 2 ^ (32 - n) % 4294967296 : Nat) : Int) := by
  unfold shlV
  rw [show min (((32 - n : Nat) : Int)).toNat (IntKind.bits .u32) = 32 - n by simp [IntKind.bits] <;> omega]
  have : (x : Int) * 2 ^ (32 - n) = ((x * 2 ^ (32 - n) : Nat) : Int) := by norm_cast
  rw [this, wrap32]
 rw [h3, shr32 (by omega), or32 (Nat.mod_lt _ (by decide)) (div_lt hx)]
 exact hk
theorem cGetBig {l : List UInt8} (hl : l.length ≤ 8) (hk : K (.int .u64 (be l : Int)) h) : CallH Tryz.prog id_sha_getBig [.string (mk l), .int .i64 (l.length : Int)] K h := by
 refine F_sha_getBig_ok (LoopP.ind (fun (z : Int × Int × Unit) h' => ∃ i : Nat, z = ((be (l.take i) : Int), (i : Int), ()) ∧ i ≤ l.length ∧ h' = h) (fun z _ => (l.length - z.2.1).toNat) ?_ ⟨0, rfl, Nat.zero_le _, rfl⟩)
 rintro _ h ⟨i, rfl, hi, rfl⟩
 dsimp only
 refine ⟨fun e => ?_, fun e => ?_⟩
 ·have e : i < l.length := by simpa using e
  have hba : byteAt (mk l) (i : Int) = (l[i].toNat : Int) := by rw [byteAt_mk]; simp [List.getD, e]
  have hb := l[i].toNat_lt
  rw [hba, wrap_u64 (by omega) (by omega), wrap64 (n := (i : Int) + 1) (by omega) (by omega)]
  have hbe := be_lt (l.take i)
  have h256 : 256 ^ (l.take i).length ≤ 256 ^ 7 := Nat.pow_le_pow_right (by decide) (by rw [List.length_take]; omega)
  have h7 : (256 : Nat) ^ 7 = 72057594037927936 := by decide
  have hsh : shlV .u64 (be (l.take i) : Int) 8 = ((be (l.take i) * 256 : Nat) : Int) := by
   unfold shlV
   rw [show min ((8 : Int)).toNat (IntKind.bits .u64) = 8 by rfl]
   have : (be (l.take i) : Int) * 2 ^ 8 = ((be (l.take i) * 256 : Nat) : Int) := by norm_cast
   rw [this, wrap_u64 (by omega) (by omega)]
  have hor : bitsV .or .u64 ((be (l.take i) * 256 : Nat) : Int) (l[i].toNat : Int) = ((be (l.take i) * 256 + l[i].toNat : Nat) : Int) := by
   show IntKind.wrap .u64 (((BitVec.ofInt 64 ((be (l.take i) * 256 : Nat) : Int) ||| BitVec.ofInt 64 (l[i].toNat : Int)).toNat : Nat) : Int) = _
   rw [BitVec.toNat_or, bv_nat, bv_nat, Nat.mod_eq_of_lt (by omega), Nat.mod_eq_of_lt (by omega)]
   have h1 := Nat.two_pow_add_eq_or_of_lt (i := 8) (b := l[i].toNat) (by simpa using hb) (be (l.take i))
   have h2 : be (l.take i) * 256 ||| l[i].toNat = be (l.take i) * 256 + l[i].toNat := by rw [Nat.mul_comm]; exact h1.symm
   rw [h2, wrap_u64 (by omega) (by omega)]
  rw [hsh, hor]
  refine ⟨⟨by omega, by rw [show ByteArray.size (mk l) = l.length from size_mk l]; omega⟩, ⟨i + 1, ?_, by omega, rfl⟩, by omega⟩
  have : be (l.take (i + 1)) = be (l.take i) * 256 + l[i].toNat := by
   rw [List.take_succ_eq_append_getElem e]
   unfold be
   rw [List.foldl_append]; rfl
  rw [this]; rfl
 ·have e : i = l.length := by simp at e; omega
  subst e
  rw [List.take_length]; exact hk
def u32s (l : List Nat) : List Value := (iv l).map (Value.int .u32)
set_option maxHeartbeats 1000000 in
theorem cTurn {hN bN kL : List Nat} {blk : List UInt8} {b o : Nat} {sA : Option Addr} {sC : Nat} (hh : hN.length = 8 ∧ Bd hN) (hb : bN.length = 8 ∧ Bd bN) (hkl : kL.length = 64 ∧ Bd kL) (hkr : h.rds b o 64 = some (u32s kL)) (hs : SR EncB h sA blk) (hbl : blk.length = 64) (hsc : 64 ≤ sC)
  (hk : K (.agg ((u32s (turnN hN bN kL blk) ++ [])).toArray) h) :
  CallH Tryz.prog id_sha_turn [.agg ((u32s hN ++ [])).toArray, .agg ((u32s bN ++ [])).toArray, .pointer (some ⟨b, o, none⟩), .slice sA 64 sC] K h := by
 have r0 : ((List.replicate 64 0 : List Int)) = iv (w16 blk 0) := by rfl
 refine F_sha_turn_ok (by rw [iv_len]; exact hh.1) (by rw [iv_len]; exact hb.1) ?_
 unfold F_sha_turn
 rw [r0]
 refine LoopP.ind (fun (z : Int × List Int × Unit) h' => ∃ i : Nat, z = ((i : Int), iv (w16 blk i), ()) ∧ i ≤ 16 ∧ h' = h) (fun z _ => (16 - z.1).toNat) ?_ ⟨0, rfl, Nat.zero_le _, rfl⟩
 rintro _ h ⟨i, rfl, hi, rfl⟩
 dsimp only
 refine ⟨fun e => ?_, fun e => ?_⟩
 ·have e : i < 16 := by simp at e; omega
  rw [wrap64 (n := (4 : Int) * i) (by omega) (by omega), wrap64 (n := (4 : Int) * i + 4) (by omega) (by omega), wrap64 (n := (i : Int) + 1) (by omega) (by omega)]
  have hsl := hs.slice (lo := 4 * i) (hi := 4 * i + 4) (mx := ((sC : Nat) : Int)) (L := (4 : Int) * i) (by omega) (by omega) (by omega)
  have hlen : ((blk.drop (4 * i)).take (4 * i + 4 - 4 * i)).length = 4 := by rw [List.length_take, List.length_drop]; omega
  have hstr := hsl.str
  rw [hlen] at hstr
  have he4 : (4 * i + 4 - 4 * i) = 4 := by omega
  rw [he4] at hstr hlen
  refine ⟨⟨by omega, by omega, by omega, by omega⟩, _, by rw [show ((4 : Int) * i + 4).toNat - ((4 : Int) * i).toNat = 4 by omega]; exact hstr, ?_⟩
  have := cGetBig (h := h) (K := ?K) (l := (blk.drop (4 * i)).take 4) (by omega) ?hk
  ·rw [hlen] at this; exact this
  refine ⟨_, rfl, ⟨by omega, by omega⟩, by omega, ⟨i + 1, ?_, by omega, rfl⟩, by omega⟩
  rw [wrap32, iv_set, Nat.mod_eq_of_lt (be4_lt (by omega))]
  have hset : w16 blk (i + 1) = (w16 blk i).set i (be ((blk.drop (4 * i)).take 4)) := fold_succ _ _ _
  rw [hset, show (i : Int).toNat * 1 = i by simp]; rfl
 ·have e : i = 16 := by simp at e; omega
  subst e
  have w0 : w16 blk 16 = wAll blk 0 := by rw [wAll, List.range_zero, List.foldl_nil]
  rw [w0]
  refine LoopP.ind (fun (z : Int × List Int × Unit) h' => ∃ i : Nat, z = (((16 + i : Nat) : Int), iv (wAll blk i), ()) ∧ i ≤ 48 ∧ h' = h) (fun z _ => (64 - z.1).toNat) ?_ ⟨0, rfl, Nat.zero_le _, rfl⟩
  rintro _ h ⟨i, rfl, hi, rfl⟩
  dsimp only
  refine ⟨fun e => ?_, fun e => ?_⟩
  ·have e : i < 48 := by simp at e; omega
   obtain ⟨hwl, hwb⟩ := wAll_ok blk i
   rw [wrap64 (n := ((16 + i : Nat) : Int) - 15) (by omega) (by omega), wrap64 (n := ((16 + i : Nat) : Int) - 2) (by omega) (by omega), wrap64 (n := ((16 + i : Nat) : Int) - 16) (by omega) (by omega), wrap64 (n := ((16 + i : Nat) : Int) - 7) (by omega) (by omega), wrap64 (n := ((16 + i : Nat) : Int) + 1) (by omega) (by omega)]
   rw [show (((16 + i : Nat) : Int) - 15).toNat * 1 = 1 + i by omega, show (((16 + i : Nat) : Int) - 2).toNat * 1 = 14 + i by omega, show (((16 + i : Nat) : Int) - 16).toNat * 1 = i by omega, show (((16 + i : Nat) : Int) - 7).toNat * 1 = 9 + i by omega, show (((16 + i : Nat) : Int)).toNat * 1 = 16 + i by omega]
   simp only [iv_get]
   have hst : wAll blk (i + 1) = wStep (wAll blk i) i := fold_succ _ _ _
   generalize wAll blk i = w at hwl hwb hst
   have x1 := hwb.get (1 + i)
   have x14 := hwb.get (14 + i)
   refine ⟨⟨by omega, by omega⟩, by omega, ⟨by omega, by omega⟩, by omega, cRot (n := 7) x1 (by decide) (by decide) ⟨_, rfl, cRot (n := 18) x1 (by decide) (by decide) ⟨_, rfl, cRot (n := 17) x14 (by decide) (by decide) ⟨_, rfl, cRot (n := 19) x14 (by decide) (by decide) ⟨_, rfl, ?_⟩⟩⟩⟩⟩
   refine ⟨⟨by omega, by omega⟩, by omega, ⟨by omega, by omega⟩, by omega, ⟨by omega, by omega⟩, by omega, ⟨i + 1, ?_, by omega, rfl⟩, by omega⟩
   have y1 := shr32 (a := w.getD (1 + i) 0) (n := 3) (by decide)
   have y2 := shr32 (a := w.getD (14 + i) 0) (n := 10) (by decide)
   rw [show ((3 : Nat) : Int) = (3 : Int) from rfl] at y1
   rw [show ((10 : Nat) : Int) = (10 : Int) from rfl] at y2
   rw [y1, y2, xor32 (rotr_lt x1) (rotr_lt x1), xor32 (xor_lt (rotr_lt x1) (rotr_lt x1)) (div_lt x1), xor32 (rotr_lt x14) (rotr_lt x14), xor32 (xor_lt (rotr_lt x14) (rotr_lt x14)) (div_lt x14)]
   rw [hst]
   have c1 : ∀ a b : Nat, (a : Int) + (b : Int) = ((a + b : Nat) : Int) := fun a b => by omega
   rw [c1, wrap32, c1, wrap32, c1, wrap32, iv_set]
   rfl
  ·have e : i = 48 := by simp at e; omega
   subst e
   have v0 : iv bN = iv (rnds kL (wAll blk 48) bN 0) := by rw [rnds, List.range_zero, List.foldl_nil]
   rw [v0]
   obtain ⟨hwl, hwb⟩ := wAll_ok blk 48
   refine LoopP.ind (fun (z : Int × List Int × Unit) h' => ∃ i : Nat, z = ((i : Int), iv (rnds kL (wAll blk 48) bN i), ()) ∧ i ≤ 64 ∧ h' = h) (fun z _ => (64 - z.1).toNat) ?_ ⟨0, rfl, Nat.zero_le _, rfl⟩
   rintro _ h ⟨i, rfl, hi, rfl⟩
   dsimp only
   refine ⟨fun e => ?_, fun e => ?_⟩
   ·have e : i < 64 := by simp at e; omega
    obtain ⟨hvl, hvb⟩ := rnds_ok (k := kL) (w := wAll blk 48) hb i
    have hki : h.rds b (o + (i : Int).toNat * 1) 1 = some [.int .u32 ((kL.getD i 0 : Nat) : Int)] := by
     have := rds_to hkr i 1 (by omega)
     have hik : i < (u32s kL).length := by simp [u32s, iv_len, hkl.1]; exact e
     have hik2 : i < kL.length := by rw [hkl.1]; exact e
     have hv : (u32s kL)[i] = .int .u32 ((kL.getD i 0 : Nat) : Int) := by
      rw [List.getD_eq_getElem?_getD, List.getElem?_eq_getElem hik2, Option.getD_some]
      simp only [u32s, iv, List.getElem_map]; rfl
     rw [show o + (i : Int).toNat * 1 = o + i by omega, this, take1 hik, hv]
    have hst : rnds kL (wAll blk 48) bN (i + 1) = rnd kL (wAll blk 48) (rnds kL (wAll blk 48) bN i) i := fold_succ _ _ _
    rw [show (i : Int).toNat * 1 = i by omega] at hki ⊢
    simp only [getD_take1, getD_drop, iv_get]
    generalize rnds kL (wAll blk 48) bN i = v at hst hvl hvb
    rw [wrap64 (n := (i : Int) + 1) (by omega) (by omega)]
    have g0 := hvb.get 0
    have g1 := hvb.get 1
    have g2 := hvb.get 2
    have g4 := hvb.get 4
    have g5 := hvb.get 5
    have g6 := hvb.get 6
    refine ⟨b, o, rfl, ⟨by omega, by omega⟩, _, hki, ⟨by omega, by omega⟩, by omega, cRot (n := 6) g4 (by decide) (by decide) ⟨_, rfl, hki, cRot (n := 11) g4 (by decide) (by decide) ⟨_, rfl, hki, cRot (n := 25) g4 (by decide) (by decide) ⟨_, rfl, hki, ?_⟩⟩⟩⟩
    refine cRot (n := 2) g0 (by decide) (by decide) ⟨_, rfl, cRot (n := 13) g0 (by decide) (by decide) ⟨_, rfl, cRot (n := 22) g0 (by decide) (by decide) ⟨_, rfl, ?_⟩⟩⟩
    refine ⟨⟨i + 1, ?_, by omega, rfl⟩, by omega⟩
    have hmax : (IntKind.max .u32 : Int) = ((4294967295 : Nat) : Int) := by decide
    rw [hmax, xor32 (by decide) g4, and32 (xor_lt (by decide) g4) g6, and32 g4 g5, xor32 (and_lt g5) (and_lt g6), xor32 (rotr_lt g4) (rotr_lt g4), xor32 (xor_lt (rotr_lt g4) (rotr_lt g4)) (rotr_lt g4)]
    rw [xor32 (rotr_lt g0) (rotr_lt g0), xor32 (xor_lt (rotr_lt g0) (rotr_lt g0)) (rotr_lt g0), and32 g0 g1, and32 g0 g2, and32 g1 g2, xor32 (and_lt g1) (and_lt g2), xor32 (xor_lt (and_lt g1) (and_lt g2)) (and_lt g2)]
    have c1 : ∀ a b : Nat, (a : Int) + (b : Int) = ((a + b : Nat) : Int) := fun a b => by omega
    simp only [c1, wrap32]
    rw [hst]
    rfl
   ·have e : i = 64 := by simp at e; omega
    subst e
    have a0 : iv hN = iv (addH hN (rnds kL (wAll blk 48) bN 64) 0) := by rw [addH, List.range_zero, List.foldl_nil]
    rw [a0]
    refine LoopP.ind (fun (z : Int × List Int × Unit) h' => ∃ i : Nat, z = ((i : Int), iv (addH hN (rnds kL (wAll blk 48) bN 64) i), ()) ∧ i ≤ 8 ∧ h' = h) (fun z _ => (8 - z.1).toNat) ?_ ⟨0, rfl, Nat.zero_le _, rfl⟩
    rintro _ h ⟨i, rfl, hi, rfl⟩
    dsimp only
    refine ⟨fun e => ?_, fun e => ?_⟩
    ·have e : i < 8 := by simp at e; omega
     rw [show (i : Int).toNat * 1 = i by omega, wrap64 (n := (i : Int) + 1) (by omega) (by omega)]
     simp only [iv_get]
     have c1 : ∀ a b : Nat, (a : Int) + (b : Int) = ((a + b : Nat) : Int) := fun a b => by omega
     rw [c1, wrap32, iv_set]
     refine ⟨⟨by omega, by omega⟩, by omega, ⟨by omega, by omega⟩, by omega, ⟨by omega, by omega⟩, by omega, ⟨i + 1, ?_, by omega, by first | rfl | trivial⟩, by omega⟩
     have hst : addH hN (rnds kL (wAll blk 48) bN 64) (i + 1) = _ := fold_succ _ _ _
     rw [hst]; rfl
    ·have e : i = 8 := by simp at e; omega
     subst e
     exact hk
end TL

namespace TL
open Go Go.Proofs
variable {B : List Nat} {h : PH} {K : Value → PH → Prop}
theorem beB_get {x : Nat} : ∀ {m t : Nat} (ht : t < (beB m x).length), (beB m x)[t] = UInt8.ofNat (x / 2 ^ (8 * (m - 1 - t)))
 | 0, _, ht => absurd ht (Nat.not_lt_zero _)
 | m + 1, 0, _ => by simp [beB]
 | m + 1, t + 1, ht => by
  simp only [beB, List.getElem_cons_succ]
  rw [beB_get]
  congr 3; omega
theorem cPutBig {a : Option Addr} {n c : Nat} {l : List UInt8} {x m : Nat} (hb : Buf EncB 5 B h a n c l) (hm : m ≤ 8) (hl : l.length ≤ 1000000) (hk : ∀ a' c' B' h', Buf EncB 5 B' h' a' (n + m) c' (l ++ beB m x) → Chg B B' h h' → K (.slice a' (n + m) c') h') :
  CallH Tryz.prog id_sha_putBig [.slice a n c, .int .u64 (x : Int), .int .i64 (m : Int)] K h := by
 have hn := hb.1
 refine F_sha_putBig_ok ?_
 unfold F_sha_putBig
 rw [wrap64 (by omega) (by omega)]
 refine LoopP.indE (fun k (z : (Option Addr × Nat × Nat) × Int × Unit) h' => ∃ (t : Nat) (a' : Option Addr) (c' : Nat) (B' : List Nat), z = ((a', n + t, c'), (m : Int) - 1 - t, ()) ∧ t ≤ m ∧ k = m - t ∧ Buf EncB 5 B' h' a' (n + t) c' (l ++ (beB m x).take t) ∧ Chg B B' h h') ?_ (n := m)
  ⟨0, a, c, B, by simp, Nat.zero_le _, rfl, by simpa using hb, Chg.refl _ _⟩
 rintro k _ h1 ⟨t, a1, c1, B1, rfl, ht, rfl, hb1, hc1⟩
 dsimp only
 refine ⟨fun e => ?_, fun e => ?_⟩
 ·have e : t < m := by simp at e; omega
  have htl : t < (beB m x).length := by rw [beB_len]; exact e
  rw [wrap64 (n := (8 : Int) * ((m : Int) - 1 - t)) (by omega) (by omega), wrap64 (n := (m : Int) - 1 - t - 1) (by omega) (by omega)]
  have hsh : shrV .u64 (x : Int) ((8 : Int) * ((m : Int) - 1 - t)) = ((x / 2 ^ (8 * (m - 1 - t)) : Nat) : Int) := by
   have := shr_nat (n := x) (s := 8 * (m - 1 - t)) (by omega)
   rw [show ((8 * (m - 1 - t) : Nat) : Int) = (8 : Int) * ((m : Int) - 1 - t) by omega] at this
   exact this
  have hw : IntKind.wrap .u8 ((x / 2 ^ (8 * (m - 1 - t)) : Nat) : Int) = (((beB m x)[t].toNat : Nat) : Int) := by
   rw [beB_get]
   simp [IntKind.wrap, IntKind.bits, IntKind.signed]
  rw [hsh, hw]
  refine ⟨by omega, hb1.append (new := [(beB m x)[t]]) rfl rfl rfl (by omega) fun a2 c2 B2 h2 hb2 hc2 _ => ?_⟩
  refine ⟨m - (t + 1), by omega, t + 1, a2, c2, B2, ?_, by omega, rfl, ?_, hc1.trans hc2⟩
  ·rw [show (m : Int) - 1 - ((t + 1 : Nat) : Int) = (m : Int) - 1 - t - 1 by omega]; rfl
  ·rw [List.append_assoc, ← List.take_succ_eq_append_getElem htl] at hb2
   exact hb2
 ·have e : t = m := by simp at e; omega
  subst e
  rw [List.take_of_length_le (by rw [beB_len]; exact Nat.le_refl _)] at hb1
  exact hk a1 c1 B1 h1 hb1 hc1
def shaC (hN : List Nat) (a : Option Addr) (n c : Nat) (m : Int) : List Value := u32s hN ++ (u32s kN ++ [.slice a n c, .int .i64 m, .bool true])
def isU8 : Value → Bool
 | .int .u8 _ => true
 | _ => false
theorem encB_u8 (y : UInt8) : ∃ v ∈ EncB.enc y, isU8 v = true := ⟨_, List.mem_singleton.2 rfl, rfl⟩
theorem sha_noU8 {hN : List Nat} {a : Option Addr} {n c : Nat} {m : Int} (v : Value) (hv : v ∈ shaC hN a n c m) : isU8 v = false := by
 simp only [shaC, u32s, List.mem_append, List.mem_map, List.mem_cons, List.not_mem_nil, or_false] at hv
 rcases hv with ⟨_, _, rfl⟩ | ⟨_, _, rfl⟩ | rfl | rfl | rfl <;> rfl
theorem u32s_len (l : List Nat) : (u32s l).length = l.length := by simp [u32s, iv_len]
section
variable {hN : List Nat} {a : Option Addr} {n c bn : Nat} {m : Int} (hb : h bn = some (.cells (shaC hN a n c m).toArray T_sha_Sha (0, 0))) (hl : hN.length = 8)
include hb hl
theorem sha_h : h.rds bn 0 8 = some (u32s hN) := rds_mid (pre := []) hb rfl (by rw [u32s_len, hl])
theorem sha_k : h.rds bn (0 + 8) 64 = some (u32s kN) := rds_mid (pre := u32s hN) hb (by rw [u32s_len, hl]) (by rw [u32s_len]; rfl)
theorem sha_rest : h.rds bn (0 + 72) 1 = some [.slice a n c] := rds_mid' (cs := shaC hN a n c m) (pre := u32s hN ++ u32s kN) (mid := [.slice a n c]) (post := [.int .i64 m, .bool true]) hb (by simp [shaC]) (by rw [List.length_append, u32s_len, u32s_len, hl]; rfl) rfl
theorem sha_n : h.rds bn (0 + 73) 1 = some [.int .i64 m] := rds_mid' (cs := shaC hN a n c m) (pre := u32s hN ++ u32s kN ++ [.slice a n c]) (mid := [.int .i64 m]) (post := [.bool true]) hb (by simp [shaC]) (by rw [List.length_append, List.length_append, u32s_len, u32s_len, hl]; rfl) rfl
theorem sha_made : h.rds bn (0 + 74) 1 = some [.bool true] := rds_mid' (cs := shaC hN a n c m) (pre := u32s hN ++ u32s kN ++ [.slice a n c, .int .i64 m]) (mid := [.bool true]) (post := []) hb (by simp [shaC]) (by rw [List.length_append, List.length_append, u32s_len, u32s_len, hl]; rfl) rfl
theorem sha_set_h {hN' : List Nat} (hl' : hN'.length = 8) {KK : PH → Prop} (hk : ∀ h', h' bn = some (.cells (shaC hN' a n c m).toArray T_sha_Sha (0, 0)) → Chg [bn] [bn] h h' → KK h') : stH h bn 0 (u32s hN') KK :=
 st_mid (pre := []) hb rfl (by rw [u32s_len, u32s_len, hl, hl']) hk
theorem sha_set_rest {a' : Option Addr} {n' c' : Nat} {KK : PH → Prop} (hk : ∀ h', h' bn = some (.cells (shaC hN a' n' c' m).toArray T_sha_Sha (0, 0)) → Chg [bn] [bn] h h' → KK h') : stH h bn (0 + 72) [.slice a' n' c'] KK :=
 st_mid' (cs := shaC hN a n c m) (cs' := shaC hN a' n' c' m) (pre := u32s hN ++ u32s kN) (mid := [.slice a n c]) (post := [.int .i64 m, .bool true]) hb (by simp [shaC]) (by simp [shaC]) (by rw [List.length_append, u32s_len, u32s_len, hl]; rfl) rfl hk
theorem sha_set_n {m' : Int} {KK : PH → Prop} (hk : ∀ h', h' bn = some (.cells (shaC hN a n c m').toArray T_sha_Sha (0, 0)) → Chg [bn] [bn] h h' → KK h') : stH h bn (0 + 73) [.int .i64 m'] KK :=
 st_mid' (cs := shaC hN a n c m) (cs' := shaC hN a n c m') (pre := u32s hN ++ u32s kN ++ [.slice a n c]) (mid := [.int .i64 m]) (post := [.bool true]) hb (by simp [shaC]) (by simp [shaC]) (by rw [List.length_append, List.length_append, u32s_len, u32s_len, hl]; rfl) rfl hk
theorem cShaNone (hk : K (.bool false) h) : CallH Tryz.prog id_sha_Sha_none [.pointer (some ⟨bn, 0, none⟩)] K h :=
 F_sha_Sha_none_ok ⟨bn, 0, fun _ => rfl, true, fun _ => sha_made hb hl, hk⟩
end
theorem cShaNew (hk : ∀ bn h', h bn = none → h' bn = some (.cells (shaC h0N none 0 0 0).toArray T_sha_Sha (0, 0)) → Chg [] [bn] h h' → K (.pointer (some ⟨bn, 0, none⟩)) h') : CallH Tryz.prog id_sha_New [] K h := by
 have hb : F_sha_begin (fun v h1 => ∃ t : List Int, t.length = 8 ∧ v = .agg ((t.map (Value.int .u32) ++ [])).toArray ∧ t = iv h0N ∧ h1 = h) h := ⟨iv h0N, rfl, rfl, rfl, rfl⟩
 have hn : ∀ h, F_sha_numbers (fun v h1 => ∃ t : List Int, t.length = 64 ∧ v = .agg ((t.map (Value.int .u32) ++ [])).toArray ∧ t = iv kN ∧ h1 = h) h := fun h => ⟨iv kN, rfl, rfl, rfl, rfl⟩
 refine F_sha_New_ok ((F_sha_begin_ok hb).mono ?_)
 rintro _ _ ⟨t, h1, rfl, rfl, rfl⟩
 refine ⟨_, h1, rfl, (F_sha_numbers_ok (hn _)).mono ?_⟩
 rintro _ _ ⟨t2, h2, rfl, rfl, rfl⟩
 exact ⟨_, h2, rfl, nwL (cs := shaC h0N none 0 0 0) fun bn h' e1 e2 c => hk bn h' e1 e2 c⟩
theorem cShaWrite {bn : Nat} {s : List UInt8} (hs : s.length ≤ 1000000) (hb : h bn = some (.cells (shaC h0N none 0 0 0).toArray T_sha_Sha (0, 0)))
  (hk : ∀ (a : Option Addr) (c : Nat) (B' : List Nat) h', h' bn = some (.cells (shaC (blks (s.length / 64) h0N s) a (s.length - 64 * (s.length / 64)) c (s.length : Int)).toArray T_sha_Sha (0, 0)) → SR EncB h' a (s.drop (64 * (s.length / 64))) → Chg [bn] (bn :: B') h h' → (∀ b ∈ B', h b = none) → K (.int .i64 (s.length : Int)) h') :
  CallH Tryz.prog id_sha_Sha_Write [.pointer (some ⟨bn, 0, none⟩), .string (mk s)] K h := by
 have hl0 : h0N.length = 8 := rfl
 refine F_sha_Sha_Write_ok (cShaNone hb hl0 ⟨_, rfl, nofun, fun _ => ⟨bn, 0, rfl, _, sha_n hb hl0, bn, 0, rfl, sha_set_n hb hl0 fun h1 hb1 c1 => ⟨bn, 0, rfl, _, _, _, sha_rest hb1 hl0, ?_⟩⟩⟩)
 have hsz : (mk s).size = s.length := size_mk s
 rw [hsz, wrap64 (by omega) (by omega), show (0 : Int) + (s.length : Int) = s.length by omega] at hb1
 rw [show ByteArray.size (mk s) = s.length from hsz, byteVs_mk]
 refine (Buf.nil EncB 5 h1 none).append (new := s) rfl rfl rfl (by omega) ?_
 intro a2 k2 B2 h2 b2 c2 _
 rw [List.nil_append, Nat.zero_add] at b2
 rw [Nat.zero_add]
 have hb2 := c2.keep hb1 (by simp)
 have hle2 := b2.le
 have hnb : bn ∉ B2 := fun hm => by
  have := (c2.2 bn hm).resolve_left (by simp)
  rw [hb1] at this; cases this
 have hB2 : ∀ b ∈ B2, h b = none := fun b hbm => by
  have h3 := (c2.2 b hbm).resolve_left (by simp)
  cases e : h b with
  | none => rfl
  | some o =>
   have hne : b ≠ bn := fun e2 => hnb (e2 ▸ hbm)
   rw [c1.keep e (by simpa using hne)] at h3; cases h3
 have c12 : Chg [bn] (bn :: B2) h h2 := c1.trans (c2.sub (by simp) fun b hb => by
  rcases List.mem_cons.1 hb with rfl | hb
  ·exact .inr (by simp)
  ·exact .inl hb)
 refine ⟨bn, 0, rfl, sha_set_rest hb2 hl0 fun h3 hb3 c3 => ?_⟩
 have b3 := b2.chg c3 (notIn1 hnb)
 have c13 : Chg [bn] (bn :: B2) h h3 := c12.trans (c3.sub (by simp) (by simp))
 refine LoopP.indE (fun k (_ : Unit) h' => ∃ (q : Nat) (a : Option Addr) (c : Nat), 64 * q ≤ s.length ∧ k = s.length - 64 * q ∧ h' bn = some (.cells (shaC (blks q h0N s) a (s.length - 64 * q) c (s.length : Int)).toArray T_sha_Sha (0, 0)) ∧ SR EncB h' a (s.drop (64 * q)) ∧ s.length - 64 * q ≤ c ∧ Chg [bn] (bn :: B2) h h' ∧ ∃ b0 o0, Buf EncB 5 B2 h' b0 s.length o0 s) ?_ (n := s.length)
  ⟨0, a2, k2, Nat.zero_le _, rfl, by simpa [blks] using hb3, by simpa using b3.sr, by simpa using hle2, c13, a2, k2, b3⟩
 rintro k _ h4 ⟨q, a, c, hq, rfl, hb4, hsr4, hc4, ch4, b0, o0, bf4⟩
 have hql := blks_ok q (l := s) h0_ok
 refine ⟨bn, 0, rfl, _, _, _, sha_rest hb4 hql.1, fun e => ?_, fun e => ?_⟩
 ·have e : 64 ≤ s.length - 64 * q := by simp at e; omega
  refine ⟨bn, 0, rfl, iv (blks q h0N s), by rw [iv_len]; exact hql.1, ?_, bn, 0, rfl, iv (blks q h0N s), by rw [iv_len]; exact hql.1, ?_, bn, 0, rfl, bn, 0, rfl, _, _, _, sha_rest hb4 hql.1, ⟨by omega, by omega, by omega, by omega⟩, ?_⟩
  ·rw [List.append_nil]; exact sha_h hb4 hql.1
  ·rw [List.append_nil]; exact sha_h hb4 hql.1
  ·have hdl : (s.drop (64 * q)).length = s.length - 64 * q := List.length_drop ..
   have hsl := hsr4.slice (lo := 0) (hi := 64) (mx := ((c : Nat) : Int)) (L := 0) rfl (by omega) (by omega)
   have hbl : (((s.drop (64 * q)).drop 0).take (64 - 0)) = (s.drop (64 * q)).take 64 := by simp
   rw [hbl] at hsl
   refine cTurn hql hql k_ok (sha_k hb4 hql.1) hsl (by rw [List.length_take]; omega) (by omega) ?_
   have htl := turn_ok (b := blks q h0N s) (k := kN) (blk := (s.drop (64 * q)).take 64) hql
   have hbs := blks_succ q h0N s
   rw [← hbs] at htl ⊢
   refine ⟨iv (blks (q + 1) h0N s), by rw [iv_len]; exact htl.1, rfl, bn, 0, rfl, ?_⟩
   rw [List.append_nil]
   refine sha_set_h hb4 hql.1 htl.1 fun h5 hb5 c5 => ⟨bn, 0, rfl, _, _, _, sha_rest hb5 htl.1, ⟨by omega, by omega, by omega, by omega⟩, bn, 0, rfl, sha_set_rest hb5 htl.1 fun h6 hb6 c6 => ?_⟩
   have bf6 := (bf4.chg c5 (notIn1 hnb)).chg c6 (notIn1 hnb)
   have c46 := c5.trans c6
   refine ⟨s.length - 64 * (q + 1), by omega, q + 1, slA a 1 64 ((c : Nat) : Int), (((c : Nat) : Int).toNat - (64 : Int).toNat), by omega, rfl, ?_, ?_, ?_, ch4.trans (c46.sub (by simp) (by simp)), b0, o0, bf6⟩
   ·rw [show ((s.length - 64 * q : Nat) : Int).toNat - (64 : Int).toNat = s.length - 64 * (q + 1) by omega] at hb6
    exact hb6
   ·have hs6 : SR EncB h6 a (s.drop (64 * q)) := hsr4.off isU8 encB_u8 (fun b hb cs T fr e v hv => by
     simp at hb; subst hb
     rw [hb4] at e; cases e
     exact sha_noU8 _ (by simpa using hv)) c46
    have h7 := hs6.slice (lo := 64) (hi := s.length - 64 * q) (mx := ((c : Nat) : Int)) (L := 64) rfl (by omega) (by omega)
    rw [List.drop_drop, List.take_of_length_le (by rw [List.length_drop]; omega)] at h7
    rw [show 64 * q + 64 = 64 * (q + 1) by omega] at h7
    exact h7
   ·omega
 ·have e : s.length - 64 * q < 64 := by simp at e; omega
  have hqe : q = s.length / 64 := by omega
  subst hqe
  have := hk a c B2 h4 hb4 hsr4 ch4 hB2
  exact this
end TL

namespace TL
open Go Go.Proofs
variable {B : List Nat} {h : PH} {K : Value → PH → Prop}
theorem outN_len : ∀ (l : List Nat), (outN l).length = 4 * l.length
 | [] => rfl
 | x :: r => by
  have := outN_len r
  unfold outN at this ⊢
  simp only [List.flatMap_cons, List.length_append, beB_len, List.length_cons, this]; omega
theorem outN_app (l m : List Nat) : outN (l ++ m) = outN l ++ outN m := by simp [outN]
theorem sha_split (s : List UInt8) : shaN s = outN (blks ((s.drop (64 * (s.length / 64)) ++ padB s.length).length / 64) (blks (s.length / 64) h0N s) (s.drop (64 * (s.length / 64)) ++ padB s.length)) := by
 unfold shaN
 have h1 : (s.length + (padB s.length).length) / 64 = s.length / 64 + (s.drop (64 * (s.length / 64)) ++ padB s.length).length / 64 := by
  rw [List.length_append, List.length_drop]
  omega
 rw [h1, blks_add, blks_app _ _ _ _ (by omega), List.drop_append_of_le_length (by omega)]
theorem cShaSum {bn : Nat} {hN : List Nat} {a : Option Addr} {c m : Nat} {rest : List UInt8} (hh : hN.length = 8 ∧ Bd hN) (hm : m % 64 = rest.length) (hm2 : m ≤ 1000000) (hb : h bn = some (.cells (shaC hN a rest.length c (m : Int)).toArray T_sha_Sha (0, 0))) (hr : SR EncB h a rest)
  (hk : ∀ h', h.Sub h' → K (.agg (((bi (outN (blks ((rest ++ padB m).length / 64) hN (rest ++ padB m)))).map (Value.int .u8) ++ [])).toArray) h') : CallH Tryz.prog id_sha_Sha_Sum [.pointer (some ⟨bn, 0, none⟩)] K h := by
 have hrl : rest.length < 64 := by omega
 refine F_sha_Sha_Sum_ok (nwL (cs := EncB.row (List.replicate 32 0)) fun bo h1 hbo hbo1 c1 => ?_)
 have hb1 := c1.keep hb (by simp)
 have hne : bo ≠ bn := fun e => by rw [e, hb] at hbo; cases hbo
 refine cShaNone hb1 hh.1 ⟨_, rfl, nofun, fun _ => nwL (cs := []) fun be1 h2 hbe hbe2 c2 => ⟨bn, 0, rfl, _, _, _, sha_rest (c2.keep hb1 (by simp)) hh.1, EncB.row rest, ?_, ?_⟩⟩
 ·have := (hr.sub (c1.sub0.tr c2.sub0)).src
  exact this
 refine (Buf.nil EncB 5 h2 (some ⟨be1, 0, none⟩)).append (new := rest) rfl rfl rfl (by omega) ?_
 intro a3 k3 B3 h3 b3 c3 _
 rw [List.nil_append, Nat.zero_add] at b3
 rw [Nat.zero_add]
 refine b3.append (new := [128]) rfl rfl rfl (by omega) ?_
 intro a4 k4 B4 h4 b4 c4 _
 have c24 : Chg [] B4 h2 h4 := c3.trans c4
 have hz : zrs m < 64 := Nat.mod_lt _ (by decide)
 refine LoopP.indE (fun k (z : (Option Addr × Nat × Nat) × Unit) h' => ∃ (j : Nat) (a' : Option Addr) (c' : Nat) (B' : List Nat), z = ((a', rest.length + 1 + j, c'), ()) ∧ j ≤ zrs m ∧ k = zrs m - j ∧ Buf EncB 5 B' h' a' (rest.length + 1 + j) c' (rest ++ 128 :: List.replicate j 0) ∧ Chg [] B' h2 h') ?_ (n := zrs m)
  ⟨0, a4, k4, B4, rfl, Nat.zero_le _, rfl, b4, c24⟩
 rintro k _ h5 ⟨j, a5, k5, B5, rfl, hj, rfl, b5, c5⟩
 dsimp only
 have htm : ((rest.length + 1 + j : Nat) : Int).tmod 64 = (((rest.length + 1 + j) % 64 : Nat) : Int) := by
  rw [Int.tmod_eq_emod_of_nonneg (by omega)]; omega
 rw [htm]
 have hzj : (rest.length + 1 + j) % 64 = 56 ↔ j = zrs m := by unfold zrs at hj ⊢; omega
 refine ⟨fun e => ?_, fun e => ?_⟩
 ·have e : ¬ j = zrs m := fun e2 => by rw [hzj.2 e2] at e; simp at e
  refine b5.append (new := [0]) rfl rfl rfl (by omega) fun a6 k6 B6 h6 b6 c6 _ => ?_
  refine ⟨zrs m - (j + 1), by omega, j + 1, a6, k6, B6, rfl, by omega, rfl, ?_, c5.trans c6⟩
  rw [List.replicate_succ']
  rw [show rest.length + 1 + (j + 1) = rest.length + 1 + j + 1 by omega]
  simpa using b6
 ·have e : j = zrs m := by
   refine hzj.1 ?_
   have : (((rest.length + 1 + j) % 64 : Nat) : Int) = 56 := by simpa using e
   omega
  subst e
  have s25 := c5.sub0
  have hb5 := s25 _ _ (c2.keep hb1 (by simp))
  refine ⟨bn, 0, rfl, _, sha_n hb5 hh.1, ?_⟩
  have hw : IntKind.wrap .u64 (IntKind.wrap .u64 (m : Int) * 8) = ((m * 8 % 18446744073709551616 : Nat) : Int) := by
   rw [wrap_u64 (n := (m : Int)) (by omega) (by omega), wrap_u64 (by omega) (by omega)]
   rw [Nat.mod_eq_of_lt (by omega)]; omega
  rw [hw]
  refine cPutBig (m := 8) b5 (by decide) (by simp; omega) fun a6 k6 B6 h6 b6 c6 => ⟨_, _, _, rfl, ?_⟩
  have hP : rest ++ 128 :: List.replicate (zrs m) 0 ++ beB 8 (m * 8 % 18446744073709551616) = rest ++ padB m := by simp [padB]
  rw [hP] at b6
  have c26 : Chg [] B6 h2 h6 := c5.trans c6
  have hb6 := c26.sub0 _ _ (c2.keep hb1 (by simp))
  have hbo6 := c26.sub0 _ _ (c2.keep hbo1 (by simp))
  refine ⟨bn, 0, rfl, iv hN, by rw [iv_len]; exact hh.1, by rw [List.append_nil]; exact sha_h hb6 hh.1, ?_⟩
  have hn6 := b6.1
  have hle6 := b6.le
  have hPl : (rest ++ padB m).length % 64 = 0 := by
   have := pad_len m
   rw [List.length_append]; omega
  generalize rest ++ padB m = P at b6 hn6 hPl hk
  have r6 := b6.sr
  rw [hn6] at hle6 ⊢
  refine LoopP.indE (fun k (z : (Option Addr × Nat × Nat) × List Int × Unit) h' => ∃ (j : Nat) (a' : Option Addr) (c' : Nat), z = ((a', P.length - 64 * j, c'), iv (blks j hN P), ()) ∧ 64 * j ≤ P.length ∧ k = P.length - 64 * j ∧ SR EncB h' a' (P.drop (64 * j)) ∧ P.length - 64 * j ≤ c' ∧ h' = h6) ?_ (n := P.length)
   ⟨0, a6, k6, rfl, Nat.zero_le _, rfl, r6, hle6, rfl⟩
  rintro k _ h6 ⟨j, a7, k7, rfl, hj, rfl, r7, hle7, rfl⟩
  dsimp only
  have hql := blks_ok j (l := P) hh
  refine ⟨fun e => ?_, fun e => ?_⟩
  ·have e : 0 < P.length - 64 * j := by simp at e; omega
   have e64 : 64 ≤ P.length - 64 * j := by omega
   have hdl : (P.drop (64 * j)).length = P.length - 64 * j := List.length_drop ..
   have hsl := r7.slice (lo := 0) (hi := 64) (mx := ((k7 : Nat) : Int)) (L := 0) rfl (by omega) (by omega)
   have hbl : (((P.drop (64 * j)).drop 0).take (64 - 0)) = (P.drop (64 * j)).take 64 := by simp
   rw [hbl] at hsl
   refine ⟨bn, 0, rfl, ⟨by omega, by omega, by omega, by omega⟩, cTurn hql hql k_ok (sha_k hb6 hh.1) hsl (by rw [List.length_take]; omega) (by omega) ?_⟩
   have htl := turn_ok (b := blks j hN P) (k := kN) (blk := (P.drop (64 * j)).take 64) hql
   have hbs := blks_succ j hN P
   rw [← hbs] at htl ⊢
   refine ⟨iv (blks (j + 1) hN P), by rw [iv_len]; exact htl.1, rfl, ⟨by omega, by omega, by omega, by omega⟩, P.length - 64 * (j + 1), by omega, j + 1, slA a7 1 64 ((k7 : Nat) : Int), (((k7 : Nat) : Int).toNat - (64 : Int).toNat), ?_, by omega, rfl, ?_, by omega, rfl⟩
   ·rw [show ((P.length - 64 * j : Nat) : Int).toNat - (64 : Int).toNat = P.length - 64 * (j + 1) by omega]
   ·have h7 := r7.slice (lo := 64) (hi := P.length - 64 * j) (mx := ((k7 : Nat) : Int)) (L := 64) rfl (by omega) (by omega)
    rw [List.drop_drop, List.take_of_length_le (by rw [List.length_drop]; omega)] at h7
    rw [show 64 * j + 64 = 64 * (j + 1) by omega] at h7
    exact h7
  ·have e : P.length - 64 * j = 0 := by simp at e; omega
   have hje : j = P.length / 64 := by omega
   rw [hje]
   rw [hje] at hql
   generalize blks (P.length / 64) hN P = W at hql hk
   obtain ⟨hW8, hWb⟩ := hql
   refine LoopP.indE (fun k (z : Int × Unit) h' => ∃ i : Nat, z.1 = (i : Int) ∧ i ≤ 8 ∧ k = 8 - i ∧ h' bo = some (.cells (EncB.row (outN (W.take i)) ++ EncB.row (List.replicate (32 - 4 * i) 0)).toArray T_api_Hash (0, 0)) ∧ Chg [bo] [bo] h6 h') ?_ (n := 8)
    ⟨0, rfl, by decide, rfl, by simpa [outN, Enc.row_nil] using hbo6, Chg.refl _ _⟩
   rintro k ⟨_, u⟩ h8 ⟨i, rfl, hi, rfl, hb8, c8⟩
   dsimp only
   have hs68 : h.Sub h8 := fun b o hbb => by
    have hbne : b ≠ bo := fun e => by rw [e, hbo] at hbb; cases hbb
    exact c8.keep (c26.sub0 b o (c2.sub0 b o (c1.sub0 b o hbb))) (by simpa using hbne)
   refine ⟨fun e2 => ?_, fun e2 => ?_⟩
   ·have e2 : i < 8 := by simp at e2; omega
    have hiW : i < W.length := by omega
    rw [wrap64 (n := (4 : Int) * i) (by omega) (by omega), wrap64 (n := (i : Int) + 1) (by omega) (by omega), iv_get, show (i : Int).toNat = i by omega]
    have hx := hWb.get i
    rw [wrap_u64 (by omega) (by omega)]
    refine ⟨⟨by omega, by omega, by omega⟩, ⟨by omega, by omega, by omega, by omega⟩, cPutBig (m := 4) (l := []) (Buf.nil EncB 5 h8 none) (by decide) (by simp) fun a9 k9 B9 h9 b9 c9 => ⟨_, _, _, rfl, ?_⟩⟩
    rw [List.nil_append] at b9
    have hmin : min (0 + 4) (((32 : Nat) : Int).toNat - ((4 : Int) * i).toNat) = 4 := by omega
    rw [hmin]
    refine ⟨EncB.row (beB 4 (W.getD i 0)), b9.sr.src, fun e3 => ?_, fun _ => ?_⟩
    ·rw [EncB.row_len, beB_len] at e3; cases e3
    ·have hb9 := c9.keep hb8 (by simp)
     have hsl : slA (some ⟨bo, 0, none⟩ : Option Addr) 1 ((4 : Int) * i) ((32 : Nat) : Int) = some ⟨bo, 4 * i, none⟩ := by
      unfold slA
      rw [if_neg (by omega), Option.map_some, addr_add]
      simp <;> omega
     have hrep : (List.replicate (32 - 4 * i) (0 : UInt8)) = List.replicate 4 0 ++ List.replicate (32 - 4 * (i + 1)) 0 := by
      rw [List.replicate_append_replicate]; congr 1; omega
     have htk : W.take (i + 1) = W.take i ++ [W.getD i 0] := by
      rw [List.take_succ_eq_append_getElem hiW, List.getD_eq_getElem?_getD, List.getElem?_eq_getElem hiW]; rfl
     refine ⟨bo, 4 * i, hsl, st_mid' (cs := EncB.row (outN (W.take i)) ++ EncB.row (List.replicate (32 - 4 * i) 0)) (cs' := EncB.row (outN (W.take (i + 1))) ++ EncB.row (List.replicate (32 - 4 * (i + 1)) 0)) (pre := EncB.row (outN (W.take i))) (mid := EncB.row (List.replicate 4 0)) (post := EncB.row (List.replicate (32 - 4 * (i + 1)) 0)) hb9 ?_ ?_ ?_ ?_ fun h10 hb10 c10 => ⟨8 - (i + 1), by omega, i + 1, rfl, by omega, rfl, hb10, ?_⟩⟩
     ·rw [hrep, EncB.row_app]
     ·rw [htk, outN_app, EncB.row_app, List.append_assoc]; simp [outN]
     ·rw [EncB.row_len, outN_len, List.length_take]; show _ = _ * 1; omega
     ·rw [EncB.row_len, EncB.row_len, beB_len, List.length_replicate]
     ·exact (c8.trans ⟨fun b o _ e => c9.sub0 b o e, fun b hb => .inl hb⟩).trans c10
   ·have e2 : i = 8 := by simp at e2; omega
    subst e2
    rw [List.take_of_length_le (by omega)] at hb8
    have hcs : EncB.row (outN W) ++ EncB.row (List.replicate (32 - 4 * 8) 0) = (bi (outN W)).map (Value.int .u8) := by
     rw [row_bi]; simp [EncB, Enc.row]
    rw [hcs] at hb8
    have hl32 : (bi (outN W)).length = 32 := by rw [bi_len, outN_len, hW8]
    have hrd : ∀ g : PH, g bo = some (.cells ((bi (outN W)).map (Value.int .u8)).toArray T_api_Hash (0, 0)) → g.rds bo 0 32 = some ((bi (outN W)).map (Value.int .u8) ++ []) := fun g hg => by
     rw [List.append_nil]
     exact rds_mid' (pre := []) (post := []) hg (by simp) rfl (by rw [List.length_map, hl32])
    refine ⟨bi (outN W), hl32, hrd h8 hb8, ?_⟩
    rw [List.append_nil]
    refine st_mid' (pre := []) (mid := (bi (outN W)).map (Value.int .u8)) (post := []) (cs' := (bi (outN W)).map (Value.int .u8)) hb8 (by simp) (by simp) rfl rfl fun h9 hb9 c9 => ⟨bi (outN W), hl32, hrd h9 hb9, ?_⟩
    refine hk h9 fun b o hbb => ?_
    have hbne : b ≠ bo := fun e => by rw [e, hbo] at hbb; cases hbb
    exact c9.keep (hs68 b o hbb) (by simpa using hbne)
theorem cSha {s : List UInt8} (hs : s.length ≤ 1000000) (hk : ∀ h', h.Sub h' → K (.agg (((bi (shaN s)).map (Value.int .u8) ++ [])).toArray) h') : CallH Tryz.prog id_sha_Sum [.string (mk s)] K h := by
 refine F_sha_Sum_ok (cShaNew fun bn h1 hb0 hb1 c1 => ⟨_, rfl, cShaWrite hs hb1 fun a c B2 h2 hb2 r2 c2 hB2 => ⟨_, rfl, ?_⟩⟩)
 have hq := blks_ok (s.length / 64) (l := s) h0_ok
 have hdl : (s.drop (64 * (s.length / 64))).length = s.length - 64 * (s.length / 64) := List.length_drop ..
 rw [← hdl] at hb2
 refine cShaSum hq (by rw [hdl]; omega) hs hb2 r2 fun h3 s3 => ⟨bi (shaN s), ?_, ?_, ?_⟩
 ·rw [bi_len, shaN, outN_len, (blks_ok _ h0_ok).1]
 ·rw [sha_split]
 ·refine hk h3 fun b o hbb => s3 b o ?_
  have hbne : b ≠ bn := fun e => by rw [e, hb0] at hbb; cases hbb
  exact c2.keep (c1.sub0 b o hbb) (by simpa using hbne)
theorem shaN_len (s : List UInt8) : (shaN s).length = 32 := by rw [shaN, outN_len, (blks_ok _ h0_ok).1]
end TL

namespace TL
open Go Go.Proofs
variable {B : List Nat} {h : PH} {K : Value → PH → Prop} {a : Option Addr} {n c i : Nat} {l : List PrR} {y : PrR} {p : List UInt8}
def bkt (p : List UInt8) : Nat := ((shaN p).getD 0 0).toNat / 16
theorem bkt_lt (p : List UInt8) : bkt p < 16 := by
 have := ((shaN p).getD 0 0).toNat_lt
 unfold bkt; omega
theorem shr4 : ∀ n : Nat, n < 256 → IntKind.wrap .i64 (shrV .u8 (n : Int) (4 : Int)) = ((n / 16 : Nat) : Int) := by decide +kernel
theorem bi_get (l : List UInt8) (hl : l ≠ []) : ((bi l).take 1).getD 0 0 = ((l.getD 0 0).toNat : Int) := by
 cases l with
 | nil => exact absurd rfl hl
 | cons x r => simp [bi]
theorem cBktOf (hs : p.length ≤ 1000000) (hk : ∀ h', h.Sub h' → K (.int .i64 (bkt p : Nat)) h') : CallH Tryz.prog id_bucket_Of [.string (mk p)] K h := by
 refine F_bucket_Of_ok (cSha hs fun h' s => ⟨bi (shaN p), by rw [bi_len, shaN_len], rfl, ?_⟩)
 have hne : shaN p ≠ [] := fun e => by have := shaN_len p; rw [e] at this; simp at this
 rw [bi_get _ hne, shr4 _ ((shaN p).getD 0 0).toNat_lt]
 exact hk h' s
def okPr (x : PrR) : Bool := (cutV x.p).2.2 && decide (x.v.length ≤ 32)
instance (l : List PrR) : Decidable (Up l) := inferInstanceAs (Decidable (List.Pairwise _ _))
def mayB (l : List PrR) : Bool := l.all okPr && decide (Up l)
theorem up_snoc {l : List PrR} {x : PrR} (hu : Up l) (hx : ∀ y, l.getLast? = some y → y.p < x.p) : Up (l ++ [x]) := by
 refine List.pairwise_append.2 ⟨hu, by simp, fun a ha b hb => ?_⟩
 have hb : b = x := by simpa using hb
 subst hb
 cases e : l.getLast? with
 | none => rw [List.getLast?_eq_none_iff] at e; subst e; cases ha
 | some y =>
  have h1 := hx y e
  obtain ⟨r, rfl⟩ := List.getLast?_eq_some_iff.1 e
  rcases List.mem_append.1 ha with ha | ha
  ·exact List.lt_trans ((List.pairwise_append.1 hu).2.2 a ha y (by simp)) h1
  ·have : a = y := by simpa using ha
   subst this; exact h1
theorem cMay (hl : SR EncPr h a l) (hn : l.length ≤ 1000000) (hs : ∀ x ∈ l, x.p.length ≤ 1000000) (hk : K (.bool (mayB l)) h) : CallH Tryz.prog id_bucket_May [.slice a l.length c] K h := by
 refine F_bucket_May_ok (LoopP.ind (fun (z : Int × Unit) h' => h' = h ∧ ∃ i : Nat, z.1 = i ∧ i ≤ l.length ∧ (l.take i).all okPr = true ∧ Up (l.take i)) (fun z _ => (l.length - z.1).toNat) ?_ ⟨rfl, 0, rfl, by omega, by simp, by simp [Up]⟩)
 rintro ⟨zi, u⟩ h1 ⟨rfl, i, hzi, hi, ha, hu⟩
 dsimp only at hzi
 subst hzi
 dsimp only
 refine ⟨fun e => ?_, fun e => ?_⟩
 ·have e : i < l.length := by simpa using e
  have hit : ((i : Nat) : Int).toNat = i := by omega
  obtain ⟨b, o, hA, hr⟩ := hl.get e
  have hm := List.getElem_mem e
  rw [hit]
  refine ⟨b, o, ⟨hA, by omega, by omega⟩, _, _, hr _ 0 2 rfl (by decide), cCut (by have := hs _ hm; omega) ⟨_, _, _, rfl, fun e2 => ?_, fun e2 => ?_⟩⟩
  ·have hok : okPr l[i] = true := by
    simp only [size_mk, Bool.or_eq_false_iff, Bool.not_eq_false', decide_eq_false_iff_not] at e2
    simp only [okPr, Bool.and_eq_true, decide_eq_true_eq]
    exact ⟨e2.1, by omega⟩
   have hsn : l.take (i + 1) = l.take i ++ [l[i]] := (List.take_append_getElem e).symm
   have hal : (l.take (i + 1)).all okPr = true := by rw [hsn, List.all_append, ha]; simpa using hok
   by_cases h0 : i = 0
   ·subst h0
    refine ⟨0, 0, fun e => by simp at e, mk [], fun e => by simp at e, fun e => by simp at e, fun _ => ?_⟩
    refine ⟨⟨rfl, 1, by rw [wrap64] <;> omega, by omega, hal, ?_⟩, by rw [wrap64] <;> omega⟩
    rw [hsn]; simp [Up]
   ·have w1 : IntKind.wrap .i64 (((i : Nat) : Int) - (1 : Int)) = ((i - 1 : Nat) : Int) := by rw [wrap64] <;> omega
    have hi1 : ((i - 1 : Nat) : Int).toNat = i - 1 := by omega
    rw [w1, hi1]
    obtain ⟨b1, o1, hA1, hr1⟩ := hl.get (i := i - 1) (by omega)
    refine ⟨b1, o1, fun _ => ⟨hA1, by omega, by omega⟩, _, fun _ => hr1 _ 0 1 rfl (by decide), ?_⟩
    rw [strLt_mk]
    refine ⟨fun e3 => ?_, fun e3 => ?_⟩
    ·have e3 : ¬ l[i - 1].p < l[i].p := by
      rw [Bool.and_eq_true] at e3; simpa using e3.2
     have : mayB l = false := by
      unfold mayB
      rw [Bool.and_eq_false_iff]
      refine .inr (decide_eq_false fun h => e3 (List.pairwise_iff_getElem.1 h (i - 1) i (by omega) e (by omega)))
     rw [this] at hk; exact hk
    ·have e3 : l[i - 1].p < l[i].p := by
      rw [Bool.and_eq_false_iff] at e3
      rcases e3 with e3 | e3
      ·simp at e3; omega
      ·simpa using e3
     refine ⟨⟨rfl, i + 1, by rw [wrap64] <;> omega, by omega, hal, ?_⟩, by rw [wrap64] <;> omega⟩
     rw [hsn]
     refine up_snoc hu fun y hy => ?_
     have : (l.take i).getLast? = some l[i - 1] := by
      rw [List.getLast?_eq_getElem?, List.length_take, Nat.min_eq_left (by omega), List.getElem?_take_of_lt (by omega)]
      exact List.getElem?_eq_getElem (by omega)
     rw [this] at hy; cases hy; exact e3
  ·have hok : okPr l[i] = false := by
    simp only [size_mk, Bool.or_eq_true, Bool.not_eq_true', decide_eq_true_eq] at e2
    simp only [okPr, Bool.and_eq_false_iff, decide_eq_false_iff_not]
    rcases e2 with e2 | e2
    ·exact .inl e2
    ·exact .inr (by omega)
   have : mayB l = false := by
    unfold mayB
    rw [Bool.and_eq_false_iff]
    exact .inl (by rw [List.all_eq_false]; exact ⟨_, hm, by simp [hok]⟩)
   rw [this] at hk; exact hk
 ·have e : i = l.length := by simp at e; omega
  have : mayB l = true := by
   rw [e, List.take_length] at ha hu
   simp [mayB, ha, hu]
  rw [this] at hk; exact hk
def partB (l : List PrR) (i : Nat) : List PrR := l.filter fun x => bkt x.p == i
theorem cPart (hl : SR EncPr h a l) (hn : l.length ≤ 1000000) (hs : ∀ x ∈ l, x.p.length ≤ 1000000) (hk : ∀ a' c' B' h', Buf EncPr T_api_Pair B' h' a' (partB l i).length c' (partB l i) → Chg [] B' h h' → K (.slice a' (partB l i).length c') h') :
  CallH Tryz.prog id_bucket_Part [.slice a l.length c, .int .i64 (i : Int)] K h := by
 refine F_bucket_Part_ok (LoopP.ind (fun (z : (Option Addr × Nat × Nat) × Int × Unit) h' => ∃ (k : Nat) (B' : List Nat), z.2.1 = k ∧ k ≤ l.length ∧ Buf EncPr T_api_Pair B' h' z.1.1 z.1.2.1 z.1.2.2 (partB (l.take k) i) ∧ Chg [] B' h h') (fun z _ => (l.length - z.2.1).toNat) ?_ ⟨0, [], rfl, by omega, Buf.nil _ _ _ _, Chg.refl _ _⟩)
 rintro ⟨⟨oA, oN, oC⟩, zi, u⟩ h1 ⟨k, B1, hzi, hi, hb, hc⟩
 dsimp only at hzi hb
 subst hzi
 dsimp only
 refine ⟨fun e => ?_, fun e => ?_⟩
 ·have e : k < l.length := by simpa using e
  have hit : ((k : Nat) : Int).toNat = k := by omega
  obtain ⟨b, o, hA, hr⟩ := (hl.sub hc.sub0).get e
  have hm := List.getElem_mem e
  have hsn : l.take (k + 1) = l.take k ++ [l[k]] := (List.take_append_getElem e).symm
  have hon : oN ≤ k := by
   rw [hb.1]
   refine Nat.le_trans (List.length_filter_le _ _) ?_
   rw [List.length_take]; omega
  rw [hit]
  refine ⟨b, o, ⟨hA, by omega, by omega⟩, _, _, hr _ 0 2 rfl (by decide), cBktOf (hs _ hm) fun h2 s2 => ⟨_, rfl, fun e2 => ?_, fun e2 => ?_⟩⟩
  ·have e2 : bkt l[k].p = i := by simp at e2; omega
   have hb2 := hb.sub s2
   refine hb2.append (new := [l[k]]) rfl rfl rfl (by omega) fun a' c' B' h' hb' hc' _ => ⟨⟨k + 1, B', by rw [wrap64] <;> omega, by omega, ?_, (hc.onto s2).trans hc'⟩, by rw [wrap64] <;> omega⟩
   have : partB (l.take (k + 1)) i = partB (l.take k) i ++ [l[k]] := by
    unfold partB; rw [hsn, List.filter_append]; simp [e2]
   rw [this]; exact hb'
  ·have e2 : bkt l[k].p ≠ i := by simp at e2; omega
   refine ⟨⟨k + 1, B1, by rw [wrap64] <;> omega, by omega, ?_, hc.onto s2⟩, by rw [wrap64] <;> omega⟩
   have : partB (l.take (k + 1)) i = partB (l.take k) i := by
    unfold partB; rw [hsn, List.filter_append]; simp [e2]
   rw [this]; exact hb.sub s2
 ·have e : k = l.length := by simp at e; omega
  rw [e, List.take_length] at hb
  have := hb.1
  subst this
  exact hk _ _ _ _ hb hc
def prL (x : PrR) : List UInt8 := textL x.p ++ textL x.v
def pageL (l : List PrR) : List UInt8 := numL l.length ++ l.flatMap prL
def pageV (i : Nat) (l : List PrR) : List UInt8 × Nat :=
 if mayB l = true ∧ (partB l i).length = l.length then (if l.length ≤ 48 then (pageL l, 0) else ([], 3)) else ([], 1)
theorem cPage (hi : i < 16) (hl : SR EncPr h a l) (hn : l.length ≤ 1000000) (hs : ∀ x ∈ l, x.p.length ≤ 1000000) (hk : ∀ h', h.Sub h' → K (.tuple #[.string (mk (pageV i l).1), .int .i64 ((pageV i l).2 : Nat)]) h') :
  CallH Tryz.prog id_bucket_Page [.int .i64 (i : Int), .slice a l.length c] K h := by
 have hno : ¬ (mayB l = true ∧ (partB l i).length = l.length) → ∀ h', h.Sub h' → K (.tuple #[.string (⟨#[]⟩ : ByteArray), .int .i64 (1 : Int)]) h' := fun hn h' s => by
  have := hk h' s
  unfold pageV at this; rw [if_neg hn] at this; exact this
 refine F_bucket_Page_ok ⟨fun _ h' => h.Sub h' ∧ mayB l = true ∧ (partB l i).length = l.length ∧ l.length ≤ 48, F_bucket_bucket_ok ⟨_, rfl, fun _ => cMay hl hn hs ⟨_, rfl, fun e => cPart hl hn hs fun a' c' B' h' hb hc => ⟨_, _, _, rfl, fun e2 => ?_, fun e2 => ⟨fun e3 => ?_, fun e3 => ?_⟩⟩, fun e => ?_⟩, fun e => ?_⟩, ?_⟩
 ·exact hno (fun hh => by simp at e2; omega) _ hc.sub0
 ·have h1 : mayB l = true := by simpa using e
  have h2 : (partB l i).length = l.length := by simp at e2; omega
  have := hk h' hc.sub0
  unfold pageV at this
  rw [if_pos ⟨h1, h2⟩, if_neg (by simp at e3; omega)] at this
  exact this
 ·exact ⟨hc.sub0, by simpa using e, by simp at e2; omega, by simp at e3; omega⟩
 ·exact hno (fun hh => by rw [hh.1] at e; cases e) _ fun _ _ e => e
 ·simp at e; omega
 ·rintro u h1 ⟨s1, hm, hp, h48⟩
  have hkk : ∀ h', h.Sub h' → K (.tuple #[.string (mk (pageL l)), .int .i64 (0 : Int)]) h' := fun h' s => by
   have := hk h' s
   unfold pageV at this; rw [if_pos ⟨hm, hp⟩, if_pos h48] at this; exact this
  refine nwL (cs := [.slice none 0 0]) fun bn h2 hbn hb2 hc2 => ?_
  rw [wrap_u64 (by omega) (by omega)]
  refine cOut_Num (OutAt.new hb2) (by omega) (by simp) fun B3 h3 hx3 hc3 => ?_
  have hc03 : Chg [] B3 h1 h3 := hc2.trans hc3
  have hnl := numL_le (n := l.length) (by omega)
  refine LoopP.ind (fun (z : Int × Unit) h' => ∃ (k : Nat) (B' : List Nat), z.1 = k ∧ k ≤ l.length ∧ OutAt B' h' (some ⟨bn, 0, none⟩) (numL l.length ++ (l.take k).flatMap prL) ∧ Chg [] B' h1 h' ∧ ((l.take k).flatMap prL).length ≤ k * 1000100) (fun z _ => (l.length - z.1).toNat) ?_ ⟨0, B3, rfl, by omega, by simpa using hx3, hc03, by simp⟩
  rintro ⟨zi, u⟩ h4 ⟨k, B4, hzi, hkl, hx4, hc4, hlen⟩
  dsimp only at hzi
  subst hzi
  dsimp only
  refine ⟨fun e => ?_, fun e => ?_⟩
  ·have e : k < l.length := by simpa using e
   have hit : ((k : Nat) : Int).toNat = k := by omega
   obtain ⟨b, o, hA, hr⟩ := (hl.sub (s1.tr hc4.sub0)).get e
   have hm2 := List.getElem_mem e
   have hsn : (l.take (k + 1)).flatMap prL = (l.take k).flatMap prL ++ prL l[k] := by
    rw [← List.take_append_getElem e, List.flatMap_append]; simp
   have hp1 := hs _ hm2
   have hv1 : l[k].v.length ≤ 32 := by
    unfold mayB at hm
    rw [Bool.and_eq_true, List.all_eq_true] at hm
    have := hm.1 _ hm2
    simp only [okPr, Bool.and_eq_true, decide_eq_true_eq] at this
    exact this.2
   have ht1 : (textL l[k].p).length ≤ 10 + l[k].p.length := by
    unfold textL; rw [List.length_append]; have := numL_le (n := l[k].p.length) (by omega); omega
   have ht2 : (textL l[k].v).length ≤ 10 + l[k].v.length := by
    unfold textL; rw [List.length_append]; have := numL_le (n := l[k].v.length) (by omega); omega
   rw [hit]
   refine ⟨b, o, ⟨hA, by omega, by omega⟩, _, _, hr _ 0 2 rfl (by decide), cOut_Text hx4 (by rw [List.length_append]; omega) fun B5 h5 hx5 hc5 => cOut_Text hx5 (by rw [List.length_append, List.length_append]; omega) fun B6 h6 hx6 hc6 => ?_⟩
   refine ⟨⟨k + 1, B6, by rw [wrap64] <;> omega, by omega, ?_, (hc4.trans hc5).trans hc6, ?_⟩, by rw [wrap64] <;> omega⟩
   ·rw [hsn, prL, ← List.append_assoc, ← List.append_assoc]; exact hx6
   ·rw [hsn, prL, List.length_append, List.length_append]; omega
  ·have e : k = l.length := by simp at e; omega
   rw [e, List.take_length] at hx4
   exact cOut_String hx4 ⟨_, rfl, hkk _ (s1.tr hc4.sub0)⟩
end TL

namespace TL
open Go Go.Proofs
structure PtR where
 a : Option Addr
 c : Nat
 ps : List PrR
def upF {α : Type} (f : Nat → α) (k : Nat) (x : α) : Nat → α := fun j => if j = k then x else f j
theorem upF_same {α : Type} (f : Nat → α) (k : Nat) (x : α) : upF f k x k = x := by simp [upF]
theorem upF_ne {α : Type} (f : Nat → α) {k j : Nat} (x : α) (h : j ≠ k) : upF f k x j = f j := by simp [upF, h]
theorem range_at {m k : Nat} (hk : k < m) : List.range m = List.range k ++ k :: List.range' (k + 1) (m - k - 1) := by
 rw [List.range_eq_range', List.range_eq_range', show m = k + ((m - k - 1) + 1) by omega, ← List.range'_append_1]
 congr 1
 rw [List.range'_succ, Nat.zero_add]
 congr 2; omega
theorem flat_at {α : Type} (e : Nat → List α) {m k : Nat} (hk : k < m) : (List.range m).flatMap e = (List.range k).flatMap e ++ (e k ++ (List.range' (k + 1) (m - k - 1)).flatMap e) := by
 rw [range_at hk, List.flatMap_append, List.flatMap_cons]
theorem flat_up {α β : Type} (e : β → List α) (f : Nat → β) (x : β) {m k : Nat} (hk : k < m) : (List.range m).flatMap (fun j => e (upF f k x j)) = (List.range k).flatMap (fun j => e (f j)) ++ (e x ++ (List.range' (k + 1) (m - k - 1)).flatMap (fun j => e (f j))) := by
 rw [flat_at _ hk, upF_same]
 congr 1
 ·apply congrArg List.flatten
  apply List.map_congr_left
  intro j hj
  rw [upF_ne _ _ (by have := List.mem_range.1 hj; omega)]
 ·congr 1
  apply congrArg List.flatten
  apply List.map_congr_left
  intro j hj
  rw [upF_ne _ _ (by have := List.mem_range'_1.1 hj; omega)]
theorem flat_len {α : Type} (e : Nat → List α) {k w : Nat} (hw : ∀ j, j < k → (e j).length = w) : ((List.range k).flatMap e).length = k * w := by
 induction k with
 | zero => simp
 | succ k ih =>
  rw [List.range_succ, List.flatMap_append, List.length_append, ih fun j hj => hw j (by omega)]
  simp [hw k (by omega), Nat.succ_mul]
def encPt (r : PtR) : List Value := [.slice r.a r.ps.length r.c]
def encHs (x : List UInt8) : List Value := (bi x).map (Value.int .u8)
def partsC (P : Nat → PtR) : List Value := (List.range 16).flatMap fun i => encPt (P i)
def nodesC (g : Nat → List UInt8) : List Value := (List.range 32).flatMap fun k => encHs (g k)
def blkT (P : Nat → PtR) (g : Nat → List UInt8) (n : Nat) : List Value := partsC P ++ (nodesC g ++ [.int .i64 (n : Int)])
structure Tb (b : Nat) (h : PH) (P : Nat → PtR) (g : Nat → List UInt8) (n : Nat) : Prop where
 hb : h b = some (.cells (blkT P g n).toArray T_tree_Tree (0, 0))
 nb : ∀ j, j < 32 → (g j).length = 32
 rows : ∀ i, i < 16 → SR EncPr h (P i).a (P i).ps
def isStr : Value → Bool
 | .string _ => true
 | _ => false
theorem encHs_len (x : List UInt8) : (encHs x).length = x.length := by simp [encHs, bi]
theorem partsC_len (P : Nat → PtR) : (partsC P).length = 16 := flat_len (w := 1) _ fun _ _ => rfl
variable {b b2 : Nat} {h h' : PH} {P : Nat → PtR} {g : Nat → List UInt8} {n i k : Nat} {K : PH → Prop}
theorem nodesC_len (hg : ∀ j, j < 32 → (g j).length = 32) : (nodesC g).length = 1024 := flat_len (w := 32) _ fun j hj => by rw [encHs_len, hg j hj]
theorem Tb.part (x : Tb b h P g n) (hi : i < 16) {o : Nat} (ho : o = i) : h.rds b o 1 = some [.slice (P i).a (P i).ps.length (P i).c] := by
 refine rds_mid' (pre := (List.range i).flatMap fun i => encPt (P i)) (post := (List.range' (i + 1) (16 - i - 1)).flatMap (fun i => encPt (P i)) ++ (nodesC g ++ [.int .i64 (n : Int)])) x.hb ?_ ?_ rfl
 ·unfold blkT partsC
  rw [flat_at (fun i => encPt (P i)) hi]
  simp only [List.append_assoc]; rfl
 ·rw [flat_len (w := 1) _ fun _ _ => rfl]; omega
theorem Tb.node (x : Tb b h P g n) (hk : k < 32) {o : Nat} (ho : o = 16 + k * 32) : h.rds b o 32 = some ((bi (g k)).map (Value.int .u8) ++ []) := by
 refine rds_mid' (pre := partsC P ++ (List.range k).flatMap fun j => encHs (g j)) (post := (List.range' (k + 1) (32 - k - 1)).flatMap (fun j => encHs (g j)) ++ [.int .i64 (n : Int)]) x.hb ?_ ?_ ?_
 ·unfold blkT nodesC
  rw [flat_at (fun j => encHs (g j)) hk]
  simp only [List.append_assoc, List.append_nil, encHs]
 ·rw [List.length_append, partsC_len, flat_len (w := 32) _ fun j hj => by rw [encHs_len, x.nb j (by omega)]]
  exact ho
 ·have := encHs_len (g k)
  rw [x.nb k hk] at this
  rw [List.append_nil]; exact this.symm
theorem Tb.num (x : Tb b h P g n) {o : Nat} (ho : o = 1040) : h.rds b o 1 = some [.int .i64 (n : Int)] := by
 refine rds_mid' (pre := partsC P ++ nodesC g) (post := []) x.hb ?_ ?_ rfl
 ·unfold blkT; simp only [List.append_assoc, List.append_nil]
 ·rw [List.length_append, partsC_len, nodesC_len x.nb]; exact ho
theorem noStr {v : Value} (hv : v ∈ blkT P g n) : isStr v = false := by
 unfold blkT partsC nodesC encPt encHs at hv
 simp only [List.mem_append, List.mem_flatMap, List.mem_map, List.mem_cons, List.not_mem_nil, or_false] at hv
 rcases hv with ⟨_, _, rfl⟩ | ⟨_, _, _, _, rfl⟩ | rfl <;> rfl
theorem Tb.quiet (x : Tb b h P g n) : ∀ b' ∈ [b], ∀ cs T fr, h b' = some (.cells cs T fr) → ∀ v ∈ cs.toList, isStr v = false := fun b' hb' cs T fr e v hv => by
 have : b' = b := by simpa using hb'
 subst this
 rw [x.hb] at e; cases e
 exact noStr (by simpa using hv)
theorem Tb.keep {α : Type} {E : Enc α} {a : Option Addr} {l : List α} {B' : List Nat} (x : Tb b h P g n) (c : Chg [b] B' h h') (s : SR E h a l) (hE : ∀ y, ∃ v ∈ E.enc y, isStr v = true) : SR E h' a l := s.off isStr hE x.quiet c
theorem prStr (y : PrR) : ∃ v ∈ EncPr.enc y, isStr v = true := ⟨.string (mk y.p), by simp [EncPr], rfl⟩
theorem Tb.setPart (x : Tb b h P g n) (hi : i < 16) {r : PtR} (hr : SR EncPr h r.a r.ps) {o : Nat} (ho : o = i) (hk : ∀ h', Tb b h' (upF P i r) g n → Chg [b] [b] h h' → K h') : stH h b o [.slice r.a r.ps.length r.c] K := by
 refine st_mid' (pre := (List.range i).flatMap fun i => encPt (P i)) (mid := encPt (P i)) (post := (List.range' (i + 1) (16 - i - 1)).flatMap (fun i => encPt (P i)) ++ (nodesC g ++ [.int .i64 (n : Int)])) (cs' := blkT (upF P i r) g n) x.hb ?_ ?_ ?_ rfl fun h' hb' c => hk h' ⟨hb', x.nb, fun j hj => ?_⟩ c
 ·unfold blkT partsC
  rw [flat_at (fun i => encPt (P i)) hi]
  simp only [List.append_assoc]
 ·unfold blkT partsC
  rw [flat_up encPt P r hi]
  simp only [List.append_assoc]; rfl
 ·rw [flat_len (w := 1) _ fun _ _ => rfl]; omega
 ·unfold upF
  split
  ·exact x.keep c hr prStr
  ·exact x.keep c (x.rows j hj) prStr
theorem Tb.setNode (x : Tb b h P g n) (hk : k < 32) {y : List UInt8} (hy : y.length = 32) {o : Nat} (ho : o = 16 + k * 32) (hK : ∀ h', Tb b h' P (upF g k y) n → Chg [b] [b] h h' → K h') : stH h b o ((bi y).map (Value.int .u8) ++ []) K := by
 refine st_mid' (pre := partsC P ++ (List.range k).flatMap fun j => encHs (g j)) (mid := encHs (g k)) (post := (List.range' (k + 1) (32 - k - 1)).flatMap (fun j => encHs (g j)) ++ [.int .i64 (n : Int)]) (cs' := blkT P (upF g k y) n) x.hb ?_ ?_ ?_ ?_ fun h' hb' c => hK h' ⟨hb', fun j hj => ?_, fun j hj => x.keep c (x.rows j hj) prStr⟩ c
 ·unfold blkT nodesC
  rw [flat_at (fun j => encHs (g j)) hk]
  simp only [List.append_assoc]
 ·unfold blkT nodesC
  rw [flat_up encHs g y hk]
  simp only [List.append_assoc, List.append_nil, encHs]
 ·rw [List.length_append, partsC_len, flat_len (w := 32) _ fun j hj => by rw [encHs_len, x.nb j (by omega)]]
  exact ho
 ·rw [List.append_nil, encHs_len, x.nb k hk]
  have := encHs_len y
  rw [hy] at this; exact this
 ·unfold upF
  split
  ·exact hy
  ·exact x.nb j hj
theorem Tb.setNum (x : Tb b h P g n) {m : Nat} {o : Nat} (ho : o = 1040) (hK : ∀ h', Tb b h' P g m → Chg [b] [b] h h' → K h') : stH h b o [.int .i64 (m : Int)] K := by
 refine st_mid' (pre := partsC P ++ nodesC g) (mid := [.int .i64 (n : Int)]) (post := []) (cs' := blkT P g m) x.hb ?_ ?_ ?_ rfl fun h' hb' c => hK h' ⟨hb', x.nb, fun j hj => x.keep c (x.rows j hj) prStr⟩ c
 ·unfold blkT; simp only [List.append_assoc, List.append_nil]
 ·unfold blkT; simp only [List.append_assoc, List.append_nil]
 ·rw [List.length_append, partsC_len, nodesC_len x.nb]; exact ho
theorem Tb.sub (x : Tb b h P g n) (s : h.Sub h') : Tb b h' P g n := ⟨s _ _ x.hb, x.nb, fun i hi => (x.rows i hi).sub s⟩
theorem Tb.other {P2 : Nat → PtR} {g2 : Nat → List UInt8} {n2 : Nat} {B' : List Nat} (x : Tb b h P g n) (y : Tb b2 h P2 g2 n2) (hn : b ≠ b2) (c : Chg [b2] B' h h') : Tb b h' P g n :=
 ⟨c.keep x.hb (by simpa using hn), x.nb, fun i hi => y.keep c (x.rows i hi) prStr⟩
theorem Tb.ext {P2 : Nat → PtR} {g2 : Nat → List UInt8} (x : Tb b h P g n) (hP : ∀ i, i < 16 → P i = P2 i) (hg : ∀ k, k < 32 → g k = g2 k) : Tb b h P2 g2 n := by
 refine ⟨?_, fun j hj => hg j hj ▸ x.nb j hj, fun i hi => hP i hi ▸ x.rows i hi⟩
 rw [x.hb]
 unfold blkT partsC nodesC
 have e1 : (List.range 16).flatMap (fun i => encPt (P i)) = (List.range 16).flatMap fun i => encPt (P2 i) := by
  apply congrArg List.flatten
  apply List.map_congr_left
  intro j hj; rw [hP j (List.mem_range.1 hj)]
 have e2 : (List.range 32).flatMap (fun i => encHs (g i)) = (List.range 32).flatMap fun i => encHs (g2 i) := by
  apply congrArg List.flatten
  apply List.map_congr_left
  intro j hj; rw [hg j (List.mem_range.1 hj)]
 rw [e1, e2]
def innT (x y : List UInt8) : List UInt8 := 78 :: (x ++ y)
def nodeD (f : Nat → List UInt8) : Nat → Nat → List UInt8
 | 0, k => f (k - 16)
 | d + 1, k => shaN (innT (nodeD f d (2 * k)) (nodeD f d (2 * k + 1)))
def nodeN (f : Nat → List UInt8) (k : Nat) : List UInt8 := if k = 0 then List.replicate 32 0 else nodeD f (4 - k.log2) k
theorem log_in : ∀ k : Nat, k < 16 → 1 ≤ k → 4 - k.log2 = (4 - (2 * k).log2) + 1 ∧ 4 - (2 * k + 1).log2 = 4 - (2 * k).log2 := by decide +kernel
theorem log_leaf : ∀ k : Nat, k < 32 → 16 ≤ k → 4 - k.log2 = 0 := by decide +kernel
theorem node_in (f : Nat → List UInt8) {k : Nat} (h1 : 1 ≤ k) (h2 : k < 16) : nodeN f k = shaN (innT (nodeN f (2 * k)) (nodeN f (2 * k + 1))) := by
 obtain ⟨e1, e2⟩ := log_in k h2 h1
 unfold nodeN
 rw [if_neg (by omega), if_neg (by omega), if_neg (by omega), e1, e2]
 rfl
theorem node_leaf (f : Nat → List UInt8) {k : Nat} (h1 : 16 ≤ k) (h2 : k < 32) : nodeN f k = f (k - 16) := by
 unfold nodeN
 rw [if_neg (by omega), log_leaf k h2 h1]
 rfl
theorem node_len (f : Nat → List UInt8) (hf : ∀ i, (f i).length = 32) (k : Nat) : (nodeN f k).length = 32 := by
 unfold nodeN
 split
 ·simp
 ·cases 4 - k.log2 with
  | zero => exact hf _
  | succ d => exact shaN_len _
end TL

namespace TL
open Go Go.Proofs
variable {b : Nat} {h : PH} {K : Value → PH → Prop} {P : Nat → PtR} {g : Nat → List UInt8} {n : Nat} {S : List PrR} {p v : List UInt8}
theorem chg_pre {h1 h2 : PH} (s : h.Sub h1) (d : Chg [b] [b] h1 h2) : Chg [b] [b] h h2 := ⟨fun q o hq e => d.1 q o hq (s q o e), fun _ hq => .inl hq⟩
theorem sr_bi {x : List UInt8} {bn : Nat} {T : TypeId} {fr : Nat × Nat} (hb : h bn = some (.cells ((bi x).map (Value.int .u8) ++ []).toArray T fr)) : SR EncB h (some ⟨bn, 0, none⟩) x := by
 refine .inr ⟨bn, 0, rfl, ?_⟩
 rw [List.append_nil, ← row_bi] at hb
 rw [rds_of hb (by rw [EncB.row_len]; omega), ← EncB.row_len, List.drop_zero, List.take_length]
theorem cInnerText {x y : List UInt8} (hx : x.length = 32) (hy : y.length = 32) (hk : ∀ h', h.Sub h' → K (.string (mk (innT x y))) h') :
  CallH Tryz.prog id_tree_innerText [.agg (((bi x).map (Value.int .u8) ++ [])).toArray, .agg (((bi y).map (Value.int .u8) ++ [])).toArray] K h := by
 refine F_tree_innerText_ok (by rw [bi_len, hx]) (by rw [bi_len, hy]) (nwL fun b1 h1 _ hb1 c1 => nwL fun b2 h2 _ hb2 c2 => ⟨by decide, mk x, ?_, ?_, by decide, mk y, ?_, ?_, ?_⟩)
 ·have := (sr_bi (c2.sub0 _ _ hb1)).str
  rw [hx] at this; exact this
 ·have : (mk x).size = 32 := by rw [size_mk, hx]
  rw [this]; decide
 ·have := (sr_bi hb2).str
  rw [hy] at this; exact this
 ·rw [show (⟨#[78]⟩ : ByteArray) = mk [78] from rfl, mk_append, size_mk, size_mk, List.length_append, hx, hy]; decide
 ·rw [show (⟨#[78]⟩ : ByteArray) = mk [78] from rfl, mk_append, mk_append]
  exact hk _ (c1.sub0.tr c2.sub0)
theorem cInner {x y : List UInt8} (hx : x.length = 32) (hy : y.length = 32) (hk : ∀ h', h.Sub h' → K (.agg (((bi (shaN (innT x y))).map (Value.int .u8) ++ [])).toArray) h') :
  CallH Tryz.prog id_tree_Inner [.agg (((bi x).map (Value.int .u8) ++ [])).toArray, .agg (((bi y).map (Value.int .u8) ++ [])).toArray] K h :=
 F_tree_Inner_ok (by rw [bi_len, hx]) (by rw [bi_len, hy]) (cInnerText hx hy fun h1 s1 => ⟨_, rfl, cSha (by simp [innT, hx, hy]) fun h2 s2 => ⟨bi (shaN (innT x y)), by rw [bi_len, shaN_len], rfl, hk _ (s1.tr s2)⟩⟩)
theorem cLeaf {s : List UInt8} (hs : s.length ≤ 900000) (hk : ∀ h', h.Sub h' → K (.agg (((bi (shaN (76 :: s))).map (Value.int .u8) ++ [])).toArray) h') : CallH Tryz.prog id_tree_Leaf [.string (mk s)] K h := by
 refine F_tree_Leaf_ok ⟨?_, ?_⟩
 ·rw [size_mk]; show ((1 + s.length : Nat) : Int) ≤ _; omega
 ·rw [show (⟨#[76]⟩ : ByteArray) = mk [76] from rfl, mk_append]
  exact cSha (by simp; omega) fun h' s' => ⟨bi (shaN (76 :: s)), by rw [bi_len, shaN_len], rfl, hk h' s'⟩
def PgOk (i : Nat) (l : List PrR) : Prop := mayB l = true ∧ (∀ x ∈ l, bkt x.p = i) ∧ l.length ≤ 48
theorem cut_len {p : List UInt8} (h : (cutV p).2.2 = true) : p.length ≤ 33 := by
 unfold cutV at h
 split at h
 ·rename_i m k e
  obtain ⟨rfl, h1, h2⟩ := cut_iff.1 e
  have := named_len h1
  have := key_len h2
  simp; omega
 ·cases h
theorem ok_len {x : PrR} (h : okPr x = true) : x.p.length ≤ 33 ∧ x.v.length ≤ 32 := by
 simp only [okPr, Bool.and_eq_true, decide_eq_true_eq] at h
 exact ⟨cut_len h.1, h.2⟩
theorem may_ok {l : List PrR} (h : mayB l = true) : (∀ x ∈ l, okPr x = true) ∧ Up l := by
 unfold mayB at h
 simpa using h
theorem page_len {i : Nat} {l : List PrR} (h : PgOk i l) : (pageL l).length ≤ 10000 := by
 have h1 : ∀ (l : List PrR), (∀ x ∈ l, okPr x = true) → (l.flatMap prL).length ≤ l.length * 85 := by
  intro l hl
  induction l with
  | nil => simp
  | cons x r ih =>
   have := ih fun y hy => hl y (List.mem_cons_of_mem _ hy)
   obtain ⟨e1, e2⟩ := ok_len (hl x List.mem_cons_self)
   have n1 := numL_le (n := x.p.length) (by omega)
   have n2 := numL_le (n := x.v.length) (by omega)
   simp only [List.flatMap_cons, List.length_append, List.length_cons, prL, textL]
   omega
 have h2 := h1 l (may_ok h.1).1
 have h3 := numL_le (n := l.length) (by have := h.2.2; omega)
 have := h.2.2
 unfold pageL
 rw [List.length_append]; omega
theorem part_all {i : Nat} {l : List PrR} (h : ∀ x ∈ l, bkt x.p = i) : partB l i = l := List.filter_eq_self.2 fun x hx => by simp [h x hx]
theorem page_ok {i : Nat} {l : List PrR} (h : PgOk i l) : pageV i l = (pageL l, 0) := by
 unfold pageV
 rw [if_pos ⟨h.1, by rw [part_all h.2.1]⟩, if_pos h.2.2]
theorem cTPage {i : Nat} (x : Tb b h P g n) (hi : i < 16) (hp : PgOk i (P i).ps) (hk : ∀ h', h.Sub h' → K (.string (mk (pageL (P i).ps))) h') : CallH Tryz.prog id_tree_Tree_page [.pointer (some ⟨b, 0, none⟩), .int .i64 (i : Int)] K h := by
 have hit : ((i : Nat) : Int).toNat = i := by omega
 refine F_tree_Tree_page_ok ⟨b, 0, rfl, ⟨by omega, by omega⟩, (P i).a, (P i).ps.length, (P i).c, ?_, cPage hi (x.rows i hi) (by have := hp.2.2; omega) (fun y hy => by have := ok_len ((may_ok hp.1).1 y hy); omega) fun h' s => ⟨_, _, rfl, ?_⟩⟩
 ·rw [hit]; exact x.part hi (by omega)
 ·rw [page_ok hp]; exact hk h' s
def leafT (S : List PrR) (i : Nat) : List UInt8 := 76 :: pageL (partB S i)
def leafF (S : List PrR) (i : Nat) : List UInt8 := shaN (leafT S i)
def nd (S : List PrR) : Nat → List UInt8 := nodeN (leafF S)
theorem nd_len (S : List PrR) (k : Nat) : (nd S k).length = 32 := node_len _ (fun _ => shaN_len _) k
structure Tr (b : Nat) (h : PH) (S : List PrR) : Prop where
 tb : ∃ P, (∀ i, i < 16 → (P i).ps = partB S i) ∧ Tb b h P (nd S) S.length
 may : mayB S = true
 le : S.length ≤ 48
theorem part_ok (hm : mayB S = true) (hl : S.length ≤ 48) (i : Nat) : PgOk i (partB S i) := by
 obtain ⟨h1, h2⟩ := may_ok hm
 refine ⟨?_, fun x hx => by simpa using (List.mem_filter.1 hx).2, Nat.le_trans (List.length_filter_le _ _) hl⟩
 simp only [mayB, Bool.and_eq_true, List.all_eq_true, decide_eq_true_eq]
 exact ⟨fun x hx => h1 x (List.mem_filter.1 hx).1, h2.sublist List.filter_sublist⟩
theorem Tr.sub {h' : PH} (x : Tr b h S) (s : h.Sub h') : Tr b h' S := by
 obtain ⟨⟨P, hP, t⟩, h1, h2⟩ := x
 exact ⟨⟨P, hP, t.sub s⟩, h1, h2⟩
theorem Tr.other {b2 : Nat} {S2 : List PrR} {B' : List Nat} {h' : PH} (x : Tr b h S) (y : Tr b2 h S2) (hn : b ≠ b2) (c : Chg [b2] B' h h') : Tr b h' S := by
 obtain ⟨⟨P, hP, t⟩, h1, h2⟩ := x
 obtain ⟨⟨P2, hP2, t2⟩, _, _⟩ := y
 exact ⟨⟨P, hP, t.other t2 hn c⟩, h1, h2⟩
theorem Tr.keep {α : Type} {E : Enc α} {a : Option Addr} {l : List α} {B' : List Nat} {h' : PH} (x : Tr b h S) (c : Chg [b] B' h h') (s : SR E h a l) (hE : ∀ y, ∃ v ∈ E.enc y, isStr v = true) : SR E h' a l := by
 obtain ⟨⟨P, hP, t⟩, h1, h2⟩ := x
 exact t.keep c s hE
theorem Tr.there (x : Tr b h S) : ∃ o, h b = some o := by
 obtain ⟨⟨P, hP, t⟩, h1, h2⟩ := x
 exact ⟨_, t.hb⟩
theorem shl1 : ∀ l : Nat, l ≤ 4 → shlV .i64 (1 : Int) (l : Int) = ((2 ^ l : Nat) : Int) := by decide +kernel
theorem cNode (x : Tr b h S) {lv i : Nat} (hl : lv ≤ 4) (hi : i < 2 ^ lv) (hk : K (.tuple #[.agg (((bi (nd S (2 ^ lv + i))).map (Value.int .u8) ++ [])).toArray, .bool true]) h) :
  CallH Tryz.prog id_tree_Tree_Node [.pointer (some ⟨b, 0, none⟩), .int .i64 (lv : Int), .int .i64 (i : Int)] K h := by
 obtain ⟨⟨P, hP, t⟩, _, _⟩ := x
 have h32 : 2 ^ lv + i < 32 := by
  have : 2 ^ lv ≤ 2 ^ 4 := Nat.pow_le_pow_right (by decide) hl
  omega
 have hs := shl1 lv hl
 refine F_tree_Tree_Node_ok ⟨fun _ => by omega, fun e => ?_, fun e => ⟨by omega, b, 0, rfl, ?_⟩⟩
 ·rw [hs] at e
  simp only [Option.isNone_some, Bool.false_or, Bool.or_eq_true, decide_eq_true_eq] at e
  omega
 ·rw [hs, wrap64 (by omega) (by omega)]
  have e1 : (((2 ^ lv : Nat) : Int) + ((i : Nat) : Int)).toNat = 2 ^ lv + i := by omega
  rw [e1]
  exact ⟨⟨by omega, by omega⟩, bi (nd S (2 ^ lv + i)), by rw [bi_len, nd_len], t.node h32 (by omega), hk⟩
theorem cRoot (x : Tr b h S) (hk : K (.agg (((bi (nd S 1)).map (Value.int .u8) ++ [])).toArray) h) : CallH Tryz.prog id_tree_Tree_Root [.pointer (some ⟨b, 0, none⟩)] K h :=
 F_tree_Tree_Root_ok (cNode (lv := 0) (i := 0) x (by decide) (by decide) ⟨bi (nd S 1), by rw [bi_len, nd_len], true, rfl, hk⟩)
end TL

namespace TL
open Go Go.Proofs
variable {b : Nat} {h : PH} {K : Value → PH → Prop} {P : Nat → PtR} {g : Nat → List UInt8} {n : Nat} {S : List PrR} {p v : List UInt8}
theorem tdiv2 (k : Nat) : ((k : Nat) : Int).tdiv (2 : Int) = ((k / 2 : Nat) : Int) := by
 rw [Int.tdiv_eq_ediv_of_nonneg (by omega)]; omega
theorem blk0 : blkT (fun _ => ⟨none, 0, []⟩) (fun _ => List.replicate 32 0) 0 = (List.replicate 16 (.slice none 0 0 : Value)) ++ ((List.replicate 1024 (.int .u8 (0 : Int) : Value)) ++ ([.int .i64 (0 : Int)] : List Value)) := by kernel_rfl
theorem cNew (hk : ∀ b h', h b = none → Tr b h' [] → Chg [] [b] h h' → K (.pointer (some ⟨b, 0, none⟩)) h') : CallH Tryz.prog id_tree_New [] K h := by
 refine F_tree_New_ok (nwL fun b h1 hbn hb1 c1 => ?_)
 have hpo := part_ok (S := []) (by decide) (by decide)
 have x0 : Tb b h1 (fun _ => ⟨none, 0, []⟩) (fun _ => List.replicate 32 0) 0 := by
  refine ⟨?_, fun _ _ => by simp, fun _ _ => .inl rfl⟩
  rw [hb1, blk0]
 refine LoopP.ind (fun (z : Int × Unit) h' => ∃ (i : Nat) (g : Nat → List UInt8), z.1 = i ∧ i ≤ 16 ∧ Tb b h' (fun _ => ⟨none, 0, []⟩) g 0 ∧ g 0 = List.replicate 32 0 ∧ (∀ j, j < i → g (16 + j) = nd [] (16 + j)) ∧ Chg [b] [b] h1 h') (fun z _ => (16 - z.1).toNat) ?_ ⟨0, _, rfl, by omega, x0, rfl, fun _ h => by omega, Chg.refl _ _⟩
 rintro ⟨zi, u⟩ h2 ⟨i, g, hzi, hi, x2, hg0, hg, c2⟩
 dsimp only at hzi
 subst hzi
 dsimp only
 refine ⟨fun e => ?_, fun e => ?_⟩
 ·have e : i < 16 := by simp at e; omega
  refine ⟨b, 0, rfl, cTPage x2 e (hpo i) fun h3 s3 => ⟨_, rfl, cLeaf (by have := page_len (hpo i); exact Nat.le_trans this (by decide)) fun h4 s4 => ⟨bi _, by rw [bi_len, shaN_len], rfl, ?_⟩⟩⟩
  rw [wrap64 (n := (16 : Int) + i) (by omega) (by omega)]
  have ht : ((16 : Int) + (i : Nat)).toNat = 16 + i := by omega
  rw [ht]
  refine ⟨⟨by omega, by omega⟩, ((x2.sub s3).sub s4).setNode (k := 16 + i) (by omega) (shaN_len _) (by omega) fun h5 x5 c5 => ⟨⟨i + 1, _, by rw [wrap64] <;> omega, by omega, x5, ?_, fun j hj => ?_, ?_⟩, by rw [wrap64] <;> omega⟩⟩
  ·rw [upF_ne _ _ (by omega)]; exact hg0
  ·by_cases hji : j = i
   ·subst hji
    rw [upF_same]
    unfold nd
    rw [node_leaf _ (by omega) (by omega)]
    rw [show 16 + j - 16 = j by omega]; rfl
   ·rw [upF_ne _ _ (by omega)]; exact hg j (by omega)
  ·exact c2.trans (chg_pre (s3.tr s4) c5)
 ·have e : i = 16 := by simp at e; omega
  subst e
  refine LoopP.ind (fun (z : Int × Unit) h' => ∃ (k : Nat) (g : Nat → List UInt8), z.1 = k ∧ k ≤ 15 ∧ Tb b h' (fun _ => ⟨none, 0, []⟩) g 0 ∧ g 0 = List.replicate 32 0 ∧ (∀ j, k < j → j < 32 → g j = nd [] j) ∧ Chg [b] [b] h1 h') (fun z _ => z.1.toNat) ?_ ⟨15, g, rfl, by omega, x2, hg0, fun j h1 h2 => ?_, c2⟩
  ·rintro ⟨zi, u⟩ h3 ⟨k, g3, hzk, hk15, x3, hg03, hg3, c3⟩
   dsimp only at hzk
   subst hzk
   dsimp only
   refine ⟨fun e => ?_, fun e => ?_⟩
   ·have e : 0 < k := by simp at e; omega
    have w1 : IntKind.wrap .i64 ((2 : Int) * (k : Nat)) = ((2 * k : Nat) : Int) := by rw [wrap64] <;> omega
    have w2 : IntKind.wrap .i64 (((2 * k : Nat) : Int) + (1 : Int)) = ((2 * k + 1 : Nat) : Int) := by rw [wrap64] <;> omega
    rw [w1, w2]
    have t1 : ((2 * k : Nat) : Int).toNat = 2 * k := by omega
    have t2 : ((2 * k + 1 : Nat) : Int).toNat = 2 * k + 1 := by omega
    have t3 : ((k : Nat) : Int).toNat = k := by omega
    rw [t1, t2, t3]
    refine ⟨b, 0, rfl, ⟨by omega, by omega⟩, bi (g3 (2 * k)), by rw [bi_len, x3.nb _ (by omega)], x3.node (by omega) (by omega), b, 0, rfl, ⟨by omega, by omega⟩, bi (g3 (2 * k + 1)), by rw [bi_len, x3.nb _ (by omega)], x3.node (by omega) (by omega), b, 0, rfl, cInner (x3.nb _ (by omega)) (x3.nb _ (by omega)) fun h4 s4 => ⟨bi _, by rw [bi_len, shaN_len], rfl, ⟨by omega, by omega⟩, (x3.sub s4).setNode (k := k) (by omega) (shaN_len _) (by omega) fun h5 x5 c5 => ⟨⟨k - 1, _, by rw [wrap64] <;> omega, by omega, x5, ?_, fun j h1 h2 => ?_, c3.trans (chg_pre s4 c5)⟩, by rw [wrap64] <;> omega⟩⟩⟩
    ·rw [upF_ne _ _ (by omega)]; exact hg03
    ·by_cases hjk : j = k
     ·subst hjk
      rw [upF_same, hg3 _ (by omega) (by omega), hg3 _ (by omega) (by omega)]
      exact (node_in _ (by omega) (by omega)).symm
     ·rw [upF_ne _ _ hjk]; exact hg3 j (by omega) h2
   ·have e : k = 0 := by simp at e; omega
    subst e
    refine hk b h3 hbn ⟨⟨_, fun _ _ => rfl, x3.ext (fun _ _ => rfl) fun j hj => ?_⟩, by decide, by decide⟩ ((c1.trans c3).sub (by simp) (by simp))
    by_cases h0 : j = 0
    ·subst h0; rw [hg03]; rfl
    ·exact hg3 j (by omega) hj
  ·have := hg (j - 16) (by omega)
   rw [show 16 + (j - 16) = j by omega] at this
   exact this
def Anc (j x : Nat) : Prop := j = x ∨ j = x / 2 ∨ j = x / 4 ∨ j = x / 8 ∨ j = x / 16
theorem cAnew {part : Nat} (hpt : part < 16) (hP : ∀ i, i < 16 → (P i).ps = partB S i) (x : Tb b h P g n) (hm : mayB S = true) (hl : S.length ≤ 48) (hg : ∀ j, j < 32 → ¬ Anc j (16 + part) → g j = nd S j)
  (hk : ∀ h', Tb b h' P (nd S) n → Chg [b] [b] h h' → K (.tuple #[]) h') : CallH Tryz.prog id_tree_Tree_anew [.pointer (some ⟨b, 0, none⟩), .int .i64 (part : Int)] K h := by
 have hpo := part_ok hm hl part
 rw [← hP part hpt] at hpo
 refine F_tree_Tree_anew_ok (nwL fun bx h1 hbx hb1 c1 => ?_)
 have hne : bx ≠ b := fun e => by subst e; rw [x.hb] at hbx; cases hbx
 have hr : ∀ h' : PH, h' bx = some (.cells [Value.pointer (some ⟨b, 0, none⟩)].toArray 25 (0, 0)) → h'.rds bx 0 1 = some [.pointer (some ⟨b, 0, none⟩)] := fun h' e => rdsL e rfl rfl
 refine ⟨_, hr _ hb1, _, hr _ hb1, b, 0, rfl, cTPage (x.sub c1.sub0) hpt hpo fun h2 s2 => ⟨_, rfl, hr _ (s2 _ _ hb1), cLeaf (by have := page_len hpo; omega) fun h3 s3 => ⟨bi _, by rw [bi_len, shaN_len], rfl, hr _ (s3 _ _ (s2 _ _ hb1)), ?_⟩⟩⟩
 have w1 : IntKind.wrap .i64 ((16 : Int) + (part : Nat)) = ((16 + part : Nat) : Int) := by rw [wrap64] <;> omega
 have t1 : ((16 + part : Nat) : Int).toNat = 16 + part := by omega
 rw [w1, t1]
 have hb3 := s3 _ _ (s2 _ _ hb1)
 refine ⟨⟨by omega, by omega⟩, (((x.sub c1.sub0).sub s2).sub s3).setNode (k := 16 + part) (by omega) (shaN_len _) (by omega) fun h4 x4 c4 => ?_⟩
 have hb4 := c4.keep hb3 (by simpa using hne)
 have w2 : IntKind.wrap .i64 (((16 + part : Nat) : Int).tdiv (2 : Int)) = (((16 + part) / 2 : Nat) : Int) := by rw [tdiv2, wrap64] <;> omega
 rw [w2]
 have lf : ∀ j, j < 32 → (¬ Anc j (16 + part) ∨ (16 + part) / 2 < j) → upF g (16 + part) (shaN (76 :: pageL (P part).ps)) j = nd S j := fun j hj hh => by
  by_cases hjp : j = 16 + part
  ·subst hjp
   rw [upF_same]
   unfold nd
   rw [node_leaf _ (by omega) (by omega), show 16 + part - 16 = part by omega, hP part hpt]
   rfl
  ·rw [upF_ne _ _ hjp]
   refine hg j hj fun ha => ?_
   unfold Anc at ha hh
   omega
 refine LoopP.ind (fun (z : Int × Unit) h' => ∃ (k : Nat) (g : Nat → List UInt8), z.1 = k ∧ (k = (16 + part) / 2 ∨ k = (16 + part) / 4 ∨ k = (16 + part) / 8 ∨ k = (16 + part) / 16 ∨ k = 0) ∧ Tb b h' P g n ∧ h' bx = some (.cells [Value.pointer (some ⟨b, 0, none⟩)].toArray 25 (0, 0)) ∧ (∀ j, j < 32 → (¬ Anc j (16 + part) ∨ k < j) → g j = nd S j) ∧ Chg [b] [b] h h') (fun z _ => z.1.toNat) ?_ ⟨(16 + part) / 2, _, rfl, .inl rfl, x4, hb4, lf, chg_pre ((c1.sub0.tr s2).tr s3) c4⟩
 rintro ⟨zi, u⟩ h5 ⟨k, g5, hzk, hkk, x5, hb5, hg5, c5⟩
 dsimp only at hzk
 subst hzk
 dsimp only
 refine ⟨fun e => ?_, fun e => ?_⟩
 ·have e : 0 < k := by simp at e; omega
  have hk15 : k < 16 := by omega
  have w1 : IntKind.wrap .i64 ((2 : Int) * (k : Nat)) = ((2 * k : Nat) : Int) := by rw [wrap64] <;> omega
  have w2 : IntKind.wrap .i64 (((2 * k : Nat) : Int) + (1 : Int)) = ((2 * k + 1 : Nat) : Int) := by rw [wrap64] <;> omega
  have t1 : ((2 * k : Nat) : Int).toNat = 2 * k := by omega
  have t2 : ((2 * k + 1 : Nat) : Int).toNat = 2 * k + 1 := by omega
  have t3 : ((k : Nat) : Int).toNat = k := by omega
  refine F_tree_Tree_anew_1_ok ?_
  unfold F_tree_Tree_anew_1
  rw [w1, w2, t1, t2, t3]
  refine ⟨_, hr _ hb5, _, hr _ hb5, b, 0, rfl, ⟨by omega, by omega⟩, bi (g5 (2 * k)), by rw [bi_len, x5.nb _ (by omega)], x5.node (by omega) (by omega), _, hr _ hb5, b, 0, rfl, ⟨by omega, by omega⟩, bi (g5 (2 * k + 1)), by rw [bi_len, x5.nb _ (by omega)], x5.node (by omega) (by omega), b, 0, rfl, cInner (x5.nb _ (by omega)) (x5.nb _ (by omega)) fun h6 s6 => ⟨bi _, by rw [bi_len, shaN_len], rfl, hr _ (s6 _ _ hb5), ⟨by omega, by omega⟩, (x5.sub s6).setNode (k := k) (by omega) (shaN_len _) (by omega) fun h7 x7 c7 => ⟨⟨k / 2, _, by rw [tdiv2, wrap64] <;> omega, by omega, x7, c7.keep (s6 _ _ hb5) (by simpa using hne), fun j hj hh => ?_, c5.trans (chg_pre s6 c7)⟩, by rw [tdiv2, wrap64] <;> omega⟩⟩⟩
  by_cases hjk : j = k
  ·subst hjk
   rw [upF_same, hg5 _ (by omega) (by omega), hg5 _ (by omega) (by omega)]
   exact (node_in _ (by omega) (by omega)).symm
  ·rw [upF_ne _ _ hjk]
   refine hg5 j hj ?_
   by_cases ha : Anc j (16 + part)
   ·refine .inr ?_
    unfold Anc at ha hh
    omega
   ·exact .inl ha
 ·have e : k = 0 := by simp at e; omega
  subst e
  refine hk _ (x5.ext (fun _ _ => rfl) fun j hj => hg5 j hj ?_) c5
  by_cases h0 : j = 0
  ·subst h0; refine .inl fun ha => ?_
   unfold Anc at ha; omega
  ·exact .inr (by omega)
end TL

namespace TL
open Go Go.Proofs
variable {b : Nat} {h : PH} {K : Value → PH → Prop} {P : Nat → PtR} {g : Nat → List UInt8} {n : Nat} {S : List PrR} {p v : List UInt8}
theorem look_partB (S : List PrR) (i : Nat) (q : List UInt8) : look (partB S i) q = if bkt q = i then look S q else none := by
 induction S with
 | nil => simp [partB, look]
 | cons x r ih =>
  unfold partB at ih ⊢
  rw [List.filter_cons]
  by_cases hx : bkt x.p = i
  ·rw [if_pos (by simp [hx]), look, ih, look]
   by_cases hq : x.p = q
   ·rw [if_pos hq, if_pos hq, if_pos (hq ▸ hx)]
   ·rw [if_neg hq, if_neg hq]
  ·rw [if_neg (by simp [hx]), ih, look]
   by_cases hq : x.p = q
   ·rw [if_pos hq, if_neg (fun e => hx (hq ▸ e)), if_neg (fun e => hx (hq ▸ e))]
   ·rw [if_neg hq]
theorem up_part (hu : Up S) (i : Nat) : Up (partB S i) := hu.sublist List.filter_sublist
theorem part_ins (hu : Up S) (i : Nat) : partB (ins S p v) i = if bkt p = i then ins (partB S i) p v else partB S i := by
 by_cases hb : bkt p = i
 ·rw [if_pos hb]
  refine Up.ext (up_part (hu.ins p v) i) ((up_part hu i).ins p v) fun q => ?_
  rw [look_partB, look_ins, look_ins, look_partB]
  by_cases e : p = q
  ·subst e; simp [hb]
  ·simp [e]
 ·rw [if_neg hb]
  refine Up.ext (up_part (hu.ins p v) i) (up_part hu i) fun q => ?_
  rw [look_partB, look_ins, look_partB]
  by_cases e : p = q
  ·subst e; simp [hb]
  ·simp [e]
theorem nd_same {S' : List PrR} {part : Nat} (hpt : part < 16) (hs : ∀ i, i < 16 → i ≠ part → partB S i = partB S' i) : ∀ m j, 32 - j = m → j < 32 → ¬ Anc j (16 + part) → nd S j = nd S' j := by
 intro m
 induction m using Nat.strongRecOn with
 | ind m ih =>
  intro j hm hj ha
  by_cases h16 : 16 ≤ j
  ·unfold nd
   rw [node_leaf _ h16 hj, node_leaf _ h16 hj, leafF, leafF, leafT, leafT, hs (j - 16) (by omega) (fun e => ha (by unfold Anc; omega))]
  ·by_cases h0 : j = 0
   ·subst h0; unfold nd nodeN; rw [if_pos rfl, if_pos rfl]
   ·have e1 := ih (32 - 2 * j) (by omega) (2 * j) rfl (by omega) (fun h => ha (by unfold Anc at h ⊢; omega))
    have e2 := ih (32 - (2 * j + 1)) (by omega) (2 * j + 1) rfl (by omega) (fun h => ha (by unfold Anc at h ⊢; omega))
    unfold nd at e1 e2 ⊢
    rw [node_in (leafF S) (k := j) (by omega) (by omega), e1, e2, ← node_in (leafF S') (k := j) (by omega) (by omega)]
theorem cFind (x : Tr b h S) (hp : p.length ≤ 1000000) (hk : ∀ h', h.Sub h' → K (.tuple #[.int .i64 (bkt p : Nat), .int .i64 (posP (partB S (bkt p)) p : Nat), .bool (look S p).isSome]) h') :
  CallH Tryz.prog id_tree_Tree_find [.pointer (some ⟨b, 0, none⟩), .string (mk p)] K h := by
 obtain ⟨⟨P, hP, t⟩, hm, hl⟩ := x
 refine F_tree_Tree_find_ok (cBktOf hp fun h1 s1 => ⟨_, rfl, b, 0, rfl, ⟨by omega, by have := bkt_lt p; omega⟩, (P (bkt p)).a, (P (bkt p)).ps.length, (P (bkt p)).c, ?_, ?_⟩)
 ·have : ((bkt p : Nat) : Int).toNat = bkt p := by omega
  rw [this]
  exact (t.sub s1).part (bkt_lt p) (by omega)
 ·have hb := hP _ (bkt_lt p)
  have hr := (t.sub s1).rows _ (bkt_lt p)
  have hkk := hk h1 s1
  have hlk := look_partB S (bkt p) p
  rw [if_pos rfl] at hlk
  rw [← hlk, ← hb] at hkk
  refine cSearch hr ?_ ?_ ⟨_, _, rfl, hkk⟩
  ·rw [hb]; exact up_part (may_ok hm).2 _
  ·rw [hb]; exact Nat.le_trans (List.length_filter_le _ _) (by omega)
def setV (S : List PrR) (p v : List UInt8) : Nat × List PrR :=
 if (cutV p).2.2 = false then (20, S) else if 32 < v.length then (3, S) else if look S p = none ∧ 48 ≤ S.length then (6, S) else (0, ins S p v)
theorem ins_may (hm : mayB S = true) (hc : (cutV p).2.2 = true) (hv : v.length ≤ 32) : mayB (ins S p v) = true := by
 obtain ⟨h1, h2⟩ := may_ok hm
 simp only [mayB, Bool.and_eq_true, List.all_eq_true, decide_eq_true_eq]
 refine ⟨fun x hx => ?_, h2.ins p v⟩
 rcases ins_mem hx with rfl | hx
 ·simp only [okPr, Bool.and_eq_true, decide_eq_true_eq]; exact ⟨hc, hv⟩
 ·exact h1 x hx
theorem cAnewS {S' : List PrR} {part : Nat} (hpt : part < 16) (hP : ∀ i, i < 16 → (P i).ps = partB S' i) (hs : ∀ i, i < 16 → i ≠ part → partB S i = partB S' i) (x : Tb b h P (nd S) S'.length) (hm : mayB S' = true) (hl : S'.length ≤ 48)
  (hk : ∀ h', Tr b h' S' → Chg [b] [b] h h' → K (.tuple #[]) h') : CallH Tryz.prog id_tree_Tree_anew [.pointer (some ⟨b, 0, none⟩), .int .i64 (part : Int)] K h :=
 cAnew hpt hP x hm hl (fun j hj ha => nd_same hpt hs _ j rfl hj ha) fun h' x' c => hk h' ⟨⟨P, hP, x'⟩, hm, hl⟩ c
theorem upP {r : PtR} {part : Nat} {S' : List PrR} (hP : ∀ i, i < 16 → (P i).ps = partB S i) (hr : r.ps = partB S' part) (hs : ∀ i, i < 16 → i ≠ part → partB S i = partB S' i) : ∀ i, i < 16 → (upF P part r i).ps = partB S' i := fun i hi => by
 by_cases e : i = part
 ·subst e; rw [upF_same]; exact hr
 ·rw [upF_ne _ _ e, hP i hi, hs i hi e]
theorem pos_there {l : List PrR} (hu : Up l) (h : (look l p).isSome = true) : posP l p < l.length := by
 rw [look_at hu] at h
 split at h
 ·assumption
 ·cases h
theorem Tb.setRow {a : Option Addr} {m c i o : Nat} {l : List PrR} {K : PH → Prop} (x : Tb b h P g n) (hi : i < 16) (hr : SR EncPr h a l) (hm : m = l.length) (ho : o = i) (hk : ∀ h', Tb b h' (upF P i ⟨a, c, l⟩) g n → Chg [b] [b] h h' → K h') : stH h b o [.slice a m c] K := by
 subst hm
 exact x.setPart (r := ⟨a, c, l⟩) hi hr ho hk
set_option maxHeartbeats 1000000 in
theorem cSet (x : Tr b h S) (hp : p.length ≤ 1000000) (hvl : v.length ≤ 1000000) (hk : ∀ h', Tr b h' (setV S p v).2 → Chg [b] [b] h h' → K (.int .i64 ((setV S p v).1 : Nat)) h') :
  CallH Tryz.prog id_tree_Tree_Set [.pointer (some ⟨b, 0, none⟩), .string (mk p), .string (mk v)] K h := by
 refine F_tree_Tree_Set_ok ⟨fun e => by simp at e, fun _ => cCut (by omega) ⟨_, _, _, rfl, fun e => ?_, fun e => ⟨fun e2 => ?_, fun e2 => cFind x hp fun h2 s2 => ⟨_, _, _, rfl, ?_⟩⟩⟩⟩
 ·have e : (cutV p).2.2 = false := by simpa using e
  unfold setV at hk
  rw [if_pos e] at hk
  exact hk h x (Chg.refl _ _)
 ·have e : ¬ (cutV p).2.2 = false := by simpa using e
  unfold setV at hk
  rw [if_neg e, if_pos (by rw [size_mk] at e2; simp at e2; omega)] at hk
  exact hk h x (Chg.refl _ _)
 ·have e : (cutV p).2.2 = true := by simpa using e
  have e2 : v.length ≤ 32 := by rw [size_mk] at e2; simp at e2; omega
  unfold setV at hk
  rw [if_neg (by simp [e]), if_neg (by omega)] at hk
  obtain ⟨⟨P, hP, t0⟩, hm, hl⟩ := x
  have t := t0.sub s2
  have hpt := bkt_lt p
  have hu := (may_ok hm).2
  have hup := up_part hu (bkt p)
  have hit : ((bkt p : Nat) : Int).toNat = bkt p := by omega
  have hb := hP _ hpt
  have hrow := t.rows _ hpt
  have hlk := look_partB S (bkt p) p
  rw [if_pos rfl] at hlk
  have hs : ∀ i, i < 16 → i ≠ bkt p → partB S i = partB (ins S p v) i := fun i _ hi => by rw [part_ins hu, if_neg (Ne.symm hi)]
  have hins : partB (ins S p v) (bkt p) = (partB S (bkt p)).take (posP (partB S (bkt p)) p) ++ ⟨p, v⟩ :: (partB S (bkt p)).drop (posP (partB S (bkt p)) p + if (look S p).isSome then 1 else 0) := by
   rw [part_ins hu, if_pos rfl, ins_at hup, hlk]
  have hlen := ins_len S p v hu
  have hpn : (P (bkt p)).ps.length ≤ 48 := by rw [hb]; exact Nat.le_trans (List.length_filter_le _ _) hl
  have hpp := posP_le (partB S (bkt p)) p
  generalize hpos : posP (partB S (bkt p)) p = pos at hins hpp
  have w1 : IntKind.wrap .i64 (((pos : Nat) : Int) + (1 : Int)) = ((pos + 1 : Nat) : Int) := by rw [← hb] at hpp; rw [wrap64] <;> omega
  refine ⟨fun _ h' => ∃ P', (∀ i, i < 16 → (P' i).ps = partB (ins S p v) i) ∧ Tb b h' P' (nd S) (ins S p v).length ∧ Chg [b] [b] h h' ∧ (ins S p v).length ≤ 48 ∧ ¬ (look S p = none ∧ 48 ≤ S.length), ⟨fun e3 => ?_, fun e3 => ?_⟩, ?_⟩
  ·have hne : look S p ≠ none := by intro e; rw [e] at e3; cases e3
   rw [e3, if_pos rfl] at hins
   rw [if_neg hne] at hlen
   have hlt : pos < (P (bkt p)).ps.length := by
    rw [hb, ← hpos]; exact pos_there hup (by rw [hlk]; exact e3)
   rw [w1, hit]
   refine ⟨b, 0, rfl, ⟨by omega, by omega⟩, (P (bkt p)).a, (P (bkt p)).ps.length, (P (bkt p)).c, t.part hpt (by omega), b, 0, rfl, ?_, ?_⟩
   ·refine cClonePr hrow (by omega) fun a4 c4 B4 h4 hb4 hc4 => ⟨_, _, _, rfl, nwL fun b5 h5 hb5n hb5 hc5 => ?_⟩
    have hnb : b5 ∉ B4 := fun hm => by obtain ⟨o, e⟩ := hb4.has b5 hm; rw [hb5n] at e; cases e
    refine cReplace (y := ⟨p, v⟩) (hb4.sub hc5.sub0) hb5 hnb hlt (by omega) fun h6 hb6 hc6 => ⟨_, _, _, rfl, ⟨by omega, by omega⟩, ?_⟩
    have s26 : h2.Sub h6 := ((hc4.onto hc5.sub0).trans hc6).sub0
    refine (t.sub s26).setRow hpt hb6.sr hb6.1 (by omega) fun h7 t7 c7 => ⟨_, upP (r := ⟨a4, c4, (P (bkt p)).ps.take pos ++ ⟨p, v⟩ :: (P (bkt p)).ps.drop (pos + 1)⟩) hP (by rw [hins, ← hb]) hs, by rw [hlen]; exact t7, chg_pre (s2.tr s26) c7, by omega, fun hh => hne hh.1⟩
   ·refine nwL fun b5 h5 hb5n hb5 hc5 => cClonePr (hrow.sub hc5.sub0) (by omega) fun a4 c4 B4 h4 hb4 hc4 => ⟨_, _, _, rfl, ?_⟩
    have hnb : b5 ∉ B4 := hc4.fresh hb5 (by simp)
    refine cReplace (y := ⟨p, v⟩) hb4 (hc4.sub0 _ _ hb5) hnb hlt (by omega) fun h6 hb6 hc6 => ⟨_, _, _, rfl, ⟨by omega, by omega⟩, ?_⟩
    have s26 : h2.Sub h6 := hc5.sub0.tr (hc4.trans hc6).sub0
    refine (t.sub s26).setRow hpt hb6.sr hb6.1 (by omega) fun h7 t7 c7 => ⟨_, upP (r := ⟨a4, c4, (P (bkt p)).ps.take pos ++ ⟨p, v⟩ :: (P (bkt p)).ps.drop (pos + 1)⟩) hP (by rw [hins, ← hb]) hs, by rw [hlen]; exact t7, chg_pre (s2.tr s26) c7, by omega, fun hh => hne hh.1⟩
  ·have hne : look S p = none := by simpa using e3
   rw [e3, if_neg (by simp), Nat.add_zero] at hins
   rw [if_pos hne] at hlen
   refine ⟨b, 0, rfl, _, t.num (by omega), fun e4 => ?_, fun e4 => ?_⟩
   ·rw [if_pos ⟨hne, by simp at e4; omega⟩] at hk
    exact hk h2 ⟨⟨P, hP, t⟩, hm, hl⟩ (chg_pre s2 (Chg.refl _ _))
   ·have h48 : S.length < 48 := by simp at e4; omega
    have w2 : IntKind.wrap .i64 (((S.length : Nat) : Int) + (1 : Int)) = (((ins S p v).length : Nat) : Int) := by rw [wrap64] <;> omega
    rw [← hb] at hpp
    rw [hit]
    refine ⟨b, 0, rfl, ⟨by omega, by omega⟩, (P (bkt p)).a, (P (bkt p)).ps.length, (P (bkt p)).c, t.part hpt (by omega), b, 0, rfl, ?_, ?_⟩
    ·refine cClonePr hrow (by omega) fun a4 c4 B4 h4 hb4 hc4 => ⟨_, _, _, rfl, nwL fun b5 h5 hb5n hb5 hc5 => ?_⟩
     have hnb : b5 ∉ B4 := fun hm => by obtain ⟨o, e⟩ := hb4.has b5 hm; rw [hb5n] at e; cases e
     refine cInsert (y := ⟨p, v⟩) (hb4.sub hc5.sub0) hb5 hnb hpp (by omega) fun a6 c6 B6 h6 hb6 hc6 => ⟨_, _, _, rfl, ⟨by omega, by omega⟩, ?_⟩
     have s26 : h2.Sub h6 := ((hc4.onto hc5.sub0).trans hc6).sub0
     refine (t.sub s26).setRow hpt hb6.sr hb6.1 (by omega) fun h7 t7 c7 => ⟨b, 0, rfl, _, t7.num (by omega), b, 0, rfl, ?_⟩
     rw [w2]
     refine t7.setNum (by omega) fun h8 t8 c8 => ⟨_, upP (r := ⟨a6, c6, (P (bkt p)).ps.take pos ++ ⟨p, v⟩ :: (P (bkt p)).ps.drop pos⟩) hP (by rw [hins, ← hb]) hs, t8, (chg_pre (s2.tr s26) c7).trans c8, by omega, fun hh => by omega⟩
    ·refine nwL fun b5 h5 hb5n hb5 hc5 => cClonePr (hrow.sub hc5.sub0) (by omega) fun a4 c4 B4 h4 hb4 hc4 => ⟨_, _, _, rfl, ?_⟩
     have hnb : b5 ∉ B4 := hc4.fresh hb5 (by simp)
     refine cInsert (y := ⟨p, v⟩) hb4 (hc4.sub0 _ _ hb5) hnb hpp (by omega) fun a6 c6 B6 h6 hb6 hc6 => ⟨_, _, _, rfl, ⟨by omega, by omega⟩, ?_⟩
     have s26 : h2.Sub h6 := hc5.sub0.tr (hc4.trans hc6).sub0
     refine (t.sub s26).setRow hpt hb6.sr hb6.1 (by omega) fun h7 t7 c7 => ⟨b, 0, rfl, _, t7.num (by omega), b, 0, rfl, ?_⟩
     rw [w2]
     refine t7.setNum (by omega) fun h8 t8 c8 => ⟨_, upP (r := ⟨a6, c6, (P (bkt p)).ps.take pos ++ ⟨p, v⟩ :: (P (bkt p)).ps.drop pos⟩) hP (by rw [hins, ← hb]) hs, t8, (chg_pre (s2.tr s26) c7).trans c8, by omega, fun hh => by omega⟩
  ·rintro _ h3 ⟨P', hP', t3, c3, hl3, hno⟩
   rw [if_neg hno] at hk
   exact cAnewS hpt hP' hs t3 (ins_may hm e e2) hl3 fun h' x' c' => hk h' x' (c3.trans c')
end TL

namespace TL
open Go Go.Proofs
variable {b : Nat} {h : PH} {K : Value → PH → Prop} {P : Nat → PtR} {g : Nat → List UInt8} {n : Nat} {S : List PrR} {p v : List UInt8}
theorem cPairs {i : Nat} (x : Tr b h S) (hi : i < 16) (hk : ∀ a' c' B' h', Buf EncPr T_api_Pair B' h' a' (partB S i).length c' (partB S i) → Chg [] B' h h' → K (.slice a' (partB S i).length c') h') :
  CallH Tryz.prog id_tree_Tree_Pairs [.pointer (some ⟨b, 0, none⟩), .int .i64 (i : Int)] K h := by
 obtain ⟨⟨P, hP, t⟩, hm, hl⟩ := x
 have hit : ((i : Nat) : Int).toNat = i := by omega
 have hpn : (P i).ps.length ≤ 1000 := by rw [hP i hi]; exact Nat.le_trans (List.length_filter_le _ _) (by omega)
 refine F_tree_Tree_Pairs_ok ⟨fun e => ?_, fun _ => ⟨b, 0, rfl, ⟨by omega, by omega⟩, (P i).a, (P i).ps.length, (P i).c, ?_, cClonePr (t.rows i hi) hpn fun a' c' B' h' hb hc => ⟨_, _, _, rfl, ?_⟩⟩⟩
 ·simp at e; omega
 ·rw [hit]; exact t.part hi (by omega)
 ·rw [hP i hi] at hb ⊢
  exact hk a' c' B' h' hb hc
end TL

namespace TL
open Go Go.Proofs
theorem bkt_app : bkt [97, 112, 112, 47, 97] = 3 := by decide +kernel
def hE0 : List UInt8 := [31, 111, 82, 121, 115, 162, 29, 76, 125, 107, 22, 71, 110, 244, 245, 123, 67, 59, 19, 0, 65, 171, 159, 229, 16, 15, 183, 44, 147, 6, 108, 158]
theorem hE0_eq : shaN ([76, 0]) = hE0 := by decide +kernel
def hE1 : List UInt8 := [38, 53, 33, 233, 144, 105, 77, 178, 246, 201, 73, 253, 73, 3, 228, 99, 169, 3, 152, 79, 45, 125, 53, 98, 20, 207, 231, 52, 144, 9, 4, 159]
theorem hE1_eq : shaN (innT hE0 hE0) = hE1 := by decide +kernel
def hE2 : List UInt8 := [49, 63, 37, 40, 241, 99, 192, 84, 230, 51, 61, 32, 87, 33, 191, 211, 107, 234, 83, 138, 216, 201, 194, 74, 43, 63, 78, 49, 107, 147, 237, 11]
theorem hE2_eq : shaN (innT hE1 hE1) = hE2 := by decide +kernel
def hE3 : List UInt8 := [71, 131, 56, 29, 100, 54, 254, 71, 117, 200, 110, 136, 12, 222, 14, 235, 230, 209, 77, 147, 45, 121, 221, 234, 196, 34, 171, 69, 20, 225, 47, 248]
theorem hE3_eq : shaN (innT hE2 hE2) = hE3 := by decide +kernel
def hE4 : List UInt8 := [94, 251, 35, 105, 156, 12, 160, 173, 168, 248, 215, 221, 225, 150, 30, 76, 154, 40, 63, 173, 187, 118, 65, 183, 174, 86, 134, 35, 187, 183, 21, 91]
theorem hE4_eq : shaN (innT hE3 hE3) = hE4 := by decide +kernel
def hA0 : List UInt8 := [114, 236, 85, 49, 251, 204, 207, 18, 98, 73, 205, 211, 248, 3, 191, 155, 212, 108, 249, 10, 184, 218, 73, 131, 76, 247, 112, 220, 160, 199, 89, 237]
theorem hA0_eq : shaN ([76, 1, 5, 97, 112, 112, 47, 97, 1, 49]) = hA0 := by decide +kernel
def hA1 : List UInt8 := [213, 189, 3, 77, 1, 178, 230, 241, 152, 65, 16, 71, 240, 0, 165, 129, 148, 24, 86, 36, 109, 240, 184, 120, 200, 95, 30, 58, 200, 106, 140, 21]
theorem hA1_eq : shaN (innT hE0 hA0) = hA1 := by decide +kernel
def hA2 : List UInt8 := [17, 131, 1, 166, 100, 174, 163, 207, 168, 27, 17, 45, 119, 194, 134, 254, 105, 138, 7, 195, 109, 120, 32, 217, 227, 71, 23, 119, 42, 203, 231, 22]
theorem hA2_eq : shaN (innT hE1 hA1) = hA2 := by decide +kernel
def hA3 : List UInt8 := [130, 205, 20, 198, 122, 52, 247, 184, 96, 210, 224, 14, 82, 52, 222, 190, 108, 185, 154, 8, 80, 119, 114, 253, 251, 47, 254, 116, 76, 225, 61, 89]
theorem hA3_eq : shaN (innT hA2 hE2) = hA3 := by decide +kernel
def hA4 : List UInt8 := [94, 175, 93, 55, 31, 116, 99, 99, 127, 190, 207, 87, 166, 244, 88, 211, 103, 166, 199, 32, 244, 101, 22, 115, 56, 250, 173, 2, 139, 96, 159, 206]
theorem hA4_eq : shaN (innT hA3 hE3) = hA4 := by decide +kernel
end TL

namespace TL
open Go Go.Proofs
variable {b : Nat} {h : PH} {K : Value → PH → Prop} {S : List PrR} {p v : List UInt8}
theorem leaf_nil (i : Nat) : leafF [] i = hE0 := hE0_eq
theorem nil0 {j : Nat} (h1 : 16 ≤ j) (h2 : j < 32) : nd [] j = hE0 := by unfold nd; rw [node_leaf _ h1 h2]; exact leaf_nil _
theorem nil1 {j : Nat} (h1 : 8 ≤ j) (h2 : j < 16) : nd [] j = hE1 := by
 have e1 := nil0 (j := 2 * j) (by omega) (by omega)
 have e2 := nil0 (j := 2 * j + 1) (by omega) (by omega)
 unfold nd at e1 e2 ⊢
 rw [node_in _ (by omega) h2, e1, e2, hE1_eq]
theorem nil2 {j : Nat} (h1 : 4 ≤ j) (h2 : j < 8) : nd [] j = hE2 := by
 have e1 := nil1 (j := 2 * j) (by omega) (by omega)
 have e2 := nil1 (j := 2 * j + 1) (by omega) (by omega)
 unfold nd at e1 e2 ⊢
 rw [node_in _ (by omega) (by omega), e1, e2, hE2_eq]
theorem nil3 {j : Nat} (h1 : 2 ≤ j) (h2 : j < 4) : nd [] j = hE3 := by
 have e1 := nil2 (j := 2 * j) (by omega) (by omega)
 have e2 := nil2 (j := 2 * j + 1) (by omega) (by omega)
 unfold nd at e1 e2 ⊢
 rw [node_in _ (by omega) (by omega), e1, e2, hE3_eq]
theorem nil4 : nd [] 1 = hE4 := by
 have e1 := nil3 (j := 2 * 1) (by omega) (by omega)
 have e2 := nil3 (j := 2 * 1 + 1) (by omega) (by omega)
 unfold nd at e1 e2 ⊢
 rw [node_in _ (by omega) (by omega), e1, e2, hE4_eq]
def pApp : List UInt8 := [97, 112, 112, 47, 97]
def sApp : List PrR := [⟨pApp, [49]⟩]
theorem app_other : ∀ i, i < 16 → i ≠ 3 → partB [] i = partB sApp i := fun i _ hi => by
 have : bkt pApp = 3 := bkt_app
 simp [sApp, partB, this, Ne.symm hi]
theorem app_same {j : Nat} (hj : j < 32) (ha : ¬ Anc j 19) : nd sApp j = nd [] j := (nd_same (part := 3) (by omega) app_other _ j rfl hj ha).symm
theorem app0 : nd sApp 19 = hA0 := by
 have : bkt pApp = 3 := bkt_app
 have e : partB sApp 3 = sApp := by simp [sApp, partB, this]
 unfold nd
 rw [node_leaf _ (by omega) (by omega), ← hA0_eq]
 unfold leafF leafT
 rw [e]
 congr 1
theorem app1 : nd sApp 9 = hA1 := by
 have e2 := app_same (j := 18) (by omega) (by unfold Anc; omega)
 have e1 := app0
 rw [nil0 (by omega) (by omega)] at e2
 unfold nd at e1 e2 ⊢
 rw [node_in _ (by omega) (by omega), e1, e2, hA1_eq]
theorem app2 : nd sApp 4 = hA2 := by
 have e2 := app_same (j := 8) (by omega) (by unfold Anc; omega)
 have e1 := app1
 rw [nil1 (by omega) (by omega)] at e2
 unfold nd at e1 e2 ⊢
 rw [node_in _ (by omega) (by omega), e1, e2, hA2_eq]
theorem app3 : nd sApp 2 = hA3 := by
 have e2 := app_same (j := 5) (by omega) (by unfold Anc; omega)
 have e1 := app2
 rw [nil2 (by omega) (by omega)] at e2
 unfold nd at e1 e2 ⊢
 rw [node_in _ (by omega) (by omega), e1, e2, hA3_eq]
theorem app4 : nd sApp 1 = hA4 := by
 have e2 := app_same (j := 3) (by omega) (by unfold Anc; omega)
 have e1 := app3
 rw [nil3 (by omega) (by omega)] at e2
 unfold nd at e1 e2 ⊢
 rw [node_in _ (by omega) (by omega), e1, e2, hA4_eq]
theorem bi_zero (m : Nat) : List.replicate m (0 : Int) = bi (List.replicate m 0) := by simp [bi]
end TL

namespace TL
open Go Go.Proofs
open Go Go.Proofs
variable {B : List Nat} {h : PH} {K : Value → PH → Prop} {x : Option Addr} {S : List PrR}
section
variable {aA a2 : Option Addr} {aC c2 : Nat} {l m2 : List PrR}
theorem eqPrs (hl : SR EncPr h aA l) (hl2 : SR EncPr h a2 m2) (hn : l.length ≤ 1000000) (hk : K (.bool (decide (l = m2))) h) : F_ref13_Same aA l.length aC a2 m2.length c2 K h := by
 refine ⟨fun e => ?_, fun e => ?_⟩
 ·have : l ≠ m2 := fun h => by rw [h] at e; simp at e
  simp only [this, decide_false] at hk
  exact hk
 ·have hlen : l.length = m2.length := by simp at e; omega
  refine LoopP.ind (fun (z : Int × Unit) h' => h' = h ∧ (0 ≤ z.1 ∧ z.1 ≤ l.length) ∧ l.take z.1.toNat = m2.take z.1.toNat) (fun z _ => (l.length - z.1).toNat) ?_ ⟨rfl, ⟨by decide, by show (0 : Int) ≤ _; omega⟩, by simp⟩
  rintro ⟨i, u⟩ h1 ⟨rfl, ⟨i0, i1⟩, ha⟩
  dsimp only at i0 i1 ha ⊢
  refine ⟨fun e => ?_, fun e => ?_⟩
  ·have e : i < l.length := by simpa using e
   have hit : i.toNat < l.length := by omega
   have hit2 : i.toNat < m2.length := by omega
   obtain ⟨b, o, hA, hr⟩ := hl.get hit
   obtain ⟨b', o', hA', hr'⟩ := hl2.get hit2
   have heq : (!((strEq (mk l[i.toNat].p) (mk m2[i.toNat].p)) && ((strEq (mk l[i.toNat].v) (mk m2[i.toNat].v)) && true))) = !(decide (l[i.toNat] = m2[i.toNat])) := by
    rw [strEq_mk', strEq_mk']
    cases l[i.toNat]; cases m2[i.toNat]
    simp only [PrR.mk.injEq, Bool.decide_and, Bool.and_true]
   refine ⟨b, o, ⟨hA, i0, e⟩, _, _, hr _ 0 2 rfl (by decide), b', o', ⟨hA', i0, by omega⟩, _, _, hr' _ 0 2 rfl (by decide), fun e2 => ?_, fun e2 => ?_⟩
   ·rw [heq] at e2
    have e2 : l[i.toNat] ≠ m2[i.toNat] := by simpa using e2
    have : l ≠ m2 := fun h => e2 (by simp [h])
    simp only [this, decide_false] at hk
    exact hk
   ·rw [heq] at e2
    have e2 : l[i.toNat] = m2[i.toNat] := by simpa using e2
    rw [wrap64 (n := i + 1) (by omega) (by omega)]
    refine ⟨⟨rfl, ⟨by omega, by omega⟩, ?_⟩, by omega⟩
    rw [show (i + 1).toNat = i.toNat + 1 by omega, List.take_succ_eq_append_getElem hit, List.take_succ_eq_append_getElem hit2, ha, e2]
  ·have e : i = l.length := by simp at e; omega
   rw [e, Int.toNat_natCast, List.take_length, hlen, List.take_length] at ha
   simp only [ha, decide_true] at hk
   exact hk
theorem cRSame (hl : SR EncPr h aA l) (hl2 : SR EncPr h a2 m2) (hn : l.length ≤ 1000000) (hk : K (.bool (decide (l = m2))) h) : CallH Tryz.prog id_ref13_Same [.slice aA l.length aC, .slice a2 m2.length c2] K h :=
 F_ref13_Same_ok (eqPrs hl hl2 hn hk)
end
theorem cSameTexts {aA a2 : Option Addr} {aC c2 : Nat} {l m2 : List (List UInt8)} (hl : SR EncS h aA l) (hl2 : SR EncS h a2 m2) (hn : l.length ≤ 1000000) (hk : K (.bool (decide (l = m2))) h) : CallH Tryz.prog id_law13_SameTexts [.slice aA l.length aC, .slice a2 m2.length c2] K h := by
 refine F_law13_SameTexts_ok ⟨fun e => ?_, fun e => ?_⟩
 ·have : l ≠ m2 := fun h => by rw [h] at e; simp at e
  simp only [this, decide_false] at hk
  exact hk
 ·have hlen : l.length = m2.length := by simp at e; omega
  refine LoopP.ind (fun (z : Int × Unit) h' => h' = h ∧ (0 ≤ z.1 ∧ z.1 ≤ l.length) ∧ l.take z.1.toNat = m2.take z.1.toNat) (fun z _ => (l.length - z.1).toNat) ?_ ⟨rfl, ⟨by decide, by show (0 : Int) ≤ _; omega⟩, by simp⟩
  rintro ⟨i, u⟩ h1 ⟨rfl, ⟨i0, i1⟩, ha⟩
  dsimp only at i0 i1 ha ⊢
  refine ⟨fun e => ?_, fun e => ?_⟩
  ·have e : i < l.length := by simpa using e
   have hit : i.toNat < l.length := by omega
   have hit2 : i.toNat < m2.length := by omega
   obtain ⟨b, o, hA, hr⟩ := hl.get hit
   obtain ⟨b', o', hA', hr'⟩ := hl2.get hit2
   refine ⟨b, o, ⟨hA, i0, e⟩, _, hr _ 0 1 rfl (by decide), b', o', ⟨hA', i0, by omega⟩, _, hr' _ 0 1 rfl (by decide), fun e2 => ?_, fun e2 => ?_⟩
   ·rw [strEq_mk'] at e2
    have e2 : l[i.toNat] ≠ m2[i.toNat] := by simpa using e2
    have : l ≠ m2 := fun h => e2 (by simp [h])
    simp only [this, decide_false] at hk
    exact hk
   ·rw [strEq_mk'] at e2
    have e2 : l[i.toNat] = m2[i.toNat] := by simpa using e2
    rw [wrap64 (n := i + 1) (by omega) (by omega)]
    refine ⟨⟨rfl, ⟨by omega, by omega⟩, ?_⟩, by omega⟩
    rw [show (i + 1).toNat = i.toNat + 1 by omega, List.take_succ_eq_append_getElem hit, List.take_succ_eq_append_getElem hit2, ha, e2]
  ·have e : i = l.length := by simp at e; omega
   rw [e, Int.toNat_natCast, List.take_length, hlen, List.take_length] at ha
   simp only [ha, decide_true] at hk
   exact hk
variable {rA : Option Addr} {rC : Nat} {rows : List OsR}
end TL

namespace TL
open Go Go.Proofs
variable {b : Nat} {h : PH} {K : Value → PH → Prop} {S : List PrR} {p v : List UInt8}
variable {lA : Option Addr} {lC : Nat} {l : List OpR}
end TL

namespace TL
open Go Go.Proofs
variable {b : Nat} {h : PH} {K : Value → PH → Prop} {S : List PrR} {p v : List UInt8}
def inT (S : List PrR) (k : Nat) : List UInt8 := innT (nd S (2 * k)) (nd S (2 * k + 1))
def inRow (S : List PrR) (lv : Nat) : List (List UInt8) := (List.range (2 ^ lv)).map fun i => inT S (2 ^ lv + i)
def textsT (S : List PrR) : List (List UInt8) := (List.range 16).map (leafT S) ++ (List.range 4).flatMap fun d => inRow S (3 - d)
theorem inRow_len (S : List PrR) (lv : Nat) : (inRow S lv).length = 2 ^ lv := by simp [inRow]
theorem texts_len (S : List PrR) : (textsT S).length = 31 := by simp [textsT, inRow, List.flatMap, List.range, List.range.loop]
theorem pre_len (S : List PrR) : ∀ m, ((List.range m).flatMap fun d => inRow S (3 - d)).length ≤ m * 8 := by
 intro m
 induction m with
 | zero => simp
 | succ m ih =>
  rw [List.range_succ, List.flatMap_append, List.length_append]
  have : ((inRow S (3 - m))).length ≤ 8 := by
   rw [inRow_len]; exact Nat.pow_le_pow_right (n := 2) (by decide) (show 3 - m ≤ 3 by omega)
  simp only [List.flatMap_cons, List.flatMap_nil, List.append_nil]
  omega
theorem cTexts (x : Tr b h S) (hk : ∀ a' c' B' h', Buf EncS 9 B' h' a' (textsT S).length c' (textsT S) → Chg [] B' h h' → K (.slice a' (textsT S).length c') h') :
  CallH Tryz.prog id_tree_Tree_Texts [.pointer (some ⟨b, 0, none⟩)] K h := by
 have hpo := part_ok x.may x.le
 refine F_tree_Tree_Texts_ok ⟨fun e => by simp at e, fun _ => LoopP.ind (fun (z : (Option Addr × Nat × Nat) × Int × Unit) h' => ∃ (i : Nat) (B' : List Nat), z.2.1 = i ∧ i ≤ 16 ∧ Buf EncS 9 B' h' z.1.1 z.1.2.1 z.1.2.2 ((List.range i).map (leafT S)) ∧ Chg [] B' h h') (fun z _ => (16 - z.2.1).toNat) ?_ ⟨0, [], rfl, by omega, Buf.nil _ _ _ _, Chg.refl _ _⟩⟩
 rintro ⟨⟨oA, oN, oC⟩, zi, u⟩ h1 ⟨i, B1, hzi, hi, hb, hc⟩
 dsimp only at hzi hb
 subst hzi
 dsimp only
 have x1 := x.sub hc.sub0
 have hon : oN = i := by rw [hb.1]; simp
 subst hon
 refine ⟨fun e => ?_, fun e => ?_⟩
 ·have e : oN < 16 := by simp at e; omega
  obtain ⟨⟨P, hP, t⟩, hm, hl⟩ := x1
  have hpi := hpo oN
  rw [← hP oN e] at hpi
  refine cTPage t e hpi fun h2 s2 => ⟨_, rfl, ?_, ?_⟩
  ·have := page_len hpi
   rw [size_mk]; show ((1 + (pageL (P oN).ps).length : Nat) : Int) ≤ _; omega
  ·rw [show (⟨#[76]⟩ : ByteArray) = mk [76] from rfl, mk_append]
   have ht : [76] ++ pageL (P oN).ps = leafT S oN := by rw [hP oN e]; rfl
   rw [ht]
   refine (hb.sub s2).append (new := [leafT S oN]) rfl rfl rfl (by omega) fun a' c' B' h' hb' hc' _ => ⟨⟨oN + 1, B', by rw [wrap64] <;> omega, by omega, ?_, (hc.onto s2).trans hc'⟩, by rw [wrap64] <;> omega⟩
   rw [List.range_succ, List.map_append]; exact hb'
 ·have e : oN = 16 := by simp at e; omega
  subst e
  refine LoopP.ind (fun (z : (Option Addr × Nat × Nat) × Int × Unit) h' => ∃ (m : Nat) (B' : List Nat), z.2.1 = (3 : Int) - m ∧ m ≤ 4 ∧ Buf EncS 9 B' h' z.1.1 z.1.2.1 z.1.2.2 ((List.range 16).map (leafT S) ++ (List.range m).flatMap fun d => inRow S (3 - d)) ∧ Chg [] B' h h') (fun z _ => (z.2.1 + 1).toNat) ?_ ⟨0, B1, rfl, by omega, by simpa using hb, hc⟩
  rintro ⟨⟨oA, oN, oC⟩, zm, u⟩ h2 ⟨m, B2, hzm, hm4, hb2, hc2⟩
  dsimp only at hzm hb2
  subst hzm
  dsimp only
  refine ⟨fun e => ⟨by simpa using e, ?_⟩, fun e => ?_⟩
  ·have e : m < 4 := by simp at e; omega
   have hlv : ((3 : Int) - (m : Nat)) = ((3 - m : Nat) : Int) := by omega
   rw [hlv, shl1 _ (by omega)]
   generalize hlv2 : 3 - m = lv
   have hlv4 : lv ≤ 3 := by omega
   have h2lv : 2 ^ lv ≤ 8 := Nat.pow_le_pow_right (n := 2) (by decide) (show lv ≤ 3 from hlv4)
   have hrow : inRow S lv = (List.range (2 ^ lv)).map fun i => inT S (2 ^ lv + i) := rfl
   have hw : IntKind.wrap .i64 (((lv : Nat) : Int) - (1 : Int)) = (3 : Int) - ((m + 1 : Nat) : Int) := by rw [wrap64] <;> omega
   generalize 2 ^ lv = N at h2lv hrow
   refine LoopP.ind (fun (z : (Option Addr × Nat × Nat) × Int × Unit) h' => ∃ (k : Nat) (B' : List Nat), z.2.1 = k ∧ k ≤ N ∧ Buf EncS 9 B' h' z.1.1 z.1.2.1 z.1.2.2 ((List.range 16).map (leafT S) ++ ((List.range m).flatMap (fun d => inRow S (3 - d)) ++ (List.range k).map fun i => inT S (N + i))) ∧ Chg [] B' h h') (fun z _ => (N - z.2.1).toNat) ?_ ⟨0, B2, rfl, by omega, by simpa using hb2, hc2⟩
   rintro ⟨⟨oA, oN, oC⟩, zk, u⟩ h3 ⟨k, B3, hzk, hk3, hb3, hc3⟩
   dsimp only at hzk hb3
   subst hzk
   dsimp only
   have hon : oN ≤ 100 := by
    rw [hb3.1, List.length_append, List.length_append, List.length_map, List.length_map, List.length_range, List.length_range]
    have := pre_len S m
    omega
   refine ⟨fun e5 => ⟨by omega, ?_⟩, fun e5 => ?_⟩
   ·have e5 : k < N := by simp at e5; omega
    have x3 := x.sub hc3.sub0
    obtain ⟨⟨P, hP, t⟩, hm, hl⟩ := x3
    have w0 : IntKind.wrap .i64 (((N : Nat) : Int) + ((k : Nat) : Int)) = ((N + k : Nat) : Int) := by rw [wrap64] <;> omega
    have w1 : IntKind.wrap .i64 ((2 : Int) * ((N + k : Nat) : Int)) = ((2 * (N + k) : Nat) : Int) := by rw [wrap64] <;> omega
    have w2 : IntKind.wrap .i64 (((2 * (N + k) : Nat) : Int) + (1 : Int)) = ((2 * (N + k) + 1 : Nat) : Int) := by rw [wrap64] <;> omega
    rw [w0, w1, w2]
    have t1 : ((2 * (N + k) : Nat) : Int).toNat = 2 * (N + k) := by omega
    have t2 : ((2 * (N + k) + 1 : Nat) : Int).toNat = 2 * (N + k) + 1 := by omega
    rw [t1, t2]
    refine ⟨b, 0, rfl, ⟨by omega, by omega⟩, bi (nd S (2 * (N + k))), by rw [bi_len, nd_len], t.node (by omega) (by omega), b, 0, rfl, ⟨by omega, by omega⟩, bi (nd S (2 * (N + k) + 1)), by rw [bi_len, nd_len], t.node (by omega) (by omega), cInnerText (nd_len _ _) (nd_len _ _) fun h4 s4 => ⟨_, rfl, ?_⟩⟩
    refine (hb3.sub s4).append (new := [inT S (N + k)]) rfl rfl rfl (by omega) fun a' c' B' h' hb' hc' _ => ⟨⟨k + 1, B', by rw [wrap64] <;> omega, by omega, ?_, (hc3.onto s4).trans hc'⟩, by rw [wrap64] <;> omega⟩
    rw [List.range_succ (n := k), List.map_append, ← List.append_assoc, ← List.append_assoc]
    rw [← List.append_assoc] at hb'
    exact hb'
   ·have e5 : k = N := by simp at e5; omega
    rw [hw]
    refine ⟨⟨m + 1, B3, rfl, by omega, ?_, hc3⟩, by omega⟩
    rw [e5] at hb3
    have : ((List.range (m + 1)).flatMap fun d => inRow S (3 - d)) = ((List.range m).flatMap fun d => inRow S (3 - d)) ++ (List.range N).map fun i => inT S (N + i) := by
     rw [List.range_succ, List.flatMap_append, List.flatMap_cons, List.flatMap_nil, List.append_nil, hlv2, hrow]
    rw [this]; exact hb3
  ·have e : m = 4 := by simp at e; omega
   subst e
   have := hb2.1
   subst this
   exact hk _ _ _ _ hb2 hc2
end TL

namespace TL
open Go Go.Proofs
variable {b : Nat} {h : PH} {K : Value → PH → Prop} {S : List PrR} {p v : List UInt8} {lA : Option Addr} {lC : Nat} {l : List OpR}
def codesT : List Nat := List.range 16 ++ (List.range 4).flatMap fun d => (List.range (2 ^ (3 - d))).map fun i => 16 + (2 ^ (3 - d) + i)
theorem texts_codes (f g : Nat → List UInt8) : ((List.range 16).map f ++ (List.range 4).flatMap fun d => (List.range (2 ^ (3 - d))).map fun i => g (2 ^ (3 - d) + i)) = codesT.map fun c => if c < 16 then f c else g (c - 16) := rfl
theorem leafT_le (hm : mayB S = true) (hl : S.length ≤ 48) (i : Nat) : (leafT S i).length ≤ 10001 := by
 have := page_len (part_ok hm hl i)
 simp [leafT]; omega
theorem inT_len (k : Nat) : (inT S k).length = 65 := by simp [inT, innT, nd_len]
instance (j x : Nat) : Decidable (Anc j x) := inferInstanceAs (Decidable (_ ∨ _))
end TL

namespace TL
open Go Go.Proofs
variable {B : List Nat} {h : PH} {K : Value → PH → Prop}
def m64 : Nat := 18446744073709551616
theorem wrapU (n : Nat) : IntKind.wrap .u64 (n : Int) = ((n % m64 : Nat) : Int) := by
 simp [IntKind.wrap, IntKind.bits, IntKind.signed, m64]
theorem and64 {a b : Nat} (ha : a < m64) (hb : b < m64) : bitsV .and .u64 (a : Int) (b : Int) = ((a &&& b : Nat) : Int) := by
 have h : a &&& b < 2 ^ 64 := Nat.and_lt_two_pow _ (by simpa [m64] using hb)
 show IntKind.wrap .u64 (((BitVec.ofInt 64 (a : Int) &&& BitVec.ofInt 64 (b : Int)).toNat : Nat) : Int) = _
 rw [BitVec.toNat_and, bv_nat, bv_nat, Nat.mod_eq_of_lt (by simpa [m64] using ha), Nat.mod_eq_of_lt (by simpa [m64] using hb), wrapU, Nat.mod_eq_of_lt (by simpa [m64] using h)]
def mulHi (x y : Nat) : Nat :=
 let x1 := x / 2 ^ 32; let y1 := y / 2 ^ 32; let x0 := x &&& 4294967295; let y0 := y &&& 4294967295
 let t := (x1 * y0 % m64 + x0 * y0 % m64 / 2 ^ 32) % m64
 ((x1 * y1 % m64 + t / 2 ^ 32) % m64 + ((t &&& 4294967295) + x0 * y1 % m64) % m64 / 2 ^ 32) % m64
def mulLo (x y : Nat) : Nat := x * y % m64
theorem ml (a b : Nat) : (a : Int) * (b : Int) = ((a * b : Nat) : Int) := by simp
theorem ad (a b : Nat) : (a : Int) + (b : Int) = ((a + b : Nat) : Int) := by simp
theorem sh32 (a : Nat) : shrV .u64 (a : Int) (32 : Int) = ((a / 2 ^ 32 : Nat) : Int) := shr_nat (s := 32) (by decide)
theorem mod_lt64 (a : Nat) : a % m64 < m64 := Nat.mod_lt _ (by decide)
theorem an32 {a : Nat} (ha : a < m64) : bitsV .and .u64 (a : Int) (4294967295 : Int) = ((a &&& 4294967295 : Nat) : Int) := and64 (b := 4294967295) ha (by decide)
theorem cMul64 {x y : Nat} (hx : x < m64) (hy : y < m64) (hk : K (.tuple #[.int .u64 (mulHi x y : Nat), .int .u64 (mulLo x y : Nat)]) h) : CallH Tryz.prog id_math_bits_Mul64 [.int .u64 (x : Int), .int .u64 (y : Int)] K h := by
 refine F_math_bits_Mul64_ok ?_
 unfold F_math_bits_Mul64
 rw [an32 hx, an32 hy, sh32 x, sh32 y]
 simp only [ml, wrapU, sh32, ad]
 rw [an32 (mod_lt64 _)]
 simp only [wrapU, sh32, ad]
 exact hk
def sqB (n p : Nat) : Bool := decide (mulHi n n < p) || (mulHi n n == p && mulLo n n == 0)
theorem cSquare {n p : Nat} (hn : n < m64) (hk : K (.bool (sqB n p)) h) : CallH Tryz.prog id_ref02_square [.int .u64 (n : Int), .int .u64 (p : Int)] K h := by
 refine F_ref02_square_ok (cMul64 hn hn ⟨_, _, rfl, fun e => ?_, fun e => ?_⟩)
 ·have e : ¬ mulHi n n < p := fun h => of_decide_eq_false e (Int.ofNat_lt.2 h)
  have : sqB n p = ((((mulHi n n : Nat) : Int) == (p : Int)) && (((mulLo n n : Nat) : Int) == (0 : Int))) := by
   unfold sqB
   rw [decide_eq_false e, Bool.false_or]
   congr 1
   ·rw [Bool.eq_iff_iff, beq_iff_eq, beq_iff_eq]; omega
   ·rw [Bool.eq_iff_iff, beq_iff_eq, beq_iff_eq]; omega
  rw [← this]; exact hk
 ·have e : mulHi n n < p := Int.ofNat_lt.1 (of_decide_eq_true e)
  have : sqB n p = true := by unfold sqB; rw [decide_eq_true e]; rfl
  rw [this] at hk; exact hk
def cuB (n p : Nat) : Bool :=
 let hi := mulHi n n; let lo := mulLo n n
 let top := (mulLo hi n + mulHi lo n) % m64
 let q := p * 2 ^ 32 % m64
 decide (top < q) || (top == q && mulLo lo n == 0)
theorem mulHi_lt (x y : Nat) : mulHi x y < m64 := mod_lt64 _
theorem mulLo_lt (x y : Nat) : mulLo x y < m64 := mod_lt64 _
theorem shl32 (p : Nat) : shlV .u64 (p : Int) (32 : Int) = ((p * 2 ^ 32 % m64 : Nat) : Int) := by
 unfold shlV
 rw [show min ((32 : Int)).toNat (IntKind.bits .u64) = 32 by rfl]
 have : (p : Int) * 2 ^ 32 = ((p * 2 ^ 32 : Nat) : Int) := by rw [Int.natCast_mul, Int.natCast_pow]; rfl
 rw [this, wrapU]
theorem cCube {n p : Nat} (hn : n < m64) (hk : K (.bool (cuB n p)) h) : CallH Tryz.prog id_ref02_cube [.int .u64 (n : Int), .int .u64 (p : Int)] K h := by
 refine F_ref02_cube_ok (cMul64 hn hn ⟨_, _, rfl, cMul64 (mulHi_lt _ _) hn ⟨_, _, rfl, cMul64 (mulLo_lt _ _) hn ⟨_, _, rfl, ?_⟩⟩⟩)
 rw [ad, wrapU, shl32]
 unfold cuB at hk
 simp only [] at hk
 generalize (mulLo (mulHi n n) n + mulHi (mulLo n n) n) % m64 = top at hk ⊢
 generalize p * 2 ^ 32 % m64 = q at hk ⊢
 generalize mulLo (mulLo n n) n = lo at hk ⊢
 refine ⟨fun e => ?_, fun e => ?_⟩
 ·have e : ¬ top < q := fun h => of_decide_eq_false e (Int.ofNat_lt.2 h)
  have : (decide (top < q) || (top == q && lo == 0)) = ((((top : Nat) : Int) == (q : Int)) && (((lo : Nat) : Int) == (0 : Int))) := by
   rw [decide_eq_false e, Bool.false_or]
   congr 1
   ·rw [Bool.eq_iff_iff, beq_iff_eq, beq_iff_eq]; omega
   ·rw [Bool.eq_iff_iff, beq_iff_eq, beq_iff_eq]; omega
  rw [← this]; exact hk
 ·have e : top < q := Int.ofNat_lt.1 (of_decide_eq_true e)
  rw [decide_eq_true e] at hk; exact hk
def behS (p : Nat) (three : Bool) (n k : Nat) : Nat :=
 let m := (n + 2 ^ k) % m64
 if three then (if m < 68719476736 then (if cuB m p then m else n) else n) else (if sqB m p then m else n)
def behF (p : Nat) (three : Bool) (j : Nat) : Nat := (List.range j).foldl (fun n i => behS p three n (36 - i)) 0
def behN (p : Nat) (three : Bool) : Nat := behF p three 37 % 4294967296
theorem shl1u : ∀ k : Nat, k < 37 → shlV .u64 (1 : Int) (IntKind.wrap .u64 (k : Int)) = ((2 ^ k : Nat) : Int) := by decide +kernel
theorem cBehind {p : Nat} {three : Bool} (hk : K (.int .u32 (behN p three : Nat)) h) : CallH Tryz.prog id_ref02_behind [.int .u64 (p : Int), .bool three] K h := by
 refine F_ref02_behind_ok (LoopP.ind (fun (z : Int × Int × Unit) h' => ∃ j : Nat, z.1 = (behF p three j : Nat) ∧ z.2.1 = (36 : Int) - j ∧ j ≤ 37 ∧ h' = h) (fun z _ => (z.2.1 + 1).toNat) ?_ ⟨0, rfl, rfl, by omega, rfl⟩)
 rintro ⟨zn, zk, u⟩ h1 ⟨j, hzn, hzk, hj, rfl⟩
 dsimp only at hzn hzk
 subst hzn hzk
 dsimp only
 refine ⟨fun e => ?_, fun e => ?_⟩
 ·have e : j < 37 := by simp at e; omega
  have hs : behF p three (j + 1) = behS p three (behF p three j) (36 - j) := fold_succ (fun n i => behS p three n (36 - i)) _ _
  have hw : IntKind.wrap .i64 ((36 : Int) - (j : Nat) - 1) = (36 : Int) - ((j + 1 : Nat) : Int) := by rw [wrap64] <;> omega
  have hkk : ((36 : Int) - (j : Nat)) = ((36 - j : Nat) : Int) := by omega
  generalize behF p three j = n at hs
  rw [hw, hkk, shl1u _ (by omega), ad n (2 ^ (36 - j)), wrapU (n + 2 ^ (36 - j))]
  have hnext : ∀ x : Nat, x = behF p three (j + 1) → (∃ j1 : Nat, ((x : Nat) : Int) = (behF p three j1 : Nat) ∧ (36 : Int) - ((j + 1 : Nat) : Int) = (36 : Int) - j1 ∧ j1 ≤ 37 ∧ h1 = h1) := fun x hx => ⟨j + 1, by rw [hx], rfl, by omega, rfl⟩
  refine ⟨fun st h' => st.1 = (behF p three (j + 1) : Nat) ∧ h' = h1, ⟨?_, fun e1 => cCube (mod_lt64 _) ⟨_, rfl, fun e2 => ⟨fun e3 => ?_, fun _ => ?_⟩, fun e2 => ?_⟩, fun e1 => ⟨fun e2 => cSquare (mod_lt64 _) ⟨_, rfl, fun e3 => ?_, fun e3 => ?_⟩, fun e2 => ?_⟩⟩, ?_⟩
  ·rw [wrap_u64 (by omega) (by omega)]; omega
  ·exfalso
   rw [Bool.and_eq_true] at e1
   rw [e1.1] at e3; cases e3
  ·rw [Bool.and_eq_true, decide_eq_true_eq] at e1
   refine ⟨?_, rfl⟩
   rw [hs]; unfold behS
   simp only []
   rw [if_pos e1.1, if_pos (by omega), e2]; rfl
  ·rw [Bool.and_eq_true, decide_eq_true_eq] at e1
   refine ⟨?_, rfl⟩
   rw [hs]; unfold behS
   simp only []
   rw [if_pos e1.1, if_pos (by omega), e2]; rfl
  ·have e2 : three = false := by simpa using e2
   refine ⟨?_, rfl⟩
   rw [hs]; unfold behS
   simp only []
   rw [e2, e3]; rfl
  ·have e2 : three = false := by simpa using e2
   refine ⟨?_, rfl⟩
   rw [hs]; unfold behS
   simp only []
   rw [e2, e3]; rfl
  ·have e2 : three = true := by simpa using e2
   rw [e2, Bool.true_and, decide_eq_false_iff_not] at e1
   refine ⟨?_, rfl⟩
   rw [hs]; unfold behS
   simp only []
   rw [if_pos e2, if_neg (by omega)]
  ·rintro ⟨z, u⟩ h2 ⟨hz, rfl⟩
   exact ⟨hnext z.toNat (by dsimp only at hz; omega) |>.imp fun j1 hh => by dsimp only at hz ⊢; subst hz; simpa using hh, by omega⟩
 ·have e : j = 37 := by simp at e; omega
  subst e
  have : IntKind.wrap .u32 (((behF p three 37 : Nat) : Int).tmod (4294967296 : Int)) = (behN p three : Nat) := by
   rw [Int.tmod_eq_emod_of_nonneg (by omega)]
   have : ((behF p three 37 : Nat) : Int) % 4294967296 = ((behF p three 37 % 4294967296 : Nat) : Int) := (Int.natCast_emod _ _).symm
   rw [this, wrap32, Nat.mod_mod]; rfl
  rw [this]; exact hk
end TL

namespace TL
open Go Go.Proofs
variable {B : List Nat} {h : PH} {K : Value → PH → Prop}
def EncU : Enc Nat where
 enc n := [.int .u64 (n : Int)]
 k := 1
 len _ := rfl
 one o v hv := by
  simp only [List.mem_cons, List.not_mem_nil, or_false] at hv
  rcases hv with rfl; rfl
 pos := by decide
def prS (l : List Nat) (p : Nat) : List Nat := if l.all fun x => p % x != 0 then l ++ [p] else l
def prF (j : Nat) : List Nat := (List.range j).foldl (fun l i => prS l (2 + i)) []
theorem prF_succ (j : Nat) : prF (j + 1) = prS (prF j) (2 + j) := fold_succ (fun l i => prS l (2 + i)) _ _
theorem prF_mono (j : Nat) : (prF j).length ≤ (prF (j + 1)).length := by
 rw [prF_succ]; unfold prS; split <;> simp
theorem prF_le {j k : Nat} (h : j ≤ k) : (prF j).length ≤ (prF k).length := by
 induction k with
 | zero => rw [Nat.le_zero.1 h]; exact Nat.le_refl _
 | succ k ih =>
  by_cases e : j = k + 1
  ·subst e; exact Nat.le_refl _
  ·exact Nat.le_trans (ih (by omega)) (prF_mono k)
theorem pr309 : (prF 309).length = 63 := by decide +kernel
theorem pr310 : (prF 310).length = 64 := by decide +kernel
theorem prF_pos (j : Nat) : ∀ x ∈ prF j, 2 ≤ x := by
 induction j with
 | zero => intro x hx; cases hx
 | succ j ih =>
  rw [prF_succ]
  unfold prS
  split
  ·intro x hx
   rcases List.mem_append.1 hx with hx | hx
   ·exact ih x hx
   ·have : x = 2 + j := by simpa using hx
    omega
  ·exact ih
theorem cPrimes (hk : ∀ a c B' h', Buf EncU 232 B' h' a 64 c (prF 310) → Chg [] B' h h' → K (.slice a 64 c) h') : CallH Tryz.prog id_ref02_primes [.int .i64 (64 : Int)] K h := by
 refine F_ref02_primes_ok (LoopP.ind (fun (z : (Option Addr × Nat × Nat) × Int × Unit) h' => ∃ (j : Nat) (B' : List Nat), z.2.1 = ((2 + j : Nat) : Int) ∧ j ≤ 310 ∧ Buf EncU 232 B' h' z.1.1 z.1.2.1 z.1.2.2 (prF j) ∧ Chg [] B' h h') (fun z _ => (312 - z.2.1).toNat) ?_ ⟨0, [], rfl, by omega, Buf.nil _ _ _ _, Chg.refl _ _⟩)
 rintro ⟨⟨oA, oN, oC⟩, zp, u⟩ h1 ⟨j, B1, hzp, hj, hb, hc⟩
 dsimp only at hzp hb
 subst hzp
 dsimp only
 have hn := hb.1
 refine ⟨fun e => ?_, fun e => ?_⟩
 ·have e : oN < 64 := by simp at e; omega
  have hj2 : j < 310 := by
   rcases Nat.lt_or_ge j 310 with h | h
   ·exact h
   ·have := prF_le h; rw [pr310] at this; omega
  have hw : IntKind.wrap .u64 (((2 + j : Nat) : Int) + (1 : Int)) = ((2 + (j + 1) : Nat) : Int) := by rw [wrap_u64 (by omega) (by omega)]; omega
  rw [hw]
  refine LoopP.ind (fun (z : Bool × Int × Unit) h' => h' = h1 ∧ ∃ i : Nat, z.2.1 = i ∧ i ≤ oN ∧ z.1 = ((prF j).take i).all fun x => (2 + j) % x != 0) (fun z _ => (oN - z.2.1).toNat) ?_ ⟨rfl, 0, rfl, by omega, by simp⟩
  rintro ⟨zb, zi, u⟩ h2 ⟨rfl, i, hzi, hi, hzb⟩
  dsimp only at hzi hzb
  subst hzi
  dsimp only
  refine ⟨fun e2 => ?_, fun e2 => ?_⟩
  ·have e2 : i < oN := by simp at e2; omega
   have hi2 : i < (prF j).length := by omega
   have hit : ((i : Nat) : Int).toNat = i := by omega
   obtain ⟨b, o, hA, hr⟩ := hb.sr.get hi2
   have hp2 := prF_pos j _ (List.getElem_mem hi2)
   have hmod : (((2 + j : Nat) : Int).tmod (((prF j)[i] : Nat) : Int)) = (((2 + j) % (prF j)[i] : Nat) : Int) := by
    rw [Int.tmod_eq_emod_of_nonneg (by omega)]; exact (Int.natCast_emod _ _).symm
   have hsn : ((prF j).take (i + 1)).all (fun x => (2 + j) % x != 0) = (zb && ((2 + j) % (prF j)[i] != 0)) := by
    rw [← List.take_append_getElem hi2, List.all_append, hzb]; simp
   rw [hit]
   refine ⟨b, o, ⟨hA, by omega, by omega⟩, _, hr _ 0 1 rfl (by decide), by omega, fun e3 => ?_, fun e3 => ?_⟩
   ·rw [hmod] at e3
    have e3 : (2 + j) % (prF j)[i] = 0 := Int.ofNat_eq_zero.1 (beq_iff_eq.1 e3)
    refine ⟨⟨rfl, i + 1, by rw [wrap64] <;> omega, by omega, ?_⟩, by rw [wrap64] <;> omega⟩
    rw [hsn, e3]; simp
   ·rw [hmod] at e3
    have e3 : (2 + j) % (prF j)[i] ≠ 0 := fun h => by rw [h] at e3; simp at e3
    refine ⟨⟨rfl, i + 1, by rw [wrap64] <;> omega, by omega, ?_⟩, by rw [wrap64] <;> omega⟩
    rw [hsn]; simp [e3]
  ·have e2 : i = oN := by simp at e2; omega
   subst e2
   rw [hn, List.take_length] at hzb
   have hs := prF_succ j
   unfold prS at hs
   refine ⟨fun e3 => ?_, fun e3 => ?_⟩
   ·refine hb.append (new := [2 + j]) rfl rfl rfl (by omega) fun a' c' B' h' hb' hc' _ => ⟨⟨j + 1, B', rfl, by omega, ?_, hc.trans hc'⟩, by omega⟩
    rw [hs, if_pos (by rw [← hzb]; exact e3)]; exact hb'
   ·refine ⟨⟨j + 1, B1, rfl, by omega, ?_, hc⟩, by omega⟩
    rw [hs, if_neg (by rw [← hzb, e3]; decide)]; exact hb
 ·have e : 64 ≤ oN := by simp at e; omega
  have hj3 : j = 310 := by
   rcases Nat.lt_or_ge j 310 with h | h
   ·have := prF_le (show j ≤ 309 by omega); rw [pr309] at this; omega
   ·omega
  subst hj3
  have : oN = 64 := by rw [hn, pr310]
  subst this
  exact hk _ _ _ _ hb hc
theorem beh3 : ∀ i, i < 64 → behN ((prF 310).getD i 0) true = kN.getD i 0 := by decide +kernel
theorem beh2 : ∀ i, i < 8 → behN ((prF 310).getD i 0) false = h0N.getD i 0 := by decide +kernel
end TL

namespace TL
open Go Go.Proofs
variable {B : List Nat} {h : PH} {K : Value → PH → Prop}
theorem cRRot {x n : Nat} (hx : x < 4294967296) (h1 : 1 ≤ n) (h2 : n ≤ 31) (hk : K (.int .u32 (rotr x n : Int)) h) : CallH Tryz.prog id_ref02_rot [.int .u32 (x : Int), .int .u64 (n : Int)] K h := by
 have e2 : IntKind.wrap .u64 ((32 : Int) - (n : Nat)) = ((32 - n : Nat) : Int) := by rw [wrap_u64 (by omega) (by omega)]; omega
 refine F_ref02_rot_ok ?_
 unfold F_ref02_rot
 rw [e2]
 refine ⟨by omega, by omega, ?_⟩
 have h3 : shlV .u32 (x : Int) ((32 - n : Nat) : Int) = ((x * 2 ^ (32 - n) % 4294967296 : Nat) : Int) := by
  unfold shlV
  rw [show min (((32 - n : Nat) : Int)).toNat (IntKind.bits .u32) = 32 - n by simp [IntKind.bits] <;> omega]
  have : (x : Int) * 2 ^ (32 - n) = ((x * 2 ^ (32 - n) : Nat) : Int) := by norm_cast
  rw [this, wrap32]
 rw [h3, shr32 (by omega), or32 (div_lt hx) (Nat.mod_lt _ (by decide)), Nat.or_comm]
 exact hk
theorem eight {l : List Nat} (h : l.length = 8) : ∃ a b c d e f g i, l = [a, b, c, d, e, f, g, i] := by
 match l, h with
 | [a, b, c, d, e, f, g, i], _ => exact ⟨a, b, c, d, e, f, g, i, rfl⟩
theorem addH_comm {a b : List Nat} (ha : a.length = 8) (hb : b.length = 8) : addH a b 8 = addH b a 8 := by
 obtain ⟨a0, a1, a2, a3, a4, a5, a6, a7, rfl⟩ := eight ha
 obtain ⟨b0, b1, b2, b3, b4, b5, b6, b7, rfl⟩ := eight hb
 simp only [addH, List.range, List.range.loop, List.foldl, List.getD_cons_zero, List.getD_cons_succ, List.set_cons_zero, List.set_cons_succ]
 simp only [Nat.add_comm]
theorem be4 {l : List UInt8} {i : Nat} (h : i + 3 < l.length) : be ((l.drop i).take 4) = (((l[i]).toNat * 16777216 + (l[i + 1]).toNat * 65536) + (l[i + 2]).toNat * 256) + (l[i + 3]).toNat := by
 have e : (l.drop i).take 4 = [l[i], l[i + 1], l[i + 2], l[i + 3]] := by
  rw [List.drop_eq_getElem_cons (i := i) (by omega), List.drop_eq_getElem_cons (i := i + 1) (by omega), List.drop_eq_getElem_cons (i := i + 1 + 1) (by omega), List.drop_eq_getElem_cons (i := i + 1 + 1 + 1) (by omega)]
  rfl
 rw [e]
 simp only [be, List.foldl]
 omega
set_option maxHeartbeats 1000000 in
theorem cRTurn {bN kL : List Nat} {blk : List UInt8} {sA : Option Addr} {sC : Nat} (hb : bN.length = 8 ∧ Bd bN) (hkl : kL.length = 64 ∧ Bd kL) (hs : SR EncB h sA blk) (hbl : blk.length = 64)
  (hk : K (.agg ((u32s (turnN bN bN kL blk) ++ [])).toArray) h) :
  CallH Tryz.prog id_ref02_turn [.agg ((u32s bN ++ [])).toArray, .agg ((u32s kL ++ [])).toArray, .slice sA 64 sC] K h := by
 have r0 : ((List.replicate 64 0 : List Int)) = iv (w16 blk 0) := by rfl
 refine F_ref02_turn_ok (by rw [iv_len]; exact hb.1) (by rw [iv_len]; exact hkl.1) ?_
 unfold F_ref02_turn
 rw [r0]
 refine LoopP.ind (fun (z : Int × List Int × Unit) h' => ∃ i : Nat, z = ((i : Int), iv (w16 blk i), ()) ∧ i ≤ 16 ∧ h' = h) (fun z _ => (16 - z.1).toNat) ?_ ⟨0, rfl, Nat.zero_le _, rfl⟩
 rintro _ h ⟨i, rfl, hi, rfl⟩
 dsimp only
 refine ⟨fun e => ?_, fun e => ?_⟩
 ·have e : i < 16 := by simp at e; omega
  have w0 : IntKind.wrap .i64 ((4 : Int) * i) = ((4 * i : Nat) : Int) := by rw [wrap64] <;> omega
  have w1 : IntKind.wrap .i64 (((4 * i : Nat) : Int) + 1) = ((4 * i + 1 : Nat) : Int) := by rw [wrap64] <;> omega
  have w2 : IntKind.wrap .i64 (((4 * i : Nat) : Int) + 2) = ((4 * i + 2 : Nat) : Int) := by rw [wrap64] <;> omega
  have w3 : IntKind.wrap .i64 (((4 * i : Nat) : Int) + 3) = ((4 * i + 3 : Nat) : Int) := by rw [wrap64] <;> omega
  rw [w0, w1, w2, w3, wrap64 (n := (i : Int) + 1) (by omega) (by omega)]
  have t0 : ((4 * i : Nat) : Int).toNat = 4 * i := by omega
  have t1 : ((4 * i + 1 : Nat) : Int).toNat = 4 * i + 1 := by omega
  have t2 : ((4 * i + 2 : Nat) : Int).toNat = 4 * i + 2 := by omega
  have t3 : ((4 * i + 3 : Nat) : Int).toNat = 4 * i + 3 := by omega
  rw [t0, t1, t2, t3]
  obtain ⟨b0, o0, hA0, hr0⟩ := hs.get (i := 4 * i) (by omega)
  obtain ⟨b1, o1, hA1, hr1⟩ := hs.get (i := 4 * i + 1) (by omega)
  obtain ⟨b2, o2, hA2, hr2⟩ := hs.get (i := 4 * i + 2) (by omega)
  obtain ⟨b3, o3, hA3, hr3⟩ := hs.get (i := 4 * i + 3) (by omega)
  refine ⟨b0, o0, ⟨hA0, by omega, by omega⟩, _, hr0 _ 0 1 rfl (by decide), b1, o1, ⟨hA1, by omega, by omega⟩, _, hr1 _ 0 1 rfl (by decide), b2, o2, ⟨hA2, by omega, by omega⟩, _, hr2 _ 0 1 rfl (by decide), b3, o3, ⟨hA3, by omega, by omega⟩, _, hr3 _ 0 1 rfl (by decide), ⟨by omega, by omega⟩, by omega, ⟨i + 1, ?_, by omega, rfl⟩, by omega⟩
  have hset : w16 blk (i + 1) = (w16 blk i).set i (be ((blk.drop (4 * i)).take 4)) := fold_succ _ _ _
  have hbe := be4 (l := blk) (i := 4 * i) (by omega)
  have n0 := blk[4 * i].toNat_lt
  have n1 := blk[4 * i + 1].toNat_lt
  have n2 := blk[4 * i + 2].toNat_lt
  have n3 := blk[4 * i + 3].toNat_lt
  have hv : IntKind.wrap .u32 ((IntKind.wrap .u32 ((IntKind.wrap .u32 ((IntKind.wrap .u32 ((IntKind.wrap .u32 ((blk[4 * i].toNat : Nat) : Int)) * (16777216 : Int))) + (IntKind.wrap .u32 ((IntKind.wrap .u32 ((blk[4 * i + 1].toNat : Nat) : Int)) * (65536 : Int))))) + (IntKind.wrap .u32 ((IntKind.wrap .u32 ((blk[4 * i + 2].toNat : Nat) : Int)) * (256 : Int))))) + (IntKind.wrap .u32 ((blk[4 * i + 3].toNat : Nat) : Int))) = ((be ((blk.drop (4 * i)).take 4) : Nat) : Int) := by
   have m1 : ∀ a : Nat, (a : Int) * (16777216 : Int) = ((a * 16777216 : Nat) : Int) := fun a => by simp
   have m2 : ∀ a : Nat, (a : Int) * (65536 : Int) = ((a * 65536 : Nat) : Int) := fun a => by simp
   have m3 : ∀ a : Nat, (a : Int) * (256 : Int) = ((a * 256 : Nat) : Int) := fun a => by simp
   simp only [wrap32, m1, m2, m3, ad]
   rw [hbe]
   congr 1
   omega
  rw [hset]
  rw [show (i : Int).toNat * 1 = i by simp, ← iv_set, ← hv]; rfl
 ·have e : i = 16 := by simp at e; omega
  subst e
  have w0 : w16 blk 16 = wAll blk 0 := by rw [wAll, List.range_zero, List.foldl_nil]
  rw [w0]
  refine LoopP.ind (fun (z : Int × List Int × Unit) h' => ∃ i : Nat, z = (((16 + i : Nat) : Int), iv (wAll blk i), ()) ∧ i ≤ 48 ∧ h' = h) (fun z _ => (64 - z.1).toNat) ?_ ⟨0, rfl, Nat.zero_le _, rfl⟩
  rintro _ h ⟨i, rfl, hi, rfl⟩
  dsimp only
  refine ⟨fun e => ?_, fun e => ?_⟩
  ·have e : i < 48 := by simp at e; omega
   obtain ⟨hwl, hwb⟩ := wAll_ok blk i
   rw [wrap64 (n := ((16 + i : Nat) : Int) - 15) (by omega) (by omega), wrap64 (n := ((16 + i : Nat) : Int) - 2) (by omega) (by omega), wrap64 (n := ((16 + i : Nat) : Int) - 16) (by omega) (by omega), wrap64 (n := ((16 + i : Nat) : Int) - 7) (by omega) (by omega), wrap64 (n := ((16 + i : Nat) : Int) + 1) (by omega) (by omega)]
   rw [show (((16 + i : Nat) : Int) - 15).toNat * 1 = 1 + i by omega, show (((16 + i : Nat) : Int) - 2).toNat * 1 = 14 + i by omega, show (((16 + i : Nat) : Int) - 16).toNat * 1 = i by omega, show (((16 + i : Nat) : Int) - 7).toNat * 1 = 9 + i by omega, show (((16 + i : Nat) : Int)).toNat * 1 = 16 + i by omega]
   simp only [iv_get]
   have hst : wAll blk (i + 1) = wStep (wAll blk i) i := fold_succ _ _ _
   generalize wAll blk i = w at hwl hwb hst
   have x1 := hwb.get (1 + i)
   have x14 := hwb.get (14 + i)
   refine ⟨⟨by omega, by omega⟩, by omega, ⟨by omega, by omega⟩, by omega, ⟨by omega, by omega⟩, by omega, ⟨by omega, by omega⟩, by omega, cRRot (n := 7) x1 (by decide) (by decide) ⟨_, rfl, cRRot (n := 18) x1 (by decide) (by decide) ⟨_, rfl, cRRot (n := 17) x14 (by decide) (by decide) ⟨_, rfl, cRRot (n := 19) x14 (by decide) (by decide) ⟨_, rfl, ⟨by omega, by omega⟩, by omega, ⟨i + 1, ?_, by omega, rfl⟩, by omega⟩⟩⟩⟩⟩
   have y1 := shr32 (a := w.getD (1 + i) 0) (n := 3) (by decide)
   have y2 := shr32 (a := w.getD (14 + i) 0) (n := 10) (by decide)
   rw [show ((3 : Nat) : Int) = (3 : Int) from rfl] at y1
   rw [show ((10 : Nat) : Int) = (10 : Int) from rfl] at y2
   rw [y1, y2, xor32 (rotr_lt x1) (rotr_lt x1), xor32 (xor_lt (rotr_lt x1) (rotr_lt x1)) (div_lt x1), xor32 (rotr_lt x14) (rotr_lt x14), xor32 (xor_lt (rotr_lt x14) (rotr_lt x14)) (div_lt x14)]
   rw [hst]
   rw [ad, wrap32, ad, wrap32, ad, wrap32, iv_set]
   rfl
  ·have e : i = 48 := by simp at e; omega
   subst e
   have v0 : iv bN = iv (rnds kL (wAll blk 48) bN 0) := by rw [rnds, List.range_zero, List.foldl_nil]
   have hbN := v0
   obtain ⟨hwl, hwb⟩ := wAll_ok blk 48
   refine LoopP.ind (fun (z : Int × List Int × Unit) h' => ∃ i : Nat, z = ((i : Int), iv (rnds kL (wAll blk 48) bN i), ()) ∧ i ≤ 64 ∧ h' = h) (fun z _ => (64 - z.1).toNat) ?_ ⟨0, by rw [v0]; rfl, Nat.zero_le _, rfl⟩
   rintro _ h ⟨i, rfl, hi, rfl⟩
   dsimp only
   refine ⟨fun e => ?_, fun e => ?_⟩
   ·have e : i < 64 := by simp at e; omega
    obtain ⟨hvl, hvb⟩ := rnds_ok (k := kL) (w := wAll blk 48) hb i
    have hst : rnds kL (wAll blk 48) bN (i + 1) = rnd kL (wAll blk 48) (rnds kL (wAll blk 48) bN i) i := fold_succ _ _ _
    rw [show (i : Int).toNat * 1 = i by omega]
    simp only [getD_take1, getD_drop, iv_get]
    generalize rnds kL (wAll blk 48) bN i = v at hst hvl hvb
    rw [wrap64 (n := (i : Int) + 1) (by omega) (by omega)]
    have g0 := hvb.get 0
    have g1 := hvb.get 1
    have g2 := hvb.get 2
    have g4 := hvb.get 4
    have g5 := hvb.get 5
    have g6 := hvb.get 6
    refine ⟨⟨by omega, by omega⟩, by omega, ⟨by omega, by omega⟩, by omega, cRRot (n := 6) g4 (by decide) (by decide) ⟨_, rfl, cRRot (n := 11) g4 (by decide) (by decide) ⟨_, rfl, cRRot (n := 25) g4 (by decide) (by decide) ⟨_, rfl, ?_⟩⟩⟩⟩
    refine cRRot (n := 2) g0 (by decide) (by decide) ⟨_, rfl, cRRot (n := 13) g0 (by decide) (by decide) ⟨_, rfl, cRRot (n := 22) g0 (by decide) (by decide) ⟨_, rfl, ?_⟩⟩⟩
    refine ⟨⟨i + 1, ?_, by omega, rfl⟩, by omega⟩
    have hmax : (4294967295 : Int) = ((4294967295 : Nat) : Int) := rfl
    rw [hmax, xor32 (by decide) g4, and32 (xor_lt (by decide) g4) g6, and32 g4 g5, xor32 (and_lt g5) (and_lt g6), xor32 (rotr_lt g4) (rotr_lt g4), xor32 (xor_lt (rotr_lt g4) (rotr_lt g4)) (rotr_lt g4)]
    rw [xor32 (rotr_lt g0) (rotr_lt g0), xor32 (xor_lt (rotr_lt g0) (rotr_lt g0)) (rotr_lt g0), and32 g0 g1, and32 g0 g2, and32 g1 g2, xor32 (and_lt g1) (and_lt g2), xor32 (xor_lt (and_lt g1) (and_lt g2)) (and_lt g2)]
    simp only [ad, wrap32]
    rw [hst]
    rfl
   ·have e : i = 64 := by simp at e; omega
    subst e
    obtain ⟨hvl, hvb⟩ := rnds_ok (k := kL) (w := wAll blk 48) hb 64
    have ht : turnN bN bN kL blk = addH (rnds kL (wAll blk 48) bN 64) bN 8 := addH_comm hb.1 hvl
    rw [ht] at hk
    generalize rnds kL (wAll blk 48) bN 64 = v at hk hvl hvb
    refine LoopP.ind (fun (z : Int × List Int × Unit) h' => ∃ i : Nat, z = ((i : Int), iv (addH v bN i), ()) ∧ i ≤ 8 ∧ h' = h) (fun z _ => (8 - z.1).toNat) ?_ ⟨0, by rw [addH, List.range_zero, List.foldl_nil]; rfl, Nat.zero_le _, rfl⟩
    rintro _ h ⟨i, rfl, hi, rfl⟩
    dsimp only
    refine ⟨fun e => ?_, fun e => ?_⟩
    ·have e : i < 8 := by simp at e; omega
     rw [show (i : Int).toNat * 1 = i by omega, wrap64 (n := (i : Int) + 1) (by omega) (by omega)]
     simp only [iv_get]
     rw [ad, wrap32, iv_set]
     refine ⟨⟨by omega, by omega⟩, by omega, ⟨by omega, by omega⟩, by omega, ⟨by omega, by omega⟩, by omega, ⟨i + 1, ?_, by omega, by first | rfl | trivial⟩, by omega⟩
     have hst : addH v bN (i + 1) = _ := fold_succ _ _ _
     rw [hst]; rfl
    ·have e : i = 8 := by simp at e; omega
     subst e
     exact hk
end TL

namespace TL
open Go Go.Proofs
variable {B : List Nat} {h : PH} {K : Value → PH → Prop}
def BufU (B : List Nat) (h : PH) (a : Option Addr) (n c : Nat) (l : List UInt8) : Prop :=
 n = l.length ∧ ∃ b tail fr, a = some ⟨b, 0, none⟩ ∧ B = [b] ∧ h b = some (.cells (EncB.row l ++ tail).toArray 5 fr) ∧ Unfr (EncB.row l ++ tail).toArray fr ∧ tail.length = c - n ∧ n ≤ c
theorem BufU.sr {a : Option Addr} {n c : Nat} {l : List UInt8} (x : BufU B h a n c l) : SR EncB h a l := by
 obtain ⟨rfl, b, tail, fr, e, _, hb, _⟩ := x
 refine .inr ⟨b, 0, e, ?_⟩
 rw [rds_of hb (by rw [List.length_append, EncB.row_len]; omega)]
 rw [← EncB.row_len, List.drop_zero, List.take_left]
theorem BufU.sub {a : Option Addr} {n c : Nat} {l : List UInt8} {h' : PH} (x : BufU B h a n c l) (s : h.Sub h') : BufU B h' a n c l := by
 obtain ⟨rfl, b, tail, fr, e, hB, hb, hr⟩ := x
 exact ⟨rfl, b, tail, fr, e, hB, s _ _ hb, hr⟩
theorem BufU.put {a : Option Addr} {n c : Nat} {l : List UInt8} {v : UInt8} {K : Option Addr → Nat → Nat → PH → Prop} (x : BufU B h a n c l) (hn : n ≤ 140737488355327) (hk : ∀ a' c' B' h', BufU B' h' a' (n + 1) c' (l ++ [v]) → Chg B B' h h' → K a' (n + 1) c' h') :
  appH 5 1 1 [.int .u8 (0 : Int)] a n c 1 [.int .u8 (v.toNat : Int)] K h := by
 have hsr := x.sr
 obtain ⟨rfl, b, tail, fr, rfl, rfl, hb, hu, ht, hc⟩ := x
 refine ⟨rfl, fun hle => ⟨fun h0 => by simp at h0, fun _ => ⟨b, 0, rfl, ?_⟩⟩, fun hlt => ⟨by omega, EncB.row l, hsr.src, fun c' hc' _ b2 hb2 => ?_⟩⟩
 ·refine ⟨_, _, _, hb, hu, ?_, ?_⟩
  ·simp only [List.size_toArray, List.length_append, EncB.row_len, List.length_cons, List.length_nil]
   show 0 + l.length * 1 + 1 ≤ l.length * 1 + tail.length
   omega
  ·cases tail with
   | nil => simp at ht; omega
   | cons z tail =>
    have hlen : (EncB.row l).length = 0 + l.length * 1 := by rw [EncB.row_len, Nat.zero_add]; rfl
    have hsp : splice (EncB.row l ++ z :: tail).toArray (0 + l.length * 1) [.int .u8 (v.toNat : Int)] = (EncB.row (l ++ [v]) ++ tail).toArray := by
     unfold splice
     rw [← hlen, List.take_left, EncB.row_app]
     congr 1
     rw [← List.drop_drop, List.drop_left]
     rfl
    rw [hsp]
    refine hk _ c [b] _ ⟨by simp, b, tail, fr, rfl, rfl, PH.upd_same _ _ _, ?_, ?_, hle⟩ (Chg.upd _)
    ·unfold Unfr at hu ⊢
     rcases hu with hu | hu
     ·exact .inl hu
     ·refine .inr ?_
      simp only [List.size_toArray, List.length_append, EncB.row_len, List.length_cons] at hu ⊢
      have : EncB.k = 1 := rfl
      rw [this] at hu ⊢
      simp only [List.length_nil]
      omega
    ·simp only [List.length_cons] at ht; omega
 ·refine hk _ c' [b2] _ ⟨by simp, b2, (List.replicate (c' - (l.length + 1)) [Value.int .u8 (0 : Int)]).flatten, (0, 0), rfl, rfl, ?_, unfr0 _, by simp, hc'⟩ ((Chg.new _ hb2).sub (by simp) (by simp))
  rw [PH.upd_same, EncB.row_app, List.append_assoc]; rfl
theorem put_at {α β : Type} {L : List α} {i m : Nat} (f : α → β) (d : β) (h : i < L.length) (hm : i < m) (x : β) (hx : x = f L[i]) : ((L.take i).map f ++ List.replicate (m - i) d).set i x = (L.take (i + 1)).map f ++ List.replicate (m - (i + 1)) d := by
 have e : m - i = (m - (i + 1)) + 1 := by omega
 have hl : ((L.take i).map f).length = i := by rw [List.length_map, List.length_take]; omega
 rw [List.set_append_right _ _ (by omega), hl, Nat.sub_self, e, List.replicate_succ, List.set_cons_zero, hx, ← List.take_append_getElem h, List.map_append, List.append_assoc]
 rfl
theorem outN_get : ∀ (H : List Nat) (i : Nat), i < 4 * H.length → (outN H).getD i 0 = UInt8.ofNat (H.getD (i / 4) 0 / 2 ^ (24 - 8 * (i % 4)))
 | [], i, h => by simp at h
 | x :: r, i, h => by
  unfold outN
  rw [List.flatMap_cons]
  by_cases h4 : i < 4
  ·have : i = 0 ∨ i = 1 ∨ i = 2 ∨ i = 3 := by omega
   rcases this with rfl | rfl | rfl | rfl <;> rfl
  ·have ih := outN_get r (i - 4) (by simp at h; omega)
   unfold outN at ih
   rw [List.getD_eq_getElem?_getD, List.getElem?_append_right (by rw [beB_len]; omega), beB_len, ← List.getD_eq_getElem?_getD, ih]
   have e1 : i / 4 = (i - 4) / 4 + 1 := by omega
   have e2 : i % 4 = (i - 4) % 4 := by omega
   rw [e1, e2, List.getD_cons_succ]
def padZ (s : List UInt8) (j : Nat) : List UInt8 := s ++ 128 :: List.replicate j 0
theorem beB_take (x : Nat) : ∀ i : Nat, i < 8 → (beB 8 x)[i]? = some (UInt8.ofNat (x / 2 ^ (8 * (7 - i)))) := by
 intro i hi
 have : i = 0 ∨ i = 1 ∨ i = 2 ∨ i = 3 ∨ i = 4 ∨ i = 5 ∨ i = 6 ∨ i = 7 := by omega
 rcases this with rfl | rfl | rfl | rfl | rfl | rfl | rfl | rfl <;> rfl
theorem cRSum {s : List UInt8} (hs : s.length ≤ 1000000) (hk : ∀ h', h.Sub h' → K (.agg (((bi (shaN s)).map (Value.int .u8) ++ [])).toArray) h') : CallH Tryz.prog id_ref02_Sum [.string (mk s)] K h := by
 refine F_ref02_Sum_ok (cPrimes fun pA pC Bp h1 hb1 hc1 => ⟨_, _, _, rfl, ?_⟩)
 have h310 := pr310
 have sp := hb1.sr
 refine LoopP.ind (fun (z : Int × List Int × List Int × Unit) h' => ∃ i : Nat, z.1 = i ∧ i ≤ 64 ∧ z.2.1 = (kN.take i).map Int.ofNat ++ List.replicate (64 - i) 0 ∧ z.2.2.1 = (h0N.take i).map Int.ofNat ++ List.replicate (8 - i) 0 ∧ h' = h1) (fun z _ => (64 - z.1).toNat) ?_ ⟨0, rfl, by omega, rfl, rfl, rfl⟩
 rintro ⟨zi, zk, zh, u⟩ h2 ⟨i, hzi, hi, hzk, hzh, rfl⟩
 dsimp only at hzi hzk hzh
 subst hzi hzk hzh
 dsimp only
 refine ⟨fun e => ?_, fun e => ?_⟩
 ·have e : i < 64 := by simp at e; omega
  have hit : ((i : Nat) : Int).toNat = i := by omega
  have hw : IntKind.wrap .i64 (((i : Nat) : Int) + (1 : Int)) = ((i + 1 : Nat) : Int) := by rw [wrap64] <;> omega
  obtain ⟨b, o, hA, hr⟩ := sp.get (i := i) (by omega)
  have hr := hr _ 0 1 rfl (by decide)
  have hg : (prF 310)[i]'(by omega) = (prF 310).getD i 0 := by rw [List.getD_eq_getElem?_getD, List.getElem?_eq_getElem (by omega)]; rfl
  have hk3 := beh3 i e
  have hki : kN.getD i 0 = kN[i]'(show i < 64 from e) := by rw [List.getD_eq_getElem?_getD, List.getElem?_eq_getElem (show i < kN.length from e)]; rfl
  have hpk := put_at (L := kN) (i := i) (m := 64) Int.ofNat (0 : Int) (show i < 64 from e) e ((behN ((prF 310).getD i 0) true : Nat) : Int) (by rw [hk3, hki]; rfl)
  rw [hit, hw]
  refine ⟨b, o, ⟨hA, by omega, by omega⟩, _, hr, cBehind ⟨_, rfl, ⟨by omega, by omega⟩, by omega, fun e2 => ?_, fun e2 => ?_⟩⟩
  ·have e2 : i < 8 := by simp at e2; omega
   have hk2 := beh2 i e2
   have hhi : h0N.getD i 0 = h0N[i]'(show i < 8 from e2) := by rw [List.getD_eq_getElem?_getD, List.getElem?_eq_getElem (show i < h0N.length from e2)]; rfl
   have hph := put_at (L := h0N) (i := i) (m := 8) Int.ofNat (0 : Int) (show i < 8 from e2) e2 ((behN ((prF 310).getD i 0) false : Nat) : Int) (by rw [hk2, hhi]; rfl)
   refine ⟨b, o, ⟨hA, by omega, by omega⟩, _, hr, cBehind ⟨_, rfl, ⟨by omega, by omega⟩, by omega, ⟨i + 1, rfl, by omega, ?_, ?_, rfl⟩, by omega⟩⟩
   ·rw [hg, Nat.mul_one]; exact hpk
   ·rw [hg, Nat.mul_one]; exact hph
  ·have e2 : 8 ≤ i := by simp at e2; omega
   refine ⟨⟨i + 1, rfl, by omega, ?_, ?_, rfl⟩, by omega⟩
   ·rw [hg, Nat.mul_one]; exact hpk
   ·rw [List.take_of_length_le (show h0N.length ≤ i + 1 by show 8 ≤ _; omega), List.take_of_length_le (show h0N.length ≤ i from e2), show 8 - i = 0 by omega, show 8 - (i + 1) = 0 by omega]
 have e : i = 64 := by simp at e; omega
 subst e
 have ek : (kN.take 64).map Int.ofNat ++ List.replicate (64 - 64) 0 = iv kN := by rfl
 have eh : (h0N.take 64).map Int.ofNat ++ List.replicate (8 - 64) 0 = iv (blks 0 h0N []) := by rfl
 rw [ek, eh]
 clear ek eh sp hb1
 have s1 : h.Sub h2 := hc1.sub0
 intro cap hcap b hb0
 have hcap : s.length ≤ cap := by rw [size_mk] at hcap; exact hcap
 have hbx : (h2.upd b (.cells (byteVs (mk s) ++ List.replicate (cap - ByteArray.size (mk s)) (Value.int .u8 0)).toArray 5 (cap, cap + 1))) b = _ := PH.upd_same ..
 have hcx := Chg.new (.cells (byteVs (mk s) ++ List.replicate (cap - ByteArray.size (mk s)) (Value.int .u8 0)).toArray 5 (cap, cap + 1)) hb0
 generalize h2.upd b (.cells (byteVs (mk s) ++ List.replicate (cap - ByteArray.size (mk s)) (Value.int .u8 0)).toArray 5 (cap, cap + 1)) = h3 at hbx hcx
 rw [size_mk, byteVs_mk] at hbx
 have x3 : BufU [b] h3 (some ⟨b, 0, none⟩) s.length cap s := ⟨rfl, b, List.replicate (cap - s.length) (Value.int .u8 0), (cap, cap + 1), rfl, rfl, hbx, .inr (by simp only [List.size_toArray, List.length_append, EncB.row_len, List.length_replicate]; show s.length * 1 + (cap - s.length) ≤ cap; omega), by simp, hcap⟩
 have c3 : Chg [] [b] h2 h3 := hcx
 rw [size_mk]
 refine x3.put (v := 128) (by omega) fun a4 cc4 B4 h4 x4 c4 => ?_
 have c4 : Chg [] B4 h2 h4 := c3.trans c4
 have hz64 : zrs s.length < 64 := by unfold zrs; omega
 refine LoopP.ind (fun (z : (Option Addr × Nat × Nat) × Unit) h' => ∃ (j : Nat) (B' : List Nat), j ≤ zrs s.length ∧ BufU B' h' z.1.1 z.1.2.1 z.1.2.2 (padZ s j) ∧ Chg [] B' h2 h') (fun z _ => s.length + 200 - z.1.2.1) ?_ ⟨0, B4, by omega, x4, c4⟩
 rintro ⟨⟨oA, oN, oC⟩, u⟩ h5 ⟨j, B5, hj, x5, c5⟩
 dsimp only at x5
 dsimp only
 have hn5 : oN = s.length + 1 + j := by rw [x5.1]; simp [padZ]; omega
 have htm : (((oN : Nat) : Int).tmod (64 : Int)) = ((oN % 64 : Nat) : Int) := by
  rw [Int.tmod_eq_emod_of_nonneg (by omega)]; exact (Int.natCast_emod _ _).symm
 rw [htm]
 refine ⟨fun e => ?_, fun e => ?_⟩
 ·have e : oN % 64 ≠ 56 := fun h => by rw [h] at e; simp at e
  have hjz : j < zrs s.length := by unfold zrs at hj ⊢; omega
  refine x5.put (v := 0) (by omega) fun a' c' B' h' x' cc' => ⟨⟨j + 1, B', by omega, ?_, c5.trans cc'⟩, by omega⟩
  have : padZ s (j + 1) = padZ s j ++ [0] := by
   unfold padZ
   rw [List.replicate_succ']; simp
  rw [this]; exact x'
 have e : oN % 64 = 56 := by simp at e; omega
 have hjz : j = zrs s.length := by unfold zrs at hj ⊢; omega
 subst hjz
 have hm8 : IntKind.wrap .u64 ((IntKind.wrap .u64 ((s.length : Nat) : Int)) * (8 : Int)) = ((s.length * 8 : Nat) : Int) := by
  rw [wrap_u64 (n := ((s.length : Nat) : Int)) (by omega) (by omega), wrap_u64 (by omega) (by omega)]; omega
 rw [hm8]
 refine LoopP.ind (fun (z : (Option Addr × Nat × Nat) × Int × Unit) h' => ∃ (q : Nat) (B' : List Nat), q ≤ 8 ∧ z.2.1 = (7 : Int) - q ∧ BufU B' h' z.1.1 z.1.2.1 z.1.2.2 (padZ s (zrs s.length) ++ (beB 8 (s.length * 8)).take q) ∧ Chg [] B' h2 h') (fun z _ => (z.2.1 + 1).toNat) ?_ ⟨0, B5, by omega, rfl, by simpa using x5, c5⟩
 rintro ⟨⟨oA, oN, oC⟩, zi, u⟩ h6 ⟨q, B6, hq, hzi, x6, c6⟩
 dsimp only at hzi x6
 subst hzi
 dsimp only
 have hn6 : oN ≤ 2000000 := by
  have h8 : ((beB 8 (s.length * 8)).take q).length ≤ 8 := by rw [List.length_take, beB_len]; omega
  rw [x6.1, List.length_append]
  simp only [padZ, List.length_append, List.length_cons, List.length_replicate]
  omega
 refine ⟨fun e => ?_, fun e => ?_⟩
 ·have e : q < 8 := by simp at e; omega
  have w1 : IntKind.wrap .u64 (IntKind.wrap .i64 ((8 : Int) * ((7 : Int) - (q : Nat)))) = ((8 * (7 - q) : Nat) : Int) := by
   rw [wrap64 (by omega) (by omega), wrap_u64 (by omega) (by omega)]; omega
  have w2 : IntKind.wrap .i64 ((7 : Int) - (q : Nat) - 1) = (7 : Int) - ((q + 1 : Nat) : Int) := by rw [wrap64] <;> omega
  rw [w1, w2, shr_nat (by omega)]
  have hv : IntKind.wrap .u8 (((s.length * 8 / 2 ^ (8 * (7 - q)) : Nat) : Nat) : Int) = ((UInt8.ofNat (s.length * 8 / 2 ^ (8 * (7 - q)))).toNat : Int) := by
   simp [IntKind.wrap, IntKind.bits, IntKind.signed]
  rw [hv]
  refine ⟨by omega, x6.put (by omega) fun a' c' B' h' x' cc' => ⟨⟨q + 1, B', by omega, rfl, ?_, c6.trans cc'⟩, by omega⟩⟩
  have hb8 := beB_take (s.length * 8) q e
  obtain ⟨hlt, hget⟩ := List.getElem?_eq_some_iff.1 hb8
  rw [← List.take_append_getElem hlt, hget, ← List.append_assoc]; exact x'
 have e : q = 8 := by simp at e; omega
 subst e
 have hL : padZ s (zrs s.length) ++ (beB 8 (s.length * 8)).take 8 = s ++ padB s.length := by
  rw [List.take_of_length_le (by rw [beB_len]; omega)]
  unfold padZ padB
  rw [Nat.mod_eq_of_lt (by omega)]; simp
 rw [hL] at x6
 have hlen : oN = s.length + (padB s.length).length := by rw [x6.1, List.length_append]
 have hdiv := pad_len s.length
 rw [← hlen] at hdiv
 have hshaN : shaN s = outN (blks (oN / 64) h0N (s ++ padB s.length)) := by rw [hlen]; rfl
 generalize hLL : s ++ padB s.length = L at x6 hshaN
 have hoc : oN ≤ oC := by obtain ⟨_, b, tail, fr, _, _, _, _, _, hc⟩ := x6; exact hc
 have sL := x6.sr
 have hnL := x6.1
 have s26 := c6.sub0
 refine LoopP.ind (fun (z : Int × List Int × Unit) h' => ∃ j : Nat, z.1 = ((64 * j : Nat) : Int) ∧ 64 * j ≤ oN ∧ z.2.1 = iv (blks j h0N L) ∧ h6.Sub h') (fun z _ => (oN - z.1).toNat) ?_ ⟨0, rfl, by omega, rfl, fun _ _ e => e⟩
 rintro ⟨zi, zh, u⟩ h7 ⟨j, hzi, hj, hzh, s7⟩
 dsimp only at hzi hzh
 subst hzi hzh
 dsimp only
 have hbk := blks_ok (l := L) j h0_ok
 refine ⟨fun e => ?_, fun e => ?_⟩
 ·have e : 64 * j < oN := by simp at e; omega
  have hj64 : 64 * j + 64 ≤ oN := by omega
  have w1 : IntKind.wrap .i64 (((64 * j : Nat) : Int) + (64 : Int)) = ((64 * (j + 1) : Nat) : Int) := by rw [wrap64] <;> omega
  rw [w1]
  have hsl := (sL.sub s7).slice (lo := 64 * j) (hi := 64 * j + 64) (mx := ((oC : Nat) : Int)) (L := ((64 * j : Nat) : Int)) (by omega) (by omega) (by omega)
  rw [show 64 * j + 64 - 64 * j = 64 by omega] at hsl
  rw [show ((64 * (j + 1) : Nat) : Int).toNat - ((64 * j : Nat) : Int).toNat = 64 by omega]
  refine ⟨⟨by omega, by omega, by omega, by omega⟩, cRTurn hbk k_ok hsl (by rw [List.length_take, List.length_drop]; omega) ⟨iv (turnN (blks j h0N L) (blks j h0N L) kN ((L.drop (64 * j)).take 64)), by rw [iv_len]; exact (turn_ok hbk).1, rfl, ⟨j + 1, rfl, by omega, ?_, s7⟩, by omega⟩⟩
  rw [blks_succ]
 ·have e : j = oN / 64 := by simp at e; omega
  subst e
  generalize blks (oN / 64) h0N L = H at hbk hshaN
  have ho32 : (outN H).length = 32 := by rw [outN_len, hbk.1]
  refine LoopP.ind (fun (z : Int × List Int × Unit) h' => ∃ i : Nat, z.1 = i ∧ i ≤ 32 ∧ z.2.1 = ((outN H).take i).map (fun b => (b.toNat : Int)) ++ List.replicate (32 - i) 0 ∧ h' = h7) (fun z _ => (32 - z.1).toNat) ?_ ⟨0, rfl, by omega, rfl, rfl⟩
  rintro ⟨zi, zo, u⟩ h8 ⟨i, hzi, hi, hzo, rfl⟩
  dsimp only at hzi hzo
  subst hzi hzo
  dsimp only
  refine ⟨fun e => ?_, fun e => ?_⟩
  ·have e : i < 32 := by simp at e; omega
   have q1 : IntKind.wrap .i64 (((i : Nat) : Int).tdiv (4 : Int)) = ((i / 4 : Nat) : Int) := by
    rw [Int.tdiv_eq_ediv_of_nonneg (by omega), wrap64] <;> omega
   have q2 : IntKind.wrap .u64 (IntKind.wrap .i64 ((24 : Int) - (IntKind.wrap .i64 ((8 : Int) * (((i : Nat) : Int).tmod (4 : Int)))))) = ((24 - 8 * (i % 4) : Nat) : Int) := by
    rw [Int.tmod_eq_emod_of_nonneg (by omega), wrap64 (n := (8 : Int) * _) (by omega) (by omega), wrap64 (by omega) (by omega), wrap_u64 (by omega) (by omega)]; omega
   rw [q1, q2]
   have t1 : ((i / 4 : Nat) : Int).toNat * 1 = i / 4 := by omega
   have t2 : ((i : Nat) : Int).toNat * 1 = i := by omega
   rw [t1, t2, iv_get, shr32 (by omega)]
   have hlt : i < (outN H).length := by omega
   have hg := outN_get H i (by rw [hbk.1]; omega)
   rw [List.getD_eq_getElem?_getD, List.getElem?_eq_getElem hlt, Option.getD_some] at hg
   have hp := put_at (L := outN H) (i := i) (m := 32) (fun b => (b.toNat : Int)) (0 : Int) hlt e (IntKind.wrap .u8 ((H.getD (i / 4) 0 / 2 ^ (24 - 8 * (i % 4)) : Nat) : Int)) (by rw [hg]; simp [IntKind.wrap, IntKind.bits, IntKind.signed])
   refine ⟨⟨by omega, by omega⟩, by omega, by omega, ⟨by omega, by omega⟩, by omega, ⟨i + 1, by rw [wrap64] <;> omega, by omega, ?_, rfl⟩, by rw [wrap64] <;> omega⟩
   exact hp
  ·have e : i = 32 := by simp at e; omega
   subst e
   have hfin : ((outN H).take 32).map (fun b => (b.toNat : Int)) ++ List.replicate (32 - 32) 0 = bi (shaN s) := by
    rw [List.take_of_length_le (by omega), Nat.sub_self, List.replicate_zero, List.append_nil, hshaN]; rfl
   rw [hfin]
   exact hk _ ((s1.tr s26).tr s7)
end TL

namespace TL
open Go Go.Proofs
variable {h : PH} {K : Value → PH → Prop} {p : List UInt8}
theorem bi_getD (x : List UInt8) (i : Nat) (hi : i < x.length) : (bi x).getD i 0 = ((x[i].toNat : Nat) : Int) := by
 rw [List.getD_eq_getElem?_getD, List.getElem?_eq_getElem (by rw [bi_len]; exact hi)]
 simp [bi]
theorem SR.oneB {b : Nat} {v : UInt8} {T : TypeId} {fr : Nat × Nat} (hb : h b = some (.cells [Value.int .u8 (v.toNat : Int)].toArray T fr)) : strH h (some ⟨b, 0, none⟩) 1 (mk [v]) := by
 have : SR EncB h (some ⟨b, 0, none⟩) [v] := .inr ⟨b, 0, rfl, by rw [rds_of hb (by simp [EncB])]; rfl⟩
 exact this.str
theorem cRInnerText {x y : List UInt8} (hx : x.length = 32) (hy : y.length = 32) (hk : ∀ h', h.Sub h' → K (.string (mk (innT x y))) h') :
  CallH Tryz.prog id_ref15_InnerText [.agg (((bi x).map (Value.int .u8) ++ [])).toArray, .agg (((bi y).map (Value.int .u8) ++ [])).toArray] K h := by
 refine F_ref15_InnerText_ok (by rw [bi_len, hx]) (by rw [bi_len, hy]) (LoopP.ind (fun (z : ByteArray × Int × Unit) h' => ∃ i : Nat, z.1 = mk (78 :: x.take i) ∧ z.2.1 = i ∧ i ≤ 32 ∧ h.Sub h') (fun z _ => (32 - z.2.1).toNat) ?_ ⟨0, rfl, rfl, by omega, fun _ _ e => e⟩)
 rintro ⟨zs, zi, u⟩ h1 ⟨i, hzs, hzi, hi, s1⟩
 dsimp only at hzs hzi
 subst hzs hzi
 dsimp only
 refine ⟨fun e => ?_, fun e => ?_⟩
 ·have e : i < 32 := by simp at e; omega
  have hit : ((i : Nat) : Int).toNat * 1 = i := by omega
  rw [hit, bi_getD x i (by omega)]
  refine ⟨⟨by omega, by omega⟩, by omega, nwL fun b h2 _ hb2 c2 => ⟨_, SR.oneB hb2, ?_, ⟨i + 1, ?_, by rw [wrap64] <;> omega, by omega, s1.tr c2.sub0⟩, by rw [wrap64] <;> omega⟩⟩
  ·rw [size_mk, size_mk]; simp; omega
  ·rw [mk_append, ← List.take_append_getElem (show i < x.length by omega)]; rfl
 ·have e : i = 32 := by simp at e; omega
  subst e
  rw [List.take_of_length_le (by omega)]
  refine LoopP.ind (fun (z : ByteArray × Int × Unit) h' => ∃ i : Nat, z.1 = mk (78 :: (x ++ y.take i)) ∧ z.2.1 = i ∧ i ≤ 32 ∧ h.Sub h') (fun z _ => (32 - z.2.1).toNat) ?_ ⟨0, by simp, rfl, by omega, s1⟩
  rintro ⟨zs, zi, u⟩ h3 ⟨i, hzs, hzi, hi, s3⟩
  dsimp only at hzs hzi
  subst hzs hzi
  dsimp only
  refine ⟨fun e => ?_, fun e => ?_⟩
  ·have e : i < 32 := by simp at e; omega
   have hit : ((i : Nat) : Int).toNat * 1 = i := by omega
   rw [hit, bi_getD y i (by omega)]
   refine ⟨⟨by omega, by omega⟩, by omega, nwL fun b h2 _ hb2 c2 => ⟨_, SR.oneB hb2, ?_, ⟨i + 1, ?_, by rw [wrap64] <;> omega, by omega, s3.tr c2.sub0⟩, by rw [wrap64] <;> omega⟩⟩
   ·rw [size_mk, size_mk]; simp; omega
   ·rw [mk_append, ← List.take_append_getElem (show i < y.length by omega)]; simp
  ·have e : i = 32 := by simp at e; omega
   subst e
   rw [List.take_of_length_le (by omega)]
   exact hk _ s3
end TL

namespace TL
open Go Go.Proofs
variable {b : Nat} {h : PH} {K : Value → PH → Prop} {P : Nat → PtR} {g : Nat → List UInt8} {n : Nat} {S : List PrR}
theorem up_unique {l : List PrR} (hu : Up S) (hp : l.Perm S) (hs : l.Pairwise fun a b => ¬ b.p < a.p) : l = S := by
 have hnd : (l.map (·.p)).Nodup := (hp.map (·.p)).nodup_iff.2 hu.nodup
 have hul : Up l := by
  rw [List.Nodup, List.pairwise_map] at hnd
  exact (hs.and hnd).imp fun ⟨h1, h2⟩ => lt_of_not h1 (fun e => h2 e.symm)
 refine Up.ext hul hu fun p => ?_
 cases e : look S p with
 | none =>
  rw [look_none] at e ⊢
  exact fun x hx => e x (hp.mem_iff.1 hx)
 | some v =>
  have := look_of_mem hul (hp.mem_iff.2 (look_mem e))
  exact this
end TL

namespace TL
open Go Go.Proofs Go.Shelf Go.RowKit Go.Lib Go.Sort
set_option maxHeartbeats 1000000 in
set_option maxRecDepth 100000 in
theorem walkCompareString (a b : ByteArray) (w : World) :
  Calls Tryz.prog 160 #[.string a, .string b] w fun e w' => e = .returned (.int .i64 (Lib.compareBytes a.data.toList b.data.toList)) ∧ w' = w := by
 go_enter Tryz.func160, Tryz.ntmps160
 go_wp2
 rw [run_callFunc_extern Tryz.func188 (by kernel_rfl) (by kernel_rfl) (by kernel_rfl) (e := Extern.BytealgCompare.compare) (by kernel_rfl), Lib.run_compareString]
 simp only [Result.andThen]
 rw [Oper.upon_value]
 go_wp2
 go_ret
 exact ⟨rfl, rfl⟩
set_option maxHeartbeats 1000000 in
theorem walkCompare (a b : ByteArray) (w : World) :
  Calls Tryz.prog 123 #[.string a, .string b] w fun e w' => e = .returned (.int .i64 (Lib.compareBytes a.data.toList b.data.toList)) ∧ w' = w := by
 have hcon := fun W => walkCompareString a b W
 generalize Lib.compareBytes a.data.toList b.data.toList = r at hcon ⊢
 go_enter Tryz.func123, Tryz.ntmps123
 go_wp2_with (go_at_call 160; refine (hcon _).mono ?_; rintro e w' ⟨rfl, rfl⟩)
 go_ret
 exact ⟨rfl, rfl⟩
end TL

namespace TL
open Go Go.Proofs Go.Shelf Go.RowKit Go.Lib Go.Sort
variable {P : Program} {ρ : Ren}
instance : Inhabited PrR := ⟨⟨[], []⟩⟩
theorem putCells_row {F old tail : List Value} (h : old.length = F.length) : putCells id 0 F.toArray (old ++ tail).toArray = (F ++ tail).toArray := by
 unfold putCells
 apply Array.ext
 ·simp [h]
 ·intro i h1 h2
  simp only [Array.getElem_mapIdx, Nat.zero_le, true_and, Nat.zero_add, List.size_toArray, Nat.sub_zero, id]
  by_cases hi : i < F.length
  ·rw [if_pos hi, getElem!_pos _ i (by simpa using hi)]
   simp only [List.getElem_toArray]
   rw [List.getElem_append_left hi]
  ·rw [if_neg hi]
   simp only [List.getElem_toArray]
   rw [List.getElem_append_right (by omega), List.getElem_append_right (by omega)]
   simp only [h]
theorem flatK_row (l : List PrR) : flatK EncPr.enc 2 l.toArray = (EncPr.row l).toArray := by
 apply Array.ext
 ·rw [size_flatK]; simp [EncPr.row_len]; rfl
 ·intro t h1 h2
  have h1' : t < l.length * 2 := by rw [size_flatK] at h1; simpa using h1
  have hg := get_flatK EncPr.enc 2 l.toArray t (by simpa using h1')
  rw [getElem!_pos _ t h1] at hg
  rw [hg]
  have hi : t / 2 < l.length := by omega
  have hf := EncPr.row_field (i := t / 2) (f := t % 2) (m := 1) [] hi (by show t % 2 + 1 ≤ 2; omega)
  have ht : t / 2 * EncPr.k + t % 2 = t := by show t / 2 * 2 + t % 2 = t; omega
  rw [ht, List.append_nil] at hf
  have hl : t < (EncPr.row l).length := by rw [EncPr.row_len]; exact h1'
  have hl2 : t % 2 < (EncPr.enc l[t / 2]).length := by rw [EncPr.len]; show t % 2 < 2; omega
  rw [take1 hl, take1 hl2] at hf
  have hf : (EncPr.row l)[t] = (EncPr.enc l[t / 2])[t % 2] := by simpa using hf
  simp only [List.getElem_toArray]
  rw [hf]
  have e1 : l.toArray[t / 2]! = l[t / 2] := by rw [getElem!_pos _ _ (by simpa using hi)]; simp
  rw [e1]; exact getElem!_pos (EncPr.enc l[t / 2]) (t % 2) hl2
def cmpP (x y : PrR) : Int := Lib.compareBytes x.p y.p
theorem cmpLt (hc : ∀ a b : List UInt8, Lib.compareBytes a b < 0 ↔ a < b) (x y : PrR) : ltOf cmpP x y = decide (x.p < y.p) := by
 unfold ltOf cmpP
 rw [decide_eq_decide]; exact hc _ _
theorem swoP (hc : ∀ a b : List UInt8, Lib.compareBytes a b < 0 ↔ a < b) : SWO (ltOf cmpP) where
 irrefl x := by rw [cmpLt hc]; exact decide_eq_false (List.lt_irrefl x.p)
 trans x y z h1 h2 := by
  rw [cmpLt hc] at *
  simp only [decide_eq_true_eq] at *
  exact List.lt_trans h1 h2
 ntrans x y z h1 h2 := by
  rw [cmpLt hc] at *
  simp only [decide_eq_false_iff_not] at *
  intro h3
  by_cases e : x.p = y.p
  ·rw [e] at h3; exact h2 h3
  ·have := lt_of_not h1 e
   by_cases e2 : z.p < y.p
   ·exact h1 (List.lt_trans h3 e2)
   ·by_cases e3 : z.p = y.p
    ·rw [e3] at h3; exact h1 h3
    ·exact h2 (lt_of_not e2 e3)
theorem sort_frm {h : PH} {w : World} (hi : h.In w) {b : Nat} {l l' : List PrR} {tail : List Value} {T : TypeId} (hb : h b = some (.cells (EncPr.row l ++ tail).toArray T (0, 0))) (hl : l'.length = l.length) (m : Nat) (os : Array Obj) :
  Frm h w (h.upd b (.cells (EncPr.row l' ++ tail).toArray T (0, 0))) (sortWorldK EncPr.enc 2 w b 0 m l'.toArray os) := by
 have hw := hi _ _ hb
 have hheap : (sortWorldK EncPr.enc 2 w b 0 m l'.toArray os).heap = w.heap.modify b (onCells (putCells id 0 (flatK EncPr.enc 2 l'.toArray))) ++ os := rfl
 have hlt := hi.lt hb
 have hcell : (w.heap.modify b (onCells (putCells id 0 (flatK EncPr.enc 2 l'.toArray))))[b]? = some (.cells (EncPr.row l' ++ tail).toArray T (0, 0)) := by
  rw [Array.getElem?_modify, if_pos rfl, hw, Option.map_some]
  show some (Obj.cells (putCells id 0 (flatK EncPr.enc 2 l'.toArray) (EncPr.row l ++ tail).toArray) T (0, 0)) = _
  rw [flatK_row, putCells_row (by rw [EncPr.row_len, EncPr.row_len, hl])]
 have hold : ∀ x, x ≠ b → (w.heap.modify b (onCells (putCells id 0 (flatK EncPr.enc 2 l'.toArray))))[x]? = w.heap[x]? := fun x hx => by
  rw [Array.getElem?_modify, if_neg (fun e => hx e.symm)]
 have happ : ∀ x, x < w.heap.size → (sortWorldK EncPr.enc 2 w b 0 m l'.toArray os).heap[x]? = (w.heap.modify b (onCells (putCells id 0 (flatK EncPr.enc 2 l'.toArray))))[x]? := fun x hx => by
  rw [hheap, Array.getElem?_append_left (by rw [Array.size_modify]; exact hx)]
 refine ⟨fun x o e => ?_, ?_, fun x hx e => ⟨?_, ?_⟩, rfl, rfl⟩
 ·by_cases hxb : x = b
  ·subst hxb
   rw [PH.upd_same] at e; cases e
   rw [happ _ hlt, hcell]
  ·rw [PH.upd_ne _ _ hxb] at e
   rw [happ _ (hi.lt e), hold x hxb, hi _ _ e]
 ·rw [hheap, Array.size_append, Array.size_modify]; omega
 ·rw [PH.upd_ne _ _ (fun hxb => by subst hxb; rw [hb] at e; cases e)]; exact e
 ·rw [happ _ hx, hold x (fun hxb => by subst hxb; rw [hb] at e; cases e)]
end TL

namespace TL
open Go Go.Proofs Go.Shelf Go.RowKit Go.Lib Go.Sort
variable {P : Program} {ρ : Ren}
theorem holds_row {h : PH} {w : World} (hi : h.In w) {b : Nat} {l : List PrR} {tail : List Value} {T : TypeId} (hb : h b = some (.cells (EncPr.row l ++ tail).toArray T (0, 0))) : HoldsK EncPr.enc 2 w b 0 l.toArray := by
 intro j hj
 rw [size_flatK] at hj
 have hw := hi _ _ hb
 have hlen : (EncPr.row l).length = l.length * 2 := EncPr.row_len l
 have hj2 : j < (EncPr.row l).length := by rw [hlen]; simpa using hj
 refine ⟨?_, ?_⟩
 ·rw [flatK_row, getElem!_pos _ j (by simpa using hj2)]
  simp only [World.cell?, hw, Nat.zero_add, id, List.getElem_toArray]
  rw [List.getElem?_toArray, List.getElem?_append_left hj2, List.getElem?_eq_getElem hj2]
  rfl
 ·simp [World.frozen?, hw]
theorem ext_all {d d' : Array PrR} (h : PermIn 0 d.size d d') : d'.toList.Perm d.toList ∧ d'.size = d.size := by
 obtain ⟨h1, _, h2⟩ := h
 have e1 : d.extract 0 d.size = d := by simp
 have e2 : d'.extract 0 d.size = d' := by rw [← h1]; simp
 rw [e1, e2] at h2
 exact ⟨h2, h1⟩
theorem cmp_iff : ∀ a b : List UInt8, Lib.compareBytes a b < 0 ↔ a < b
 | [], [] => by simp [Lib.compareBytes]
 | [], _ :: _ => by simp [Lib.compareBytes]
 | _ :: _, [] => by simp [Lib.compareBytes]
 | x :: a, y :: b => by
  have ih := cmp_iff a b
  unfold Lib.compareBytes
  simp only [List.cons_lt_cons_iff]
  by_cases h1 : x < y
  ·simp [h1]
  ·by_cases h2 : y < x
   ·have : x ≠ y := fun e => by subst e; exact h1 h2
    simp [h1, h2, this]
   ·have : x = y := by
     rcases UInt8.lt_or_eq_of_le (UInt8.not_lt.1 h2) with h | h
     ·exact absurd h h1
     ·exact h
    subst this
    simp [ih]
theorem cSortPr (L : SlLaysF0.n6 P ρ) (aE : ∀ w, (isAgg (ρ.t 24)).run P w = .ok true w) (zE : ∀ w, (Go.sizeOf (ρ.t 24)).run P w = .ok 2 w) (g : Nat) (eg : ∀ args w, (callFunc g args).run P w = .ok (.enter g args) w)
  (hless : ∀ (a0 a1 b0 b1 : ByteArray) (w : World), Calls P g #[.agg #[.string a0, .string a1], .agg #[.string b0, .string b1]] w fun e w' => e = .returned (.int .i64 (Lib.compareBytes a0.data.toList b0.data.toList)) ∧ ∃ q os', w' = grow (w.drewN q) os')
  {B : List Nat} {h : PH} {K : Value → PH → Prop} {a : Option Addr} {n c : Nat} {l : List PrR} {T : TypeId} (x : Buf EncPr T B h a n c l) (hn : l.length ≤ 1000000)
  (hk : ∀ l' h', l'.Perm l → (l'.Pairwise fun a b => ¬ b.p < a.p) → Buf EncPr T B h' a n c l' → Chg B B h h' → K (.tuple #[]) h') : CallH P (ρ.f 6) [.slice a n c, .func (.func g) #[] #[]] K h := by
 intro w hi
 have hnl := x.1
 by_cases h0 : l = []
 ·subst h0
  have hn0 : n = 0 := hnl
  subst hn0
  refine Calls.mono (AnyF.slices_SortFunc_none L a c (.func (.func g) #[] #[]) w) ?_
  rintro e w' ⟨rfl, rfl⟩
  exact ⟨_, h, rfl, hk [] h (List.Perm.refl _) List.Pairwise.nil x (Chg.refl _ _), Frm.refl hi⟩
 ·have hx := x
  obtain ⟨_, ⟨_, _, e⟩ | ⟨b, tail, rfl, rfl, hb, ht, hle⟩⟩ := x
  ·exact absurd e h0
  have hc : CmpLays P g #[] EncPr.enc 2 cmpP b 0 l.toArray.size w := fun m os dk _ x y => hless _ _ _ _ _
  have hS := AnyQ.slices_SortFunc L 2 aE zE EncPr.enc (fun _ => rfl) (fun x v hv => by
   simp only [EncPr, List.mem_cons, List.not_mem_nil, or_false] at hv
   rcases hv with rfl | rfl <;> rfl) cmpP (swoP cmp_iff) g #[] b 0 c l.toArray w eg hc (holds_row hi hb) (hi.lt hb) (by simp; omega)
  have hsz : l.toArray.size = n := by simp [hnl]
  rw [hsz] at hS
  refine Calls.mono hS ?_
  rintro e w' ⟨rfl, d', m, os, hp, hs, rfl⟩
  rw [← hsz] at hp hs
  obtain ⟨hp1, hp2⟩ := ext_all hp
  have hl' : d'.toList.length = l.length := by rw [Array.length_toList, hp2]; simp
  have hfrm := sort_frm hi hb hl' m os
  rw [Array.toArray_toList] at hfrm
  refine ⟨_, _, rfl, hk d'.toList _ (by simpa using hp1) ?_ ⟨by rw [hl']; exact hnl, .inr ⟨b, tail, rfl, rfl, PH.upd_same _ _ _, ht, hle⟩⟩ (Chg.upd _), hfrm⟩
  rw [List.pairwise_iff_getElem]
  intro i j hi' hj' hij
  have := hs i j (Nat.zero_le _) hij (by rw [← hp2]; simpa using hj')
  rw [cmpLt cmp_iff, getElem!_pos d' j (by simpa using hj'), getElem!_pos d' i (by simpa using hi')] at this
  simpa using this
end TL

namespace Go.Proofs
open Go.Shelf
def Tryz.srtA_ren : Go.Shelf.Ren := ⟨fun | 6 => 121 | 15 => 159 | 14 => 158 | 28 => 186 | 29 => 187 | 20 => 178 | 21 => 179 | 22 => 180 | 23 => 181 | 24 => 182 | 25 => 183 | 26 => 184 | 27 => 185 | 46 => 210 | 47 => 211 | 48 => 212 | 49 => 213 | 50 => 214 | 57 => 225 | n => n, fun | 22 => 27 | 24 => 101 | 25 => 201 | 3 => 3 | 39 => 49 | 0 => 0 | 53 => 239 | 55 => 232 | 4 => 4 | 46 => 257 | 45 => 256 | 50 => 157 | 5 => 5 | 9 => 9 | 66 => 280 | 70 => 284 | 76 => 293 | 77 => 294 | n => n, fun | n => n⟩
theorem Tryz.srtA : Go.Proofs.SlLaysF0.n6 Tryz.prog Tryz.srtA_ren := {
 mixed := by kernel_rfl
 f6 := ⟨Tryz.f121.name, by decide, Tryz.func121.trans (congrArg some (by kernel_rfl))⟩
 f14 := ⟨Tryz.f158.name, by decide, Tryz.func158.trans (congrArg some (by kernel_rfl))⟩
 f15 := Tryz.func159.trans (congrArg some (by kernel_rfl))
 f20 := ⟨Tryz.f178.name, by decide, Tryz.func178.trans (congrArg some (by kernel_rfl))⟩
 f21 := ⟨Tryz.f179.name, by decide, Tryz.func179.trans (congrArg some (by kernel_rfl))⟩
 f22 := ⟨Tryz.f180.name, by decide, Tryz.func180.trans (congrArg some (by kernel_rfl))⟩
 f23 := ⟨Tryz.f181.name, by decide, Tryz.func181.trans (congrArg some (by kernel_rfl))⟩
 f24 := ⟨Tryz.f182.name, by decide, Tryz.func182.trans (congrArg some (by kernel_rfl))⟩
 f25 := ⟨Tryz.f183.name, by decide, Tryz.func183.trans (congrArg some (by kernel_rfl))⟩
 f26 := ⟨Tryz.f184.name, by decide, Tryz.func184.trans (congrArg some (by kernel_rfl))⟩
 f27 := ⟨Tryz.f185.name, by decide, Tryz.func185.trans (congrArg some (by kernel_rfl))⟩
 f28 := Tryz.func186.trans (congrArg some (by kernel_rfl))
 f29 := Tryz.func187.trans (congrArg some (by kernel_rfl))
 f46 := ⟨Tryz.f210.name, by decide, Tryz.func210.trans (congrArg some (by kernel_rfl))⟩
 f47 := Tryz.func211.trans (congrArg some (by kernel_rfl))
 f48 := Tryz.func212.trans (congrArg some (by kernel_rfl))
 f49 := ⟨Tryz.f213.name, by decide, Tryz.func213.trans (congrArg some (by kernel_rfl))⟩
 f50 := ⟨Tryz.f214.name, by decide, Tryz.func214.trans (congrArg some (by kernel_rfl))⟩
 f57 := ⟨Tryz.f225.name, by decide, Tryz.func225.trans (congrArg some (by kernel_rfl))⟩
 t0 := Tryz.underlying0
 a0 := Tryz.isAgg0
 z0 := Tryz.sizeOf0
 v0 := Tryz.zeroValue0
 t3 := Tryz.underlying3
 a3 := Tryz.isAgg3
 z3 := Tryz.sizeOf3
 v3 := Tryz.zeroValue3
 t4 := Tryz.underlying4
 a4 := Tryz.isAgg4
 z4 := Tryz.sizeOf4
 v4 := Tryz.zeroValue4
 t5 := Tryz.underlying5
 a5 := Tryz.isAgg5
 z5 := Tryz.sizeOf5
 v5 := Tryz.zeroValue5
 t9 := Tryz.underlying9
 a9 := Tryz.isAgg9
 z9 := Tryz.sizeOf9
 v9 := Tryz.zeroValue9
 t22 := Tryz.underlying27
 a22 := Tryz.isAgg27
 z22 := Tryz.sizeOf27
 v22 := Tryz.zeroValue27
 t25 := Tryz.underlying201
 a25 := Tryz.isAgg201
 z25 := Tryz.sizeOf201
 v25 := Tryz.zeroValue201
 t39 := Tryz.underlying49
 a39 := Tryz.isAgg49
 z39 := Tryz.sizeOf49
 v39 := Tryz.zeroValue49
 t45 := Tryz.underlying256
 a45 := Tryz.isAgg256
 z45 := Tryz.sizeOf256
 v45 := Tryz.zeroValue256
 t46 := Tryz.underlying257
 a46 := Tryz.isAgg257
 z46 := Tryz.sizeOf257
 v46 := Tryz.zeroValue257
 t50 := Tryz.underlying157
 a50 := Tryz.isAgg157
 z50 := Tryz.sizeOf157
 v50 := Tryz.zeroValue157
 t53 := Tryz.underlying239
 a53 := Tryz.isAgg239
 z53 := Tryz.sizeOf239
 v53 := Tryz.zeroValue239
 t55 := Tryz.underlying232
 a55 := Tryz.isAgg232
 z55 := Tryz.sizeOf232
 v55 := Tryz.zeroValue232
 t66 := Tryz.underlying280
 a66 := Tryz.isAgg280
 z66 := Tryz.sizeOf280
 v66 := Tryz.zeroValue280
 t70 := Tryz.underlying284
 a70 := Tryz.isAgg284
 z70 := Tryz.sizeOf284
 v70 := Tryz.zeroValue284
 t76 := Tryz.underlying293
 a76 := Tryz.isAgg293
 z76 := Tryz.sizeOf293
 v76 := Tryz.zeroValue293
 t77 := Tryz.underlying294
 a77 := Tryz.isAgg294
 z77 := Tryz.sizeOf294
 v77 := Tryz.zeroValue294}
end Go.Proofs

namespace TL
open Go Go.Proofs
variable {B : List Nat} {h : PH} {K : Value → PH → Prop} {a : Option Addr} {n c : Nat} {l : List PrR}
end TL

namespace TL
open Go Go.Proofs
variable {B : List Nat} {h : PH} {K : Value → PH → Prop} {s p q k : List UInt8}
theorem cRNamed (hk : K (.bool (namedB s)) h) : CallH Tryz.prog id_ref11_Named [.string (mk s)] K h := by
 refine F_ref11_Named_ok ?_
 unfold F_ref11_Named
 rw [size_mk]
 refine ⟨fun e => ?_, fun e => ?_⟩
 ·have : namedB s = false := by
   simp only [Bool.or_eq_true, decide_eq_true_eq] at e
   cases hn : namedB s with
   | false => rfl
   | true =>
    simp only [namedB, Bool.and_eq_true, decide_eq_true_eq] at hn
    omega
  rw [this] at hk; exact hk
 ·simp only [Bool.or_eq_false_iff, decide_eq_false_iff_not] at e
  refine LoopP.ind (fun (z : Int × Unit) h' => h' = h ∧ (0 ≤ z.1 ∧ z.1 ≤ s.length) ∧ (s.take z.1.toNat).all (fun b => decide (97 ≤ b.toNat) && decide (b.toNat ≤ 122)) = true) (fun z _ => (s.length - z.1).toNat) ?_ ⟨rfl, ⟨by decide, by show (0 : Int) ≤ _; omega⟩, by simp⟩
  rintro ⟨i, u⟩ h1 ⟨rfl, ⟨i0, i1⟩, ha⟩
  dsimp only at i0 i1 ha ⊢
  refine ⟨fun e => ?_, fun e => ?_⟩
  ·have e : i < s.length := by simpa using e
   have hit : i.toNat < s.length := by omega
   have hb : byteAt (mk s) i = ((s[i.toNat]).toNat : Int) := by rw [byteAt_mk]; simp [List.getD, hit]
   rw [hb]
   refine ⟨⟨i0, e⟩, fun _ => ⟨i0, e⟩, fun e2 => ?_, fun e2 => ?_⟩
   ·have : namedB s = false := by
     have hm := List.getElem_mem hit
     simp only [Bool.or_eq_true, decide_eq_true_eq] at e2
     cases hn : namedB s with
     | false => rfl
     | true =>
      simp only [namedB, Bool.and_eq_true, List.all_eq_true, decide_eq_true_eq] at hn
      have := hn.1 _ hm
      omega
    rw [this] at hk; exact hk
   ·simp only [Bool.or_eq_false_iff, decide_eq_false_iff_not] at e2
    rw [wrap64 (n := i + 1) (by omega) (by omega)]
    refine ⟨⟨rfl, ⟨by omega, by omega⟩, ?_⟩, by omega⟩
    rw [show (i + 1).toNat = i.toNat + 1 by omega, List.take_succ_eq_append_getElem hit, List.all_append, ha]
    simp; omega
  ·have e' : i = s.length := by simp at e; omega
   rw [e'] at ha
   simp only [Int.toNat_natCast, List.take_length] at ha
   have : namedB s = true := by
    unfold namedB; rw [ha]; simp; omega
   rw [this] at hk; exact hk
theorem cRKey (hk : K (.bool (keyB s)) h) : CallH Tryz.prog id_ref11_Key [.string (mk s)] K h := by
 refine F_ref11_Key_ok ?_
 unfold F_ref11_Key
 rw [size_mk]
 refine ⟨fun e => ?_, fun e => ?_⟩
 ·have : keyB s = false := by
   simp only [Bool.or_eq_true, decide_eq_true_eq] at e
   cases hn : keyB s with
   | false => rfl
   | true =>
    simp only [keyB, Bool.and_eq_true, decide_eq_true_eq] at hn
    omega
  rw [this] at hk; exact hk
 ·simp only [Bool.or_eq_false_iff, decide_eq_false_iff_not] at e
  refine LoopP.ind (fun (z : Int × Unit) h' => h' = h ∧ (0 ≤ z.1 ∧ z.1 ≤ s.length) ∧ (0 : UInt8) ∉ s.take z.1.toNat ∧ (47 : UInt8) ∉ s.take z.1.toNat) (fun z _ => (s.length - z.1).toNat) ?_ ⟨rfl, ⟨by decide, by show (0 : Int) ≤ _; omega⟩, by simp, by simp⟩
  rintro ⟨i, u⟩ h1 ⟨rfl, ⟨i0, i1⟩, ha, hb'⟩
  dsimp only at i0 i1 ha hb' ⊢
  refine ⟨fun e => ?_, fun e => ?_⟩
  ·have e : i < s.length := by simpa using e
   have hit : i.toNat < s.length := by omega
   have hb : byteAt (mk s) i = ((s[i.toNat]).toNat : Int) := by rw [byteAt_mk]; simp [List.getD, hit]
   rw [hb]
   refine ⟨⟨i0, e⟩, fun _ => ⟨i0, e⟩, fun e2 => ?_, fun e2 => ?_⟩
   ·have : keyB s = false := by
     have hm := List.getElem_mem hit
     simp only [Bool.or_eq_true, beq_iff_eq] at e2
     cases hn : keyB s with
     | false => rfl
     | true =>
      simp only [keyB, Bool.and_eq_true, decide_eq_true_eq] at hn
      exfalso
      rcases e2 with e2 | e2
      ·exact hn.2.1 (by rw [show (0 : UInt8) = s[i.toNat] from UInt8.toNat_inj.1 (by show 0 = _; omega)]; exact hm)
      ·exact hn.2.2 (by rw [show (47 : UInt8) = s[i.toNat] from UInt8.toNat_inj.1 (by show 47 = _; omega)]; exact hm)
    rw [this] at hk; exact hk
   ·simp only [Bool.or_eq_false_iff, beq_eq_false_iff_ne] at e2
    rw [wrap64 (n := i + 1) (by omega) (by omega)]
    refine ⟨⟨rfl, ⟨by omega, by omega⟩, ?_, ?_⟩, by omega⟩
    ·rw [show (i + 1).toNat = i.toNat + 1 by omega, List.take_succ_eq_append_getElem hit]
     intro hm
     rcases List.mem_append.1 hm with hm | hm
     ·exact ha hm
     ·rw [List.mem_singleton] at hm
      exact e2.1 (by rw [← hm]; rfl)
    ·rw [show (i + 1).toNat = i.toNat + 1 by omega, List.take_succ_eq_append_getElem hit]
     intro hm
     rcases List.mem_append.1 hm with hm | hm
     ·exact hb' hm
     ·rw [List.mem_singleton] at hm
      exact e2.2 (by rw [← hm]; rfl)
  ·have e' : i = s.length := by simp at e; omega
   rw [e'] at ha hb'
   simp only [Int.toNat_natCast, List.take_length] at ha hb'
   have : keyB s = true := by
    unfold keyB; simp [ha, hb']; omega
   rw [this] at hk; exact hk
theorem cRCut (hs : p.length ≤ 4611686018427387904) (hk : K (.tuple #[.string (mk (cutV p).1), .string (mk (cutV p).2.1), .bool (cutV p).2.2]) h) : CallH Tryz.prog id_ref11_Cut [.string (mk p)] K h := by
 refine F_ref11_Cut_ok (LoopP.ind (fun (z : Int × Unit) h' => h' = h ∧ (0 ≤ z.1 ∧ z.1 ≤ p.length) ∧ (47 : UInt8) ∉ p.take z.1.toNat) (fun z _ => (p.length - z.1).toNat) ?_ ⟨rfl, ⟨by decide, by show (0 : Int) ≤ _; omega⟩, by simp⟩)
 rintro ⟨i, u⟩ h1 ⟨rfl, ⟨i0, i1⟩, ha⟩
 dsimp only at i0 i1 ha ⊢
 rw [size_mk]
 refine ⟨fun e => ?_, fun e => ?_⟩
 ·have e : i < p.length := by simpa using e
  have hit : i.toNat < p.length := by omega
  have hb : byteAt (mk p) i = ((p[i.toNat]).toNat : Int) := by rw [byteAt_mk]; simp [List.getD, hit]
  rw [hb, wrap64 (n := i + 1) (by omega) (by omega)]
  refine ⟨⟨i0, e⟩, fun e2 => ⟨⟨by omega, by omega, by omega⟩, ?_⟩, fun e2 => ?_⟩
  ·have hc : p[i.toNat] = 47 := UInt8.toNat_inj.1 (by simp only [beq_iff_eq] at e2; show _ = 47; omega)
   have hsp : p = p.take i.toNat ++ 47 :: p.drop (i.toNat + 1) := by rw [← hc, ← List.drop_eq_getElem_cons hit, List.take_append_drop]
   have e1 : subS (mk p) 0 i = mk (p.take i.toNat) := by rw [subS_mk]; simp
   have e3 : subS (mk p) (i + 1) ((p.length : Nat) : Int) = mk (p.drop (i.toNat + 1)) := by
    rw [subS_mk, show (i + 1).toNat = i.toNat + 1 by omega, List.take_of_length_le (by rw [List.length_drop]; omega)]
   have hval : ∀ m k, cutB p = some (m, k) → m = p.take i.toNat ∧ k = p.drop (i.toNat + 1) := fun m k hmk => by
    obtain ⟨h1, h2, h3⟩ := cut_iff.1 hmk
    have ht1 := take_of (k := k) (named_no h2)
    have ht2 := take_of (m := p.take i.toNat) (k := p.drop (i.toNat + 1)) ha
    rw [← h1] at ht1
    rw [← hsp] at ht2
    rw [ht1] at ht2
    refine ⟨ht2, ?_⟩
    have h4 := h1.symm.trans hsp
    rw [ht2] at h4
    have := List.append_cancel_left h4
    injection this
   rw [e1, e3]
   refine cRNamed ⟨_, rfl, fun _ => ⟨by omega, by omega, by omega⟩, fun e4 => cRKey ⟨_, rfl, fun e5 => ⟨⟨by omega, by omega, by omega⟩, ⟨by omega, by omega, by omega⟩, ?_⟩, fun e5 => ?_⟩, fun e4 => ?_⟩
   ·have : cutB p = some (p.take i.toNat, p.drop (i.toNat + 1)) := cut_iff.2 ⟨hsp, e4, e5⟩
    rw [cut_some this] at hk; exact hk
   ·have : cutB p = none := by
     cases hc : cutB p with
     | none => rfl
     | some x =>
      obtain ⟨h1, h2⟩ := hval x.1 x.2 hc
      have := ((cut_iff (p := p) (m := x.1) (k := x.2)).1 hc).2.2
      rw [h2, e5] at this; cases this
    rw [cut_none this] at hk; exact hk
   ·have : cutB p = none := by
     cases hc : cutB p with
     | none => rfl
     | some x =>
      obtain ⟨h1, h2⟩ := hval x.1 x.2 hc
      have := ((cut_iff (p := p) (m := x.1) (k := x.2)).1 hc).2.1
      rw [h1, e4] at this; cases this
    rw [cut_none this] at hk; exact hk
  ·refine ⟨⟨rfl, ⟨by omega, by omega⟩, ?_⟩, by omega⟩
   rw [show (i + 1).toNat = i.toNat + 1 by omega, List.take_succ_eq_append_getElem hit]
   intro hm
   rcases List.mem_append.1 hm with hm | hm
   ·exact ha hm
   ·rw [List.mem_singleton] at hm
    rw [← hm] at e2; exact absurd e2 (by decide)
 ·have e' : i = p.length := by simp at e; omega
  rw [e'] at ha
  simp only [Int.toNat_natCast, List.take_length] at ha
  have : cutB p = none := by unfold cutB; rw [if_neg ha]
  rw [cut_none this] at hk; exact hk
open Go Go.Proofs
variable {B : List Nat} {h : PH} {K : Value → PH → Prop} {s p q k : List UInt8}
variable {x : Option Addr} {S : List PrR}
theorem lt_pre : ∀ (c a b : List UInt8), (c ++ a < c ++ b) ↔ a < b
 | [], _, _ => Iff.rfl
 | x :: c, a, b => by
  rw [List.cons_append, List.cons_append, List.cons_lt_cons_iff]
  constructor
  ·rintro (h | ⟨_, h⟩)
   ·exact absurd h (by simp)
   ·exact (lt_pre c a b).1 h
  ·intro h; exact .inr ⟨rfl, (lt_pre c a b).2 h⟩
theorem cLess {a b : List UInt8} (ha : a.length ≤ 4611686018427387904) (hk : K (.bool (decide (a < b))) h) : CallH Tryz.prog id_ref11_Less [.string (mk a), .string (mk b)] K h := by
 refine F_ref11_Less_ok (LoopP.ind (fun (z : Int × Unit) h' => ∃ i : Nat, z.1 = (i : Int) ∧ i ≤ a.length ∧ i ≤ b.length ∧ a.take i = b.take i ∧ h' = h) (fun z _ => (a.length - z.1).toNat) ?_ ⟨0, rfl, Nat.zero_le _, Nat.zero_le _, by simp, rfl⟩)
 rintro ⟨_, u⟩ h ⟨i, rfl, hi, hib, heq, rfl⟩
 dsimp only
 rw [size_mk, size_mk]
 refine ⟨fun e => ?_, fun e => ?_⟩
 ·have e : i < a.length ∧ i < b.length := by simpa using e
  have hba : byteAt (mk a) (i : Int) = (a[i].toNat : Int) := by rw [byteAt_mk]; simp [List.getD, e.1]
  have hbb : byteAt (mk b) (i : Int) = (b[i].toNat : Int) := by rw [byteAt_mk]; simp [List.getD, e.2]
  rw [hba, hbb]
  refine ⟨⟨by omega, by omega⟩, ⟨by omega, by omega⟩, fun e2 => ⟨⟨by omega, by omega⟩, ⟨by omega, by omega⟩, ?_⟩, fun e2 => ?_⟩
  ·have e2 : a[i].toNat ≠ b[i].toNat := by
    intro hh; rw [hh] at e2; simp at e2
   have hne : a[i] ≠ b[i] := fun hh => e2 (by rw [hh])
   have : (a < b) ↔ a[i] < b[i] := by
    have h1 : a = a.take i ++ a[i] :: a.drop (i + 1) := by rw [← List.drop_eq_getElem_cons e.1, List.take_append_drop]
    have h2 : b = a.take i ++ b[i] :: b.drop (i + 1) := by rw [heq, ← List.drop_eq_getElem_cons e.2, List.take_append_drop]
    have h3 : (a < b) ↔ (a.take i ++ a[i] :: a.drop (i + 1) < a.take i ++ b[i] :: b.drop (i + 1)) := by rw [← h1, ← h2]
    rw [h3, lt_pre, List.cons_lt_cons_iff]
    exact ⟨fun h => h.resolve_right fun h => hne h.1, .inl⟩
   have h4 : decide ((a[i].toNat : Int) < (b[i].toNat : Int)) = decide (a < b) := by
    rw [decide_eq_decide, this, UInt8.lt_iff_toNat_lt]; omega
   rw [h4]; exact hk
  ·have e2 : a[i].toNat = b[i].toNat := by
    have : ((a[i].toNat : Int)) = (b[i].toNat : Int) := by simpa using e2
    omega
   have e2 : a[i] = b[i] := UInt8.toNat_inj.1 e2
   rw [wrap64 (n := (i : Int) + 1) (by omega) (by omega)]
   refine ⟨⟨i + 1, rfl, by omega, by omega, ?_, rfl⟩, by omega⟩
   rw [List.take_succ_eq_append_getElem e.1, List.take_succ_eq_append_getElem e.2, heq, e2]
 ·have e : ¬ (i < a.length ∧ i < b.length) := by
   intro hh
   have : (decide ((i : Int) < (a.length : Int)) && decide ((i : Int) < (b.length : Int))) = true := by simp; omega
   rw [this] at e; cases e
  have : (a < b) ↔ a.length < b.length := by
   by_cases hia : i = a.length
   ·subst hia
    rw [List.take_length] at heq
    have h2 : b = a ++ b.drop a.length := by conv => lhs; rw [← List.take_append_drop a.length b, ← heq]
    constructor
    ·intro hlt
     rw [h2] at hlt
     have h5 : (a ++ [] < a ++ b.drop a.length) := by simpa using hlt
     rw [lt_pre] at h5
     cases hd : b.drop a.length with
     | nil => rw [hd] at h5; exact absurd h5 (List.lt_irrefl _)
     | cons y r =>
      have := congrArg List.length hd
      simp at this; omega
    ·intro hlt
     have h5 : (a ++ [] < a ++ b.drop a.length) := by
      rw [lt_pre]
      cases hd : b.drop a.length with
      | nil => have := congrArg List.length hd; simp at this; omega
      | cons y r => exact List.nil_lt_cons _ _
     rw [← h2] at h5
     simpa using h5
   ·have hib2 : i = b.length := by omega
    subst hib2
    rw [List.take_length] at heq
    have h2 : a = b ++ a.drop b.length := by conv => lhs; rw [← List.take_append_drop b.length a, heq]
    constructor
    ·intro hlt
     rw [h2] at hlt
     have h5 : (b ++ a.drop b.length < b ++ []) := by simpa using hlt
     rw [lt_pre] at h5
     exact absurd h5 (List.not_lt_nil _)
    ·intro hlt; omega
  have h4 : decide ((a.length : Int) < (b.length : Int)) = decide (a < b) := by
   rw [decide_eq_decide, this]; omega
  rw [h4]; exact hk
def pos : List PrR → List UInt8 → Nat
 | [], _ => 0
 | x :: r, p => if x.p < p then pos r p + 1 else 0
variable {mA : Option Addr} {mC : Nat} {v : List UInt8}
structure RfAt (h : PH) (a : Option Addr) (c : Nat) (S : List PrR) : Prop where
 sr : SR EncPr h a S
 le : S.length ≤ c
 up : Up S
 n : S.length ≤ 1000
 p : ∀ x ∈ S, x.p.length ≤ 1000000
theorem RfAt.sub {g : PH} (x : RfAt h mA mC S) (s : h.Sub g) : RfAt g mA mC S := ⟨x.sr.sub s, x.le, x.up, x.n, x.p⟩
end TL

namespace TL
open Go
structure Spl (g : PH) (N : List Nat) (h : PH) : Prop where
 sub : g.Sub h
 av : ∀ b ∈ N, g b = none
 has : TL.Has N h
structure Stp (g : PH) (N : List Nat) (h : PH) (g' : PH) (N' : List Nat) (h' : PH) : Prop where
 chg : Chg N N' h h'
 gs : g.Sub g'
 gn : ∀ b, b ∉ N → (∃ o, h b = some o) → g b = none → g' b = none
 spl : Spl g' N' h'
variable {g g' g'' h h' h'' : PH} {N N' N'' M M' B : List Nat}
theorem PH.Sub.rf (h : PH) : h.Sub h := fun _ _ e => e
theorem Stp.refl (s : Spl g N h) : Stp g N h g N h := ⟨Chg.refl _ _, PH.Sub.rf _, fun _ _ _ e => e, s⟩
theorem Stp.trans (x : Stp g N h g' N' h') (y : Stp g' N' h' g'' N'' h'') : Stp g N h g'' N'' h'' := by
 refine ⟨x.chg.trans y.chg, x.gs.tr y.gs, fun b hb hh hg => ?_, y.spl⟩
 obtain ⟨o, ho⟩ := hh
 refine y.gn b (fun hm => ?_) ⟨o, x.chg.keep ho hb⟩ (x.gn b hb ⟨o, ho⟩ hg)
 rcases x.chg.2 b hm with h1 | h1
 ·exact hb h1
 ·rw [ho] at h1; cases h1
theorem Spl.chg (s : Spl g N h) (c : Chg N N' h h') (hh : Has N' h') : Stp g N h g N' h' := by
 refine ⟨c, PH.Sub.rf _, fun _ _ _ e => e, fun b o e => c.1 b o (fun hb => by rw [s.av b hb] at e; cases e) (s.sub b o e), fun b hb => ?_, hh⟩
 rcases c.2 b hb with h1 | h1
 ·exact s.av b h1
 ·cases e : g b with
  | none => rfl
  | some o => rw [s.sub b o e] at h1; cases h1
def PH.plus (g h : PH) (B : List Nat) : PH := fun b => if b ∈ B then h b else g b
theorem plus_in {b : Nat} (hb : b ∈ B) : PH.plus g h B b = h b := by simp [PH.plus, hb]
theorem plus_out {b : Nat} (hb : b ∉ B) : PH.plus g h B b = g b := by simp [PH.plus, hb]
theorem Spl.new (s : Spl g N h) (c : Chg [] B h h') : Stp g N h (PH.plus g h' B) N h' := by
 have hn : ∀ b ∈ B, h b = none := fun b hb => by
  rcases c.2 b hb with h1 | h1
  ·cases h1
  ·exact h1
 have hg : ∀ b ∈ B, g b = none := fun b hb => by
  cases e : g b with
  | none => rfl
  | some o => rw [← s.sub b o e, hn b hb]
 have nB : ∀ b ∈ N, b ∉ B := fun b hb hm => by
  obtain ⟨o, ho⟩ := s.has b hb
  rw [hn b hm] at ho; cases ho
 refine ⟨(c.sub0 |> fun z => ⟨fun b o _ e => z b o e, fun b hb => .inl hb⟩), fun b o e => ?_, fun b _ hh e => ?_, fun b o e => ?_, fun b hb => ?_, fun b hb => ?_⟩
 ·by_cases hb : b ∈ B
  ·rw [hg b hb] at e; cases e
  ·rw [plus_out hb]; exact e
 ·by_cases hb : b ∈ B
  ·obtain ⟨o, ho⟩ := hh; rw [hn b hb] at ho; cases ho
  ·rw [plus_out hb]; exact e
 ·by_cases hb : b ∈ B
  ·rw [plus_in hb] at e; exact e
  ·rw [plus_out hb] at e; exact c.sub0 b o (s.sub b o e)
 ·rw [plus_out (nB b hb)]; exact s.av b hb
 ·obtain ⟨o, ho⟩ := s.has b hb
  exact ⟨o, c.sub0 b o ho⟩
theorem Spl.grow (s : Spl g N h) (hs : h.Sub h') : Stp g N h g N h' :=
 ⟨⟨fun b o _ e => hs b o e, fun _ hb => .inl hb⟩, PH.Sub.rf _, fun _ _ _ e => e, s.sub.tr hs, s.av, fun b hb => by obtain ⟨o, ho⟩ := s.has b hb; exact ⟨o, hs b o ho⟩⟩
theorem Spl.own (s : Spl g N h) (c : Chg [] B h h') (hh : Has B h') : Stp g N h g (B ++ N) h' := by
 refine ⟨⟨fun b o _ e => c.sub0 b o e, fun b hb => ?_⟩, PH.Sub.rf _, fun _ _ _ e => e, s.sub.tr c.sub0, fun b hb => ?_, fun b hb => ?_⟩
 ·rcases List.mem_append.1 hb with hb | hb
  ·rcases c.2 b hb with h1 | h1
   ·cases h1
   ·exact .inr h1
  ·exact .inl hb
 ·rcases List.mem_append.1 hb with hb | hb
  ·cases e : g b with
   | none => rfl
   | some o =>
    rcases c.2 b hb with h1 | h1
    ·cases h1
    ·rw [s.sub b o e] at h1; cases h1
  ·exact s.av b hb
 ·rcases List.mem_append.1 hb with hb | hb
  ·exact hh b hb
  ·obtain ⟨o, ho⟩ := s.has b hb; exact ⟨o, c.sub0 b o ho⟩
theorem Spl.left (s : Spl g (N ++ M) h) : Spl g N h := ⟨s.sub, fun b hb => s.av b (List.mem_append_left _ hb), fun b hb => s.has b (List.mem_append_left _ hb)⟩
theorem Spl.right (s : Spl g (N ++ M) h) : Spl g M h := ⟨s.sub, fun b hb => s.av b (List.mem_append_right _ hb), fun b hb => s.has b (List.mem_append_right _ hb)⟩
theorem Stp.frame (x : Stp g N h g' N' h') (s : Spl g (N ++ M) h) (d : Dj M N) : Stp g (N ++ M) h g' (N' ++ M) h' ∧ Dj M N' := by
 have hM : Has M h := s.right.has
 have d' : Dj M N' := x.chg.dj d hM
 refine ⟨⟨x.chg.left, x.gs, fun b hb hh e => x.gn b (fun hm => hb (List.mem_append_left _ hm)) hh e, x.spl.sub, fun b hb => ?_, fun b hb => ?_⟩, d'⟩
 ·rcases List.mem_append.1 hb with hb | hb
  ·exact x.spl.av b hb
  ·exact x.gn b (d b hb) (hM b hb) (s.right.av b hb)
 ·rcases List.mem_append.1 hb with hb | hb
  ·exact x.spl.has b hb
  ·obtain ⟨o, ho⟩ := hM b hb
   exact ⟨o, x.chg.keep ho (d b hb)⟩
theorem Stp.frameR (x : Stp g N h g' N' h') (s : Spl g (M ++ N) h) (d : Dj M N) : Stp g (M ++ N) h g' (M ++ N') h' ∧ Dj M N' := by
 have hM : Has M h := s.left.has
 have d' : Dj M N' := x.chg.dj d hM
 refine ⟨⟨x.chg.right, x.gs, fun b hb hh e => x.gn b (fun hm => hb (List.mem_append_right _ hm)) hh e, x.spl.sub, fun b hb => ?_, fun b hb => ?_⟩, d'⟩
 ·rcases List.mem_append.1 hb with hb | hb
  ·exact x.gn b (d b hb) (hM b hb) (s.left.av b hb)
  ·exact x.spl.av b hb
 ·rcases List.mem_append.1 hb with hb | hb
  ·obtain ⟨o, ho⟩ := hM b hb
   exact ⟨o, x.chg.keep ho (d b hb)⟩
  ·exact x.spl.has b hb
theorem Spl.start (h : PH) : Spl h [] h := ⟨PH.Sub.rf _, fun _ hb => (by cases hb), fun _ hb => (by cases hb)⟩
theorem Stp.old (x : Stp g N h g' N' h') {b : Nat} {o : Obj} (e : g b = some o) : h' b = some o := x.spl.sub b o (x.gs b o e)
theorem Stp.gh (x : Stp g N h g' N' h') : g.Sub h' := x.gs.tr x.spl.sub
end TL
