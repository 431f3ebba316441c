/-
  The denotation library, part R: regions that draw the order of their operations. No condition.
-/
import Derived.Test.YtmcgndbfoebcnaaGreatLibB
import Derived.Orders
namespace TL
open Go

abbrev CS := List (Nat × (World → Prop))
def offC (ms : List Nat) (j : Nat) (C : CS) : CS := C.filter fun p => !anc ms j p.1
/-- every order, and what the readers read stays until they have read it -/
def wpC (P : Program) (ops : Array Oper) (ms : List Nat) (Q : Exit → Act → World → Prop) : Nat → CS → Array Bool → Act → World → Prop
  | 0, _, listed, a, w => Region.ready .any ops listed = [] ∧ Q .normal a w
  | n + 1, C, listed, a, w => (Region.ready .any ops listed = [] → Q .normal a w) ∧
    ∀ j ∈ Region.ready .any ops listed, wpOp P ops Q j (fun a' w' => (∀ p ∈ offC ms j C, p.2 w') ∧ wpC P ops ms Q n (offC ms j C) (listed.setIfInBounds j true) a' w') a w

section
variable {P : Program} {ops : Array Oper} {ms : List Nat} {Q : Exit → Act → World → Prop}
theorem wpC_any : ∀ {n : Nat} {C : CS} {listed : Array Bool} {a : Act} {w : World}, wpC P ops ms Q n C listed a w → wpAny P .any ops Q n listed a w
  | 0, _, _, _, _, h => h
  | _ + 1, _, _, _, _, h => ⟨h.1, fun j hj => wpOp_mono (fun _ _ x => wpC_any x.2) (h.2 j hj)⟩
theorem offC_sub {C C' : CS} (j : Nat) (h : ∀ p ∈ C', p ∈ C) : ∀ p ∈ offC ms j C', p ∈ offC ms j C := fun p hp => by
  simp only [offC, List.mem_filter] at hp ⊢
  exact ⟨h p hp.1, hp.2⟩
theorem wpC_mono : ∀ {n : Nat} {C C' : CS} {listed : Array Bool} {a : Act} {w : World}, (∀ p ∈ C', p ∈ C) → wpC P ops ms Q n C listed a w → wpC P ops ms Q n C' listed a w
  | 0, _, _, _, _, _, _, h => h
  | _ + 1, _, _, _, _, _, hs, h => ⟨h.1, fun j hj => wpOp_mono (fun _ _ x => ⟨fun p hp => x.1 p (offC_sub j hs p hp), wpC_mono (offC_sub j hs) x.2⟩) (h.2 j hj)⟩
theorem wpC_done {C : CS} {listed : Array Bool} {a : Act} {w : World} (hr : Region.ready .any ops listed = []) (h : Q .normal a w) : ∀ n, wpC P ops ms Q n C listed a w
  | 0 => ⟨hr, h⟩
  | _ + 1 => ⟨fun _ => h, by rw [hr]; simp⟩

/-- yields v in every world where the claim holds -/
def YS (P : Program) (ops : Array Oper) (o : Oper) (S : World → Prop) (v : Value) (a : Act) : Prop :=
  (Region.wanted o (yielded ops a.tmps) = true ∧ ∀ w, S w → (execOp a.eval o).run P w = .ok (.value v) w) ∨
  (Region.wanted o (yielded ops a.tmps) = false ∧ v = undef)
theorem YS.of_same {o : Oper} {S : World → Prop} {v : Value} {a a' : Act} (hy : YS P ops o S v a) (he : execOp a'.eval o = execOp a.eval o)
    (hw : Region.wanted o (yielded ops a'.tmps) = Region.wanted o (yielded ops a.tmps)) : YS P ops o S v a' := by
  unfold YS at *; rw [he, hw]; exact hy
theorem YS.wpOp {i : Nat} {o : Oper} {S : World → Prop} {v : Value} {a : Act} (hi : ops[i]? = some o) (hy : YS P ops o S v a) {K : Act → World → Prop} {w : World} (hs : S w) (h : K (a.put o.dst v) w) : wpOp P ops Q i K a w := by
  unfold Go.wpOp
  simp only [hi]
  rcases hy with ⟨hw, hv⟩ | ⟨hw, rfl⟩
  · simp only [hw, if_true, Oper.wp, hv w hs, Oper.upon]; exact .inl h
  · simp only [hw, Bool.false_eq_true, if_false]; exact h

/-- a write set behind an operation that it does not touch -/
theorem wpOp_behind {j : Nat} {oi oj : Oper} {S : World → Prop} {v : Value} (hj : ops[j]? = some oj) (hap : oi.apart ops oj = true)
    (hsi : ∀ cs b, oi.op ≠ .select cs b) (hsj : ∀ cs b, oj.op ≠ .select cs b) (hQ : ∀ c a w, ¬ Q (.panic c) a w) (hL : ¬ LetsOut Q) {K : Act → World → Prop} {a : Act} {w : World}
    (hy : YS P ops oi S v a) (h : wpOp P ops Q j K (a.put oi.dst v) w) : wpOp P ops Q j (fun a' w' => YS P ops oi S v a' ∧ K (a'.put oi.dst v) w') a w := by
  obtain ⟨h1, h2, h3⟩ := Oper.apart_spec hap
  have keep : ∀ (a : Act), YS P ops oi S v a → ∀ u, YS P ops oi S v (a.put oj.dst u) := fun a hy u =>
    hy.of_same (execOp_put oi hsi a oj.dst u h3) (wanted_put oi a oj.dst u h3)
  unfold Go.wpOp at *
  simp only [hj] at *
  rw [wanted_put oj a oi.dst v h1] at h
  split
  · rename_i hw
    simp only [hw, if_true] at h
    rcases h with h | ⟨_, hlets⟩
    case inr => exact absurd hlets hL
    refine .inl ?_
    unfold Oper.wp at *
    rw [execOp_put oj hsj a oi.dst v h1] at h
    generalize (execOp a.eval oj).run P w = r at *
    cases r with
    | ok n w' =>
      cases n <;> simp only [Oper.upon] at h ⊢
      case value u => exact ⟨keep a hy u, by rw [← Act.put_comm a v u h2]; exact h⟩
      case skip => exact ⟨keep a hy _, by rw [← Act.put_comm a v undef h2]; exact h⟩
      case defer d =>
        refine ⟨keep _ (hy.of_same (a' := { a with defers := d :: a.defers }) rfl rfl) _, ?_⟩
        rw [← Act.put_comm _ v undef h2, ← Act.put_defers]
        exact h
      case enter f args =>
        refine Calls.mono h fun e w'' he => ?_
        cases e with
        | returned u => exact ⟨keep a hy u, by rw [← Act.put_comm a v u h2]; exact he⟩
        | panicked c => exact absurd he (hQ _ _ _)
        | outgrown => exact he
      case row row args => exact Rows.mono h fun u w'' he => ⟨keep a hy u, by rw [← Act.put_comm a v u h2]; exact he⟩
    | halt x w' =>
      cases x <;> simp only [Oper.upon] at h ⊢
      case panic u => exact absurd h (hQ _ _ _)
  · rename_i hw
    simp only [hw] at h
    exact ⟨keep a hy _, by rw [← Act.put_comm a v undef h2]; exact h⟩

/-! ### What comes ahead -/
theorem bit_of {k i : Nat} (h : (1 <<< k).testBit i = true) : k = i := by
  rw [Nat.one_shiftLeft, Nat.testBit_two_pow] at h
  simpa using h
theorem fold_bit {acc : List Nat} {i : Nat} : ∀ {l : List Edge} {m : Nat}, (l.foldl (fun m e => match Region.binds .any e with
      | true => m ||| (1 <<< e.on) ||| acc.getD e.on 0
      | false => m) m).testBit i = true → m.testBit i = true ∨ ∃ e ∈ l, Region.binds .any e = true ∧ (e.on = i ∨ (acc.getD e.on 0).testBit i = true)
  | [], m, h => .inl h
  | e :: l, m, h => by
    simp only [List.foldl_cons] at h
    rcases fold_bit h with h | ⟨e', he, hb, h⟩
    · split at h
      · rename_i hb
        rw [Nat.testBit_or, Nat.testBit_or] at h
        simp only [Bool.or_eq_true] at h
        rcases h with (h | h) | h
        · exact .inl h
        · exact .inr ⟨e, List.mem_cons_self, hb, .inl (bit_of h)⟩
        · exact .inr ⟨e, List.mem_cons_self, hb, .inr h⟩
      · exact .inl h
    · exact .inr ⟨e', List.mem_cons_of_mem _ he, hb, h⟩
theorem getD_app {l : List Nat} {x k : Nat} (h : k < l.length) : (l ++ [x]).getD k 0 = l.getD k 0 := by
  simp only [List.getD]; rw [List.getElem?_append_left h]
theorem masks_pre : ∀ {l : List Oper} {acc : List Nat} {k i : Nat}, (acc.getD k 0).testBit i = true → ((masks l acc).getD k 0).testBit i = true
  | [], _, _, _, h => h
  | o :: l, acc, k, i, h => by
    rw [masks]
    refine masks_pre ?_
    have hk : k < acc.length := by
      rcases Nat.lt_or_ge k acc.length with hk | hk
      · exact hk
      · simp [List.getD, hk] at h
    rw [getD_app hk]; exact h
theorem masks_bit : ∀ {l : List Oper} {acc : List Nat} {j i : Nat}, ((masks l acc).getD j 0).testBit i = true → (j < acc.length ∧ (acc.getD j 0).testBit i = true) ∨
    ∃ o, acc.length ≤ j ∧ l[j - acc.length]? = some o ∧ ∃ e ∈ o.after, Region.binds .any e = true ∧ (e.on = i ∨ ((masks l acc).getD e.on 0).testBit i = true)
  | [], acc, j, i, h => by
    refine .inl ⟨?_, h⟩
    simp only [masks] at h
    rcases Nat.lt_or_ge j acc.length with hk | hk
    · exact hk
    · simp [List.getD, hk] at h
  | o :: l, acc, j, i, h => by
    rw [masks] at h
    rcases masks_bit h with ⟨h1, h2⟩ | ⟨o', h1, h2, e, he, hb, h3⟩
    · simp only [List.length_append, List.length_cons, List.length_nil] at h1
      rcases Nat.lt_or_ge j acc.length with hk | hk
      · refine .inl ⟨hk, ?_⟩
        rw [getD_app hk] at h2; exact h2
      · have hj : j = acc.length := by omega
        subst hj
        refine .inr ⟨o, Nat.le_refl _, by simp, ?_⟩
        simp only [List.getD, List.getElem?_concat_length, Option.getD_some] at h2
        rcases fold_bit h2 with h2 | ⟨e, he, hb, h2⟩
        · simp at h2
        · refine ⟨e, by simpa using he, hb, h2.imp id fun h => ?_⟩
          rw [masks]
          refine masks_pre ?_
          have hk : e.on < acc.length := by
            rcases Nat.lt_or_ge e.on acc.length with hk | hk
            · exact hk
            · simp [List.getD, hk] at h
          rw [getD_app hk]; exact h
    · simp only [List.length_append, List.length_cons, List.length_nil] at h1 h2
      refine .inr ⟨o', by omega, ?_, e, he, hb, ?_⟩
      · rw [show j - acc.length = (j - (acc.length + (0 + 1))) + 1 by omega]; simpa using h2
      · rw [masks]; exact h3
theorem anc_edge {j i : Nat} (h : anc (masks ops.toList []) j i = true) : ∃ o, ops[j]? = some o ∧ ∃ e ∈ o.after, Region.binds .any e = true ∧ (e.on = i ∨ anc (masks ops.toList []) e.on i = true) := by
  rcases masks_bit h with ⟨h1, _⟩ | ⟨o, _, h2, h3⟩
  · simp at h1
  · exact ⟨o, by simpa using h2, h3⟩
def Closed (ms : List Nat) (listed : Array Bool) : Prop := ∀ j, listed.getD j false = true → ∀ i, anc ms j i = true → listed.getD i false = true
theorem ready_anc {listed : Array Bool} {j i : Nat} (hc : Closed (masks ops.toList []) listed) (hj : j ∈ Region.ready .any ops listed) (ha : anc (masks ops.toList []) j i = true) : listed.getD i false = true := by
  obtain ⟨o, ho, e, he, hb, h⟩ := anc_edge ha
  obtain ⟨_, o', ho', hall⟩ := mem_ready.1 hj
  rw [ho] at ho'; cases ho'
  have := hall e he hb
  rcases h with rfl | h
  · exact this
  · exact hc _ this _ h
theorem Closed.set {listed : Array Bool} {j : Nat} (hc : Closed (masks ops.toList []) listed) (hj : j ∈ Region.ready .any ops listed) : Closed (masks ops.toList []) (listed.setIfInBounds j true) := fun k hk i ha => by
  by_cases hjk : j = k
  · subst hjk; exact getD_set_true (ready_anc hc hj ha)
  · rw [getD_set_ne false hjk] at hk
    exact getD_set_true (hc k hk i ha)
theorem unlisted {listed : Array Bool} {j : Nat} (hj : j ∈ Region.ready .any ops listed) : listed.getD j false = true → False := fun h => by
  have h0 := (mem_ready.1 hj).1
  rcases Nat.lt_or_ge j listed.size with h' | h'
  · simp [h'] at h0 h; rw [h0] at h; cases h
  · simp [Array.getElem?_eq_none h'] at h0

theorem regOk_pair {i j : Nat} (h : regOk P ops ms = true) (hi : i < ops.size) (hj : j < ops.size) (hne : i ≠ j) : pairOk P ops ms i j = true := by
  simp only [regOk, Bool.and_eq_true, List.all_eq_true, List.mem_range] at h
  have := h.2 i hi j hj
  simpa [hne] using this
theorem regOk_sel (h : regOk P ops ms = true) {j : Nat} {o : Oper} (hj : ops[j]? = some o) (cs : Array SelectCase) (b : Bool) : o.op ≠ .select cs b := fun e => by
  simp only [regOk, noSel, Bool.and_eq_true, List.all_eq_true] at h
  have := h.1.2 o (by simpa using Array.mem_of_getElem? hj)
  rw [e] at this; cases this

/-- a calm operation is taken first -/
theorem takeC (hok : regOk P ops (masks ops.toList []) = true) (hQ : ∀ c a w, ¬ Q (.panic c) a w) (hL : ¬ LetsOut Q) {i : Nat} {oi : Oper} {v : Value} {S : World → Prop} (hi : ops[i]? = some oi) :
    ∀ (fuel : Nat) (listed : Array Bool) (C C2 : CS) (a : Act) (w : World), Closed (masks ops.toList []) listed → i ∈ Region.ready .any ops listed → YS P ops oi S v a → S w → (∀ p ∈ C, p.2 w) →
      (∀ p ∈ C, p ∈ C2) → ((∀ w, S w) ∨ (i, S) ∈ C2) → wpC P ops (masks ops.toList []) Q fuel C2 (listed.setIfInBounds i true) (a.put oi.dst v) w → wpC P ops (masks ops.toList []) Q (fuel + 1) C listed a w := by
  intro fuel
  induction fuel with
  | zero =>
    intro listed C C2 a w hcl hr hy hs hC hC2 hS H
    refine ⟨fun h => (by rw [h] at hr; cases hr), fun j hj => ?_⟩
    by_cases hji : j = i
    · subst hji
      refine hy.wpOp hi hs ⟨fun p hp => hC p ((List.mem_filter.1 hp).1), H⟩
    · have := ready_mono hj hji
      rw [H.1] at this; cases this
  | succ fuel ih =>
    intro listed C C2 a w hcl hr hy hs hC hC2 hS H
    refine ⟨fun h => (by rw [h] at hr; cases hr), fun j hj => ?_⟩
    by_cases hji : j = i
    · subst hji
      exact hy.wpOp hi hs ⟨fun p hp => hC p ((List.mem_filter.1 hp).1), wpC_mono (fun p hp => hC2 p ((List.mem_filter.1 hp).1)) H⟩
    · have h1 := H.2 j (ready_mono hj hji)
      obtain ⟨_, oj, hoj, _⟩ := mem_ready.1 hj
      have nij : anc (masks ops.toList []) i j = false := by
        cases e : anc (masks ops.toList []) i j with
        | false => rfl
        | true => exact (unlisted hj (ready_anc hcl hr e)).elim
      have nji : anc (masks ops.toList []) j i = false := by
        cases e : anc (masks ops.toList []) j i with
        | false => rfl
        | true => exact (unlisted hr (ready_anc hcl hj e)).elim
      have hap : oi.apart ops oj = true := by
        have := regOk_pair hok (Array.getElem?_eq_some_iff.1 hi).1 (Array.getElem?_eq_some_iff.1 hoj).1 (Ne.symm hji)
        simp only [pairOk, hi, hoj, nij, nji, Bool.false_or, Bool.and_eq_true] at this
        exact this.1
      have h2 := wpOp_behind hoj hap (regOk_sel hok hi) (regOk_sel hok hoj) hQ hL hy h1
      refine wpOp_mono ?_ h2
      rintro a' w' ⟨hy', h3, h4⟩
      have hmem : ∀ p ∈ offC (masks ops.toList []) j C, p ∈ offC (masks ops.toList []) j C2 := offC_sub j hC2
      have hCw : ∀ p ∈ offC (masks ops.toList []) j C, p.2 w' := fun p hp => h3 p (hmem p hp)
      refine ⟨hCw, ih (listed.setIfInBounds j true) _ (offC (masks ops.toList []) j C2) a' w' (hcl.set hj) (ready_mono hr (Ne.symm hji)) hy' ?_ hCw hmem ?_ ?_⟩
      · rcases hS with hS | hS
        · exact hS w'
        · exact h3 (i, S) (by simp [offC, hS, nji])
      · rcases hS with hS | hS
        · exact .inl hS
        · exact .inr (by simp [offC, hS, nji])
      · rw [Array.setIfInBounds_comm _ _ hji]
        exact h4
end

end TL

namespace TL
open Go

def ClOk (bs : BS) (bx : BX) (h : PH) (S : World → Prop) : Cl → Prop
  | .heap p => (∃ hc : PH, hc.Sub h ∧ p hc) ∧ ∀ (w : World) (g hc : PH), g.In w → hc.Sub g → p hc → S w
  | .loc k off n => ∃ (b : Nat) (T : TypeId) (c0 : List Ch), bs[k]? = some (b, T) ∧ nthB bx k = some c0 ∧ off + n ≤ chN c0 ∧
      ∀ (w : World) (g : PH), g.In w → g.rds b off n = some (((flat c0).drop off).take n) → S w
theorem ClOk.holds {bs : BS} {bx : BX} {h g : PH} {S : World → Prop} {c : Cl} {w : World} (hc : ClOk bs bx h S c) (i : Inv bs bx h g) (hi : g.In w) : S w := by
  cases c with
  | heap p =>
    obtain ⟨⟨hc, h1, h2⟩, h3⟩ := hc
    exact h3 w g hc hi (h1.trans i.sub) h2
  | loc k off n =>
    obtain ⟨b, T, c0, h1, h2, h3, h4⟩ := hc
    obtain ⟨b', T', c', e1, e2, e3⟩ := i.rds h2 h3
    rw [h1] at e1; rw [h2] at e2; cases e1; cases e2
    exact h4 w g hi e3
def RelC (bs : BS) (bx : BX) (h : PH) (C : List (Nat × Cl)) (D : CS) : Prop := ∀ p ∈ D, ∃ c, (p.1, c) ∈ C ∧ ClOk bs bx h p.2 c

theorem keepC_mem {ms : List Nat} {i r : Nat} {c : Cl} : ∀ {C : List (Nat × Cl)}, (r, c) ∈ C → anc ms i r = false → (r, c) ∈ keepC ms i C
  | (r', c') :: C, h, ha => by
    simp only [keepC]
    rcases List.mem_cons.1 h with h | h
    · cases h; rw [ha]; exact List.mem_cons_self
    · split
      · exact keepC_mem h ha
      · exact List.mem_cons_of_mem _ (keepC_mem h ha)
theorem clH_ok {h : PH} {K : Prop} : ∀ {C : List (Nat × Cl)}, clH C h K → K ∧ ∀ r p, (r, Cl.heap p) ∈ C → p h
  | [], hh => ⟨hh, by simp⟩
  | (r, .heap p) :: C, hh => by
    obtain ⟨h1, h2⟩ := clH_ok hh.2
    refine ⟨h1, fun r' p' hm => ?_⟩
    rcases List.mem_cons.1 hm with hm | hm
    · cases hm; exact hh.1
    · exact h2 r' p' hm
  | (r, .loc ..) :: C, hh => by
    obtain ⟨h1, h2⟩ := clH_ok (C := C) hh
    refine ⟨h1, fun r' p' hm => ?_⟩
    rcases List.mem_cons.1 hm with hm | hm
    · cases hm
    · exact h2 r' p' hm
theorem clL_ok {k off n : Nat} : ∀ {C : List (Nat × Cl)}, clL k off n C = true → ∀ r k' off' n', (r, Cl.loc k' off' n') ∈ C → k ≠ k' ∨ off + n ≤ off' ∨ off' + n' ≤ off
  | [], _ => by simp
  | (r, .heap p) :: C, h => fun r' k' off' n' hm => by
    rcases List.mem_cons.1 hm with hm | hm
    · cases hm
    · exact clL_ok (C := C) h r' k' off' n' hm
  | (r, .loc ..) :: C, h => fun r' k' off' n' hm => by
    simp only [clL, Bool.and_eq_true, Bool.or_eq_true, Bool.not_eq_true', Nat.ble_eq] at h
    rcases List.mem_cons.1 hm with hm | hm
    · cases hm
      rcases h.1 with (h | h) | h
      · exact .inl (Nat.ne_of_beq_eq_false h)
      · exact .inr (.inl h)
      · exact .inr (.inr h)
    · exact clL_ok (C := C) h.2 r' k' off' n' hm
theorem memL_ok {l : List Nat} {x : Nat} (h : memL l x = true) : x ∈ l := by
  unfold memL at h
  induction l with
  | nil => simp [memN] at h
  | cons y r ih =>
    simp only [memN] at h
    split at h
    · rename_i hb; rw [Nat.eq_of_beq_eq_true hb]; exact List.mem_cons_self
    · exact List.mem_cons_of_mem _ (ih h)
theorem subL_ok {l m : List Nat} {x : Nat} (h : subL l m = true) (hx : x ∈ l) : x ∈ m := by
  induction l with
  | nil => cases hx
  | cons y r ih =>
    unfold subL at h
    split at h
    · rename_i hy
      rcases List.mem_cons.1 hx with rfl | hx
      · exact memL_ok hy
      · exact ih h hx
    · cases h

/-- a calm operation: what it yields, and where -/
theorem calm_go {P : Program} {N : Nat} {priv : List Nat} {wb : WB} {ops : Array Oper} {o : Oper} {e : Env} {bx : BX} {h g : PH} {K : KO} {bs : BS} {a : Act} {w : World}
    (hh : denGo P N priv wb ops o e bx h K) (hc : calm P o = true) (i : Inv bs bx h g) (hi : g.In w) (hf : Fits N bs e a) :
    ∃ v S e' r c, K r c e' bx h ∧ YS P ops o S v a ∧ S w ∧ Fits N bs e' (a.put o.dst v) ∧ ((∀ w, S w) ∨ (isRd P o = true ∧ ∃ cl, c = some cl ∧ ClOk bs bx h S cl)) := by
  obtain ⟨e, hf, hh⟩ := denGo_ok hh hf
  rcases hh with ⟨hw, G, hd, hg, hz⟩ | ⟨hw, hd⟩ | ⟨hw, hz, s, b, wt, hd, hs, hb⟩
  · unfold denOp1 at hd
    split at hd
    · rename_i hdst
      cases hl : isRd P o with
      | false =>
        obtain ⟨r, v, h1, h2, h3⟩ := calm_ok hd hc hl hf hg
        split at h3
        · exact ⟨v, fun _ => True, _, r, none, h3, .inl ⟨hw, fun w _ => ro_run (h1 (fun _ => none)) (fun _ _ e => by cases e)⟩, trivial, fits_upd hf hdst hg (.inr h2), .inl fun _ => trivial⟩
        · exact h3.elim
      | true =>
        obtain ⟨r, c, v, h1, h2, h3, h3', h4⟩ := rd_ok hd hl hf hg i
        split at h1
        · refine ⟨v, fun w => ∃ g', g'.In w ∧ CG bs bx c g', _, r, some c, h1, .inl ⟨hw, ?_⟩, ⟨g, hi, h3⟩, fits_upd hf hdst hg (.inr h2), .inr ⟨rfl, c, rfl, ?_⟩⟩
          · rintro w ⟨g', hi', hc'⟩
            exact ro_run (h4 g' hc') hi'
          · cases c with
            | heap p => exact ⟨⟨h, PH.Sub.refl h, h3'⟩, fun w g hc h1 h2 h3 => ⟨g, h1, hc, h2, h3⟩⟩
            | loc k off n =>
              obtain ⟨c0, h5, h6⟩ := h3'
              obtain ⟨b, T, c1, e1, e2, e3⟩ := h3
              rw [h5] at e2; cases e2
              exact ⟨b, T, c0, e1, h5, h6, fun w g hi hr => ⟨g, hi, b, T, c0, e1, h5, hr⟩⟩
        · exact h1.elim
    · exact hd.elim
  · unfold denSk at hd
    split at hd
    · exact ⟨undef, fun _ => True, _, .skip, none, hd, .inr ⟨hw, rfl⟩, trivial, fits_skip hf, .inl fun _ => trivial⟩
    · exact hd.elim
  · unfold denOp1 at hd
    split at hd
    · rename_i hdst
      have : ∃ x c, (match wOk wb (.one x) c with
          | true => K (.one x) c (updE e o.dst (some (s, b, wt)) (.one x)) bx h
          | false => False) := by
        cases hl : isLoad o with
        | false => obtain ⟨x, hx⟩ := lazy_any hd hz hl; exact ⟨x, _, hx⟩
        | true =>
          obtain ⟨x, c, hx, _⟩ := load_any (fun k c hc => by obtain ⟨_, _, _, h, _⟩ := i.at hc; exact h) hd hl
          exact ⟨x, _, hx⟩
      obtain ⟨x, c, hx⟩ := this
      rw [show wOk wb (.one x) c = true from by cases c <;> rfl] at hx
      exact ⟨undef, fun _ => True, _, .one x, c, hx, .inr ⟨hw, rfl⟩, trivial, fits_off hf hdst hs hb, .inl fun _ => trivial⟩
    · exact hd.elim

/-- an operation that is not calm -/
theorem eff_go {P : Program} {N : Nat} {priv : List Nat} {wb : WB} {ops : Array Oper} {o : Oper} {e : Env} {bx : BX} {h g : PH} {K : KO} {bs : BS} {a : Act} {h0 : PH} {w0 w : World} {K' : Act → World → Prop} {Q : Exit → Act → World → Prop}
    (hh : denGo P N priv wb ops o e bx h K) (hc : calm P o = false) (i : Inv bs bx h g) (hF : Frm h0 w0 g w) (hf : Fits N bs e a)
    (hk : ∀ (a' : Act) (w' : World) (r : Rs) (c : Option Cl) (e' : Env) (bs2 : BS) (bx' : BX) (h' g' : PH), K r c e' bx' h' → Inv (bs ++ bs2) bx' h' g' → Frm h0 w0 g' w' → Fits N (bs ++ bs2) e' a' → Keep wb bx bx' → Slots (dstL o.dst) a a' →
      (∀ k c0, nthB bx k = some c0 → (∀ off n, ¬ (r = .skip ∧ c = some (.loc k off n))) → nthB bx' k = some c0) →
      (∀ k off n, r = .skip → c = some (.loc k off n) → h' = h ∧ ∀ c0, nthB bx k = some c0 → ∃ c1, nthB bx' k = some c1 ∧ chN c1 = chN c0 ∧
        ∀ off' n', (off + n ≤ off' ∨ off' + n' ≤ off) → ((flat c1).drop off').take n' = ((flat c0).drop off').take n') →
      (grows o = true → h.Sub h') → K' a' w') :
    if Region.wanted o (yielded ops a.tmps) then o.wp P a w K' Q ∨ (o.asks P a w ∧ LetsOut Q) else K' (a.put o.dst undef) w := by
  obtain ⟨e, hf, hh⟩ := denGo_ok hh hf
  rcases hh with ⟨hw, G, hd, hg, hz⟩ | ⟨hw, hd⟩ | ⟨hw, hz, s, b, wt, hd, hs, hb⟩
  · rw [if_pos hw]
    refine .inl ?_
    unfold denOp1 at hd
    split at hd
    · rename_i hdst
      refine hp_oper (any_ok hd hz hf hg i) hF.inn ?_
      rintro v g' w' ⟨r, c, bs2, bx', h', h1, h2, h3, h4, h5, h6⟩ hF'
      split at h1
      · rename_i hwok
        refine hk _ _ r c _ bs2 bx' h' g' h1 h2 (hF.trans hF') (fits_upd (hf.app bs2) hdst hg h3) ?_ (Slots.put a o.dst v) h4 h5 h6
        intro k c0 hk0 hok
        refine h4 k c0 hk0 ?_
        rintro off n ⟨rfl, rfl⟩
        simp only [wOk] at hwok
        rw [hok] at hwok; cases hwok
      · exact h1.elim
    · exact hd.elim
  · rw [if_neg (by simp [hw])]
    unfold denSk at hd
    split at hd
    · exact hk _ _ .skip none _ [] bx h g hd (by simpa using i) hF (by simpa using fits_skip hf) (Keep.refl _ _) (Slots.put a o.dst undef) (fun _ _ e _ => e) (fun _ _ _ _ e => by cases e) fun _ => PH.Sub.refl h
    · exact hd.elim
  · rw [lazy_calm hz] at hc; cases hc

theorem offC_anc {ms : List Nat} {i : Nat} {D : CS} {p : Nat × (World → Prop)} (h : p ∈ offC ms i D) : p ∈ D ∧ anc ms i p.1 = false := by
  simpa [offC] using h
theorem bs_app {bs bs2 : BS} {k : Nat} {p : Nat × TypeId} (h : bs[k]? = some p) : (bs ++ bs2)[k]? = some p := by
  rw [List.getElem?_append_left (bs_lt h)]; exact h
theorem wr_mem {ops : Array Oper} {i : Nat} {o : Oper} (h : ops[i]? = some o) : ∀ t ∈ dstL o.dst, t ∈ wrOps ops.toList := fun t ht => by
  have hm : o ∈ ops.toList := by simpa using Array.mem_of_getElem? h
  generalize ops.toList = l at hm
  induction l with
  | nil => cases hm
  | cons x r ih =>
    refine dstL_wr t ?_
    rcases List.mem_cons.1 hm with rfl | hm
    · exact List.mem_append_left _ ht
    · exact List.mem_append_right _ (ih hm)

/-- behind an operation that writes: every order of what is left -/
theorem eff_draw {P : Program} {N : Nat} {priv : List Nat} {wb : WB} {ops : Array Oper} {h0 : PH} {w0 : World} {Q : Exit → Act → World → Prop} {listed : Array Bool} {C : List (Nat × Cl)} {e : Env} {bx : BX} {h g : PH} {bs : BS} {a : Act} {w : World} {D : CS} {j n : Nat} {o : Oper}
    {NN : List (Nat × Cl) → Env → BX → PH → Prop} (ho : ops[j]? = some o) (hc : calm P o = false)
    (hh : denGo P N priv wb ops o e bx h (effK (masks ops.toList []) j o C NN)) (i : Inv bs bx h g) (hF : Frm h0 w0 g w) (hf : Fits N bs e a) (hD : RelC bs bx h C D)
    (next : ∀ e' bs2 bx' h' g' a' w', NN (keepC (masks ops.toList []) j C) e' bx' h' → Inv (bs ++ bs2) bx' h' g' → Frm h0 w0 g' w' → Fits N (bs ++ bs2) e' a' → Keep wb bx bx' → Slots (dstL o.dst) a a' →
      RelC (bs ++ bs2) bx' h' (keepC (masks ops.toList []) j C) (offC (masks ops.toList []) j D) → wpC P ops (masks ops.toList []) Q n (offC (masks ops.toList []) j D) (listed.setIfInBounds j true) a' w') :
    wpOp P ops Q j (fun a' w' => (∀ p ∈ offC (masks ops.toList []) j D, p.2 w') ∧ wpC P ops (masks ops.toList []) Q n (offC (masks ops.toList []) j D) (listed.setIfInBounds j true) a' w') a w := by
  unfold wpOp
  rw [ho]
  refine eff_go hh hc i hF hf ?_
  intro a' w' rs c e' bs2 bx' h' g' hK i' hF' hf' kp sl hu hs hg
  have fin : NN (keepC (masks ops.toList []) j C) e' bx' h' →
      (∀ p ∈ D, ∀ c1, (p.1, c1) ∈ C → anc (masks ops.toList []) j p.1 = false → ClOk bs bx h p.2 c1 → ClOk (bs ++ bs2) bx' h' p.2 c1) →
      (∀ p ∈ offC (masks ops.toList []) j D, p.2 w') ∧ wpC P ops (masks ops.toList []) Q n (offC (masks ops.toList []) j D) (listed.setIfInBounds j true) a' w' := fun hden hcl' => by
    have hrel : RelC (bs ++ bs2) bx' h' (keepC (masks ops.toList []) j C) (offC (masks ops.toList []) j D) := fun p hp => by
      obtain ⟨h1, h2⟩ := offC_anc hp
      obtain ⟨c1, h3, h4⟩ := hD p h1
      exact ⟨c1, keepC_mem h3 h2, hcl' p h1 c1 h3 h2 h4⟩
    refine ⟨fun p hp => ?_, next _ _ _ _ _ _ _ hden i' hF' hf' kp sl hrel⟩
    obtain ⟨c1, _, h2⟩ := hrel p hp
    exact h2.holds i' hF'.inn
  unfold effK at hK
  split at hK
  · rename_i hgr
    refine fin hK fun p _ c1 _ _ hcl1 => ?_
    cases c1 with
    | heap q => obtain ⟨⟨hc0, h1, h2⟩, h3⟩ := hcl1; exact ⟨⟨hc0, h1.trans (hg hgr), h2⟩, h3⟩
    | loc k off n =>
      obtain ⟨b, T, c0, h1, h2, h3, h4⟩ := hcl1
      exact ⟨b, T, c0, bs_app h1, hu k c0 h2 (fun _ _ e => by cases e.2), h3, h4⟩
  · rename_i k off n
    split at hK
    · rename_i hcl0
      obtain ⟨rfl, hs2⟩ := hs k off n rfl rfl
      refine fin hK fun p _ c1 hm ha hcl1 => ?_
      cases c1 with
      | heap q => exact hcl1
      | loc k' off' n' =>
        obtain ⟨b, T, c0, h1, h2, h3, h4⟩ := hcl1
        by_cases hkk : k = k'
        · subst hkk
          obtain ⟨c1, e1, e2, e3⟩ := hs2 c0 h2
          have hd := clL_ok hcl0 _ _ _ _ (keepC_mem hm ha)
          have hd : off + n ≤ off' ∨ off' + n' ≤ off := hd.resolve_left (fun h => h rfl)
          exact ⟨b, T, c1, bs_app h1, e1, by omega, fun w g hi hr => h4 w g hi (by rw [hr, e3 _ _ hd])⟩
        · exact ⟨b, T, c0, bs_app h1, hu k' c0 h2 (fun _ _ e => by cases e.2; exact hkk rfl), h3, h4⟩
    · exact hK.elim
  · rename_i hn2 hn1
    obtain ⟨hden, hcH⟩ := clH_ok hK
    refine fin hden fun p _ c1 hm ha hcl1 => ?_
    cases c1 with
    | heap q => exact ⟨⟨h', PH.Sub.refl _, hcH _ _ (keepC_mem hm ha)⟩, hcl1.2⟩
    | loc k off n =>
      obtain ⟨b, T, c0, h1, h2, h3, h4⟩ := hcl1
      exact ⟨b, T, c0, bs_app h1, hu k c0 h2 (fun off n e => hn2 k off n e.1 e.2), h3, h4⟩

theorem draw_ok {P : Program} {N : Nat} {priv : List Nat} {wb : WB} {ops : Array Oper} {h0 : PH} {w0 : World} {Q : Exit → Act → World → Prop} (hok : regOk P ops (masks ops.toList []) = true)
    (hQ : ∀ c a w, ¬ Q (.panic c) a w) (hL : ¬ LetsOut Q) : ∀ {r : Ord} {seen : List Nat} {listed : Array Bool} {C : List (Nat × Cl)} {e : Env} {bx : BX} {h g : PH} {K : Env → BX → PH → Prop} {bs : BS} {a : Act} {w : World} {D : CS},
    denDraw P N priv wb ops (masks ops.toList []) r seen listed C e bx h K → Inv bs bx h g → Frm h0 w0 g w → Fits N bs e a → Closed (masks ops.toList []) listed → RelC bs bx h C D →
    (∀ e' bs2 bx' h' a' w', K e' bx' h' → ST N h0 w0 (bs ++ bs2) bx' h' e' a' w' → Keep wb bx bx' → Slots (wrOps ops.toList) a a' → Q .normal a' w') → ∀ n, r.dep ≤ n →
    (seen = [] → wpC P ops (masks ops.toList []) Q n D listed a w) ∧ (∀ m, n = m + 1 → ((seen = [] ∧ ∃ i o, (∃ s, r = .one i s) ∧ ops[i]? = some o ∧ calm P o = true) ∨ ∀ j ∈ Region.ready .any ops listed, j ∉ seen →
      wpOp P ops Q j (fun a' w' => (∀ p ∈ offC (masks ops.toList []) j D, p.2 w') ∧ wpC P ops (masks ops.toList []) Q m (offC (masks ops.toList []) j D) (listed.setIfInBounds j true) a' w') a w))
  | .nil, seen, listed, C, e, bx, h, g, K, bs, a, w, D, hh, i, hF, hf, hcl, hD, hq, n, hn => by
    unfold denDraw at hh
    split at hh
    · rename_i hr
      refine ⟨fun _ => wpC_done hr (hq e [] bx h a w hh ⟨g, by simpa using i, hF, by simpa using hf⟩ (Keep.refl _ _) (Slots.refl _ _)) _, fun m _ => .inr fun j hj => ?_⟩
      rw [hr] at hj; cases hj
    · exact hh.elim
  | .one j r, seen, listed, C, e, bx, h, g, K, bs, a, w, D, hh, i, hF, hf, hcl, hD, hq, n, hn => by
    unfold denDraw at hh
    split at hh
    · exact hh.elim
    · rename_i o ho
      have hwr := wr_mem ho
      obtain ⟨n, rfl⟩ : ∃ m, n = m + 1 := ⟨n - 1, by simp only [Ord.dep] at hn; omega⟩
      have hn' : r.dep ≤ n := by simp only [Ord.dep] at hn; omega
      split at hh
      · rename_i hc
        split at hh
        · rename_i hr
          have hr := memL_ok hr
          refine ⟨fun _ => ?_, fun m _ => .inl ⟨rfl, j, o, ⟨r, rfl⟩, ho, hc⟩⟩
          obtain ⟨v, S, e', rs, c, hK, hy, hS, hf', hx⟩ := calm_go hh hc i hF.inn hf
          have hq' : ∀ e' bs2 bx' h' a' w', K e' bx' h' → ST N h0 w0 (bs ++ bs2) bx' h' e' a' w' → Keep wb bx bx' → Slots (wrOps ops.toList) (a.put o.dst v) a' → Q .normal a' w' := fun e2 bs2 bx2 h2 a2 w2 k2 s2 kp sl =>
            hq e2 bs2 bx2 h2 a2 w2 k2 s2 kp (((Slots.put a o.dst v).trans sl).sub fun t ht => by
              rcases List.mem_append.1 ht with ht | ht
              · exact hwr t ht
              · exact ht)
          have hDw : ∀ p ∈ D, p.2 w := fun p hp => by
            obtain ⟨c, _, hc⟩ := hD p hp
            exact hc.holds i hF.inn
          have hadd : ∀ q ∈ C, q ∈ addC P j o c C := fun q hq => by
            unfold addC
            split
            · exact List.mem_cons_of_mem _ hq
            · exact hq
          rcases hx with hx | ⟨hl, cl, rfl, hx⟩
          · exact takeC hok hQ hL ho n listed D D a w hcl hr hy hS hDw (fun _ h => h) (.inl hx)
              ((draw_ok hok hQ hL hK i hF hf' (hcl.set hr) (fun p hp => by obtain ⟨c, h1, h2⟩ := hD p hp; exact ⟨c, hadd _ h1, h2⟩) hq' n hn').1 rfl)
          · refine takeC hok hQ hL ho n listed D ((j, S) :: D) a w hcl hr hy hS hDw (fun _ h => List.mem_cons_of_mem _ h) (.inr List.mem_cons_self)
              ((draw_ok hok hQ hL hK i hF hf' (hcl.set hr) (fun p hp => ?_) hq' n hn').1 rfl)
            rcases List.mem_cons.1 hp with rfl | hp
            · exact ⟨cl, by simp [addC, hl], hx⟩
            · obtain ⟨c, h1, h2⟩ := hD p hp; exact ⟨c, hadd _ h1, h2⟩
        · exact hh.elim
      · rename_i hc
        split at hh
        · rename_i hr hsub
          have hr := memL_ok hr
          have step : wpOp P ops Q j (fun a' w' => (∀ p ∈ offC (masks ops.toList []) j D, p.2 w') ∧ wpC P ops (masks ops.toList []) Q n (offC (masks ops.toList []) j D) (listed.setIfInBounds j true) a' w') a w := by
            refine eff_draw ho hc hh i hF hf hD ?_
            intro e' bs2 bx' h' g' a' w' hden i' hF' hf' kp sl hrel
            refine (draw_ok hok hQ hL hden i' hF' hf' (hcl.set hr) hrel (fun e2 bs3 bx2 h2 a2 w2 k2 s2 kp2 sl2 => ?_) n hn').1 rfl
            exact hq e2 (bs2 ++ bs3) bx2 h2 a2 w2 k2 (by rw [← List.append_assoc]; exact s2) (kp.trans kp2) ((sl.trans sl2).sub fun t ht => by
              rcases List.mem_append.1 ht with ht | ht
              · exact hwr t ht
              · exact ht)
          have all : ∀ j' ∈ Region.ready .any ops listed, j' ∉ seen → j' = j := fun j' hj' hns => by
            rcases List.mem_cons.1 (subL_ok hsub hj') with h | h
            · exact h
            · exact absurd h hns
          refine ⟨fun hs => ⟨fun h => (by rw [h] at hr; cases hr), fun j' hj' => ?_⟩, fun m hm => .inr fun j' hj' hns => ?_⟩
          · obtain rfl := all j' hj' (by rw [hs]; simp)
            exact step
          · obtain rfl := all j' hj' hns
            obtain rfl : n = m := by omega
            exact step
        · exact hh.elim
  | .alt j r s, seen, listed, C, e, bx, h, g, K, bs, a, w, D, hh, i, hF, hf, hcl, hD, hq, n, hn => by
    unfold denDraw at hh
    split at hh
    · exact hh.elim
    · rename_i o ho
      have hwr := wr_mem ho
      obtain ⟨n, rfl⟩ : ∃ m, n = m + 1 := ⟨n - 1, by simp only [Ord.dep] at hn; omega⟩
      have hn1 : r.dep ≤ n := by simp only [Ord.dep] at hn; omega
      have hn2 : s.dep ≤ n + 1 := by simp only [Ord.dep] at hn; omega
      split at hh
      · rename_i hc hr
        have hr := memL_ok hr
        obtain ⟨hh1, hh2⟩ := hh
        have step : wpOp P ops Q j (fun a' w' => (∀ p ∈ offC (masks ops.toList []) j D, p.2 w') ∧ wpC P ops (masks ops.toList []) Q n (offC (masks ops.toList []) j D) (listed.setIfInBounds j true) a' w') a w := by
          refine eff_draw ho hc hh1 i hF hf hD ?_
          intro e' bs2 bx' h' g' a' w' hden i' hF' hf' kp sl hrel
          refine (draw_ok hok hQ hL hden i' hF' hf' (hcl.set hr) hrel (fun e2 bs3 bx2 h2 a2 w2 k2 s2 kp2 sl2 => ?_) n hn1).1 rfl
          exact hq e2 (bs2 ++ bs3) bx2 h2 a2 w2 k2 (by rw [← List.append_assoc]; exact s2) (kp.trans kp2) ((sl.trans sl2).sub fun t ht => by
            rcases List.mem_append.1 ht with ht | ht
            · exact hwr t ht
            · exact ht)
        have rest := (draw_ok hok hQ hL hh2 i hF hf hcl hD hq (n + 1) hn2).2 n rfl
        have rest : ∀ j' ∈ Region.ready .any ops listed, j' ∉ j :: seen → _ := rest.resolve_left fun h => by cases h.1
        have all : ∀ j' ∈ Region.ready .any ops listed, j' ∉ seen → wpOp P ops Q j' (fun a' w' => (∀ p ∈ offC (masks ops.toList []) j' D, p.2 w') ∧ wpC P ops (masks ops.toList []) Q n (offC (masks ops.toList []) j' D) (listed.setIfInBounds j' true) a' w') a w := fun j' hj' hns => by
          by_cases hjj : j' = j
          · subst hjj; exact step
          · exact rest j' hj' (by simp [hjj, hns])
        refine ⟨fun hs => ⟨fun h => (by rw [h] at hr; cases hr), fun j' hj' => all j' hj' (by rw [hs]; simp)⟩, fun m hm => .inr ?_⟩
        obtain rfl : n = m := by omega
        exact all
      · exact hh.elim

end TL

namespace TL
open Go

/-! ### A loop, round by round -/
def LW (P : Program) (c : Code) (Q : Exit → Act → World → Prop) (a : Act) (w : World) : Prop :=
  ∀ (b : Frame) (k : List Item) (cs : List Frame), ∃ e a' w', Q e a' w' ∧ Arrives P (lone (b.at a (.code c :: .inLoop c :: k)) cs w) b k cs e a' w'
theorem LW.round {P : Program} {c : Code} {Q : Exit → Act → World → Prop} {a : Act} {w : World} (h : c.wp P (Exit.then (LW P c Q) Q) a w) : LW P c Q a w := by
  intro b k cs
  obtain ⟨e, a₁, w₁, hq, harr⟩ := h b (.inLoop c :: k) cs
  cases e with
  | normal =>
    obtain ⟨e₂, a₂, w₂, hq₂, harr₂⟩ := hq b k cs
    exact ⟨e₂, a₂, w₂, hq₂, .of_steps (Steps.trans harr (.one step_inLoop)) harr₂⟩
  | exit id => exact ⟨_, a₁, w₁, hq, .pass (x := .inLoop c) rfl (fun _ _ => .inl (by simp)) harr⟩
  | goto l => exact ⟨_, a₁, w₁, hq, .pass (x := .inLoop c) rfl (fun _ _ => .inl (by simp)) harr⟩
  | ret => exact ⟨_, a₁, w₁, hq, .pass (x := .inLoop c) rfl (fun _ _ => .inl (by simp)) harr⟩
  | panic ch => exact ⟨_, a₁, w₁, hq, .pass (x := .inLoop c) rfl (fun _ _ => .inl (by simp)) harr⟩
  | outgrown => exact ⟨_, a₁, w₁, hq, .pass (x := .inLoop c) rfl (fun _ _ => .inl (by simp)) harr⟩
theorem LW.loop {P : Program} {c : Code} {Q : Exit → Act → World → Prop} {a : Act} {w : World} (h : LW P c Q a w) : (Code.loop c).wp P Q a w := fun b k cs => by
  obtain ⟨e, a', w', hq, harr⟩ := h b k cs
  exact ⟨e, a', w', hq, .of_steps (.one step_loop) harr⟩

/-! ### Boxes forgotten -/
open Classical in
noncomputable def PH.less (g : PH) (bs2 : BS) : PH := fun x => if ∃ (k : Nat) (T : TypeId), bs2[k]? = some (x, T) then none else g x
theorem PH.less_sub {g : PH} {bs2 : BS} {b : Nat} {o : Obj} (h : g.less bs2 b = some o) : g b = some o := by
  unfold PH.less at h; split at h
  · cases h
  · exact h
theorem Frm.less {h0 : PH} {w0 w : World} {g : PH} (hF : Frm h0 w0 g w) (bs2 : BS) : Frm h0 w0 (g.less bs2) w :=
  ⟨fun b o h => hF.inn b o (PH.less_sub h), hF.size, fun b hb h => ⟨by
    have := (hF.old b hb h).1
    unfold PH.less; split
    · rfl
    · exact this, (hF.old b hb h).2⟩, hF.os, hF.out⟩
theorem Inv.less {bs bs2 : BS} {bx' bx2 : BX} {h g : PH} (i : Inv (bs ++ bs2) bx' h g) (hl : bx2.length = bs.length) (hb : ∀ k c, nthB bx2 k = some c → ∃ c1, nthB bx' k = some c1 ∧ flat c = flat c1 ∧ chOk c) :
    Inv bs bx2 h (g.less bs2) := by
  have keep : ∀ (k b : Nat) (T : TypeId), bs[k]? = some (b, T) → g.less bs2 b = g b := fun k b T hk => by
    unfold PH.less
    rw [if_neg]
    rintro ⟨j, T', hj⟩
    have h1 := i.nd k (bs.length + j) b T b T' (bs_app hk) (by rw [List.getElem?_append_right (by omega)]; simpa using hj) rfl
    have := bs_lt hk
    omega
  refine ⟨hl.symm, fun a b x T y T' h1 h2 => i.nd a b x T y T' (bs_app h1) (bs_app h2), fun k b T hk => i.out k b T (bs_app hk), fun k b T c hk hc => ?_, fun x hx => ?_⟩
  · obtain ⟨c1, h1, h2, h3⟩ := hb k c hc
    refine ⟨h3, ?_⟩
    rw [keep k b T hk, h2]
    exact (i.box k b T c1 (bs_app hk) h1).2
  · unfold PH.less
    split
    · rename_i hex
      obtain ⟨j, T, hj⟩ := hex
      rw [i.out (bs.length + j) x T (by rw [List.getElem?_append_right (by omega)]; simpa using hj)]
    · rename_i hex
      refine i.off x fun k b T hk e => ?_
      subst e
      rcases Nat.lt_or_ge k bs.length with hlt | hge
      · exact hx k x T (by rw [List.getElem?_append_left hlt] at hk; exact hk) rfl
      · exact hex ⟨k - bs.length, T, by rw [List.getElem?_append_right hge] at hk; exact hk⟩

/-! ### The head of a loop -/
theorem enc_dec : ∀ {l : List TCh} {cs : List Ch} {x : tupT l}, decT l cs = some x → encT l x = cs
  | [], [], _, _ => rfl
  | .one t :: r, .one v :: cs, x, h => by
    simp only [decT] at h
    split at h
    · rename_i y z h1 h2
      cases h
      simp only [encT]
      rw [enc_dec h2]
      congr 2
      cases t <;> cases v <;> simp only [decY, Option.some.injEq, reduceCtorEq] at h1 <;> first | (subst h1; rfl) | (split at h1 <;> first | (rename_i hk; cases h1; rw [kEq_eq hk]; rfl) | cases h1)
    · cases h
  | .ints k n :: r, .ints k' n' l :: cs, x, h => by
    simp only [decT] at h
    split at h
    · rename_i y h1 h2 h3
      cases h
      simp only [encT]
      rw [enc_dec h3, kEq_eq h1, Nat.eq_of_beq_eq_true h2]
    · cases h
  | .raw n :: r, .raw n' l :: cs, x, h => by
    simp only [decT] at h
    split at h
    · rename_i y h1 h2
      cases h
      simp only [encT]
      rw [enc_dec h2, Nat.eq_of_beq_eq_true h1]
    · cases h
theorem slV_ok {N : Nat} {bs : BS} {e : Env} {a : Act} {s : Nat} {v : Value} (h : slV e s = some v) (hf : Fits N bs e a) : a.tmps.getD s undef = v ∧ one1 v = true := by
  unfold slV at h
  split at h
  · rename_i x hx
    have ho : e0Ok bs x (a.tmps.getD s undef) := hf.get hx
    split at h
    · cases h; obtain ⟨e, h1⟩ := ho; exact ⟨e, h1⟩
    · cases h; exact ⟨ho, rfl⟩
    · cases h; obtain ⟨e, h1⟩ := ho; exact ⟨e, h1⟩
    · cases h
  · cases h
theorem slVs_ok {N : Nat} {bs : BS} {e base : Env} {a : Act} (hf : Fits N bs e a) : ∀ {sl : List (Nat × Ty)} {cs b : List Ch}, slVs e sl = some cs →
    cs.length = sl.length ∧ ∀ p ∈ eHead base sl (cs ++ b), p ∈ base ∨ evOk a.tmps bs p.2 (a.tmps.getD p.1 undef)
  | [], cs, b, h => by
    simp [slVs] at h; subst h
    refine ⟨rfl, fun p hp => .inl ?_⟩
    simpa [eHead] using hp
  | (s, t) :: r, cs, b, h => by
    simp only [slVs] at h
    split at h
    · rename_i v cs' h1 h2
      cases h
      obtain ⟨h3, h4⟩ := slVs_ok (base := base) (b := b) hf h2
      refine ⟨by simp [h3], fun p hp => ?_⟩
      obtain ⟨e1, e2⟩ := slV_ok h1 hf
      simp only [List.cons_append, eHead] at hp
      rcases List.mem_cons.1 hp with rfl | hp
      · refine .inr ?_
        cases hq : isFn t
        · exact ⟨e1, e2⟩
        · exact ⟨e1, e2⟩
      · exact h4 p hp
    · cases h
theorem normB_ok : ∀ {ts : List TCh} {c c' : List Ch}, normB ts c = some c' → chOk c → flat c' = flat c ∧ chOk c' ∧ c'.length = ts.length
  | [], [], c', h, _ => by simp [normB] at h; subst h; exact ⟨rfl, trivial, rfl⟩
  | .one _ :: r, .one v :: cs, c', h, ho => by
    simp only [normB] at h
    split at h
    · rename_i x hx
      cases h
      obtain ⟨h1, h2, h3⟩ := normB_ok hx ho.2
      exact ⟨by simp [flat, h1], ⟨ho.1, h2⟩, by simp [h3]⟩
    · cases h
  | .ints k n :: r, cs, c', h, ho => by
    simp only [normB] at h
    split at h
    · rename_i a b hs
      obtain ⟨s1, s2, s3, s4⟩ := chSplit_ok hs ho
      split at h
      · rename_i l x hl hx
        cases h
        obtain ⟨h1, h2, h3⟩ := normB_ok hx s4
        obtain ⟨r1, r2⟩ := rowOf_ok hl s2 s3
        exact ⟨by simp [flat, h1, s1, r1], ⟨r2, h2⟩, by simp [h3]⟩
      · cases h
    · cases h
  | .raw n :: r, .raw m l :: cs, c', h, ho => by
    simp only [normB] at h
    split at h
    · rename_i x hx
      split at h
      · cases h
        obtain ⟨h1, h2, h3⟩ := normB_ok hx ho.2.2
        exact ⟨by simp [flat, h1], ⟨ho.1, ho.2.1, h2⟩, by simp [h3]⟩
      · cases h
    · cases h
theorem bHead_len : ∀ {l : List (Nat × List TCh)} {bx : BX} {cs : List Ch}, (bHead bx l cs).length = bx.length
  | [], _, _ => rfl
  | (k, ts) :: r, bx, cs => by simp only [bHead]; rw [bHead_len, setB_len]
theorem bHead_keep : ∀ {l : List (Nat × List TCh)} {bx : BX} {cs : List Ch} {k : Nat}, k ∉ l.map (·.1) → nthB (bHead bx l cs) k = nthB bx k
  | [], _, _, _, _ => rfl
  | (k0, ts) :: r, bx, cs, k, h => by
    simp only [List.map_cons, List.mem_cons, not_or] at h
    simp only [bHead]
    rw [bHead_keep h.2, nthB_setB, if_neg (fun e => h.1 e.1)]
theorem bHead_ok {bx' : BX} (hok : ∀ k c, nthB bx' k = some c → chOk c) : ∀ {l : List (Nat × List TCh)} {bx : BX} {cs : List Ch}, boVs bx' l = some cs →
    (∀ k c, nthB bx k = some c → k ∈ l.map (·.1) ∨ ∃ c1, nthB bx' k = some c1 ∧ flat c = flat c1 ∧ chOk c) →
    ∀ k c, nthB (bHead bx l cs) k = some c → ∃ c1, nthB bx' k = some c1 ∧ flat c = flat c1 ∧ chOk c
  | [], bx, cs, _, hb, k, c, hc => (hb k c hc).resolve_left (by simp)
  | (k0, ts) :: r, bx, cs, h, hb, k, c, hc => by
    simp only [boVs] at h
    split at h
    · rename_i c0 cs' h1 h2
      split at h
      · rename_i c' hn
        cases h
        obtain ⟨n1, n2, n3⟩ := normB_ok hn (hok _ _ h1)
        simp only [bHead] at hc
        rw [← n3] at hc
        simp only [List.take_left, List.drop_left] at hc
        refine bHead_ok hok h2 ?_ k c hc
        intro k1 c1 hc1
        rw [nthB_setB] at hc1
        split at hc1
        · rename_i e
          cases hc1
          obtain ⟨rfl, _⟩ := e
          exact .inr ⟨c0, h1, n1, n2⟩
        · rename_i e
          rcases hb k1 c1 hc1 with h3 | h3
          · simp only [List.map_cons, List.mem_cons] at h3
            rcases h3 with rfl | h3
            · exact absurd ⟨rfl, nthB_some_lt hc1⟩ e
            · exact .inl h3
          · exact .inr h3
      · cases h
    · cases h

theorem memN_iff {l : List Nat} {x : Nat} : memN l x = true ↔ x ∈ l := by
  induction l with
  | nil => simp [memN]
  | cons y r ih =>
    simp only [memN, List.mem_cons]
    split
    · rename_i hb; simp [Nat.eq_of_beq_eq_true hb]
    · rename_i hb
      rw [ih]
      exact ⟨.inr, fun h => h.resolve_left fun e => Nat.ne_of_beq_eq_false hb e.symm⟩
theorem memN_not {l : List Nat} {x : Nat} (h : memN l x = false) : x ∉ l := fun hm => by
  rw [memN_iff.2 hm] at h; cases h
theorem eBase_ok {W : List Nat} : ∀ {e : Env} {p : Nat × EV}, p ∈ eBase W e → p ∈ e ∧ p.1 ∉ W ∧ ((∃ y, p.2 = .s y) ∨ ∃ y, p.2 = .tup y)
  | (t, x) :: r, p, h => by
    simp only [eBase] at h
    split at h
    · rename_i y hm
      rcases List.mem_cons.1 h with rfl | h
      · exact ⟨List.mem_cons_self, memN_not hm, .inl ⟨_, rfl⟩⟩
      · obtain ⟨h1, h2, h3⟩ := eBase_ok h; exact ⟨List.mem_cons_of_mem _ h1, h2, h3⟩
    · rename_i y hm
      rcases List.mem_cons.1 h with rfl | h
      · exact ⟨List.mem_cons_self, memN_not hm, .inr ⟨_, rfl⟩⟩
      · obtain ⟨h1, h2, h3⟩ := eBase_ok h; exact ⟨List.mem_cons_of_mem _ h1, h2, h3⟩
    · obtain ⟨h1, h2, h3⟩ := eBase_ok h; exact ⟨List.mem_cons_of_mem _ h1, h2, h3⟩

theorem agVs_ok {N : Nat} {bs : BS} {e base : Env} {a : Act} (hf : Fits N bs e a) : ∀ {l : List (Nat × List TCh)} {cs b : List Ch}, agVs e l = some cs →
    cs.length = lenA l ∧ ∀ p ∈ eHeadA base l (cs ++ b), p ∈ base ∨ ∃ c, p.2 = .s (.agg c) ∧ chOk c ∧ a.tmps.getD p.1 undef = .agg (flat c).toArray
  | [], cs, b, h => by
    simp [agVs] at h; subst h
    exact ⟨rfl, fun p hp => .inl (by simpa [eHeadA] using hp)⟩
  | (s, ts) :: r, cs, b, h => by
    simp only [agVs] at h
    split at h
    · rename_i c cs' h1 h2
      split at h
      · rename_i c' hn
        cases h
        obtain ⟨h3, h4⟩ := hf.get h1
        obtain ⟨n1, n2, n3⟩ := normB_ok hn h3
        obtain ⟨i1, i2⟩ := agVs_ok (base := base) (b := b) hf h2
        refine ⟨by simp [lenA, n3, i1], fun p hp => ?_⟩
        simp only [eHeadA] at hp
        rw [← n3, List.append_assoc, List.take_left, List.drop_left] at hp
        rcases List.mem_cons.1 hp with rfl | hp
        · exact .inr ⟨c', rfl, n2, by rw [n1]; exact h4⟩
        · exact i2 p hp
      · cases h
    · cases h
theorem hdB_len {d : Hd} {bx : BX} {cs : List Ch} : (hdB d bx cs).length = bx.length := bHead_len
def hdWB (d : Hd) (n : Nat) : WB := ⟨d.bo.map (·.1), n⟩
/-- a state becomes the head's state -/
theorem to_head {N : Nat} {h0 : PH} {w0 : World} {d : Hd} {bs bs2 : BS} {e0 e' : Env} {a0 a' : Act} {bx bx' : BX} {h' : PH} {w' : World} {W : List Nat} {x : tupT (hdT d)}
    (hf0 : Fits N bs e0 a0) (hl : bx.length = bs.length) (hb0 : ∀ k c, nthB bx k = some c → chOk c) (hs : ST N h0 w0 (bs ++ bs2) bx' h' e' a' w') (hk : Keep (hdWB d bx.length) bx bx') (hsl : Slots W a0 a') (hx : hdOf d e' bx' = some x) :
    ST N h0 w0 bs (hdB d bx (encT (hdT d) x)) h' (hdE d (eBase W e0) (encT (hdT d) x)) a' w' := by
  obtain ⟨g, i, hF, hf⟩ := hs
  unfold hdOf at hx
  split at hx
  · rename_i ca cg cb h1 hg1 h2
    have hx := enc_dec hx
    obtain ⟨s1, s2⟩ := slVs_ok (base := eBase W e0) (b := cg ++ cb) hf h1
    obtain ⟨t1, t2⟩ := agVs_ok (base := eBase W e0) (b := cb) hf hg1
    unfold hdE hdB
    rw [hx, ← s1, List.drop_left, ← t1, List.drop_left]
    have hok' : ∀ k c, nthB bx' k = some c → chOk c := fun k c hc => by obtain ⟨_, _, _, h, _⟩ := i.at hc; exact h
    refine ⟨g.less bs2, i.less (by rw [bHead_len, hl]) (bHead_ok hok' h2 ?_), hF.less bs2, fun p hp => ?_, hf.size, hf.defs⟩
    · intro k c hc
      by_cases hm : k ∈ d.bo.map (·.1)
      · exact .inl hm
      · refine .inr ⟨c, hk k c hc ?_, rfl, hb0 k c hc⟩
        unfold okW hdWB
        have h5 : Nat.ble bx.length k = false := by
          have := nthB_some_lt hc
          cases e : Nat.ble bx.length k with
          | false => rfl
          | true => have := Nat.le_of_ble_eq_true e; omega
        simp only [h5]
        cases e : memN (d.bo.map (·.1)) k with
        | false => rfl
        | true => exact absurd (memN_iff.1 e) hm
    · have base : p ∈ eBase W e0 → evOk a'.tmps bs p.2 (a'.tmps.getD p.1 undef) := fun hp => by
        obtain ⟨m1, m2, m3⟩ := eBase_ok hp
        have := hf0.env p m1
        rw [hsl _ m2]
        rcases m3 with ⟨y, hy⟩ | ⟨y, hy⟩ <;> rw [hy] at this ⊢ <;> exact this
      -- the slots bear single values: no boxes
      have : ∀ {base : Env} {sl : List (Nat × Ty)} {cs b : List Ch}, slVs e' sl = some cs → ∀ p ∈ eHead base sl (cs ++ b), p ∈ base ∨ ∃ v, (p.2 = .s (.v v) ∨ p.2 = .s (.fn v)) ∧ a'.tmps.getD p.1 undef = v ∧ one1 v = true := by
        intro base sl
        induction sl with
        | nil => intro cs b h p hp; simp [slVs] at h; subst h; exact .inl (by simpa [eHead] using hp)
        | cons q r ih =>
          obtain ⟨s, t⟩ := q
          intro cs b h p hp
          simp only [slVs] at h
          split at h
          · rename_i v cs' h3 h4
            cases h
            simp only [List.cons_append, eHead] at hp
            rcases List.mem_cons.1 hp with rfl | hp
            · refine .inr ⟨v, ?_, slV_ok h3 hf⟩
              cases isFn t
              · exact .inl rfl
              · exact .inr rfl
            · exact ih h4 p hp
          · cases h
      rcases this h1 p hp with hp | ⟨v, hp, hv⟩
      · rcases t2 p hp with hp | ⟨cs, hp, hv⟩
        · exact base hp
        · rw [hp]; exact hv
      · rcases hp with hp | hp <;> rw [hp] <;> exact hv
  · cases hx

end TL

namespace TL
open Go

def exOf : Exit → Option Ex
  | .normal => some .normal
  | .exit i => some (.exit i)
  | .ret => some .ret
  | _ => none
def CPost (N : Nat) (h0 : PH) (w0 : World) (wb : WB) (W : List Nat) (bs : BS) (bx : BX) (a : Act) (K : KX) (x : Exit) (a' : Act) (w' : World) : Prop :=
  ∃ ex e' bs2 bx' h', exOf x = some ex ∧ K ex e' bx' h' ∧ ST N h0 w0 (bs ++ bs2) bx' h' e' a' w' ∧ Keep wb bx bx' ∧ Slots W a a'
section
variable {P : Program} {N : Nat} {h0 : PH} {w0 : World} {wb : WB} {W : List Nat} {bs : BS} {bx : BX} {a : Act} {K : KX}
theorem CPost.panic (c : List PanicEntry) (a' : Act) (w' : World) : ¬ CPost N h0 w0 wb W bs bx a K (.panic c) a' w' := by
  rintro ⟨ex, _, _, _, _, h, _⟩; cases h
theorem CPost.out : ¬ LetsOut (CPost N h0 w0 wb W bs bx a K) := by
  rintro ⟨a', w', ex, _, _, _, _, h, _⟩; cases h
theorem CPost.refl {x : Exit} {ex : Ex} {e : Env} {h : PH} {w : World} (hx : exOf x = some ex) (hk : K ex e bx h) (hs : ST N h0 w0 bs bx h e a w) : CPost N h0 w0 wb W bs bx a K x a w :=
  ⟨ex, e, [], bx, h, hx, hk, by simpa using hs, Keep.refl _ _, Slots.refl _ _⟩
theorem CPost.sub {V : List Nat} {x : Exit} {a' : Act} {w' : World} (h : CPost N h0 w0 wb W bs bx a K x a' w') (hs : ∀ t ∈ W, t ∈ V) : CPost N h0 w0 wb V bs bx a K x a' w' := by
  obtain ⟨ex, e', bs2, bx', h', h1, h2, h3, h4, h5⟩ := h
  exact ⟨ex, e', bs2, bx', h', h1, h2, h3, h4, h5.sub hs⟩
theorem CPost.after {V : List Nat} {bs2 : BS} {bx1 : BX} {a1 : Act} {x : Exit} {a' : Act} {w' : World} (h : CPost N h0 w0 wb V (bs ++ bs2) bx1 a1 K x a' w') (hk : Keep wb bx bx1) (hs : Slots W a a1) :
    CPost N h0 w0 wb (W ++ V) bs bx a K x a' w' := by
  obtain ⟨ex, e', bs3, bx', h', h1, h2, h3, h4, h5⟩ := h
  exact ⟨ex, e', bs2 ++ bs3, bx', h', h1, h2, by rw [← List.append_assoc]; exact h3, hk.trans h4, hs.trans h5⟩
end

theorem allW_ok {wb : WB} : ∀ {l : List (Nat × List TCh)}, allW wb l = true → ∀ k ∈ l.map (·.1), okW wb k = true
  | [], _, k, hk => by cases hk
  | (k0, ts) :: r, h, k, hk => by
    simp only [allW] at h
    split at h
    · rename_i h0
      simp only [List.map_cons, List.mem_cons] at hk
      rcases hk with rfl | hk
      · exact h0
      · exact allW_ok h k hk
    · cases h

abbrev CodeOk (P : Program) (N : Nat) (H : Hints) (h0 : PH) (w0 : World) (c : Code) : Prop :=
  ∀ ⦃wb : WB⦄ ⦃e : Env⦄ ⦃bx : BX⦄ ⦃h : PH⦄ ⦃K : KX⦄ ⦃bs : BS⦄ ⦃a : Act⦄ ⦃w : World⦄, den P N H c wb e bx h K → ST N h0 w0 bs bx h e a w → c.wp P (CPost N h0 w0 wb (wr c) bs bx a K) a w

theorem loop_ok {P : Program} {N : Nat} {H : Hints} {h0 : PH} {w0 : World} {id : Nat} {c : Code} {d : Hd} {wb : WB} {e : Env} {bx : BX} {h : PH} {K : KX} {bs : BS} {a : Act} {w : World} {x0 : tupT (hdT d)} (ih : CodeOk P N H h0 w0 c)
    (hw : allW wb d.bo = true) (hx0 : hdOf d e bx = some x0)
    (hh : LoopP (fun (J : tupT (hdT d) → PH → Prop) (x : tupT (hdT d)) (h : PH) =>
            den P N H c ⟨d.bo.map (·.1), bx.length⟩ (hdE d (eBase (wr c) e) (encT (hdT d) x)) (hdB d bx (encT (hdT d) x)) h fun ex e' bx' h' => match ex with
              | .normal => match hdOf d e' bx' with
                | some x' => J x' h'
                | none => False
              | .exit i => match Nat.beq i id with
                | true => K .normal e' bx' h'
                | false => K (.exit i) e' bx' h'
              | .ret => K .ret e' bx' h') x0 h)
    (hs : ST N h0 w0 bs bx h e a w) : (Code.block id (.loop c)).wp P (CPost N h0 w0 wb (wr c) bs bx a K) a w := by
  refine wp_block (LW.loop ?_)
  obtain ⟨g, i, hF, hf⟩ := hs
  have hl : bx.length = bs.length := i.len.symm
  have hb0 : ∀ k c, nthB bx k = some c → chOk c := fun k c hc => by obtain ⟨_, _, _, h, _⟩ := i.at hc; exact h
  have key : ∀ (x : tupT (hdT d)) (h1 : PH), LoopP (fun (J : tupT (hdT d) → PH → Prop) (x : tupT (hdT d)) (h : PH) =>
            den P N H c ⟨d.bo.map (·.1), bx.length⟩ (hdE d (eBase (wr c) e) (encT (hdT d) x)) (hdB d bx (encT (hdT d) x)) h fun ex e' bx' h' => match ex with
              | .normal => match hdOf d e' bx' with
                | some x' => J x' h'
                | none => False
              | .exit i => match Nat.beq i id with
                | true => K .normal e' bx' h'
                | false => K (.exit i) e' bx' h'
              | .ret => K .ret e' bx' h') x h1 → ∀ (a1 : Act) (w1 : World), ST N h0 w0 bs (hdB d bx (encT (hdT d) x)) h1 (hdE d (eBase (wr c) e) (encT (hdT d) x)) a1 w1 → Slots (wr c) a a1 →
        LW P c (Exit.inBlock id (CPost N h0 w0 wb (wr c) bs bx a K)) a1 w1 := by
    intro x h1 hL
    induction hL with
    | mk R hR hF' ihR =>
      rename_i x h1
      intro a1 w1 hs1 hsl1
      refine LW.round (Code.wp_mono ?_ (ih hF' hs1))
      rintro e2 a2 w2 ⟨ex, e', bs2, bx', h', hex, hk, hst, hkp, hsl⟩
      have hkp' : Keep (hdWB d bx.length) bx bx' := fun k c0 hk0 hok => by
        refine hkp k c0 ?_ hok
        unfold hdB
        rw [bHead_keep]
        · exact hk0
        · intro hm
          unfold okW hdWB at hok
          simp only at hok
          split at hok
          · cases hok
          · rw [memN_iff.2 hm] at hok; cases hok
      have hsl' : Slots (wr c) a a2 := (hsl1.trans hsl).sub fun t ht => by
        rcases List.mem_append.1 ht with ht | ht <;> exact ht
      have hkp2 : Keep wb bx bx' := fun k c0 hk0 hok => by
        refine hkp' k c0 hk0 ?_
        unfold okW hdWB
        have h5 : Nat.ble bx.length k = false := by
          have := nthB_some_lt hk0
          cases e : Nat.ble bx.length k with
          | false => rfl
          | true => have := Nat.le_of_ble_eq_true e; omega
        simp only [h5]
        cases e : memN (d.bo.map (·.1)) k with
        | false => rfl
        | true => rw [allW_ok hw k (memN_iff.1 e)] at hok; cases hok
      cases e2 with
      | normal =>
        cases hex
        simp only at hk
        split at hk
        · rename_i x' hx'
          exact ihR x' h' hk a2 w2 (to_head hf hl hb0 hst hkp' hsl' hx') hsl'
        · exact hk.elim
      | exit j =>
        cases hex
        simp only [Exit.then, Exit.inBlock]
        simp only at hk
        split at hk
        · rename_i hb
          rw [if_pos (Nat.eq_of_beq_eq_true hb)]
          exact ⟨.normal, e', bs2, bx', h', rfl, hk, hst, hkp2, hsl'⟩
        · rename_i hb
          rw [if_neg (Nat.ne_of_beq_eq_false hb)]
          exact ⟨.exit j, e', bs2, bx', h', rfl, hk, hst, hkp2, hsl'⟩
      | ret =>
        cases hex
        exact ⟨.ret, e', bs2, bx', h', rfl, hk, hst, hkp2, hsl'⟩
      | goto l => cases hex
      | panic c => cases hex
      | outgrown => cases hex
  exact key x0 h hh a w (to_head (bs2 := []) hf hl hb0 ⟨g, by simpa using i, hF, by simpa using hf⟩ (Keep.refl _ _) (Slots.refl _ _) hx0) (Slots.refl _ _)

theorem join_ok {P : Program} {N : Nat} {H : Hints} {h0 : PH} {w0 : World} {x y : Code} {d : Hd} {wb : WB} {e : Env} {bx : BX} {h : PH} {K : KX} {bs : BS} {a : Act} {w : World} (ihx : CodeOk P N H h0 w0 x) (ihy : CodeOk P N H h0 w0 y)
    (hw : allW wb d.bo = true)
    (hh : JoinP (fun (J : tupT (hdT d) → PH → Prop) => den P N H x ⟨d.bo.map (·.1), bx.length⟩ e bx h fun ex e' bx' h' => match ex with
          | .normal => match hdOf d e' bx' with
            | some x' => J x' h'
            | none => False
          | ex => K ex e' bx' h') (fun (z : tupT (hdT d)) (h : PH) => den P N H y wb (hdE d (eBase (wr x) e) (encT (hdT d) z)) (hdB d bx (encT (hdT d) z)) h K))
    (hs : ST N h0 w0 bs bx h e a w) : (Code.seq x y).wp P (CPost N h0 w0 wb (wr (.seq x y)) bs bx a K) a w := by
  obtain ⟨J, h1, h2⟩ := hh
  have hs0 := hs
  obtain ⟨g, i, hF, hf⟩ := hs
  have hl : bx.length = bs.length := i.len.symm
  have hb0 : ∀ k c, nthB bx k = some c → chOk c := fun k c hc => by obtain ⟨_, _, _, h, _⟩ := i.at hc; exact h
  refine wp_seq (Code.wp_mono ?_ (ihx h1 hs0))
  rintro z a2 w2 ⟨ex, e', bs2, bx', h', hex, hk, hst, hkp, hsl⟩
  have hkp2 : Keep wb bx bx' := fun k c0 hk0 hok => by
    refine hkp k c0 hk0 ?_
    unfold okW
    have h5 : Nat.ble bx.length k = false := by
      have := nthB_some_lt hk0
      cases e : Nat.ble bx.length k with
      | false => rfl
      | true => have := Nat.le_of_ble_eq_true e; omega
    simp only [h5]
    cases e : memN (d.bo.map (·.1)) k with
    | false => rfl
    | true => rw [allW_ok hw k (memN_iff.1 e)] at hok; cases hok
  cases z with
  | normal =>
    cases hex
    simp only at hk
    split at hk
    · rename_i x' hx'
      have hst' := to_head hf hl hb0 hst hkp hsl hx'
      have hkp3 : Keep wb bx (hdB d bx (encT (hdT d) x')) := fun k c0 hk0 hok => by
        unfold hdB
        rw [bHead_keep]
        · exact hk0
        · intro hm
          rw [allW_ok hw k hm] at hok; cases hok
      refine Code.wp_mono (fun _ _ _ hq => ?_) (ihy (h2 x' h' hk) hst')
      exact CPost.after (bs2 := []) (by simpa using hq) hkp3 hsl
    · exact hk.elim
  | exit j => cases hex; exact ⟨.exit j, e', bs2, bx', h', rfl, hk, hst, hkp2, hsl.sub fun t ht => List.mem_append_left _ ht⟩
  | ret => cases hex; exact ⟨.ret, e', bs2, bx', h', rfl, hk, hst, hkp2, hsl.sub fun t ht => List.mem_append_left _ ht⟩
  | goto l => cases hex
  | panic c => cases hex
  | outgrown => cases hex

theorem block_ok {P : Program} {N : Nat} {H : Hints} {h0 : PH} {w0 : World} {id : Nat} {c : Code} {wb : WB} {e : Env} {bx : BX} {h : PH} {K : KX} {bs : BS} {a : Act} {w : World} (ih : CodeOk P N H h0 w0 c)
    (hh : den P N H c wb e bx h fun ex e' bx' h' => match ex with
      | .normal => K .normal e' bx' h'
      | .exit i => match Nat.beq i id with
        | true => K .normal e' bx' h'
        | false => K (.exit i) e' bx' h'
      | .ret => K .ret e' bx' h') (hs : ST N h0 w0 bs bx h e a w) : (Code.block id c).wp P (CPost N h0 w0 wb (wr c) bs bx a K) a w := by
  refine wp_block (Code.wp_mono ?_ (ih hh hs))
  rintro x a2 w2 ⟨ex, e', bs2, bx', h', hex, hk, hst, hkp, hsl⟩
  cases x with
  | normal => cases hex; exact ⟨.normal, e', bs2, bx', h', rfl, hk, hst, hkp, hsl⟩
  | exit j =>
    cases hex
    simp only [Exit.inBlock]
    simp only at hk
    split at hk
    · rename_i hb
      rw [if_pos (Nat.eq_of_beq_eq_true hb)]
      exact ⟨.normal, e', bs2, bx', h', rfl, hk, hst, hkp, hsl⟩
    · rename_i hb
      rw [if_neg (Nat.ne_of_beq_eq_false hb)]
      exact ⟨.exit j, e', bs2, bx', h', rfl, hk, hst, hkp, hsl⟩
  | ret => cases hex; exact ⟨.ret, e', bs2, bx', h', rfl, hk, hst, hkp, hsl⟩
  | goto l => cases hex
  | panic c => cases hex
  | outgrown => cases hex

theorem code_ok {P : Program} {N : Nat} {H : Hints} {h0 : PH} {w0 : World} : ∀ (c : Code), CodeOk P N H h0 w0 c
  | .skip => fun _ _ _ _ _ _ _ _ hh hs => wp_skip (.refl rfl hh hs)
  | .exit id => fun _ _ _ _ _ _ _ _ hh hs => wp_exit (.refl rfl hh hs)
  | .ret => fun _ _ _ _ _ _ _ _ hh hs => wp_ret (.refl rfl hh hs)
  | .region id ops draw => fun wb e bx h K bs a w hh hs => by
    unfold den at hh
    split at hh
    · exact wp_region_list (denOps_ok hh hs fun e' bs2 bx' h' a' w' hk hst hkp hsl => ⟨.normal, e', bs2, bx', h', rfl, hk, hst, hkp, hsl⟩)
    · split at hh
      · rename_i hok
        simp only [Bool.and_eq_true] at hok
        obtain ⟨hok, hm, hle⟩ := hok
        obtain ⟨g, i, hF, hf⟩ := hs
        refine wp_region_any hm ?_
        have hF2 : Frm h0 w0 g { w with drawn := w.drawn + 1 } := hF.trans ⟨hF.inn, Nat.le_refl _, fun _ _ e => ⟨e, rfl⟩, rfl, rfl⟩
        have := draw_ok (Q := CPost N h0 w0 wb (wr (.region id ops true)) bs bx a K) hok (fun c a w => CPost.panic c a w) CPost.out hh i hF2 hf (fun j hj => by
            rcases Nat.lt_or_ge j ops.size with h | h
            · simp [h] at hj
            · simp [Nat.not_lt.2 h] at hj) (D := []) (fun p hp => by cases hp)
          (fun e' bs2 bx' h' a' w' hk hst hkp hsl => ⟨.normal, e', bs2, bx', h', rfl, hk, hst, hkp, hsl⟩) ops.size (Nat.le_of_ble_eq_true hle)
        exact wpC_any (this.1 rfl)
      · exact hh.elim
  | .seq x y => fun _ _ _ _ _ _ _ _ hh hs => by
    unfold den at hh
    split at hh
    · rename_i d hd
      split at hh
      · rename_i hw
        exact join_ok (code_ok x) (code_ok y) hw hh hs
      · exact hh.elim
    refine wp_seq (Code.wp_mono ?_ (code_ok x hh hs))
    rintro z a2 w2 ⟨ex, e', bs2, bx', h', hex, hk, hst, hkp, hsl⟩
    cases z with
    | normal =>
      cases hex
      exact Code.wp_mono (fun _ _ _ hq => CPost.after hq hkp hsl) (code_ok y hk hst)
    | exit j => cases hex; exact ⟨.exit j, e', bs2, bx', h', rfl, hk, hst, hkp, hsl.sub fun t ht => List.mem_append_left _ ht⟩
    | ret => cases hex; exact ⟨.ret, e', bs2, bx', h', rfl, hk, hst, hkp, hsl.sub fun t ht => List.mem_append_left _ ht⟩
    | goto l => cases hex
    | panic c => cases hex
    | outgrown => cases hex
  | .cond c x y => fun wb e bx h K bs a w hh hs => by
    unfold den at hh
    have left : den P N H x wb e bx h K → x.wp P (CPost N h0 w0 wb (wr (.cond c x y)) bs bx a K) a w := fun hh => Code.wp_mono (fun _ _ _ hq => CPost.sub hq fun t ht => List.mem_append_left _ ht) (code_ok x hh hs)
    have right : den P N H y wb e bx h K → y.wp P (CPost N h0 w0 wb (wr (.cond c x y)) bs bx a K) a w := fun hh => Code.wp_mono (fun _ _ _ hq => CPost.sub hq fun t ht => List.mem_append_right _ ht) (code_ok y hh hs)
    have hf : Fits N bs e a := by obtain ⟨_, _, _, hf⟩ := hs; exact hf
    split at hh
    · rename_i hc
      exact wp_cond_true (opv_ok hc hf trivial) (left hh)
    · rename_i hc
      exact wp_cond_false (opv_ok hc hf trivial) (right hh)
    · rename_i t hc
      exact wp_cond_split (opv_ok hc hf trivial).1 (fun e => left (hh.1 e)) (fun e => right (hh.2 e))
    · exact hh.elim
  | .block id (.loop c) => fun _ _ _ _ _ _ _ _ hh hs => by
    rw [den] at hh
    split at hh
    · rename_i d hd hw
      rw [hd] at hw
      split at hh
      · rename_i x0 hx0
        exact loop_ok (code_ok c) hw hx0 hh hs
      · exact hh.elim
    · exact hh.elim
  | .block id .skip => fun _ _ _ _ _ _ _ _ hh hs => block_ok (code_ok .skip) (by rw [den] at hh <;> first | exact hh | (intro c' e; cases e)) hs
  | .block id (.region a b c) => fun _ _ _ _ _ _ _ _ hh hs => block_ok (code_ok (.region a b c)) (by rw [den] at hh <;> first | exact hh | (intro c' e; cases e)) hs
  | .block id (.seq x y) => fun _ _ _ _ _ _ _ _ hh hs => block_ok (code_ok (.seq x y)) (by rw [den] at hh <;> first | exact hh | (intro c' e; cases e)) hs
  | .block id (.cond c x y) => fun _ _ _ _ _ _ _ _ hh hs => block_ok (code_ok (.cond c x y)) (by rw [den] at hh <;> first | exact hh | (intro c' e; cases e)) hs
  | .block id (.block i c) => fun _ _ _ _ _ _ _ _ hh hs => block_ok (code_ok (.block i c)) (by rw [den] at hh <;> first | exact hh | (intro c' e; cases e)) hs
  | .block id (.exit i) => fun _ _ _ _ _ _ _ _ hh hs => block_ok (code_ok (.exit i)) (by rw [den] at hh <;> first | exact hh | (intro c' e; cases e)) hs
  | .block id .ret => fun _ _ _ _ _ _ _ _ hh hs => block_ok (code_ok .ret) (by rw [den] at hh <;> first | exact hh | (intro c' e; cases e)) hs
  | .block id (.rangeFunc a b c d) => fun _ _ _ _ _ _ _ _ hh hs => block_ok (code_ok (.rangeFunc a b c d)) (by rw [den] at hh <;> first | exact hh | (intro c' e; cases e)) hs
  | .block id (.scope c) => fun _ _ _ _ _ _ _ _ hh hs => block_ok (code_ok (.scope c)) (by rw [den] at hh <;> first | exact hh | (intro c' e; cases e)) hs
  | .block id (.label c) => fun _ _ _ _ _ _ _ _ hh hs => block_ok (code_ok (.label c)) (by rw [den] at hh <;> first | exact hh | (intro c' e; cases e)) hs
  | .block id (.goto c) => fun _ _ _ _ _ _ _ _ hh hs => block_ok (code_ok (.goto c)) (by rw [den] at hh <;> first | exact hh | (intro c' e; cases e)) hs
  | .block id (.refuse c) => fun _ _ _ _ _ _ _ _ hh hs => block_ok (code_ok (.refuse c)) (by rw [den] at hh <;> first | exact hh | (intro c' e; cases e)) hs
  | .loop c => fun _ _ _ _ _ _ _ _ hh hs => by simp [den] at hh
  | .rangeFunc a b c d => fun _ _ _ _ _ _ _ _ hh hs => by simp [den] at hh
  | .scope c => fun _ _ _ _ _ _ _ _ hh hs => by simp [den] at hh
  | .label c => fun _ _ _ _ _ _ _ _ hh hs => by simp [den] at hh
  | .goto c => fun _ _ _ _ _ _ _ _ hh hs => by simp [den] at hh
  | .refuse c => fun _ _ _ _ _ _ _ _ hh hs => by simp [den] at hh

end TL

namespace TL
open Go

theorem Sem.bind_pure' {α : Type} (s : Sem α) : s.bind Sem.pure = s := by
  induction s <;> simp only [Sem.bind] <;> first | (congr 1; funext x; rename_i ih; exact ih x) | (rename_i ih; rw [ih]) | rfl
theorem Sem.bind_assoc' {α β γ : Type} (s : Sem α) (f : α → Sem β) (g : β → Sem γ) : (s.bind f).bind g = s.bind fun a => (f a).bind g := by
  induction s <;> simp only [Sem.bind] <;> first | (congr 1; funext x; rename_i ih; exact ih x) | (rename_i ih; rw [ih]) | rfl
theorem semLawful : LawfulMonad Sem := LawfulMonad.mk' Sem (id_map := fun s => Sem.bind_pure' s) (pure_bind := fun _ _ => rfl) (bind_assoc := fun s f g => Sem.bind_assoc' s f g)

def okE0 : E0 → Prop
  | .v x => one1 x = true
  | .lit _ => True
  | .fn x => one1 x = true
  | .agg cs => chOk cs
  | _ => False
def okE0s : List E0 → Prop
  | [] => True
  | x :: r => okE0 x ∧ okE0s r
theorem okE0_ok {x : E0} {v : Value} (h : okE0 x) (hv : val x = some v) : e0Ok [] x v := by
  cases x <;> simp only [val, Option.some.injEq, reduceCtorEq] at hv <;> subst hv
  · exact ⟨rfl, h⟩
  · exact rfl
  · exact ⟨h, rfl⟩
  · exact ⟨rfl, h⟩
theorem env0_ok : ∀ {xs : List E0} {vs : List Value} (i : Nat) (pre : List Value) (n : Nat), vals xs = some vs → okE0s xs → pre.length = i →
    ∀ p ∈ env0 xs i, evOk ((pre ++ vs).toArray ++ Array.replicate n undef) [] p.2 (((pre ++ vs).toArray ++ Array.replicate n undef).getD p.1 undef)
  | [], _, _, _, _, _, _, _ => by simp [env0]
  | x :: r, vs, i, pre, n, hv, ho, hi => by
    simp only [vals] at hv
    split at hv
    · rename_i v vs' h1 h2
      cases hv
      intro p hp
      simp only [env0] at hp
      rcases List.mem_cons.1 hp with rfl | hp
      · have : ((pre ++ v :: vs').toArray ++ Array.replicate n undef).getD i undef = v := by
          rw [← hi, Array.getD_eq_getD_getElem?, Array.getElem?_append_left (by simp)]; simp
        simp only [this]
        exact okE0_ok ho.1 h1
      · have := env0_ok (i + 1) (pre ++ [v]) n h2 ho.2 (by simp [hi]) p hp
        simpa using this
    · cases hv
theorem vals_len : ∀ {xs : List E0} {vs : List Value}, vals xs = some vs → vs.length = xs.length
  | [], vs, h => by simp [vals] at h; subst h; rfl
  | x :: r, vs, h => by
    simp only [vals] at h
    split at h
    · rename_i v vs' h1 h2
      cases h
      simp [vals_len h2]
    · cases h

/-! ### Results -/
def res1 (tmps : Array Value) : ResultVar → Sem Value
  | .tmp t => pure (tmps.getD t undef)
  | .cell a t => do loadVar t (← asAddr (tmps.getD a undef))
theorem results_eq (fn : Func) (tmps : Array Value) : results fn tmps = (fn.results.toList.mapM (res1 tmps) >>= fun vs =>
    pure (if h : vs.length = 1 then vs[0] else .tuple vs.toArray)) := by
  have := semLawful
  unfold results
  have e : (fun x => match x with
    | ResultVar.tmp t => (pure (tmps.getD t undef) : Sem Value)
    | .cell a t => do loadVar t (← asAddr (tmps.getD a undef))) = res1 tmps := by
    funext x; cases x <;> rfl
  rw [← e, Array.mapM_eq_mapM_toList]
  simp only [map_eq_pure_bind, bind_assoc, pure_bind]
  congr 1
theorem denRes1_ok {P : Program} {N : Nat} {bs : BS} {e : Env} {a : Act} {bx : BX} {h g : PH} {r : ResultVar} {K : Value → Prop} (hh : denRes1 P e bx h r K) (hf : Fits N bs e a) (i : Inv bs bx h g) :
    ∃ v, ro P (res1 a.tmps r) g = some v ∧ K v := by
  cases r with
  | tmp t =>
    simp only [denRes1] at hh
    split at hh
    · rename_i x hx
      split at hh
      · rename_i v hv
        have := val_ok hv (opv_ok hx hf trivial)
        exact ⟨v, by rw [← this]; rfl, hh⟩
      · exact hh.elim
    · exact hh.elim
  | cell t ty =>
    simp only [denRes1] at hh
    split at hh
    · rename_i x hx
      let o : Oper := { (default : Oper) with op := .load ty (.tmp t) }
      have hst : denStep P [] o none e bx h (fun r _ _ _ => match r with
          | .one y => match val y with
            | some v => K v
            | none => False
          | _ => False) := by
        simp only [denStep, o, hx]; exact hh
      obtain ⟨r, c, v, h1, h2, h3, _, h4⟩ := load_ok hst rfl hf trivial i
      split at h1
      · rename_i y
        split at h1
        · rename_i u hu
          have hv : v = u := val_ok hu h2
          subst hv
          have := h4 g h3
          refine ⟨v, ?_, h1⟩
          have e1 : execOp a.eval o = (Instr.loadAt ty (a.eval (.tmp t)) >>= fun v => pure (Next.value v)) := rfl
          have e2 : ∀ v : Value, ∀ b, ro P (Instr.sureAddr v) g = some b → ro P (asAddr v) g = some b := fun v b hb => by
            unfold Instr.sureAddr at hb
            unfold asAddr
            split at hb
            · exact hb
            · cases hb
          rw [e1, ro_bind] at this
          have e3 : ro P (Instr.loadAt ty (a.eval (.tmp t))) g = some v := by
            cases hl : ro P (Instr.loadAt ty (a.eval (.tmp t))) g with
            | none => rw [hl] at this; cases this
            | some u =>
              rw [hl] at this
              have h5 : ro P (pure (Next.value u) : Sem Next) g = some (.value u) := rfl
              rw [Option.bind_some, h5] at this
              cases this; rfl
          have e4 : ro P (Instr.sureAddr (a.eval (.tmp t)) >>= loadVar ty) g = some v := e3
          show ro P (asAddr (a.tmps.getD t undef) >>= loadVar ty) g = some v
          rw [ro_bind] at e4 ⊢
          cases hs : ro P (Instr.sureAddr (a.eval (.tmp t))) g with
          | none => rw [hs] at e4; cases e4
          | some b =>
            rw [hs] at e4
            have h6 : ro P (asAddr (a.tmps.getD t undef)) g = some b := e2 _ b hs
            rw [h6]; exact e4
        · exact h1.elim
      · exact h1.elim
    · exact hh.elim
theorem denRess_ok {P : Program} {N : Nat} {bs : BS} {e : Env} {a : Act} {bx : BX} {h g : PH} (hf : Fits N bs e a) (i : Inv bs bx h g) : ∀ {rs : List ResultVar} {K : List Value → Prop}, denRess P e bx h rs K →
    ∃ vs, ro P (rs.mapM (res1 a.tmps)) g = some vs ∧ vs.length = rs.length ∧ K vs
  | [], K, hh => ⟨[], rfl, rfl, hh⟩
  | r :: rs, K, hh => by
    have := semLawful
    obtain ⟨v, h1, h2⟩ := denRes1_ok hh hf i
    obtain ⟨vs, h3, h4, h5⟩ := denRess_ok hf i h2
    refine ⟨v :: vs, ?_, by simp [h4], h5⟩
    rw [List.mapM_cons, ro_bind, h1, Option.bind_some, ro_bind, h3]; rfl
theorem denRet_ok {P : Program} {N : Nat} {bs : BS} {e : Env} {a : Act} {bx : BX} {h g : PH} {fn : Func} {K : Value → PH → Prop} (hh : denRet P fn.results.toList e bx h K) (hf : Fits N bs e a) (i : Inv bs bx h g) :
    ∃ v, ro P (results fn a.tmps) g = some v ∧ K v h := by
  have := semLawful
  rw [results_eq]
  unfold denRet at hh
  split at hh
  · rename_i hr
    rw [hr]
    exact ⟨_, rfl, hh⟩
  · rename_i r hr
    obtain ⟨v, h1, h2⟩ := denRes1_ok hh hf i
    refine ⟨v, ?_, h2⟩
    rw [hr, ro_bind, List.mapM_cons, ro_bind, h1, Option.bind_some]; rfl
  · rename_i rs hn0 hn1
    obtain ⟨vs, h1, h2, h3⟩ := denRess_ok hf i hh
    refine ⟨_, ?_, h3⟩
    rw [ro_bind, h1, Option.bind_some]
    have : vs.length ≠ 1 := by
      rw [h2]
      intro e
      obtain ⟨r, hr⟩ := List.length_eq_one_iff.1 e
      exact hn1 r hr
    rw [dif_neg this]; rfl

theorem denF_sound {P : Program} {f : FuncId} {fn : Func} {H : Hints} {xs : List E0} {vs : List Value} {K : Value → PH → Prop} {h : PH} (hf : P.funcs[f]? = some fn) (hv : vals xs = some vs) (hok : okE0s xs) (hh : denF P fn H xs K h) : CallH P f vs K h := by
  intro w hi
  unfold denF at hh
  split at hh
  · rename_i c hb hle
    have hle := Nat.le_of_ble_eq_true hle
    have hlen := vals_len hv
    refine calls_of_wp hf hb ?_
    have hfit : Fits fn.ntmps [] (env0 xs 0) { tmps := vs.toArray ++ Array.replicate (fn.ntmps - vs.toArray.size) undef, defers := [] } :=
      ⟨by simpa using env0_ok 0 [] (fn.ntmps - vs.toArray.size) hv hok rfl, by simp; omega, rfl⟩
    have hinv : Inv [] [] h h := ⟨rfl, by simp, by simp, by simp, by simp⟩
    refine Code.wp_mono ?_ (code_ok c hh ⟨h, hinv, Frm.refl hi, hfit⟩)
    rintro x a' w' ⟨ex, e', bs2, bx', h', hex, hk, ⟨g, i, hF, hf'⟩, _, _⟩
    simp only [List.nil_append] at i hf'
    have fin : denRet P fn.results.toList e' bx' h' K → ∃ v, (results fn a'.tmps).run P w' = .ok v w' ∧ ∃ v' h'', Ending.returned v = .returned v' ∧ K v' h'' ∧ Frm h w h'' w' := fun hd => by
      obtain ⟨v, h1, h2⟩ := denRet_ok hd hf' i
      refine ⟨v, ro_run h1 hF.inn, v, h', rfl, h2, ⟨fun b o e => hF.inn b o (i.sub b o e), hF.size, fun b hb e => ?_, hF.os, hF.out⟩⟩
      obtain ⟨e1, e2⟩ := hF.old b hb e
      refine ⟨?_, e2⟩
      cases e3 : h' b with
      | none => rfl
      | some o => rw [i.sub b o e3] at e1; cases e1
    cases x with
    | normal => cases hex; exact ⟨hf'.defs, fin hk⟩
    | ret => cases hex; exact ⟨hf'.defs, fin hk⟩
    | exit j => cases hex; exact hk.elim
    | goto l => cases hex
    | panic c => cases hex
    | outgrown => cases hex
  · exact hh.elim

/-- a text that holds, shut -/
structure Den (p : Prop) : Prop where
  ok : p
theorem den_of {A B : Prop} (h : @Eq Prop A B) (a : A) : Den B := ⟨cast h a⟩
theorem denF_sound' {P : Program} {f : FuncId} {fn : Func} {H : Hints} {xs : List E0} {vs : List Value} {K : Value → PH → Prop} {h : PH} (hf : P.funcs[f]? = some fn) (hv : vals xs = some vs) (hok : okE0s xs) (hh : Den (denF P fn H xs K h)) : CallH P f vs K h :=
  denF_sound hf hv hok hh.ok

end TL
