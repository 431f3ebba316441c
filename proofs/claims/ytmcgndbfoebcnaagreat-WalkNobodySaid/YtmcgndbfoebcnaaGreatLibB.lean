/-
  The denotation library, part J: boxes and the heap together; reading memory. No condition.
-/
import Derived.Test.YtmcgndbfoebcnaaGreatLibA
import Derived.Laws.Append
namespace TL
open Go

/-- the heap g holds the heap h and, beside it, the boxes -/
structure Inv (bs : BS) (bx : BX) (h g : PH) : Prop where
  len : bs.length = bx.length
  nd : ∀ (i j b : Nat) (T : TypeId) (b' : Nat) (T' : TypeId), bs[i]? = some (b, T) → bs[j]? = some (b', T') → b = b' → i = j
  out : ∀ (k b : Nat) (T : TypeId), bs[k]? = some (b, T) → h b = none
  box : ∀ (k b : Nat) (T : TypeId) (c : List Ch), bs[k]? = some (b, T) → nthB bx k = some c → chOk c ∧ g b = some (.cells (flat c).toArray T (0, 0))
  off : ∀ x : Nat, (∀ (k b : Nat) (T : TypeId), bs[k]? = some (b, T) → x ≠ b) → g x = h x
theorem PH.Sub.refl (h : PH) : h.Sub h := fun _ _ e => e
theorem PH.Sub.trans {a b c : PH} (x : a.Sub b) (y : b.Sub c) : a.Sub c := fun p o e => y p o (x p o e)
theorem PH.Sub.new {h g : PH} (x : h.Sub g) {r : Nat} (hr : g r = none) (o : Obj) : h.Sub (g.upd r o) := fun b u e => by
  rw [PH.upd_old o hr (x b u e)]
theorem Inv.sub {bs : BS} {bx : BX} {h g : PH} (i : Inv bs bx h g) : h.Sub g := fun b o e => by
  rw [i.off b (fun k b' T hk hb => by subst hb; rw [i.out k b T hk] at e; cases e)]; exact e
theorem nthB_lt : ∀ {bx : BX} {k : Nat}, k < bx.length → ∃ c, nthB bx k = some c
  | c :: _, 0, _ => ⟨c, rfl⟩
  | _ :: r, k + 1, h => by
    obtain ⟨c, hc⟩ := nthB_lt (bx := r) (k := k) (by simpa using h)
    exact ⟨c, hc⟩
theorem nthB_some_lt : ∀ {bx : BX} {k : Nat} {c : List Ch}, nthB bx k = some c → k < bx.length
  | [], k, c, h => by cases k <;> simp [nthB] at h
  | _ :: _, 0, _, _ => by simp
  | _ :: r, k + 1, c, h => by
    have := nthB_some_lt (bx := r) (k := k) (c := c) h
    simp only [List.length_cons]; omega
theorem bs_lt {bs : BS} {k : Nat} {p : Nat × TypeId} (h : bs[k]? = some p) : k < bs.length := (List.getElem?_eq_some_iff.1 h).1
theorem Inv.at {bs : BS} {bx : BX} {h g : PH} (i : Inv bs bx h g) {k : Nat} {c : List Ch} (hc : nthB bx k = some c) : ∃ b T, bs[k]? = some (b, T) ∧ chOk c ∧ g b = some (.cells (flat c).toArray T (0, 0)) := by
  have hk : k < bs.length := by rw [i.len]; exact nthB_some_lt hc
  obtain ⟨⟨b, T⟩, hb⟩ : ∃ p, bs[k]? = some p := ⟨bs[k], List.getElem?_eq_getElem hk⟩
  exact ⟨b, T, hb, i.box k b T c hb hc⟩

theorem rds_some {g : PH} {b o n : Nat} {vs : List Value} (h : g.rds b o n = some vs) : ∃ c T fr, g b = some (.cells c T fr) ∧ o + n ≤ c.size ∧ vs = (c.toList.drop o).take n := by
  unfold PH.rds at h
  split at h
  · rename_i c T fr hb
    split at h
    · rename_i hle
      simp at h; exact ⟨c, _, _, hb, hle, h.symm⟩
    · cases h
  · cases h
theorem rds_sub {h g : PH} (hs : h.Sub g) {b o n : Nat} {vs : List Value} (e : h.rds b o n = some vs) : g.rds b o n = some vs := by
  obtain ⟨c, T, fr, hb, hle, rfl⟩ := rds_some e
  unfold PH.rds
  rw [hs _ _ hb]; simp [hle]
theorem rds_len {g : PH} {b o n : Nat} {vs : List Value} (h : g.rds b o n = some vs) : vs.length = n := by
  obtain ⟨c, T, fr, hb, hle, rfl⟩ := rds_some h
  simp; omega

theorem ro_load {P : Program} {g : PH} {b o : Nat} {c : Array Value} {T : TypeId} {fr : Nat × Nat} {v : Value} (hb : g b = some (.cells c T fr)) (hv : c[o]? = some v) : ro P (load ⟨b, o, none⟩) g = some v := by
  show ro P (.load _ _ _) g = _
  simp [ro, hb, hv]
theorem ro_loadCellsFrom {P : Program} {g : PH} {b o : Nat} {c : Array Value} {T : TypeId} {fr : Nat × Nat} (hb : g b = some (.cells c T fr)) : ∀ (n i : Nat) (acc : Array Value), o + i + n ≤ c.size →
    ro P (loadCellsFrom ⟨b, o, none⟩ i n acc) g = some (acc ++ ((c.toList.drop (o + i)).take n).toArray)
  | 0, i, acc, _ => by simp [loadCellsFrom, ro_pure]
  | n + 1, i, acc, h => by
    have hlt : o + i < c.size := by omega
    rw [loadCellsFrom, ro_bind, addr_add, ro_load hb (Array.getElem?_eq_getElem hlt), Option.bind_some, ro_loadCellsFrom hb n (i + 1) _ (by omega)]
    congr 1
    apply Array.toList_inj.1
    have hd : c.toList.drop (o + i) = c[o + i] :: c.toList.drop (o + i + 1) := by
      rw [List.drop_eq_getElem_cons (by simpa using hlt)]; simp
    simp [hd, Nat.add_assoc]
theorem ro_loadCells {P : Program} {g : PH} {b o n : Nat} {vs : List Value} (h : g.rds b o n = some vs) : ro P (loadCells ⟨b, o, none⟩ n) g = some vs.toArray := by
  obtain ⟨c, T, fr, hb, hle, rfl⟩ := rds_some h
  have := ro_loadCellsFrom (P := P) (o := o) hb n 0 #[] (by omega)
  unfold loadCells
  rw [this]; simp
theorem ro_isAgg' {P : Program} {g : PH} {t : TypeId} {d : TypeDesc} (hd : P.underlying t = some d) : ro P (isAgg t) g = some (aggT P t) := by
  rw [ro_isAgg, hd, aggT_of hd]; cases d <;> rfl
theorem ro_loadVar {P : Program} {bs : BS} {t : TypeId} {b o : Nat} {cs : List Ch} {x : E0} (hx : toE P t cs = some x) (hc : chOk cs) :
    ∃ v, e0Ok bs x v ∧ ∀ g, PH.rds g b o (sizeT P t) = some (flat cs) → ro P (loadVar t ⟨b, o, none⟩) g = some v := by
  obtain ⟨v, hv, ⟨d, hd⟩, h3, h4⟩ := toE_ok (bs := bs) hx hc
  obtain ⟨i, hi⟩ := info_of_underlying hd
  refine ⟨v, hv, fun g hr => ?_⟩
  unfold loadVar
  rw [ro_bind, ro_isAgg' hd, Option.bind_some]
  cases ha : aggT P t with
  | true =>
    rw [if_pos rfl, ro_bind, ro_sizeOf, hi, Option.map_some, Option.bind_some, ← sizeT_of hi, ro_bind, ro_loadCells hr, h3 ha]; rfl
  | false =>
    rw [if_neg (by simp)]
    have hl := rds_len hr
    rw [h4 ha] at hr hl
    obtain ⟨c, T, fr, hb, hle, hq⟩ := rds_some hr
    simp at hl
    rw [← hl] at hq hle
    refine ro_load hb ?_
    have hlt : o < c.size := by omega
    have hd' : c.toList.drop o = c[o] :: c.toList.drop (o + 1) := by
      rw [List.drop_eq_getElem_cons (by simpa using hlt)]; simp
    rw [hd'] at hq
    simp at hq
    rw [Array.getElem?_eq_getElem hlt, hq]

theorem exTy_ok {t : Ty} {K : Value → Prop} (h : exTy t K) : ∃ v, one1 v = true ∧ K v := by
  cases t <;> simp only [exTy] at h
  case slice => obtain ⟨a, n, c, h⟩ := h; exact ⟨_, rfl, h⟩
  case any => exact h
  case fn => exact h
  all_goals (obtain ⟨x, h⟩ := h; exact ⟨_, rfl, h⟩)
theorem exCh_ok : ∀ {ts : List TCh} {K : List Ch → Prop}, exCh ts K → ∃ cs, chOk cs ∧ K cs
  | [], K, h => ⟨[], trivial, h⟩
  | .one t :: r, K, h => by
    obtain ⟨v, hv, h⟩ := exTy_ok h
    obtain ⟨cs, hc, h⟩ := exCh_ok h
    exact ⟨.one v :: cs, ⟨hv, hc⟩, h⟩
  | .ints k n :: r, K, ⟨l, hl, h⟩ => by
    obtain ⟨cs, hc, h⟩ := exCh_ok h
    exact ⟨.ints k n l :: cs, ⟨hl, hc⟩, h⟩
  | .raw n :: r, K, ⟨l, hl, h⟩ => by
    obtain ⟨cs, hc, h⟩ := exCh_ok h
    exact ⟨.raw n l :: cs, ⟨hl.1, hl.2, hc⟩, h⟩

/-- what a reader read still lies there -/
def CG (bs : BS) (bx : BX) (c : Cl) (g : PH) : Prop := match c with
  | .heap p => ∃ h, PH.Sub h g ∧ p h
  | .loc k off n => ∃ b T c0, bs[k]? = some (b, T) ∧ nthB bx k = some c0 ∧ g.rds b off n = some (((flat c0).drop off).take n)

theorem Inv.rds {bs : BS} {bx : BX} {h g : PH} (i : Inv bs bx h g) {k off n : Nat} {c : List Ch} (hc : nthB bx k = some c) (hle : off + n ≤ chN c) : CG bs bx (.loc k off n) g := by
  obtain ⟨b, T, hb, ho, hg⟩ := i.at hc
  refine ⟨b, T, c, hb, hc, ?_⟩
  unfold PH.rds
  rw [hg]
  have := chN_flat ho
  simp [this, hle]

theorem rowOf_get {k : IntKind} {n : Nat} {cs : List Ch} {l : List Int} {i : Nat} (h : rowOf k n cs = some l) (hn : chN cs = n) (ho : chOk cs) (hi : i < n) : (flat cs)[i]? = some (.int k (l.getD i 0)) := by
  obtain ⟨e1, e2⟩ := rowOf_ok h hn ho
  rw [e1]; simp [e2, hi]

/-- what a claim says of the heap and the boxes at the time of reading -/
def CR (bx : BX) (h : PH) : Cl → Prop
  | .heap p => p h
  | .loc k off n => ∃ c0, nthB bx k = some c0 ∧ off + n ≤ chN c0
theorem load_ok {P : Program} {N : Nat} {priv : List Nat} {bs : BS} {e : Env} {G : Grd} {a : Act} {o : Oper} {bx : BX} {h g : PH} {K : KK} (hh : denStep P priv o G e bx h K) (hl : isLoad o = true)
    (hf : Fits N bs e a) (hg : GT G a) (hi : Inv bs bx h g) : ∃ r c v, K r (some c) bx h ∧ rsOk bs r v ∧ CG bs bx c g ∧ CR bx h c ∧ ∀ g', CG bs bx c g' → ro P (execOp a.eval o) g' = some (.value v) := by
  obtain ⟨dst, op, type, pos, after, guard⟩ := o
  cases op <;> simp [isLoad] at hl
  rename_i t x
  simp only [denStep] at hh
  split at hh
  · rename_i y hy
    have hv := opv_ok hy hf hg
    unfold denLoad at hh
    split at hh
    · rename_i b o
      obtain ⟨cs, hc, hh⟩ := exCh_ok hh
      split at hh
      · rename_i r hr
        obtain ⟨v, h1, h2⟩ := ro_loadVar (bs := bs) (b := b) (o := o) hr hc
        refine ⟨_, _, v, hh.2, h1, ⟨h, hi.sub, hh.1⟩, hh.1, ?_⟩
        rintro g' ⟨h', hs, hp⟩
        refine ro_v ?_
        rw [hv.1]
        show ro P (do loadVar t (← Instr.sureAddr _)) g' = _
        rw [ro_bind, show ro P (Instr.sureAddr (.pointer (some ⟨b, o, none⟩))) g' = some ⟨b, o, none⟩ from rfl, Option.bind_some]
        exact h2 g' (rds_sub hs (imp_of hp hg))
      · exact hh.elim
    · rename_i k o
      split at hh
      · rename_i c hcb
        split at hh
        · rename_i cs hcs
          split at hh
          · rename_i r hr
            obtain ⟨b, T, hb, hco, _⟩ := hi.at hcb
            obtain ⟨e1, e2, e3, e4⟩ := chGet_ok hcs hco
            obtain ⟨v, h1, h2⟩ := ro_loadVar (bs := bs) (b := b) (o := o) hr e3
            refine ⟨_, _, v, hh, h1, hi.rds hcb e4, ⟨_, hcb, e4⟩, ?_⟩
            rintro g' ⟨b', T', c', hb', hc', hr'⟩
            rw [hb] at hb'; rw [hcb] at hc'
            cases hb'; cases hc'
            obtain ⟨b'', T'', hb'', hv⟩ := hv
            rw [hb] at hb''; cases hb''
            refine ro_v ?_
            rw [hv]
            show ro P (do loadVar t (← Instr.sureAddr _)) g' = _
            rw [ro_bind, show ro P (Instr.sureAddr (.pointer (some ⟨b, o, none⟩))) g' = some ⟨b, o, none⟩ from rfl, Option.bind_some]
            exact h2 g' (by rw [e1]; exact hr')
          · exact hh.elim
        · exact hh.elim
      · exact hh.elim
    · rename_i k o n i
      split at hh
      · rename_i c kk hcb hu
        split at hh
        · rename_i cs hcs
          split at hh
          · rename_i l hrow
            have hin := imp_of hh.1 hg
            obtain ⟨b, T, hb, hco, _⟩ := hi.at hcb
            obtain ⟨e1, e2, e3, e4⟩ := chGet_ok hcs hco
            refine ⟨_, _, _, hh.2, ⟨rfl, rfl⟩, hi.rds hcb e4, ⟨_, hcb, e4⟩, ?_⟩
            rintro g' ⟨b', T', c', hb', hc', hr'⟩
            rw [hb] at hb'; rw [hcb] at hc'
            cases hb'; cases hc'
            obtain ⟨b'', T'', hb'', hv⟩ := hv
            rw [hb] at hb''; cases hb''
            refine ro_v ?_
            rw [hv]
            show ro P (do loadVar t (← Instr.sureAddr _)) g' = _
            rw [ro_bind, show ro P (Instr.sureAddr (.pointer (some ⟨b, o + i, none⟩))) g' = some ⟨b, o + i, none⟩ from rfl, Option.bind_some]
            unfold loadVar
            rw [ro_bind, ro_isAgg' hu, aggT_of hu, Option.bind_some, if_neg (by simp [aggD])]
            obtain ⟨cc, T', fr, hgb, hle, hq⟩ := rds_some hr'
            refine ro_load hgb ?_
            have hget := rowOf_get hrow e2 e3 hin
            rw [e1, hq] at hget
            simpa [List.getElem?_take, hin] using hget
          · exact hh.elim
        · exact hh.elim
      · exact hh.elim
    · exact hh.elim
  · exact hh.elim

end TL

namespace TL
open Go

theorem PH.upd_upd (h : PH) (b : Nat) (x y : Obj) : (h.upd b x).upd b y = h.upd b y := by
  funext z; unfold PH.upd; split <;> rfl
theorem PH.upd_self {h : PH} {b : Nat} {o : Obj} (e : h b = some o) : h.upd b o = h := by
  funext z; unfold PH.upd; split
  · rename_i hz; subst hz; exact e.symm
  · rfl

theorem Inv.newHeap {bs : BS} {bx : BX} {h g : PH} (i : Inv bs bx h g) {r : Nat} (hr : g r = none) (o : Obj) : Inv bs bx (h.upd r o) (g.upd r o) := by
  have nb : ∀ k b T, bs[k]? = some (b, T) → b ≠ r := fun k b T hk hb => by
    obtain ⟨c, hc⟩ := nthB_lt (bx := bx) (k := k) (by rw [← i.len]; exact bs_lt hk)
    have := (i.box k b T c hk hc).2
    rw [hb, hr] at this; cases this
  refine ⟨i.len, i.nd, fun k b T hk => ?_, fun k b T c hk hc => ⟨(i.box k b T c hk hc).1, ?_⟩, fun x hx => ?_⟩
  · rw [PH.upd_ne _ _ (nb k b T hk)]; exact i.out k b T hk
  · rw [PH.upd_ne _ _ (nb k b T hk)]; exact (i.box k b T c hk hc).2
  · unfold PH.upd; split
    · rfl
    · exact i.off x hx
theorem Inv.setHeap {bs : BS} {bx : BX} {h g : PH} (i : Inv bs bx h g) {r : Nat} {o0 : Obj} (hr : h r = some o0) (o : Obj) : Inv bs bx (h.upd r o) (g.upd r o) := by
  have nb : ∀ k b T, bs[k]? = some (b, T) → b ≠ r := fun k b T hk hb => by
    have := i.out k b T hk
    rw [hb, hr] at this; cases this
  refine ⟨i.len, i.nd, fun k b T hk => ?_, fun k b T c hk hc => ⟨(i.box k b T c hk hc).1, ?_⟩, fun x hx => ?_⟩
  · rw [PH.upd_ne _ _ (nb k b T hk)]; exact i.out k b T hk
  · rw [PH.upd_ne _ _ (nb k b T hk)]; exact (i.box k b T c hk hc).2
  · unfold PH.upd; split
    · rfl
    · exact i.off x hx
theorem nthB_append : ∀ {bx : BX} {k : Nat} {c d : List Ch}, nthB (bx ++ [d]) k = some c → (k < bx.length ∧ nthB bx k = some c) ∨ (k = bx.length ∧ c = d)
  | [], 0, c, d, h => by simp [nthB] at h; exact .inr ⟨rfl, h.symm⟩
  | [], k + 1, c, d, h => by simp [nthB] at h
  | x :: r, 0, c, d, h => by simp [nthB] at h; exact .inl ⟨by simp, by simp [nthB, h]⟩
  | x :: r, k + 1, c, d, h => by
    rcases nthB_append (bx := r) (k := k) (c := c) (d := d) h with ⟨h1, h2⟩ | ⟨h1, h2⟩
    · exact .inl ⟨by simp; omega, h2⟩
    · exact .inr ⟨by simp [h1], h2⟩
theorem nthB_append_l : ∀ {bx : BX} {k : Nat} (l : BX), k < bx.length → nthB (bx ++ l) k = nthB bx k
  | x :: r, 0, l, _ => rfl
  | x :: r, k + 1, l, h => nthB_append_l (bx := r) l (by simpa using h)
theorem Inv.newBox {bs : BS} {bx : BX} {h g : PH} (i : Inv bs bx h g) {r : Nat} (hr : g r = none) (T : TypeId) {cs : List Ch} (hc : chOk cs) :
    Inv (bs ++ [(r, T)]) (bx ++ [cs]) h (g.upd r (.cells (flat cs).toArray T (0, 0))) := by
  have nb : ∀ k b T, bs[k]? = some (b, T) → b ≠ r := fun k b T hk hb => by
    obtain ⟨c, hc⟩ := nthB_lt (bx := bx) (k := k) (by rw [← i.len]; exact bs_lt hk)
    have := (i.box k b T c hk hc).2
    rw [hb, hr] at this; cases this
  have part : ∀ k b T', (bs ++ [(r, T)])[k]? = some (b, T') → (k < bs.length ∧ bs[k]? = some (b, T')) ∨ (k = bs.length ∧ b = r ∧ T' = T) := fun k b T' hk => by
    rcases Nat.lt_trichotomy k bs.length with hl | hl | hl
    · rw [List.getElem?_append_left hl] at hk; exact .inl ⟨hl, hk⟩
    · subst hl; simp at hk; exact .inr ⟨rfl, hk.1.symm, hk.2.symm⟩
    · have : (bs ++ [(r, T)])[k]? = none := List.getElem?_eq_none (by simp; omega)
      rw [this] at hk; cases hk
  refine ⟨by simp [i.len], fun k j b T1 b' T2 hk hj e => ?_, fun k b T' hk => ?_, fun k b T' c hk hc' => ?_, fun x hx => ?_⟩
  · rcases part _ _ _ hk with ⟨h1, h2⟩ | ⟨h1, h2, _⟩ <;> rcases part _ _ _ hj with ⟨h3, h4⟩ | ⟨h3, h4, _⟩
    · exact i.nd _ _ _ _ _ _ h2 h4 e
    · exact absurd (e.trans h4) (nb _ _ _ h2)
    · exact absurd (e.symm.trans h2) (nb _ _ _ h4)
    · omega
  · rcases part _ _ _ hk with ⟨h1, h2⟩ | ⟨h1, h2, _⟩
    · exact i.out _ _ _ h2
    · subst h2
      cases hh : h b with
      | none => rfl
      | some o => rw [i.sub _ _ hh] at hr; cases hr
  · rcases part _ _ _ hk with ⟨h1, h2⟩ | ⟨h1, h2, h3⟩
    · rcases nthB_append hc' with ⟨h4, h5⟩ | ⟨h4, _⟩
      · obtain ⟨e1, e2⟩ := i.box _ _ _ _ h2 h5
        exact ⟨e1, by rw [PH.upd_ne _ _ (nb _ _ _ h2)]; exact e2⟩
      · rw [i.len] at h1; omega
    · subst h2 h3
      rcases nthB_append hc' with ⟨h4, h5⟩ | ⟨h4, h5⟩
      · rw [i.len] at h1; omega
      · subst h5; exact ⟨hc, PH.upd_same _ _ _⟩
  · have hx1 : x ≠ r := hx bs.length r T (by simp)
    rw [PH.upd_ne _ _ hx1]
    exact i.off x fun k b T' hk => hx k b T' (by rw [List.getElem?_append_left (bs_lt hk)]; exact hk)
theorem nthB_setB : ∀ {bx : BX} {k j : Nat} {c : List Ch}, nthB (setB bx k c) j = if j = k ∧ k < bx.length then some c else nthB bx j
  | [], k, j, c => by cases j <;> simp [setB, nthB]
  | x :: r, 0, 0, c => by simp [setB, nthB]
  | x :: r, 0, j + 1, c => by simp [setB, nthB]
  | x :: r, k + 1, 0, c => by simp [setB, nthB]
  | x :: r, k + 1, j + 1, c => by
    have := nthB_setB (bx := r) (k := k) (j := j) (c := c)
    simp only [setB, nthB, this, List.length_cons]
    by_cases e : j = k ∧ k < r.length
    · rw [if_pos e, if_pos (by omega)]
    · rw [if_neg e, if_neg (by omega)]
theorem setB_len : ∀ {bx : BX} {k : Nat} {c : List Ch}, (setB bx k c).length = bx.length
  | [], _, _ => rfl
  | _ :: _, 0, _ => rfl
  | _ :: r, k + 1, c => by simp [setB, setB_len (bx := r)]
theorem Inv.setBox {bs : BS} {bx : BX} {h g : PH} (i : Inv bs bx h g) {k b : Nat} {T : TypeId} (hk : bs[k]? = some (b, T)) {c : List Ch} (hc : chOk c) : Inv bs (setB bx k c) h (g.upd b (.cells (flat c).toArray T (0, 0))) := by
  have hkl : k < bx.length := by rw [← i.len]; exact bs_lt hk
  refine ⟨by rw [setB_len]; exact i.len, i.nd, i.out, fun j b' T' d hj hd => ?_, fun x hx => ?_⟩
  · rw [nthB_setB] at hd
    split at hd
    · rename_i e
      obtain ⟨rfl, _⟩ := e
      rw [hk] at hj; cases hj
      simp at hd; subst hd
      exact ⟨hc, PH.upd_same _ _ _⟩
    · rename_i e
      obtain ⟨e1, e2⟩ := i.box j b' T' d hj hd
      refine ⟨e1, ?_⟩
      rw [PH.upd_ne _ _ (fun hb => e ⟨i.nd j k b' T' b T hj hk hb, hkl⟩)]
      exact e2
  · rw [PH.upd_ne _ _ (hx k b T hk)]
    exact i.off x hx

/-! ### Runs that write -/
section
variable {P : Program} {g : PH}
theorem hp_new {o : Obj} {Q : Nat → PH → Prop} (h : ∀ r, g r = none → Q r (g.upd r o)) : hp P (newObj o) Q g := h
theorem hp_newVar {t : TypeId} {v : Value} {Q : Addr → PH → Prop} (h : ∀ r, g r = none → Q ⟨r, 0, none⟩ (g.upd r (.cells v.cells t (0, 0)))) : hp P (newVar t v) Q g := by
  unfold newVar newRow
  rw [hp_bind]
  exact hp_new fun r hr => h r hr
theorem hp_newRow {t : TypeId} {c : Array Value} {Q : Addr → PH → Prop} (h : ∀ r, g r = none → Q ⟨r, 0, none⟩ (g.upd r (.cells c t (0, 0)))) : hp P (newRow t c) Q g := by
  unfold newRow
  rw [hp_bind]
  exact hp_new fun r hr => h r hr
end
theorem splice_nil (c : Array Value) (o : Nat) : splice c o [] = c := by
  apply Array.toList_inj.1; simp [splice]
theorem splice_size {c : Array Value} {o : Nat} {vs : List Value} (h : o + vs.length ≤ c.size) : (splice c o vs).size = c.size := by
  simp [splice]; omega
theorem splice_cons {c : Array Value} {o : Nat} {v : Value} {vs : List Value} (h : o + (vs.length + 1) ≤ c.size) : splice (c.setIfInBounds o v) (o + 1) vs = splice c o (v :: vs) := by
  apply Array.toList_inj.1
  have h1 : o < c.toList.length := by simp; omega
  simp only [splice, Array.toList_setIfInBounds, List.length_cons]
  have e1 : (c.toList.set o v).take (o + 1) = c.toList.take o ++ [v] := by
    rw [set_as_splice _ _ _ h1]
    rw [List.take_append_of_le_length (by simp; omega)]
    rw [List.take_of_length_le (by simp; omega)]
  have e2 : (c.toList.set o v).drop (o + 1 + vs.length) = c.toList.drop (o + (vs.length + 1)) := by
    rw [List.drop_set_of_lt (by omega)]
    congr 1; omega
  rw [e1, e2]; simp
theorem hp_storeCells {P : Program} {b o : Nat} {T : TypeId} {fr : Nat × Nat} {Q : Unit → PH → Prop} : ∀ (vs : List Value) (i : Nat) (g : PH) (c : Array Value), g b = some (.cells c T fr) → Unfr c fr →
    o + i + vs.length ≤ c.size → (∀ v ∈ vs, one1 v = true) → Q () (g.upd b (.cells (splice c (o + i) vs) T fr)) → hp P (storeCells ⟨b, o, none⟩ vs i) Q g
  | [], i, g, c, hb, hu, hl, h1, hq => by
    rw [splice_nil, PH.upd_self hb] at hq; exact hq
  | v :: vs, i, g, c, hb, hu, hl, h1, hq => by
    simp only [List.length_cons] at hl
    rw [storeCells, hp_bind, addr_add]
    show hp P (.store _ _ _ _) _ g
    refine ⟨rfl, h1 v List.mem_cons_self, c, T, fr, hb, by show o + i < c.size; omega, hu, ?_⟩
    refine hp_storeCells vs (i + 1) _ _ (PH.upd_same _ _ _) ?_ (by simp; omega) (fun u hu => h1 u (List.mem_cons_of_mem _ hu)) ?_
    · unfold Unfr at *; simpa using hu
    · rw [PH.upd_upd]
      have := splice_cons (c := c) (o := o + i) (v := v) (vs := vs) (by omega)
      rw [show o + (i + 1) = o + i + 1 by omega, this]
      exact hq

/-- the callee runs beside the boxes -/
theorem CallH.beside {P : Program} {f : FuncId} {vs : List Value} {Q : Value → PH → Prop} {bs : BS} {bx : BX} {h g : PH} (hc : CallH P f vs Q h) (i : Inv bs bx h g) :
    CallH P f vs (fun v g' => ∃ h', Q v h' ∧ Inv bs bx h' g') g := by
  intro w hw
  have hin : h.In w := fun b o e => hw b o (i.sub b o e)
  refine (hc w hin).mono ?_
  rintro e w' ⟨v, h', rfl, hq, hF⟩
  classical
  let g' : PH := fun x => match h' x with
    | some o => some o
    | none => if ∃ (k b : Nat) (T : TypeId), bs[k]? = some (b, T) ∧ x = b then g x else none
  have outs : ∀ k b T, bs[k]? = some (b, T) → h' b = none ∧ w'.heap[b]? = w.heap[b]? := fun k b T hk => by
    obtain ⟨c, hcb⟩ := nthB_lt (bx := bx) (k := k) (by rw [← i.len]; exact bs_lt hk)
    exact hF.old b (hw.lt (i.box k b T c hk hcb).2) (i.out k b T hk)
  have at_box : ∀ k b T, bs[k]? = some (b, T) → g' b = g b := fun k b T hk => by
    simp only [g', (outs k b T hk).1]
    rw [if_pos ⟨k, b, T, hk, rfl⟩]
  refine ⟨v, g', rfl, ⟨h', hq, i.len, i.nd, fun k b T hk => (outs k b T hk).1, fun k b T c hk hcb => ⟨(i.box k b T c hk hcb).1, ?_⟩, fun x hx => ?_⟩, fun b o e => ?_, hF.size, fun b hb e => ?_, hF.os, hF.out⟩
  · rw [at_box k b T hk]; exact (i.box k b T c hk hcb).2
  · simp only [g']
    cases h' x with
    | some o => rfl
    | none => rw [if_neg (fun ⟨k, b, T, hk, e⟩ => hx k b T hk e)]
  · simp only [g'] at e
    cases hh : h' b with
    | some u => rw [hh] at e; simp at e; subst e; exact hF.inn b u hh
    | none =>
      rw [hh] at e
      simp only at e
      split at e
      · rename_i hex
        obtain ⟨k, b', T, hk, rfl⟩ := hex
        rw [(outs k b T hk).2]; exact hw b o e
      · cases e
  · have hb' : h b = none := by
      cases hh : h b with
      | none => rfl
      | some o => rw [i.sub b o hh] at e; cases e
    obtain ⟨e1, e2⟩ := hF.old b hb hb'
    refine ⟨?_, e2⟩
    simp only [g', e1]
    split
    · exact e
    · rfl

end TL

namespace TL
open Go

/-- what an operation that writes leaves -/
def EffPost (o : Oper) (bs : BS) (bx : BX) (h _ : PH) (K : KK) (v : Value) (g' : PH) : Prop :=
  ∃ r c bs2 bx' h', K r c bx' h' ∧ Inv (bs ++ bs2) bx' h' g' ∧ (r = .skip ∨ rsOk (bs ++ bs2) r v) ∧
    (∀ k c0, nthB bx k = some c0 → (∀ off n, ¬ (r = .skip ∧ c = some (.loc k off n))) → nthB bx' k = some c0) ∧
    (∀ k off n, r = .skip → c = some (.loc k off n) → h' = h ∧ ∀ c0, nthB bx k = some c0 → ∃ c1, nthB bx' k = some c1 ∧ chN c1 = chN c0 ∧
      ∀ off' n', (off + n ≤ off' ∨ off' + n' ≤ off) → ((flat c1).drop off').take n' = ((flat c0).drop off').take n') ∧
    (grows o = true → h.Sub h')

/-- nothing of the boxes is written -/
theorem EffPost.heap {o : Oper} {bs : BS} {bx : BX} {h g : PH} {K : KK} {v : Value} {g' h' : PH} {r : Rs} (hk : K r none bx h') (i : Inv bs bx h' g') (hr : r = .skip ∨ rsOk bs r v) (hg : grows o = true → h.Sub h') :
    EffPost o bs bx h g K v g' :=
  ⟨r, none, [], bx, h', hk, by simpa using i, by simpa using hr, (fun _ _ e _ => e), (fun _ _ _ _ e => by cases e), hg⟩
theorem EffPost.box {o : Oper} {bs : BS} {bx : BX} {h g : PH} {K : KK} {v : Value} {r0 : Nat} {T : TypeId} {cs : List Ch} {r : Rs} (hk : K r none (bx ++ [cs]) h) (i : Inv bs bx h g) (hr0 : g r0 = none) (hc : chOk cs)
    (hr : rsOk (bs ++ [(r0, T)]) r v) : EffPost o bs bx h g K v (g.upd r0 (.cells (flat cs).toArray T (0, 0))) :=
  ⟨r, none, [(r0, T)], bx ++ [cs], h, hk, i.newBox hr0 T hc, .inr hr, (fun k c0 e _ => by rw [nthB_append_l _ (nthB_some_lt e)]; exact e), (fun _ _ _ _ e => by cases e),
    fun _ => PH.Sub.refl h⟩

theorem nx_v {P : Program} {Q : Value → PH → Prop} {s : Sem Value} {g : PH} (h : hp P s Q g) : hp P (do pure (Next.value (← s))) (nx P Q) g := by
  rw [hp_bind]; exact h
theorem nx_u {P : Program} {Q : Value → PH → Prop} {s : Sem Unit} {g : PH} (h : hp P s (fun _ => Q undef) g) : hp P (do s; pure Next.skip) (nx P Q) g := by
  rw [hp_bind]; exact h

theorem denNew_ok {priv : List Nat} {o : Oper} {T : TypeId} {cs : List Ch} {bs : BS} {bx : BX} {h g : PH} {K : KK} (hh : denNew priv o.dst T cs bx h K) (i : Inv bs bx h g) (hc : chOk cs) (r : Nat) (hr : g r = none) :
    EffPost o bs bx h g K (.pointer (some ⟨r, 0, none⟩)) (g.upd r (.cells (flat cs).toArray T (0, 0))) := by
  unfold denNew at hh
  split at hh
  · split at hh
    · refine .box hh i hr hc ⟨r, T, ?_, rfl⟩
      rw [← i.len]; simp
    · have hr' : h r = none := by
        cases e : h r with
        | none => rfl
        | some o => rw [i.sub _ _ e] at hr; cases hr
      exact .heap (hh r hr') (i.newHeap hr _) (.inr ⟨rfl, rfl⟩) fun _ => (PH.Sub.refl h).new hr' _
  · exact hh.elim
theorem denNewSl_ok {priv : List Nat} {o : Oper} {T : TypeId} {n : Nat} {cs : List Ch} {bs : BS} {bx : BX} {h g : PH} {K : KK} (hh : denNewSl priv o.dst T n cs bx h K) (i : Inv bs bx h g) (hc : chOk cs) (r : Nat) (hr : g r = none) :
    EffPost o bs bx h g K (.slice (some ⟨r, 0, none⟩) n n) (g.upd r (.cells (flat cs).toArray T (0, 0))) := by
  unfold denNewSl at hh
  split at hh
  · split at hh
    · refine .box hh i hr hc ⟨r, T, ?_, rfl⟩
      rw [← i.len]; simp
    · have hr' : h r = none := by
        cases e : h r with
        | none => rfl
        | some o => rw [i.sub _ _ e] at hr; cases hr
      exact .heap (hh r hr') (i.newHeap hr _) (.inr ⟨rfl, rfl⟩) fun _ => (PH.Sub.refl h).new hr' _
  · exact hh.elim

theorem catC_len : ∀ (n : Nat) (z : List Ch), (flat (catC n z)).length = n * (flat z).length
  | 0, z => by simp [catC, flat]
  | n + 1, z => by simp [catC, flat_append, catC_len n z, Nat.succ_mul, Nat.add_comm]
theorem catC_get (z : List Ch) : ∀ (n i : Nat), i < n * (flat z).length → (flat (catC n z))[i]? = (flat z)[i % (flat z).length]?
  | 0, i, h => by simp at h
  | n + 1, i, h => by
    rw [catC, flat_append]
    rcases Nat.lt_or_ge i (flat z).length with hl | hl
    · rw [List.getElem?_append_left hl, Nat.mod_eq_of_lt hl]
    · rw [List.getElem?_append_right hl, catC_get z n _ (by rw [Nat.succ_mul] at h; omega)]
      congr 1
      rw [Nat.mod_eq_sub_mod hl]
theorem catC_ok {z : List Ch} (hz : chOk z) : ∀ n, chOk (catC n z)
  | 0 => trivial
  | n + 1 => chOk_append.2 ⟨hz, catC_ok hz n⟩
theorem catC_cells {z : List Ch} (n : Nat) : (Array.range (n * (flat z).length)).map (fun i => (flat z).toArray[i % (flat z).toArray.size]!) = (flat (catC n z)).toArray := by
  apply Array.ext_getElem?
  intro i
  rcases Nat.lt_or_ge i (n * (flat z).length) with h | h
  · have hp : 0 < (flat z).length := by
      rcases Nat.eq_zero_or_pos (flat z).length with h0 | h0
      · rw [h0] at h; simp at h
      · exact h0
    have hm := Nat.mod_lt i hp
    rw [show (flat (catC n z)).toArray[i]? = (flat (catC n z))[i]? from by simp, catC_get z n i h]
    simp [h, hm]
  · rw [Array.getElem?_eq_none (by simpa using h), show (flat (catC n z)).toArray[i]? = (flat (catC n z))[i]? from by simp, List.getElem?_eq_none (by rw [catC_len]; exact h)]

theorem buildS_ok {P : Program} {N : Nat} {bs : BS} {e : Env} {a : Act} {el : TypeId} {n : Nat} {ps : List (Nat × Operand)} {cs : List Ch} (h : buildS P e el n ps = some cs) (hf : Fits N bs e a) :
    ∃ i z zc, P.info? el = some i ∧ i.zero = some z ∧ z.cells = (flat zc).toArray ∧ i.size = (flat zc).length ∧ chOk cs ∧
      Instr.fill (fun j => some (j * i.size, i.size)) (flat (catC n zc)).toArray (ps.map fun p => (p.1, a.eval p.2)) = some (flat cs).toArray := by
  unfold buildS at h
  split at h
  · rename_i zc i hz hi
    obtain ⟨i', z, hi', hzv, hcz, hok, hn⟩ := zeroE_ok hz
    rw [hi] at hi'; cases hi'
    obtain ⟨e1, e2, _⟩ := fillE_ok hf h (catC_ok hok n)
    exact ⟨_, z, zc, hi, hzv, hcz, by rw [chN_flat hok, hn], e2, e1⟩
  · cases h

theorem hp_buildSlice {P : Program} {t el : TypeId} {n : Nat} {i : TypeInfo} {z : Value} {zc cs : List Ch} {ps : List (Nat × Value)} {g : PH} {Q : Value → PH → Prop} (hu : P.underlying t = some (.slice el)) (hi : P.info? el = some i) (hz : i.zero = some z)
    (hzc : z.cells = (flat zc).toArray) (hs : i.size = (flat zc).length) (hle : n * i.size ≤ 16777216) (hfill : Instr.fill (fun j => some (j * i.size, i.size)) (flat (catC n zc)).toArray ps = some (flat cs).toArray)
    (hq : ∀ r, g r = none → Q (.slice (some ⟨r, 0, none⟩) n n) (g.upd r (.cells (flat cs).toArray el (0, 0)))) : hp P (Instr.buildSlice t n ps.toArray) Q g := by
  unfold Instr.buildSlice
  rw [hp_bind]
  refine ro_hp (by rw [ro_underlying, hu]) ?_
  simp only []
  rw [hp_bind]
  refine ro_hp (by rw [ro_sizeOf, hi]; rfl) ?_
  simp only []
  rw [if_neg (by omega)]
  by_cases h0 : n * i.size = 0
  · rw [if_pos h0, hp_bind]
    refine ro_hp (ro_pure _) ?_
    have hl := catC_len n zc
    rw [← hs, h0] at hl
    rw [List.eq_nil_of_length_eq_zero hl] at hfill
    have hz0 : ∀ f : Nat → Value, (Array.range 0).map f = #[] := fun f => by simp
    simp only [h0, hz0, hfill]
    rw [hp_bind]
    exact hp_newRow hq
  · rw [if_neg h0, hp_bind]
    refine ro_hp (ro_zeroValue hi hz) ?_
    rw [hp_bind]
    refine ro_hp (ro_pure _) ?_
    have hcc := catC_cells (z := zc) n
    rw [← hs] at hcc
    simp only [hzc, hcc, hfill]
    rw [hp_bind]
    exact hp_newRow hq

theorem hp_storeVar {P : Program} {t : TypeId} {b o : Nat} {v : Value} {cs : List Ch} {c : Array Value} {T : TypeId} {fr : Nat × Nat} {g : PH} {Q : Unit → PH → Prop} {i : TypeInfo} (hi : P.info? t = some i) (hv : v.cells = (flat cs).toArray) (hc : chOk cs) (hn : chN cs = i.size)
    (hb : g b = some (.cells c T fr)) (hu : Unfr c fr) (hl : o + chN cs ≤ c.size) (hq : Q () (g.upd b (.cells (splice c o (flat cs)) T fr))) : hp P (Instr.storeAt t (.pointer (some ⟨b, o, none⟩)) v) Q g := by
  unfold Instr.storeAt
  rw [hp_bind]
  show hp P (storeVar t ⟨b, o, none⟩ v) Q g
  unfold storeVar
  rw [hp_bind]
  refine ro_hp (by rw [ro_sizeOf, hi]; rfl) ?_
  have hlen := chN_flat hc
  rw [if_neg (by rw [hv]; simp [hlen, hn]), hv]
  exact hp_storeCells (flat cs) 0 g c hb hu (by rw [hlen]; omega) (flat_one1 hc) hq

theorem splice_lit {l : List Value} {o : Nat} {vs : List Value} : splice l.toArray o vs = (l.take o ++ vs ++ l.drop (o + vs.length)).toArray := rfl

theorem range_keep {l l' vs : List Value} {off : Nat} (h : l' = l.take off ++ vs ++ l.drop (off + vs.length)) (hl : off + vs.length ≤ l.length) (off' n' : Nat) (hd : off + vs.length ≤ off' ∨ off' + n' ≤ off) : (l'.drop off').take n' = (l.drop off').take n' := by
  apply List.ext_getElem?
  intro j
  simp only [List.getElem?_take, List.getElem?_drop]
  split
  · rename_i hj
    rw [h]
    rcases hd with hd | hd
    · rw [List.getElem?_append_right (by simp; omega), List.getElem?_drop]
      congr 1
      simp; omega
    · rw [List.append_assoc, List.getElem?_append_left (by simp; omega), List.getElem?_take_of_lt (by omega)]
  · rfl

end TL

namespace TL
open Go

theorem callF_body {P : Program} {n : FuncId} {args : Array Value} {g : PH} (h : hasBody P n = true) : ro P (callFunc n args) g = some (.enter n args) := by
  unfold hasBody at h
  split at h
  · rename_i fn hf
    split at h
    · rename_i b hb
      unfold callFunc
      rw [ro_bind, ro_program, Option.bind_some]
      simp only [hf]
      have hn : (fn.name == "runtime.NumGoroutine") = false := by simpa using h
      rw [hn]
      simp [hb, ro_pure]
    · cases h
  · cases h

theorem exRes_ok {P : Program} {bs : BS} : ∀ {ts : List TypeId} {K : List E0 → List Value → Prop}, exRes P ts K → ∃ xs vs, e0sOk bs xs vs ∧ K xs vs
  | [], K, h => ⟨[], [], trivial, h⟩
  | t :: r, K, h => by
    simp only [exRes] at h
    obtain ⟨cs, hc, h⟩ := exCh_ok h
    split at h
    · rename_i x hx
      split at h
      · rename_i v hv
        obtain ⟨u, hu, _⟩ := toE_ok (bs := bs) hx hc
        have := val_ok hv hu
        subst this
        obtain ⟨xs, vs, h1, h2⟩ := exRes_ok h
        exact ⟨x :: xs, u :: vs, ⟨hu, h1⟩, h2⟩
      · exact h.elim
    · exact h.elim
theorem callK_ok {P : Program} {bs : BS} {ts : List TypeId} {bx : BX} {K : KK} {v : Value} {h : PH} (hh : callK P ts bx K v h) : ∃ r, (r = .skip ∨ rsOk bs r v) ∧ K r none bx h := by
  unfold callK at hh
  split at hh
  · exact ⟨.skip, .inl rfl, hh⟩
  · obtain ⟨cs, hc, hh⟩ := exCh_ok hh
    split at hh
    · rename_i x hx
      split at hh
      · rename_i u hu
        obtain ⟨hv, hk⟩ := hh
        obtain ⟨w, hw, _⟩ := toE_ok (bs := bs) hx hc
        have := val_ok hu hw
        subst this hv
        exact ⟨.one x, .inr hw, hk⟩
      · exact hh.elim
    · exact hh.elim
  · obtain ⟨xs, vs, h1, rfl, h2⟩ := exRes_ok (bs := bs) hh
    exact ⟨.tup xs, .inr ⟨vs, rfl, h1⟩, h2⟩

theorem CallH.mono {P : Program} {f : FuncId} {vs : List Value} {K K' : Value → PH → Prop} {h : PH} (hc : CallH P f vs K h) (hk : ∀ v h', K v h' → K' v h') : CallH P f vs K' h :=
  fun w hw => (hc w hw).mono fun _ _ ⟨v, h', e, k, f⟩ => ⟨v, h', e, hk v h' k, f⟩

theorem call_post {P : Program} {o : Oper} {bs : BS} {bx : BX} {h g : PH} {K : KK} {t : TypeId} {n : FuncId} {vs : List Value} (hg : grows o = false) (hh : CallH P n vs (callK P (resT P t) bx K) h) (i : Inv bs bx h g) :
    CallH P n vs (EffPost o bs bx h g K) g :=
  (CallH.beside hh i).mono fun v g' ⟨h', hk, i'⟩ => by
    obtain ⟨r, hr, hk⟩ := callK_ok (bs := bs) hk
    exact .heap hk i' hr (by rw [hg]; intro h; cases h)

/-- a store into the heap, seen beside the boxes -/
theorem stH_hp {P : Program} {bs : BS} {bx : BX} {h g : PH} {b o : Nat} {vs : List Value} {K : PH → Prop} {Q : Unit → PH → Prop} (hh : stH h b o vs K) (i : Inv bs bx h g) (h1 : ∀ v ∈ vs, one1 v = true)
    (hq : ∀ h' g', K h' → Inv bs bx h' g' → Q () g') : hp P (storeCells ⟨b, o, none⟩ vs) Q g := by
  obtain ⟨c, T, fr, hb, hu, hl, hk⟩ := hh
  exact hp_storeCells vs 0 g c (i.sub _ _ hb) hu (by simpa using hl) h1 (hq _ _ hk (i.setHeap hb _))

theorem srcH_ro {P : Program} {h g : PH} {a : Option Addr} {n c sz m : Nat} {vs : List Value} (hs : srcH h a (m * sz) vs) (hsub : h.Sub g) (hn : a = none → m * sz = 0) : ro P (Builtin.firstCells sz m (.slice a n c)) g = some vs.toArray := by
  obtain ⟨hl, _, hs⟩ := hs
  cases a with
  | none =>
    have : vs = [] := List.eq_nil_of_length_eq_zero (by rw [hl, hn rfl])
    subst this; rfl
  | some a =>
    rcases hs with h0 | ⟨b, o, he, hr⟩
    · have hv : vs = [] := List.eq_nil_of_length_eq_zero (by rw [hl, h0])
      subst hv
      show ro P (loadCells a (m * sz)) g = _
      rw [h0]; rfl
    · cases he
      exact ro_loadCells (rds_sub hsub hr)
theorem srcH_one {h : PH} {a : Option Addr} {n : Nat} {vs : List Value} (hs : srcH h a n vs) : a = none → n = 0 := fun e => by
  subst e
  rcases hs.2.2 with h0 | ⟨b, o, he, _⟩
  · exact h0
  · cases he

theorem flat_ones : ∀ z : List Value, flat (z.map Ch.one) = z
  | [] => rfl
  | y :: r => by simp [flat, flat_ones r]
theorem toList_zeroCells (z : List Value) (n : Nat) : Builtin.zeroCells z.toArray n = (List.replicate n z).flatten.toArray := by
  have key := catC_cells (z := z.map .one) n
  rw [flat_ones] at key
  unfold Builtin.zeroCells
  have hc : ∀ n, flat (catC n (z.map Ch.one)) = (List.replicate n z).flatten := by
    intro n
    induction n with
    | zero => rfl
    | succ n ih => rw [catC, flat_append, flat_ones, ih, List.replicate_succ, List.flatten_cons]
  rw [hc] at key
  simpa using key

theorem appOk_ok {P : Program} {t : TypeId} (h : appOk P t = true) : ∃ i z, P.info? t = some i ∧ i.zero = some z ∧ z.cells = (zeroVs P t).toArray ∧ (zeroVs P t).length = i.size ∧ sizeT P t = i.size ∧ bytesT P t = i.bytes ∧ 0 < i.size ∧ 0 < i.bytes ∧ ∀ v ∈ zeroVs P t, one1 v = true := by
  unfold appOk at h
  split at h
  · rename_i bt sz h1 h2 h3
    obtain ⟨i, hi⟩ := info_of_size h3
    have hs := sizeT_of hi
    have hb : bytesT P t = i.bytes := by unfold bytesT; rw [hi]
    unfold hasZero at h1
    rw [hi] at h1
    simp only at h1
    split at h1
    · rename_i z hz
      have hzv : zeroVs P t = z.cells.toList := by unfold zeroVs; rw [hi]; simp [hz]
      refine ⟨i, z, hi, hz, by rw [hzv], by rw [hzv]; simpa using Nat.eq_of_beq_eq_true h1, hs, hb, by omega, by omega, List.all_eq_true.1 h⟩
    · cases h1
  · cases h

theorem hp_append {P : Program} {bs : BS} {bx : BX} {h g : PH} {t t2 ty el : TypeId} {d2 : TypeDesc} {x : Value} {a : Option Addr} {n c m : Nat} {vs : List Value} {K : Option Addr → Nat → Nat → PH → Prop} {Q : Value → PH → Prop}
    (hu : P.underlying t = some (.slice el)) (hok : appOk P el = true) (hu2 : P.underlying t2 = some d2) (hd2 : ∀ k, d2 ≠ .int k) (hlen : ro P (Builtin.lenOf x) g = some m)
    (hsrc : ∀ g', g.Sub g' → ro P (Builtin.firstCells (sizeT P el) m x) g' = some vs.toArray) (h1 : ∀ v ∈ vs, one1 v = true) (i : Inv bs bx h g)
    (hh : appH el (sizeT P el) (bytesT P el) (zeroVs P el) a n c m vs K h) (hq : ∀ a' n' c' h' g', K a' n' c' h' → Inv bs bx h' g' → Q (.slice a' n' c') g') :
    hp P (Builtin.append_ #[t, t2] ty #[.slice a n c, x]) Q g := by
  obtain ⟨inf, z, hi, hz, hzc, hzl, hs, hb, hs0, hb0, hz1⟩ := appOk_ok hok
  obtain ⟨hvl, hfit, hgrow⟩ := hh
  unfold Builtin.append_
  simp only [List.getElem?_toArray, List.getElem?_cons_zero, List.getElem?_cons_succ]
  rw [hp_bind]
  refine ro_hp (by rw [ro_underlying, hu]) ?_
  simp only []
  rw [hp_bind]
  refine ro_hp (by rw [ro_sizeOf, hi]; rfl) ?_
  rw [hp_bind]
  refine ro_hp (by rw [ro_underlying, hu2]) ?_
  rw [hp_bind]
  refine ro_hp (ro_pure _) ?_
  have hm : (match d2 with | .int _ => true | _ => false) = false := by cases d2 <;> first | rfl | exact absurd rfl (hd2 _)
  simp only [Bool.false_eq_true, if_false, Bool.not_false, if_true, false_or]
  rw [hp_bind]
  refine ro_hp hlen ?_
  rw [← hs]
  by_cases hle : n + m ≤ c
  · rw [if_pos hle, hp_bind]
    refine ro_hp (hsrc g (PH.Sub.refl g)) ?_
    obtain ⟨f1, f2⟩ := hfit hle
    by_cases h0 : m * sizeT P el = 0
    · have hv : vs = [] := List.eq_nil_of_length_eq_zero (by rw [hvl, h0])
      subst hv
      have hk := hq _ _ _ _ _ (f1 h0) i
      cases a with
      | none => exact hk
      | some a => exact hk
    · obtain ⟨b, o, rfl, hst⟩ := f2 h0
      simp only []
      rw [hp_bind, addr_add]
      exact stH_hp hst i h1 fun h' g' hk i' => hq _ _ _ _ _ hk i'
  · rw [if_neg hle]
    obtain ⟨hbd, olds, hold, hnew⟩ := hgrow (by omega)
    have hbd' : (n + m) * inf.bytes ≤ 140737488355328 := by rw [← hb]; exact hbd
    rw [hp_bind]
    refine ro_hp (by rw [ro_typeInfo, hi]) ?_
    rw [if_neg (by omega), hp_bind]
    refine ro_hp (by rw [ro_typeInfo, hi]) ?_
    have hfits := growslice_fits (need := n + m) (old := c) (bytes := inf.bytes) (by omega) hbd'
    rw [if_neg (by have : (2 : Nat) ^ 48 = 281474976710656 := by decide
                   omega), hp_bind]
    show hp P (.choose _ _) _ g
    simp only [hp, Question.forced, Bool.false_eq_true, if_false]
    intro tp
    have hcap1 : n + m ≤ (Question.appendCap (n + m) c el).cut tp := by simp [Question.cut]
    have hsm : n + m < 2 ^ 63 := by
      have : n + m ≤ (n + m) * inf.bytes := Nat.le_mul_of_pos_right _ hb0
      have : (2 : Nat) ^ 63 = 9223372036854775808 := by decide
      omega
    have hcap2 : (Question.appendCap (n + m) c el).cut tp ≤ 9223372036854775807 := by
      have := Nat.mod_lt tp (show 0 < 2 ^ 63 - (n + m) by omega)
      have e : (2 : Nat) ^ 63 = 9223372036854775808 := by decide
      simp only [Question.cut]
      omega
    generalize (Question.appendCap (n + m) c el).cut tp = c' at hcap1 hcap2 ⊢
    rw [hp_bind]
    refine ro_hp (by rw [ro_typeInfo, hi]) ?_
    rw [hp_bind]
    have hask : ro P (askRoom (c' * inf.bytes)) g = some () := by unfold askRoom; split <;> rfl
    refine ro_hp hask ?_
    rw [hp_bind]
    refine ro_hp (srcH_ro (c := c) hold i.sub (srcH_one hold)) ?_
    rw [hp_bind]
    refine ro_hp (hsrc g (PH.Sub.refl g)) ?_
    rw [hp_bind]
    refine ro_hp (ro_zeroValue hi hz) ?_
    rw [hp_bind]
    refine hp_newRow fun r hr => ?_
    have hr' : h r = none := by
      cases e : h r with
      | none => rfl
      | some o => rw [i.sub _ _ e] at hr; cases hr
    have hk := hnew c' hcap1 hcap2 r hr'
    have e : (olds.toArray ++ vs.toArray ++ Builtin.zeroCells z.cells (c' - (n + m)) : Array Value) = (olds ++ (vs ++ (List.replicate (c' - (n + m)) (zeroVs P el)).flatten)).toArray := by
      rw [hzc, toList_zeroCells]; simp
    show Q _ _
    rw [e]
    exact hq _ _ _ _ _ hk (i.newHeap hr _)

/-- append of zero elements -/
theorem hp_append0 {P : Program} {bs : BS} {bx : BX} {h g : PH} {t t2 ty el : TypeId} {k2 : IntKind} {a : Option Addr} {n c : Nat} {m : Int} {K : Option Addr → Nat → Nat → PH → Prop} {Q : Value → PH → Prop}
    (hu : P.underlying t = some (.slice el)) (hok : appOk P el = true) (hu2 : P.underlying t2 = some (.int k2)) (hm0 : 0 ≤ m) (hm1 : m * ((bytesT P el : Nat) : Int) ≤ 140737488355328) (i : Inv bs bx h g)
    (hh : appH el (sizeT P el) (bytesT P el) (zeroVs P el) a n c m.toNat (List.replicate m.toNat (zeroVs P el)).flatten K h) (hq : ∀ a' n' c' h' g', K a' n' c' h' → Inv bs bx h' g' → Q (.slice a' n' c') g') :
    hp P (Builtin.append_ #[t, t2] ty #[.slice a n c, .int .i64 m]) Q g := by
  obtain ⟨inf, z, hi, hz, hzc, hzl, hs, hb, hs0, hb0, hz1⟩ := appOk_ok hok
  obtain ⟨hvl, hfit, hgrow⟩ := hh
  unfold Builtin.append_
  simp only [List.getElem?_toArray, List.getElem?_cons_zero, List.getElem?_cons_succ]
  rw [hp_bind]
  refine ro_hp (by rw [ro_underlying, hu]) ?_
  simp only []
  rw [hp_bind]
  refine ro_hp (by rw [ro_sizeOf, hi]; rfl) ?_
  rw [hp_bind]
  refine ro_hp (by rw [ro_underlying, hu2]) ?_
  rw [hp_bind]
  refine ro_hp (ro_pure _) ?_
  have hmb : m ≤ 140737488355328 := by
    rw [hb] at hm1
    have : m * 1 ≤ m * (inf.bytes : Int) := Int.mul_le_mul_of_nonneg_left (by omega) hm0
    omega
  have hw : IntKind.wrap .i64 m = m := by simp [IntKind.wrap, IntKind.bits, IntKind.signed]; omega
  simp only [if_true, Bool.not_true, Bool.false_eq_true, if_false, true_or, and_true]
  rw [hp_bind]
  refine ro_hp (a := m) rfl ?_
  rw [hw, if_neg (by omega), hp_bind]
  refine ro_hp (by rw [ro_typeInfo, hi]) ?_
  rw [if_neg (by rw [hb] at hm1; have : (2 : Int) ^ 48 = 281474976710656 := by decide
                 omega)]
  rw [hp_bind]
  refine ro_hp (ro_pure _) ?_
  rw [hs] at hvl hfit hgrow
  have hsrc : ∀ g', ro P (if m.toNat * inf.size = 0 then pure #[] else do pure (Builtin.zeroCells (← zeroValue el).cells m.toNat)) g' = some (List.replicate m.toNat (zeroVs P el)).flatten.toArray := fun g' => by
    by_cases h0 : m.toNat * inf.size = 0
    · rw [if_pos h0]
      have hv : (List.replicate m.toNat (zeroVs P el)).flatten = [] := List.eq_nil_of_length_eq_zero (by rw [hvl, h0])
      rw [hv]; rfl
    · rw [if_neg h0, ro_bind, ro_zeroValue hi hz, Option.bind_some, hzc, toList_zeroCells]; rfl
  have h1 : ∀ v ∈ (List.replicate m.toNat (zeroVs P el)).flatten, one1 v = true := fun v hv => by
    obtain ⟨l, hl, hv⟩ := List.mem_flatten.1 hv
    rw [(List.mem_replicate.1 hl).2] at hv
    exact hz1 v hv
  generalize hvs : (List.replicate m.toNat (zeroVs P el)).flatten = vs at hvl hfit hgrow hsrc h1
  generalize m.toNat = m at hvl hfit hgrow hsrc
  by_cases hle : n + m ≤ c
  · rw [if_pos hle, hp_bind]
    refine ro_hp (hsrc g) ?_
    obtain ⟨f1, f2⟩ := hfit hle
    by_cases h0 : m * inf.size = 0
    · have hv : vs = [] := List.eq_nil_of_length_eq_zero (by rw [hvl, h0])
      subst hv
      have hk := hq _ _ _ _ _ (f1 h0) i
      cases a with
      | none => exact hk
      | some a => exact hk
    · obtain ⟨b, o, rfl, hst⟩ := f2 h0
      simp only []
      rw [hp_bind, addr_add]
      exact stH_hp hst i h1 fun h' g' hk i' => hq _ _ _ _ _ hk i'
  · rw [if_neg hle]
    obtain ⟨hbd, olds, hold, hnew⟩ := hgrow (by omega)
    have hbd' : (n + m) * inf.bytes ≤ 140737488355328 := by rw [← hb]; exact hbd
    rw [hp_bind]
    refine ro_hp (by rw [ro_typeInfo, hi]) ?_
    rw [if_neg (by have h7 : n + m ≤ (n + m) * inf.bytes := Nat.le_mul_of_pos_right _ hb0
                   have h8 : IntKind.max .i64 = 9223372036854775807 := by decide
                   omega), hp_bind]
    refine ro_hp (by rw [ro_typeInfo, hi]) ?_
    have hfits := growslice_fits (need := n + m) (old := c) (bytes := inf.bytes) (by omega) hbd'
    rw [if_neg (by have : (2 : Nat) ^ 48 = 281474976710656 := by decide
                   omega), hp_bind]
    show hp P (.choose _ _) _ g
    simp only [hp, Question.forced, Bool.false_eq_true, if_false]
    intro tp
    have hcap1 : n + m ≤ (Question.appendCap (n + m) c el).cut tp := by simp [Question.cut]
    have hsm : n + m < 2 ^ 63 := by
      have : n + m ≤ (n + m) * inf.bytes := Nat.le_mul_of_pos_right _ hb0
      have : (2 : Nat) ^ 63 = 9223372036854775808 := by decide
      omega
    have hcap2 : (Question.appendCap (n + m) c el).cut tp ≤ 9223372036854775807 := by
      have := Nat.mod_lt tp (show 0 < 2 ^ 63 - (n + m) by omega)
      have e : (2 : Nat) ^ 63 = 9223372036854775808 := by decide
      simp only [Question.cut]
      omega
    generalize (Question.appendCap (n + m) c el).cut tp = c' at hcap1 hcap2 ⊢
    rw [hp_bind]
    refine ro_hp (by rw [ro_typeInfo, hi]) ?_
    rw [hp_bind]
    have hask : ro P (askRoom (c' * inf.bytes)) g = some () := by unfold askRoom; split <;> rfl
    refine ro_hp hask ?_
    rw [hp_bind]
    refine ro_hp (srcH_ro (c := c) hold i.sub (srcH_one hold)) ?_
    rw [hp_bind]
    refine ro_hp (hsrc g) ?_
    rw [hp_bind]
    refine ro_hp (ro_zeroValue hi hz) ?_
    rw [hp_bind]
    refine hp_newRow fun r hr => ?_
    have hr' : h r = none := by
      cases e : h r with
      | none => rfl
      | some o => rw [i.sub _ _ e] at hr; cases hr
    have hk := hnew c' hcap1 hcap2 r hr'
    have e : (olds.toArray ++ vs.toArray ++ Builtin.zeroCells z.cells (c' - (n + m)) : Array Value) = (olds ++ (vs ++ (List.replicate (c' - (n + m)) (zeroVs P el)).flatten)).toArray := by
      rw [hzc, toList_zeroCells]; simp
    show Q _ _
    rw [e]
    exact hq _ _ _ _ _ hk (i.newHeap hr _)

end TL

namespace TL
open Go

theorem byteVs_one {s : ByteArray} : ∀ v ∈ byteVs s, one1 v = true := by
  intro v hv
  unfold byteVs at hv
  obtain ⟨x, _, rfl⟩ := List.mem_map.1 hv
  rfl

theorem EffPost.loc {o : Oper} {bs : BS} {bx : BX} {h g : PH} {K : KK} {k b off n : Nat} {T : TypeId} {c c' new : List Ch} (i : Inv bs bx h g) (hk : bs[k]? = some (b, T)) (hc : nthB bx k = some c) (hok : chOk c')
    (hcn : chN c' = chN c) (hn : chOk new) (hle : off + chN new ≤ chN c) (hnn : chN new = n) (hfl : flat c' = (flat c).take off ++ flat new ++ (flat c).drop (off + chN new)) (hco : chOk c) (hh : K .skip (some (.loc k off n)) (setB bx k c') h) (hg : grows o = false) :
    EffPost o bs bx h g K undef (g.upd b (.cells (flat c').toArray T (0, 0))) := by
  have hkl : k < bx.length := nthB_some_lt hc
  refine ⟨.skip, some (.loc k off n), [], setB bx k c', h, hh, by simpa using i.setBox hk hok, .inl rfl, fun k' c0 e hne => ?_, fun k' off' n' _ e => ?_, fun e => by rw [hg] at e; cases e⟩
  · rw [nthB_setB, if_neg (fun ⟨e1, _⟩ => hne off n ⟨rfl, by rw [e1]⟩)]; exact e
  · simp only [Option.some.injEq, Cl.loc.injEq] at e
    obtain ⟨rfl, rfl, rfl⟩ := e
    refine ⟨rfl, fun c0 e0 => ?_⟩
    rw [hc] at e0; cases e0
    refine ⟨c', by rw [nthB_setB, if_pos ⟨rfl, hkl⟩], hcn, fun p q hd => ?_⟩
    have hlen := chN_flat hn
    have hlc := chN_flat hco
    exact range_keep (vs := flat new) (off := off) (by rw [hfl, hlen]) (by rw [hlen, hlc]; exact hle) p q (by rw [hlen, hnn]; exact hd)

theorem denStore_ok {P : Program} {o : Oper} {t : TypeId} {x y : E0} {u w : Value} {bs : BS} {bx : BX} {h g : PH} {K : KK} (hh : denStore P t x y bx h K) (hx : e0Ok bs x u) (hy : e0Ok bs y w) (i : Inv bs bx h g) (hg : grows o = false) :
    hp P (do Instr.storeAt t u w; pure Next.skip) (nx P (EffPost o bs bx h g K)) g := by
  have ng : ∀ g' : PH, grows o = true → h.Sub g' := fun g' e => by rw [hg] at e; cases e
  refine nx_u ?_
  unfold denStore at hh
  split at hh
  · rename_i cs hcs
    obtain ⟨hc, hcell⟩ := chsOf_ok hcs hy
    split at hh
    · rename_i sz hsz hs
      have hsz := Nat.eq_of_beq_eq_true hsz
      have hlen := chN_flat hc
      obtain ⟨inf, hi⟩ := info_of_size hs
      have hci : chN cs = inf.size := by rw [hsz, sizeT_of hi]
      split at hh
      · rename_i b o
        obtain ⟨rfl, _⟩ := hx
        obtain ⟨c, T, fr, hb, hu, hl, hk⟩ := hh
        refine hp_storeVar hi hcell hc hci (i.sub _ _ hb) hu (by rw [hlen] at hl; exact hl) ?_
        exact .heap hk (i.setHeap hb _) (.inl rfl) (ng _)
      · rename_i k o
        obtain ⟨b, T, hb, rfl⟩ := hx
        split at hh
        · rename_i c hcb
          split at hh
          · rename_i c' hset
            obtain ⟨b', T', hb', hco, hgb⟩ := i.at hcb
            rw [hb] at hb'; cases hb'
            obtain ⟨e1, e2, e3, e4⟩ := chSet_ok hset hco hc
            have hlc := chN_flat hco
            refine hp_storeVar hi hcell hc hci hgb (.inl (Nat.le_refl _)) (by simp [hlc]; omega) ?_
            have := EffPost.loc (o := ‹Oper›) (n := sizeT P t) i hb hcb e2 e3 hc e4 hsz e1 hco hh hg
            rw [splice_lit, hlen, ← e1]
            exact this
          · exact hh.elim
        · exact hh.elim
      · rename_i k o n idx
        obtain ⟨b, T, hb, rfl⟩ := hx
        split at hh
        · rename_i c kk v hcb _hold
          split at hh
          · rename_i ds hds
            split at hh
            · rename_i l hrow
              split at hh
              · rename_i c' hset
                obtain ⟨hin, hh⟩ := hh
                obtain ⟨b', T', hb', hco, hgb⟩ := i.at hcb
                rw [hb] at hb'; cases hb'
                obtain ⟨d1, d2, d3, d4⟩ := chGet_ok hds hco
                obtain ⟨r1, r2⟩ := rowOf_ok hrow d2 d3
                have hno : chOk [Ch.ints kk n (l.set idx v)] := ⟨by simp [r2], trivial⟩
                obtain ⟨e1, e2, e3, e4⟩ := chSetG_ok hset hco hno
                have hlc := chN_flat hco
                have hnn : chN [Ch.ints kk n (l.set idx v)] = n := by simp [chN]
                refine hp_storeVar hi hcell hc hci hgb (.inl (Nat.le_refl _)) (by simp [chN, hlc]; omega) ?_
                have := EffPost.loc (o := ‹Oper›) (n := n) i hb hcb e2 e3 hno e4 hnn e1 hco hh hg
                have hsp : (splice (flat c).toArray (o + idx) (flat [Ch.one (.int kk v)])) = (flat c').toArray := by
                  rw [splice_lit, e1, hnn]
                  congr 1
                  simp only [flat, List.append_nil, List.length_singleton, List.map_set]
                  have hrr : l.map (Value.int kk) = ((flat c).drop o).take n := by rw [← r1, d1]
                  rw [hrr]
                  apply List.ext_getElem?
                  intro j
                  rw [← set_as_splice _ _ _ (by omega), List.getElem?_set]
                  by_cases hj : o + idx = j
                  · subst hj
                    rw [if_pos rfl, if_pos (by omega), List.append_assoc, List.getElem?_append_right (by simp; omega)]
                    have h1 : (List.take o (flat c)).length = o := by simp; omega
                    rw [h1, show o + idx - o = idx by omega, List.getElem?_append_left (by simp; omega), List.getElem?_set, if_pos rfl, if_pos (by simp; omega)]
                  · rw [if_neg hj, List.append_assoc]
                    rcases Nat.lt_or_ge j o with h1 | h1
                    · rw [List.getElem?_append_left (by simp; omega), List.getElem?_take_of_lt h1]
                    · rw [List.getElem?_append_right (by simp; omega)]
                      simp only [List.length_take]
                      rw [show min o (flat c).length = o by omega]
                      rcases Nat.lt_or_ge (j - o) n with h2 | h2
                      · rw [List.getElem?_append_left (by simp; omega), List.getElem?_set, if_neg (by omega), List.getElem?_take_of_lt h2, List.getElem?_drop]
                        congr 1; omega
                      · rw [List.getElem?_append_right (by simp; omega), List.getElem?_drop]
                        congr 1; simp; omega
                rw [hsp]
                exact this
              · exact hh.elim
            · exact hh.elim
          · exact hh.elim
        · exact hh.elim
      · exact hh.elim
    · exact hh.elim
  · exact hh.elim

end TL

namespace TL
open Go

theorem kdRec_ok {P : Program} {t : TypeId} {fs : List Field} {d : KD} (h : kdRec P t fs = some d) : ∃ f g k k', fs = [f, g] ∧ d = .rec2 k k' ∧ (f.name == "_") = false ∧ (g.name == "_") = false ∧
    P.underlying f.type = some (.int k) ∧ P.underlying g.type = some (.int k') ∧ f.offset = 0 ∧ g.offset = 1 ∧ sizeT P f.type = 1 ∧ sizeT P g.type = 1 ∧ P.stoodInHeld t = false := by
  unfold kdRec at h
  split at h
  · split at h
    · split at h
      · simp at h
        rename_i k k' h1 h2 h3 h4 h5 h6 _ _ _ h7 h8 h9
        exact ⟨_, _, _, _, rfl, h.symm, h1, h2, h3, h4, Nat.eq_of_beq_eq_true h5, Nat.eq_of_beq_eq_true h6, Nat.eq_of_beq_eq_true h7, Nat.eq_of_beq_eq_true h8, h9⟩
      · cases h
    · cases h
  · cases h
/-- what a kind says of the type -/
theorem kdOf_ok {P : Program} {t : TypeId} {d : KD} (h : kdOf P t = some d) : match d with
    | .int k => P.underlying t = some (.int k)
    | .str => P.underlying t = some .string
    | .arr k n => ∃ e, P.underlying t = some (.array n e) ∧ P.underlying e = some (.int k) ∧ sizeT P e = 1
    | .rec2 k k' => ∃ fs f g, P.underlying t = some (.struct fs) ∧ fs.toList = [f, g] ∧ (f.name == "_") = false ∧ (g.name == "_") = false ∧
        P.underlying f.type = some (.int k) ∧ P.underlying g.type = some (.int k') ∧ f.offset = 0 ∧ g.offset = 1 ∧ sizeT P f.type = 1 ∧ sizeT P g.type = 1 ∧ P.stoodInHeld t = false := by
  unfold kdOf at h
  split at h
  · rename_i hu; simp at h; subst h; exact hu
  · rename_i hu; simp at h; subst h; exact hu
  · rename_i hu
    split at h
    · rename_i h1 h2; simp at h; subst h; exact ⟨_, hu, h1, h2⟩
    · cases h
  · rename_i fs hu
    obtain ⟨f, g, k, k', h1, rfl, h2⟩ := kdRec_ok h
    exact ⟨fs, f, g, hu, h1, h2⟩
  · cases h

theorem isIntK_ok {k : IntKind} {v : Value} (h : isIntK k v = true) : v = .int k (intV v) := by
  cases v <;> simp [isIntK] at h
  rw [kEq_eq h]; rfl
theorem ints_of {k : IntKind} : ∀ {l : List Value}, l.all (isIntK k) = true → l = (l.map intV).map (Value.int k)
  | [], _ => rfl
  | v :: r, h => by
    simp only [List.all_cons, Bool.and_eq_true] at h
    simp only [List.map_cons]
    rw [← isIntK_ok h.1, ← ints_of h.2]
theorem arr_ok {k : IntKind} {n : Nat} {v : Value} (h : kOk (.arr k n) v = true) : ∃ l : List Int, v = .agg (l.map (Value.int k)).toArray ∧ l.length = n := by
  cases v <;> simp [kOk] at h
  rename_i a
  refine ⟨a.toList.map intV, ?_, by simpa using h.1⟩
  rw [← ints_of (List.all_eq_true.2 fun x hx => by
    obtain ⟨i, hi, e⟩ := List.getElem_of_mem hx
    rw [← e]; exact h.2 i (by simpa using hi))]
theorem rec_ok {k k' : IntKind} {v : Value} (h : kOk (.rec2 k k') v = true) : ∃ x y : Int, v = .agg #[.int k x, .int k' y] := by
  cases v <;> simp [kOk] at h
  rename_i a
  split at h
  · rename_i x y hl
    simp only [Bool.and_eq_true] at h
    refine ⟨intV x, intV y, ?_⟩
    rw [← isIntK_ok h.1, ← isIntK_ok h.2]
    congr 1
    apply Array.toList_inj.1; exact hl
  · cases h
theorem str_ok {v : Value} (h : kOk .str v = true) : ∃ s, v = .string s := by
  cases v <;> simp [kOk] at h
  exact ⟨_, rfl⟩
theorem int_ok {k : IntKind} {v : Value} (h : kOk (.int k) v = true) : ∃ n, v = .int k n := ⟨_, isIntK_ok h⟩

theorem intV_map (k : IntKind) : ∀ l : List Int, (l.map (Value.int k)).map intV = l
  | [] => rfl
  | x :: l => by simp only [List.map_cons, intV_map k l]; rfl
theorem bys_inj {a b : ByteArray} (h : bys a = bys b) : a = b := by
  cases a; cases b; simp [bys] at h; exact congrArg _ h
/-- like keys are one key -/
theorem keq_eq {d : KD} {a b : Value} (ha : kOk d a = true) (hb : kOk d b = true) : keq a b = true ↔ a = b := by
  cases d with
  | int k =>
    obtain ⟨x, rfl⟩ := int_ok ha; obtain ⟨y, rfl⟩ := int_ok hb
    simp [keq]
  | str =>
    obtain ⟨x, rfl⟩ := str_ok ha; obtain ⟨y, rfl⟩ := str_ok hb
    simp only [keq, strEq, Value.string.injEq, beq_iff_eq]
    exact ⟨bys_inj, fun h => by rw [h]⟩
  | arr k n =>
    obtain ⟨x, rfl, _⟩ := arr_ok ha; obtain ⟨y, rfl, _⟩ := arr_ok hb
    simp only [keq, intV_map, beq_iff_eq]
    exact ⟨fun h => by rw [h], fun h => by
      have := congrArg (fun v : Value => match v with | .agg c => c.toList.map intV | _ => []) h
      simpa only [intV_map] using this⟩
  | rec2 k k' =>
    obtain ⟨x, y, rfl⟩ := rec_ok ha; obtain ⟨z, w, rfl⟩ := rec_ok hb
    simp [keq, intV]
theorem keq_self {d : KD} {a : Value} (ha : kOk d a = true) : keq a a = true := (keq_eq ha ha).2 rfl

/-- == of keys -/
theorem ro_keq {P : Program} {g : PH} {t : TypeId} {d : KD} (h : kdOf P t = some d) {a b : Value} (ha : kOk d a = true) (hb : kOk d b = true) : ro P (Op.equal t a b) g = some (keq a b) := by
  have hd := kdOf_ok h
  unfold Op.equal
  cases d with
  | int k =>
    obtain ⟨x, rfl⟩ := int_ok ha; obtain ⟨y, rfl⟩ := int_ok hb
    show ro P (Op.equalIn Op.maxDepth t _ _) g = _
    generalize hm : Op.maxDepth = m
    obtain ⟨m, rfl⟩ : ∃ j, m = j + 1 := ⟨9999, hm.symm⟩
    simp only [Op.equalIn]; rw [ro_bind, ro_underlying, hd]; simp [ro_pure, keq]
  | str =>
    obtain ⟨x, rfl⟩ := str_ok ha; obtain ⟨y, rfl⟩ := str_ok hb
    generalize hm : Op.maxDepth = m
    obtain ⟨m, rfl⟩ : ∃ j, m = j + 1 := ⟨9999, hm.symm⟩
    simp only [Op.equalIn]; rw [ro_bind, ro_underlying, hd]; simp [ro_pure, keq, strEq_beq]
  | arr k n =>
    obtain ⟨x, rfl, hx⟩ := arr_ok ha; obtain ⟨y, rfl, hy⟩ := arr_ok hb
    obtain ⟨e, hu, he, hs⟩ := hd
    have := eqT_ok (P := P) (g := g) 12 t [.ints k n x] [.ints k n y] (x == y) (by
      have hk : kEq k k = true := by cases k <;> rfl
      simp only [eqT, hu, he, hs, hk]
      simp) ⟨hx, trivial⟩ ⟨hy, trivial⟩
    obtain ⟨u, v, hu', hv', _, hh⟩ := this
    unfold vOf at hu' hv'
    rw [aggT_of hu] at hu' hv'
    simp [aggD, flat] at hu' hv'
    subst hu' hv'
    rw [hh _ (by unfold Op.maxDepth; omega)]
    simp only [keq, intV_map]
  | rec2 k k' =>
    obtain ⟨x, y, rfl⟩ := rec_ok ha; obtain ⟨z, w, rfl⟩ := rec_ok hb
    obtain ⟨fs, f, f', hu, hl, n1, n2, u1, u2, o1, o2, s1, s2, hst⟩ := hd
    have hk : ∀ k, kEq k k = true := fun k => by cases k <;> rfl
    have := eqT_ok (P := P) (g := g) 12 t [.one (.int k x), .one (.int k' y)] [.one (.int k z), .one (.int k' w)] ((x == z) && ((y == w) && true)) (by
      simp [eqT, hu, hst, hl, eqFs, n1, n2, o1, o2, s1, s2, chGet, chSplit, u1, u2, eqI, hk]) ⟨rfl, rfl, trivial⟩ ⟨rfl, rfl, trivial⟩
    obtain ⟨u, v, hu', hv', _, hh⟩ := this
    unfold vOf at hu' hv'
    rw [aggT_of hu] at hu' hv'
    simp [aggD, flat] at hu' hv'
    subst hu' hv'
    rw [hh _ (by unfold Op.maxDepth; omega)]
    simp [keq, intV]

theorem ro_findAsking {P : Program} {g : PH} {t : TypeId} {d : KD} (h : kdOf P t = some d) {k : Value} (hk : kOk d k = true) : ∀ (es : List MapEntry) (i : Nat), (∀ e ∈ es, kOk d e.key = true) →
    ro P (Instr.findAsking t k es i) g = some (fi es k i)
  | [], i, _ => rfl
  | e :: es, i, he => by
    unfold Instr.findAsking fi
    rw [ro_bind, ro_keq h hk (he e List.mem_cons_self), Option.bind_some]
    cases keq k e.key with
    | true => rfl
    | false => exact ro_findAsking h hk es (i + 1) fun e' h' => he e' (List.mem_cons_of_mem _ h')
theorem findNow_int {k : IntKind} {kv : Value} (hk : kOk (.int k) kv = true) : ∀ (es : List MapEntry) (i : Nat), (∀ e ∈ es, kOk (.int k) e.key = true) → Instr.findNow (.int k) kv es i = some (fi es kv i)
  | [], i, _ => rfl
  | e :: es, i, he => by
    obtain ⟨x, rfl⟩ := int_ok hk
    obtain ⟨y, hy⟩ := int_ok (he e List.mem_cons_self)
    unfold Instr.findNow fi
    rw [hy]
    simp only [Instr.sameNow, keq, if_true]
    have ih := findNow_int (kv := .int k x) hk es (i + 1) fun e' h' => he e' (List.mem_cons_of_mem _ h')
    cases x == y with
    | true => rfl
    | false => exact ih
theorem findNow_str {kv : Value} (hk : kOk .str kv = true) : ∀ (es : List MapEntry) (i : Nat), (∀ e ∈ es, kOk .str e.key = true) → Instr.findNow .string kv es i = some (fi es kv i)
  | [], i, _ => rfl
  | e :: es, i, he => by
    obtain ⟨x, rfl⟩ := str_ok hk
    obtain ⟨y, hy⟩ := str_ok (he e List.mem_cons_self)
    unfold Instr.findNow fi
    rw [hy]
    simp only [Instr.sameNow, keq, strEq_beq]
    have ih := findNow_str (kv := .string x) hk es (i + 1) fun e' h' => he e' (List.mem_cons_of_mem _ h')
    cases strEq x y with
    | true => rfl
    | false => exact ih
theorem ro_findKey {P : Program} {g : PH} {t : TypeId} {d : KD} (h : kdOf P t = some d) {k : Value} (hk : kOk d k = true) (es : List MapEntry) (he : ∀ e ∈ es, kOk d e.key = true) :
    ro P (Instr.findKey t k es) g = some (fi es k 0) := by
  have hd := kdOf_ok h
  unfold Instr.findKey
  rw [ro_bind, ro_underlying]
  cases d with
  | int k' => rw [hd, Option.bind_some, findNow_int hk es 0 he]; rfl
  | str => rw [hd, Option.bind_some, findNow_str hk es 0 he]; rfl
  | arr k' n =>
    obtain ⟨e, hu, _⟩ := hd
    rw [hu, Option.bind_some]
    cases es with
    | nil => rfl
    | cons e es =>
      unfold Instr.findNow
      simp only [Instr.sameNow]
      exact ro_findAsking h hk _ 0 he
  | rec2 k' k'' =>
    obtain ⟨fs, f, f', hu, _⟩ := hd
    rw [hu, Option.bind_some]
    cases es with
    | nil => rfl
    | cons e es =>
      unfold Instr.findNow
      simp only [Instr.sameNow]
      exact ro_findAsking h hk _ 0 he

theorem ro_checkInt {P : Program} {g : PH} {t : TypeId} {k : IntKind} (hu : P.underlying t = some (.int k)) (b : Bool) (n : Nat) (v : Value) : ro P (Instr.checkKey b (n + 1) t v) g = some () := by
  unfold Instr.checkKey
  rw [ro_bind, ro_underlying, hu]; rfl
theorem ro_loopUnit {P : Program} {g : PH} {α : Type} (f : α → Unit → Sem (ForInStep Unit)) : ∀ l : List α, (∀ x ∈ l, ro P (f x ()) g = some (.yield ())) → ro P (forIn (m := Sem) l () f) g = some ()
  | [], _ => rfl
  | x :: l, h => by
    rw [ro_forIn_cons, h x List.mem_cons_self, Option.bind_some]
    exact ro_loopUnit f l fun y hy => h y (List.mem_cons_of_mem _ hy)
theorem ro_checkKey {P : Program} {g : PH} {t : TypeId} {d : KD} (h : kdOf P t = some d) {k : Value} (hk : kOk d k = true) (b : Bool) : ro P (Instr.checkKey b 10000 t k) g = some () := by
  have hd := kdOf_ok h
  cases d with
  | int k' => exact ro_checkInt hd b 9999 k
  | str =>
    show ro P (Instr.checkKey b (9999 + 1) t k) g = _
    unfold Instr.checkKey
    rw [ro_bind, ro_underlying, hd]; rfl
  | arr k' n =>
    obtain ⟨e, hu, he, hs⟩ := hd
    obtain ⟨l, rfl, hl⟩ := arr_ok hk
    obtain ⟨i, hi⟩ := info_of_underlying he
    have hs1 := sizeT_of hi
    show ro P (Instr.checkKey b (9999 + 1) t _) g = _
    unfold Instr.checkKey
    rw [ro_bind, ro_underlying, hu, Option.bind_some]
    simp only []
    rw [Std.Legacy.Range.forIn_eq_forIn_range', Std.Legacy.Range.size]
    simp only [Nat.sub_zero, Nat.add_sub_cancel, Nat.div_one]
    rw [ro_bind, ro_loopUnit _ _ (fun x hx => ?_)]
    · rfl
    · have hx : x < n := by simp [List.mem_range'_1] at hx; omega
      rw [ro_bind, ro_sizeOf, hi, Option.map_some, Option.bind_some, ro_bind, ro_part e _ _ _ i he hi, aggT_of he]
      simp only [aggD, Bool.false_eq_true, if_false]
      have hx' : x < l.length := by omega
      rw [show x * i.size = x by rw [← hs1, hs]; omega]
      simp only [List.getElem?_toArray, List.getElem?_map, List.getElem?_eq_getElem hx', Option.map_some, Option.bind_some]
      rw [ro_bind, ro_checkInt he b 9998]; rfl
  | rec2 k' k'' =>
    obtain ⟨fs, f, f', hu, hl, n1, n2, u1, u2, o1, o2, s1, s2, hst⟩ := hd
    obtain ⟨x, y, rfl⟩ := rec_ok hk
    show ro P (Instr.checkKey b (9999 + 1) t _) g = _
    unfold Instr.checkKey
    rw [ro_bind, ro_underlying, hu, Option.bind_some]
    simp only []
    rw [← Array.forIn_toList, hl, ro_bind, ro_loopUnit _ _ (fun z hz => ?_)]
    · rfl
    · have hz : z = f ∨ z = f' := by simpa using hz
      rcases hz with rfl | rfl
      · obtain ⟨i, hi⟩ := info_of_underlying u1
        rw [if_pos (by simpa using n1), ro_bind, ro_part _ _ _ _ i u1 hi, aggT_of u1]
        simp only [aggD, Bool.false_eq_true, if_false, o1]
        simp only [List.getElem?_toArray, List.getElem?_cons_zero, Option.bind_some]
        rw [ro_bind, ro_checkInt u1 b 9998]; rfl
      · obtain ⟨i, hi⟩ := info_of_underlying u2
        rw [if_pos (by simpa using n2), ro_bind, ro_part _ _ _ _ i u2 hi, aggT_of u2]
        simp only [aggD, Bool.false_eq_true, if_false, o2]
        simp only [List.getElem?_toArray, List.getElem?_cons_succ, List.getElem?_cons_zero, Option.bind_some]
        rw [ro_bind, ro_checkInt u2 b 9998]; rfl

theorem kOkE_ok {d : KD} {x : E0} {bs : BS} {v kv : Value} (h : kOkE d x = true) (hx : e0Ok bs x v) (hv : val x = some kv) : v = kv ∧ kOk d kv = true := by
  refine ⟨val_ok hv hx, ?_⟩
  unfold kOkE at h
  split at h
  · simp [val] at hv; subst hv; simpa [kOk, isIntK] using h
  · simp [val] at hv; subst hv; rfl
  · simp only [Bool.and_eq_true] at h
    simp [val] at hv; subst hv
    have hok : chOk _ := hx.1
    have hl := hok.1
    have := Nat.eq_of_beq_eq_true h.2
    simp [kOk, flat, hl, this, isIntK, h.1]
  · simp only [Bool.and_eq_true] at h
    simp [val] at hv; subst hv
    simp [kOk, flat, isIntK, h.1, h.2]
  · cases h

theorem fi_some {k : Value} : ∀ {es : List MapEntry} {i j : Nat} {v : Value}, fi es k i = some (j, v) → i ≤ j ∧ ∃ e, es[j - i]? = some e ∧ e ∈ es ∧ keq k e.key = true ∧ e.val = v
  | [], _, _, _, h => by cases h
  | e :: es, i, j, v, h => by
    unfold fi at h
    split at h
    · rename_i hq
      simp only [Option.some.injEq, Prod.mk.injEq] at h
      obtain ⟨rfl, rfl⟩ := h
      exact ⟨Nat.le_refl _, e, by simp, List.mem_cons_self, hq, rfl⟩
    · obtain ⟨h1, e', h2, h3, h4, h5⟩ := fi_some h
      refine ⟨by omega, e', ?_, List.mem_cons_of_mem _ h3, h4, h5⟩
      rw [show j - i = (j - (i + 1)) + 1 by omega]; simpa using h2
theorem bits_ints (k : IntKind) (n : Nat) : ∀ l : List Int, (l.map (Value.int k)).all (fun x => Instr.sameBits n x x) = true
  | [] => rfl
  | x :: l => by
    rw [List.map_cons, List.all_cons, bits_ints k n l]
    cases n <;> cases k <;> simp [Instr.sameBits]
theorem zip_self {α : Type} (f : α → α → Bool) : ∀ l : List α, ((l.zip l).all fun p => f p.1 p.2) = l.all fun x => f x x
  | [] => rfl
  | x :: l => by simp only [List.zip_cons_cons, List.all_cons, zip_self f l]
theorem sameBits_key {d : KD} {k : Value} (h : kOk d k = true) : Instr.sameBits 10000 k k = true := by
  generalize hm : (10000 : Nat) = m
  obtain ⟨m, rfl⟩ : ∃ j, m = j + 1 := ⟨9999, hm.symm⟩
  cases d with
  | int k' => obtain ⟨x, rfl⟩ := int_ok h; cases k' <;> simp [Instr.sameBits]
  | str => obtain ⟨x, rfl⟩ := str_ok h; simp [Instr.sameBits, strEq_beq, strEq]
  | arr k' n =>
    obtain ⟨l, rfl, _⟩ := arr_ok h
    simp only [Instr.sameBits, beq_self_eq_true, Bool.true_and]
    have := zip_self (Instr.sameBits m) (l.map (Value.int k'))
    rw [bits_ints] at this
    exact this
  | rec2 k' k'' => obtain ⟨x, y, rfl⟩ := rec_ok h; cases m <;> cases k' <;> cases k'' <;> simp [Instr.sameBits]

theorem map_obj {P : Program} {kd : KD} {h g : PH} {r : Nat} {es : List MapEntry} (hm : mapH kd h (some r) es) (hs : h.Sub g) : ∃ c, ro P (getObj r) g = some (.map es.toArray c) := by
  obtain ⟨⟨c, hc⟩, _⟩ := hm
  refine ⟨c, ?_⟩
  show ro P (.getObj r .pure) g = _
  simp only [ro, hs _ _ hc, isCells]

/-- a map read -/
theorem ro_lookup {P : Program} {t kt et : TypeId} {kd : KD} {h g : PH} {r : Option Nat} {kv z v : Value} {b ok : Bool} {i : TypeInfo} (hu : P.underlying t = some (.map kt et)) (hkd : kdOf P kt = some kd) (hk : kOk kd kv = true)
    (hi : P.info? et = some i) (hz : i.zero = some z) (hl : lkH kd h r kv z v b) (hs : h.Sub g) : ro P (Instr.lookup t (.map r) kv ok) g = some (if ok then .tuple #[v, .bool b] else v) := by
  obtain ⟨es, hm, hlk⟩ := hl
  have key := fun b' => ro_checkKey (g := g) hkd hk b'
  have find := ro_findKey (g := g) hkd hk es hm.2
  unfold Instr.lookup
  rw [ro_bind, ro_underlying, hu, Option.bind_some]
  simp only []
  have zv := ro_zeroValue (g := g) hi hz
  cases r with
  | none =>
    have he := hm.1
    simp only at he
    subst he
    simp only [lk, fi, Prod.mk.injEq] at hlk
    obtain ⟨rfl, rfl⟩ := hlk
    simp only []
    rw [ro_bind, ro_pure, Option.bind_some, ro_bind, key, Option.bind_some, ro_bind, find, Option.bind_some]
    simp only [fi]
    rw [ro_bind, zv]; rfl
  | some r =>
    obtain ⟨c, hc⟩ := map_obj (P := P) hm hs
    simp only []
    rw [ro_bind, hc, Option.bind_some]
    simp only []
    rw [ro_bind, ro_pure, Option.bind_some, ro_bind, key, Option.bind_some, ro_bind, find, Option.bind_some]
    unfold lk at hlk
    split at hlk
    · rename_i j w hf
      rw [hf]
      simp only [Prod.mk.injEq] at hlk
      obtain ⟨rfl, rfl⟩ := hlk
      rfl
    · rename_i hf
      rw [hf]
      simp only [Prod.mk.injEq] at hlk
      obtain ⟨rfl, rfl⟩ := hlk
      simp only []
      rw [ro_bind, zv]; rfl

theorem hp_setObj {P : Program} {r : Nat} {o o0 : Obj} {g : PH} {Q : Unit → PH → Prop} (h0 : g r = some o0) (hc : isCells o0 = false) (hq : Q () (g.upd r o)) : hp P (setObj r o) Q g := ⟨o0, h0, hc, hq⟩
theorem hp_getObj {P : Program} {r : Nat} {o : Obj} {g : PH} {Q : Obj → PH → Prop} (h0 : g r = some o) (hc : isCells o = false) (hq : Q o g) : hp P (getObj r) Q g := ⟨o, h0, hc, hq⟩
/-- a map written -/
theorem hp_mapUpdate {P : Program} {t kt et : TypeId} {kd : KD} {h g : PH} {r : Option Nat} {kv v : Value} {K : PH → Prop} {Q : Unit → PH → Prop} {bs : BS} {bx : BX} (hu : P.underlying t = some (.map kt et)) (hkd : kdOf P kt = some kd) (hk : kOk kd kv = true)
    (hl : muH kd h r kv v K) (i : Inv bs bx h g) (hq : ∀ h' g', K h' → Inv bs bx h' g' → Q () g') : hp P (Instr.mapUpdate t (.map r) kv v) Q g := by
  obtain ⟨r0, es, c, rfl, hr, hes, hK⟩ := hl
  have hg := i.sub _ _ hr
  unfold Instr.mapUpdate
  rw [hp_bind]
  refine ro_hp (by rw [ro_underlying, hu]) ?_
  simp only []
  rw [hp_bind]
  refine hp_getObj hg rfl ?_
  simp only []
  rw [hp_bind]
  refine ro_hp (ro_checkKey hkd hk false) ?_
  rw [hp_bind]
  refine ro_hp (ro_findKey hkd hk es hes) ?_
  have fin : ∀ o, o = Obj.map (upM es kv v c).1.toArray (upM es kv v c).2 → hp P (setObj r0 o) Q g := fun o ho => by
    subst ho
    exact hp_setObj hg rfl (hq _ _ hK (i.setHeap hr _))
  unfold upM at fin
  cases hf : fi es kv 0 with
  | none =>
    rw [hf] at fin
    exact fin _ (by simp)
  | some p =>
    obtain ⟨j, w⟩ := p
    rw [hf] at fin
    simp only [] at fin ⊢
    obtain ⟨_, e, he, hm, hq', _⟩ := fi_some hf
    have hee : kv = e.key := (keq_eq hk (hes e hm)).1 hq'
    have hold : ((es.toArray[j]?).map (·.key)).getD kv = kv := by
      simp only [Nat.sub_zero] at he
      simp [he, hee]
    rw [hp_bind, hold]
    unfold Instr.keyThatStays
    rw [if_pos (sameBits_key hk)]
    refine fin _ ?_
    simp
theorem hp_delete {P : Program} {t kt et ty : TypeId} {ts : List TypeId} {kd : KD} {h g : PH} {r : Option Nat} {kv : Value} {K : PH → Prop} {Q : Value → PH → Prop} {bs : BS} {bx : BX} (hu : P.underlying t = some (.map kt et)) (hkd : kdOf P kt = some kd) (hk : kOk kd kv = true)
    (hl : mdH kd h r kv K) (i : Inv bs bx h g) (hq : ∀ h' g' v, K h' → Inv bs bx h' g' → Q v g') : hp P (Builtin.delete_ (t :: ts).toArray ty #[.map r, kv]) Q g := by
  unfold Builtin.delete_
  simp only [List.getElem?_toArray, List.getElem?_cons_zero, List.getElem?_cons_succ]
  rw [hp_bind]
  refine ro_hp (by rw [ro_underlying, hu]) ?_
  simp only []
  cases r with
  | none =>
    simp only []
    rw [hp_bind]
    refine ro_hp (ro_checkKey hkd hk true) ?_
    exact hq h g _ (hl.1 rfl) i
  | some r0 =>
    obtain ⟨es, c, hr, hes, hK⟩ := hl.2 r0 rfl
    have hg := i.sub _ _ hr
    simp only []
    rw [hp_bind]
    refine hp_getObj hg rfl ?_
    simp only []
    rw [hp_bind]
    refine ro_hp (ro_checkKey hkd hk _) ?_
    rw [hp_bind]
    refine ro_hp (ro_findKey hkd hk es hes) ?_
    have fin : ∀ o, o = Obj.map (dlM es kv).toArray c → hp P (do setObj r0 o; pure (Value.tuple #[])) Q g := fun o ho => by
      subst ho
      rw [hp_bind]; exact hp_setObj hg rfl (hq _ _ _ hK (i.setHeap hr _))
    unfold dlM at fin
    cases hf : fi es kv 0 with
    | none => rw [hf] at fin; exact fin _ rfl
    | some p =>
      obtain ⟨j, w⟩ := p
      rw [hf] at fin
      exact fin _ (by simp)
theorem ro_lenM {P : Program} {t kt et ty : TypeId} {h g : PH} {r : Option Nat} {n : Nat} (hu : P.underlying t = some (.map kt et)) (hl : lenM h r n) (hs : h.Sub g) : ro P (Builtin.len_ #[t] ty #[.map r]) g = some (.int .i64 (n : Int)) := by
  unfold Builtin.len_
  simp only [List.getElem?_toArray, List.getElem?_cons_zero]
  rw [ro_bind, ro_underlying, hu, Option.bind_some]
  cases r with
  | none => have : n = 0 := hl; subst this; rfl
  | some r =>
    obtain ⟨es, c, hr, rfl⟩ := hl
    simp only []
    rw [ro_bind]
    have : ro P (getObj r) g = some (.map es c) := by
      show ro P (.getObj r .pure) g = _
      simp only [ro, hs _ _ hr, isCells]
    rw [this]; rfl

end TL

namespace TL
open Go

theorem builtin_eval {a : Act} {dst : Option Tmp} {type : TypeId} {pos : String} {after : Array Edge} {guard : Option (Nat × Bool)} {b : Builtin} {args : Array Operand} {ts : Array TypeId} :
    execOp a.eval ⟨dst, .call ⟨.builtin b, args, ts⟩, type, pos, after, guard⟩ = builtin b ts type (args.map fun | .const _ => true | _ => false) (args.map a.eval) := rfl

theorem two_args {bs : BS} {x y : E0} {us : List Value} (h : e0sOk bs [x, y] us) : ∃ u v, us = [u, v] ∧ e0Ok bs x u ∧ e0Ok bs y v := by
  match us, h with
  | [u, v], ⟨h1, h2, _⟩ => exact ⟨u, v, rfl, h1, h2⟩
theorem one_arg {bs : BS} {x : E0} {us : List Value} (h : e0sOk bs [x] us) : ∃ u, us = [u] ∧ e0Ok bs x u := by
  match us, h with
  | [u], ⟨h1, _⟩ => exact ⟨u, rfl, h1⟩

theorem bys_len (s : ByteArray) : (bys s).length = s.size := by simp [bys]
theorem byteVs_len (s : ByteArray) : (byteVs s).length = s.size := by simp [byteVs, bys_len]
theorem firstCells_string {P : Program} {s : ByteArray} (g : PH) : ro P (Builtin.firstCells 1 s.size (.string s)) g = some (byteVs s).toArray := by
  show some _ = _
  congr 1
  apply Array.toList_inj.1
  have : (s.extract 0 s.size) = s := by simp
  simp [this, byteVs, bys]

theorem denApp_ok {P : Program} {o : Oper} {ts : Array TypeId} {ty : TypeId} {x y : E0} {us : List Value} {bs : BS} {bx : BX} {h g : PH} {K : KK} (hh : denApp P ts.toList x y bx h K) (hx : e0sOk bs [x, y] us) (i : Inv bs bx h g) (hg : grows o = false) :
    hp P (do pure (Next.value (← Builtin.append_ ts ty us.toArray))) (nx P (EffPost o bs bx h g K)) g := by
  obtain ⟨u, w, rfl, hu, hw⟩ := two_args hx
  have ng : ∀ g' : PH, grows o = true → h.Sub g' := fun g' e => by rw [hg] at e; cases e
  unfold denApp at hh
  split at hh
  · rename_i t t2 hts
    have hts : ts = #[t, t2] := by apply Array.toList_inj.1; exact hts
    subst hts
    split at hh
    · rename_i el a n c hut
      obtain ⟨rfl, _⟩ := hu
      split at hh
      · rename_i hok
        split at hh
        · rename_i d2 k m hu2
          obtain ⟨b, T, hb, rfl⟩ := hw
          split at hh
          · rename_i cs hcs
            obtain ⟨b', T', hb', hco, hgb⟩ := i.at hcs
            rw [hb] at hb'; cases hb'
            refine nx_v (hp_append hut hok hu2 (by simp) (m := m) rfl (fun g' hs => ?_) (flat_one1 hco) i hh fun a' n' c' h' g' hk i' => .heap hk i' (.inr ⟨rfl, rfl⟩) (ng _))
            have hl : (flat cs).length = m * sizeT P el := hh.1
            show ro P (loadCells ⟨b, 0, none⟩ (m * sizeT P el)) g' = _
            refine ro_loadCells ?_
            unfold PH.rds
            rw [hs _ _ hgb]
            simp [hl]
            rw [← hl, List.take_length]
          · exact hh.elim
        · rename_i d2 a2 m c2 hu2
          obtain ⟨rfl, _⟩ := hw
          obtain ⟨vs, hsrc, hh⟩ := hh
          exact nx_v (hp_append hut hok hu2 (by simp) (m := m) rfl (fun g' hs => srcH_ro hsrc (i.sub.trans hs) (srcH_one hsrc)) hsrc.2.1 i hh fun a' n' c' h' g' hk i' => .heap hk i' (.inr ⟨rfl, rfl⟩) (ng _))
        · rename_i s hu2
          obtain ⟨rfl, _⟩ := hw
          split at hh
          · rename_i hsz
            have hh' := hh
            rw [← hsz] at hh'
            exact nx_v (hp_append hut hok hu2 (by simp) (m := s.size) rfl (fun g' hs => by rw [hsz]; exact firstCells_string g') byteVs_one i hh' fun a' n' c' h' g' hk i' => .heap hk i' (.inr ⟨rfl, rfl⟩) (ng _))
          · exact hh.elim
        · rename_i k2 m hu2
          obtain ⟨rfl, _⟩ := hw
          exact nx_v (hp_append0 hut hok hu2 hh.1.1 hh.1.2 i hh.2 fun a' n' c' h' g' hk i' => .heap hk i' (.inr ⟨rfl, rfl⟩) (ng _))
        · exact hh.elim
      · exact hh.elim
    · exact hh.elim
  · exact hh.elim

theorem denCopy_ok {P : Program} {o : Oper} {ts : Array TypeId} {ty : TypeId} {x y : E0} {us : List Value} {bs : BS} {bx : BX} {h g : PH} {K : KK} (hh : denCopy P ts.toList x y bx h K) (hx : e0sOk bs [x, y] us) (i : Inv bs bx h g) (hg : grows o = false) :
    hp P (do pure (Next.value (← Builtin.copy_ ts ty us.toArray))) (nx P (EffPost o bs bx h g K)) g := by
  obtain ⟨u, w, rfl, hu, hw⟩ := two_args hx
  have ng : ∀ g' : PH, grows o = true → h.Sub g' := fun g' e => by rw [hg] at e; cases e
  unfold denCopy at hh
  split at hh
  · rename_i t t2 hts
    have hts : ts = #[t, t2] := by apply Array.toList_inj.1; exact hts
    subst hts
    split at hh
    · rename_i el a n c hut
      obtain ⟨rfl, _⟩ := hu
      split at hh
      · rename_i d2 a2 m c2 sz hu2 hsz
        obtain ⟨rfl, _⟩ := hw
        obtain ⟨vs, hsrc, hz, hnz⟩ := hh
        obtain ⟨inf, hi⟩ := info_of_size hsz
        have hs := sizeT_of hi
        refine nx_v ?_
        unfold Builtin.copy_
        simp only [List.getElem?_toArray, List.getElem?_cons_zero, List.getElem?_cons_succ]
        rw [hp_bind]
        refine ro_hp (by rw [ro_underlying, hut]) ?_
        simp only []
        rw [hp_bind]
        refine ro_hp (show ro P (Builtin.lenOf (.slice a2 m c2)) g = some m from rfl) ?_
        rw [hp_bind]
        refine ro_hp (by rw [ro_sizeOf, hi]; rfl) ?_
        rw [hp_bind]
        have hmin : Nat.min m n = min m n := rfl
        rw [hmin]
        show hp P (Builtin.firstCells inf.size (min m n) (.slice a2 m c2)) _ g
        rw [← hs]
        refine ro_hp (srcH_ro hsrc i.sub (srcH_one hsrc)) ?_
        by_cases h0 : vs.length = 0
        · have hv : vs = [] := List.eq_nil_of_length_eq_zero h0
          subst hv
          cases a with
          | none => exact .heap (hz h0) i (.inr ⟨rfl, rfl⟩) (ng _)
          | some a => exact .heap (hz h0) i (.inr ⟨rfl, rfl⟩) (ng _)
        · obtain ⟨b, o', rfl, hst⟩ := hnz h0
          simp only []
          rw [hp_bind]
          exact stH_hp hst i hsrc.2.1 fun h' g' hk i' => .heap hk i' (.inr ⟨rfl, rfl⟩) (ng _)
      · exact hh.elim
    · exact hh.elim
  · exact hh.elim

theorem denClear_ok {P : Program} {o : Oper} {ts : Array TypeId} {ty : TypeId} {x : E0} {us : List Value} {bs : BS} {bx : BX} {h g : PH} {K : KK} (hh : denClear P ts.toList x bx h K) (hx : e0sOk bs [x] us) (i : Inv bs bx h g) (hg : grows o = false) :
    hp P (do pure (Next.value (← Builtin.clear_ ts ty us.toArray))) (nx P (EffPost o bs bx h g K)) g := by
  obtain ⟨u, rfl, hu⟩ := one_arg hx
  have ng : ∀ g' : PH, grows o = true → h.Sub g' := fun g' e => by rw [hg] at e; cases e
  unfold denClear at hh
  split at hh
  · rename_i t hts
    have hts : ts = #[t] := by apply Array.toList_inj.1; exact hts
    subst hts
    split at hh
    · rename_i el a n c hut
      obtain ⟨rfl, _⟩ := hu
      split at hh
      · rename_i hok
        obtain ⟨inf, z, hi, hz, hzc, hzl, hs, hb, hs0, hb0, hz1⟩ := appOk_ok hok
        obtain ⟨hzero, hnz⟩ := hh
        refine nx_v ?_
        unfold Builtin.clear_
        simp only [List.getElem?_toArray, List.getElem?_cons_zero]
        rw [hp_bind]
        refine ro_hp (by rw [ro_underlying, hut]) ?_
        by_cases h0 : n * sizeT P el = 0
        · have hn : n = 0 := by
            rcases Nat.mul_eq_zero.1 h0 with e | e
            · exact e
            · omega
          subst hn
          cases a with
          | none => exact .heap (hzero h0) i (.inl rfl) (ng _)
          | some a => exact .heap (hzero h0) i (.inl rfl) (ng _)
        · obtain ⟨b, o', rfl, hst⟩ := hnz h0
          obtain ⟨n, rfl⟩ : ∃ m, n = m + 1 := ⟨n - 1, by
            rcases Nat.eq_zero_or_pos n with e | e
            · subst e; simp at h0
            · omega⟩
          simp only []
          rw [hp_bind]
          refine ro_hp (ro_zeroValue hi hz) ?_
          rw [hp_bind, hzc, toList_zeroCells]
          refine stH_hp hst i (fun v hv => ?_) fun h' g' hk i' => .heap hk i' (.inl rfl) (ng _)
          obtain ⟨l, hl, hvl⟩ := List.mem_flatten.1 hv
          have := List.eq_of_mem_replicate hl
          subst this
          exact hz1 v hvl
      · exact hh.elim
    · exact hh.elim
  · exact hh.elim

theorem push_all : ∀ (l : List UInt8) (s : ByteArray), (l.foldl (fun s b => s.push b) s).data.toList = s.data.toList ++ l
  | [], s => by simp
  | b :: l, s => by rw [List.foldl_cons, push_all l]; simp [ByteArray.push]
theorem ro_pushes {P : Program} {g : PH} (f : Value → ByteArray → Sem (ForInStep ByteArray)) (hf : ∀ n s, f (.int .u8 n) s = pure (ForInStep.yield (s.push (UInt8.ofNat n.toNat)))) : ∀ (l : List UInt8) (s : ByteArray),
    ro P (forIn (m := Sem) (l.map fun x => Value.int .u8 (x.toNat : Int)) s f) g = some (l.foldl (fun s b => s.push b) s)
  | [], s => rfl
  | b :: l, s => by
    rw [List.map_cons, ro_forIn_cons, hf, ro_pure, Option.bind_some, Int.toNat_natCast, UInt8.ofNat_toNat]
    exact ro_pushes f hf l _
theorem ro_bytes {P : Program} {h g : PH} {a : Option Addr} {n c : Nat} {st : ByteArray} (hs : strH h a n st) (hsub : h.Sub g) : ro P (Conv.bytesToString (.slice a n c)) g = some (.string st) := by
  unfold strH srcH at hs
  rw [byteVs_len] at hs
  obtain ⟨hl, _, hs⟩ := hs
  have fin : st = (bys st).foldl (fun s b => s.push b) ByteArray.empty := by
    have := push_all (bys st) ByteArray.empty
    have e : (ByteArray.empty).data.toList = [] := rfl
    rw [e, List.nil_append] at this
    have h2 : ((bys st).foldl (fun s b => s.push b) ByteArray.empty).data = st.data := Array.toList_inj.1 this
    generalize (bys st).foldl (fun s b => s.push b) ByteArray.empty = q at h2
    cases q; cases st; simp at h2; rw [h2]
  have empty : n = 0 → st = ByteArray.empty := fun h0 => by
    have : bys st = [] := List.eq_nil_of_length_eq_zero (by rw [bys_len]; omega)
    rw [fin, this]; rfl
  cases a with
  | none =>
    have : n = 0 := by
      rcases hs with h0 | ⟨b, o, he, _⟩
      · exact h0
      · cases he
    rw [empty this]; rfl
  | some a =>
    have load : ro P (loadCells a n) g = some (byteVs st).toArray := by
      rcases hs with h0 | ⟨b, o, he, hr⟩
      · rw [empty h0, h0]; rfl
      · cases he; exact ro_loadCells (rds_sub hsub hr)
    unfold Conv.bytesToString
    rw [ro_bind, load, Option.bind_some, ro_bind]
    rw [← Array.forIn_toList]
    unfold byteVs
    simp only []
    rw [ro_pushes _ (fun n s => rfl) (bys st) ByteArray.empty, Option.bind_some, ← fin]
    rfl

theorem denConv_ok {P : Program} {o : Oper} {s d : TypeId} {x : E0} {u : Value} {bs : BS} {bx : BX} {h g : PH} {K : KK} (hh : denConv P s d x bx h K) (hsc : strConv P s d = false) (hx : e0Ok bs x u) (i : Inv bs bx h g) (hg : grows o = false) :
    hp P (do pure (Next.value (← convert s d u))) (nx P (EffPost o bs bx h g K)) g := by
  have ng : ∀ g' : PH, grows o = true → h.Sub g' := fun g' e => by rw [hg] at e; cases e
  refine nx_v ?_
  unfold denConv at hh
  split at hh
  · rename_i k1 k2 n h1 h2
    obtain ⟨rfl, _⟩ := hx
    unfold convert
    rw [hp_bind]; refine ro_hp (by rw [ro_underlying, h1]) ?_
    rw [hp_bind]; refine ro_hp (by rw [ro_underlying, h2]) ?_
    exact EffPost.heap hh i (.inr ⟨rfl, rfl⟩) (ng _)
  · rename_i st h1 h2
    obtain ⟨rfl, _⟩ := hx
    unfold convert
    rw [hp_bind]; refine ro_hp (by rw [ro_underlying, h1]) ?_
    rw [hp_bind]; refine ro_hp (by rw [ro_underlying, h2]) ?_
    exact EffPost.heap hh i (.inr ⟨rfl, rfl⟩) (ng _)
  · rename_i el st h1 h2
    obtain ⟨rfl, _⟩ := hx
    split at hh
    · rename_i hel
      unfold convert
      rw [hp_bind]; refine ro_hp (by rw [ro_underlying, h1]) ?_
      rw [hp_bind]; refine ro_hp (by rw [ro_underlying, h2]) ?_
      simp only []
      rw [hp_bind]; refine ro_hp (by rw [ro_underlying, hel]) ?_
      show hp P (Conv.stringToBytes el st) (EffPost o bs bx h g K) g
      unfold Conv.stringToBytes
      rw [hp_bind]
      show hp P (.choose _ _) _ g
      simp only [hp, Question.forced, Bool.false_eq_true, if_false]
      intro tp
      have hcap : st.size ≤ (Question.appendCap st.size 0 el).cut tp := by simp [Question.cut]
      generalize (Question.appendCap st.size 0 el).cut tp = c' at hcap ⊢
      rw [hp_bind]
      refine hp_newRow fun r hr => ?_
      have e : (st.data.map (fun b => Value.int .u8 (b.toNat : Int)) ++ Array.replicate (c' - st.size) (.int .u8 0) : Array Value) = (byteVs st ++ List.replicate (c' - st.size) (Value.int .u8 0)).toArray := by
        apply Array.toList_inj.1; simp [byteVs, bys]
      rw [e, hp_bind]
      unfold markStringish
      rw [hp_bind]
      show hp P (.shape _ _) _ _
      refine ⟨_, PH.upd_same _ _ _, ?_⟩
      simp only [shapeOf]
      show hp P (.freeze _ _ _) _ _
      refine ⟨_, _, _, PH.upd_same _ _ _, by omega, ?_⟩
      have hsz : (byteVs st ++ List.replicate (c' - st.size) (Value.int .u8 0)).toArray.size = c' := by simp [byteVs_len]; omega
      rw [PH.upd_upd, hsz]
      have hr' : h r = none := by
        cases e : h r with
        | none => rfl
        | some o => rw [i.sub _ _ e] at hr; cases hr
      have := hh c' hcap r hr'
      exact EffPost.heap (g := g) this (i.newHeap hr _) (.inr ⟨rfl, rfl⟩) (ng _)
    · exact hh.elim
  · rename_i h1 h2
    unfold strConv at hsc
    rw [h1, h2] at hsc; cases hsc
  · exact hh.elim

/-- a value of a type, told by its chunks -/
theorem tyv {P : Program} {bs : BS} {t : TypeId} {cs : List Ch} {x : E0} {v : Value} (hx : toE P t cs = some x) (hv : val x = some v) (ho : chOk cs) : e0Ok bs x v := by
  obtain ⟨u, hu, _⟩ := toE_ok (bs := bs) hx ho
  rw [val_ok hv hu] at hu; exact hu
/-- a reader's result -/
theorem rd_ok {P : Program} {N : Nat} {priv : List Nat} {bs : BS} {e : Env} {G : Grd} {a : Act} {o : Oper} {bx : BX} {h g : PH} {K : KK} (hh : denStep P priv o G e bx h K) (hl : isRd P o = true)
    (hf : Fits N bs e a) (hg : GT G a) (hi : Inv bs bx h g) : ∃ r c v, K r (some c) bx h ∧ rsOk bs r v ∧ CG bs bx c g ∧ CR bx h c ∧ ∀ g', CG bs bx c g' → ro P (execOp a.eval o) g' = some (.value v) := by
  obtain ⟨dst, op, type, pos, after, guard⟩ := o
  cases op <;> simp [isRd] at hl
  case load t x => exact load_ok hh rfl hf hg hi
  case lookup t x k ok =>
    simp only [denStep] at hh
    split at hh
    · split at hh
      · rename_i p q hp hq
        have hx := opv_ok hp hf hg
        have hk := opv_ok hq hf hg
        unfold denLookup at hh
        split at hh
        · rename_i kt et r hu
          split at hh
          · rename_i kd kv z hkd hkv hz
            split at hh
            · rename_i hko
              obtain ⟨cs, hcs, hh⟩ := exCh_ok hh
              split at hh
              · rename_i y hy
                split at hh
                · rename_i v hv
                  obtain ⟨b, hlk, hh⟩ := hh
                  obtain ⟨hke, hkk⟩ := kOkE_ok hko hk hkv
                  have hyv := tyv (bs := bs) hy hv hcs
                  have hrun : ∀ g', CG bs bx (.heap fun h' => lkH kd h' r kv z v b) g' → ro P (execOp a.eval ⟨dst, .lookup t x k ok, type, pos, after, guard⟩) g' = some (.value (if ok then .tuple #[v, .bool b] else v)) := by
                    rintro g' ⟨h', hs, hlk'⟩
                    refine ro_v ?_
                    rw [hx.1, hke]
                    unfold zeroV at hz
                    split at hz
                    · rename_i inf hinf
                      exact ro_lookup hu hkd hkk hinf hz hlk' hs
                    · cases hz
                  cases ok with
                  | true => exact ⟨_, _, _, hh, ⟨[v, .bool b], rfl, hyv, ⟨rfl, rfl⟩, trivial⟩, ⟨h, hi.sub, hlk⟩, hlk, hrun⟩
                  | false => exact ⟨_, _, _, hh, hyv, ⟨h, hi.sub, hlk⟩, hlk, hrun⟩
                · exact hh.elim
              · exact hh.elim
            · exact hh.elim
          · exact hh.elim
        · exact hh.elim
      · exact hh.elim
    · exact hh.elim
  case convert s d x =>
    simp only [denStep] at hh
    have hnp : pureConv P s d = false := by
      unfold strConv at hl; unfold pureConv
      split at hl
      · rename_i h1 h2; rw [h1, h2]
      · cases hl
    rw [hnp] at hh
    split at hh
    · rename_i hx; cases hx
    · split at hh
      · rename_i p hp
        have hx := opv_ok hp hf trivial
        unfold denConv at hh
        unfold strConv at hl
        split at hh
        · rename_i h1 h2; rw [h1, h2] at hl; cases hl
        · rename_i h1 h2; rw [h1, h2] at hl; cases hl
        · rename_i h1 h2; rw [h1, h2] at hl; cases hl
        · rename_i el a' n c h1 h2
          split at hh
          · rename_i hel
            obtain ⟨st, hst, hh⟩ := hh
            refine ⟨_, _, .string st, hh, ⟨rfl, rfl⟩, ⟨h, hi.sub, hst⟩, hst, ?_⟩
            rintro g' ⟨h', hs, hst'⟩
            refine ro_v ?_
            rw [hx.1]
            unfold convert
            rw [ro_bind, ro_underlying, h1, Option.bind_some, ro_bind, ro_underlying, h2, Option.bind_some]
            have key : ro P (Conv.bytesToString (.slice a' n c)) g' = some (.string st) := ro_bytes hst' hs
            cases a' with
            | none =>
              simp only []
              rw [ro_bind, ro_underlying, hel, Option.bind_some]
              exact key
            | some a' =>
              simp only []
              rw [ro_bind, ro_underlying, hel, Option.bind_some]
              exact key
          · exact hh.elim
        · exact hh.elim
      · exact hh.elim
    · exact hh.elim
  case call c =>
    obtain ⟨callee, args, ts⟩ := c
    split at hl
    · rename_i hcal
      simp only at hcal
      subst hcal
      simp only [denStep] at hh
      rw [hl] at hh
      simp only at hh
      split at hh
      · rename_i x hxs
        obtain ⟨u, hu, hx⟩ := one_arg (opvs_ok hxs hf trivial)
        unfold denLenM at hh
        split at hh
        · rename_i r
          obtain ⟨n, hn, hh⟩ := hh
          refine ⟨_, _, .int .i64 (n : Int), hh, ⟨rfl, rfl⟩, ⟨h, hi.sub, hn⟩, hn, ?_⟩
          rintro g' ⟨h', hs, hn'⟩
          rw [builtin_eval, map_toList_eval, hu, hx.1]
          refine ro_v ?_
          unfold mapT at hl
          split at hl
          · rename_i t ht
            split at hl
            · rename_i kt et hut
              have ht : ts = #[t] := by apply Array.toList_inj.1; exact ht
              rw [ht]
              exact ro_lenM hut hn' hs
            · cases hl
          · cases hl
        · exact hh.elim
      · exact hh.elim
    · cases hl

theorem flat_ones' (z : List Value) : ∀ n, flat (catC n (z.map Ch.one)) = (List.replicate n z).flatten
  | 0 => rfl
  | n + 1 => by simp [catC, flat_append, flat_ones, flat_ones' z n, List.replicate_succ]
theorem denMakeS_ok {P : Program} {o : Oper} {t : TypeId} {x y : E0} {u w : Value} {bs : BS} {bx : BX} {h g : PH} {K : KK} (hh : denMakeS P t x y bx h K) (hx : e0Ok bs x u) (hy : e0Ok bs y w) (i : Inv bs bx h g) :
    hp P (do pure (Next.value (← Instr.makeSlice t u w))) (nx P (EffPost o bs bx h g K)) g := by
  refine nx_v ?_
  unfold denMakeS at hh
  split at hh
  · rename_i el k n k' c hu
    obtain ⟨rfl, _⟩ := hx
    obtain ⟨rfl, _⟩ := hy
    split at hh
    · rename_i hok
      obtain ⟨inf, z, hi, hz, hzc, hzl, hs, hb, hs0, hb0, hz1⟩ := appOk_ok hok
      obtain ⟨⟨h0, h1, h2⟩, hk⟩ := hh
      have hc0 : 0 ≤ c := Int.le_trans h0 h1
      have hcle : c ≤ 140737488355328 := by
        have : c * 1 ≤ c * (bytesT P el : Int) := Int.mul_le_mul_of_nonneg_left (by omega) hc0
        omega
      have wn : IntKind.i64.wrap n = n := by
        rw [IntKind.wrap]; simp [IntKind.signed, IntKind.bits]; omega
      have wc : IntKind.i64.wrap c = c := by
        rw [IntKind.wrap]; simp [IntKind.signed, IntKind.bits]; omega
      unfold Instr.makeSlice
      rw [hp_bind]
      refine ro_hp (by rw [ro_underlying, hu]) ?_
      simp only []
      rw [hp_bind]
      refine ro_hp (a := n) rfl ?_
      rw [hp_bind]
      refine ro_hp (a := c) rfl ?_
      rw [hp_bind]
      refine ro_hp (by rw [ro_typeInfo, hi]) ?_
      simp only [wn, wc]
      have hmul : (inf.bytes : Int) * c ≤ 140737488355328 := by rw [← hb, Int.mul_comm]; exact h2
      rw [if_neg (by simp; omega)]
      rw [hp_bind]
      have hask : ro P (askRoom (c.toNat * inf.bytes)) g = some () := by unfold askRoom; split <;> rfl
      refine ro_hp hask ?_
      rw [hp_bind]
      refine ro_hp (by rw [ro_sizeOf, hi]; rfl) ?_
      have hr' : ∀ r, g r = none → h r = none := fun r hr => by
        cases e : h r with
        | none => rfl
        | some o => rw [i.sub _ _ e] at hr; cases hr
      have fin : ∀ r, g r = none → EffPost o bs bx h g K (.slice (some ⟨r, 0, none⟩) n.toNat c.toNat) (g.upd r (.cells (List.replicate c.toNat (zeroVs P el)).flatten.toArray el (0, 0))) := fun r hr =>
        .heap (hk r (hr' r hr)) (i.newHeap hr _) (.inr ⟨rfl, rfl⟩) fun _ => (PH.Sub.refl h).new (hr' r hr) _
      have hcc := catC_cells (z := (zeroVs P el).map Ch.one) c.toNat
      rw [flat_ones] at hcc
      have hce := flat_ones' (zeroVs P el) c.toNat
      by_cases hc : c.toNat * inf.size = 0
      · have hc' : c.toNat = 0 := by
          rcases Nat.mul_eq_zero.1 hc with e | e
          · exact e
          · omega
        rw [if_pos hc, hp_bind]
        refine ro_hp (ro_pure _) ?_
        rw [hp_bind]
        refine hp_newRow fun r hr => ?_
        have := fin r hr
        rw [hc'] at this ⊢
        simp at this
        have e : ∀ f : Nat → Value, (Array.range (0 * inf.size)).map f = #[] := fun f => by simp
        show EffPost o bs bx h g K _ _
        rw [e]; exact this
      · rw [if_neg hc, hp_bind]
        refine ro_hp (ro_zeroValue hi hz) ?_
        rw [hp_bind]
        refine ro_hp (ro_pure _) ?_
        rw [hp_bind]
        refine hp_newRow fun r hr => ?_
        have := fin r hr
        rw [← hce, ← hcc] at this
        rw [hzc]
        rw [hzl] at this
        exact this
    · exact hh.elim
  · exact hh.elim

theorem denCall_ok {P : Program} {N : Nat} {e : Env} {a : Act} {dst : Option Tmp} {c : Call} {type : TypeId} {pos : String} {after : Array Edge} {guard : Option (Nat × Bool)} {bs : BS} {bx : BX} {h g : PH} {K : KK}
    (hh : denCall P e c type bx h K) (hf : Fits N bs e a) (i : Inv bs bx h g) :
    hp P (execOp a.eval ⟨dst, .call c, type, pos, after, guard⟩) (nx P (EffPost ⟨dst, .call c, type, pos, after, guard⟩ bs bx h g K)) g := by
  obtain ⟨callee, args, ts⟩ := c
  unfold denCall at hh
  simp only at hh
  have hg : grows ⟨dst, .call ⟨callee, args, ts⟩, type, pos, after, guard⟩ = false := rfl
  have bi : ∀ b xs, callee = .builtin b → opvs e none args.toList = some xs → ∃ us, e0sOk bs xs us ∧ execOp a.eval ⟨dst, .call ⟨callee, args, ts⟩, type, pos, after, guard⟩ = builtin b ts type (args.map fun | .const _ => true | _ => false) us.toArray := fun b xs hb hx => by
    subst hb
    refine ⟨args.toList.map a.eval, opvs_ok hx hf trivial, ?_⟩
    rw [builtin_eval, map_toList_eval]
  split at hh
  · rename_i f xs hxs
    have ho := opvs_ok hxs hf trivial
    split at hh
    · rename_i vs n first cap hv hfv
      have hfe := (opv_ok hfv hf trivial).1
      have hva := vals_ok hv ho
      have hex : execOp a.eval ⟨dst, .call ⟨.value f, args, ts⟩, type, pos, after, guard⟩ = callFunc n (first.toList ++ (vs ++ cap.toList)).toArray := by
        show (do let d ← Deferred.ofValue (a.eval f) (args.map a.eval); invoke d.target d.args) = _
        rw [hfe, map_toList_eval, hva]
        show callFunc n (first ++ vs.toArray ++ cap) = _
        congr 1
        apply Array.toList_inj.1; simp
      split at hh
      · rename_i hbody
        rw [hex]
        exact ro_hp (callF_body hbody) (call_post hg hh i)
      · obtain ⟨v, hro, hk⟩ := hh
        rw [hex]
        obtain ⟨r, hr, hk⟩ := callK_ok (bs := bs) hk
        exact ro_hp (hro g i.sub) (EffPost.heap (g := g) hk i hr (fun h => by rw [hg] at h; cases h))
    · rename_i vs fv hv hfv
      have hfe := (opv_ok hfv hf trivial).1
      have hva := vals_ok hv ho
      unfold CallV at hh
      split at hh
      · rename_i n first cap
        have hex : execOp a.eval ⟨dst, .call ⟨.value f, args, ts⟩, type, pos, after, guard⟩ = callFunc n (first.toList ++ (vs ++ cap.toList)).toArray := by
          show (do let d ← Deferred.ofValue (a.eval f) (args.map a.eval); invoke d.target d.args) = _
          rw [hfe, map_toList_eval, hva]
          show callFunc n (first ++ vs.toArray ++ cap) = _
          congr 1
          apply Array.toList_inj.1; simp
        rw [hex]
        exact ro_hp (callF_body hh.1) (call_post hg hh.2 i)
      · exact hh.elim
    · exact hh.elim
  · rename_i x y hxs
    obtain ⟨us, hus, hex⟩ := bi _ _ rfl hxs
    rw [hex]
    exact denApp_ok hh hus i hg
  · rename_i x y hxs
    obtain ⟨us, hus, hex⟩ := bi _ _ rfl hxs
    rw [hex]
    exact denCopy_ok hh hus i hg
  · rename_i x hxs
    obtain ⟨us, hus, hex⟩ := bi _ _ rfl hxs
    rw [hex]
    exact denClear_ok hh hus i hg
  · rename_i x y hxs
    obtain ⟨us, hus, hex⟩ := bi _ _ rfl hxs
    rw [hex]
    obtain ⟨u, w, rfl, hx, hy⟩ := two_args hus
    unfold denDelete at hh
    split at hh
    · rename_i mt tr r hts
      have hts : ts = (mt :: tr).toArray := by apply Array.toList_inj.1; exact hts
      split at hh
      · rename_i kt et kv hu hkv
        split at hh
        · rename_i kd hkd
          split at hh
          · rename_i hko
            obtain ⟨hke, hkk⟩ := kOkE_ok hko hy hkv
            refine nx_v ?_
            rw [hx.1, hke, hts]
            exact hp_delete hu hkd hkk hh i fun h' g' v hk i' => EffPost.heap hk i' (.inl rfl) fun e => by cases e
          · exact hh.elim
        · exact hh.elim
      · exact hh.elim
    · exact hh.elim
  · exact hh.elim

theorem eff_ok {P : Program} {N : Nat} {priv : List Nat} {e : Env} {a : Act} {o : Oper} {bs : BS} {bx : BX} {h g : PH} {K : KK} (hh : denStep P priv o none e bx h K) (hc : calm P o = false) (hf : Fits N bs e a) (i : Inv bs bx h g) :
    hp P (execOp a.eval o) (nx P (EffPost o bs bx h g K)) g := by
  obtain ⟨dst, op, type, pos, after, guard⟩ := o
  cases op <;> simp only [denStep] at hh <;> try (first | exact hh.elim | (simp [calm, lazyOk] at hc; done))
  case mapUpdate t m k x =>
    split at hh
    · rename_i p q r hp hq hr
      have hx := opv_ok hp hf trivial
      have hy := opv_ok hq hf trivial
      have hz := opv_ok hr hf trivial
      unfold denUpdate at hh
      split at hh
      · rename_i kt et r' hu
        split at hh
        · rename_i kd kv v hkd hkv hv
          split at hh
          · rename_i hko
            obtain ⟨hke, hkk⟩ := kOkE_ok hko hy hkv
            refine nx_u ?_
            rw [hx.1, hke, val_ok hv hz]
            exact hp_mapUpdate hu hkd hkk hh i fun h' g' hk i' => EffPost.heap hk i' (.inl rfl) fun e => by cases e
          · exact hh.elim
        · exact hh.elim
      · exact hh.elim
    · exact hh.elim
  case makeMap t n =>
    split at hh
    · refine nx_v ?_
      show hp P (.new _ _) _ g
      intro r hr
      have hr' : h r = none := by
        cases e : h r with
        | none => rfl
        | some o => rw [i.sub _ _ e] at hr; cases hr
      exact .heap (hh r hr') (i.newHeap hr _) (.inr ⟨rfl, rfl⟩) fun _ => (PH.Sub.refl h).new hr' _
    · exact hh.elim
  case makeSlice t x y =>
    split at hh
    · rename_i p q hp hq
      exact denMakeS_ok (o := ⟨dst, .makeSlice t x y, type, pos, after, guard⟩) hh (opv_ok hp hf trivial) (opv_ok hq hf trivial) i
    · exact hh.elim
  case alloc t =>
    split at hh
    · rename_i cs hcs
      obtain ⟨inf, z, hi, hz, hzc, hok, _⟩ := zeroE_ok hcs
      refine nx_v ?_
      unfold Instr.alloc
      rw [hp_bind]
      refine ro_hp (ro_zeroValue hi hz) ?_
      show hp P (do pure (Value.pointer (some (← newVar t z)))) _ g
      rw [hp_bind]
      refine hp_newVar fun r hr => ?_
      rw [hzc]
      exact denNew_ok (o := ⟨dst, .alloc t, type, pos, after, guard⟩) hh i hok r hr
    · exact hh.elim
  case box t x =>
    split at hh
    · rename_i y hy
      split at hh
      · rename_i cs hcs
        obtain ⟨hok, hcell⟩ := chsOf_ok hcs (opv_ok hy hf trivial)
        refine nx_v ?_
        unfold Instr.box
        rw [hp_bind]
        refine hp_newVar fun r hr => ?_
        rw [hcell]
        exact denNew_ok (o := ⟨dst, .box t x, type, pos, after, guard⟩) hh i hok r hr
      · exact hh.elim
    · exact hh.elim
  case buildSlice t n ps =>
    split at hh
    · rename_i el hu
      split at hh
      · rename_i cs hcs
        split at hh
        · rename_i hle
          obtain ⟨inf, z, zc, hi, hz, hzc, hs, hok, hfill⟩ := buildS_ok hcs hf
          have hle := Nat.le_of_ble_eq_true hle
          rw [sizeT_of hi] at hle
          refine nx_v ?_
          have e : (ps.map fun (i, x) => (i, a.eval x)) = (ps.toList.map fun p => (p.1, a.eval p.2)).toArray := by
            apply Array.toList_inj.1; simp
          rw [e]
          exact hp_buildSlice hu hi hz hzc hs hle hfill fun r hr => denNewSl_ok (o := ⟨dst, .buildSlice t n ps, type, pos, after, guard⟩) hh i hok r hr
        · exact hh.elim
      · exact hh.elim
    · exact hh.elim
  case store t x y =>
    split at hh
    · rename_i p q hp hq
      exact denStore_ok (o := ⟨dst, .store t x y, type, pos, after, guard⟩) hh (opv_ok hp hf trivial) (opv_ok hq hf trivial) i rfl
    · exact hh.elim
  case convert s d x =>
    have hs : strConv P s d = false := by
      cases e : strConv P s d with
      | false => rfl
      | true => simp [calm, e] at hc
    have hp : pureConv P s d = false := by simpa [calm, lazyOk, hs] using hc
    rw [hp] at hh
    split at hh
    · rename_i hx; cases hx
    · split at hh
      · rename_i p hp'
        exact denConv_ok (o := ⟨dst, .convert s d x, type, pos, after, guard⟩) hh hs (opv_ok hp' hf trivial) i rfl
      · exact hh.elim
    · exact hh.elim
  case call c =>
    split at hh
    · rename_i hcal; simp [calm, hcal] at hc
    · rename_i hcal; simp [calm, lazyOk, hcal] at hc
    · rename_i hcal; simp [calm, lazyOk, hcal] at hc
    · rename_i hcal; simp [calm, lazyOk, hcal] at hc
    · exact denCall_ok hh hf i

end TL

namespace TL
open Go

section
variable {P : Program} {e : Env} {G : Grd} {bx : BX} {h : PH}
theorem denInt_any {op : BinOp} {k : IntKind} {a b : Int} {y : Operand} {K : E0 → Prop} (hh : denInt op k a b y G K) : ∃ x, K x := by
  unfold denInt at hh
  (repeat' (split at hh)) <;> first | exact hh.elim | exact ⟨_, hh⟩ | exact ⟨_, hh.2⟩
theorem denShift_any {op : BinOp} {k : IntKind} {a b : Int} {y : Operand} {K : E0 → Prop} (hh : denShift op k a b y G K) : ∃ x, K x := by
  unfold denShift at hh
  (repeat' (split at hh)) <;> first | exact hh.elim | exact ⟨_, hh⟩ | exact ⟨_, hh.2⟩
theorem denStr_any {op : BinOp} {a b : ByteArray} {K : E0 → Prop} (hh : denStr op a b G K) : ∃ x, K x := by
  unfold denStr at hh
  (repeat' (split at hh)) <;> first | exact hh.elim | exact ⟨_, hh⟩ | exact ⟨_, hh.2⟩
theorem denBin_any {op : BinOp} {xt : TypeId} {x y : E0} {yo : Operand} {K : E0 → Prop} (hh : denBin P op xt x y yo G K) : ∃ x, K x := by
  unfold denBin at hh
  (repeat' (split at hh)) <;> first | exact hh.elim | exact denInt_any hh | exact denShift_any hh | exact denStr_any hh | exact ⟨_, hh⟩
theorem denUn_any {op : UnOp} {x : E0} {K : E0 → Prop} (hh : denUn op x K) : ∃ x, K x := by
  unfold denUn at hh
  (repeat' (split at hh)) <;> first | exact hh.elim | exact ⟨_, hh⟩
theorem bnd_any {d : Int} {o : Option Operand} {K : Int → Prop} (hh : bnd G e d o K) : ∃ x, K x := by
  unfold bnd at hh
  (repeat' (split at hh)) <;> first | exact hh.elim | exact ⟨_, hh⟩
theorem denSlice_any {t : TypeId} {x : E0} {lo hi mx : Option Operand} {K : E0 → Prop} (hh : denSlice P e G t x lo hi mx K) : ∃ x, K x := by
  unfold denSlice at hh
  (repeat' (split at hh)) <;> first
    | exact hh.elim
    | (obtain ⟨l, h1⟩ := bnd_any hh; obtain ⟨r, h2⟩ := bnd_any h1; obtain ⟨m, h3⟩ := bnd_any h2; exact ⟨_, h3.2⟩)
    | (obtain ⟨l, h1⟩ := bnd_any hh; obtain ⟨r, h2⟩ := bnd_any h1; exact ⟨_, h2.2⟩)
theorem denFieldAddr_any {t : TypeId} {x : E0} {f : Nat} {K : E0 → Prop} (hh : denFieldAddr P t x f K) : ∃ x, K x := by
  unfold denFieldAddr at hh
  (repeat' (split at hh)) <;> first | exact hh.elim | exact ⟨_, hh⟩
theorem denIndexAddr_any {t : TypeId} {x : E0} {io : Operand} {K : E0 → Prop} (hh : denIndexAddr P e G t x io K) : ∃ x, K x := by
  unfold denIndexAddr at hh
  (repeat' (split at hh)) <;> first | exact hh.elim | exact ⟨_, hh.2⟩ | exact ⟨_, hh⟩ | (obtain ⟨b, o, h1⟩ := hh; exact ⟨_, h1.2⟩)
theorem denIndex_any {t : TypeId} {x : E0} {io : Operand} {K : E0 → Prop} (hh : denIndex P e G t x io K) : ∃ x, K x := by
  unfold denIndex at hh
  (repeat' (split at hh)) <;> first | exact hh.elim | exact ⟨_, hh.2⟩ | exact ⟨_, hh⟩
theorem denField_any {t : TypeId} {x : E0} {f : Nat} {K : E0 → Prop} (hh : denField P t x f K) : ∃ x, K x := by
  unfold denField at hh
  (repeat' (split at hh)) <;> first | exact hh.elim | exact ⟨_, hh⟩
theorem denPick_any {c a b : Operand} {K : KK} (hh : denPick e G c a b bx h K) : ∃ x, K (.one x) none bx h := by
  unfold denPick at hh
  (repeat' (split at hh)) <;> first | exact hh.elim | exact ⟨_, hh⟩
theorem denMove_any {g : Nat × Bool × Bool} {x : Operand} {K : KK} (hh : denMove e (some g) x bx h K) : ∃ x, K (.one x) none bx h := by
  unfold denMove at hh
  (repeat' (split at hh)) <;> first | exact hh.elim | exact ⟨_, hh⟩ | (rename_i hx; cases hx)
theorem denLen_any {t : TypeId} {x : E0} {K : E0 → Prop} (hh : denLen P t x K) : ∃ x, K x := by
  unfold denLen at hh
  (repeat' (split at hh)) <;> first | exact hh.elim | exact ⟨_, hh⟩
theorem denCap_any {t : TypeId} {x : E0} {K : E0 → Prop} (hh : denCap P t x K) : ∃ x, K x := by
  unfold denCap at hh
  (repeat' (split at hh)) <;> first | exact hh.elim | exact ⟨_, hh⟩
theorem denMM_any {f : Int → Int → Int} {xs : List E0} {K : E0 → Prop} (hh : denMM f xs K) : ∃ x, K x := by
  unfold denMM at hh
  (repeat' (split at hh)) <;> first | exact hh.elim | exact ⟨_, hh⟩
theorem denConv_any {s d : TypeId} {x : E0} {K : KK} (hp : pureConv P s d = true) (hh : denConv P s d x bx h K) : ∃ x, K (.one x) none bx h := by
  unfold denConv at hh
  unfold pureConv at hp
  split at hh
  · exact ⟨_, hh⟩
  · exact ⟨_, hh⟩
  · rename_i h1 h2; rw [h1, h2] at hp; simp at hp
  · rename_i h1 h2; rw [h1, h2] at hp; simp at hp
  · exact hh.elim
theorem denLoad_any (hok : ∀ k c, nthB bx k = some c → chOk c) {t : TypeId} {x : E0} {K : KK} (hh : denLoad P G t x bx h K) : ∃ x c, K (.one x) (some c) bx h ∧ CR bx h c := by
  unfold denLoad at hh
  split at hh
  · obtain ⟨cs, hc, hh⟩ := exCh_ok hh
    split at hh
    · exact ⟨_, _, hh.2, hh.1⟩
    · exact hh.elim
  · split at hh
    · rename_i c hc
      split at hh
      · rename_i cs hcs
        split at hh
        · refine ⟨_, _, hh, c, hc, ?_⟩
          exact (chGet_ok hcs (hok _ _ hc)).2.2.2
        · exact hh.elim
      · exact hh.elim
    · exact hh.elim
  · split at hh
    · rename_i c kk hc hu
      split at hh
      · rename_i cs hcs
        split at hh
        · exact ⟨_, _, hh.2, c, hc, (chGet_ok hcs (hok _ _ hc)).2.2.2⟩
        · exact hh.elim
      · exact hh.elim
    · exact hh.elim
  · exact hh.elim
end

theorem load_any {P : Program} {priv : List Nat} {e : Env} {G : Grd} {o : Oper} {bx : BX} {h : PH} {K : KK} (hok : ∀ k c, nthB bx k = some c → chOk c) (hh : denStep P priv o G e bx h K) (hl : isLoad o = true) :
    ∃ x c, K (.one x) (some c) bx h ∧ CR bx h c := by
  obtain ⟨dst, op, type, pos, after, guard⟩ := o
  cases op <;> simp [isLoad] at hl
  simp only [denStep] at hh
  split at hh
  · exact denLoad_any hok hh
  · exact hh.elim

theorem lazy_any {P : Program} {priv : List Nat} {e : Env} {g : Nat × Bool × Bool} {o : Oper} {bx : BX} {h : PH} {K : KK} (hh : denStep P priv o (some g) e bx h K) (hz : lazyOk P o = true) (hl : isLoad o = false) :
    ∃ x, K (.one x) none bx h := by
  obtain ⟨dst, op, type, pos, after, guard⟩ := o
  cases op <;> simp only [denStep] at hh <;> try (simp [lazyOk] at hz; done)
  case move x => exact denMove_any hh
  case assign x => exact denMove_any hh
  case pick c x y => exact denPick_any hh
  case nilCheck x =>
    split at hh
    · obtain ⟨b, o, h1⟩ := hh; exact ⟨_, h1.2⟩
    · exact ⟨_, hh⟩
    · exact hh.elim
  case binOp => split at hh <;> first | exact hh.elim | (obtain ⟨x, hx⟩ := denBin_any hh; exact ⟨x, hx⟩)
  case unOp => split at hh <;> first | exact hh.elim | (obtain ⟨x, hx⟩ := denUn_any hh; exact ⟨x, hx⟩)
  case fieldAddr => split at hh <;> first | exact hh.elim | (obtain ⟨x, hx⟩ := denFieldAddr_any hh; exact ⟨x, hx⟩)
  case field => split at hh <;> first | exact hh.elim | (obtain ⟨x, hx⟩ := denField_any hh; exact ⟨x, hx⟩)
  case indexAddr => split at hh <;> first | exact hh.elim | (obtain ⟨x, hx⟩ := denIndexAddr_any hh; exact ⟨x, hx⟩)
  case index => split at hh <;> first | exact hh.elim | (obtain ⟨x, hx⟩ := denIndex_any hh; exact ⟨x, hx⟩)
  case slice => split at hh <;> first | exact hh.elim | (obtain ⟨x, hx⟩ := denSlice_any hh; exact ⟨x, hx⟩)
  case extract x i =>
    (repeat' (split at hh)) <;> first | exact hh.elim | exact ⟨_, hh⟩
  case load => simp [isLoad] at hl
  case call c =>
    simp only [lazyOk] at hz
    split at hh
    · split at hh
      · exact hh.elim
      · split at hh
        · obtain ⟨x, hx⟩ := denLen_any hh; exact ⟨x, hx⟩
        · exact hh.elim
    · split at hh
      · obtain ⟨x, hx⟩ := denCap_any hh; exact ⟨x, hx⟩
      · exact hh.elim
    · split at hh
      · obtain ⟨x, hx⟩ := denMM_any hh; exact ⟨x, hx⟩
      · exact hh.elim
    · split at hh
      · obtain ⟨x, hx⟩ := denMM_any hh; exact ⟨x, hx⟩
      · exact hh.elim
    · exact hh.elim
  case convert s d x =>
    simp only [lazyOk] at hz
    split at hh
    · split at hh
      · exact denConv_any hz hh
      · exact hh.elim
    · exact absurd (by assumption : pureConv P s d = false) (by rw [hz]; simp)
    · exact hh.elim

end TL

namespace TL
open Go

theorem e0Ok_app {bs : BS} (bs2 : BS) : ∀ {x : E0} {v : Value}, e0Ok bs x v → e0Ok (bs ++ bs2) x v
  | .v _, _, h => h
  | .lit _, _, h => h
  | .fn _, _, h => h
  | .agg _, _, h => h
  | .box _ _, _, ⟨b, T, h, e⟩ => ⟨b, T, by rw [List.getElem?_append_left (bs_lt h)]; exact h, e⟩
  | .boxi _ _ _ _, _, ⟨b, T, h, e⟩ => ⟨b, T, by rw [List.getElem?_append_left (bs_lt h)]; exact h, e⟩
  | .sl _ _, _, ⟨b, T, h, e⟩ => ⟨b, T, by rw [List.getElem?_append_left (bs_lt h)]; exact h, e⟩
theorem e0sOk_app {bs : BS} (bs2 : BS) : ∀ {xs : List E0} {vs : List Value}, e0sOk bs xs vs → e0sOk (bs ++ bs2) xs vs
  | [], [], _ => trivial
  | _ :: _, _ :: _, h => ⟨e0Ok_app bs2 h.1, e0sOk_app bs2 h.2⟩
  | [], _ :: _, h => h.elim
  | _ :: _, [], h => h.elim
theorem evOk_app {tm : Array Value} {bs : BS} (bs2 : BS) : ∀ {x : EV} {v : Value}, evOk tm bs x v → evOk tm (bs ++ bs2) x v
  | .s _, _, h => e0Ok_app bs2 h
  | .tup _, _, ⟨vs, e, h⟩ => ⟨vs, e, e0sOk_app bs2 h⟩
  | .iff _ _ _, _, h => ⟨fun e => e0Ok_app bs2 (h.1 e), h.2⟩
  | .off _ _, _, h => h
theorem Fits.app {N : Nat} {bs : BS} (bs2 : BS) {e : Env} {a : Act} (h : Fits N bs e a) : Fits N (bs ++ bs2) e a := ⟨fun p hp => evOk_app bs2 (h.env p hp), h.size, h.defs⟩

/-- the machine's state: the heap h and the boxes lie in the world, all else is as it was -/
def ST (N : Nat) (h0 : PH) (w0 : World) (bs : BS) (bx : BX) (h : PH) (e : Env) (a : Act) (w : World) : Prop := ∃ g, Inv bs bx h g ∧ Frm h0 w0 g w ∧ Fits N bs e a
/-- the boxes that may not be written are as they were -/
def Keep (wb : WB) (bx bx' : BX) : Prop := ∀ k c0, nthB bx k = some c0 → okW wb k = false → nthB bx' k = some c0
def Slots (W : List Nat) (a a' : Act) : Prop := ∀ t, t ∉ W → a'.tmps.getD t undef = a.tmps.getD t undef
theorem Keep.refl (wb : WB) (bx : BX) : Keep wb bx bx := fun _ _ h _ => h
theorem Keep.trans {wb : WB} {a b c : BX} (x : Keep wb a b) (y : Keep wb b c) : Keep wb a c := fun k c0 h e => y k c0 (x k c0 h e) e
theorem Slots.refl (W : List Nat) (a : Act) : Slots W a a := fun _ _ => rfl
theorem Slots.trans {W V : List Nat} {a b c : Act} (x : Slots W a b) (y : Slots V b c) : Slots (W ++ V) a c := fun t h => by
  rw [y t (fun e => h (List.mem_append_right _ e)), x t (fun e => h (List.mem_append_left _ e))]
theorem Slots.sub {W V : List Nat} {a b : Act} (x : Slots W a b) (h : ∀ t ∈ W, t ∈ V) : Slots V a b := fun t ht => x t (fun e => ht (h t e))
def dstL (d : Option Nat) : List Nat := match d with
  | some d => [d]
  | none => []
theorem Slots.put (a : Act) (d : Option Nat) (v : Value) : Slots (dstL d) a (a.put d v) := fun t h => by
  cases d with
  | none => rfl
  | some d => exact getD_set_ne' (fun e => h (by simp [dstL, e]))

/-! ### The guard -/
theorem yielded_slot {ops : Array Oper} {tm : Array Value} {j s : Nat} (h : slotOf ops j = some s) : yielded ops tm j = match tm.getD s undef with
    | .bool b => some b
    | _ => none := by
  unfold slotOf at h
  unfold yielded
  cases ho : ops[j]? with
  | none => rw [ho] at h; cases h
  | some o =>
    rw [ho] at h
    simp only at h
    simp only [Option.bind_some, h]
    cases hs : tm[s]? with
    | none =>
      have : tm.getD s undef = undef := by simp [hs]
      rw [this]
      rfl
    | some v =>
      have : tm.getD s undef = v := by simp [hs]
      rw [this]
      cases v <;> rfl
theorem wanted_slot {ops : Array Oper} {tm : Array Value} {o : Oper} {j s : Nat} {want b : Bool} (hg : o.guard = some (j, want)) (h : slotOf ops j = some s) (hb : tm.getD s undef = .bool b) :
    Region.wanted o (yielded ops tm) = (b == want) := by
  unfold Region.wanted
  simp only [hg]
  rw [yielded_slot h, hb]
  cases b <;> cases want <;> rfl
theorem wanted_undef {ops : Array Oper} {tm : Array Value} {o : Oper} {j s : Nat} {want : Bool} (hg : o.guard = some (j, want)) (h : slotOf ops j = some s) (hb : tm.getD s undef = undef) :
    Region.wanted o (yielded ops tm) = false := by
  unfold Region.wanted
  simp only [hg]
  rw [yielded_slot h, hb]
  rfl

theorem fits_know {N : Nat} {bs : BS} {e : Env} {a : Act} {s : Nat} {b : Bool} (hf : Fits N bs e a) (h : a.tmps.getD s undef = .bool b) : Fits N bs (know e s b) a := by
  refine ⟨fun p hp => ?_, hf.size, hf.defs⟩
  rcases List.mem_cons.1 hp with rfl | hp
  · exact h
  · exact hf.env p hp
theorem fits_cons {N : Nat} {bs : BS} {e : Env} {a : Act} {s : Nat} {x : E0} (hf : Fits N bs e a) (h : e0Ok bs x (a.tmps.getD s undef)) : Fits N bs ((s, .s x) :: e) a := by
  refine ⟨fun p hp => ?_, hf.size, hf.defs⟩
  rcases List.mem_cons.1 hp with rfl | hp
  · exact h
  · exact hf.env p hp

/-- what the guard leaves: run, not run, or denoted though not run -/
def Gone (P : Program) (N : Nat) (priv : List Nat) (wb : WB) (ops : Array Oper) (o : Oper) (bs : BS) (a : Act) (bx : BX) (h : PH) (K : KO) : Prop :=
  ∃ e, Fits N bs e a ∧
    ((Region.wanted o (yielded ops a.tmps) = true ∧ ∃ G, denOp1 P N priv wb o G e bx h K ∧ GT G a ∧ (G = none ∨ lazyOk P o = true)) ∨
     (Region.wanted o (yielded ops a.tmps) = false ∧ denSk N o e bx h K) ∨
     (Region.wanted o (yielded ops a.tmps) = false ∧ lazyOk P o = true ∧ ∃ s b w, denOp1 P N priv wb o (some (s, b, w)) e bx h K ∧ a.tmps.getD s undef = .bool b ∧ b ≠ w))

theorem denG1_ok {P : Program} {N : Nat} {priv : List Nat} {wb : WB} {ops : Array Oper} {o : Oper} {j s : Nat} {x : E0} {want : Bool} {e : Env} {bx : BX} {h : PH} {K : KO} {bs : BS} {a : Act}
    (hh : denG1 P N priv wb o s x want e bx h K) (hg : o.guard = some (j, want)) (hs : slotOf ops j = some s) (hx : e0Ok bs x (a.tmps.getD s undef)) (hf : Fits N bs e a) : Gone P N priv wb ops o bs a bx h K := by
  unfold denG1 at hh
  split at hh
  · rename_i b
    have hw := wanted_slot hg hs hx
    split at hh
    · rename_i hb
      exact ⟨e, hf, .inl ⟨by rw [hw, hb], none, hh, trivial, .inl rfl⟩⟩
    · rename_i hb
      exact ⟨e, hf, .inr (.inl ⟨by rw [hw, hb], hh⟩)⟩
  · rename_i b
    have hb := hx.1
    have hw := wanted_slot hg hs hb
    split at hh
    · rename_i hz
      by_cases hbw : b = want
      · exact ⟨e, hf, .inl ⟨by rw [hw, hbw]; simp, _, hh, ⟨by rw [hb, hbw], hbw⟩, .inr hz⟩⟩
      · exact ⟨e, hf, .inr (.inr ⟨by rw [hw]; simpa using hbw, hz, s, b, want, hh, hb, hbw⟩)⟩
    · by_cases hbw : b = want
      · exact ⟨_, fits_know hf (by rw [hb, hbw]), .inl ⟨by rw [hw, hbw]; simp, none, hh.1 hbw, trivial, .inl rfl⟩⟩
      · have hbw' : b = !want := by cases b <;> cases want <;> simp at hbw ⊢
        exact ⟨_, fits_know hf (by rw [hb, hbw']), .inr (.inl ⟨by rw [hw]; simpa using hbw, hh.2 hbw'⟩)⟩
  · exact hh.elim
theorem denGo_ok {P : Program} {N : Nat} {priv : List Nat} {wb : WB} {ops : Array Oper} {o : Oper} {e : Env} {bx : BX} {h : PH} {K : KO} {bs : BS} {a : Act}
    (hh : denGo P N priv wb ops o e bx h K) (hf : Fits N bs e a) : Gone P N priv wb ops o bs a bx h K := by
  unfold denGo at hh
  split at hh
  · rename_i hg
    exact ⟨e, hf, .inl ⟨by simp [Region.wanted, hg], none, hh, trivial, .inl rfl⟩⟩
  · rename_i j want hg
    split at hh
    · exact hh.elim
    · rename_i s hs
      split at hh
      · rename_i x hx
        exact denG1_ok hh hg hs (hf.get hx) hf
      · rename_i s0 w0 x hx
        have hi := hf.get hx
        split at hh
        · rename_i b0 h0
          have hb := hf.get h0
          split at hh
          · rename_i hw
            have := beq_iff_eq.1 hw; subst this
            exact denG1_ok hh hg hs (hi.1 hb) (fits_cons hf (hi.1 hb))
          · rename_i hw
            have hne : b0 ≠ w0 := by simpa using hw
            refine ⟨e, hf, .inr (.inl ⟨wanted_undef hg hs (hi.2 fun e => ?_), hh⟩)⟩
            have hb' : a.tmps.getD s0 undef = .bool b0 := hb
            rw [hb'] at e; cases e; exact hne rfl
        · rename_i b0 h0
          have hb : a.tmps.getD s0 undef = .bool b0 := (hf.get h0).1
          by_cases hw : b0 = w0
          · have hb' : a.tmps.getD s0 undef = .bool w0 := by rw [hb, hw]
            exact denG1_ok (hh.1 hw) hg hs (hi.1 hb') (fits_cons (fits_know hf hb') (hi.1 hb'))
          · have hw' : b0 = !w0 := by cases b0 <;> cases w0 <;> simp at hw ⊢
            refine ⟨_, fits_know hf (by rw [hb, hw']), .inr (.inl ⟨wanted_undef hg hs (hi.2 fun e => ?_), hh.2 hw'⟩)⟩
            rw [hb] at e; cases e; exact hw rfl
        · exact hh.elim
      · rename_i hx
        exact ⟨e, hf, .inr (.inl ⟨wanted_undef hg hs (hf.get hx), hh⟩)⟩
      · exact hh.elim

/-! ### The environment behind an operation -/
theorem dstOk_lt {N d : Nat} (h : dstOk N (some d) = true) : d < N := by simpa [dstOk] using h
theorem fits_upd {N : Nat} {bs : BS} {e : Env} {a : Act} {G : Grd} {dst : Option Nat} {r : Rs} {v : Value} (hf : Fits N bs e a) (hd : dstOk N dst = true) (hg : GT G a) (hr : r = .skip ∨ rsOk bs r v) :
    Fits N bs (updE e dst G r) (a.put dst v) := by
  cases dst with
  | none => exact hf
  | some d =>
    have hd := dstOk_lt hd
    have hc := fits_clear hf d v
    unfold updE
    simp only
    split
    · rcases hr with hr | hr
      · cases hr
      · exact fits_put hf hd hr
    · rename_i x s b w
      split
      · exact hc
      · rename_i hs
        have hs := Nat.ne_of_beq_eq_false hs
        have e1 : (a.put (some d) v).tmps.getD s undef = .bool w := by rw [show (a.put (some d) v).tmps.getD s undef = a.tmps.getD s undef from getD_set_ne' hs]; exact hg.1
        rcases hr with hr | hr
        · cases hr
        · exact fits_put hf hd ⟨fun _ => hr, fun h => absurd e1 h⟩
    · rcases hr with hr | hr
      · cases hr
      · exact fits_put hf hd hr
    · exact hc
theorem fits_skip {N : Nat} {bs : BS} {e : Env} {a : Act} {dst : Option Nat} (hf : Fits N bs e a) : Fits N bs (updO e dst) (a.put dst undef) := by
  cases dst with
  | none => exact hf
  | some d =>
    have hc := fits_clear hf d undef
    refine ⟨fun p hp => ?_, hc.size, hc.defs⟩
    rcases List.mem_cons.1 hp with rfl | hp
    · show (a.put (some d) undef).tmps.getD d undef = undef
      simp only [Act.put, Array.getD_eq_getD_getElem?, Array.getElem?_setIfInBounds]
      by_cases h : d < a.tmps.size <;> simp [h]
    · exact hc.env p hp
theorem fits_off {N : Nat} {bs : BS} {e : Env} {a : Act} {dst : Option Nat} {s : Nat} {b w : Bool} {x : E0} (hf : Fits N bs e a) (hd : dstOk N dst = true) (hs : a.tmps.getD s undef = .bool b) (hb : b ≠ w) :
    Fits N bs (updE e dst (some (s, b, w)) (.one x)) (a.put dst undef) := by
  cases dst with
  | none => exact hf
  | some d =>
    have hd := dstOk_lt hd
    unfold updE
    simp only
    split
    · exact fits_clear hf d undef
    · rename_i hne
      have hne := Nat.ne_of_beq_eq_false hne
      have e1 : (a.put (some d) undef).tmps.getD s undef = .bool b := by rw [show (a.put (some d) undef).tmps.getD s undef = a.tmps.getD s undef from getD_set_ne' hne]; exact hs
      exact fits_put hf hd ⟨fun e => by rw [e1] at e; cases e; exact absurd rfl hb, fun _ => rfl⟩

/-! ### Running -/
theorem hp_oper {P : Program} {o : Oper} {a : Act} {g : PH} {w : World} {R : Value → PH → Prop} {K : Act → World → Prop} {Q : Exit → Act → World → Prop} (h : hp P (execOp a.eval o) (nx P R) g) (hi : g.In w)
    (hk : ∀ v g' w', R v g' → Frm g w g' w' → K (a.put o.dst v) w') : o.wp P a w K Q := by
  obtain ⟨n, w', g', hr, hn, hF⟩ := hp_run h hi
  unfold Oper.wp
  rw [hr]
  cases n <;> try exact hn.elim
  case value v => exact hk _ _ _ hn hF
  case skip => exact hk _ _ _ hn hF
  case enter f args =>
    have hc := hn w' hF.inn
    simp only [Array.toArray_toList] at hc
    refine Calls.mono hc ?_
    rintro e w'' ⟨v, h', rfl, hq, hF'⟩
    exact hk _ _ _ hq (hF.trans hF')

theorem lazy_calm {P : Program} {o : Oper} (h : lazyOk P o = true) : calm P o = true := by
  unfold calm
  split
  · rfl
  · rfl
  · rfl
  · split
    · rfl
    · exact h
  · split
    · rfl
    · exact h
  · exact h
/-- calm operations too: over the heap -/
theorem any_ok {P : Program} {N : Nat} {priv : List Nat} {e : Env} {G : Grd} {a : Act} {o : Oper} {bs : BS} {bx : BX} {h g : PH} {K : KK} (hh : denStep P priv o G e bx h K) (hz : G = none ∨ lazyOk P o = true) (hf : Fits N bs e a) (hg : GT G a) (i : Inv bs bx h g) :
    hp P (execOp a.eval o) (nx P (EffPost o bs bx h g K)) g := by
  cases hc : calm P o with
  | false =>
    have hn : G = none := by
      rcases hz with hz | hz
      · exact hz
      · rw [lazy_calm hz] at hc; cases hc
    subst hn
    exact eff_ok hh hc hf i
  | true =>
    have ng : grows o = false := by
      obtain ⟨dst, op, type, pos, after, guard⟩ := o
      cases op <;> simp [grows] <;> simp [calm, lazyOk] at hc
    cases hl : isRd P o with
    | false =>
      obtain ⟨r, v, h1, h2, h3⟩ := calm_ok hh hc hl hf hg
      exact ro_hp (h1 g) (EffPost.heap (g := g) h3 i (.inr h2) fun e => by rw [ng] at e; cases e)
    | true =>
      obtain ⟨r, c, v, h1, h2, h3, _, h4⟩ := rd_ok hh hl hf hg i
      refine ro_hp (h4 g h3) ⟨r, some c, [], bx, h, h1, by simpa using i, .inr (by simpa using h2), fun _ _ e _ => e, fun k off n e => ?_, fun e => by rw [ng] at e; cases e⟩
      subst e; exact h2.elim

/-- behind an operation -/
def OpPost (N : Nat) (h0 : PH) (w0 : World) (wb : WB) (o : Oper) (bs : BS) (bx : BX) (a : Act) (K : KO) (a' : Act) (w' : World) : Prop :=
  ∃ r c e' bs2 bx' h', K r c e' bx' h' ∧ ST N h0 w0 (bs ++ bs2) bx' h' e' a' w' ∧ Keep wb bx bx' ∧ Slots (dstL o.dst) a a'
/-- an operation, wanted or not -/
theorem go_ok {P : Program} {N : Nat} {priv : List Nat} {wb : WB} {ops : Array Oper} {o : Oper} {e : Env} {bx : BX} {h : PH} {K : KO} {bs : BS} {a : Act} {h0 : PH} {w0 w : World} {K' : Act → World → Prop} {Q : Exit → Act → World → Prop}
    (hh : denGo P N priv wb ops o e bx h K) (hs : ST N h0 w0 bs bx h e a w) (hk : ∀ a' w', OpPost N h0 w0 wb o bs bx a K a' w' → K' a' w') :
    if Region.wanted o (yielded ops a.tmps) then o.wp P a w K' Q ∨ (o.asks P a w ∧ LetsOut Q) else K' (a.put o.dst undef) w := by
  obtain ⟨g, i, hF, hf⟩ := hs
  obtain ⟨e, hf, hh⟩ := denGo_ok hh hf
  rcases hh with ⟨hw, G, hd, hg, hz⟩ | ⟨hw, hd⟩ | ⟨hw, hz, s, b, wt, hd, hs, hb⟩
  · rw [if_pos hw]
    refine .inl ?_
    unfold denOp1 at hd
    split at hd
    · rename_i hdst
      refine hp_oper (any_ok hd hz hf hg i) hF.inn ?_
      rintro v g' w' ⟨r, c, bs2, bx', h', h1, h2, h3, h4, h5, h6⟩ hF'
      split at h1
      · rename_i hwok
        refine hk _ _ ⟨r, c, _, bs2, bx', h', h1, ⟨g', h2, hF.trans hF', fits_upd (hf.app bs2) hdst ?_ h3⟩, ?_, Slots.put a o.dst v⟩
        · exact hg
        · intro k c0 hk0 hok
          refine h4 k c0 hk0 ?_
          rintro off n ⟨rfl, rfl⟩
          simp only [wOk] at hwok
          rw [hok] at hwok; cases hwok
      · exact h1.elim
    · exact hd.elim
  · rw [if_neg (by simp [hw])]
    unfold denSk at hd
    split at hd
    · exact hk _ _ ⟨.skip, none, _, [], bx, h, hd, ⟨g, by simpa using i, hF, by simpa using fits_skip hf⟩, Keep.refl _ _, Slots.put a o.dst undef⟩
    · exact hd.elim
  · rw [if_neg (by simp [hw])]
    unfold denOp1 at hd
    split at hd
    · rename_i hdst
      have : ∃ x c, (match wOk wb (.one x) c with
          | true => K (.one x) c (updE e o.dst (some (s, b, wt)) (.one x)) bx h
          | false => False) := by
        cases hl : isLoad o with
        | false => obtain ⟨x, hx⟩ := lazy_any hd hz hl; exact ⟨x, _, hx⟩
        | true =>
          obtain ⟨x, c, hx, _⟩ := load_any (fun k c hc => by obtain ⟨_, _, _, h, _⟩ := i.at hc; exact h) hd hl
          exact ⟨x, _, hx⟩
      obtain ⟨x, c, hx⟩ := this
      rw [show wOk wb (.one x) c = true from by cases c <;> rfl] at hx
      exact hk _ _ ⟨.one x, c, _, [], bx, h, hx, ⟨g, by simpa using i, hF, by simpa using fits_off hf hdst hs hb⟩, Keep.refl _ _, Slots.put a o.dst undef⟩
    · exact hd.elim

theorem dstL_wr {o : Oper} {r : List Oper} : ∀ t, t ∈ dstL o.dst ++ wrOps r → t ∈ wrOps (o :: r) := fun t h => by
  simp only [wrOps]
  cases hd : o.dst with
  | none => simpa [dstL, hd] using h
  | some d => simpa [dstL, hd] using h
/-- the operations of a region, in their order -/
theorem denOps_ok {P : Program} {N : Nat} {priv : List Nat} {wb : WB} {ops : Array Oper} {h0 : PH} {w0 : World} {Q : Exit → Act → World → Prop} : ∀ {l : List Oper} {e : Env} {bx : BX} {h : PH} {K : Env → BX → PH → Prop} {bs : BS} {a : Act} {w : World},
    denOps P N priv wb ops l e bx h K → ST N h0 w0 bs bx h e a w →
    (∀ e' bs2 bx' h' a' w', K e' bx' h' → ST N h0 w0 (bs ++ bs2) bx' h' e' a' w' → Keep wb bx bx' → Slots (wrOps l) a a' → Q .normal a' w') → wpList P ops Q l a w
  | [], e, bx, h, K, bs, a, w, hh, hs, hq => hq e [] bx h a w hh (by simpa using hs) (Keep.refl _ _) (Slots.refl _ _)
  | o :: r, e, bx, h, K, bs, a, w, hh, hs, hq => by
    unfold wpList
    refine go_ok hh hs ?_
    rintro a1 w1 ⟨r1, c1, e1, bs1, bx1, h1, k1, s1, kp1, sl1⟩
    refine denOps_ok k1 s1 ?_
    intro e2 bs2 bx2 h2 a2 w2 k2 s2 kp2 sl2
    exact hq e2 (bs1 ++ bs2) bx2 h2 a2 w2 k2 (by rw [← List.append_assoc]; exact s2) (kp1.trans kp2) ((sl1.trans sl2).sub dstL_wr)

end TL
