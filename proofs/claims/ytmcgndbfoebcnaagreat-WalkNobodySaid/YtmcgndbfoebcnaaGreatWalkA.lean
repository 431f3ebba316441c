/-
  Walks: their states, what answers do to them, and what they come to. No condition.
-/
import Derived.Test.YtmcgndbfoebcnaaGreatTreeC
import Derived.Shelf.SlIter.Collect
import Derived.Shelf.SlSortCmp.WholeK
import Derived.Test.YtmcgndbfoebcnaaGreatProg
import Derived.Test.YtmcgndbfoebcnaaGreatTreeB
import Derived.Deep.RegionHeld3
namespace TL
open Go Go.Proofs

/-- a walk: its base, the root that is wanted, what is asked for, what is staged, the texts -/
structure WS where
  S : List PrR
  R : List UInt8
  A : Nat → Option (List UInt8)
  Q : Nat → Option (List PrR)
  T : List (List UInt8)
def wAsk (S : List PrR) (A : Nat → Option (List UInt8)) (c : Nat) (x : List UInt8) : Nat → Option (List UInt8) := if nd S c = x then A else upF A c (some x)
def wNew (S : List PrR) (R : List UInt8) : WS := ⟨S, R, wAsk S (fun _ => none) 1 R, fun _ => none, textsT S⟩
def wIn (s : WS) (c : Nat) (x y : List UInt8) : WS := { s with A := wAsk s.S (wAsk s.S (upF s.A c none) (2 * c) x) (2 * c + 1) y, T := s.T ++ [innT x y] }
def wPg (s : WS) (i : Nat) (l : List PrR) : WS := { s with A := upF s.A (16 + i) none, Q := upF s.Q i (some l), T := s.T ++ [76 :: pageL l] }
def known (X : Nat → Option (List UInt8)) (c : Nat) : Prop := c = 1 ∨ (X (c / 2)).isSome = true
/-- what is wanted of each node (W), and what was answered (X) -/
structure WInv (s : WS) (W : Nat → List UInt8) (X : Nat → Option (List UInt8)) : Prop where
  may : mayB s.S = true
  le : s.S.length ≤ 48
  r : W 1 = s.R
  wl : ∀ c, 1 ≤ c → c < 32 → known X c → (W c).length = 32
  un : ∀ c, 1 ≤ c → c < 32 → ¬ known X c → s.A c = none ∧ X c = none
  kn : ∀ c, 1 ≤ c → c < 32 → known X c → X c = none → (s.A c = none ∧ nd s.S c = W c) ∨ (s.A c = some (W c) ∧ nd s.S c ≠ W c)
  an : ∀ c t, 1 ≤ c → c < 32 → X c = some t → s.A c = none ∧ nd s.S c ≠ W c ∧ shaN t = W c ∧ t ∈ s.T
  inn : ∀ c t, 1 ≤ c → c < 16 → X c = some t → t = innT (W (2 * c)) (W (2 * c + 1))
  lf : ∀ i t, i < 16 → X (16 + i) = some t → ∃ l, s.Q i = some l ∧ PgOk i l ∧ t = 76 :: pageL l
  q : ∀ i l, i < 16 → s.Q i = some l → (X (16 + i)).isSome = true
  t : ∀ t ∈ textsT s.S, t ∈ s.T
  out : ∀ c, (c = 0 ∨ 32 ≤ c) → s.A c = none ∧ X c = none
variable {s : WS} {W : Nat → List UInt8} {X : Nat → Option (List UInt8)}
theorem wAsk_ne {S : List PrR} {A : Nat → Option (List UInt8)} {c d : Nat} {x : List UInt8} (h : d ≠ c) : wAsk S A c x d = A d := by
  unfold wAsk; split
  · rfl
  · rw [upF_ne _ _ h]
theorem wAsk_at {S : List PrR} {A : Nat → Option (List UInt8)} {c : Nat} {x : List UInt8} (h : A c = none) : (wAsk S A c x c = none ∧ nd S c = x) ∨ (wAsk S A c x c = some x ∧ nd S c ≠ x) := by
  unfold wAsk; split
  · rename_i e; exact .inl ⟨h, e⟩
  · rename_i e; exact .inr ⟨upF_same _ _ _, e⟩
theorem WInv.asked (v : WInv s W X) {c : Nat} {x : List UInt8} (h : s.A c = some x) : 1 ≤ c ∧ c < 32 ∧ known X c ∧ X c = none ∧ x = W c ∧ nd s.S c ≠ W c := by
  have h1 : 1 ≤ c ∧ c < 32 := by
    by_cases e : c = 0 ∨ 32 ≤ c
    · rw [(v.out c e).1] at h; cases h
    · omega
  have h2 : known X c := Classical.byContradiction fun e => by rw [(v.un c h1.1 h1.2 e).1] at h; cases h
  have h3 : X c = none := by
    cases e : X c with
    | none => rfl
    | some t => rw [(v.an c t h1.1 h1.2 e).1] at h; cases h
  rcases v.kn c h1.1 h1.2 h2 h3 with ⟨e, _⟩ | ⟨e, e2⟩
  · rw [e] at h; cases h
  · rw [e] at h; cases h
    exact ⟨h1.1, h1.2, h2, h3, rfl, e2⟩
theorem WInv.new {S : List PrR} {R : List UInt8} (hm : mayB S = true) (hl : S.length ≤ 48) (hR : R.length = 32) : WInv (wNew S R) (fun _ => R) fun _ => none := by
  have hk : ∀ c, known (fun _ => none) c → c = 1 := fun c h => by
    rcases h with h | h
    · exact h
    · cases h
  refine ⟨hm, hl, rfl, fun _ _ _ _ => hR, fun c _ _ h => ⟨?_, rfl⟩, fun c _ _ h _ => ?_, fun c t _ _ h => (by cases h), fun c t _ _ h => (by cases h), fun i t _ h => (by cases h), fun i l _ h => (by cases h), fun t h => h, fun c h => ⟨?_, rfl⟩⟩
  · exact wAsk_ne fun e => h (.inl e)
  · have := hk c h; subst this
    exact wAsk_at rfl
  · exact wAsk_ne (by omega)
theorem WInv.node (v : WInv s W X) {c : Nat} {x y : List UInt8} (hx : x.length = 32) (hy : y.length = 32) (hc : c < 16) (ha : s.A c = some (shaN (innT x y))) :
    WInv (wIn s c x y) (upF (upF W (2 * c) x) (2 * c + 1) y) (upF X c (some (innT x y))) := by
  obtain ⟨h1, _, h3, h4, h5, h6⟩ := v.asked ha
  have nk : ∀ d, (d = 2 * c ∨ d = 2 * c + 1) → s.A d = none ∧ X d = none := fun d hd => v.un d (by omega) (by omega) fun hk => by
    rcases hk with hk | hk
    · omega
    · rw [show d / 2 = c by omega, h4] at hk; cases hk
  have kn' : ∀ d, known (upF X c (some (innT x y))) d ↔ known X d ∨ d = 2 * c ∨ d = 2 * c + 1 := fun d => by
    unfold known upF
    by_cases e : d / 2 = c
    · rw [if_pos e]
      refine ⟨fun _ => .inr (by omega), fun _ => .inr rfl⟩
    · rw [if_neg e]
      refine ⟨fun h => .inl h, fun h => ?_⟩
      rcases h with h | h
      · exact h
      · omega
  have W' : ∀ d, d ≠ 2 * c → d ≠ 2 * c + 1 → upF (upF W (2 * c) x) (2 * c + 1) y d = W d := fun d e1 e2 => by rw [upF_ne _ _ e2, upF_ne _ _ e1]
  have A' : ∀ d, d ≠ c → d ≠ 2 * c → d ≠ 2 * c + 1 → (wIn s c x y).A d = s.A d := fun d e0 e1 e2 => by
    show wAsk _ _ _ _ d = _
    rw [wAsk_ne e2, wAsk_ne e1, upF_ne _ _ e0]
  have X' : ∀ d, d ≠ c → upF X c (some (innT x y)) d = X d := fun d e => upF_ne _ _ e
  have Wc : upF (upF W (2 * c) x) (2 * c + 1) y c = W c := W' c (by omega) (by omega)
  have Ac : (wIn s c x y).A c = none := by
    show wAsk _ _ _ _ c = _
    rw [wAsk_ne (by omega), wAsk_ne (by omega), upF_same]
  refine ⟨v.may, v.le, ?_, fun d d1 d2 hk => ?_, fun d d1 d2 hk => ?_, fun d d1 d2 hk hX => ?_, fun d t d1 d2 hX => ?_, fun d t d1 d2 hX => ?_, fun i t hi hX => ?_, fun i l hi hQ => ?_, fun t ht => List.mem_append_left _ (v.t t ht), fun d hd => ⟨?_, ?_⟩⟩
  · rw [W' 1 (by omega) (by omega)]; exact v.r
  · rcases (kn' d).1 hk with hk | rfl | rfl
    · by_cases e1 : d = 2 * c
      · subst e1; rw [upF_ne _ _ (by omega), upF_same]; exact hx
      · by_cases e2 : d = 2 * c + 1
        · subst e2; rw [upF_same]; exact hy
        · rw [W' d e1 e2]; exact v.wl d d1 d2 hk
    · rw [upF_ne _ _ (by omega), upF_same]; exact hx
    · rw [upF_same]; exact hy
  · have hk := fun h => hk ((kn' d).2 h)
    have e0 : d ≠ c := fun e => hk (.inl (e ▸ h3))
    rw [A' d e0 (fun e => hk (.inr (.inl e))) (fun e => hk (.inr (.inr e))), X' d e0]
    exact v.un d d1 d2 fun h => hk (.inl h)
  · have e0 : d ≠ c := fun e => by subst e; rw [upF_same] at hX; cases hX
    by_cases e1 : d = 2 * c
    · subst e1
      have hw : upF (upF W (2 * c) x) (2 * c + 1) y (2 * c) = x := by rw [upF_ne _ _ (by omega), upF_same]
      have hA : (wIn s c x y).A (2 * c) = wAsk s.S (upF s.A c none) (2 * c) x (2 * c) := wAsk_ne (by omega)
      rw [hw, hA]
      exact wAsk_at (by rw [upF_ne _ _ (by omega)]; exact (nk _ (.inl rfl)).1)
    · by_cases e2 : d = 2 * c + 1
      · subst e2
        rw [upF_same]
        refine wAsk_at ?_
        rw [wAsk_ne (by omega), upF_ne _ _ (by omega)]; exact (nk _ (.inr rfl)).1
      · rw [A' d e0 e1 e2, W' d e1 e2]
        rw [X' d e0] at hX
        refine v.kn d d1 d2 ?_ hX
        rcases (kn' d).1 hk with h | h | h
        · exact h
        · exact absurd h e1
        · exact absurd h e2
  · by_cases e0 : d = c
    · subst e0
      rw [upF_same] at hX; cases hX
      rw [Wc]
      exact ⟨Ac, h6, h5, List.mem_append_right _ (by simp)⟩
    · rw [X' d e0] at hX
      obtain ⟨a1, a2, a3, a4⟩ := v.an d t d1 d2 hX
      have e1 : d ≠ 2 * c := fun e => by rw [(nk d (.inl e)).2] at hX; cases hX
      have e2 : d ≠ 2 * c + 1 := fun e => by rw [(nk d (.inr e)).2] at hX; cases hX
      rw [A' d e0 e1 e2, W' d e1 e2]
      exact ⟨a1, a2, a3, List.mem_append_left _ a4⟩
  · by_cases e0 : d = c
    · subst e0
      rw [upF_same] at hX; cases hX
      rw [upF_same, upF_ne _ _ (show 2 * d ≠ 2 * d + 1 by omega), upF_same]
    · rw [X' d e0] at hX
      rw [W' (2 * d) (by omega) (by omega), W' (2 * d + 1) (by omega) (by omega)]
      exact v.inn d t d1 d2 hX
  · rw [X' _ (by omega)] at hX
    exact v.lf i t hi hX
  · rw [X' _ (by omega)]
    exact v.q i l hi hQ
  · rw [A' d (by omega) (by omega) (by omega)]; exact (v.out d hd).1
  · rw [X' d (by omega)]; exact (v.out d hd).2
theorem WInv.page (v : WInv s W X) {i : Nat} {l : List PrR} (hi : i < 16) (hp : PgOk i l) (ha : s.A (16 + i) = some (shaN (76 :: pageL l))) : WInv (wPg s i l) W (upF X (16 + i) (some (76 :: pageL l))) := by
  obtain ⟨h1, _, h3, h4, h5, h6⟩ := v.asked ha
  have X' : ∀ d, d ≠ 16 + i → upF X (16 + i) (some (76 :: pageL l)) d = X d := fun d e => upF_ne _ _ e
  have A' : ∀ d, d ≠ 16 + i → (wPg s i l).A d = s.A d := fun d e => upF_ne _ _ e
  have kn' : ∀ d, d < 32 → (known (upF X (16 + i) (some (76 :: pageL l))) d ↔ known X d) := fun d hd => by
    unfold known
    rw [X' (d / 2) (by omega)]
  refine ⟨v.may, v.le, v.r, fun d d1 d2 hk => v.wl d d1 d2 ((kn' d d2).1 hk), fun d d1 d2 hk => ?_, fun d d1 d2 hk hX => ?_, fun d t d1 d2 hX => ?_, fun d t d1 d2 hX => ?_, fun j t hj hX => ?_, fun j m hj hQ => ?_, fun t ht => List.mem_append_left _ (v.t t ht), fun d hd => ⟨?_, ?_⟩⟩
  · have hk : ¬ known X d := fun h => hk ((kn' d d2).2 h)
    have e0 : d ≠ 16 + i := fun e => hk (e ▸ h3)
    rw [A' d e0, X' d e0]
    exact v.un d d1 d2 hk
  · have e0 : d ≠ 16 + i := fun e => by subst e; rw [upF_same] at hX; cases hX
    rw [X' d e0] at hX
    rw [A' d e0]
    exact v.kn d d1 d2 ((kn' d d2).1 hk) hX
  · by_cases e0 : d = 16 + i
    · subst e0
      rw [upF_same] at hX; cases hX
      exact ⟨upF_same _ _ _, h6, h5, List.mem_append_right _ (by simp)⟩
    · rw [X' d e0] at hX
      obtain ⟨a1, a2, a3, a4⟩ := v.an d t d1 d2 hX
      rw [A' d e0]
      exact ⟨a1, a2, a3, List.mem_append_left _ a4⟩
  · rw [X' d (by omega)] at hX
    exact v.inn d t d1 d2 hX
  · by_cases e0 : j = i
    · subst e0
      rw [upF_same] at hX; cases hX
      exact ⟨l, upF_same _ _ _, hp, rfl⟩
    · rw [X' _ (by omega)] at hX
      obtain ⟨m, m1, m2, m3⟩ := v.lf j t hj hX
      exact ⟨m, by show upF s.Q i (some l) j = _; rw [upF_ne _ _ e0]; exact m1, m2, m3⟩
  · by_cases e0 : j = i
    · subst e0; rw [upF_same]; rfl
    · rw [X' _ (by omega)]
      have hQ : upF s.Q i (some l) j = some m := hQ
      rw [upF_ne _ _ e0] at hQ
      exact v.q j m hj hQ
  · rw [A' d (by omega)]; exact (v.out d hd).1
  · rw [X' d (by omega)]; exact (v.out d hd).2

/-! ### A tree of texts -/
structure VT (T : List (List UInt8)) (P : Nat → List PrR) (R : List UInt8) (H : Nat → List UInt8) (TX : Nat → List UInt8) : Prop where
  r : H 1 = R
  mem : ∀ c, 1 ≤ c → c < 32 → TX c ∈ T
  sha : ∀ c, 1 ≤ c → c < 32 → shaN (TX c) = H c
  inn : ∀ c, 1 ≤ c → c < 16 → TX c = innT (H (2 * c)) (H (2 * c + 1))
  lf : ∀ i, i < 16 → TX (16 + i) = 76 :: pageL (P i)
  ok : ∀ i, i < 16 → PgOk i (P i)
def ndT (S : List PrR) (c : Nat) : List UInt8 := if c < 16 then inT S c else leafT S (c - 16)
theorem ndT_sha (S : List PrR) {c : Nat} (h1 : 1 ≤ c) (h2 : c < 32) : shaN (ndT S c) = nd S c := by
  unfold ndT
  split
  · rename_i h; unfold nd; rw [node_in _ h1 h]; rfl
  · rename_i h; unfold nd; rw [node_leaf _ (by omega) h2]; rfl
theorem ndT_mem (S : List PrR) {c : Nat} (h1 : 1 ≤ c) (h2 : c < 32) : ndT S c ∈ textsT S := by
  unfold ndT
  split
  · rename_i h; exact mem_in h1 h
  · exact mem_leaf (by omega)
theorem VT.tree {S : List PrR} (hm : mayB S = true) (hl : S.length ≤ 48) : VT (textsT S) (partB S) (nd S 1) (nd S) (ndT S) := by
  refine ⟨rfl, fun c h1 h2 => ndT_mem S h1 h2, fun c h1 h2 => ndT_sha S h1 h2, fun c h1 h2 => ?_, fun i hi => ?_, fun i _ => part_ok hm hl i⟩
  · unfold ndT; rw [if_pos h2]; rfl
  · unfold ndT; rw [if_neg (by omega), show 16 + i - 16 = i by omega]; rfl
theorem innT_inj {x y x' y' : List UInt8} (h : innT x y = innT x' y') (hx : x.length = x'.length) : x = x' ∧ y = y' := by
  unfold innT at h
  simp only [List.cons.injEq, true_and] at h
  exact List.append_inj h hx
theorem VT.inj {T T' L : List (List UInt8)} {P P' : Nat → List PrR} {R : List UInt8} {H H' TX TX' : Nat → List UInt8} (v : VT T P R H TX) (v' : VT T' P' R H' TX') (hno : NoColl L L.length) (h1 : ∀ t ∈ T, t ∈ L) (h2 : ∀ t ∈ T', t ∈ L) :
    ∀ i, i < 16 → P i = P' i := by
  have hall : ∀ m c, c = m → 1 ≤ c → c < 32 → H c = H' c := by
    intro m
    induction m using Nat.strongRecOn with
    | ind m ih =>
      intro c hcm c1 c2
      by_cases e : c = 1
      · subst e; rw [v.r, v'.r]
      · have hp := ih (c / 2) (by omega) (c / 2) rfl (by omega) (by omega)
        rw [← v.sha _ (by omega) (by omega), ← v'.sha _ (by omega) (by omega)] at hp
        have ht := nocoll_mem hno (h1 _ (v.mem _ (by omega) (by omega))) (h2 _ (v'.mem _ (by omega) (by omega))) hp
        rw [v.inn _ (by omega) (by omega), v'.inn _ (by omega) (by omega)] at ht
        have hl : (H (2 * (c / 2))).length = (H' (2 * (c / 2))).length := by
          rw [← v.sha _ (by omega) (by omega), ← v'.sha _ (by omega) (by omega), shaN_len, shaN_len]
        obtain ⟨t1, t2⟩ := innT_inj ht hl
        rcases Nat.mod_two_eq_zero_or_one c with h | h
        · rw [show 2 * (c / 2) = c by omega] at t1; exact t1
        · rw [show 2 * (c / 2) + 1 = c by omega] at t2; exact t2
  intro i hi
  have hh := hall (16 + i) (16 + i) rfl (by omega) (by omega)
  rw [← v.sha _ (by omega) (by omega), ← v'.sha _ (by omega) (by omega)] at hh
  have ht := nocoll_mem hno (h1 _ (v.mem _ (by omega) (by omega))) (h2 _ (v'.mem _ (by omega) (by omega))) hh
  rw [v.lf i hi, v'.lf i hi] at ht
  simp only [List.cons.injEq, true_and] at ht
  exact page_inj (v.ok i hi) (v'.ok i hi) ht
/-- the parts that a walk comes to -/
def wPart (s : WS) (i : Nat) : List PrR := (s.Q i).getD (partB s.S i)
theorem WInv.vt (v : WInv s W X) (hd : ∀ c, s.A c = none) : ∃ H TX, VT s.T (wPart s) s.R H TX := by
  refine ⟨fun c => if (1 ≤ c ∧ c < 32) ∧ (c = 1 ∨ (X (c / 2)).isSome = true) then W c else nd s.S c, fun c => (X c).getD (ndT s.S c), ?_⟩
  have kx : ∀ c, (X c).isSome = true → 1 ≤ c → c < 32 → known X c := fun c hc h1 h2 => Classical.byContradiction fun h => by rw [(v.un c h1 h2 h).2] at hc; cases hc
  have hH : ∀ c, 1 ≤ c → c < 32 → shaN ((X c).getD (ndT s.S c)) = if (1 ≤ c ∧ c < 32) ∧ (c = 1 ∨ (X (c / 2)).isSome = true) then W c else nd s.S c := fun c h1 h2 => by
    cases e : X c with
    | some t =>
      have hk := kx c (by rw [e]; rfl) h1 h2
      rw [if_pos ⟨⟨h1, h2⟩, hk⟩]
      exact (v.an c t h1 h2 e).2.2.1
    | none =>
      rw [Option.getD_none, ndT_sha _ h1 h2]
      split
      · rename_i hk
        rcases v.kn c h1 h2 hk.2 e with ⟨_, h⟩ | ⟨h, _⟩
        · exact h
        · rw [hd c] at h; cases h
      · rfl
  refine ⟨?_, fun c h1 h2 => ?_, hH, fun c h1 h2 => ?_, fun i hi => ?_, fun i hi => ?_⟩
  · rw [if_pos ⟨by omega, .inl rfl⟩]; exact v.r
  · cases e : X c with
    | some t => exact (v.an c t h1 h2 e).2.2.2
    | none => exact v.t _ (ndT_mem _ h1 h2)
  · cases e : X c with
    | some t =>
      rw [if_pos ⟨by omega, .inr (by rw [show 2 * c / 2 = c by omega, e]; rfl)⟩, if_pos ⟨by omega, .inr (by rw [show (2 * c + 1) / 2 = c by omega, e]; rfl)⟩]
      exact v.inn c t h1 h2 e
    | none =>
      have n1 : ¬ (2 * c = 1 ∨ (X (2 * c / 2)).isSome = true) := fun h => by
        rcases h with h | h
        · omega
        · rw [show 2 * c / 2 = c by omega, e] at h; cases h
      have n2 : ¬ (2 * c + 1 = 1 ∨ (X ((2 * c + 1) / 2)).isSome = true) := fun h => by
        rcases h with h | h
        · omega
        · rw [show (2 * c + 1) / 2 = c by omega, e] at h; cases h
      rw [if_neg fun h => n1 h.2, if_neg fun h => n2 h.2, Option.getD_none]
      unfold ndT; rw [if_pos h2]; rfl
  · unfold wPart
    cases e : X (16 + i) with
    | some t =>
      obtain ⟨l, h1, _, h3⟩ := v.lf i t hi e
      rw [h1]; exact h3
    | none =>
      have : s.Q i = none := by
        cases e2 : s.Q i with
        | none => rfl
        | some l => have := v.q i l hi e2; rw [e] at this; cases this
      rw [this, Option.getD_none, Option.getD_none]
      unfold ndT; rw [if_neg (by omega), show 16 + i - 16 = i by omega]; rfl
  · unfold wPart
    cases e : s.Q i with
    | none => exact part_ok v.may v.le i
    | some l =>
      have := v.q i l hi e
      obtain ⟨t, ht⟩ := Option.isSome_iff_exists.1 this
      obtain ⟨m, h1, h2, _⟩ := v.lf i t hi ht
      rw [e] at h1; cases h1
      exact h2
/-- parts put together, in their row -/
theorem parts_up {P : Nat → List PrR} (hok : ∀ i, i < 16 → PgOk i (P i)) {l : List PrR} (hp : l.Perm ((List.range 16).flatMap P)) (hs : l.Pairwise fun a b => ¬ b.p < a.p) : mayB l = true ∧ ∀ i, i < 16 → partB l i = P i := by
  have hne : ((List.range 16).flatMap P).Pairwise fun a b => a.p ≠ b.p := by
    rw [List.pairwise_flatMap]
    refine ⟨fun i hi => (may_ok (hok i (List.mem_range.1 hi)).1).2.imp fun {a b} h e => by rw [e] at h; exact List.lt_irrefl _ h, ?_⟩
    refine List.Pairwise.imp_of_mem (R := fun a b => a < b) (fun {i j} hi hj hij => ?_) List.pairwise_lt_range
    intro a ha b hb e
    have h1 := (hok i (List.mem_range.1 hi)).2.1 a ha
    have h2 := (hok j (List.mem_range.1 hj)).2.1 b hb
    rw [e, h2] at h1; omega
  have hne2 : l.Pairwise fun a b => a.p ≠ b.p := (hp.pairwise_iff fun {a b} h => fun e => h e.symm).2 hne
  have hup : Up l := (hs.and hne2).imp fun {a b} h => lt_of_not h.1 (fun e => h.2 e.symm)
  have hall : ∀ x ∈ l, okPr x = true := fun x hx => by
    have := hp.mem_iff.1 hx
    obtain ⟨i, hi, hx⟩ := List.mem_flatMap.1 this
    exact (may_ok (hok i (List.mem_range.1 hi)).1).1 x hx
  refine ⟨?_, fun i hi => ?_⟩
  · simp only [mayB, Bool.and_eq_true, List.all_eq_true, decide_eq_true_eq]
    exact ⟨hall, hup⟩
  · have h1 : (partB l i).Perm (P i) := by
      have h2 : (partB l i).Perm (partB ((List.range 16).flatMap P) i) := hp.filter _
      refine h2.trans (List.Perm.of_eq ?_)
      unfold partB
      rw [List.filter_flatMap]
      have : ∀ j, j < 16 → (P j).filter (fun x => bkt x.p == i) = if j = i then P i else [] := fun j hj => by
        split
        · rename_i e; subst e
          exact List.filter_eq_self.2 fun x hx => by simp [(hok j hj).2.1 x hx]
        · rename_i e
          exact List.filter_eq_nil_iff.2 fun x hx => by simp [(hok j hj).2.1 x hx, e]
      rw [flat_at _ hi]
      have z1 : (List.range i).flatMap (fun j => (P j).filter fun x => bkt x.p == i) = [] := List.flatMap_eq_nil_iff.2 fun j hj => by
        rw [this j (by have := List.mem_range.1 hj; omega), if_neg (by have := List.mem_range.1 hj; omega)]
      have z2 : (List.range' (i + 1) (16 - i - 1)).flatMap (fun j => (P j).filter fun x => bkt x.p == i) = [] := List.flatMap_eq_nil_iff.2 fun j hj => by
        have hj := List.mem_range'_1.1 hj
        rw [this j (by omega), if_neg (by omega)]
      rw [z1, z2, this i hi, if_pos rfl, List.nil_append, List.append_nil]
    have hu := (may_ok (hok i hi).1).2
    refine up_unique hu h1 ?_
    exact (up_part hup i).imp fun {a b} h h2 => List.lt_irrefl _ (List.lt_trans h h2)
theorem VT.root {T : List (List UInt8)} {P : Nat → List PrR} {R : List UInt8} {H TX : Nat → List UInt8} (v : VT T P R H TX) {l : List PrR} (hl : ∀ i, i < 16 → partB l i = P i) : nd l 1 = R := by
  have hall : ∀ m c, 32 - c = m → 1 ≤ c → c < 32 → nd l c = H c := by
    intro m
    induction m using Nat.strongRecOn with
    | ind m ih =>
      intro c hcm c1 c2
      rw [← v.sha c c1 c2]
      by_cases h16 : 16 ≤ c
      · have := v.lf (c - 16) (by omega)
        rw [show 16 + (c - 16) = c by omega] at this
        rw [this]
        unfold nd
        rw [node_leaf _ h16 c2, leafF, leafT, hl (c - 16) (by omega)]
      · rw [v.inn c c1 (by omega), ← ih (32 - 2 * c) (by omega) (2 * c) rfl (by omega) (by omega), ← ih (32 - (2 * c + 1)) (by omega) (2 * c + 1) rfl (by omega) (by omega)]
        unfold nd
        rw [node_in _ c1 (by omega)]
  rw [hall 31 1 rfl (by omega) (by omega), v.r]
/-- what is asked for is what the wanted tree has, if no two unlike texts have one hash -/
theorem WInv.wants (v : WInv s W X) {S' : List PrR} {L : List (List UInt8)} (hR : s.R = nd S' 1) (hno : NoColl L L.length) (h1 : ∀ t ∈ s.T, t ∈ L) (h2 : ∀ t ∈ textsT S', t ∈ L) : ∀ c, 1 ≤ c → c < 32 → known X c → W c = nd S' c := by
  have hall : ∀ m c, c = m → 1 ≤ c → c < 32 → known X c → W c = nd S' c := by
    intro m
    induction m using Nat.strongRecOn with
    | ind m ih =>
      intro c hcm c1 c2 hk
      by_cases e : c = 1
      · subst e; rw [v.r, hR]
      · rcases hk with hk | hk
        · exact absurd hk e
        · obtain ⟨t, ht⟩ := Option.isSome_iff_exists.1 hk
          have hkp : known X (c / 2) := Classical.byContradiction fun h => by rw [(v.un (c / 2) (by omega) (by omega) h).2] at ht; cases ht
          have hp := ih (c / 2) (by omega) (c / 2) rfl (by omega) (by omega) hkp
          obtain ⟨_, _, a3, a4⟩ := v.an (c / 2) t (by omega) (by omega) ht
          rw [← a3, ← ndT_sha S' (show 1 ≤ c / 2 by omega) (by omega)] at hp
          have he := nocoll_mem hno (h1 _ a4) (h2 _ (ndT_mem S' (by omega) (by omega))) hp
          rw [v.inn _ t (by omega) (by omega) ht] at he
          unfold ndT at he
          rw [if_pos (by omega)] at he
          have hkl : known X (2 * (c / 2)) := .inr (by rw [show 2 * (c / 2) / 2 = c / 2 by omega, ht]; rfl)
          obtain ⟨t1, t2⟩ := innT_inj he (by rw [v.wl _ (by omega) (by omega) hkl, nd_len])
          rcases Nat.mod_two_eq_zero_or_one c with h | h
          · rw [show 2 * (c / 2) = c by omega] at t1; exact t1
          · rw [show 2 * (c / 2) + 1 = c by omega] at t2; exact t2
  exact fun c => hall c c rfl
/-! ### How much is asked for -/
def wsz (c : Nat) : Nat := if c = 0 ∨ 32 ≤ c then 0 else 2 ^ (5 - c.log2) - 1
theorem wsz_in : ∀ c, c < 16 → 1 ≤ c → wsz c = wsz (2 * c) + wsz (2 * c + 1) + 1 := by decide +kernel
theorem wsz_pos : ∀ c, c < 32 → 1 ≤ c → 1 ≤ wsz c := by decide +kernel
def wSize (A : Nat → Option (List UInt8)) : Nat := ((List.range 32).map fun c => if (A c).isSome then wsz c else 0).sum
theorem sum_up (f g : Nat → Nat) {m k : Nat} (hk : k < m) (h : ∀ j, j ≠ k → f j = g j) : ((List.range m).map f).sum + g k = ((List.range m).map g).sum + f k := by
  have e : ∀ f : Nat → Nat, ((List.range m).map f).sum = ((List.range k).map f).sum + (f k + ((List.range' (k + 1) (m - k - 1)).map f).sum) := fun f => by
    rw [range_at hk]; simp
  have e1 : (List.range k).map f = (List.range k).map g := List.map_congr_left fun j hj => h j (by have := List.mem_range.1 hj; omega)
  have e2 : (List.range' (k + 1) (m - k - 1)).map f = (List.range' (k + 1) (m - k - 1)).map g := List.map_congr_left fun j hj => h j (by have := List.mem_range'_1.1 hj; omega)
  rw [e f, e g, e1, e2]; omega
theorem wSize_none {A : Nat → Option (List UInt8)} {c : Nat} (hc : c < 32) (h : (A c).isSome = true) : wSize (upF A c none) + wsz c = wSize A := by
  have := sum_up (fun d => if (upF A c none d).isSome then wsz d else 0) (fun d => if (A d).isSome then wsz d else 0) hc (fun j hj => by rw [upF_ne _ _ hj])
  rw [upF_same, h] at this
  simpa [wSize] using this
theorem wSize_ask {S : List PrR} {A : Nat → Option (List UInt8)} {c : Nat} {x : List UInt8} (hc : c < 32) : wSize (wAsk S A c x) ≤ wSize A + wsz c := by
  unfold wAsk
  split
  · omega
  · have := sum_up (fun d => if (upF A c (some x) d).isSome then wsz d else 0) (fun d => if (A d).isSome then wsz d else 0) hc (fun j hj => by rw [upF_ne _ _ hj])
    rw [upF_same] at this
    simp only [Option.isSome_some, if_true] at this
    unfold wSize; omega
theorem wSize_new (S : List PrR) (R : List UInt8) : wSize (wNew S R).A ≤ 31 := by
  have := wSize_ask (S := S) (A := fun _ => none) (c := 1) (x := R) (by omega)
  have h0 : wSize (fun _ => none) = 0 := by decide +kernel
  have h1 : wsz 1 = 31 := by decide +kernel
  show wSize (wAsk _ _ _ _) ≤ 31
  omega
theorem wSize_in {c : Nat} {x y z : List UInt8} (h1 : 1 ≤ c) (hc : c < 16) (h : s.A c = some z) : wSize (wIn s c x y).A + 1 ≤ wSize s.A := by
  have e1 := wSize_none (A := s.A) (c := c) (by omega) (by rw [h]; rfl)
  have e2 := wSize_ask (S := s.S) (A := upF s.A c none) (c := 2 * c) (x := x) (by omega)
  have e3 := wSize_ask (S := s.S) (A := wAsk s.S (upF s.A c none) (2 * c) x) (c := 2 * c + 1) (x := y) (by omega)
  have e4 := wsz_in c hc h1
  show wSize (wAsk _ _ _ _) + 1 ≤ _
  omega
theorem wSize_pg {i : Nat} {l : List PrR} {z : List UInt8} (hi : i < 16) (h : s.A (16 + i) = some z) : wSize (wPg s i l).A + 1 ≤ wSize s.A := by
  have e1 := wSize_none (A := s.A) (c := 16 + i) (by omega) (by rw [h]; rfl)
  have e2 := wsz_pos (16 + i) (by omega) (by omega)
  show wSize (upF _ _ _) + 1 ≤ _
  omega
/-- what is asked for, in its row -/
def wList (A : Nat → Option (List UInt8)) : List Nat := (List.range 32).filter fun c => (A c).isSome
theorem wList_nil (hv : WInv s W X) (h : wList s.A = []) : ∀ c, s.A c = none := fun c => by
  by_cases hc : c < 32
  · have := List.filter_eq_nil_iff.1 h c (List.mem_range.2 hc)
    simpa using this
  · exact (hv.out c (.inr (by omega))).1
theorem wList_le (A : Nat → Option (List UInt8)) : (wList A).length ≤ 32 := by
  have := List.length_filter_le (fun c => (A c).isSome) (List.range 32)
  simpa [wList] using this
end TL

namespace TL
open Go Go.Proofs Go.RowKit Go.Maps Go.Sort Go.ChangeMaps Go.MapKept Go.WideShapes
section
variable {F : Fence} {n : Nat} {P : Program} (w : World) {ops : Array Oper} {rest : List Oper} {o : Oper} {a : Act} {Q : Exit → Act → World → Prop}
/-- a range under way -/
structure ItAt (w : World) (b r : Nat) (es : Array MapEntry) (clock since : Nat) (seen : Array Nat) : Prop where
  m : w.heap[b]? = some (.map es clock)
  it : ∃ c0, w.heap[r]? = some (.mapIter (some b) since seen c0) ∧ since ≤ c0
  sc : since ≤ clock
  old : ∀ x ∈ es.toList, x.born < since
  nd : (es.toList.map (·.born)).Nodup
theorem ItAt.walks {w w' : World} {b r : Nat} {es : Array MapEntry} {clock since : Nat} {seen : Array Nat} (h : ItAt w b r es clock since seen) (hk : KeepsWalks w w') : ItAt w' b r es clock since seen := by
  obtain ⟨c0, h1, h2⟩ := h.it
  exact ⟨hk.same b _ h.m rfl, ⟨c0, hk.same r _ h1 rfl, h2⟩, h.sc, h.old, h.nd⟩
theorem ItAt.left {w : World} {b r : Nat} {es : Array MapEntry} {clock since : Nat} {seen : Array Nat} (h : ItAt w b r es clock since seen) : w.rangeLeft b r = (leftOf es seen).size := by
  obtain ⟨c0, h1, _⟩ := h.it
  simp only [World.rangeLeft, h.m, h1]
theorem wpListIn_range_raw (hg : o.guard = none) (m : Operand) (t : TypeId) (hop : o.op = Op.range t m) (k e : TypeId) (ht : P.underlying t = some (.map k e)) (b : Nat) (es : Array MapEntry) (clock : Nat)
    (hm : a.eval m = .map (some b)) (hb : w.heap[b]? = some (.map es clock)) (hold : ∀ x ∈ es.toList, x.born < clock) (hnd : (es.toList.map (·.born)).Nodup)
    (hK : ∀ w', ItAt w' b w.heap.size es clock clock #[] → w.grownBy w' none → w'.heap.size = w.heap.size + 1 → wpListIn F n P ops Q rest (a.put o.dst (.pointer (some ⟨w.heap.size, 0, none⟩))) w') :
    wpListIn F n P ops Q (o :: rest) a w := by
  refine wpListIn_plain hg fun K' hK' => ?_
  have hrun := run_range_map (P := P) w t k e b es clock ht hb
  have hlt : b < w.heap.size := (Array.getElem?_eq_some_iff.1 hb).1
  unfold Oper.wpIn
  refine ⟨?_, ?_⟩
  · simp [Oper.about, hop]
  · rw [Oper.semAt_plain F _ _ (by rw [hop]; intro c hc'; cases hc')]
    simp [execOp, hop, hm, hrun, Result.andThen]
    exact hK' _ _ (hK _ ⟨((MapKept.heap_alloc w _).2 b hlt).trans hb, ⟨clock, (MapKept.heap_alloc w _).1, Nat.le_refl _⟩, Nat.le_refl _, hold, hnd⟩ (World.grownBy_alloc w _ none) (by simp))
theorem wpListIn_next_raw (hg : o.guard = none) (it : Operand) (hop : o.op = Op.next it false) (b r : Nat) (es : Array MapEntry) (clock since : Nat) (seen : Array Nat)
    (hit : a.eval it = .pointer (some ⟨r, 0, none⟩)) (h : ItAt w b r es clock since seen)
    (hDone : (leftOf es seen).size = 0 → wpListIn F n P ops Q rest (a.put o.dst (.tuple #[.bool false])) w)
    (hMore : ∀ (e : MapEntry) (w' : World), e ∈ (leftOf es seen).toList → ItAt w' b r es clock since (seen.push e.born) →
      w.grownBy w' (some r) → w'.heap.size = w.heap.size → (Instr.entry (.pointer (some ⟨r, 0, none⟩))).run P w' = .ok (.tuple #[e.key, e.val]) w' → wpListIn F n P ops Q rest (a.put o.dst (.tuple #[.bool true, e.key, e.val])) w') :
    wpListIn F n P ops Q (o :: rest) a w := by
  refine wpListIn_plain hg fun K' hK' => ?_
  unfold Oper.wpIn
  refine ⟨by simp [Oper.about, hop], ?_⟩
  rw [Oper.semAt_plain F _ _ (by rw [hop]; intro c hc'; cases hc')]
  obtain ⟨c0, hr, hsc⟩ := h.it
  have hne : r ≠ b := fun e => by subst e; rw [h.m] at hr; cases hr
  rcases run_next_at (P := P) w o.type r b since c0 seen es clock hr h.m h.old hsc with ⟨h0, hrun⟩ | ⟨e, he, w1, hal, hrun⟩
  · simp [execOp, hop, hit, hrun, Result.andThen]
    exact hK' _ _ (hDone h0)
  · have hr1 : w1.heap[r]? = some (.mapIter (some b) since seen c0) := by rcases hal with rfl | rfl <;> exact hr
    have hb1 : w1.heap[b]? = some (.map es clock) := by rcases hal with rfl | rfl <;> exact h.m
    have hset := heap_set (o' := .mapIter (some b) since (seen.push e.born) clock) hr1
    have hb' : (setBlock w1 r (.mapIter (some b) since (seen.push e.born) clock)).heap[b]? = some (.map es clock) := (hset.2 b (fun e1 => hne e1.symm)).trans hb1
    simp [execOp, hop, hit, hrun, Result.andThen]
    refine hK' _ _ (hMore e _ he ⟨hb', ⟨clock, hset.1, h.sc⟩, h.sc, h.old, h.nd⟩ ?_ ?_ (run_entry_at _ r b since seen es clock e hset.1 hb' (mem_left he).1 h.nd))
    · rcases hal with rfl | rfl <;> exact ⟨rfl, rfl, rfl, by simp [setBlock], fun i _ hi => hset.2 i (fun e1 => hi (by rw [e1]))⟩
    · rcases hal with rfl | rfl <;> simp [setBlock]
end
theorem left_push (es : Array MapEntry) (seen : Array Nat) (b : Nat) : (leftOf es (seen.push b)).toList = (leftOf es seen).toList.filter fun e => !(e.born == b) := by
  unfold leftOf
  rw [Array.toList_filter, Array.toList_filter, List.filter_filter]
  apply List.filter_congr
  intro e _
  rw [contains_push]
  cases seen.contains e.born <;> cases (e.born == b) <;> rfl
theorem perm_out {e : MapEntry} : ∀ {l : List MapEntry}, (l.map (·.born)).Nodup → e ∈ l → l.Perm (e :: l.filter fun x => !(x.born == e.born))
  | [], _, h => by cases h
  | a :: l, hn, h => by
    rw [List.map_cons, List.nodup_cons] at hn
    rcases List.mem_cons.1 h with rfl | h
    · have : l.filter (fun x => !(x.born == e.born)) = l := List.filter_eq_self.2 fun x hx => by
        have : x.born ≠ e.born := fun ee => hn.1 (ee ▸ List.mem_map.2 ⟨x, hx, rfl⟩)
        simp [this]
      rw [List.filter_cons, this]
      simp
    · have hne : a.born ≠ e.born := fun ee => hn.1 (ee ▸ List.mem_map.2 ⟨e, h, rfl⟩)
      have : (a :: l).filter (fun x => !(x.born == e.born)) = a :: l.filter fun x => !(x.born == e.born) := by
        rw [List.filter_cons]; simp [hne]
      rw [this]
      exact ((perm_out hn.2 h).cons a).trans (List.Perm.swap e a _)
/-- a key that walks ask for -/
def keyV (x : Int × Int) : Value := .agg #[.int .i64 x.1, .int .i64 x.2]
set_option maxRecDepth 100000 in
set_option maxHeartbeats 1000000 in
theorem keysAsk_in (F : Fence) (n : Nat) (hf : F.fn 151) (hro : F.round = none) (hn : 1 ≤ n) (l Bm b : Nat) (es : Array MapEntry) (clock : Nat) (hkey : ∀ e ∈ es.toList, ∃ x, e.key = keyV x) (hold : ∀ x ∈ es.toList, x.born < clock) (hnd : (es.toList.map (·.born)).Nodup)
    (J : List (Int × Int) → World → Prop)
    (hY : ∀ pre x W, J pre W → pre.length < es.size → YieldAt F (n - 1) Tryz.prog l #[keyV x] W fun e W' => e = .returned (.bool true) ∧ J (pre ++ [x]) W' ∧ KeepsWalks W W')
    (W : World) (hJ : AbidesFrom W.heap.size J) (hm : W.cell? ⟨Bm, 0, none⟩ = some (.map (some b))) (hb : W.heap[b]? = some (.map es clock)) (h0 : J [] W) :
    CallsIn F n Tryz.prog 151 #[.func (.yield l) #[] #[], .pointer (some ⟨Bm, 0, none⟩)] W fun e W' => (∃ v, e = .returned v) ∧ ∃ ss : List (Int × Int), (ss.map keyV).Perm (es.toList.map (·.key)) ∧ J ss W' := by
  refine callsIn_of_wp Tryz.func151 rfl hf ?_ hro
  simp only [Tryz.ntmps151, List.size_toArray, List.length_cons, List.length_nil, Nat.reduceAdd, Nat.reduceSub, Array.replicate_succ, Array.replicate_zero, List.push_toArray, List.append_toArray, List.nil_append, List.cons_append]
  gi_wp2_with (first
    | (gi_at_range; refine wpListIn_range_raw _ rfl _ 184 rfl 79 46 Tryz.underlying184 b es clock rfl hb hold hnd ?_; intro w0 hrg0 hg0 hs0)
    | gi_in)
  go_frame
  gi_loopw [3] (fun _ wr => ∃ (seen : Array Nat) (gs : List MapEntry) (ss : List (Int × Int)), ItAt wr b W.heap.size es clock clock seen ∧ (gs ++ (leftOf es seen).toList).Perm es.toList ∧ ss.map keyV = gs.map (·.key) ∧ J ss wr)
    (fun _ wr => wr.rangeLeft b W.heap.size)
  case atStart =>
    exact ⟨_, [], [], hrg0, (by simp only [leftOf, List.nil_append, Array.toList_filter]; exact List.Perm.of_eq (List.filter_eq_self.2 fun _ _ => by simp)), rfl, hJ [] W w0 none h0 hg0 (fun r e => by cases e)⟩
  case round =>
    obtain ⟨seen, gs, ss, hrg, hpm, hmap, hJs⟩ := hrel
    gi_wp2_with (first
      | (gi_at_next; refine wpListIn_next_raw _ rfl _ rfl b W.heap.size es clock clock seen rfl hrg ?_ ?_)
      | gi_in)
    · intro hl0
      gi_wp2
      go_end0
      refine ⟨⟨_, rfl⟩, ss, ?_, hJs⟩
      rw [show leftOf es seen = #[] from hl0] at hpm
      rw [hmap]
      have := hpm.map (·.key)
      simpa using this
    · intro e w2 he hrg2 hg2 hs2 hen
      obtain ⟨⟨p, q⟩, hx⟩ := hkey e (mem_left (Array.mem_toList_iff.2 he)).1
      have hx : e.key = .agg #[.int .i64 p, .int .i64 q] := hx
      rw [hx] at hen
      rw [hx]
      have hlen : ss.length < es.size := by
        have h1 := hpm.length_eq
        have h2 := congrArg List.length hmap
        have h3 := List.length_pos_of_mem (Array.mem_toList_iff.2 he)
        simp only [List.length_append, List.length_map, Array.length_toList] at h1 h2 h3
        omega
      have hJ2 : J ss w2 := hJ ss wr w2 (some W.heap.size) hJs hg2 (fun r e => by
        cases e
        obtain ⟨c0, h1, _⟩ := hrg.it
        exact ⟨Nat.le_refl _, _, h1, rfl⟩)
      have hJ3 : J ss (w2.alloc (.cells #[.int .i64 p, .int .i64 q] 79)) := hJ ss w2 _ none hJ2 (World.grownBy_alloc w2 _ none) (fun r e => by cases e)
      obtain ⟨fn, tmps, assign, body, hy, hR⟩ := hY ss (p, q) _ hJ3 hlen
      have hy : (Instr.yield l #[.agg #[.int .i64 p, .int .i64 q]]).run Tryz.prog (w2.alloc (.cells #[.int .i64 p, .int .i64 q] 79)) = _ := hy
      have hrg3 := hrg2.walks (KeepsWalks.alloc w2 (.cells #[.int .i64 p, .int .i64 q] 79))
      clear hs2
      gi_wp2
      refine hR.mono ?_
      rintro e' W3 ⟨rfl, hJ4, hk4⟩
      gi_wp2
      have hrg4 := hrg3.walks hk4
      go_roundw
      case rel =>
        refine ⟨_, gs ++ [e], ss ++ [(p, q)], hrg4, ?_, ?_, hJ4⟩
        · rw [left_push, List.append_assoc]
          refine List.Perm.trans (List.Perm.append_left gs ?_) hpm
          exact (perm_out (List.Nodup.sublist ((List.filter_sublist (p := fun e => !seen.contains e.born) (l := es.toList)).map _) hrg.nd |> fun h => by unfold leftOf; rw [Array.toList_filter]; exact h) (Array.mem_toList_iff.2 he)).symm
        · rw [List.map_append, List.map_append, hmap]
          simp [keyV, hx]
      case measure => rw [hrg4.left, hrg.left]; exact left_shrinks es seen e (Array.mem_toList_iff.2 he)
/-- maps.Keys hands back a row of keys -/
theorem keysAsk_gives (F : Fence) (n : Nat) (hf : F.fn 151) (hro : F.round = none) (hn : 1 ≤ n) (Bm b : Nat) (es : Array MapEntry) (clock : Nat) (hkey : ∀ e ∈ es.toList, ∃ x, e.key = keyV x) (hold : ∀ x ∈ es.toList, x.born < clock) (hnd : (es.toList.map (·.born)).Nodup)
    (w : World) (hBm : Bm < w.heap.size) (hm : w.cell? ⟨Bm, 0, none⟩ = some (.map (some b))) (hb : w.heap[b]? = some (.map es clock)) :
    SeqGives F n Tryz.prog 151 #[.pointer (some ⟨Bm, 0, none⟩)] keyV (fun ss => (ss.map keyV).Perm (es.toList.map (·.key))) es.size w := fun l J W hW hJ hY h0 =>
  keysAsk_in F n hf hro hn l Bm b es clock hkey hold hnd J hY W hJ ((hW.cell (p := ⟨Bm, 0, none⟩) hBm).trans hm) ((hW.block b (Array.getElem?_eq_some_iff.1 hb).1).trans hb) h0
end TL

namespace TL
open Go Go.Proofs Go.RowKit Go.Maps Go.Sort Go.Shelf
def askC (x : Int × Int) : List Value := [.int .i64 x.1, .int .i64 x.2]
def ask_apAssign : Code := Code.region 2 #[{ dst := some 5, op := Op.alloc 79, type := 0, pos := "iter.go:51", after := #[], guard := none }, { dst := none, op := Op.store 79 (Operand.tmp 5) (Operand.tmp 7), type := 0, pos := "iter.go:51", after := #[{ on := 0, ground := Ground.data }, { on := 0, ground := Ground.phase }], guard := none }] false
def ask_apBody : Code := Code.block 1 (Code.region 3 #[{ dst := some 8, op := Op.load 74 (Operand.tmp 2), type := 74, pos := "iter.go:52", after := #[], guard := none }, { dst := some 9, op := Op.load 79 (Operand.tmp 5), type := 79, pos := "iter.go:52", after := #[], guard := none }, { dst := some 10, op := Op.buildSlice 74 1 #[(0, Operand.tmp 9)], type := 74, pos := "iter.go:52", after := #[{ on := 1, ground := Ground.data }], guard := none }, { dst := some 11, op := Op.call { callee := Callee.builtin Builtin.append, args := #[Operand.tmp 8, Operand.tmp 10], argTypes := #[74, 74] }, type := 74, pos := "iter.go:52", after := #[{ on := 0, ground := Ground.data }, { on := 2, ground := Ground.data }], guard := none }, { dst := none, op := Op.store 74 (Operand.tmp 2) (Operand.tmp 11), type := 0, pos := "iter.go:52", after := #[{ on := 3, ground := Ground.data }, { on := 3, ground := Ground.chain }, { on := 0, ground := Ground.phase }, { on := 1, ground := Ground.phase }, { on := 2, ground := Ground.phase }, { on := 3, ground := Ground.phase }], guard := none }] false)
/-- The loop's record: AppendSeq's temporaries as they stood at the entering: 's' boxed in block Bs; sv: the iterator's value. -/
def ask_apRec (fn : FuncId) (sv : Value) (Bs D : Nat) (st : LoopState) (pend : Option Code) : Loop :=
  { state := st, pending := pend, fn, tmps := #[.slice none 0 0, sv, .pointer (some ⟨Bs, 0, none⟩), undef, .slice none 0 0, undef, sv, undef, undef, undef, undef, undef, undef], params := #[7], assign := ask_apAssign, body := ask_apBody, defers := D }

/-- BETWEEN TWO ROUNDS: the box holds a slice that owns, in a block of the call's own, what has come so far; IT IS nil JUST AS LONG AS NOTHING HAS COME; nothing that lay before the call has turned. -/
structure ask_ApAt (w0 : World) (fn : FuncId) (sv : Value) (Bs l D : Nat) (ss : List (Int × Int)) (W : World) : Prop where
  box : ∃ v, W.heap[Bs]? = some (.cells #[v] 74 (0, 0)) ∧ W.ownsRow w0.heap.size 79 2 v ss.length (ss.flatMap askC) ∧ (v = .slice none 0 0 ↔ ss = [])
  L : W.heap[l]? = some (.loop (ask_apRec fn sv Bs D .ready none))
  K : W.heap[D]? = some (.deferred (some []))
  below : Below w0.heap.size w0 W

theorem ask_ap_abides (w0 : World) (fn : FuncId) (sv : Value) (Bs l D B : Nat) (hB : w0.heap.size ≤ B) : AbidesFrom B (ask_ApAt w0 fn sv Bs l D) := fun s W W' row h hg hrow => by
  have hrow' : ∀ r, row = some r → ∃ o : Obj, W.heap[r]? = some o ∧ o.isWalk = true := fun r e => (hrow r e).2
  obtain ⟨v, hv, hr, hn⟩ := h.box
  exact ⟨⟨v, (grownBy_keeps hg hrow' hv rfl).trans hv, ownsRow_abides_a hr hg hrow', hn⟩, (grownBy_keeps hg hrow' h.L rfl).trans h.L, (grownBy_keeps hg hrow' h.K rfl).trans h.K,
    h.below.grown hg h.below.size (fun k e => Nat.le_trans hB (hrow k e).1)⟩

theorem ask_info26 : (Tryz.prog.info? 79).map (fun i => (i.zero, i.size, i.bytes)) = some (some (.agg #[.int .i64 0, .int .i64 0]), 2, 16) := by kernel_rfl

set_option maxRecDepth 100000 in
set_option maxHeartbeats 2000000 in
theorem ask_apYield (F : Fence) (m : Nat) (w0 : World) (fn : FuncId) (hfn : F.fn fn) (sv : Value) (Bs l D : Nat) (hBl : Bs ≠ l) (hDl : D ≠ l) (hDB : D ≠ Bs) (h0B : w0.heap.size ≤ Bs) (h0l : w0.heap.size ≤ l)
    (N : Nat) (hN : N ≤ maxLen) (hNb : N * 16 ≤ 140737488355328) (ss : List (Int × Int)) (x : Int × Int) (W : World) (h : ask_ApAt w0 fn sv Bs l D ss W) (hlen : ss.length < N) :
    YieldAt F m Tryz.prog l #[keyV x] W fun e W' => e = .returned (.bool true) ∧ ask_ApAt w0 fn sv Bs l D (ss ++ [x]) W' ∧ KeepsWalks W W' := by
  obtain ⟨i0, hi, hz0, hz1, hz2⟩ := info_parts ask_info26
  obtain ⟨v, hv, hrow, _⟩ := h.box
  have hx : keyV x = .agg #[.int .i64 x.1, .int .i64 x.2] := rfl
  rw [hx]
  refine ⟨fn, #[.slice none 0 0, sv, .pointer (some ⟨Bs, 0, none⟩), undef, .slice none 0 0, undef, sv, .agg #[.int .i64 x.1, .int .i64 x.2], undef, undef, undef, undef, undef], ask_apAssign, ask_apBody, by simpa [ask_apRec] using run_yield (P := Tryz.prog) (args := #[.agg #[.int .i64 x.1, .int .i64 x.2]]) h.L rfl, roundIn_of_wpIn hfn ?_⟩
  have hl0 : l < W.heap.size := (Array.getElem?_eq_some_iff.1 h.L).1
  have hB0 : Bs < W.heap.size := (Array.getElem?_eq_some_iff.1 hv).1
  have hD0 : D < W.heap.size := (Array.getElem?_eq_some_iff.1 h.K).1
  obtain ⟨W1, hW1⟩ : ∃ W1, W.alloc (.cells #[.int .i64 x.1, .int .i64 x.2] 79) = W1 := ⟨_, rfl⟩
  have hs1 : W1.heap.size = W.heap.size + 1 := by rw [← hW1]; simp
  have hL1 : W1.heap[l]? = some (.loop (ask_apRec fn sv Bs D .ready none)) := by rw [← hW1]; exact (Below.heap_alloc _ _ l hl0).trans h.L
  have hv1 : W1.heap[Bs]? = some (.cells #[v] 74 (0, 0)) := by rw [← hW1]; exact (Below.heap_alloc _ _ Bs hB0).trans hv
  have hK1 : W1.heap[D]? = some (.deferred (some [])) := by rw [← hW1]; exact (Below.heap_alloc _ _ D hD0).trans h.K
  have hn1 : W1.heap[W.heap.size]? = some (.cells #[.int .i64 x.1, .int .i64 x.2] 79 (0, 0)) := by rw [← hW1]; exact World.alloc_heap_new W _
  have hrow1 : W1.ownsRow w0.heap.size 79 2 v ss.length (ss.flatMap askC) := by rw [← hW1]; exact hrow.alloc _
  have hb1 : Below w0.heap.size w0 W1 := by rw [← hW1]; exact h.below.alloc h.below.size _
  have hk1 : KeepsWalks W W1 := by rw [← hW1]; exact KeepsWalks.alloc _ _
  have hl : l < W1.heap.size := by omega
  have hbr := run_beginRound (P := Tryz.prog) hL1 rfl
  obtain ⟨W2, hW2⟩ : ∃ W2, W1.putObj l (.loop { ask_apRec fn sv Bs D .ready none with state := .busy }) = W2 := ⟨_, rfl⟩
  rw [hW2] at hbr
  have hg2 : W1.grownBy W2 (some l) := by rw [← hW2]; exact grownBy_putObj_a _ _ _
  have hk2 : KeepsWalks W W2 := hk1.trans (by rw [← hW2]; exact KeepsWalks.putObj _ hL1 rfl)
  have hs2 : W2.heap.size = W1.heap.size := by rw [← hW2]; simp [World.putObj]
  have hv2 : W2.heap[Bs]? = some (.cells #[v] 74 (0, 0)) := by rw [← hW2]; exact (World.putObj_heap_other hBl).trans hv1
  have hK2 : W2.heap[D]? = some (.deferred (some [])) := by rw [← hW2]; exact (World.putObj_heap_other hDl).trans hK1
  have hn2 : W2.heap[W.heap.size]? = some (.cells #[.int .i64 x.1, .int .i64 x.2] 79 (0, 0)) := by rw [← hW2]; exact (World.putObj_heap_other (by omega)).trans hn1
  have hL2 : W2.heap[l]? = some (.loop { ask_apRec fn sv Bs D .ready none with state := .busy }) := by rw [← hW2]; exact World.putObj_heap_same hl
  have hrow2 : W2.ownsRow w0.heap.size 79 2 v ss.length (ss.flatMap askC) := hrow1.kept hg2 (ownsRow_ne_a hrow1 hL1 (fun cur e => by cases e))
  have hb2 : Below w0.heap.size w0 W2 := hb1.grown hg2 hb1.size (fun k e => by cases e; exact h0l)
  obtain ⟨hc2, hf2⟩ := cell_of_box_a hv2
  have hp2 : W2.cell? ⟨W.heap.size, 0, none⟩ = some (.int .i64 x.1) := by simp [World.cell?, hn2]
  have hq2 : W2.cell? ⟨W.heap.size, 1, none⟩ = some (.int .i64 x.2) := by simp [World.cell?, hn2]
  have hBlt : Bs < W2.heap.size := (Array.getElem?_eq_some_iff.1 hv2).1
  have hl2 : l < W2.heap.size := (Array.getElem?_eq_some_iff.1 hL2).1
  have hDlt : D < W2.heap.size := (Array.getElem?_eq_some_iff.1 hK2).1
  have ne_of : ∀ {j : Nat} {o : Obj}, W2.heap[j]? = some o → (∀ cur, o ≠ .cells cur 79 (0, 0)) → some j ≠ v.ownBlock := fun hj hno => by
    rcases ownsRow_ne_a hrow2 hj hno with e | e
    · rw [e]; simp
    · exact fun e' => e e'.symm
  clear hW2
  unfold ask_apAssign
  gi_wp2_with gi_round_op_a
  clear hW1
  have hn3 : (W2.alloc (.cells #[.int .i64 x.1, .int .i64 x.2] 79)).heap[W.heap.size + 1]? = some (.cells #[.int .i64 x.1, .int .i64 x.2] 79 (0, 0)) := by
    rw [show W.heap.size + 1 = W2.heap.size by omega]; exact World.alloc_heap_new W2 _
  have hcell : ∀ (j : Nat) (u : Value), ([.int .i64 x.1, .int .i64 x.2] : List Value)[j]? = some u → (W2.alloc (.cells #[.int .i64 x.1, .int .i64 x.2] 79)).cell? ((⟨W.heap.size + 1, 0, none⟩ : Addr).add j) = some u := fun j u hu => by
    match j, hu with
    | 0, hu => simp at hu; subst hu; simp [Addr.add, World.cell?, hn3]
    | 1, hu => simp at hu; subst hu; simp [Addr.add, World.cell?, hn3]
    | j + 2, hu => simp at hu
  unfold ask_apBody
  gi_wp2_with (first
    | (gi_at_builtin; refine wpListIn_append_own _ rfl _ _ 74 rfl w0.heap.size 79 i0 (.agg #[.int .i64 0, .int .i64 0]) 2 16 Tryz.underlying74 hi hz0 hz1 hz2 rfl (by decide) _ _ _ rfl (hrow2.alloc _) ⟨W.heap.size + 1, 0, none⟩ 1 1 [.int .i64 x.1, .int .i64 x.2] rfl rfl hcell (by simp [Value.oneCell']) (by omega) (by omega) (by have := hb2.size; simp; omega) ?_; intro v' w3 hown' hg3 hnil3
       have hv3 : w3.heap[Bs]? = some (.cells #[v] 74 (0, 0)) := (hg3.block Bs (by simp; omega) (ne_of hv2 (fun cur e => by cases e))).trans ((Below.heap_alloc _ _ Bs hBlt).trans hv2)
       obtain ⟨hc3, hf3⟩ := cell_of_box_a hv3
       obtain ⟨g', cap', cur', rfl, hbase', hgb', hr1, hr2, hr3, hr4⟩ : ∃ g' cap' cur', v' = .slice (some ⟨g', 0, none⟩) (ss.length + 1) cap' ∧ w0.heap.size ≤ g' ∧ w3.heap[g']? = some (.cells cur' 79 (0, 0)) ∧ ss.length + 1 ≤ cap' ∧ cap' ≤ maxLen ∧ cur'.size = cap' * 2 ∧ cur'.toList.take ((ss.length + 1) * 2) = ss.flatMap askC ++ [.int .i64 x.1, .int .i64 x.2] := by
         rcases hown'.2 with ⟨_, h0⟩ | h'
         · exact absurd h0 (by omega)
         · exact h'
       go_frame)
    | gi_round_op_a)
  have hg3' : (W2.alloc (.cells #[.int .i64 x.1, .int .i64 x.2] 79)).grownBy w3 v.ownBlock := hg3
  have hL3 : w3.heap[l]? = some (.loop { ask_apRec fn sv Bs D .ready none with state := .busy }) := (hg3'.block l (by simp; omega) (ne_of hL2 (fun cur e => by cases e))).trans ((Below.heap_alloc _ _ l hl2).trans hL2)
  have hK3 : w3.heap[D]? = some (.deferred (some [])) := (hg3'.block D (by simp; omega) (ne_of hK2 (fun cur e => by cases e))).trans ((Below.heap_alloc _ _ D hDlt).trans hK2)
  obtain ⟨w4, hw4⟩ : ∃ w4, w3.setCell ⟨Bs, 0, none⟩ (.slice (some ⟨g', 0, none⟩) (ss.length + 1) cap') = w4 := ⟨_, rfl⟩
  rw [hw4]
  have hg4 : w3.grownBy w4 (some Bs) := by rw [← hw4]; exact grownBy_setCell0_a _ _ _
  have hv4 : w4.heap[Bs]? = some (.cells #[.slice (some ⟨g', 0, none⟩) (ss.length + 1) cap'] 74 (0, 0)) := by rw [← hw4]; exact heap_setCell_box_a _ hv3
  have hL4 : w4.heap[l]? = some (.loop { ask_apRec fn sv Bs D .ready none with state := .busy }) := (hg4.block l (Array.getElem?_eq_some_iff.1 hL3).1 (fun e => hBl (by cases e; rfl))).trans hL3
  have hK4 : w4.heap[D]? = some (.deferred (some [])) := (hg4.block D (Array.getElem?_eq_some_iff.1 hK3).1 (fun e => hDB (by cases e; rfl))).trans hK3
  have hrow4 := hown'.kept hg4 (ownsRow_ne_a hown' hv3 (fun cur e => by cases e))
  have hl4 : l < w4.heap.size := (Array.getElem?_eq_some_iff.1 hL4).1
  have hb3 : Below w0.heap.size w0 w3 := (hb2.alloc hb2.size _).grown hg3' (by have := hb2.size; simp; omega) (fun k e => (hrow2.lt k e).1)
  have hb4 : Below w0.heap.size w0 w4 := hb3.grown hg4 hb3.size (fun k e => by cases e; exact h0B)
  have hk4 : KeepsWalks W w4 := ((hk2.trans (KeepsWalks.alloc _ _)).trans (KeepsWalks.of_grownBy hg3' (ownsRow_not_walk_a (hrow2.alloc _)))).trans (by rw [← hw4]; exact KeepsWalks.setCell _ _ _)
  clear hw4
  refine ⟨_, _, run_endRound none hL4, rfl, ⟨⟨_, (World.putObj_heap_other hBl).trans hv4, ?_, by simp⟩, World.putObj_heap_same hl4, (World.putObj_heap_other hDl).trans hK4, hb4.grown (grownBy_putObj_a _ _ _) hb4.size (fun k e => by cases e; exact h0l)⟩, hk4.trans (KeepsWalks.putObj _ hL4 rfl)⟩
  have := hrow4.kept (grownBy_putObj_a w4 l (.loop { { ask_apRec fn sv Bs D .ready none with state := .busy } with state := if (none : Option Code).isNone then .ready else .done, pending := none })) (ownsRow_ne_a hrow4 hL4 (fun cur e => by cases e))
  simpa [askC, List.flatMap_append] using this


set_option maxRecDepth 100000 in
set_option maxHeartbeats 2000000 in
/-- **slices.AppendSeq(nil, seq), AGAINST WHATEVER ITERATOR VALUE THAT 'SeqGives'**: it hands back a slice that owns, in a block of the call's own, JUST WHAT THE ITERATOR GAVE, IN THAT ORDER; nil JUST WHERE IT GAVE NOTHING (as Go: 'slices.Collect' of nothing is nil); nothing that lay before the call has turned. -/
theorem ask_appendSeq_in (F : Fence) (n : Nat) (h11 : F.fn 174) (hro : F.round = none) (hn : 2 ≤ n) (g : Nat) (lb : Array Value) (hFg : F.fn g) (eg : ∀ args w, (callFunc g args).run Tryz.prog w = .ok (.enter g args) w)
    (S : List (Int × Int) → Prop) (N : Nat) (hN : N ≤ maxLen) (hNb : N * 16 ≤ 140737488355328) (w : World) (hseq : SeqGives F (n - 1) Tryz.prog g lb keyV S N w) :
    CallsIn F n Tryz.prog 174 #[.slice none 0 0, .func (.func g) #[] lb] w fun e w' => ∃ (v : Value) (ss : List (Int × Int)), e = .returned v ∧ S ss ∧ w'.ownsRow w.heap.size 79 2 v ss.length (ss.flatMap askC) ∧ (v = .slice none 0 0 ↔ ss = []) ∧ Below w.heap.size w w' := by
  have h1 : 1 ≤ n := by omega
  refine callsIn_of_wp_marks Tryz.func174 rfl h11 ?_ hro
  simp only [Tryz.ntmps174, List.size_toArray, List.length_cons, List.length_nil, Nat.reduceAdd, Nat.reduceSub, Array.replicate_succ, Array.replicate_zero, List.push_toArray, List.append_toArray, List.nil_append, List.cons_append]
  gi_wp2
  refine wpIn_rangeFunc ?_
  intro fn hfn
  rw [hro]
  obtain ⟨W0, hW0⟩ : ∃ W0, w.alloc (.cells #[.slice none 0 0] 74) = W0 := ⟨_, rfl⟩
  have hs0 : W0.heap.size = w.heap.size + 1 := by rw [← hW0]; simp
  have hv0 : W0.heap[w.heap.size]? = some (.cells #[.slice none 0 0] 74 (0, 0)) := by rw [← hW0]; exact World.alloc_heap_new w _
  have hb0 : Below w.heap.size w W0 := by rw [← hW0]; exact (Below.refl _ w).alloc (Nat.le_refl _) _
  rw [hW0]
  obtain ⟨W1, hW1⟩ : ∃ W1, (W0.alloc (.deferred (some []))).alloc (.loop (ask_apRec fn (.func (.func g) #[] lb) w.heap.size W0.heap.size .ready none)) = W1 := ⟨_, rfl⟩
  have hold : ∀ k, k < W0.heap.size → W1.heap[k]? = W0.heap[k]? := fun k hk => by
    rw [← hW1]; exact (Below.heap_alloc _ _ k (by simp; omega)).trans (Below.heap_alloc _ _ k hk)
  have hb1 : Below w.heap.size w W1 := by rw [← hW1]; exact (hb0.alloc hb0.size _).alloc (by have := hb0.size; simp; omega) _
  have hs1 : W1.heap.size = W0.heap.size + 2 := by rw [← hW1]; simp
  have hM : ask_ApAt w fn (.func (.func g) #[] lb) w.heap.size (W0.heap.size + 1) W0.heap.size [] W1 :=
    ⟨⟨_, (hold w.heap.size (by omega)).trans hv0, ⟨rfl, .inl ⟨rfl, rfl⟩⟩, by simp⟩,
     by rw [← hW1]; have := World.alloc_heap_new (W0.alloc (.deferred (some []))) (.loop (ask_apRec fn (.func (.func g) #[] lb) w.heap.size W0.heap.size .ready none)); rwa [World.size_alloc] at this,
     by rw [← hW1]; exact (Below.heap_alloc _ _ _ (by simp)).trans (World.alloc_heap_new W0 _), hb1⟩
  refine ⟨W0.heap.size + 1, [{ target := .collected W0.heap.size, args := #[] }], W1, { target := .fn (.func g) lb, args := #[.func (.yield (W0.heap.size + 1)) #[] #[]] }, W1, g,
    #[.func (.yield (W0.heap.size + 1)) #[] #[]] ++ lb, W1, ?_, ?_, ?_, ?_, fun _ => h1, ?_⟩
  · rw [← hW1]; exact run_enterLoop_outer _ _ _ _ _
  · simp [resolve, go_sem]
  · intro f' hf'; simp [Target.leads] at hf'; subst hf'; exact hFg
  · simp [invoke, go_sem, eg]
  · refine (hseq (W0.heap.size + 1) (ask_ApAt w fn (.func (.func g) #[] lb) w.heap.size (W0.heap.size + 1) W0.heap.size) W1 hb1 (ask_ap_abides _ _ _ _ _ _ _ hb1.size)
      (fun pre x W hJ hl => ask_apYield F (n - 1 - 1) w fn hfn _ w.heap.size (W0.heap.size + 1) W0.heap.size (by omega) (by omega) (by omega) (Nat.le_refl _) (by omega) N hN hNb pre x W hJ hl) hM).mono ?_
    rintro e W2 ⟨⟨v0, rfl⟩, ss, hS, h2⟩
    obtain ⟨v, hv, hrow, hnil⟩ := h2.box
    have hend := run_endLoop (P := Tryz.prog) h2.L (by simp [ask_apRec])
    obtain ⟨W3, hW3⟩ : ∃ W3, W2.putObj (W0.heap.size + 1) (.loop { ask_apRec fn (.func (.func g) #[] lb) w.heap.size W0.heap.size .ready none with state := .exhausted }) = W3 := ⟨_, rfl⟩
    rw [hW3] at hend
    have hg3 : W2.grownBy W3 (some (W0.heap.size + 1)) := by rw [← hW3]; exact grownBy_putObj_a _ _ _
    have hv3 : W3.heap[w.heap.size]? = some (.cells #[v] 74 (0, 0)) := by rw [← hW3]; exact (World.putObj_heap_other (by omega)).trans hv
    have hK3 : W3.heap[W0.heap.size]? = some (.deferred (some [])) := by rw [← hW3]; exact (World.putObj_heap_other (by omega)).trans h2.K
    have hrow3 := hrow.kept hg3 (ownsRow_ne_a hrow h2.L (fun cur e => by cases e))
    have hb3 : Below w.heap.size w W3 := h2.below.grown hg3 h2.below.size (fun k e => by cases e; omega)
    obtain ⟨hc3, hf3⟩ := cell_of_box_a hv3
    clear hW3
    refine ⟨none, W3, hend, ?_⟩
    gi_wp2
    rw [← hs0]
    refine ⟨by simp, .inl ⟨_, _, rfl, run_takeDeferred hK3, ?_⟩⟩
    exact ⟨_, results_tmp rfl _ _ _, v, ss, rfl, hS, hrow3.kept (grownBy_putObj_a _ _ _) (ownsRow_ne_a hrow3 hK3 (fun cur e => by cases e)), hnil, hb3.grown (grownBy_putObj_a _ _ _) hb3.size (fun k e => by cases e; omega)⟩


set_option maxHeartbeats 1000000 in
/-- **slices.Collect(seq), AGAINST WHATEVER ITERATOR VALUE.** -/
theorem ask_collect_in (F : Fence) (n : Nat) (h8 : F.fn 149) (h11 : F.fn 174) (hro : F.round = none) (hn : 3 ≤ n) (g : Nat) (lb : Array Value) (hFg : F.fn g) (eg : ∀ args w, (callFunc g args).run Tryz.prog w = .ok (.enter g args) w)
    (S : List (Int × Int) → Prop) (N : Nat) (hN : N ≤ maxLen) (hNb : N * 16 ≤ 140737488355328) (w : World) (hseq : SeqGives F (n - 1 - 1) Tryz.prog g lb keyV S N w) :
    CallsIn F n Tryz.prog 149 #[.func (.func g) #[] lb] w fun e w' => ∃ (v : Value) (ss : List (Int × Int)), e = .returned v ∧ S ss ∧ w'.ownsRow w.heap.size 79 2 v ss.length (ss.flatMap askC) ∧ (v = .slice none 0 0 ↔ ss = []) ∧ Below w.heap.size w w' := by
  have h1 : 1 ≤ n := by omega
  refine callsIn_of_wp Tryz.func149 rfl h8 ?_ hro
  simp only [Tryz.ntmps149, List.size_toArray, List.length_cons, List.length_nil, Nat.reduceAdd, Nat.reduceSub, Array.replicate_succ, Array.replicate_zero, List.push_toArray, List.append_toArray, List.nil_append, List.cons_append]
  gi_wp2_with (gi_at_call 174; refine (ask_appendSeq_in F (n - 1) h11 hro (by omega) g lb hFg eg S N hN hNb _ hseq).mono ?_; rintro e w' ⟨v, ss, rfl, hS, hrow, hnil, hb⟩)
  go_ret
  exact ⟨v, ss, rfl, hS, hrow, hnil, hb⟩

end TL

namespace Go.Proofs
open Go.Shelf
def Tryz.srtB_ren : Go.Shelf.Ren := ⟨fun | 6 => 150 | 15 => 159 | 14 => 175 | 28 => 186 | 29 => 187 | 20 => 202 | 21 => 203 | 22 => 204 | 23 => 205 | 24 => 206 | 25 => 207 | 26 => 208 | 27 => 209 | 46 => 222 | 47 => 211 | 48 => 212 | 49 => 223 | 50 => 224 | 57 => 227 | n => n, fun | 22 => 74 | 24 => 79 | 25 => 194 | 3 => 3 | 39 => 49 | 0 => 0 | 53 => 239 | 55 => 232 | 4 => 4 | 46 => 257 | 45 => 256 | 50 => 157 | 5 => 5 | 9 => 9 | 66 => 280 | 70 => 284 | 76 => 293 | 77 => 294 | n => n, fun | n => n⟩
theorem Tryz.srtB : Go.Proofs.SlLaysF0.n6 Tryz.prog Tryz.srtB_ren := {
  mixed := by kernel_rfl
  f6 := ⟨Tryz.f150.name, by decide, Tryz.func150.trans (congrArg some (by kernel_rfl))⟩
  f14 := ⟨Tryz.f175.name, by decide, Tryz.func175.trans (congrArg some (by kernel_rfl))⟩
  f15 := Tryz.func159.trans (congrArg some (by kernel_rfl))
  f20 := ⟨Tryz.f202.name, by decide, Tryz.func202.trans (congrArg some (by kernel_rfl))⟩
  f21 := ⟨Tryz.f203.name, by decide, Tryz.func203.trans (congrArg some (by kernel_rfl))⟩
  f22 := ⟨Tryz.f204.name, by decide, Tryz.func204.trans (congrArg some (by kernel_rfl))⟩
  f23 := ⟨Tryz.f205.name, by decide, Tryz.func205.trans (congrArg some (by kernel_rfl))⟩
  f24 := ⟨Tryz.f206.name, by decide, Tryz.func206.trans (congrArg some (by kernel_rfl))⟩
  f25 := ⟨Tryz.f207.name, by decide, Tryz.func207.trans (congrArg some (by kernel_rfl))⟩
  f26 := ⟨Tryz.f208.name, by decide, Tryz.func208.trans (congrArg some (by kernel_rfl))⟩
  f27 := ⟨Tryz.f209.name, by decide, Tryz.func209.trans (congrArg some (by kernel_rfl))⟩
  f28 := Tryz.func186.trans (congrArg some (by kernel_rfl))
  f29 := Tryz.func187.trans (congrArg some (by kernel_rfl))
  f46 := ⟨Tryz.f222.name, by decide, Tryz.func222.trans (congrArg some (by kernel_rfl))⟩
  f47 := Tryz.func211.trans (congrArg some (by kernel_rfl))
  f48 := Tryz.func212.trans (congrArg some (by kernel_rfl))
  f49 := ⟨Tryz.f223.name, by decide, Tryz.func223.trans (congrArg some (by kernel_rfl))⟩
  f50 := ⟨Tryz.f224.name, by decide, Tryz.func224.trans (congrArg some (by kernel_rfl))⟩
  f57 := ⟨Tryz.f227.name, by decide, Tryz.func227.trans (congrArg some (by kernel_rfl))⟩
  t0 := Tryz.underlying0
  a0 := Tryz.isAgg0
  z0 := Tryz.sizeOf0
  v0 := Tryz.zeroValue0
  t3 := Tryz.underlying3
  a3 := Tryz.isAgg3
  z3 := Tryz.sizeOf3
  v3 := Tryz.zeroValue3
  t4 := Tryz.underlying4
  a4 := Tryz.isAgg4
  z4 := Tryz.sizeOf4
  v4 := Tryz.zeroValue4
  t5 := Tryz.underlying5
  a5 := Tryz.isAgg5
  z5 := Tryz.sizeOf5
  v5 := Tryz.zeroValue5
  t9 := Tryz.underlying9
  a9 := Tryz.isAgg9
  z9 := Tryz.sizeOf9
  v9 := Tryz.zeroValue9
  t22 := Tryz.underlying74
  a22 := Tryz.isAgg74
  z22 := Tryz.sizeOf74
  v22 := Tryz.zeroValue74
  t25 := Tryz.underlying194
  a25 := Tryz.isAgg194
  z25 := Tryz.sizeOf194
  v25 := Tryz.zeroValue194
  t39 := Tryz.underlying49
  a39 := Tryz.isAgg49
  z39 := Tryz.sizeOf49
  v39 := Tryz.zeroValue49
  t45 := Tryz.underlying256
  a45 := Tryz.isAgg256
  z45 := Tryz.sizeOf256
  v45 := Tryz.zeroValue256
  t46 := Tryz.underlying257
  a46 := Tryz.isAgg257
  z46 := Tryz.sizeOf257
  v46 := Tryz.zeroValue257
  t50 := Tryz.underlying157
  a50 := Tryz.isAgg157
  z50 := Tryz.sizeOf157
  v50 := Tryz.zeroValue157
  t53 := Tryz.underlying239
  a53 := Tryz.isAgg239
  z53 := Tryz.sizeOf239
  v53 := Tryz.zeroValue239
  t55 := Tryz.underlying232
  a55 := Tryz.isAgg232
  z55 := Tryz.sizeOf232
  v55 := Tryz.zeroValue232
  t66 := Tryz.underlying280
  a66 := Tryz.isAgg280
  z66 := Tryz.sizeOf280
  v66 := Tryz.zeroValue280
  t70 := Tryz.underlying284
  a70 := Tryz.isAgg284
  z70 := Tryz.sizeOf284
  v70 := Tryz.zeroValue284
  t76 := Tryz.underlying293
  a76 := Tryz.isAgg293
  z76 := Tryz.sizeOf293
  v76 := Tryz.zeroValue293
  t77 := Tryz.underlying294
  a77 := Tryz.isAgg294
  z77 := Tryz.sizeOf294
  v77 := Tryz.zeroValue294}
end Go.Proofs

namespace TL
open Go Go.Proofs Go.Shelf Go.RowKit Go.Lib Go.Sort

def cmpI (a b : Int) : Int := if a < b then -1 else if a = b then 0 else 1
def orI (a b : Int) : Int := if a = 0 then b else a
def cmpA (x y : Int × Int) : Int := orI (cmpI x.1 y.1) (cmpI x.2 y.2)
set_option maxHeartbeats 1000000 in
set_option maxRecDepth 100000 in
theorem walkCmp (a b : Int) (w : World) : Calls Tryz.prog 118 #[.int .i64 a, .int .i64 b] w fun e w' => e = .returned (.int .i64 (cmpI a b)) ∧ w' = w := by
  unfold cmpI
  go_enter Tryz.func118, Tryz.ntmps118
  go_wp2
  all_goals (go_ret; exact ⟨rfl, rfl⟩)
set_option maxHeartbeats 1000000 in
set_option maxRecDepth 100000 in
theorem walkOr (F : Fence) (n : Nat) (hf : F.fn 117) (hro : F.round = none) (a b : Int) (w : World) (bb : Nat) (h0 : w.cell? ⟨bb, 0, none⟩ = some (.int .i64 a)) (h1 : w.cell? ⟨bb, 1, none⟩ = some (.int .i64 b)) :
    CallsIn F n Tryz.prog 117 #[.slice (some ⟨bb, 0, none⟩) 2 2] w fun e w' => e = .returned (.int .i64 (if a = 0 then b else a)) ∧ w' = w := by
  refine callsIn_of_wp Tryz.func117 rfl hf ?_ hro
  simp only [Tryz.ntmps117, List.size_toArray, List.length_cons, List.length_nil, Nat.reduceAdd, Nat.reduceSub, Array.replicate_succ, Array.replicate_zero, List.push_toArray, List.append_toArray, List.nil_append, List.cons_append]
  gi_wp2
  gi_loopw [8] (fun v wr => wr = w ∧ (v = .int .i64 0 ∨ (v = .int .i64 1 ∧ a = 0) ∨ (v = .int .i64 2 ∧ a = 0 ∧ b = 0))) (fun v _ => match v with
    | .int _ k => (2 - k).toNat
    | _ => 0)
  case atStart => exact ⟨rfl, .inl rfl⟩
  case round =>
    obtain ⟨rfl, rfl | ⟨rfl, rfl⟩ | ⟨rfl, rfl, rfl⟩⟩ := hrel
    · gi_wp2
      · simp_all
      · go_ret
        exact ⟨rfl, rfl⟩
      · rename_i hq
        exact ⟨⟨trivial, .inr (.inl ⟨rfl, by simpa using hq⟩)⟩, by decide⟩
    · gi_wp2
      · go_ret
        exact ⟨rfl, rfl⟩
      · rename_i hq
        exact ⟨⟨trivial, .inr (.inr ⟨rfl, trivial, by simpa using hq⟩)⟩, by decide⟩
    · gi_wp2
      go_ret
      exact ⟨rfl, rfl⟩
theorem walkOrC (a b : Int) (w : World) (bb : Nat) (h0 : w.cell? ⟨bb, 0, none⟩ = some (.int .i64 a)) (h1 : w.cell? ⟨bb, 1, none⟩ = some (.int .i64 b)) :
    Calls Tryz.prog 117 #[.slice (some ⟨bb, 0, none⟩) 2 2] w fun e w' => e = .returned (.int .i64 (if a = 0 then b else a)) ∧ w' = w :=
  callsIn_wide.1 (walkOr Fence.wide 3 trivial rfl a b w bb h0 h1)
theorem walkOrN (a b : Int) (W : World) : Calls Tryz.prog 117 #[.slice (some ⟨W.heap.size, 0, none⟩) 2 2] (W.alloc (.cells #[.int .i64 a, .int .i64 b] 3)).drew fun e w' => e = .returned (.int .i64 (orI a b)) ∧ w' = (W.alloc (.cells #[.int .i64 a, .int .i64 b] 3)).drew := by
  have hn : (W.alloc (.cells #[.int .i64 a, .int .i64 b] 3)).drew.heap[W.heap.size]? = some (.cells #[.int .i64 a, .int .i64 b] 3 (0, 0)) := World.alloc_heap_new W _
  generalize (W.alloc (.cells #[.int .i64 a, .int .i64 b] 3)).drew = X at hn ⊢
  exact walkOrC a b _ _ (by simp [World.cell?, hn]) (by simp [World.cell?, hn])
set_option maxHeartbeats 400000 in
set_option maxRecDepth 100000 in
theorem walkAsk (a0 a1 b0 b1 : Int) (w : World) :
    Calls Tryz.prog 116 #[.agg #[.int .i64 a0, .int .i64 a1], .agg #[.int .i64 b0, .int .i64 b1]] w fun e w' => e = .returned (.int .i64 (cmpA (a0, a1) (b0, b1))) ∧ ∃ q os', w' = grow (w.drewN q) os' := by
  unfold cmpA
  dsimp only
  have hc := walkCmp
  generalize cmpI = f at hc ⊢
  have ho := walkOrN
  generalize orI = g at ho ⊢
  go_enter Tryz.func116, Tryz.ntmps116
  go_wp2
  obtain ⟨W0, hW0⟩ : ∃ W0, (w.alloc (.cells #[.int .i64 a0, .int .i64 a1] 79)).alloc (.cells #[.int .i64 b0, .int .i64 b1] 79) = W0 := ⟨_, rfl⟩
  have n1 : W0.heap[w.heap.size]? = some (.cells #[.int .i64 a0, .int .i64 a1] 79 (0, 0)) := by rw [← hW0]; exact (Below.heap_alloc _ _ _ (by simp)).trans (World.alloc_heap_new w _)
  have n2 : W0.heap[w.heap.size + 1]? = some (.cells #[.int .i64 b0, .int .i64 b1] 79 (0, 0)) := by
    rw [← hW0]
    have := World.alloc_heap_new (w.alloc (.cells #[.int .i64 a0, .int .i64 a1] 79)) (.cells #[.int .i64 b0, .int .i64 b1] 79)
    rwa [World.size_alloc] at this
  have q1 : W0.cell? ⟨w.heap.size, 0, none⟩ = some (.int .i64 a0) := by simp [World.cell?, n1]
  have q2 : W0.cell? ⟨w.heap.size, 1, none⟩ = some (.int .i64 a1) := by simp [World.cell?, n1]
  have q3 : W0.cell? ⟨w.heap.size + 1, 0, none⟩ = some (.int .i64 b0) := by simp [World.cell?, n2]
  have q4 : W0.cell? ⟨w.heap.size + 1, 1, none⟩ = some (.int .i64 b1) := by simp [World.cell?, n2]
  rw [hW0]
  have hgr : ∃ os0, W0 = grow w os0 := ⟨_, by rw [← hW0, alloc_eq_grow, alloc_eq_grow, grow_grow]⟩
  clear hW0 n1 n2
  generalize w.heap.size = B at q1 q2 q3 q4
  go_region_held3 (fun w' => w'.cell? ⟨B, 0, none⟩ = some (.int .i64 a0) ∧ w'.cell? ⟨B, 1, none⟩ = some (.int .i64 a1) ∧ w'.cell? ⟨B + 1, 0, none⟩ = some (.int .i64 b0) ∧ w'.cell? ⟨B + 1, 1, none⟩ = some (.int .i64 b1)) (go_keep)
    (first | (go_at_call 118; refine (hc _ _ _).mono ?_; rintro e w' ⟨rfl, rfl⟩) | (go_at_call 117; refine (ho _ _ _).mono ?_; rintro e w' ⟨rfl, rfl⟩))
  go_wp2
  go_ret
  obtain ⟨os0, hgr⟩ := hgr
  refine ⟨rfl, 1, os0 ++ #[.cells #[.int .i64 (f a0 b0), .int .i64 (f a1 b1)] 3], ?_⟩
  rw [hgr, alloc_eq_grow, grow_grow]
  rfl
def EncAsk : Enc (Int × Int) where
  enc := askC
  k := 2
  len _ := rfl
  one o v hv := by
    simp only [askC, List.mem_cons, List.not_mem_nil, or_false] at hv
    rcases hv with rfl | rfl <;> rfl
  pos := by decide
def ltA (x y : Int × Int) : Prop := x.1 < y.1 ∨ (x.1 = y.1 ∧ x.2 < y.2)
instance (x y : Int × Int) : Decidable (ltA x y) := inferInstanceAs (Decidable (_ ∨ _))
theorem cmpI_lt (a b : Int) : cmpI a b < 0 ↔ a < b := by
  unfold cmpI
  split
  · simp_all
  · split <;> simp_all
theorem cmpI_eq (a b : Int) : cmpI a b = 0 ↔ a = b := by
  unfold cmpI
  split
  · simp; omega
  · split <;> simp_all
theorem cmpA_lt (x y : Int × Int) : ltOf cmpA x y = decide (ltA x y) := by
  unfold ltOf cmpA orI
  rw [decide_eq_decide]
  unfold ltA
  split
  · rename_i h
    rw [cmpI_eq] at h
    rw [cmpI_lt]; omega
  · rename_i h
    rw [cmpI_eq] at h
    rw [cmpI_lt]; omega
theorem swoA : SWO (ltOf cmpA) where
  irrefl x := by rw [cmpA_lt]; exact decide_eq_false (by unfold ltA; omega)
  trans x y z h1 h2 := by
    rw [cmpA_lt] at *
    simp only [decide_eq_true_eq] at *
    unfold ltA at *; omega
  ntrans x y z h1 h2 := by
    rw [cmpA_lt] at *
    simp only [decide_eq_false_iff_not] at *
    unfold ltA at *; omega
section
variable {P : Program} {ρ : Ren}
theorem flatA_row (l : List (Int × Int)) : flatK EncAsk.enc 2 l.toArray = (EncAsk.row l).toArray := by
  apply Array.ext
  · rw [size_flatK]; simp [EncAsk.row_len]; rfl
  · intro t h1 h2
    have h1' : t < l.length * 2 := by rw [size_flatK] at h1; simpa using h1
    have hg := get_flatK EncAsk.enc 2 l.toArray t (by simpa using h1')
    rw [getElem!_pos _ t h1] at hg
    rw [hg]
    have hi : t / 2 < l.length := by omega
    have hf := EncAsk.row_field (i := t / 2) (f := t % 2) (m := 1) [] hi (by show t % 2 + 1 ≤ 2; omega)
    have ht : t / 2 * EncAsk.k + t % 2 = t := by show t / 2 * 2 + t % 2 = t; omega
    rw [ht, List.append_nil] at hf
    have hl : t < (EncAsk.row l).length := by rw [EncAsk.row_len]; exact h1'
    have hl2 : t % 2 < (EncAsk.enc l[t / 2]).length := by rw [EncAsk.len]; show t % 2 < 2; omega
    rw [take1 hl, take1 hl2] at hf
    have hf : (EncAsk.row l)[t] = (EncAsk.enc l[t / 2])[t % 2] := by simpa using hf
    simp only [List.getElem_toArray]
    rw [hf]
    have e1 : l.toArray[t / 2]! = l[t / 2] := by rw [getElem!_pos _ _ (by simpa using hi)]; simp
    rw [e1]; exact getElem!_pos (EncAsk.enc l[t / 2]) (t % 2) hl2
theorem sortA_frm {h : PH} {w : World} (hi : h.In w) {b : Nat} {l l' : List (Int × Int)} {tail : List Value} {T : TypeId} (hb : h b = some (.cells (EncAsk.row l ++ tail).toArray T (0, 0))) (hl : l'.length = l.length) (m : Nat) (os : Array Obj) :
    Frm h w (h.upd b (.cells (EncAsk.row l' ++ tail).toArray T (0, 0))) (sortWorldK EncAsk.enc 2 w b 0 m l'.toArray os) := by
  have hw := hi _ _ hb
  have hheap : (sortWorldK EncAsk.enc 2 w b 0 m l'.toArray os).heap = w.heap.modify b (onCells (putCells id 0 (flatK EncAsk.enc 2 l'.toArray))) ++ os := rfl
  have hlt := hi.lt hb
  have hcell : (w.heap.modify b (onCells (putCells id 0 (flatK EncAsk.enc 2 l'.toArray))))[b]? = some (.cells (EncAsk.row l' ++ tail).toArray T (0, 0)) := by
    rw [Array.getElem?_modify, if_pos rfl, hw, Option.map_some]
    show some (Obj.cells (putCells id 0 (flatK EncAsk.enc 2 l'.toArray) (EncAsk.row l ++ tail).toArray) T (0, 0)) = _
    rw [flatA_row, putCells_row (by rw [EncAsk.row_len, EncAsk.row_len, hl])]
  have hold : ∀ x, x ≠ b → (w.heap.modify b (onCells (putCells id 0 (flatK EncAsk.enc 2 l'.toArray))))[x]? = w.heap[x]? := fun x hx => by
    rw [Array.getElem?_modify, if_neg (fun e => hx e.symm)]
  have happ : ∀ x, x < w.heap.size → (sortWorldK EncAsk.enc 2 w b 0 m l'.toArray os).heap[x]? = (w.heap.modify b (onCells (putCells id 0 (flatK EncAsk.enc 2 l'.toArray))))[x]? := fun x hx => by
    rw [hheap, Array.getElem?_append_left (by rw [Array.size_modify]; exact hx)]
  refine ⟨fun x o e => ?_, ?_, fun x hx e => ⟨?_, ?_⟩, rfl, rfl⟩
  · by_cases hxb : x = b
    · subst hxb
      rw [PH.upd_same] at e; cases e
      rw [happ _ hlt, hcell]
    · rw [PH.upd_ne _ _ hxb] at e
      rw [happ _ (hi.lt e), hold x hxb, hi _ _ e]
  · rw [hheap, Array.size_append, Array.size_modify]; omega
  · rw [PH.upd_ne _ _ (fun hxb => by subst hxb; rw [hb] at e; cases e)]; exact e
  · rw [happ _ hx, hold x (fun hxb => by subst hxb; rw [hb] at e; cases e)]
theorem holdsA_row {h : PH} {w : World} (hi : h.In w) {b : Nat} {l : List (Int × Int)} {tail : List Value} {T : TypeId} (hb : h b = some (.cells (EncAsk.row l ++ tail).toArray T (0, 0))) : HoldsK EncAsk.enc 2 w b 0 l.toArray := by
  intro j hj
  rw [size_flatK] at hj
  have hw := hi _ _ hb
  have hlen : (EncAsk.row l).length = l.length * 2 := EncAsk.row_len l
  have hj2 : j < (EncAsk.row l).length := by rw [hlen]; simpa using hj
  refine ⟨?_, ?_⟩
  · rw [flatA_row, getElem!_pos _ j (by simpa using hj2)]
    simp only [World.cell?, hw, Nat.zero_add, id, List.getElem_toArray]
    rw [List.getElem?_toArray, List.getElem?_append_left hj2, List.getElem?_eq_getElem hj2]
    rfl
  · simp [World.frozen?, hw]
theorem ext_allA {d d' : Array (Int × Int)} (h : PermIn 0 d.size d d') : d'.toList.Perm d.toList ∧ d'.size = d.size := by
  obtain ⟨h1, _, h2⟩ := h
  have e1 : d.extract 0 d.size = d := by simp
  have e2 : d'.extract 0 d.size = d' := by rw [← h1]; simp
  rw [e1, e2] at h2
  exact ⟨h2, h1⟩
theorem cSortA0 (L : SlLaysF0.n6 P ρ) (aE : ∀ w, (isAgg (ρ.t 24)).run P w = .ok true w) (zE : ∀ w, (Go.sizeOf (ρ.t 24)).run P w = .ok 2 w) (g : Nat) (eg : ∀ args w, (callFunc g args).run P w = .ok (.enter g args) w)
    (hless : ∀ (a0 a1 b0 b1 : Int) (w : World), Calls P g #[.agg #[.int .i64 a0, .int .i64 a1], .agg #[.int .i64 b0, .int .i64 b1]] w fun e w' => e = .returned (.int .i64 (cmpA (a0, a1) (b0, b1))) ∧ ∃ q os', w' = grow (w.drewN q) os')
    {B : List Nat} {h : PH} {K : Value → PH → Prop} {a : Option Addr} {n c : Nat} {l : List (Int × Int)} {T : TypeId} (x : Buf EncAsk T B h a n c l) (hn : l.length ≤ 1000000)
    (hk : ∀ l' h', l'.Perm l → (l'.Pairwise fun a b => ¬ ltA b a) → Buf EncAsk T B h' a n c l' → Chg B B h h' → K (.tuple #[]) h') : CallH P (ρ.f 6) [.slice a n c, .func (.func g) #[] #[]] K h := by
  intro w hi
  have hnl := x.1
  by_cases h0 : l = []
  · subst h0
    have hn0 : n = 0 := hnl
    subst hn0
    refine Calls.mono (AnyF.slices_SortFunc_none L a c (.func (.func g) #[] #[]) w) ?_
    rintro e w' ⟨rfl, rfl⟩
    exact ⟨_, h, rfl, hk [] h (List.Perm.refl _) List.Pairwise.nil x (Chg.refl _ _), Frm.refl hi⟩
  · have hx := x
    obtain ⟨_, ⟨_, _, e⟩ | ⟨b, tail, rfl, rfl, hb, ht, hle⟩⟩ := x
    · exact absurd e h0
    have hc : CmpLays P g #[] EncAsk.enc 2 cmpA b 0 l.toArray.size w := fun m os dk _ x y => hless _ _ _ _ _
    have hS := AnyQ.slices_SortFunc L 2 aE zE EncAsk.enc (fun _ => rfl) (fun x v hv => by
      simp only [EncAsk, askC, List.mem_cons, List.not_mem_nil, or_false] at hv
      rcases hv with rfl | rfl <;> rfl) cmpA swoA g #[] b 0 c l.toArray w eg hc (holdsA_row hi hb) (hi.lt hb) (by simp; omega)
    have hsz : l.toArray.size = n := by simp [hnl]
    rw [hsz] at hS
    refine Calls.mono hS ?_
    rintro e w' ⟨rfl, d', m, os, hp, hs, rfl⟩
    rw [← hsz] at hp hs
    obtain ⟨hp1, hp2⟩ := ext_allA hp
    have hl' : d'.toList.length = l.length := by rw [Array.length_toList, hp2]; simp
    have hfrm := sortA_frm hi hb hl' m os
    rw [Array.toArray_toList] at hfrm
    refine ⟨_, _, rfl, hk d'.toList _ (by simpa using hp1) ?_ ⟨by rw [hl']; exact hnl, .inr ⟨b, tail, rfl, rfl, PH.upd_same _ _ _, ht, hle⟩⟩ (Chg.upd _), hfrm⟩
    rw [List.pairwise_iff_getElem]
    intro i j hi' hj' hij
    have := hs i j (Nat.zero_le _) hij (by rw [← hp2]; simpa using hj')
    rw [cmpA_lt, getElem!_pos d' j (by simpa using hj'), getElem!_pos d' i (by simpa using hi')] at this
    simpa using this
end
end TL

namespace TL
open Go Go.Proofs Go.Shelf Go.RowKit Go.Lib Go.Sort Go.Maps
theorem cSortA {B : List Nat} {h : PH} {K : Value → PH → Prop} {a : Option Addr} {n c : Nat} {l : List (Int × Int)} {T : TypeId} (x : Buf EncAsk T B h a n c l) (hn : l.length ≤ 1000000)
    (hk : ∀ l' h', l'.Perm l → (l'.Pairwise fun a b => ¬ ltA b a) → Buf EncAsk T B h' a n c l' → Chg B B h h' → K (.tuple #[]) h') : CallH Tryz.prog 150 [.slice a n c, .func (.func 116) #[] #[]] K h :=
  cSortA0 Tryz.srtB Tryz.isAgg79 Tryz.sizeOf79 116 (enters_of Tryz.func116 (by kernel_rfl) rfl) walkAsk x hn hk
theorem frm_below {h : PH} {w w' : World} (hi : h.In w) (hb : Below w.heap.size w w') : Frm h w h w' :=
  ⟨fun b _ e => (hb.block b (hi.lt e)).trans (hi _ _ e), hb.size, fun b hlt e => ⟨e, hb.block b hlt⟩, hb.os, hb.output⟩
theorem frm_new {h : PH} {w w' : World} (hi : h.In w) (hb : Below w.heap.size w w') {g : Nat} (hg : w.heap.size ≤ g) {o : Obj} (ho : w'.heap[g]? = some o) : Frm h w (h.upd g o) w' ∧ h g = none := by
  have hn : h g = none := by
    cases e : h g with
    | none => rfl
    | some o => have := hi.lt e; omega
  refine ⟨⟨fun b o' e => ?_, hb.size, fun b hlt e => ⟨?_, hb.block b hlt⟩, hb.os, hb.output⟩, hn⟩
  · by_cases hbg : b = g
    · subst hbg; rw [PH.upd_same] at e; cases e; exact ho
    · rw [PH.upd_ne _ _ hbg] at e; exact (hb.block b (hi.lt e)).trans (hi _ _ e)
  · rw [PH.upd_ne _ _ (by omega)]; exact e
theorem flat_askC (l : List (Int × Int)) : EncAsk.row l = l.flatMap askC := rfl
/-- what a sorted row is, behind its making -/
def SortedIn' (h : PH) (w : World) (ss : List (Int × Int)) (v : Value) (w'' : World) : Prop :=
  ∃ (l : List (Int × Int)) (a' : Option Addr) (c' : Nat) (B' : List Nat) (h' : PH), l.Perm ss ∧ (l.Pairwise fun a b => ¬ ltA b a) ∧ v = .slice a' l.length c' ∧ Buf EncAsk 79 B' h' a' l.length c' l ∧ Chg [] B' h h' ∧ Frm h w h' w''
theorem sortStep {h : PH} {w w' : World} (hi : h.In w) (hb : Below w.heap.size w w') {v : Value} {ss : List (Int × Int)} (hrow : w'.ownsRow w.heap.size 79 2 v ss.length (ss.flatMap askC)) (hn : ss.length ≤ 1000000) (n : Nat) :
    CallsIn Fence.wide n Tryz.prog 150 #[v, .func (.func 116) #[] #[]] w' fun e w'' => e = .returned (.tuple #[]) ∧ SortedIn' h w ss v w'' := by
  refine callsIn_wide.2 ?_
  rcases hrow.2 with ⟨rfl, h0⟩ | ⟨g, cap, cur, rfl, hg, hgb, h1, h2, h3, h4⟩
  · have h0 : ss = [] := List.length_eq_zero_iff.1 h0
    subst h0
    have hf := frm_below hi hb
    refine Calls.mono (cSortA (K := fun v' h' => v' = .tuple #[] ∧ ∃ l', l'.Perm [] ∧ Buf EncAsk 79 [] h' none 0 0 l' ∧ Chg [] [] h h') (Buf.nil EncAsk 79 h none) (Nat.zero_le _) (fun l' h' hp _ hB hc => ⟨rfl, l', hp, hB, hc⟩) w' hf.inn) ?_
    rintro e w'' ⟨_, h', rfl, ⟨rfl, l', hp, hB, hc⟩, hf2⟩
    have hl : l' = [] := List.Perm.eq_nil hp
    subst hl
    exact ⟨rfl, [], none, 0, [], h', List.Perm.refl _, List.Pairwise.nil, rfl, hB, hc, hf.trans hf2⟩
  · obtain ⟨hf, hno⟩ := frm_new hi hb hg hgb
    have hcur : cur.toList = ss.flatMap askC ++ cur.toList.drop (ss.length * 2) := by rw [← h4, List.take_append_drop]
    have hB : Buf EncAsk 79 [g] (h.upd g (.cells cur 79 (0, 0))) (some ⟨g, 0, none⟩) ss.length cap ss := by
      refine ⟨rfl, .inr ⟨g, cur.toList.drop (ss.length * 2), rfl, rfl, ?_, ?_, h1⟩⟩
      · rw [PH.upd_same, flat_askC, ← hcur]
      · rw [List.length_drop, Array.length_toList, h3, Nat.sub_mul]; rfl
    refine Calls.mono (cSortA (K := fun v' h' => v' = .tuple #[] ∧ ∃ l', l'.Perm ss ∧ (l'.Pairwise fun a b => ¬ ltA b a) ∧ Buf EncAsk 79 [g] h' (some ⟨g, 0, none⟩) ss.length cap l' ∧ Chg [g] [g] (h.upd g (.cells cur 79 (0, 0))) h') hB hn (fun l' h' hp hs hB hc => ⟨rfl, l', hp, hs, hB, hc⟩) w' hf.inn) ?_
    rintro e w'' ⟨_, h', rfl, ⟨rfl, l', hp, hs, hB', hc⟩, hf2⟩
    have hl := hp.length_eq
    exact ⟨rfl, l', _, cap, [g], h', hp, hs, by rw [hl], by rw [hl]; exact hB', (Chg.new _ hno).trans hc, hf.trans hf2⟩
set_option maxRecDepth 100000 in
set_option maxHeartbeats 1000000 in
theorem cSortedA {h : PH} {K : Value → PH → Prop} {bm r c : Nat} {es : List MapEntry} (hbm : h bm = some (.cells #[.map (some r)] 184 (0, 0))) (hr : h r = some (.map es.toArray c)) (hkey : ∀ e ∈ es, ∃ x, e.key = keyV x) (hold : ∀ e ∈ es, e.born < c)
    (hnd : (es.map (·.born)).Nodup) (hn : es.length ≤ 1000)
    (hk : ∀ (l : List (Int × Int)) a' c' B' h', (l.map keyV).Perm (es.map (·.key)) → (l.Pairwise fun a b => ¬ ltA b a) → Buf EncAsk 79 B' h' a' l.length c' l → Chg [] B' h h' → K (.slice a' l.length c') h') :
    CallH Tryz.prog 114 [.func (.func 151) #[] #[.pointer (some ⟨bm, 0, none⟩)], .func (.func 116) #[] #[]] K h := by
  intro w hi
  have hwm := hi _ _ hbm
  have hwr := hi _ _ hr
  have hseq : SeqGives Fence.wide 3 Tryz.prog 151 #[.pointer (some ⟨bm, 0, none⟩)] keyV (fun ss => (ss.map keyV).Perm (es.map (·.key))) es.length w :=
    keysAsk_gives Fence.wide 3 trivial rfl (by omega) bm r es.toArray c hkey hold hnd w (hi.lt hbm) (by simp [World.cell?, hwm]) hwr
  have hmax : es.length ≤ maxLen := by unfold maxLen; omega
  have hf1 : Fence.wide.fn 149 := trivial
  have hf2 : Fence.wide.fn 150 := trivial
  refine (callsIn_wide (n := 6)).1 ?_
  refine callsIn_of_wp Tryz.func114 rfl trivial ?_ rfl
  simp only [Tryz.ntmps114, List.size_toArray, List.length_cons, List.length_nil, Nat.reduceAdd, Nat.reduceSub, Array.replicate_succ, Array.replicate_zero, List.push_toArray, List.append_toArray, List.nil_append, List.cons_append]
  gi_wp2_with (first
    | (gi_at_call 149; refine (ask_collect_in Fence.wide 5 trivial trivial rfl (by omega) 151 _ trivial (enters_of Tryz.func151 (by kernel_rfl) rfl) _ es.length hmax (by omega) _ hseq).mono ?_; rintro e w' ⟨v, ss, rfl, hS, hrow, hnil, hb⟩)
    | (gi_at_call 150; refine (sortStep hi hb hrow (by have := hS.length_eq; simp at this; omega) 5).mono ?_; rintro e w'' ⟨rfl, hpost⟩))
  obtain ⟨l, a', c', B', h', hp, hs, rfl, hB, hc, hf⟩ := hpost
  go_ret
  exact ⟨_, h', rfl, hk l a' c' B' h' ((hp.map keyV).trans hS) hs hB hc, hf⟩
end TL
