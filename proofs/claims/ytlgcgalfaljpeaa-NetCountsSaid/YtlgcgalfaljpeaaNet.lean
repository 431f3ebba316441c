/-
  Contracts of the net's functions.
-/
import Derived.Test.YtlgcgalfaljpeaaText
import Derived.Test.YtlgcgalfaljpeaaLibD
namespace TL
open Go Go.Proofs

structure Pk where
  f : Int
  t : Int
  d : ByteArray
def EncPk : Enc Pk where
  enc p := [.int .i64 p.f, .int .i64 p.t, .string p.d]
  k := 3
  len _ := rfl
  one p v hv := by
    simp only [List.mem_cons, List.not_mem_nil, or_false] at hv
    rcases hv with rfl | rfl | rfl <;> rfl
  pos := by decide
def Pk.v (p : Pk) : Value := .agg #[.int .i64 p.f, .int .i64 p.t, .string p.d]
structure NS where
  way : List Pk
  parted : Bool
def cnt (k : Int) (l : List Pk) : Int := ((l.countP fun p => p.f == k : Nat) : Int)
def Pk.good (p : Pk) : Prop := p.f = 0 ∧ p.t = 1 ∨ p.f = 1 ∧ p.t = 0
structure NS.Good (s : NS) : Prop where
  good : ∀ p ∈ s.way, p.good
  c0 : cnt 0 s.way ≤ 64
  c1 : cnt 1 s.way ≤ 64
theorem cnt_len : ∀ {l : List Pk}, (∀ p ∈ l, p.good) → cnt 0 l + cnt 1 l = l.length
  | [], _ => rfl
  | p :: r, h => by
    have := cnt_len (l := r) (fun q hq => h q (List.mem_cons_of_mem _ hq))
    have hp := h p List.mem_cons_self
    simp only [cnt, List.countP_cons, List.length_cons] at this ⊢
    rcases hp with ⟨e, _⟩ | ⟨e, _⟩ <;> rw [e] <;> simp <;> omega
theorem NS.Good.len {s : NS} (h : s.Good) : s.way.length ≤ 128 := by
  have := cnt_len h.good
  have := h.c0
  have := h.c1
  omega
theorem cnt_nonneg (k : Int) (l : List Pk) : 0 ≤ cnt k l := by unfold cnt; omega
def netC (a : Option Addr) (n c : Nat) (s : NS) : List Value := [.slice a n c, .int .i64 (cnt 0 s.way), .int .i64 (cnt 1 s.way), .bool s.parted, .bool true]
def NetAt (B : List Nat) (h : PH) (x : Option Addr) (s : NS) : Prop :=
  ∃ bn a n c Bw, x = some ⟨bn, 0, none⟩ ∧ B = bn :: Bw ∧ bn ∉ Bw ∧ h bn = some (.cells (netC a n c s).toArray T_net_Net (0, 0)) ∧ Buf EncPk T_api_Packet Bw h a n c s.way ∧ s.Good

def nBad (p : Pk) : Bool := ((decide (p.f < (0 : Int))) || (decide (p.f ≥ (2 : Int)))) || (p.t != (IntKind.wrap .i64 ((1 : Int) - p.f)))
def nPut (s : NS) (p : Pk) : Int × NS := if cnt p.f s.way ≥ 64 then (6, s) else (0, { s with way := s.way ++ [p] })

variable {B : List Nat} {h : PH} {x : Option Addr} {s : NS} {K : Value → PH → Prop}
theorem cNet_none (hx : NetAt B h x s) (hk : K (.bool false) h) : CallH Try.prog id_net_Net_none [.pointer x] K h := by
  obtain ⟨bn, a, n, c, Bw, rfl, rfl, hn, hb, hw, hg⟩ := hx
  refine F_net_Net_none_ok ⟨bn, 0, fun _ => rfl, true, fun _ => rdsL hb rfl rfl, ?_⟩
  exact hk
theorem cNet_none' (hk : K (.bool true) h) : CallH Try.prog id_net_Net_none [.pointer none] K h :=
  F_net_Net_none_ok ⟨0, 0, nofun, false, nofun, hk⟩

theorem cnt_app (k : Int) (l : List Pk) (p : Pk) : cnt k (l ++ [p]) = cnt k l + (if p.f = k then 1 else 0) := by
  simp only [cnt, List.countP_append, List.countP_cons, List.countP_nil]
  by_cases e : p.f = k <;> simp [e]
theorem cNet_put {p : Pk} (hx : NetAt B h x s) (hp : p.good) (hk : ∀ B' h', NetAt B' h' x (nPut s p).2 → Chg B B' h h' → K (.int .i64 (nPut s p).1) h') :
    CallH Try.prog id_net_Net_put [.pointer x, p.v] K h := by
  have hx0 := hx
  obtain ⟨bn, a, n, c, Bw, rfl, rfl, hn, hb, hw, hg⟩ := hx
  have hlen := hg.len
  refine F_net_Net_put_ok ?_
  unfold F_net_Net_put
  have hp01 : 0 ≤ p.f ∧ p.f < ((2 : Nat) : Int) := by rcases hp with ⟨e, _⟩ | ⟨e, _⟩ <;> rw [e] <;> decide
  have hr : h.rds bn ((0 + 1) + p.f.toNat * 1) 1 = some [.int .i64 (cnt p.f s.way)] := by
    rcases hp with ⟨e, _⟩ | ⟨e, _⟩ <;> rw [e] <;> exact rdsL hb rfl rfl
  refine ⟨bn, 0, rfl, hp01, _, hr, fun hfull => ?_, fun hroom => ⟨bn, 0, rfl, hp01, _, hr, bn, 0, rfl, hp01, ?_⟩⟩
  · have : cnt p.f s.way ≥ 64 := by simpa using hfull
    simp only [nPut, if_pos this] at hk
    exact hk _ h hx0 (Chg.refl _ _)
  · have hlt : ¬ cnt p.f s.way ≥ 64 := by simpa using hroom
    simp only [nPut, if_neg hlt] at hk
    have hnn := cnt_nonneg p.f s.way
    have hwrap : IntKind.wrap .i64 (cnt p.f s.way + 1) = cnt p.f s.way + 1 := by
      simp [IntKind.wrap, IntKind.bits, IntKind.signed]; omega
    have hst : ∀ Kx : PH → Prop, (∀ h', h' bn = some (.cells [.slice a n c, .int .i64 (cnt 0 (s.way ++ [p])), .int .i64 (cnt 1 (s.way ++ [p])), .bool s.parted, .bool true].toArray T_net_Net (0, 0)) → Chg [bn] [bn] h h' → Kx h') →
        stH h bn ((0 + 1) + p.f.toNat * 1) [.int .i64 (IntKind.wrap .i64 (cnt p.f s.way + 1))] Kx := by
      intro Kx hkx
      rw [hwrap]
      simp only [cnt_app] at hkx
      rcases hp with ⟨e, _⟩ | ⟨e, _⟩
      · rw [e] at hkx ⊢
        exact stL hb rfl rfl (by simpa [netC] using hkx)
      · rw [e] at hkx ⊢
        exact stL hb rfl rfl (by simpa [netC] using hkx)
    refine hst _ fun h1 hb1 hc1 => ⟨bn, 0, rfl, a, n, c, rdsL hb1 rfl rfl, ?_⟩
    refine (hw.chg hc1 (notIn1 hn)).append (new := [p]) rfl rfl rfl (by have := hw.1; omega) ?_
    intro a' c' B' h2 hw2 hc2 _
    have hb2 := hc2.keep hb1 hn
    have hn2 := hc2.fresh hb1 hn
    refine ⟨bn, 0, rfl, stL hb2 rfl rfl fun h3 hb3 hc3 => ?_⟩
    refine hk (bn :: B') _ ⟨bn, a', n + 1, c', B', rfl, rfl, hn2, hb3, hw2.chg hc3 (notIn1 hn2), ?_⟩ ((hc1.head.trans hc2.tail).trans hc3.head)
    refine ⟨fun q hq => ?_, ?_, ?_⟩
    · rcases List.mem_append.1 hq with hq | hq
      · exact hg.good q hq
      · simp at hq; subst hq; exact hp
    · show cnt 0 (s.way ++ [p]) ≤ 64
      have := hg.c0
      rw [cnt_app]; split
      · rename_i e; rw [e] at hlt; omega
      · omega
    · show cnt 1 (s.way ++ [p]) ≤ 64
      have := hg.c1
      rw [cnt_app]; split
      · rename_i e; rw [e] at hlt; omega
      · omega

/-! ### New, Post, Dup, Part, Len, Parted -/
theorem cNet_New (hk : ∀ x B' h', NetAt B' h' x ⟨[], false⟩ → Chg [] B' h h' → K (.pointer x) h') : CallH Try.prog id_net_New [] K h := by
  refine F_net_New_ok (nwL (cs := [.slice none 0 0, .int .i64 (0 : Int), .int .i64 (0 : Int), .bool false, .bool true]) fun b h' hb hb' hc => ?_)
  exact hk _ [b] h' ⟨b, none, 0, 0, [], rfl, rfl, by simp, hb', Buf.nil _ _ _ _, ⟨by simp, by decide, by decide⟩⟩ hc
def nPost (s : NS) (p : Pk) : Int × NS := if nBad p then (1, s) else nPut s p
theorem nBad_good {p : Pk} (h : nBad p = false) : p.good := by
  simp only [nBad, Bool.or_eq_false_iff, decide_eq_false_iff_not, bne_eq_false_iff_eq] at h
  obtain ⟨⟨h1, h2⟩, h3⟩ := h
  have : p.f = 0 ∨ p.f = 1 := by omega
  rcases this with e | e
  · left; rw [e] at h3; exact ⟨e, h3⟩
  · right; rw [e] at h3; exact ⟨e, h3⟩
theorem cNet_Post {p : Pk} (hx : NetAt B h x s) (hk : ∀ B' h', NetAt B' h' x (nPost s p).2 → Chg B B' h h' → K (.int .i64 (nPost s p).1) h') : CallH Try.prog id_net_Net_Post [.pointer x, p.v] K h := by
  refine F_net_Net_Post_ok (cNet_none hx ⟨false, rfl, nofun, fun _ => ⟨fun hb => ?_, fun hb => ?_⟩⟩)
  · have : nBad p = true := hb
    simp only [nPost, this, if_true] at hk
    exact hk B h hx (Chg.refl _ _)
  · have hb' : nBad p = false := hb
    simp only [nPost, hb', Bool.false_eq_true, if_false] at hk
    exact cNet_put hx (nBad_good hb') fun B' h' hx' hc => ⟨_, rfl, hk B' h' hx' hc⟩
theorem cNet_Post' {p : Pk} (hk : K (.int .i64 2) h) : CallH Try.prog id_net_Net_Post [.pointer none, p.v] K h :=
  F_net_Net_Post_ok (cNet_none' ⟨true, rfl, fun _ => hk, nofun⟩)

def pk0 : Pk := ⟨0, 0, ⟨#[]⟩⟩
def nFind (s : NS) (i : Int) : Pk × Int := if decide (i < 0) || decide (i ≥ (s.way.length : Int)) then (pk0, 4) else (s.way.getD i.toNat pk0, 0)
theorem cNet_find {i : Int} (hx : NetAt B h x s) (hk : K (.tuple #[(nFind s i).1.v, .int .i64 (nFind s i).2]) h) : CallH Try.prog id_net_Net_find [.pointer x, .int .i64 i] K h := by
  refine F_net_Net_find_ok (cNet_none hx ?_)
  obtain ⟨bn, a, n, c, Bw, rfl, rfl, hn, hb, hw, hg⟩ := hx
  have hnl := hw.1
  refine ⟨false, rfl, nofun, fun _ => ⟨bn, 0, fun _ => rfl, a, n, c, fun _ => rdsL hb rfl rfl, fun ho => ?_, fun hi => ?_⟩⟩
  · rw [hnl] at ho
    simp only [nFind, ho, if_true] at hk
    exact hk
  · have hi' := hi
    rw [hnl] at hi'
    simp only [nFind, hi', Bool.false_eq_true, if_false] at hk
    simp only [Bool.or_eq_false_iff, decide_eq_false_iff_not] at hi
    have hlt : i.toNat < s.way.length := by omega
    obtain ⟨b, o, ha, hr⟩ := hw.sr.get hlt
    have he : s.way.getD i.toNat pk0 = s.way[i.toNat] := by simp [List.getD, hlt]
    rw [he] at hk
    exact ⟨bn, 0, rfl, a, n, c, rdsL hb rfl rfl, b, o, ⟨ha, by omega, by omega⟩, _, _, _, hr _ 0 3 rfl (by decide), hk⟩
theorem cNet_find' {i : Int} (hk : K (.tuple #[pk0.v, .int .i64 2]) h) : CallH Try.prog id_net_Net_find [.pointer none, .int .i64 i] K h :=
  F_net_Net_find_ok (cNet_none' ⟨true, rfl, fun _ => hk, nofun⟩)
theorem pk_v (p : Pk) : p.v = .agg #[.int .i64 p.f, .int .i64 p.t, .string p.d] := rfl

def nDup (s : NS) (i : Int) : Int × NS := if (nFind s i).2 != 0 then ((nFind s i).2, s) else nPut s (nFind s i).1
theorem nFind_good {i : Int} (hg : s.Good) (h : (nFind s i).2 = 0) : (nFind s i).1 ∈ s.way ∧ i.toNat < s.way.length ∧ 0 ≤ i := by
  unfold nFind at h ⊢
  split at h
  · cases h
  · rename_i hi
    rw [if_neg hi]
    simp only [Bool.or_eq_true, decide_eq_true_eq, not_or] at hi
    have hlt : i.toNat < s.way.length := by omega
    refine ⟨?_, hlt, by omega⟩
    simp [List.getD, hlt]
theorem NetAt.good (hx : NetAt B h x s) : s.Good := by obtain ⟨_, _, _, _, _, _, _, _, _, _, hg⟩ := hx; exact hg
theorem cNet_Dup {i : Int} (hx : NetAt B h x s) (hk : ∀ B' h', NetAt B' h' x (nDup s i).2 → Chg B B' h h' → K (.int .i64 (nDup s i).1) h') : CallH Try.prog id_net_Net_Dup [.pointer x, .int .i64 i] K h := by
  refine F_net_Net_Dup_ok (cNet_find hx ⟨_, _, _, _, rfl, fun he => ?_, fun he => ?_⟩)
  · simp only [nDup, he, if_true] at hk
    exact hk B h hx (Chg.refl _ _)
  · simp only [nDup, he, Bool.false_eq_true, if_false] at hk
    have h0 : (nFind s i).2 = 0 := by simpa using he
    exact cNet_put (p := (nFind s i).1) hx (hx.good.good _ (nFind_good hx.good h0).1) fun B' h' hx' hc => ⟨_, rfl, hk B' h' hx' hc⟩
theorem cNet_Dup' {i : Int} (hk : K (.int .i64 2) h) : CallH Try.prog id_net_Net_Dup [.pointer none, .int .i64 i] K h :=
  F_net_Net_Dup_ok (cNet_find' ⟨_, _, _, _, rfl, fun _ => hk, nofun⟩)
theorem cNet_Part {on : Bool} (hx : NetAt B h x s) (hk : ∀ B' h', NetAt B' h' x { s with parted := on } → Chg B B' h h' → K (.tuple #[]) h') : CallH Try.prog id_net_Net_Part [.pointer x, .bool on] K h := by
  refine F_net_Net_Part_ok (cNet_none hx ?_)
  obtain ⟨bn, a, n, c, Bw, rfl, rfl, hn, hb, hw, hg⟩ := hx
  refine ⟨false, rfl, fun _ => ⟨bn, 0, rfl, stL hb rfl rfl fun h1 hb1 hc1 => ?_⟩, nofun⟩
  exact hk (bn :: Bw) h1 ⟨bn, a, n, c, Bw, rfl, rfl, hn, hb1, hw.chg hc1 (notIn1 hn), ⟨hg.good, hg.c0, hg.c1⟩⟩ hc1.head
theorem cNet_Part' {on : Bool} (hk : K (.tuple #[]) h) : CallH Try.prog id_net_Net_Part [.pointer none, .bool on] K h :=
  F_net_Net_Part_ok (cNet_none' ⟨true, rfl, nofun, fun _ => hk⟩)
theorem cNet_Len (hx : NetAt B h x s) (hk : K (.int .i64 (s.way.length : Int)) h) : CallH Try.prog id_net_Net_Len [.pointer x] K h := by
  obtain ⟨bn, a, n, c, Bw, rfl, rfl, hn, hb, hw, hg⟩ := hx
  refine F_net_Net_Len_ok ⟨nofun, fun _ => ⟨bn, 0, rfl, a, n, c, rdsL hb rfl rfl, ?_⟩⟩
  rw [hw.1]; exact hk
theorem cNet_Len' (hk : K (.int .i64 0) h) : CallH Try.prog id_net_Net_Len [.pointer none] K h :=
  F_net_Net_Len_ok ⟨fun _ => hk, nofun⟩
theorem cNet_Parted (hx : NetAt B h x s) (hk : K (.bool s.parted) h) : CallH Try.prog id_net_Net_Parted [.pointer x] K h := by
  refine F_net_Net_Parted_ok (cNet_none hx ?_)
  obtain ⟨bn, a, n, c, Bw, rfl, rfl, hn, hb, hw, hg⟩ := hx
  exact ⟨false, rfl, bn, 0, fun _ => rfl, s.parted, fun _ => rdsL hb rfl rfl, hk⟩
theorem cNet_Parted' (hk : K (.bool false) h) : CallH Try.prog id_net_Net_Parted [.pointer none] K h :=
  F_net_Net_Parted_ok (cNet_none' ⟨true, rfl, 0, 0, nofun, false, nofun, hk⟩)


/-! ### Lose, Take, All -/
def pkZ : List Value := [.int .i64 (0 : Int), .int .i64 (0 : Int), .string (⟨#[]⟩ : ByteArray)]
theorem cDelete {T : TypeId} {a : Option Addr} {n c : Nat} {l : List Pk} {i j : Int} (hT : T = T_api_Packet) (x : Buf EncPk T B h a n c l) (hi : 0 ≤ i) (hij : i ≤ j) (hj : j ≤ (n : Int)) (hn : n ≤ 100000)
    (hk : ∀ h', Buf EncPk T B h' a (n - (j.toNat - i.toNat)) c (l.take i.toNat ++ l.drop j.toNat) → Chg B B h h' → K (.slice a (n - (j.toNat - i.toNat)) c) h') :
    CallH Try.prog id_slices_Delete_api_Packet_api_Packet [.slice a n c, .int .i64 i, .int .i64 j] K h := by
  subst hT
  exact F_slices_Delete_api_Packet_api_Packet_ok (DelF_ok (bt := 32) (z := pkZ) x rfl hi hij hj (by omega) hk)
theorem cClone {a : Option Addr} {c : Nat} {l : List Pk} (x : SR EncPk h a l) (hn : l.length ≤ 100000)
    (hk : ∀ a' c' B' h', Buf EncPk T_api_Packet B' h' a' l.length c' l → Chg [] B' h h' → K (.slice a' l.length c') h') :
    CallH Try.prog id_slices_Clone_api_Packet_api_Packet [.slice a l.length c] K h :=
  F_slices_Clone_api_Packet_api_Packet_ok (CloneF_ok (E := EncPk) (sC := c) (bt := 32) (z := pkZ) x rfl (by omega) hk)

def nLose (s : NS) (i : Int) : Int × NS := if (nFind s i).2 == 0 then (0, { s with way := s.way.eraseIdx i.toNat }) else ((nFind s i).2, s)
theorem cnt_erase {l : List Pk} {k : Int} {i : Nat} (hi : i < l.length) : cnt k (l.eraseIdx i) = cnt k l - (if l[i].f = k then 1 else 0) := by
  have h1 : l = l.take i ++ l[i] :: l.drop (i + 1) := by
    rw [← List.drop_eq_getElem_cons hi, List.take_append_drop]
  have h2 : l.eraseIdx i = l.take i ++ l.drop (i + 1) := List.eraseIdx_eq_take_drop_succ ..
  have h3 : cnt k l = cnt k (l.take i ++ l[i] :: l.drop (i + 1)) := by rw [← h1]
  rw [h2, h3]
  simp only [cnt, List.countP_append, List.countP_cons]
  by_cases e : l[i].f = k <;> simp [e] <;> omega
theorem cNet_Lose {i : Int} (hx : NetAt B h x s) (hk : ∀ B' h', NetAt B' h' x (nLose s i).2 → Chg B B' h h' → K (.int .i64 (nLose s i).1) h') : CallH Try.prog id_net_Net_Lose [.pointer x, .int .i64 i] K h := by
  refine F_net_Net_Lose_ok (cNet_find hx ⟨_, _, _, _, rfl, fun he => ?_, fun he => ?_⟩)
  · simp only [nLose, he, if_true] at hk
    have h0 : (nFind s i).2 = 0 := by simpa using he
    obtain ⟨hmem, hlt, hi⟩ := nFind_good hx.good h0
    have hgp := hx.good.good _ hmem
    have hfe : (nFind s i).1 = s.way[i.toNat] := by
      unfold nFind at h0 ⊢
      split at h0
      · cases h0
      · rename_i hi; rw [if_neg hi]; simp [List.getD, hlt]
    rw [hfe] at hgp ⊢
    obtain ⟨bn, a, n, c, Bw, rfl, rfl, hn, hb, hw, hg⟩ := hx
    have hlen := hg.len
    have hnl := hw.1
    have hwi : IntKind.wrap .i64 (i + 1) = i + 1 := by
      simp [IntKind.wrap, IntKind.bits, IntKind.signed]; omega
    refine ⟨bn, 0, rfl, a, n, c, rdsL hb rfl rfl, ?_⟩
    rw [hwi]
    refine cDelete rfl hw hi (by omega) (by omega) (by omega) ?_
    intro h1 hw1 hc1
    have h11 : (i + 1).toNat = i.toNat + 1 := by omega
    rw [h11, ← List.eraseIdx_eq_take_drop_succ, show i.toNat + 1 - i.toNat = 1 by omega] at hw1
    rw [h11, show i.toNat + 1 - i.toNat = 1 by omega]
    have hb1 := hc1.keep hb hn
    refine ⟨_, _, _, rfl, bn, 0, rfl, stL hb1 rfl rfl fun h2 hb2 hc2 => ?_⟩
    have hw2 := hw1.chg hc2 (notIn1 hn)
    have hp01 : 0 ≤ s.way[i.toNat].f ∧ s.way[i.toNat].f < ((2 : Nat) : Int) := by rcases hgp with ⟨e, _⟩ | ⟨e, _⟩ <;> rw [e] <;> decide
    have hr : h2.rds bn ((0 + 1) + s.way[i.toNat].f.toNat * 1) 1 = some [.int .i64 (cnt s.way[i.toNat].f s.way)] := by
      rcases hgp with ⟨e, _⟩ | ⟨e, _⟩ <;> rw [e] <;> exact rdsL hb2 rfl rfl
    refine ⟨bn, 0, rfl, hp01, _, hr, bn, 0, rfl, hp01, ?_⟩
    have hc64 : cnt s.way[i.toNat].f s.way ≤ 64 := by rcases hgp with ⟨e, _⟩ | ⟨e, _⟩ <;> rw [e] <;> first | exact hg.c0 | exact hg.c1
    have hnn := cnt_nonneg s.way[i.toNat].f s.way
    have hwrap : IntKind.wrap .i64 (cnt s.way[i.toNat].f s.way - 1) = cnt s.way[i.toNat].f s.way - 1 := by
      simp [IntKind.wrap, IntKind.bits, IntKind.signed]; omega
    have hst : ∀ Kx : PH → Prop, (∀ h', h' bn = some (.cells (netC a (n - 1) c ⟨s.way.eraseIdx i.toNat, s.parted⟩).toArray T_net_Net (0, 0)) → Chg [bn] [bn] h2 h' → Kx h') →
        stH h2 bn ((0 + 1) + s.way[i.toNat].f.toNat * 1) [.int .i64 (IntKind.wrap .i64 (cnt s.way[i.toNat].f s.way - 1))] Kx := by
      intro Kx hkx
      rw [hwrap]
      simp only [netC, cnt_erase hlt] at hkx
      rcases hgp with ⟨e, _⟩ | ⟨e, _⟩
      · rw [e] at hkx ⊢
        exact stL hb2 rfl rfl (by simpa [netC] using hkx)
      · rw [e] at hkx ⊢
        exact stL hb2 rfl rfl (by simpa [netC] using hkx)
    refine hst _ fun h3 hb3 hc3 => ?_
    rw [h0]
    refine hk (bn :: Bw) h3 ⟨bn, a, n - 1, c, Bw, rfl, rfl, hn, hb3, hw2.chg hc3 (notIn1 hn), ⟨fun q hq => hg.good q (List.mem_of_mem_eraseIdx hq), ?_, ?_⟩⟩ ((hc1.tail.trans hc2.head).trans hc3.head)
    · show cnt 0 (s.way.eraseIdx i.toNat) ≤ 64
      have := hg.c0; rw [cnt_erase hlt]; split <;> omega
    · show cnt 1 (s.way.eraseIdx i.toNat) ≤ 64
      have := hg.c1; rw [cnt_erase hlt]; split <;> omega
  · simp only [nLose, he, Bool.false_eq_true, if_false] at hk
    exact hk B h hx (Chg.refl _ _)
theorem cNet_Lose' {i : Int} (hk : K (.int .i64 2) h) : CallH Try.prog id_net_Net_Lose [.pointer none, .int .i64 i] K h :=
  F_net_Net_Lose_ok (cNet_find' ⟨_, _, _, _, rfl, nofun, fun _ => hk⟩)
def nTake (s : NS) (i : Int) : (Pk × Int) × NS := if (nFind s i).2 == 0 && s.parted then ((pk0, 14), s) else (((nFind s i).1, (nLose s i).1), (nLose s i).2)
theorem cNet_Take {i : Int} (hx : NetAt B h x s) (hk : ∀ B' h', NetAt B' h' x (nTake s i).2 → Chg B B' h h' → K (.tuple #[(nTake s i).1.1.v, .int .i64 (nTake s i).1.2]) h') : CallH Try.prog id_net_Net_Take [.pointer x, .int .i64 i] K h := by
  refine F_net_Net_Take_ok (cNet_find hx ⟨_, _, _, _, rfl, ?_⟩)
  have hx0 := hx
  obtain ⟨bn, a, n, c, Bw, rfl, rfl, hn, hb, hw, hg⟩ := hx
  refine ⟨bn, 0, fun _ => rfl, s.parted, fun _ => rdsL hb rfl rfl, fun he => ?_, fun he => ?_⟩
  · simp only [nTake, he, if_true] at hk
    exact hk _ h hx0 (Chg.refl _ _)
  · simp only [nTake, he, Bool.false_eq_true, if_false] at hk
    exact cNet_Lose hx0 fun B' h' hx' hc => ⟨_, rfl, hk B' h' hx' hc⟩
theorem cNet_Take' {i : Int} (hk : K (.tuple #[pk0.v, .int .i64 2]) h) : CallH Try.prog id_net_Net_Take [.pointer none, .int .i64 i] K h :=
  F_net_Net_Take_ok (cNet_find' ⟨_, _, _, _, rfl, 0, 0, nofun, false, nofun, nofun, fun _ => cNet_Lose' ⟨_, rfl, hk⟩⟩)
theorem cNet_All (hx : NetAt B h x s) (hk : ∀ a' c' B' h', Buf EncPk T_api_Packet B' h' a' s.way.length c' s.way → Chg [] B' h h' → K (.slice a' s.way.length c') h') : CallH Try.prog id_net_Net_All [.pointer x] K h := by
  obtain ⟨bn, a, n, c, Bw, rfl, rfl, hn, hb, hw, hg⟩ := hx
  have := hg.len
  refine F_net_Net_All_ok ⟨nofun, fun _ => ⟨bn, 0, rfl, a, n, c, rdsL hb rfl rfl, ?_⟩⟩
  rw [hw.1]
  exact cClone hw.sr (by omega) fun a' c' B' h' hx' hc' => ⟨_, _, _, rfl, hk a' c' B' h' hx' hc'⟩
theorem cNet_All' (hk : K (.slice none 0 0) h) : CallH Try.prog id_net_Net_All [.pointer none] K h :=
  F_net_Net_All_ok ⟨fun _ => hk, nofun⟩

end TL

namespace TL
open Go Go.Proofs
variable {B : List Nat} {h : PH} {x : Option Addr} {s s' : NS} {K : Value → PH → Prop} {r : Int}
theorem ePost {p : Pk} (e : nPost s p = (r, s')) (hx : NetAt B h x s) (hk : ∀ B' h', NetAt B' h' x s' → Chg B B' h h' → K (.int .i64 r) h') : CallH Try.prog id_net_Net_Post [.pointer x, p.v] K h :=
  cNet_Post hx (by rw [e]; exact hk)
theorem eDup {i : Int} (e : nDup s i = (r, s')) (hx : NetAt B h x s) (hk : ∀ B' h', NetAt B' h' x s' → Chg B B' h h' → K (.int .i64 r) h') : CallH Try.prog id_net_Net_Dup [.pointer x, .int .i64 i] K h :=
  cNet_Dup hx (by rw [e]; exact hk)
theorem eLose {i : Int} (e : nLose s i = (r, s')) (hx : NetAt B h x s) (hk : ∀ B' h', NetAt B' h' x s' → Chg B B' h h' → K (.int .i64 r) h') : CallH Try.prog id_net_Net_Lose [.pointer x, .int .i64 i] K h :=
  cNet_Lose hx (by rw [e]; exact hk)
theorem eTake {i : Int} {p : Pk} (e : nTake s i = ((p, r), s')) (hx : NetAt B h x s) (hk : ∀ B' h', NetAt B' h' x s' → Chg B B' h h' → K (.tuple #[p.v, .int .i64 r]) h') : CallH Try.prog id_net_Net_Take [.pointer x, .int .i64 i] K h :=
  cNet_Take hx (by rw [e]; exact hk)
theorem eLen {n : Int} (e : (s.way.length : Int) = n) (hx : NetAt B h x s) (hk : K (.int .i64 n) h) : CallH Try.prog id_net_Net_Len [.pointer x] K h :=
  cNet_Len hx (by rw [e]; exact hk)
def pA : Pk := ⟨0, 1, ⟨#[97]⟩⟩
def pB : Pk := ⟨1, 0, ⟨#[98]⟩⟩
def pC : Pk := ⟨0, 1, ⟨#[99]⟩⟩
theorem cAwake (hk : ∀ h', h.Sub h' → K (.bool true) h') : CallH Try.prog id_law08_awake [] K h := by
  refine F_law08_awake_ok (cNet_New fun x B1 h1 x1 c1 => ⟨_, rfl, ePost (p := pA) (r := 0) (s' := ⟨[pA], false⟩) (by kernel_rfl) x1 fun B2 h2 x2 c2 => ⟨_, rfl,
    eDup (r := 0) (s' := ⟨[pA, pA], false⟩) (by kernel_rfl) x2 fun B3 h3 x3 c3 => ⟨_, rfl, eTake (p := pA) (r := 0) (s' := ⟨[pA], false⟩) (by kernel_rfl) x3 fun B4 h4 x4 c4 => ⟨_, _, _, _, rfl,
    eTake (p := pA) (r := 0) (s' := ⟨[], false⟩) (by kernel_rfl) x4 fun B5 h5 x5 c5 => ⟨_, _, _, _, rfl, fun _ => eLen (n := 0) rfl x5 ⟨_, rfl, ?_⟩, fun e => absurd e (by decide)⟩⟩⟩⟩⟩)
  exact hk h5 ((((c1.trans c2).trans c3).trans c4).trans c5).sub0

structure Act where
  do_ : Int
  p : Pk
  i : Int
  times : Int
def EncAct : Enc Act where
  enc a := [.int .i64 a.do_, .int .i64 a.p.f, .int .i64 a.p.t, .string a.p.d, .int .i64 a.i, .int .u8 a.times]
  k := 6
  len _ := rfl
  one p v hv := by
    simp only [List.mem_cons, List.not_mem_nil, or_false] at hv
    rcases hv with rfl | rfl | rfl | rfl | rfl | rfl <;> rfl
  pos := by decide
variable {lA : Option Addr} {lC : Nat} {l : List Act}
theorem cGreat (hl : SR EncAct h lA l) (hk : ∀ b, (b = false → l.length ≤ 300) → K (.bool b) h) : CallH Try.prog id_law08_Great [.slice lA l.length lC] K h := by
  refine F_law08_Great_ok ?_
  unfold F_law08_Great
  refine LoopP.ind (fun (st : Int × Int × Unit) h' => h' = h ∧ 0 ≤ st.2.1 ∧ st.2.1 ≤ 301) (fun st _ => (301 - st.2.1).toNat) ?_ ⟨rfl, by decide, by decide⟩
  rintro ⟨n, i, u⟩ h' ⟨rfl, h0, h1⟩
  dsimp only at h0 h1 ⊢
  refine ⟨fun hc => ?_, fun _ => hk _ fun e => ?_⟩
  · simp only [Bool.and_eq_true, decide_eq_true_eq] at hc
    obtain ⟨hc1, hc2⟩ := hc
    obtain ⟨b, o, ha, hr⟩ := hl.get (i := i.toNat) (by omega)
    refine ⟨b, o, ⟨ha, h0, hc1⟩, _, hr _ 3 1 (by show _ = o + i.toNat * 6 + 3; omega) (by decide), ?_⟩
    rw [wrap64 (n := i + 1) (by omega) (by omega)]
    refine ⟨⟨rfl, ?_, ?_⟩, ?_⟩ <;> omega
  · simp only [Bool.or_eq_false_iff, decide_eq_false_iff_not] at e
    omega

theorem tmod80 (n : Int) : -79 ≤ n.tmod 80 ∧ n.tmod 80 ≤ 79 := by
  have := Int.tmod_lt_of_pos n (b := 80) (by decide)
  have h2 : -n.tmod 80 < 80 := by rw [← Int.neg_tmod]; exact Int.tmod_lt_of_pos (-n) (by decide)
  omega
theorem cAfter (hl : SR EncAct h lA l) (hn : l.length ≤ 300) (hk : ∀ B' h' x s, NetAt B' h' x s → Chg [] B' h h' → K (.pointer x) h') : CallH Try.prog id_law08_after [.slice lA l.length lC] K h := by
  refine F_law08_after_ok (cNet_New fun x B1 h1 x1 c1 => ⟨_, rfl, ?_⟩)
  refine LoopP.ind (fun (st : Int × Unit) h' => (0 ≤ st.1 ∧ st.1 ≤ l.length) ∧ ∃ B' s, NetAt B' h' x s ∧ Chg [] B' h h') (fun st _ => (l.length - st.1).toNat) ?_ ⟨⟨by decide, by show (0 : Int) ≤ _; omega⟩, B1, _, x1, c1⟩
  rintro ⟨i, u⟩ h2 ⟨⟨i0, i1⟩, B2, s2, x2, c2⟩
  dsimp only at i0 i1 ⊢
  refine ⟨fun hc => ?_, fun _ => hk _ _ _ _ x2 c2⟩
  have hc : i < l.length := by simpa using hc
  obtain ⟨b, o, ha, hr⟩ := (hl.sub c2.sub0).get (i := i.toNat) (by omega)
  have hwi : IntKind.wrap .i64 (i + 1) = i + 1 := wrap64 (by omega) (by omega)
  have next : ∀ B' h' s', NetAt B' h' x s' → Chg [] B' h h' → (((0 ≤ IntKind.wrap .i64 (i + 1) ∧ IntKind.wrap .i64 (i + 1) ≤ l.length) ∧ ∃ B' s, NetAt B' h' x s ∧ Chg [] B' h h') ∧ (l.length - IntKind.wrap .i64 (i + 1)).toNat < (l.length - i).toNat) := fun B' h' s' x' c' => by
    rw [hwi]
    exact ⟨⟨⟨by omega, by omega⟩, B', s', x', c'⟩, by omega⟩
  refine ⟨b, o, ⟨ha, i0, hc⟩, _, _, _, _, _, _, hr _ 0 6 rfl (by decide), fun _ => ?_, fun _ => ⟨fun _ => ?_, fun _ => ⟨fun _ => ?_, fun _ => ⟨fun _ => ?_, fun _ => ⟨fun _ => ?_, fun _ => ?_⟩⟩⟩⟩⟩
  · refine LoopP.ind (fun (st : Int × Unit) h' => (0 ≤ st.1 ∧ st.1 ≤ 80) ∧ ∃ B' s, NetAt B' h' x s ∧ Chg [] B' h h') (fun st _ => (80 - st.1).toNat) ?_ ⟨⟨by decide, by decide⟩, B2, s2, x2, c2⟩
    rintro ⟨k, u⟩ h3 ⟨⟨k0, k1⟩, B3, s3, x3, c3⟩
    dsimp only at k0 k1 ⊢
    refine ⟨fun hk' => ?_, fun _ => next _ _ _ x3 c3⟩
    refine cNet_Post (p := l[i.toNat].p) x3 fun B4 h4 x4 c4 => ⟨_, rfl, ?_⟩
    have hb := tmod80 l[i.toNat].times
    rw [wrap64 (n := l[i.toNat].times.tmod 80) (by omega) (by omega)] at hk'
    simp only [Bool.or_eq_true, beq_iff_eq, decide_eq_true_eq] at hk'
    have hk80 : k < 80 := by omega
    rw [wrap64 (n := k + 1) (by omega) (by omega)]
    exact ⟨⟨⟨by omega, by omega⟩, B4, _, x4, c3.trans c4⟩, by omega⟩
  · exact cNet_Take x2 fun B3 h3 x3 c3 => ⟨_, _, _, _, rfl, next _ _ _ x3 (c2.trans c3)⟩
  · exact cNet_Lose x2 fun B3 h3 x3 c3 => ⟨_, rfl, next _ _ _ x3 (c2.trans c3)⟩
  · exact cNet_Dup x2 fun B3 h3 x3 c3 => ⟨_, rfl, next _ _ _ x3 (c2.trans c3)⟩
  · exact cNet_Part x2 fun B3 h3 x3 c3 => next _ _ _ x3 (c2.trans c3)
  · exact next _ _ _ x2 c2

theorem NetAt.chg {C C' : List Nat} {h' : PH} (hx : NetAt B h x s) (c : Chg C C' h h') (d : Dj B C) : NetAt B h' x s := by
  obtain ⟨bn, a, n, cc, Bw, rfl, rfl, hn, hb, hw, hg⟩ := hx
  exact ⟨bn, a, n, cc, Bw, rfl, rfl, hn, c.keep hb (d bn List.mem_cons_self), hw.chg c fun b hb => d b (List.mem_cons_of_mem _ hb), hg⟩
theorem NetAt.has (hx : NetAt B h x s) : Has B h := by
  obtain ⟨bn, a, n, cc, Bw, rfl, rfl, hn, hb, hw, hg⟩ := hx
  intro b hm
  rcases List.mem_cons.1 hm with rfl | hm
  · exact ⟨_, hb⟩
  · exact hw.has b hm
theorem nFind_in {i : Nat} (hi : i < s.way.length) : nFind s (i : Int) = (s.way[i], 0) := by
  have h1 : ¬ ((i : Int) < 0) := by omega
  have h2 : ¬ ((i : Int) ≥ (s.way.length : Int)) := by omega
  simp [nFind, h1, h2, List.getD, hi]
theorem nFind_out {i : Int} (hi : i < 0 ∨ (s.way.length : Int) ≤ i) : nFind s i = (pk0, 4) := by
  unfold nFind
  rw [if_pos]
  simp; omega
theorem nTake_in {i : Nat} (hi : i < s.way.length) (hp : s.parted = false) : nTake s (i : Int) = ((s.way[i], 0), { s with way := s.way.eraseIdx i }) := by
  simp [nTake, nFind_in hi, hp, nLose]
theorem nTake_part {i : Nat} (hi : i < s.way.length) (hp : s.parted = true) : nTake s (i : Int) = ((pk0, 14), s) := by
  simp [nTake, nFind_in hi, hp]
theorem nTake_out {i : Int} (hi : i < 0 ∨ (s.way.length : Int) ≤ i) : nTake s i = ((pk0, 4), s) := by
  simp [nTake, nFind_out hi, nLose]
theorem nDup_out {i : Int} (hi : i < 0 ∨ (s.way.length : Int) ≤ i) : nDup s i = (4, s) := by
  simp [nDup, nFind_out hi]
theorem nLose_out {i : Int} (hi : i < 0 ∨ (s.way.length : Int) ≤ i) : nLose s i = (4, s) := by
  simp [nLose, nFind_out hi]

/-- behind awake, Great, after -/
theorem NetOrder_den (hl : SR EncAct h lA l) (hk : ∀ h', h.Sub h' → K (.bool true) h') : CallH Try.prog id_law08_NetOrder [.slice lA l.length lC] K h := by
  refine F_law08_NetOrder_ok (cAwake fun h1 s1 => ⟨true, rfl, nofun, fun _ => cGreat (hl.sub s1) fun b hg => ⟨b, rfl, fun _ => hk h1 s1, fun e => ?_⟩⟩)
  refine cAfter (hl.sub s1) (hg e) fun B2 h2 x s x2 c2 => ⟨_, rfl, cNet_Part x2 fun B3 h3 x3 c3 => cNet_All x3 fun aA aC BA h4 hb4 c4 => ⟨_, _, _, rfl, ?_⟩⟩
  have x4 := x3.chg c4 (Dj.nil _)
  have c14 := (c2.trans c3).onto c4.sub0
  have dA : Dj B3 BA := c4.dj (Dj.nil _) x3.has
  have hlen := x3.good.len
  refine LoopP.ind (fun (st : Int × Unit) h' => (0 ≤ st.1 ∧ st.1 ≤ s.way.length) ∧ ∃ B', NetAt B' h' x ⟨s.way.drop st.1.toNat, false⟩ ∧ Buf EncPk T_api_Packet BA h' aA s.way.length aC s.way ∧ Dj BA B' ∧ Chg [] B' h1 h') (fun st _ => (s.way.length - st.1).toNat) ?_
    ⟨⟨by decide, by show (0 : Int) ≤ _; omega⟩, B3, x4, hb4, dA.symm, c14⟩
  rintro ⟨i, u⟩ h5 ⟨⟨i0, i1⟩, B5, x5, hb5, d5, s5⟩
  dsimp only at i0 i1 hlen x5 ⊢
  refine ⟨fun hc => ?_, fun hc => ?_⟩
  · have hc : i < s.way.length := by simpa using hc
    have hin : (0 : Nat) < (⟨s.way.drop i.toNat, false⟩ : NS).way.length := by simp; omega
    refine eTake (nTake_in hin rfl) x5 fun B6 h6 x6 c6 => ⟨_, _, _, _, rfl, ?_⟩
    have hb6 := hb5.chg c6 d5
    obtain ⟨b, o, ha, hr⟩ := hb6.sr.get (i := i.toNat) (by omega)
    refine ⟨b, o, fun _ => ⟨ha, i0, hc⟩, _, _, _, fun _ => hr _ 0 3 rfl (by decide), fun _ => ?_, fun e => ?_⟩
    · refine eLen rfl x6 ⟨_, rfl, fun e => ?_, fun _ => ?_⟩
      · rw [wrap64 (n := (s.way.length : Int) - i) (by omega) (by omega), wrap64 (by omega) (by omega)] at e
        simp at e
        omega
      · rw [wrap64 (n := i + 1) (by omega) (by omega)]
        refine ⟨⟨⟨by omega, by omega⟩, B6, ?_, hb6, c6.dj d5 hb5.has, s5.trans c6⟩, by omega⟩
        rw [show (i + 1).toNat = i.toNat + 1 by omega]
        simpa using x6
    · simp [strEq_self] at e
  · have hc : i = s.way.length := by simp at hc; omega
    have hout : ∀ n : Int, 0 ≤ n → n < 0 ∨ (((⟨s.way.drop i.toNat, false⟩ : NS).way.length : Nat) : Int) ≤ n := fun n hn => by simp; omega
    refine eTake (nTake_out (hout 0 (by decide))) x5 fun B6 h6 x6 c6 => ⟨_, _, _, _, rfl, fun _ => eLen (n := 0) (by simp; omega) x6 ⟨_, rfl, fun _ => ?_, nofun⟩, nofun⟩
    refine eDup (nDup_out (hout 0 (by decide))) x6 fun B7 h7 x7 c7 => ⟨_, rfl, fun _ => eLose (nLose_out (hout 0 (by decide))) x7 fun B8 h8 x8 c8 => ⟨_, rfl, ?_⟩, nofun⟩
    exact hk h8 fun b o e => (((s5.trans c6).trans c7).trans c8).sub0 b o (s1 b o e)
end TL

namespace TL
open Go Go.Proofs
variable {B : List Nat} {h : PH} {x : Option Addr} {s s' : NS} {K : Value → PH → Prop} {r : Int} {lA : Option Addr} {lC : Nat} {l : List Act}

theorem NetParted_den (hl : SR EncAct h lA l) (hk : ∀ h', h.Sub h' → K (.bool true) h') : CallH Try.prog id_law08_NetParted [.slice lA l.length lC] K h := by
  refine F_law08_NetParted_ok (cAwake fun h1 s1 => ⟨true, rfl, nofun, fun _ => cGreat (hl.sub s1) fun b hg => ⟨b, rfl, fun _ => hk h1 s1, fun e => ?_⟩⟩)
  refine cAfter (hl.sub s1) (hg e) fun B2 h2 x s x2 c2 => ⟨_, rfl, cNet_All x2 fun aA aC BA h3 hb3 c3 => ⟨_, _, _, rfl, ?_⟩⟩
  have x3 := x2.chg c3 (Dj.nil _)
  have d3 : Dj BA B2 := (c3.dj (Dj.nil _) x2.has).symm
  have hlen := x2.good.len
  refine cNet_Part x3 fun B4 h4 x4 c4 => ?_
  have hb4 := hb3.chg c4 d3
  have d4 := c4.dj d3 hb3.has
  have c14 := (c2.onto c3.sub0).trans c4
  refine LoopP.ind (fun (st : Int × Unit) h' => (0 ≤ st.1 ∧ st.1 ≤ s.way.length) ∧ ∃ B', NetAt B' h' x ⟨s.way, true⟩ ∧ Buf EncPk T_api_Packet BA h' aA s.way.length aC s.way ∧ Dj BA B' ∧ Chg [] B' h1 h') (fun st _ => (s.way.length - st.1).toNat) ?_
    ⟨⟨by decide, by show (0 : Int) ≤ _; omega⟩, B4, x4, hb4, d4, c14⟩
  rintro ⟨i, u⟩ h5 ⟨⟨i0, i1⟩, B5, x5, hb5, d5, s5⟩
  dsimp only at i0 i1 hlen x5 ⊢
  refine ⟨fun hc => ?_, fun hc => ?_⟩
  · have hc : i < s.way.length := by simpa using hc
    have hin : i.toNat < (⟨s.way, true⟩ : NS).way.length := by show i.toNat < s.way.length; omega
    have et := nTake_part hin rfl
    rw [show ((i.toNat : Nat) : Int) = i by omega] at et
    refine eTake et x5 fun B6 h6 x6 c6 => ⟨_, _, _, _, rfl, fun _ => ⟨nofun, fun _ => ?_⟩, nofun⟩
    rw [wrap64 (n := i + 1) (by omega) (by omega)]
    exact ⟨⟨⟨by omega, by omega⟩, B6, x6, hb5.chg c6 d5, c6.dj d5 hb5.has, s5.trans c6⟩, by omega⟩
  · have hout : ((s.way.length : Nat) : Int) < 0 ∨ (((⟨s.way, true⟩ : NS).way.length : Nat) : Int) ≤ ((s.way.length : Nat) : Int) := .inr (Int.le_refl _)
    refine eTake (nTake_out hout) x5 fun B6 h6 x6 c6 => ⟨_, _, _, _, rfl, cNet_All x6 fun nA nC BN h7 hb7 c7 => ⟨_, _, _, rfl, ?_⟩⟩
    have hb6 := hb5.chg c6 d5
    have d6 := c6.dj d5 hb5.has
    have hbA7 := hb6.chg c7 (Dj.nil _)
    have x7 := x6.chg c7 (Dj.nil _)
    have dN : Dj BN B6 := (c7.dj (Dj.nil _) x6.has).symm
    refine cNet_Part x7 fun B8 h8 x8 c8 => ⟨fun _ => ?_, fun e => ?_⟩
    · refine cNet_Parted x8 ⟨_, rfl, nofun, fun _ => ?_⟩
      have hb8 := hb7.chg c8 dN
      have hbA8 := hbA7.chg c8 d6
      have s8 := ((s5.trans c6).onto c7.sub0).trans c8
      refine LoopP.ind (fun (st : Int × Unit) h' => h' = h8 ∧ 0 ≤ st.1) (fun st _ => (s.way.length - st.1).toNat) ?_ ⟨rfl, by decide⟩
      rintro ⟨j, u⟩ h9 ⟨rfl, j0⟩
      dsimp only at j0 hb8 ⊢
      refine ⟨fun hc => ?_, fun _ => hk _ fun b o e => s8.sub0 b o (s1 b o e)⟩
      have hc : j < s.way.length := by simpa using hc
      obtain ⟨b, o, ha, hr⟩ := hb8.sr.get (i := j.toNat) (by omega)
      obtain ⟨b', o', ha', hr'⟩ := hbA8.sr.get (i := j.toNat) (by omega)
      refine ⟨b, o, ⟨ha, j0, hc⟩, _, _, _, hr _ 0 3 rfl (by decide), b', o', ⟨ha', j0, hc⟩, _, _, _, hr' _ 0 3 rfl (by decide), fun e => ?_, fun _ => ?_⟩
      · simp [strEq_self] at e
      · rw [wrap64 (n := j + 1) (by omega) (by omega)]
        exact ⟨⟨rfl, by omega⟩, by omega⟩
    · simp at e


theorem nPost_room {p : Pk} (hp : p.good) (hc : cnt p.f s.way < 64) : nPost s p = (0, { s with way := s.way ++ [p] }) := by
  have hb : nBad p = false := by
    rcases hp with ⟨e, e'⟩ | ⟨e, e'⟩ <;> simp [nBad, e, e'] <;> decide
  simp [nPost, hb, nPut, Int.not_le.2 hc]
theorem nPost_full {p : Pk} (hp : p.good) (hc : 64 ≤ cnt p.f s.way) : nPost s p = (6, s) := by
  have hb : nBad p = false := by
    rcases hp with ⟨e, e'⟩ | ⟨e, e'⟩ <;> simp [nBad, e, e'] <;> decide
  simp [nPost, hb, nPut, hc]
theorem cnt_take {k : Int} {l : List Pk} {i : Nat} (hi : i < l.length) : cnt k (l.take (i + 1)) = cnt k (l.take i) + (if l[i].f = k then 1 else 0) := by
  rw [List.take_succ_eq_append_getElem hi, cnt_app]
theorem cnt_le (k : Int) (l : List Pk) : cnt k l ≤ l.length := by
  unfold cnt; have := List.countP_le_length (p := fun p : Pk => p.f == k) (l := l); omega

theorem NetRoom_den {fv : Int} (h0 : 0 ≤ fv) (hl : SR EncAct h lA l) (hk : ∀ h', h.Sub h' → K (.bool true) h') : CallH Try.prog id_law08_NetRoom [.slice lA l.length lC, .int .u8 fv] K h := by
  refine F_law08_NetRoom_ok (cAwake fun h1 s1 => ⟨true, rfl, nofun, fun _ => cGreat (hl.sub s1) fun b hg => ⟨b, rfl, fun _ => hk h1 s1, fun e => ?_⟩⟩)
  refine cAfter (hl.sub s1) (hg e) fun B2 h2 x s x2 c2 => ⟨_, rfl, cNet_Part x2 fun B3 h3 x3 c3 => cNet_All x3 fun aA aC BA h4 hb4 c4 => ⟨_, _, _, rfl, ?_⟩⟩
  have x4 := x3.chg c4 (Dj.nil _)
  have c14 := (c2.trans c3).onto c4.sub0
  have hlen := x3.good.len
  have hf : fv.tmod 2 = 0 ∨ fv.tmod 2 = 1 := by rw [Int.tmod_eq_emod_of_nonneg h0]; omega
  rw [wrap64 (n := fv.tmod 2) (by omega) (by omega), wrap64 (n := 1 - fv.tmod 2) (by omega) (by omega)]
  generalize hF : fv.tmod 2 = f at hf
  let p : Pk := ⟨f, 1 - f, ⟨#[109, 111, 114, 101]⟩⟩
  have hp : p.good := by rcases hf with e | e <;> subst e <;> simp [p, Pk.good]
  have hc0 : cnt f s.way ≤ 64 := by rcases hf with e | e <;> subst e; exact x3.good.c0; exact x3.good.c1
  have hcn := cnt_nonneg f s.way
  refine LoopP.ind (fun (st : Int × Int × Unit) h' => h' = h4 ∧ (0 ≤ st.2.1 ∧ st.2.1 ≤ s.way.length) ∧ st.1 = cnt f (s.way.take st.2.1.toNat)) (fun st _ => (s.way.length - st.2.1).toNat) ?_ ⟨rfl, ⟨by decide, by show (0 : Int) ≤ _; omega⟩, by simp [cnt]⟩
  rintro ⟨n, i, u⟩ h5 ⟨rfl, ⟨i0, i1⟩, hn⟩
  dsimp only at i0 i1 hn hlen hb4 x4 ⊢
  refine ⟨fun hc => ?_, fun hc => ?_⟩
  · have hc : i < s.way.length := by simpa using hc
    have hit : i.toNat < s.way.length := by omega
    obtain ⟨b, o, ha, hr⟩ := hb4.sr.get hit
    have hct := cnt_take (k := f) hit
    have hnn := cnt_nonneg f (s.way.take i.toNat)
    have hnl := cnt_le f (s.way.take i.toNat)
    have htl : (s.way.take i.toNat).length ≤ s.way.length := by simp; omega
    rw [wrap64 (n := i + 1) (by omega) (by omega)]
    refine ⟨b, o, ⟨ha, i0, hc⟩, _, hr _ 0 1 rfl (by decide), fun e => ?_, fun e => ?_⟩
    · have e : s.way[i.toNat].f = f := by simpa using e
      rw [if_pos e] at hct
      rw [wrap64 (n := n + 1) (by omega) (by omega)]
      refine ⟨⟨rfl, ⟨by omega, by omega⟩, ?_⟩, by omega⟩
      rw [show (i + 1).toNat = i.toNat + 1 by omega, hct, hn]
    · have e : ¬ s.way[i.toNat].f = f := by simpa using e
      rw [if_neg e] at hct
      refine ⟨⟨rfl, ⟨by omega, by omega⟩, ?_⟩, by omega⟩
      rw [show (i + 1).toNat = i.toNat + 1 by omega, hct, hn]; omega
  · have hc : i = s.way.length := by simp at hc; omega
    have hn : n = cnt f s.way := by rw [hn, hc]; simp
    subst hn
    clear hc i0 i1
    refine LoopP.ind (fun (st : Int × Unit) h' => (cnt f s.way ≤ st.1 ∧ st.1 ≤ 64) ∧ ∃ B' w, NetAt B' h' x ⟨w, false⟩ ∧ Chg [] B' h1 h' ∧ cnt f w = st.1 ∧ (w.length : Int) = s.way.length + (st.1 - cnt f s.way) ∧ (cnt f s.way < st.1 → ∃ w0, w = w0 ++ [p])) (fun st _ => (64 - st.1).toNat) ?_
      ⟨⟨Int.le_refl _, hc0⟩, B3, s.way, x4, c14, rfl, by show (s.way.length : Int) = _ + (cnt f s.way - cnt f s.way); omega, fun h => by exact absurd h (Int.lt_irrefl _)⟩
    rintro ⟨k, u⟩ h6 ⟨⟨k0, k1⟩, B6, w, x6, c6, hw1, hw2, hw3⟩
    dsimp only at k0 k1 hw1 hw2 hw3 x6 ⊢
    refine ⟨fun hc => ?_, fun hc => ?_⟩
    · have hc : k < 64 := by simpa using hc
      refine ePost (p := p) (nPost_room hp (by show cnt f w < 64; omega)) x6 fun B7 h7 x7 c7 => ⟨_, rfl, nofun, fun _ => ?_⟩
      rw [wrap64 (n := k + 1) (by omega) (by omega)]
      refine ⟨⟨⟨by omega, by omega⟩, B7, w ++ [p], x7, c6.trans c7, ?_, ?_, fun _ => ⟨w, rfl⟩⟩, by omega⟩
      · rw [cnt_app, if_pos rfl]; omega
      · simp; omega
    · have hc : k = 64 := by simp at hc; omega
      subst hc
      have hfull : 64 ≤ cnt p.f (⟨w, false⟩ : NS).way := by show 64 ≤ cnt f w; omega
      refine ePost (p := p) (nPost_full hp hfull) x6 fun B7 h7 x7 c7 => ⟨_, rfl, fun _ => ePost (p := p) (nPost_full hp hfull) x7 fun B8 h8 x8 c8 => ⟨_, rfl, fun _ => eLen rfl x8 ⟨_, rfl, fun e => ?_, fun _ => ⟨fun _ => ?_, fun e64 => ?_⟩⟩, nofun⟩, nofun⟩
      · rw [wrap64 (n := (s.way.length : Int) + 64) (by omega) (by omega), wrap64 (by omega) (by omega)] at e
        simp at e
        omega
      · exact hk _ fun b o e => ((c6.trans c7).trans c8).sub0 b o (s1 b o e)
      · have hlt : cnt f s.way < 64 := by
          have : cnt f s.way ≠ 64 := by simpa using e64
          omega
        obtain ⟨w0, rfl⟩ := hw3 hlt
        have hin : w0.length < (⟨w0 ++ [p], false⟩ : NS).way.length := by simp
        have et := nTake_in hin rfl
        simp only [List.getElem_append_right (Nat.le_refl _), Nat.sub_self, List.getElem_cons_zero, List.eraseIdx_append_of_length_le (Nat.le_refl _), List.eraseIdx_cons_zero, List.append_nil] at et
        rw [cnt_app, if_pos rfl] at hw1
        simp only [List.length_append, List.length_cons, List.length_nil] at hw2
        refine eLen (n := (w0.length : Int) + 1) (by simp) x8 ⟨_, rfl, ?_⟩
        rw [wrap64 (n := (w0.length : Int) + 1 - 1) (by omega) (by omega), show (w0.length : Int) + 1 - 1 = w0.length by omega]
        refine eTake et x8 fun B9 h9 x9 c9 => ⟨_, _, _, _, rfl, fun _ => ?_, fun e => ?_⟩
        · refine ePost (p := p) (nPost_room hp (by show cnt f w0 < 64; omega)) x9 fun B10 h10 x10 c10 => ⟨_, rfl, fun _ => ?_, nofun⟩
          refine ePost (p := p) (nPost_full hp (by show 64 ≤ cnt f (w0 ++ [p]); rw [cnt_app, if_pos rfl]; omega)) x10 fun B11 h11 x11 c11 => ⟨_, rfl, ?_⟩
          exact hk _ fun b o e => (((((c6.trans c7).trans c8).trans c9).trans c10).trans c11).sub0 b o (s1 b o e)
        · simp [p, strEq_self] at e


def pE : Pk := ⟨0, 1, ⟨#[]⟩⟩
def pF : Pk := ⟨1, 0, ⟨#[]⟩⟩
theorem cnt_rep (n : Nat) : cnt 0 (List.replicate n pE) = n := by
  unfold cnt
  rw [List.countP_replicate]
  simp [pE]
theorem NetKnown_den (hk : ∀ h', h.Sub h' → K (.bool true) h') : CallH Try.prog id_law08_NetKnown [] K h := by
  refine F_law08_NetKnown_ok (cNet_New fun x B1 h1 x1 c1 => ⟨_, rfl, ePost (p := pA) (r := 0) (s' := ⟨[pA], false⟩) (by kernel_rfl) x1 fun B2 h2 x2 c2 => ⟨_, rfl,
    ePost (p := pB) (r := 0) (s' := ⟨[pA, pB], false⟩) (by kernel_rfl) x2 fun B3 h3 x3 c3 => ⟨_, rfl, eDup (r := 0) (s' := ⟨[pA, pB, pA], false⟩) (by kernel_rfl) x3 fun B4 h4 x4 c4 => ⟨_, rfl,
    eTake (p := pA) (r := 0) (s' := ⟨[pB, pA], false⟩) (by kernel_rfl) x4 fun B5 h5 x5 c5 => ⟨_, _, _, _, rfl, eLen (n := 2) rfl x5 ⟨_, rfl,
    eLose (r := 0) (s' := ⟨[pA], false⟩) (by kernel_rfl) x5 fun B6 h6 x6 c6 => ⟨_, rfl, eTake (p := pA) (r := 0) (s' := ⟨[], false⟩) (by kernel_rfl) x6 fun B7 h7 x7 c7 => ⟨_, _, _, _, rfl,
    eTake (p := pk0) (r := 4) (s' := ⟨[], false⟩) (by kernel_rfl) x7 fun B8 h8 x8 c8 => ⟨_, _, _, _, rfl, fun e => absurd e (by decide), fun _ => ?_⟩⟩⟩⟩⟩⟩⟩⟩⟩)
  refine ePost (p := ⟨2, 0, ⟨#[]⟩⟩) (r := 1) (s' := ⟨[], false⟩) (by kernel_rfl) x8 fun B9 h9 x9 c9 => ⟨_, rfl, fun _ =>
    ePost (p := ⟨0, 0, ⟨#[]⟩⟩) (r := 1) (s' := ⟨[], false⟩) (by kernel_rfl) x9 fun B10 h10 x10 c10 => ⟨_, rfl, fun _ =>
    ePost (p := ⟨0, -1, ⟨#[]⟩⟩) (r := 1) (s' := ⟨[], false⟩) (by kernel_rfl) x10 fun B11 h11 x11 c11 => ⟨_, rfl, fun _ =>
    ePost (p := pC) (r := 0) (s' := ⟨[pC], false⟩) (by kernel_rfl) x11 fun B12 h12 x12 c12 => ⟨_, rfl, nofun, fun _ => ?_⟩, nofun⟩, nofun⟩, nofun⟩
  refine cNet_Part x12 fun B13 h13 x13 c13 => eTake (p := pk0) (r := 14) (s' := ⟨[pC], true⟩) (by kernel_rfl) x13 fun B14 h14 x14 c14 => ⟨_, _, _, _, rfl,
    eTake (p := pk0) (r := 4) (s' := ⟨[pC], true⟩) (by kernel_rfl) x14 fun B15 h15 x15 c15 => ⟨_, _, _, _, rfl, cNet_Part x15 fun B16 h16 x16 c16 =>
    eTake (p := pC) (r := 0) (s' := ⟨[], false⟩) (by kernel_rfl) x16 fun B17 h17 x17 c17 => ⟨_, _, _, _, rfl, cNet_New fun y C1 g1 y1 d1 => ⟨_, rfl, ?_⟩⟩⟩⟩
  have cx := ((((((((((((((((c1.trans c2).trans c3).trans c4).trans c5).trans c6).trans c7).trans c8).trans c9).trans c10).trans c11).trans c12).trans c13).trans c14).trans c15).trans c16).trans c17).sub0
  refine LoopP.ind (fun (st : Int × Unit) h' => (0 ≤ st.1 ∧ st.1 ≤ 64) ∧ ∃ C', NetAt C' h' y ⟨List.replicate st.1.toNat pE, false⟩ ∧ Chg [] C' h17 h') (fun st _ => (64 - st.1).toNat) ?_ ⟨⟨by decide, by decide⟩, C1, y1, d1⟩
  rintro ⟨i, u⟩ g2 ⟨⟨i0, i1⟩, C2, y2, d2⟩
  dsimp only at i0 i1 y2 ⊢
  refine ⟨fun hc => ?_, fun hc => ?_⟩
  · have hc : i < 64 := by simpa using hc
    refine ePost (p := pE) (nPost_room (.inl ⟨rfl, rfl⟩) (by show cnt 0 (List.replicate i.toNat pE) < 64; rw [cnt_rep]; omega)) y2 fun C3 g3 y3 d3 => ⟨_, rfl, nofun, fun _ => ?_⟩
    rw [wrap64 (n := i + 1) (by omega) (by omega)]
    refine ⟨⟨⟨by omega, by omega⟩, C3, ?_, d2.trans d3⟩, by omega⟩
    rw [show (i + 1).toNat = i.toNat + 1 by omega, List.replicate_succ']
    exact y3
  · have hc : i = 64 := by simp at hc; omega
    subst hc
    refine cAwake fun g3 t3 => ⟨true, rfl, fun _ => ?_, fun e => absurd e (by decide)⟩
    have y3 : NetAt C2 g3 y ⟨List.replicate 64 pE, false⟩ := y2.chg (C := []) (C' := []) ⟨fun b o _ e => t3 b o e, by simp⟩ (Dj.nil _)
    refine ePost (p := pE) (r := 6) (s' := ⟨List.replicate 64 pE, false⟩) (by kernel_rfl) y3 fun C4 g4 y4 d4 => ⟨_, rfl, fun _ =>
      eDup (r := 6) (s' := ⟨List.replicate 64 pE, false⟩) (by kernel_rfl) y4 fun C5 g5 y5 d5 => ⟨_, rfl, fun _ =>
      ePost (p := pF) (r := 0) (s' := ⟨List.replicate 64 pE ++ [pF], false⟩) (by kernel_rfl) y5 fun C6 g6 y6 d6 => ⟨_, rfl, fun _ =>
      eLose (r := 0) (s' := ⟨List.replicate 63 pE ++ [pF], false⟩) (by kernel_rfl) y6 fun C7 g7 y7 d7 => ⟨_, rfl, fun _ =>
      eDup (r := 0) (s' := ⟨List.replicate 63 pE ++ [pF, pE], false⟩) (by kernel_rfl) y7 fun C8 g8 y8 d8 => ⟨_, rfl, ?_⟩, nofun⟩, nofun⟩, nofun⟩, nofun⟩
    exact hk g8 fun b o e => (((((d2.onto t3).trans d4).trans d5).trans d6).trans d7 |>.trans d8).sub0 b o (cx b o e)

end TL
