/-
  NetPlays and NetCounts on the functions' texts. No condition.
-/
import Derived.Test.YtlgcgalfaljpeaaNet
namespace TL
open Go Go.Proofs
variable {B : List Nat} {h : PH} {x w : Option Addr} {s t : NS} {K : Value → PH → Prop} {r : Int} {lA : Option Addr} {lC : Nat} {l : List Act}

def RefAt (B : List Nat) (h : PH) (x : Option Addr) (s : NS) : Prop :=
  ∃ bn a n c Bw, x = some ⟨bn, 0, none⟩ ∧ B = bn :: Bw ∧ bn ∉ Bw ∧ h bn = some (.cells [.slice a n c, .bool s.parted].toArray T_ref08_Net (0, 0)) ∧ Buf EncPk T_api_Packet Bw h a n c s.way ∧ s.Good
theorem RefAt.chg {C C' : List Nat} {h' : PH} (hx : RefAt B h x s) (c : Chg C C' h h') (d : Dj B C) : RefAt B h' x s := by
  obtain ⟨bn, a, n, cc, Bw, rfl, rfl, hn, hb, hw, hg⟩ := hx
  exact ⟨bn, a, n, cc, Bw, rfl, rfl, hn, c.keep hb (d bn List.mem_cons_self), hw.chg c fun b hb => d b (List.mem_cons_of_mem _ hb), hg⟩
theorem RefAt.has (hx : RefAt B h x s) : Has B h := by
  obtain ⟨bn, a, n, cc, Bw, rfl, rfl, hn, hb, hw, hg⟩ := hx
  intro b hm
  rcases List.mem_cons.1 hm with rfl | hm
  · exact ⟨_, hb⟩
  · exact hw.has b hm
theorem NS.Good.put {p : Pk} (hg : s.Good) (hp : p.good) : (nPut s p).2.Good := by
  unfold nPut
  split
  · exact hg
  · rename_i hlt
    refine ⟨fun q hq => ?_, ?_, ?_⟩
    · rcases List.mem_append.1 hq with hq | hq
      · exact hg.good q hq
      · simp at hq; subst hq; exact hp
    · show cnt 0 (s.way ++ [p]) ≤ 64
      have := hg.c0
      rw [cnt_app]; split
      · rename_i e; rw [e] at hlt; omega
      · omega
    · show cnt 1 (s.way ++ [p]) ≤ 64
      have := hg.c1
      rw [cnt_app]; split
      · rename_i e; rw [e] at hlt; omega
      · omega
theorem NS.Good.erase {i : Nat} (hg : s.Good) : (⟨s.way.eraseIdx i, s.parted⟩ : NS).Good := by
  by_cases hlt : i < s.way.length
  · refine ⟨fun q hq => hg.good q (List.mem_of_mem_eraseIdx hq), ?_, ?_⟩
    · show cnt 0 (s.way.eraseIdx i) ≤ 64
      have := hg.c0; rw [cnt_erase hlt]; split <;> omega
    · show cnt 1 (s.way.eraseIdx i) ≤ 64
      have := hg.c1; rw [cnt_erase hlt]; split <;> omega
  · rw [List.eraseIdx_of_length_le (by omega)]; exact hg
theorem cR_put {p : Pk} (hx : RefAt B h x s) (hp : p.good) (hk : ∀ B' h', RefAt B' h' x (nPut s p).2 → Chg B B' h h' → K (.int .i64 (nPut s p).1) h') :
    CallH Try.prog id_ref08_Net_put [.pointer x, p.v] K h := by
  have hx0 := hx
  obtain ⟨bn, a, n, c, Bw, rfl, rfl, hn, hb, hw, hg⟩ := hx
  have hlen := hg.len
  have hnl := hw.1
  refine F_ref08_Net_put_ok (LoopP.ind (fun (st : Int × Int × Unit) h' => h' = h ∧ (0 ≤ st.2.1 ∧ st.2.1 ≤ s.way.length) ∧ st.1 = cnt p.f (s.way.take st.2.1.toNat)) (fun st _ => (s.way.length - st.2.1).toNat) ?_ ⟨rfl, ⟨by decide, by show (0 : Int) ≤ _; omega⟩, by simp [cnt]⟩)
  rintro ⟨k, i, u⟩ h5 ⟨rfl, ⟨i0, i1⟩, hk1⟩
  dsimp only at i0 i1 hk1 hlen hb hw ⊢
  refine ⟨bn, 0, rfl, a, n, c, rdsL hb rfl rfl, fun hc => ?_, fun hc => ?_⟩
  · have hc : i < s.way.length := by rw [hnl] at hc; simpa using hc
    have hit : i.toNat < s.way.length := by omega
    obtain ⟨b, o, ha, hr⟩ := hw.sr.get hit
    have hct := cnt_take (k := p.f) hit
    have hnn := cnt_nonneg p.f (s.way.take i.toNat)
    have hnl2 := cnt_le p.f (s.way.take i.toNat)
    have htl : (s.way.take i.toNat).length ≤ s.way.length := by simp; omega
    rw [wrap64 (n := i + 1) (by omega) (by omega)]
    refine ⟨bn, 0, rfl, a, n, c, rdsL hb rfl rfl, b, o, ⟨ha, i0, by omega⟩, _, hr _ 0 1 rfl (by decide), fun e => ?_, fun e => ?_⟩
    · have e : s.way[i.toNat].f = p.f := by simpa using e
      rw [if_pos e] at hct
      rw [wrap64 (n := k + 1) (by omega) (by omega)]
      refine ⟨⟨rfl, ⟨by omega, by omega⟩, ?_⟩, by omega⟩
      rw [show (i + 1).toNat = i.toNat + 1 by omega, hct, hk1]
    · have e : ¬ s.way[i.toNat].f = p.f := by simpa using e
      rw [if_neg e] at hct
      refine ⟨⟨rfl, ⟨by omega, by omega⟩, ?_⟩, by omega⟩
      rw [show (i + 1).toNat = i.toNat + 1 by omega, hct, hk1]; omega
  · have hc : i = s.way.length := by rw [hnl] at hc; simp at hc; omega
    have hk1 : k = cnt p.f s.way := by rw [hk1, hc]; simp
    subst hk1
    refine ⟨fun hf => ?_, fun hf => ⟨bn, 0, rfl, a, n, c, rdsL hb rfl rfl, ?_⟩⟩
    · have : cnt p.f s.way ≥ 64 := by simpa using hf
      simp only [nPut, if_pos this] at hk
      exact hk _ _ hx0 (Chg.refl _ _)
    · have hlt : ¬ cnt p.f s.way ≥ 64 := by simpa using hf
      have hg2 := hg.put hp
      simp only [nPut, if_neg hlt] at hk hg2
      refine hw.append (new := [p]) rfl rfl rfl (by omega) ?_
      intro a' c' B' h2 hw2 hc2 _
      have hb2 := hc2.keep hb hn
      have hn2 := hc2.fresh hb hn
      refine ⟨bn, 0, rfl, stL hb2 rfl rfl fun h3 hb3 hc3 => ?_⟩
      exact hk (bn :: B') _ ⟨bn, a', n + 1, c', B', rfl, rfl, hn2, hb3, hw2.chg hc3 (notIn1 hn2), hg2⟩ (hc2.tail.trans hc3.head)
theorem good_bad {p : Pk} (hp : p.good) : nBad p = false := by
  rcases hp with ⟨e, e'⟩ | ⟨e, e'⟩ <;> simp [nBad, e, e'] <;> decide
theorem cR_Post {p : Pk} (hx : RefAt B h x s) (hk : ∀ B' h', RefAt B' h' x (nPost s p).2 → Chg B B' h h' → K (.int .i64 (nPost s p).1) h') : CallH Try.prog id_ref08_Net_Post [.pointer x, p.v] K h := by
  refine F_ref08_Net_Post_ok ⟨fun e => ⟨fun f => ?_, fun f => ?_⟩, fun e => ?_⟩
  · have hb : nBad p = true := by
      cases hb : nBad p with
      | true => rfl
      | false =>
        have := nBad_good hb
        simp only [Bool.and_eq_false_iff, beq_eq_false_iff_ne, Bool.not_eq_true'] at e f
        rcases this with ⟨h1, h2⟩ | ⟨h1, h2⟩
        · rcases e with e | e <;> exact absurd (by assumption) e
        · rcases f with f | f <;> exact absurd (by assumption) f
    simp only [nPost, hb, if_true] at hk
    exact hk B h hx (Chg.refl _ _)
  · have hp : p.good := by simp at f; exact .inr f
    simp only [nPost, good_bad hp, Bool.false_eq_true, if_false] at hk
    exact cR_put hx hp fun B' h' hx' hc => ⟨_, rfl, hk B' h' hx' hc⟩
  · have hp : p.good := by simp at e; exact .inl e
    simp only [nPost, good_bad hp, Bool.false_eq_true, if_false] at hk
    exact cR_put hx hp fun B' h' hx' hc => ⟨_, rfl, hk B' h' hx' hc⟩
theorem cR_Dup {i : Int} (hx : RefAt B h x s) (hk : ∀ B' h', RefAt B' h' x (nDup s i).2 → Chg B B' h h' → K (.int .i64 (nDup s i).1) h') : CallH Try.prog id_ref08_Net_Dup [.pointer x, .int .i64 i] K h := by
  have hx0 := hx
  obtain ⟨bn, a, n, c, Bw, rfl, rfl, hn, hb, hw, hg⟩ := hx
  have hnl := hw.1
  refine F_ref08_Net_Dup_ok ⟨bn, 0, fun _ => rfl, a, n, c, fun _ => rdsL hb rfl rfl, fun ho => ?_, fun hi => ?_⟩
  · have : nDup s i = (4, s) := nDup_out (by rw [hnl] at ho; simp only [Bool.or_eq_true, decide_eq_true_eq] at ho; omega)
    simp only [this] at hk
    exact hk _ h hx0 (Chg.refl _ _)
  · simp only [Bool.or_eq_false_iff, decide_eq_false_iff_not] at hi
    have hlt : i.toNat < s.way.length := by omega
    obtain ⟨b, o, ha, hr⟩ := hw.sr.get hlt
    have hf := nFind_in hlt
    rw [show ((i.toNat : Nat) : Int) = i by omega] at hf
    simp only [nDup, hf] at hk
    refine ⟨bn, 0, rfl, a, n, c, rdsL hb rfl rfl, b, o, ⟨ha, by omega, by omega⟩, _, _, _, hr _ 0 3 rfl (by decide), ?_⟩
    exact cR_put (p := s.way[i.toNat]) hx0 (hg.good _ (List.getElem_mem hlt)) fun B' h' hx' hc => ⟨_, rfl, hk B' h' hx' hc⟩
theorem cR_Lose {i : Int} (hx : RefAt B h x s) (hk : ∀ B' h', RefAt B' h' x (nLose s i).2 → Chg B B' h h' → K (.tuple #[(nFind s i).1.v, .int .i64 (nLose s i).1]) h') : CallH Try.prog id_ref08_Net_Lose [.pointer x, .int .i64 i] K h := by
  have hx0 := hx
  obtain ⟨bn, a, n, c, Bw, rfl, rfl, hn, hb, hw, hg⟩ := hx
  have hnl := hw.1
  have hle := hw.le
  have hlen := hg.len
  refine F_ref08_Net_Lose_ok ⟨bn, 0, fun _ => rfl, a, n, c, fun _ => rdsL hb rfl rfl, fun ho => ?_, fun hi => ?_⟩
  · have ho : i < 0 ∨ (s.way.length : Int) ≤ i := by rw [hnl] at ho; simp only [Bool.or_eq_true, decide_eq_true_eq] at ho; omega
    simp only [nLose_out ho, nFind_out ho] at hk
    exact hk _ h hx0 (Chg.refl _ _)
  · simp only [Bool.or_eq_false_iff, decide_eq_false_iff_not] at hi
    have hlt : i.toNat < s.way.length := by omega
    obtain ⟨b, o, ha, hr⟩ := hw.sr.get hlt
    have hf := nFind_in hlt
    rw [show ((i.toNat : Nat) : Int) = i by omega] at hf
    simp only [nLose, hf] at hk
    have hwi : IntKind.wrap .i64 (i + 1) = i + 1 := wrap64 (by omega) (by omega)
    refine ⟨bn, 0, rfl, a, n, c, rdsL hb rfl rfl, b, o, ⟨ha, by omega, by omega⟩, _, _, _, hr _ 0 3 rfl (by decide), bn, 0, rfl, a, n, c, rdsL hb rfl rfl, ⟨by omega, by omega, by omega, by omega⟩, EncPk.row ((s.way.drop 0).take (i.toNat - (0 : Int).toNat)), ?_, ?_⟩
    · exact hw.sr.part (hi := i.toNat) rfl (by omega) (by omega) (by omega)
    · refine (Buf.nil EncPk T_api_Packet h none).append (new := (s.way.drop 0).take (i.toNat - (0 : Int).toNat)) (by simp; omega) rfl rfl (by simp; omega) ?_
      intro a1 c1 B1 h1 hw1 hc1 _
      have hb1 := hc1.keep hb (by simp)
      have hn1 := hc1.fresh hb (by simp)
      have hwo := hw.chg hc1 (Dj.nil _)
      rw [hwi]
      refine ⟨bn, 0, rfl, a, n, c, rdsL hb1 rfl rfl, ⟨by omega, by omega, by omega, by omega⟩, EncPk.row ((s.way.drop (i + 1).toNat).take (n - (i + 1).toNat)), ?_, ?_⟩
      · have := hwo.sr.part (mx := ((c : Nat) : Int)) (L := i + 1) (hi := n) rfl (by omega) (by omega) (by omega)
        exact this
      · refine hw1.append (new := (s.way.drop (i + 1).toNat).take (n - (i + 1).toNat)) (by simp; omega) rfl rfl (by simp; omega) ?_
        intro a2 c2 B2 h2 hw2 hc2 _
        have hb2 := hc2.keep hb1 hn1
        have hn2 := hc2.fresh hb1 hn1
        refine ⟨bn, 0, rfl, stL hb2 rfl rfl fun h3 hb3 hc3 => ?_⟩
        have he : (s.way.drop 0).take (i.toNat - (0 : Int).toNat) ++ (s.way.drop (i + 1).toNat).take (n - (i + 1).toNat) = s.way.eraseIdx i.toNat := by
          rw [List.eraseIdx_eq_take_drop_succ, show (i + 1).toNat = i.toNat + 1 by omega, List.take_of_length_le (l := s.way.drop (i.toNat + 1)) (by simp; omega)]
          simp
        rw [List.nil_append, he] at hw2
        refine hk (bn :: B2) h3 ⟨bn, _, _, _, B2, rfl, rfl, hn2, hb3, hw2.chg hc3 (notIn1 hn2), hg.erase⟩ ?_
        exact ((hc1.trans hc2).sub (C := bn :: Bw) (C' := bn :: B2) (by simp) (fun b hm => by
          rcases List.mem_cons.1 hm with rfl | hm
          · exact .inr List.mem_cons_self
          · exact .inl hm)).trans hc3.head
theorem cR_Take {i : Int} (hx : RefAt B h x s) (hk : ∀ B' h', RefAt B' h' x (nTake s i).2 → Chg B B' h h' → K (.tuple #[(nTake s i).1.1.v, .int .i64 (nTake s i).1.2]) h') : CallH Try.prog id_ref08_Net_Take [.pointer x, .int .i64 i] K h := by
  have hx0 := hx
  obtain ⟨bn, a, n, c, Bw, rfl, rfl, hn, hb, hw, hg⟩ := hx
  have hnl := hw.1
  have hin : (decide (i ≥ 0) && decide (i < ((n : Nat) : Int))) = ((nFind s i).2 == 0) := by
    by_cases ho : i < 0 ∨ (s.way.length : Int) ≤ i
    · rw [nFind_out ho]
      simp; omega
    · have hlt : i.toNat < s.way.length := by omega
      have hf := nFind_in hlt
      rw [show ((i.toNat : Nat) : Int) = i by omega] at hf
      rw [hf]; simp; omega
  refine F_ref08_Net_Take_ok ⟨bn, 0, fun _ => rfl, a, n, c, fun _ => rdsL hb rfl rfl, bn, 0, fun _ => rfl, s.parted, fun _ => rdsL hb rfl rfl, fun he => ?_, fun he => ?_⟩
  · rw [hin] at he
    simp only [nTake, he, if_true] at hk
    exact hk _ h hx0 (Chg.refl _ _)
  · rw [hin] at he
    simp only [nTake, he, Bool.false_eq_true, if_false] at hk
    exact cR_Lose hx0 fun B' h' hx' hc => ⟨_, _, _, _, rfl, hk B' h' hx' hc⟩

/-! ### The net beside the document's -/
def Two (B : List Nat) (h : PH) (x w : Option Addr) (s t : NS) : Prop := ∃ Bx Bw, B = Bx ++ Bw ∧ NetAt Bx h x s ∧ RefAt Bw h w t ∧ Dj Bx Bw
theorem Two.net (z : Two B h x w s t) : ∃ Bx, NetAt Bx h x s ∧ ∀ Bx' h' s', NetAt Bx' h' x s' → Chg Bx Bx' h h' → ∃ B', Two B' h' x w s' t ∧ Chg B B' h h' := by
  obtain ⟨Bx, Bw, rfl, hx, hw, hd⟩ := z
  exact ⟨Bx, hx, fun Bx' h' s' hx' hc => ⟨Bx' ++ Bw, ⟨Bx', Bw, rfl, hx', hw.chg hc hd.symm, (hc.dj hd.symm hw.has).symm⟩, hc.left⟩⟩
theorem Two.ref (z : Two B h x w s t) : ∃ Bw, RefAt Bw h w t ∧ ∀ Bw' h' t', RefAt Bw' h' w t' → Chg Bw Bw' h h' → ∃ B', Two B' h' x w s t' ∧ Chg B B' h h' := by
  obtain ⟨Bx, Bw, rfl, hx, hw, hd⟩ := z
  exact ⟨Bw, hw, fun Bw' h' t' hw' hc => ⟨Bx ++ Bw', ⟨Bx, Bw', rfl, hx.chg hc hd, hw', hc.dj hd hx.has⟩, hc.right⟩⟩
theorem Two.chg {C C' : List Nat} {h' : PH} (z : Two B h x w s t) (c : Chg C C' h h') (d : Dj B C) : Two B h' x w s t := by
  obtain ⟨Bx, Bw, rfl, hx, hw, hd⟩ := z
  exact ⟨Bx, Bw, rfl, hx.chg c fun b hb => d b (List.mem_append_left _ hb), hw.chg c fun b hb => d b (List.mem_append_right _ hb), hd⟩
theorem Two.has (z : Two B h x w s t) : Has B h := by
  obtain ⟨Bx, Bw, rfl, hx, hw, hd⟩ := z
  intro b hb
  rcases List.mem_append.1 hb with hb | hb
  · exact hx.has b hb
  · exact hw.has b hb
theorem cDoes {y : Act} (z : Two B h x w s s) (hk : ∀ B' h' s', Two B' h' x w s' s' → Chg B B' h h' → K (.bool true) h') :
    CallH Try.prog id_law08_does [.pointer x, .pointer w, .agg #[.int .i64 y.do_, .int .i64 y.p.f, .int .i64 y.p.t, .string y.p.d, .int .i64 y.i, .int .u8 y.times]] K h := by
  refine F_law08_does_ok ⟨fun _ => ?_, fun _ => ⟨fun _ => ?_, fun _ => ⟨fun _ => ?_, fun _ => ⟨fun _ => ?_, fun _ => ⟨fun _ => ?_, fun _ => hk _ _ _ z (Chg.refl _ _)⟩⟩⟩⟩⟩
  · refine LoopP.ind (fun (st : Int × Unit) h' => (0 ≤ st.1 ∧ st.1 ≤ 80) ∧ ∃ B' s', Two B' h' x w s' s' ∧ Chg B B' h h') (fun st _ => (80 - st.1).toNat) ?_ ⟨⟨by decide, by decide⟩, B, s, z, Chg.refl _ _⟩
    rintro ⟨k, u⟩ h1 ⟨⟨k0, k1⟩, B1, s1, z1, c1⟩
    dsimp only at k0 k1 ⊢
    refine ⟨fun hk' => ?_, fun _ => hk _ _ _ z1 c1⟩
    have hb := tmod80 y.times
    rw [wrap64 (n := y.times.tmod 80) (by omega) (by omega)] at hk'
    simp only [Bool.or_eq_true, beq_iff_eq, decide_eq_true_eq] at hk'
    have hk80 : k < 80 := by omega
    rw [wrap64 (n := k + 1) (by omega) (by omega)]
    obtain ⟨Bx, hx, hxk⟩ := z1.net
    refine cNet_Post (p := y.p) hx fun Bx' h2 hx2 c2 => ⟨_, rfl, ?_⟩
    obtain ⟨B2, z2, d2⟩ := hxk _ _ _ hx2 c2
    obtain ⟨Bw, hw, hwk⟩ := z2.ref
    refine cR_Post (p := y.p) hw fun Bw' h3 hw3 c3 => ⟨_, rfl, fun e => by simp at e, fun _ => ?_⟩
    obtain ⟨B3, z3, d3⟩ := hwk _ _ _ hw3 c3
    exact ⟨⟨⟨by omega, by omega⟩, B3, _, z3, (c1.trans d2).trans d3⟩, by omega⟩
  · obtain ⟨Bx, hx, hxk⟩ := z.net
    refine cNet_Take hx fun Bx' h2 hx2 c2 => ⟨_, _, _, _, rfl, ?_⟩
    obtain ⟨B2, z2, d2⟩ := hxk _ _ _ hx2 c2
    obtain ⟨Bw, hw, hwk⟩ := z2.ref
    refine cR_Take hw fun Bw' h3 hw3 c3 => ⟨_, _, _, _, rfl, ?_⟩
    obtain ⟨B3, z3, d3⟩ := hwk _ _ _ hw3 c3
    simp only [beq_self_eq_true, strEq_self, Bool.and_true]
    exact hk _ _ _ z3 (d2.trans d3)
  · obtain ⟨Bw, hw, hwk⟩ := z.ref
    refine cR_Lose hw fun Bw' h2 hw2 c2 => ⟨_, _, _, _, rfl, ?_⟩
    obtain ⟨B2, z2, d2⟩ := hwk _ _ _ hw2 c2
    obtain ⟨Bx, hx, hxk⟩ := z2.net
    refine cNet_Lose hx fun Bx' h3 hx3 c3 => ⟨_, rfl, ?_⟩
    obtain ⟨B3, z3, d3⟩ := hxk _ _ _ hx3 c3
    simp only [beq_self_eq_true]
    exact hk _ _ _ z3 (d2.trans d3)
  · obtain ⟨Bx, hx, hxk⟩ := z.net
    refine cNet_Dup hx fun Bx' h2 hx2 c2 => ⟨_, rfl, ?_⟩
    obtain ⟨B2, z2, d2⟩ := hxk _ _ _ hx2 c2
    obtain ⟨Bw, hw, hwk⟩ := z2.ref
    refine cR_Dup hw fun Bw' h3 hw3 c3 => ⟨_, rfl, ?_⟩
    obtain ⟨B3, z3, d3⟩ := hwk _ _ _ hw3 c3
    simp only [beq_self_eq_true]
    exact hk _ _ _ z3 (d2.trans d3)
  · obtain ⟨Bx, hx, hxk⟩ := z.net
    refine cNet_Part hx fun Bx' h2 hx2 c2 => ?_
    obtain ⟨B2, z2, d2⟩ := hxk _ _ _ hx2 c2
    obtain ⟨Bw, hw, hwk⟩ := z2.ref
    have hw0 := hw
    obtain ⟨bn, a, n, c, Bw0, rfl, rfl, hn, hb, hw, hg⟩ := hw
    refine ⟨bn, 0, rfl, stL hb rfl rfl fun h3 hb3 hc3 => ?_⟩
    obtain ⟨B3, z3, d3⟩ := hwk (bn :: Bw0) h3 ⟨s.way, _⟩ ⟨bn, a, n, c, Bw0, rfl, rfl, hn, hb3, hw.chg hc3 (notIn1 hn), ⟨hg.good, hg.c0, hg.c1⟩⟩ hc3.head
    exact hk _ _ _ z3 (d2.trans d3)

theorem Buf.setAt {α : Type} {E : Enc α} {T : TypeId} {B : List Nat} {h : PH} {a : Option Addr} {n c : Nat} {l : List α} (x : Buf E T B h a n c l) {i f o' : Nat} (hi : i < l.length) {vs : List Value} {y : α} {b o : Nat} (ha : a = some ⟨b, o, none⟩) (ho : o' = o + i * E.k + f)
    (hy : (E.enc l[i]).take f ++ vs ++ (E.enc l[i]).drop (f + vs.length) = E.enc y) (hf : f + vs.length ≤ E.k) {K : PH → Prop} (hk : ∀ h', Buf E T B h' a n c (l.set i y) → Chg B B h h' → K h') : stH h b o' vs K := by
  obtain ⟨rfl, ⟨rfl, _, rfl⟩ | ⟨b', tail, e, rfl, hb, h1, h2⟩⟩ := x
  · simp at hi
  · rw [ha] at e; cases e
    subst ho
    have hl : i * E.k + E.k ≤ l.length * E.k := by rw [← Nat.succ_mul]; exact Nat.mul_le_mul_right _ hi
    refine stH_mk hb (by rw [List.length_append, E.row_len]; omega) (hk _ ⟨by simp, .inr ⟨b, tail, ha, rfl, ?_, ?_, ?_⟩⟩ (Chg.upd _))
    · rw [PH.upd_same]
      congr 2
      congr 1
      have hsplit : l = l.take i ++ l[i] :: l.drop (i + 1) := by rw [← List.drop_eq_getElem_cons hi, List.take_append_drop]
      have hset : l.set i y = l.take i ++ y :: l.drop (i + 1) := by rw [List.set_eq_take_append_cons_drop, if_pos hi]
      have h3 : E.row l = E.row (l.take i) ++ (E.enc l[i] ++ E.row (l.drop (i + 1))) := by
        conv => lhs; rw [hsplit]
        rw [E.row_app, E.row_cons]
      have hlt : (E.row (l.take i)).length = i * E.k := by rw [E.row_len, List.length_take, Nat.min_eq_left (by omega)]
      rw [hset, E.row_app, E.row_cons, ← hy, h3, Nat.zero_add]
      simp only [List.append_assoc]
      rw [List.take_append, hlt, List.take_of_length_le (by omega), show i * E.k + f - i * E.k = f by omega, List.take_append_of_le_length (by rw [E.len]; omega)]
      rw [List.drop_append, hlt, List.drop_of_length_le (by omega), show i * E.k + f + vs.length - i * E.k = f + vs.length by omega, List.drop_append_of_le_length (by rw [E.len]; omega)]
      simp only [List.append_assoc, List.nil_append]
    · simp [h1]
    · simpa using h2

theorem NetPlays_den (hl : SR EncAct h lA l) (hk : ∀ h', h.Sub h' → K (.bool true) h') : CallH Try.prog id_law08_NetPlays [.slice lA l.length lC] K h := by
  refine F_law08_NetPlays_ok (cAwake fun h1 s1 => ⟨true, rfl, nofun, fun _ => cGreat (hl.sub s1) fun b hg => ⟨b, rfl, fun _ => hk h1 s1, fun e => ?_⟩⟩)
  have hl1 := hl.sub s1
  have h300 := hg e
  refine cNet_New fun x B2 h2 x2 c2 => ⟨_, rfl, nwL (cs := [.slice none 0 0, .bool false]) fun bv h3 hb hb3 c3 => ?_⟩
  have x3 := x2.chg c3 (Dj.nil _)
  have r3 : RefAt [bv] h3 (some ⟨bv, 0, none⟩) ⟨[], false⟩ := ⟨bv, none, 0, 0, [], rfl, rfl, by simp, hb3, Buf.nil _ _ _ _, ⟨by simp, by decide, by decide⟩⟩
  have hd : Dj B2 [bv] := c3.dj (Dj.nil _) x2.has
  refine LoopP.ind (fun (st : Int × Unit) h' => (0 ≤ st.1 ∧ st.1 ≤ l.length) ∧ ∃ B' s, Two B' h' x (some ⟨bv, 0, none⟩) s s ∧ Chg [] B' h1 h') (fun st _ => (l.length - st.1).toNat) ?_
    ⟨⟨by decide, by show (0 : Int) ≤ _; omega⟩, B2 ++ [bv], _, ⟨B2, [bv], rfl, x3, r3, hd⟩, ?_⟩
  rotate_left
  · exact (c2.trans (c3.right (C := B2) |>.sub (by simp) (fun b hb => .inl hb)))
  rintro ⟨i, u⟩ h4 ⟨⟨i0, i1⟩, B4, s4, z4, c4⟩
  dsimp only at i0 i1 ⊢
  refine ⟨fun hc => ?_, fun _ => ?_⟩
  · have hc : i < l.length := by simpa using hc
    have hit : i.toNat < l.length := by omega
    obtain ⟨b, o, ha, hr⟩ := (hl1.sub c4.sub0).get hit
    refine ⟨b, o, ⟨ha, i0, hc⟩, _, hr _ 4 1 rfl (by decide), cNet_Take' ⟨_, _, _, _, rfl, cNet_Part' ⟨b, o, fun _ => ⟨ha, i0, hc⟩, _, _, _, fun _ => hr _ 1 3 rfl (by decide), fun _ => ?_, fun e => absurd e (by decide)⟩⟩⟩
    refine cNet_Post' (p := l[i.toNat].p) ⟨_, rfl, b, o, fun _ => ⟨ha, i0, hc⟩, _, fun _ => hr _ 4 1 rfl (by decide), fun _ => ?_, fun e => absurd e (by decide)⟩
    refine cNet_Lose' ⟨_, rfl, b, o, fun _ => ⟨ha, i0, hc⟩, _, fun _ => hr _ 4 1 rfl (by decide), fun _ => ?_, fun e => absurd e (by decide)⟩
    refine cNet_Dup' ⟨_, rfl, fun _ => cNet_Len' ⟨_, rfl, fun _ => cNet_All' ⟨_, _, _, rfl, fun _ => cNet_Parted' ⟨_, rfl, nofun, fun _ => ⟨b, o, ⟨ha, i0, hc⟩, _, _, _, _, _, _, hr _ 0 6 rfl (by decide), ?_⟩⟩, fun e => absurd e (by decide)⟩, fun e => absurd e (by decide)⟩, fun e => absurd e (by decide)⟩
    refine cDoes (y := l[i.toNat]) z4 fun B5 h5 s5 z5 c5 => ⟨true, rfl, ?_⟩
    obtain ⟨Bx, Bw, rfl, hx5, hw5, hd5⟩ := z5
    have hw50 := hw5
    obtain ⟨bn, a, n, c, Bw0, hbn, rfl, hn, hb5, hwb5, hg5⟩ := hw5
    cases hbn
    have hnl := hwb5.1
    refine ⟨bv, 0, fun _ => rfl, a, n, c, fun _ => rdsL hb5 rfl rfl, fun _ => cNet_Len hx5 ⟨_, rfl, fun _ => rdsL hb5 rfl rfl, bv, 0, fun _ => rfl, s5.parted, fun _ => rdsL hb5 rfl rfl, fun _ => ?_, fun e => ?_⟩, nofun⟩
    · refine cNet_Parted hx5 ⟨_, rfl, fun _ => rdsL hb5 rfl rfl, fun e => by simp at e, fun _ => ?_⟩
      refine cNet_All hx5 fun aA aC BA h6 hbA c6 => ⟨_, _, _, rfl, bv, 0, rfl, a, n, c, rdsL (c6.keep hb5 (by simp)) rfl rfl, fun e => ?_, fun _ => ?_⟩
      · rw [hnl] at e; simp at e
      have x6 := hx5.chg c6 (Dj.nil _)
      have r6 := hw50.chg c6 (Dj.nil _)
      have dA : Dj (Bx ++ bv :: Bw0) BA := c6.dj (Dj.nil _) (B := []) (by
        intro b hb
        rcases List.mem_append.1 hb with hb | hb
        · exact hx5.has b hb
        · exact hw50.has b hb)
      refine LoopP.ind (fun (st : Int × Unit) h' => (0 ≤ st.1 ∧ st.1 ≤ s5.way.length) ∧ ∃ la, Buf EncPk T_api_Packet BA h' aA s5.way.length aC la ∧ la.length = s5.way.length ∧ (∀ j : Nat, st.1 ≤ j → la[j]? = s5.way[j]?) ∧ Chg BA BA h6 h') (fun st _ => (s5.way.length - st.1).toNat) ?_
        ⟨⟨by decide, by show (0 : Int) ≤ _; omega⟩, _, hbA, rfl, fun _ _ => rfl, Chg.refl _ _⟩
      rintro ⟨k, u⟩ h7 ⟨⟨k0, k1⟩, la, hla, hlen, hsame, c7⟩
      dsimp only at k0 k1 hsame ⊢
      have hd7 : ∀ b ∈ BA, b ∉ (Bx ++ bv :: Bw0) := dA.symm
      have r7 := r6.chg c7 fun b hb => dA b (List.mem_append_right _ hb)
      refine ⟨fun hk' => ?_, fun _ => ?_⟩
      · have hk' : k < s5.way.length := by simpa using hk'
        have hkt : k.toNat < s5.way.length := by omega
        have hkl : k.toNat < la.length := by omega
        obtain ⟨b1, o1, ha1, hr1⟩ := hla.sr.get hkl
        obtain ⟨bn', a', n', c', Bw', hbn, hBw, hn', hb7, hwb7, _⟩ := r7
        cases hbn
        obtain ⟨b2, o2, ha2, hr2⟩ := hwb7.sr.get hkt
        have hnl' := hwb7.1
        have hsk : la[k.toNat] = s5.way[k.toNat] := by
          have := hsame k.toNat (by omega)
          rw [List.getElem?_eq_getElem hkl, List.getElem?_eq_getElem hkt] at this
          exact Option.some.inj this
        refine ⟨b1, o1, ⟨ha1, k0, hk'⟩, _, _, _, hr1 _ 0 3 rfl (by decide), bv, 0, rfl, a', n', c', rdsL hb7 rfl rfl, b2, o2, ⟨ha2, k0, by omega⟩, _, _, _, hr2 _ 0 3 rfl (by decide), fun e => ?_, fun _ => ⟨b1, o1, ⟨ha1, k0, hk'⟩, ?_⟩⟩
        · rw [hsk] at e; simp [strEq_self] at e
        · refine hla.setAt (f := 2) (y := ⟨la[k.toNat].f, la[k.toNat].t, ⟨#[116, 117, 114, 110, 101, 100]⟩⟩) hkl ha1 rfl rfl (by decide) fun h8 hla8 c8 => ?_
          have := hg5.len
          rw [wrap64 (n := k + 1) (by omega) (by omega)]
          refine ⟨⟨⟨by omega, by omega⟩, _, hla8, by simpa using hlen, fun j hj => ?_, c7.trans c8⟩, by omega⟩
          rw [List.getElem?_set_ne (by omega)]
          exact hsame j (by omega)
      · rw [wrap64 (n := i + 1) (by omega) (by omega)]
        have x7 := x6.chg c7 fun b hb => dA b (List.mem_append_left _ hb)
        refine ⟨⟨⟨by omega, by omega⟩, Bx ++ bv :: Bw0, s5, ⟨Bx, bv :: Bw0, rfl, x7, r7, hd5⟩, ?_⟩, by omega⟩
        refine (c4.trans c5).trans ?_
        refine ⟨fun b o hb e => c7.keep (c6.keep e (by simp)) fun hm => ?_, fun b hb => .inl hb⟩
        exact c6.fresh e (by simp) hm
    · rw [hnl] at e; simp at e
  · refine nwL (cs := [.slice none 0 0, .int .i64 (0 : Int), .int .i64 (0 : Int), .bool false, .bool false]) fun b2 h5 hb hb5 c5 => ?_
    have hfin : h.Sub h5 := fun b o e => c5.sub0 b o (c4.sub0 b o (s1 b o e))
    refine F_net_Net_Post_ok (F_net_Net_none_ok ⟨b2, 0, fun _ => rfl, false, fun _ => rdsL hb5 rfl rfl, ⟨_, rfl, fun _ => ⟨_, rfl, hk _ hfin⟩, nofun⟩⟩)

end TL

namespace TL
open Go Go.Proofs
variable {B : List Nat} {h : PH} {x w : Option Addr} {s t : NS} {K : Value → PH → Prop} {r : Int} {lA : Option Addr} {lC : Nat} {l : List Act}

theorem cFind {a : Option Addr} {c : Nat} {l : List Pk} {p : Pk} (hl : SR EncPk h a l) (hn : l.length ≤ 1000) (hp : p ∈ l) (hk : ∀ k : Nat, (hk : k < l.length) → l[k] = p → K (.int .i64 (k : Int)) h) : CallH Try.prog id_law08_find [.slice a l.length c, .agg #[.int .i64 p.f, .int .i64 p.t, .string p.d]] K h := by
  refine F_law08_find_ok (LoopP.ind (fun (st : Int × Unit) h' => h' = h ∧ (0 ≤ st.1 ∧ st.1 ≤ l.length) ∧ p ∈ l.drop st.1.toNat) (fun st _ => (l.length - st.1).toNat) ?_ ⟨rfl, ⟨by decide, by show (0 : Int) ≤ _; omega⟩, by simpa using hp⟩)
  rintro ⟨i, u⟩ h5 ⟨rfl, ⟨i0, i1⟩, hi⟩
  dsimp only at i0 i1 hi hl ⊢
  refine ⟨fun hc => ?_, fun hc => ?_⟩
  · have hc : i < l.length := by simpa using hc
    have hit : i.toNat < l.length := by omega
    obtain ⟨b, o, ha, hr⟩ := hl.get hit
    refine ⟨b, o, ⟨ha, i0, hc⟩, _, _, _, hr _ 0 3 rfl (by decide), fun e => ?_, fun e => ?_⟩
    · simp only [Bool.and_true, Bool.and_eq_true, beq_iff_eq, strEq_iff] at e
      have := hk i.toNat hit (by
        obtain ⟨e1, e2, e3⟩ := e
        cases hq : l[i.toNat]
        rw [hq] at e1 e2 e3
        cases p; cases e1; cases e2; cases e3; rfl)
      rwa [show ((i.toNat : Nat) : Int) = i by omega] at this
    · rw [wrap64 (n := i + 1) (by omega) (by omega)]
      refine ⟨⟨rfl, ⟨by omega, by omega⟩, ?_⟩, by omega⟩
      rw [List.drop_eq_getElem_cons hit] at hi
      rw [show (i + 1).toNat = i.toNat + 1 by omega]
      rcases List.mem_cons.1 hi with hi | hi
      · rw [← hi] at e; simp [strEq_self] at e
      · exact hi
  · have hc : i = l.length := by simp at hc; omega
    rw [hc] at hi; simp at hi
theorem cFits {a : Option Addr} {c : Nat} (hl : SR EncPk h a s.way) (hg : s.Good) (hk : K (.bool true) h) : CallH Try.prog id_law08_fits [.slice a s.way.length c] K h := by
  have hlen := hg.len
  refine F_law08_fits_ok (LoopP.ind (fun (st : Int × List Int × Unit) h' => h' = h ∧ (0 ≤ st.1 ∧ st.1 ≤ s.way.length) ∧ st.2.1 = [cnt 0 (s.way.take st.1.toNat), cnt 1 (s.way.take st.1.toNat)]) (fun st _ => (s.way.length - st.1).toNat) ?_ ⟨rfl, ⟨by decide, by show (0 : Int) ≤ _; omega⟩, by simp [cnt]⟩)
  rintro ⟨i, n, u⟩ h5 ⟨rfl, ⟨i0, i1⟩, hn⟩
  dsimp only at i0 i1 hn hl hlen ⊢
  refine ⟨fun hc => ?_, fun hc => ?_⟩
  · have hc : i < s.way.length := by simpa using hc
    have hit : i.toNat < s.way.length := by omega
    obtain ⟨b, o, ha, hr⟩ := hl.get hit
    have hgp := hg.good _ (List.getElem_mem hit)
    have hf : s.way[i.toNat].f = 0 ∨ s.way[i.toNat].f = 1 := by rcases hgp with ⟨e, _⟩ | ⟨e, _⟩ <;> simp [e]
    have ht : s.way[i.toNat].t = 1 - s.way[i.toNat].f := by rcases hgp with ⟨e, e'⟩ | ⟨e, e'⟩ <;> simp [e, e']
    refine ⟨b, o, ⟨ha, i0, hc⟩, _, hr _ 0 1 rfl (by decide), b, o, fun _ => ⟨ha, i0, hc⟩, _, fun _ => hr _ 0 1 rfl (by decide), b, o, fun _ => ⟨ha, i0, hc⟩, _, fun _ => hr _ 1 1 rfl (by decide), b, o, fun _ => ⟨ha, i0, hc⟩, _, fun _ => hr _ 0 1 rfl (by decide), fun e => ?_, fun _ => ?_⟩
    · exfalso
      rw [wrap64 (n := 1 - s.way[i.toNat].f) (by omega) (by omega)] at e
      simp only [Bool.or_eq_true, decide_eq_true_eq, bne_iff_ne] at e
      omega
    · refine ⟨b, o, ⟨ha, i0, hc⟩, _, hr _ 0 1 rfl (by decide), ⟨by omega, by omega⟩, by omega, ⟨by omega, by omega⟩, by omega, ?_⟩
      rw [wrap64 (n := i + 1) (by omega) (by omega), show (i + 1).toNat = i.toNat + 1 by omega]
      refine ⟨⟨rfl, ⟨by omega, by omega⟩, ?_⟩, by omega⟩
      rw [hn]
      have e0 := cnt_take (k := 0) hit
      have e1 := cnt_take (k := 1) hit
      have b0 := cnt_nonneg 0 (s.way.take i.toNat)
      have b1 := cnt_nonneg 1 (s.way.take i.toNat)
      have l0 := cnt_le 0 (s.way.take i.toNat)
      have l1 := cnt_le 1 (s.way.take i.toNat)
      have htl : (s.way.take i.toNat).length ≤ s.way.length := by simp; omega
      rw [e0, e1]
      rcases hf with e | e <;> rw [e]
      · simp only [Int.toNat_zero, Nat.zero_mul, List.set_cons_zero, List.getD_cons_zero, if_true]
        rw [wrap64 (by omega) (by omega)]; simp
      · rw [show ((1 : Int).toNat * 1) = 1 from rfl]
        simp only [List.set_cons_succ, List.set_cons_zero, List.getD_cons_succ, List.getD_cons_zero, if_true]
        rw [wrap64 (by omega) (by omega)]; simp
  · have hc : i = s.way.length := by simp at hc; omega
    have h0 := hg.c0
    have h1 := hg.c1
    rw [hn, hc]
    simp [h0, h1]
    exact hk
theorem cTail {n : Nat} {J K0 : PH → Prop} (hx : NetAt B h x s) (hn : n = s.way.length) (hj : ∀ BA h', Chg [] BA h h' → J h') :
    CallH Try.prog id_net_Net_Len [.pointer x] (fun v h1 => ∃ t : Int, v = .int .i64 t ∧ (((t != ((n : Nat) : Int)) = false → CallH Try.prog id_net_Net_All [.pointer x] (fun v2 h2 => ∃ (tA : Option Addr) (tN tC : Nat), v2 = .slice tA tN tC ∧ CallH Try.prog id_law08_fits [.slice tA tN tC] (fun v3 h3 => ∃ t4 : Bool, v3 = .bool t4 ∧ (((!t4) = true → K0 h3) ∧ ((!t4) = false → J h3))) h2) h1) ∧ ((t != ((n : Nat) : Int)) = true → K0 h1))) h := by
  subst hn
  refine cNet_Len hx ⟨_, rfl, fun _ => cNet_All hx fun aA aC BA h2 hb c2 => ⟨_, _, _, rfl, cFits hb.sr hx.good ⟨true, rfl, nofun, fun _ => hj _ _ c2⟩⟩, fun e => by simp at e⟩
/-- append(append([]T{}, l[:k]..), l[k+1:]..) -/
theorem cutOut {α : Type} {E : Enc α} {T : TypeId} {kk bt : Nat} {z : List Value} {a : Option Addr} {n c : Nat} {l : List α} {k : Nat} {BL : List Nat} {J : Option Addr → Nat → Nat → PH → Prop} (hkk : kk = E.k) (hl : Buf E T BL h a n c l) (hz : z.length = kk) (hk : k < l.length) (hb : l.length * bt ≤ 140737488355328) (hn : l.length < 1000000)
    (hj : ∀ a' n' c' B' h', Buf E T B' h' a' n' c' (l.eraseIdx k) → Chg [] B' h h' → J a' n' c' h') :
    (0 ≤ (0 : Int) ∧ (0 : Int) ≤ (k : Int) ∧ (k : Int) ≤ ((c : Nat) : Int) ∧ ((c : Nat) : Int) ≤ (c : Nat)) ∧
    (0 ≤ (IntKind.wrap .i64 ((k : Int) + (1 : Int))) ∧ (IntKind.wrap .i64 ((k : Int) + (1 : Int))) ≤ ((n : Nat) : Int) ∧ ((n : Nat) : Int) ≤ ((c : Nat) : Int) ∧ ((c : Nat) : Int) ≤ (c : Nat)) ∧
    newH h (.cells #[] T (0, 0)) fun bv h17 =>
    ∃ vs : List Value, srcH h17 (slA a kk (0 : Int) ((c : Nat) : Int)) (((k : Int).toNat - (0 : Int).toNat) * kk) vs ∧
    appH T kk bt z (some ⟨bv, 0, none⟩) 0 0 ((k : Int).toNat - (0 : Int).toNat) vs (fun tA tN tC h18 =>
      ∃ vs_1 : List Value, srcH h18 (slA a kk (IntKind.wrap .i64 ((k : Int) + (1 : Int))) ((c : Nat) : Int)) ((((n : Nat) : Int).toNat - (IntKind.wrap .i64 ((k : Int) + (1 : Int))).toNat) * kk) vs_1 ∧
      appH T kk bt z tA tN tC (((n : Nat) : Int).toNat - (IntKind.wrap .i64 ((k : Int) + (1 : Int))).toNat) vs_1 (fun leftA leftN leftC h19 => J leftA leftN leftC h19) h18) h17 := by
  subst hkk
  have hnl := hl.1
  have hle := hl.le
  rw [wrap64 (n := (k : Int) + 1) (by omega) (by omega)]
  refine ⟨⟨by omega, by omega, by omega, by omega⟩, ⟨by omega, by omega, by omega, by omega⟩, nwL (cs := []) fun bv h1 hb0 hb1 c1 => ⟨E.row ((l.drop 0).take (k - 0)), ?_, ?_⟩⟩
  · exact (hl.chg c1 (Dj.nil _)).sr.part (lo := 0) (hi := k) rfl (by omega) (by omega) (by simp; omega)
  · have hmul : ∀ m, m ≤ l.length → m * bt ≤ 140737488355328 := fun m hm => Nat.le_trans (Nat.mul_le_mul_right _ hm) hb
    refine (Buf.nil E T h1 _).append (new := (l.drop 0).take (k - 0)) (by simp; omega) rfl hz (hmul _ (by simp; omega)) ?_
    intro a1 n1 B1 h2 hw1 c2 _
    have c12 : Chg [] B1 h h2 := (c1.trans (c2.sub (C := [bv]) (C' := B1) (by simp) fun b hb => .inl hb))
    refine ⟨E.row ((l.drop (k + 1)).take (n - (k + 1))), ?_, ?_⟩
    · have := (hl.chg c12 (Dj.nil _)).sr.part (mx := ((c : Nat) : Int)) (L := (k : Int) + 1) (lo := k + 1) (hi := n) (by omega) (by omega) (by omega) (by omega)
      simpa using this
    · refine hw1.append (new := (l.drop (k + 1)).take (n - (k + 1))) (by simp; omega) rfl hz (hmul _ (by simp; omega)) ?_
      intro a2 n2 B2 h3 hw2 c3 _
      have he : ([] : List α) ++ (l.drop 0).take (k - 0) ++ (l.drop (k + 1)).take (n - (k + 1)) = l.eraseIdx k := by
        rw [List.eraseIdx_eq_take_drop_succ, List.take_of_length_le (l := l.drop (k + 1)) (by simp; omega)]; simp
      rw [he] at hw2
      exact hj _ _ _ _ _ hw2 (c12.trans c3)

theorem perm_at {α : Type} {l : List α} {i : Nat} (hi : i < l.length) : l.Perm (l[i] :: l.eraseIdx i) := by
  have h1 : l = l.take i ++ l[i] :: l.drop (i + 1) := by rw [← List.drop_eq_getElem_cons hi, List.take_append_drop]
  rw [List.eraseIdx_eq_take_drop_succ]
  conv => lhs; rw [h1]
  exact List.perm_middle
theorem perm_erase {α : Type} {l m : List α} {i j : Nat} (hp : l.Perm m) (hi : i < l.length) (hj : j < m.length) (he : l[i] = m[j]) : (l.eraseIdx i).Perm (m.eraseIdx j) := by
  have h1 : l.Perm (l[i] :: l.eraseIdx i) := perm_at hi
  have h2 : m.Perm (m[j] :: m.eraseIdx j) := perm_at hj
  have h3 := (h1.symm.trans hp).trans h2
  rw [he] at h3
  exact h3.cons_inv
theorem nLose_in {i : Nat} (hi : i < s.way.length) : nLose s (i : Int) = (0, { s with way := s.way.eraseIdx i }) := by
  simp [nLose, nFind_in hi]
theorem nPut_cases (s : NS) (p : Pk) : (nPut s p = (0, { s with way := s.way ++ [p] })) ∨ (nPut s p = (6, s)) := by
  unfold nPut; split
  · exact .inr rfl
  · exact .inl rfl
theorem nPost_cases (s : NS) (p : Pk) : (nPost s p = (0, { s with way := s.way ++ [p] })) ∨ ∃ e, nPost s p = (e, s) ∧ e ≠ 0 := by
  unfold nPost; split
  · exact .inr ⟨1, rfl, by decide⟩
  · rcases nPut_cases s p with h | h <;> rw [h]
    · exact .inl rfl
    · exact .inr ⟨6, rfl, by decide⟩
theorem NetCounts_den (hl : SR EncAct h lA l) (hk : ∀ h', h.Sub h' → K (.bool true) h') : CallH Try.prog id_law08_NetCounts [.slice lA l.length lC] K h := by
  refine F_law08_NetCounts_ok (cAwake fun h1 s1 => ⟨true, rfl, nofun, fun _ => cGreat (hl.sub s1) fun b hg => ⟨b, rfl, fun _ => hk h1 s1, fun e => ?_⟩⟩)
  have hl1 := hl.sub s1
  have h300 := hg e
  refine cNet_New fun x B2 h2 x2 c2 => ⟨_, rfl, ?_⟩
  refine LoopP.ind (fun (st : (Option Addr × Nat × Nat) × Int × Unit) h' => (0 ≤ st.2.1 ∧ st.2.1 ≤ l.length) ∧ ∃ Bx Bl s left, NetAt Bx h' x s ∧ Buf EncPk T_api_Packet Bl h' st.1.1 st.1.2.1 st.1.2.2 left ∧ left.Perm s.way ∧ Dj Bx Bl ∧ Chg [] (Bx ++ Bl) h1 h') (fun st _ => (l.length - st.2.1).toNat) ?_
    ⟨⟨by decide, by show (0 : Int) ≤ _; omega⟩, B2, [], _, [], x2, Buf.nil _ _ _ _, List.Perm.refl _, Dj.nil _, by simpa using c2⟩
  rintro ⟨⟨la, ln, lc⟩, i, u⟩ h3 ⟨⟨i0, i1⟩, Bx, Bl, s, left, hx, hb, hp, hd, c3⟩
  dsimp only at i0 i1 hb ⊢
  refine ⟨fun hc => ?_, fun _ => hk _ fun b o e => c3.sub0 b o (s1 b o e)⟩
  have hc : i < l.length := by simpa using hc
  have hit : i.toNat < l.length := by omega
  obtain ⟨b, o, ha, hr⟩ := (hl1.sub c3.sub0).get hit
  generalize l[i.toNat] = y at hr
  refine ⟨b, o, ⟨ha, i0, hc⟩, _, _, _, _, _, _, hr _ 0 6 rfl (by decide), ?_⟩
  rw [wrap64 (n := i + 1) (by omega) (by omega)]
  refine cNet_All hx fun aA aC BA h4 hA c4 => ⟨_, _, _, rfl, ?_⟩
  have x4 := hx.chg c4 (Dj.nil _)
  have b4 := hb.chg c4 (Dj.nil _)
  have hlen := hx.good.len
  have hll : left.length = s.way.length := hp.length_eq
  have dAx : Dj Bx BA := c4.dj (Dj.nil _) hx.has
  have dAl : Dj Bl BA := c4.dj (Dj.nil _) hb.has
  -- the end of a round
  have fin : ∀ {Bx' Bl' h6 s6 la' ln' lc' left'} (K0 : PH → Prop), NetAt Bx' h6 x s6 → Buf EncPk T_api_Packet Bl' h6 la' ln' lc' left' → left'.Perm s6.way → Dj Bx' Bl' → Chg (Bx ++ Bl) (Bx' ++ Bl') h4 h6 →
      CallH Try.prog id_net_Net_Len [.pointer x] (fun v h1' => ∃ t : Int, v = .int .i64 t ∧ (((t != ((ln' : Nat) : Int)) = false → CallH Try.prog id_net_Net_All [.pointer x] (fun v2 h2 => ∃ (tA : Option Addr) (tN tC : Nat), v2 = .slice tA tN tC ∧ CallH Try.prog id_law08_fits [.slice tA tN tC] (fun v3 h3 => ∃ t4 : Bool, v3 = .bool t4 ∧ (((!t4) = true → K0 h3) ∧ ((!t4) = false →
        (((0 ≤ i + 1 ∧ i + 1 ≤ (l.length : Int)) ∧ ∃ Bx Bl s left, NetAt Bx h3 x s ∧ Buf EncPk T_api_Packet Bl h3 la' ln' lc' left ∧ left.Perm s.way ∧ Dj Bx Bl ∧ Chg [] (Bx ++ Bl) h1 h3) ∧ ((l.length : Int) - (i + 1)).toNat < ((l.length : Int) - i).toNat)))) h2) h1') ∧ ((t != ((ln' : Nat) : Int)) = true → K0 h1'))) h6 := by
    intro Bx' Bl' h6 s6 la' ln' lc' left' K0 x6 b6 p6 d6 c6
    refine cTail x6 (by rw [b6.1, p6.length_eq]) fun BA h7 c7 => ?_
    refine ⟨⟨⟨by omega, by omega⟩, Bx', Bl', s6, left', x6.chg c7 (Dj.nil _), b6.chg c7 (Dj.nil _), p6, d6, ?_⟩, by omega⟩
    exact (((c3.onto c4.sub0).trans c6).onto c7.sub0)
  have hin : ∀ {j : Int}, ((decide (j ≥ 0)) && (decide (j < ((s.way.length : Nat) : Int)))) = true → j.toNat < s.way.length ∧ 0 ≤ j := fun {j} e => by
    simp only [Bool.and_eq_true, decide_eq_true_eq] at e; omega
  have hout : ∀ {j : Int}, ((decide (j ≥ 0)) && (decide (j < ((s.way.length : Nat) : Int)))) = false → j < 0 ∨ (s.way.length : Int) ≤ j := fun {j} e => by
    simp only [Bool.and_eq_false_iff, decide_eq_false_iff_not] at e; omega
  refine ⟨fun _ => ?_, fun _ => ⟨fun _ => ?_, fun _ => ⟨fun _ => ?_, fun _ => ⟨fun _ => ?_, fun _ => ⟨fun _ => ?_, fun _ => fin _ x4 b4 hp hd (Chg.refl _ _)⟩⟩⟩⟩⟩
  · -- Post
    refine cNet_Post (p := y.p) x4 fun B5 h5 x5 c5 => ⟨_, rfl, ?_⟩
    have b5 := b4.chg c5 hd.symm
    have d5 : Dj B5 Bl := (c5.dj hd.symm b4.has).symm
    rcases nPost_cases s y.p with e | ⟨e1, e, he⟩ <;> rw [e] at x5 ⊢
    · refine ⟨fun _ => ?_, fun e => by simp at e⟩
      refine b5.append (new := [y.p]) rfl rfl rfl (by have := b5.1; omega) ?_
      intro a' c' B' h6 b6 c6 _
      refine fin _ (x5.chg c6 d5) b6 (hp.append_right [y.p]) (c6.dj d5 x5.has) (c5.left.trans c6.right)
    · exact ⟨fun e => absurd (by simpa using e) he, fun _ => fin _ x5 b5 hp d5 c5.left⟩
  · -- Take
    refine cNet_Take x4 fun B5 h5 x5 c5 => ⟨_, _, _, _, rfl, fun e => ?_, fun e => ?_⟩
    · obtain ⟨hi, hi0⟩ := hin e
      have hi1 := hi
      generalize hj : y.i.toNat = j at hi
      have hji : y.i = (j : Int) := by omega
      rw [hji] at x5 ⊢
      have b5 := b4.chg c5 hd.symm
      have d5 : Dj B5 Bl := (c5.dj hd.symm b4.has).symm
      have hA5 := hA.chg c5 dAx.symm
      obtain ⟨b', o', ha', hr'⟩ := hA5.sr.get hi
      by_cases hpt : s.parted = true
      · rw [nTake_part hi hpt] at x5 ⊢
        refine cNet_Parted x5 ⟨_, rfl, ?_⟩
        rw [hpt]
        refine ⟨fun _ => ⟨b', o', nofun, _, _, _, fun _ => hr' _ 0 3 rfl (by decide), fun e => ?_, fun _ => ⟨nofun, fun _ => fin _ x5 b5 hp d5 c5.left⟩⟩, fun e => by simp at e⟩
        simp at e
      · have hpf : s.parted = false := by simpa using hpt
        rw [nTake_in hi hpf] at x5 ⊢
        refine cNet_Parted x5 ⟨_, rfl, ?_⟩
        rw [hpf]
        refine ⟨fun _ => ⟨b', o', fun _ => ⟨ha', by omega, by omega⟩, _, _, _, fun _ => hr' _ 0 3 rfl (by decide), fun e => ?_, fun _ => ⟨fun _ => ⟨b', o', ⟨ha', by omega, by omega⟩, _, _, _, hr' _ 0 3 rfl (by decide), ?_⟩, nofun⟩⟩, fun e => by simp at e⟩
        · simp [strEq_self] at e
        · rw [b5.1]
          refine cFind (p := s.way[j]) b5.sr (by omega) (hp.mem_iff.2 (List.getElem_mem hi)) fun k hk' he => ⟨_, rfl, fun e => by simp at e; omega, fun _ => ?_⟩
          have b5' := b5
          rw [b5.1] at b5'
          refine cutOut rfl b5' rfl hk' (by omega) (by omega) ?_
          intro a' n' c' B' h6 b6 c6
          refine fin _ (x5.chg c6 (Dj.nil _)) b6 (perm_erase hp hk' hi he) (c6.dj (Dj.nil _) x5.has) ?_
          refine c5.left.trans ?_
          refine ⟨fun b o hb e => c6.keep e (by simp), fun b hb => ?_⟩
          rcases List.mem_append.1 hb with hb | hb
          · exact .inl (List.mem_append_left _ hb)
          · exact (c6.2 b hb).imp nofun id
    · have ho := hout e
      rw [nTake_out ho] at x5 ⊢
      have b5 := b4.chg c5 hd.symm
      have d5 : Dj B5 Bl := (c5.dj hd.symm b4.has).symm
      exact ⟨fun _ => fin _ x5 b5 hp d5 c5.left, fun e => by simp at e⟩
  · -- Lose
    refine cNet_Lose x4 fun B5 h5 x5 c5 => ⟨_, rfl, ?_⟩
    have b5 := b4.chg c5 hd.symm
    have d5 : Dj B5 Bl := (c5.dj hd.symm b4.has).symm
    by_cases e : ((decide (y.i ≥ 0)) && (decide (y.i < ((s.way.length : Nat) : Int)))) = true
    · obtain ⟨hi, hi0⟩ := hin e
      generalize hj : y.i.toNat = j at hi
      have hji : y.i = (j : Int) := by omega
      have hA5 := hA.chg c5 dAx.symm
      obtain ⟨b', o', ha', hr'⟩ := hA5.sr.get hi
      rw [e]
      rw [hji, nLose_in hi] at x5
      rw [hji, nLose_in hi]
      refine ⟨fun e => by simp at e, fun _ => ⟨fun _ => ⟨b', o', ⟨ha', by omega, by omega⟩, _, _, _, hr' _ 0 3 rfl (by decide), ?_⟩, fun e => by simp at e⟩⟩
      rw [b5.1]
      refine cFind (p := s.way[j]) b5.sr (by omega) (hp.mem_iff.2 (List.getElem_mem hi)) fun k hk' he => ⟨_, rfl, fun e => by simp at e; omega, fun _ => ?_⟩
      have b5' := b5
      rw [b5.1] at b5'
      refine cutOut rfl b5' rfl hk' (by omega) (by omega) ?_
      intro a' n' c' B' h6 b6 c6
      refine fin _ (x5.chg c6 (Dj.nil _)) b6 (perm_erase hp hk' hi he) (c6.dj (Dj.nil _) x5.has) ?_
      refine c5.left.trans ?_
      refine ⟨fun b o hb e => c6.keep e (by simp), fun b hb => ?_⟩
      rcases List.mem_append.1 hb with hb | hb
      · exact .inl (List.mem_append_left _ hb)
      · exact (c6.2 b hb).imp nofun id
    · have e : ((decide (y.i ≥ 0)) && (decide (y.i < ((s.way.length : Nat) : Int)))) = false := by simpa using e
      rw [nLose_out (hout e)] at x5 ⊢
      rw [e]
      exact ⟨fun e => by simp at e, fun _ => ⟨fun e => by simp at e, fun _ => fin _ x5 b5 hp d5 c5.left⟩⟩
  · -- Dup
    refine cNet_Dup x4 fun B5 h5 x5 c5 => ⟨_, rfl, ?_⟩
    have b5 := b4.chg c5 hd.symm
    have d5 : Dj B5 Bl := (c5.dj hd.symm b4.has).symm
    by_cases e : ((decide (y.i ≥ 0)) && (decide (y.i < ((s.way.length : Nat) : Int)))) = true
    · obtain ⟨hi, hi0⟩ := hin e
      generalize hj : y.i.toNat = j at hi
      have hji : y.i = (j : Int) := by omega
      have hA5 := hA.chg c5 dAx.symm
      obtain ⟨b', o', ha', hr'⟩ := hA5.sr.get hi
      rw [e]
      have hdup : nDup s (j : Int) = nPut s s.way[j] := by simp [nDup, nFind_in hi]
      rw [hji, hdup] at x5
      rw [hji, hdup]
      rcases nPut_cases s s.way[j] with e | e <;> rw [e] at x5 ⊢
      · refine ⟨fun _ => ⟨fun e => by simp at e, fun _ => ⟨b', o', ⟨ha', by omega, by omega⟩, _, _, _, hr' _ 0 3 rfl (by decide), ?_⟩⟩, fun e => by simp at e⟩
        refine b5.append (new := [s.way[j]]) rfl rfl rfl (by have := b5.1; omega) ?_
        intro a' c' B' h6 b6 c6 _
        exact fin _ (x5.chg c6 d5) b6 (hp.append_right [s.way[j]]) (c6.dj d5 x5.has) (c5.left.trans c6.right)
      · exact ⟨fun e => by simp at e, fun _ => fin _ x5 b5 hp d5 c5.left⟩
    · have e : ((decide (y.i ≥ 0)) && (decide (y.i < ((s.way.length : Nat) : Int)))) = false := by simpa using e
      rw [nDup_out (hout e)] at x5 ⊢
      exact ⟨fun e => by simp at e, fun _ => fin _ x5 b5 hp d5 c5.left⟩
  · -- Part
    refine cNet_Part x4 fun B5 h5 x5 c5 => ?_
    exact fin _ x5 (b4.chg c5 hd.symm) hp (c5.dj hd.symm b4.has).symm c5.left

end TL
