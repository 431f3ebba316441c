/-
  Contracts of layer walk: what fits; new walks. No condition.
-/
import Derived.Test.YtmcgndbfoebcnaaGreatPartE
import Derived.Test.YtmcgndbfoebcnaaGreatPartB
import Derived.Test.YtmcgndbfoebcnaaGreatPartD
namespace TL
open Go Go.Proofs
variable {g h : PH} {N : List Nat} {K : Value → PH → Prop} {wb : Nat} {s : WS}
theorem cWFits (x : WalkAt g N h wb s) (sp : Spl g N h) {a0 a1 : Int} {v t : List UInt8} (hv : v.length = 32) (hT : s.T.length ≤ 100000)
    (hno : (∀ k, 1 ≤ k → k < 32 → askP k = (a0, a1) → s.A k ≠ some v) → K (.bool false) h)
    (hyes : ∀ k N' h', 1 ≤ k → k < 32 → askP k = (a0, a1) → s.A k = some v → WalkAt g N' h' wb { s with A := upF s.A k none, T := s.T ++ [t] } → Stp g N h g N' h' → K (.bool true) h') :
    CallH Tryz.prog id_walk_Walk_fits [.pointer (some ⟨wb, 0, none⟩), .agg #[.int .i64 a0, .int .i64 a1], .agg (((bi v).map (Value.int .u8) ++ [])).toArray, .string (mk t)] K h := by
  obtain ⟨⟨tb, ra, rp, esA, cA, esP, cP, tA, tN, tC, Bt, rfl, d1, d2, d3, d4, d5, d6, hw, ht, ha, hA, hp, hP, hB⟩, hR, hL⟩ := id x
  have hkey : (.agg #[.int .i64 a0, .int .i64 a1] : Value) = keyV (a0, a1) := rfl
  by_cases hk : ∃ k, 1 ≤ k ∧ k < 32 ∧ askP k = (a0, a1)
  · obtain ⟨k, k1, k2, hka⟩ := hk
    have hva := hA.at_ k k1 k2
    cases hAk : s.A k with
    | none =>
      refine F_walk_Walk_fits_ok (by rw [bi_len]; exact hv) ⟨wb, 0, rfl, _, wk_ask hw hR, List.replicate 32 0, by simp, false, ⟨esA, ⟨⟨cA, ha⟩, hA.kOk⟩, ?_⟩, fun _ => hno fun j j1 j2 hj e => ?_, fun e => by simp at e⟩
      · rw [lk_va, hkey, ← hka, hva, hAk]; rfl
      · have : j = k := askP_inj j j2 k k2 j1 k1 (hj.trans hka.symm)
        subst this; rw [hAk] at e; cases e
    | some y =>
      have hy := hL k y hAk
      refine F_walk_Walk_fits_ok (by rw [bi_len]; exact hv) ⟨wb, 0, rfl, _, wk_ask hw hR, bi y, by rw [bi_len]; exact hy, true, ⟨esA, ⟨⟨cA, ha⟩, hA.kOk⟩, ?_⟩, fun e => hno fun j j1 j2 hj e2 => ?_, fun e => ?_⟩
      · rw [lk_va, hkey, ← hka, hva, hAk]; rfl
      · have : j = k := askP_inj j j2 k k2 j1 k1 (hj.trans hka.symm)
        subst this; rw [hAk] at e2; cases e2
        simp at e
      · rw [bi_beq] at e
        have e : y = v := by simpa using e
        subst e
        refine ⟨wb, 0, rfl, _, wk_ask hw hR, ?_⟩
        unfold mdH
        refine ⟨fun e => (by cases e), fun r0 er => ?_⟩
        cases er
        refine ⟨esA, cA, ha, hA.kOk, wb, 0, rfl, ?_⟩
        have c1 : Chg [ra] [ra] h (h.upd ra (.map (dlM esA (.agg #[.int .i64 a0, .int .i64 a1])).toArray cA)) := Chg.upd _
        generalize hh1 : h.upd ra (.map (dlM esA (.agg #[.int .i64 a0, .int .i64 a1])).toArray cA) = h1 at c1 ⊢
        have ha1 : h1 ra = some (.map (dlM esA (.agg #[.int .i64 a0, .int .i64 a1])).toArray cA) := by rw [← hh1]; exact PH.upd_same _ _ _
        have hw1 := c1.keep hw (by simpa using d1)
        have hp1 := c1.keep hp (by simpa using Ne.symm d3)
        have hB1 := hB.chg c1 fun b hb hm => by rw [List.mem_singleton] at hm; subst hm; exact d5 hb
        have htn := hB.1
        refine ⟨_, _, _, wk_text hw1 hR, hB1.append (new := [t]) rfl rfl rfl (by omega) fun a2 n2 B2 h2 hb2 c2 _ => ⟨wb, 0, rfl, ?_⟩⟩
        have hw2 := c2.keep hw1 d4
        have ha2 := c2.keep ha1 d5
        have hp2 := c2.keep hp1 d6
        refine wk_setText hw2 hR fun h3 hw3 c3 => ?_
        have nin : ∀ {b : Nat} {o : Obj}, h1 b = some o → b ∉ Bt → b ∉ B2 := fun hb hn hm => by
          rcases c2.2 _ hm with h4 | h4
          · exact hn h4
          · rw [hb] at h4; cases h4
        have n1 := nin hw1 d4
        have n2' := nin ha1 d5
        have n3 := nin hp1 d6
        have ha3 := c3.keep ha2 (by simpa using Ne.symm d1)
        have hp3 := c3.keep hp2 (by simpa using Ne.symm d2)
        have hb3 := hb2.chg c3 fun b hb hm => by rw [List.mem_singleton] at hm; subst hm; exact n1 hb
        refine hyes k (wb :: ra :: rp :: B2) h3 k1 k2 hka hAk ⟨⟨tb, ra, rp, _, _, esP, cP, a2, tN + 1, n2, B2, rfl, d1, d2, d3, n1, n2', n3, hw3, ht, ha3, ?_, hp3, hP, hb3⟩, hR, fun j y hy => ?_⟩ ?_
        · rw [hkey, ← hka]; exact hA.del k1 k2
        · have hy : upF s.A k none j = some y := hy
          by_cases ej : j = k
          · subst ej; rw [upF_same] at hy; cases hy
          · rw [upF_ne _ _ ej] at hy; exact hL j y hy
        · have C1 : Chg (wb :: ra :: rp :: Bt) (wb :: ra :: rp :: Bt) h h1 := c1.sub (fun b hb => by simp at hb; subst hb; simp) fun b hb => .inr hb
          have C2 : Chg (wb :: ra :: rp :: Bt) (wb :: ra :: rp :: B2) h1 h2 := c2.right (C := [wb, ra, rp])
          have C3 : Chg (wb :: ra :: rp :: B2) (wb :: ra :: rp :: B2) h2 h3 := c3.sub (fun b hb => by simp at hb; subst hb; simp) fun b hb => .inr hb
          refine sp.chg ((C1.trans C2).trans C3) fun b hb => ?_
          simp only [List.mem_cons] at hb
          rcases hb with rfl | rfl | rfl | hb
          · exact ⟨_, hw3⟩
          · exact ⟨_, ha3⟩
          · exact ⟨_, hp3⟩
          · exact hb3.has b hb
  · have hout : va esA (keyV (a0, a1)) = none := hA.out fun k k1 k2 e => hk ⟨k, k1, k2, e⟩
    refine F_walk_Walk_fits_ok (by rw [bi_len]; exact hv) ⟨wb, 0, rfl, _, wk_ask hw hR, List.replicate 32 0, by simp, false, ⟨esA, ⟨⟨cA, ha⟩, hA.kOk⟩, ?_⟩, fun _ => hno fun j j1 j2 hj _ => hk ⟨j, j1, j2, hj⟩, fun e => by simp at e⟩
    rw [lk_va, hkey, hout]
theorem nwM {K : Nat → PH → Prop} (hk : ∀ b h', h b = none → h' b = some (.map #[] 0) → Chg [] [b] h h' → K b h') : newH h (.map #[] 0) K :=
  fun b hb => hk b _ hb (PH.upd_same ..) (Chg.new _ hb)
/-- a walk's first state, ahead of its first ask -/
def wNew0 (S : List PrR) (R : List UInt8) : WS := ⟨S, R, fun _ => none, fun _ => none, textsT S⟩
def NewJ (g : PH) (N : List Nat) (h : PH) (S : List PrR) (R : List UInt8) (st : Option Addr × Unit) (h' : PH) : Prop := ∃ wb N', st.1 = some ⟨wb, 0, none⟩ ∧ WalkAt g N' h' wb (wNew0 S R) ∧ Stp g N h g (N' ++ N) h' ∧ Dj N' N
theorem newFin {M Bt : List Nat} {h5 : PH} {tb ra rp : Nat} {tA : Option Addr} {tN tC : Nat} {S : List PrR} {R : List UInt8} (sp : Spl g N h) (c : Chg [] M h h5) (hM : ∀ b ∈ ra :: rp :: Bt, b ∈ M) (hR : R.length = 32) (ht : Tr tb g S) (ha : h5 ra = some (.map #[] 0)) (hp : h5 rp = some (.map #[] 0))
    (d3 : ra ≠ rp) (d5 : ra ∉ Bt) (d6 : rp ∉ Bt) (hB : Buf EncS 9 Bt h5 tA tN tC (textsT S)) :
    newH h5 (.cells (walkC tb R ra rp tA tN tC).toArray T_walk_Walk (0, 0)) fun bv h6 => NewJ g N h S R (some ⟨bv, 0, none⟩, ()) h6 := by
  refine nwL fun wb h6 hbn hw c6 => ?_
  have n1 : wb ≠ ra := fun e => by subst e; rw [ha] at hbn; cases hbn
  have n2 : wb ≠ rp := fun e => by subst e; rw [hp] at hbn; cases hbn
  have n4 : wb ∉ Bt := fun hm => by
    obtain ⟨o, ho⟩ := hB.has wb hm
    rw [ho] at hbn; cases hbn
  have ha6 := c6.sub0 _ _ ha
  have hp6 := c6.sub0 _ _ hp
  have hB6 := hB.sub c6.sub0
  have hH : Has (wb :: ra :: rp :: Bt) h6 := fun b hb => by
    simp only [List.mem_cons] at hb
    rcases hb with rfl | rfl | rfl | hb
    · exact ⟨_, hw⟩
    · exact ⟨_, ha6⟩
    · exact ⟨_, hp6⟩
    · exact hB6.has b hb
  have c7 : Chg [] (wb :: ra :: rp :: Bt) h h6 := ⟨fun b o _ e => c6.sub0 _ _ (c.sub0 _ _ e), fun b hb => by
    rcases List.mem_cons.1 hb with rfl | hb
    · cases e : h b with
      | none => exact .inr rfl
      | some o => rw [c.sub0 _ _ e] at hbn; cases hbn
    · exact c.2 b (hM b hb)⟩
  exact ⟨wb, wb :: ra :: rp :: Bt, rfl, ⟨⟨tb, ra, rp, [], 0, [], 0, tA, tN, tC, Bt, rfl, n1, n2, d3, n4, d5, d6, hw, ht, ha6, AskMapE.new, hp6, PartMapE.new, hB6⟩, hR, fun _ _ e => by cases e⟩, sp.own c7 hH, Dj.new sp.has c7⟩
end TL

namespace TL
open Go Go.Proofs
variable {g h : PH} {N : List Nat} {K : Value → PH → Prop} {wb : Nat} {s : WS}
theorem Chg.more {M M' : List Nat} {h h' h'' : PH} (c : Chg [] M h h') (c' : Chg [] M' h' h'') : Chg [] (M' ++ M) h h'' := ⟨fun b o _ e => c'.sub0 _ _ (c.sub0 _ _ e), fun b hb => by
  rcases List.mem_append.1 hb with hb | hb
  · rcases c'.2 b hb with h1 | h1
    · cases h1
    · cases e : h b with
      | none => exact .inr rfl
      | some o => rw [c.sub0 _ _ e] at h1; cases h1
  · exact c.2 b hb⟩
theorem notNew {B : List Nat} {h h' : PH} {b : Nat} {o : Obj} (c : Chg [] B h h') (e : h b = some o) : b ∉ B := fun hm => by
  rcases c.2 b hm with h1 | h1
  · cases h1
  · rw [e] at h1; cases h1
theorem ne_new {h : PH} {b b' : Nat} {o : Obj} (e : h b = some o) (n : h b' = none) : b ≠ b' := fun hh => by subst hh; rw [e] at n; cases n
theorem cWNew (sp : Spl g N h) {lA : Option Addr} {lC : Nat} {l : List PrR} (hl : SR EncPr g lA l) (hn : l.length ≤ 1000) (hs : ∀ x ∈ l, x.p.length ≤ 1000000) {R : List UInt8} (hR : R.length = 32)
    (hno : ¬ (mayB l = true ∧ l.length ≤ 48) → ∀ e : Int, (e = 1 ∨ e = 6) → ∀ g' h', Stp g N h g' N h' → (∀ b ∈ N, ∀ o, h b = some o → h' b = some o) → K (.tuple #[.pointer none, .int .i64 e]) h')
    (hyes : mayB l = true → l.length ≤ 48 → ∀ wb N' g' h', WalkAt g' N' h' wb (wNew l R) → Stp g N h g' (N' ++ N) h' → Dj N' N → K (.tuple #[.pointer (some ⟨wb, 0, none⟩), .int .i64 (0 : Int)]) h') :
    CallH Tryz.prog id_walk_New [.slice lA l.length lC, .agg (((bi R).map (Value.int .u8) ++ [])).toArray] K h := by
  refine F_walk_New_ok (by rw [bi_len]; exact hR) (sp.call (K := fun v g' => g.Sub g' ∧ ((mayB l = true ∧ l.length ≤ 48 ∧ ∃ b, Tr b g' l ∧ v = .tuple #[.pointer (some ⟨b, 0, none⟩), .int .i64 (0 : Int)]) ∨ (¬ (mayB l = true ∧ l.length ≤ 48) ∧ ∃ e : Int, (e = 1 ∨ e = 6) ∧ v = .tuple #[.pointer none, .int .i64 e])))
    (cOf3 hl hn hs (fun hok b h' ht _ c => ⟨c.sub0, .inl ⟨hok.1, hok.2, b, ht, rfl⟩⟩) fun hno e he _ => ⟨PH.Sub.rf _, .inr ⟨hno, e, he, rfl⟩⟩) ?_)
  rintro _ g1 h1 ⟨hgs, ⟨hm, h48, tb, ht, rfl⟩ | ⟨hnn, e, he, rfl⟩⟩ st
  · obtain ⟨st1, _⟩ := st hgs
    have sp1 := st1.spl
    have tr : ∀ {h' : PH}, h1.Sub h' → Tr tb h' l := fun hs => ht.sub (sp1.sub.tr hs)
    refine ⟨_, _, rfl, fun e => by simp at e, fun _ => ⟨NewJ g1 N h1 l R, ⟨nwM fun ra h3 n3 e3 c3 => ⟨nwM fun rp h4 n4 e4 c4 => cTexts (tr (c3.more c4).sub0) fun tA tC Bt h5 hb c5 => ⟨_, _, _, rfl, ?_⟩,
      cTexts (tr c3.sub0) fun tA tC Bt h4 hb c4 => ⟨_, _, _, rfl, nwM fun rp h5 n5 e5 c5 => ?_⟩⟩, nwM fun rp h3 n3 e3 c3 => ⟨nwM fun ra h4 n4 e4 c4 => cTexts (tr (c3.more c4).sub0) fun tA tC Bt h5 hb c5 => ⟨_, _, _, rfl, ?_⟩,
      cTexts (tr c3.sub0) fun tA tC Bt h4 hb c4 => ⟨_, _, _, rfl, nwM fun ra h5 n5 e5 c5 => ?_⟩⟩, cTexts (tr (PH.Sub.rf _)) fun tA tC Bt h3 hb c3 => ⟨_, _, _, rfl, nwM fun ra h4 n4 e4 c4 => nwM fun rp h5 n5 e5 c5 => ?_, nwM fun rp h4 n4 e4 c4 => nwM fun ra h5 n5 e5 c5 => ?_⟩⟩, ?_⟩⟩
    · exact newFin sp1 ((c3.more c4).more c5) (fun b hb => by simp only [List.mem_cons, List.mem_append, List.not_mem_nil, or_false] at hb ⊢; rcases hb with rfl | rfl | hb <;> simp [*]) hR ht (c5.sub0 _ _ (c4.sub0 _ _ e3)) (c5.sub0 _ _ e4) (ne_new e3 n4) (notNew c5 (c4.sub0 _ _ e3)) (notNew c5 e4) hb
    · exact newFin sp1 ((c3.more c4).more c5) (fun b hb => by simp only [List.mem_cons, List.mem_append, List.not_mem_nil, or_false] at hb ⊢; rcases hb with rfl | rfl | hb <;> simp [*]) hR ht (c5.sub0 _ _ (c4.sub0 _ _ e3)) e5 (ne_new (c4.sub0 _ _ e3) n5) (notNew c4 e3) (fun hm => by obtain ⟨o, ho⟩ := hb.has _ hm; rw [ho] at n5; cases n5) (hb.sub c5.sub0)
    · exact newFin sp1 ((c3.more c4).more c5) (fun b hb => by simp only [List.mem_cons, List.mem_append, List.not_mem_nil, or_false] at hb ⊢; rcases hb with rfl | rfl | hb <;> simp [*]) hR ht (c5.sub0 _ _ e4) (c5.sub0 _ _ (c4.sub0 _ _ e3)) (Ne.symm (ne_new e3 n4)) (notNew c5 e4) (notNew c5 (c4.sub0 _ _ e3)) hb
    · exact newFin sp1 ((c3.more c4).more c5) (fun b hb => by simp only [List.mem_cons, List.mem_append, List.not_mem_nil, or_false] at hb ⊢; rcases hb with rfl | rfl | hb <;> simp [*]) hR ht e5 (c5.sub0 _ _ (c4.sub0 _ _ e3)) (Ne.symm (ne_new (c4.sub0 _ _ e3) n5)) (fun hm => by obtain ⟨o, ho⟩ := hb.has _ hm; rw [ho] at n5; cases n5) (notNew c4 e3) (hb.sub c5.sub0)
    · exact newFin sp1 ((c3.more c4).more c5) (fun b hb => by simp only [List.mem_cons, List.mem_append, List.not_mem_nil, or_false] at hb ⊢; rcases hb with rfl | rfl | hb <;> simp [*]) hR ht (c5.sub0 _ _ e4) e5 (ne_new e4 n5) (fun hm => by obtain ⟨o, ho⟩ := hb.has _ hm; rw [ho] at n4; cases n4) (fun hm => by obtain ⟨o, ho⟩ := hb.has _ hm; rw [c4.sub0 _ _ ho] at n5; cases n5) ((hb.sub c4.sub0).sub c5.sub0)
    · exact newFin sp1 ((c3.more c4).more c5) (fun b hb => by simp only [List.mem_cons, List.mem_append, List.not_mem_nil, or_false] at hb ⊢; rcases hb with rfl | rfl | hb <;> simp [*]) hR ht e5 (c5.sub0 _ _ e4) (Ne.symm (ne_new e4 n5)) (fun hm => by obtain ⟨o, ho⟩ := hb.has _ hm; rw [c4.sub0 _ _ ho] at n5; cases n5) (fun hm => by obtain ⟨o, ho⟩ := hb.has _ hm; rw [ho] at n4; cases n4) ((hb.sub c4.sub0).sub c5.sub0)
    · rintro ⟨w, u⟩ h2 ⟨wb, N', hw, x, st2, d⟩
      dsimp only at hw
      subst hw
      refine cWAsk (lv := 0) (i := 0) x st2.spl.left (by decide) (by decide) hR fun h6 x6 st6 => ?_
      obtain ⟨sf, d6⟩ := st6.frame st2.spl d.symm
      exact hyes hm h48 wb N' g1 h6 x6 (st1.trans (st2.trans sf)) d
  · obtain ⟨st1, keep1⟩ := st hgs
    refine ⟨_, _, rfl, fun _ => hno hnn e he g1 h1 st1 keep1, fun e2 => ?_⟩
    rcases he with rfl | rfl <;> simp at e2
theorem cWTexts (x : WalkAt g N h wb s) (hn : s.T.length ≤ 1000000) (hk : ∀ a' c' B' h', Buf EncS 9 B' h' a' s.T.length c' s.T → Chg [] B' h h' → K (.slice a' s.T.length c') h') : CallH Tryz.prog id_walk_Walk_Texts [.pointer (some ⟨wb, 0, none⟩)] K h := by
  refine F_walk_Walk_Texts_ok (cWNone x ⟨_, rfl, fun e => (by cases e), fun _ => ?_⟩)
  obtain ⟨⟨tb, ra, rp, esA, cA, esP, cP, tA, tN, tC, Bt, rfl, d1, d2, d3, d4, d5, d6, hw, ht, ha, hA, hp, hP, hB⟩, hR, hL⟩ := x
  have hl := hB.1
  subst hl
  exact ⟨wb, 0, rfl, _, _, _, wk_text hw hR, cCloneStr hB.sr hn fun a' c' B' h' hb' hc' => ⟨_, _, _, rfl, hk a' c' B' h' hb' hc'⟩⟩
theorem cWRoot (x : WalkAt g N h wb s) (hk : K (.agg (((bi s.R).map (Value.int .u8) ++ [])).toArray) h) : CallH Tryz.prog id_walk_Walk_Root [.pointer (some ⟨wb, 0, none⟩)] K h := by
  refine F_walk_Walk_Root_ok (cWNone x ⟨_, rfl, fun e => (by cases e), fun _ => ?_⟩)
  obtain ⟨⟨tb, ra, rp, esA, cA, esP, cP, tA, tN, tC, Bt, rfl, d1, d2, d3, d4, d5, d6, hw, ht, ha, hA, hp, hP, hB⟩, hR, hL⟩ := x
  exact ⟨wb, 0, rfl, bi s.R, by rw [bi_len]; exact hR, wk_root hw hR, hk⟩
end TL

namespace TL
open Go Go.Proofs
variable {g h : PH} {N : List Nat} {K : Value → PH → Prop} {wb : Nat} {s : WS}
theorem askP_16 : ∀ k : Nat, k < 32 → 1 ≤ k → (k < 16 ↔ (askP k).1 < 4) := by decide +kernel
theorem askP_nn : ∀ k : Nat, k < 32 → 1 ≤ k → 0 ≤ (askP k).1 ∧ (askP k).1 ≤ 4 ∧ 0 ≤ (askP k).2 ∧ (askP k).2 < 16 := by decide +kernel
theorem askP_kids : ∀ k : Nat, k < 16 → 1 ≤ k → k.log2 + 1 ≤ 4 ∧ 2 * (k - 2 ^ k.log2) + 1 < 2 ^ (k.log2 + 1) ∧ 2 ^ (k.log2 + 1) + 2 * (k - 2 ^ k.log2) = 2 * k := by decide +kernel
theorem cWNode (x : WalkAt g N h wb s) (sp : Spl g N h) {lv i : Int} {a b : List UInt8} (ha : a.length = 32) (hb : b.length = 32) (hT : s.T.length ≤ 100000)
    (hno : (∀ k, 1 ≤ k → k < 16 → askP k = (lv, i) → s.A k ≠ some (shaN (innT a b))) → ∀ h', WalkAt g N h' wb s → Stp g N h g N h' → K (.bool false) h')
    (hyes : ∀ k N' h', 1 ≤ k → k < 16 → askP k = (lv, i) → s.A k = some (shaN (innT a b)) → WalkAt g N' h' wb (wIn s k a b) → Stp g N h g N' h' → K (.bool true) h') :
    CallH Tryz.prog id_walk_Walk_Node [.pointer (some ⟨wb, 0, none⟩), .int .i64 lv, .int .i64 i, .agg (((bi a).map (Value.int .u8) ++ [])).toArray, .agg (((bi b).map (Value.int .u8) ++ [])).toArray] K h := by
  refine F_walk_Walk_Node_ok (by rw [bi_len, ha]) (by rw [bi_len, hb]) (nwL fun b1 h1 n1 hb1 c1 => nwL fun b2 h2 n2 hb2 c2 => ?_)
  have s2 : h.Sub h2 := c1.sub0.tr c2.sub0
  have hb1 := c2.sub0 _ _ hb1
  have nb1 : b1 ∉ N := fun hm => by obtain ⟨o, ho⟩ := sp.has _ hm; rw [ho] at n1; cases n1
  have nb2 : b2 ∉ N := fun hm => by obtain ⟨o, ho⟩ := sp.has _ hm; rw [c1.sub0 _ _ ho] at n2; cases n2
  have st2 := sp.grow s2
  have x2 : WalkAt g N h2 wb s := x.keep (PH.Sub.rf _) fun q _ o e => s2 q o e
  refine cWNone x2 ⟨_, rfl, fun e => hno (fun k k1 k2 hk _ => ?_) h2 x2 st2, fun e => ?_⟩
  · have := askP_nn k (by omega) k1
    have h16 := (askP_16 k (by omega) k1).1 k2
    rw [hk] at this h16
    simp only [Bool.false_or, Bool.or_eq_true, decide_eq_true_eq] at e
    dsimp only at this h16
    omega
  · have str1 : ∀ {h' : PH}, h2.Sub h' → strH h' (slA (some ⟨b1, 0, none⟩ : Option Addr) 1 (0 : Int) ((32 : Nat) : Int)) (((32 : Nat) : Int).toNat - (0 : Int).toNat) (mk a) := fun hs => by
      have := (sr_bi (hs _ _ hb1)).str
      rw [ha] at this; exact this
    have str2 : ∀ {h' : PH}, h2.Sub h' → strH h' (slA (some ⟨b2, 0, none⟩ : Option Addr) 1 (0 : Int) ((32 : Nat) : Int)) (((32 : Nat) : Int).toNat - (0 : Int).toNat) (mk b) := fun hs => by
      have := (sr_bi (hs _ _ hb2)).str
      rw [hb] at this; exact this
    have rd1 : ∀ {h' : PH}, h' b1 = h2 b1 → h'.rds b1 0 32 = some ((bi a).map (Value.int .u8) ++ []) := fun he => by
      rw [hb1] at he
      rw [List.append_nil] at he ⊢
      exact rds_mid' (pre := []) (post := []) he (by simp) rfl (by rw [List.length_map, bi_len, ha])
    have rd2 : ∀ {h' : PH}, h' b2 = h2 b2 → h'.rds b2 0 32 = some ((bi b).map (Value.int .u8) ++ []) := fun he => by
      rw [hb2] at he
      rw [List.append_nil] at he ⊢
      exact rds_mid' (pre := []) (post := []) he (by simp) rfl (by rw [List.length_map, bi_len, hb])
    refine ⟨bi a, by rw [bi_len, ha], rd1 rfl, bi b, by rw [bi_len, hb], rd2 rfl, by decide, mk a, str1 (PH.Sub.rf _), ?_, by decide, mk b, str2 (PH.Sub.rf _), ?_, cInner ha hb fun h4 s4 => ⟨bi (shaN (innT a b)), by rw [bi_len, shaN_len], rfl, str2 s4, str1 s4, ?_⟩⟩
    · have : (mk a).size = 32 := by rw [size_mk, ha]
      rw [this]; decide
    · rw [show (⟨#[78]⟩ : ByteArray) = mk [78] from rfl, mk_append, size_mk, size_mk, List.length_append, ha, hb]; decide
    · rw [show (⟨#[78]⟩ : ByteArray) = mk [78] from rfl, mk_append, mk_append]
      have st4 := st2.trans (st2.spl.grow s4)
      have x4 : WalkAt g N h4 wb s := x2.keep (PH.Sub.rf _) fun q _ o e => s4 q o e
      refine cWFits (t := innT a b) x4 st4.spl (shaN_len _) hT (fun hn => ⟨_, rfl, fun _ => hno (fun k k1 k2 hk => hn k k1 (by omega) hk) h4 x4 st4, fun e => by simp at e⟩) fun k N5 h5 k1 k2 hk hA x5 st5 => ⟨_, rfl, fun e => by simp at e, fun _ => ?_⟩
      have k16 : k < 16 := (askP_16 k k2 k1).2 (by
        rw [hk]
        simp only [Bool.false_or, Bool.or_eq_false_iff, decide_eq_false_iff_not] at e
        dsimp only; omega)
      obtain ⟨q1, q2, q3⟩ := askP_kids k k16 k1
      have hlv : lv = ((k.log2 : Nat) : Int) := (congrArg Prod.fst hk).symm
      have hi : i = ((k - 2 ^ k.log2 : Nat) : Int) := (congrArg Prod.snd hk).symm
      have w1 : IntKind.wrap .i64 (lv + 1) = ((k.log2 + 1 : Nat) : Int) := by rw [hlv, wrap64] <;> omega
      have w2 : IntKind.wrap .i64 ((2 : Int) * i) = ((2 * (k - 2 ^ k.log2) : Nat) : Int) := by rw [hi, wrap64] <;> omega
      have w3 : IntKind.wrap .i64 (((2 * (k - 2 ^ k.log2) : Nat) : Int) + 1) = ((2 * (k - 2 ^ k.log2) + 1 : Nat) : Int) := by rw [wrap64] <;> omega
      rw [w1, w2, w3]
      have e1 : h5 b1 = h2 b1 := by
        have := st5.chg.keep (s4 _ _ hb1) nb1
        rw [hb1]; exact this
      have e2 : h5 b2 = h2 b2 := by
        have := st5.chg.keep (s4 _ _ hb2) nb2
        rw [hb2]; exact this
      have n25 : b2 ∉ N5 := fun hm => by
        rcases st5.chg.2 b2 hm with h6 | h6
        · exact nb2 h6
        · rw [s4 _ _ hb2] at h6; cases h6
      refine ⟨bi a, by rw [bi_len, ha], rd1 e1, cWAsk x5 st5.spl q1 (by omega) ha fun h6 x6 st6 => ⟨bi b, by rw [bi_len, hb], rd2 ?_, ?_⟩⟩
      · have := st6.chg.keep (o := .cells ((bi b).map (Value.int .u8) ++ []).toArray T_api_Hash (0, 0)) (by rw [e2]; exact hb2) n25
        rw [this, hb2]
      · refine cWAsk x6 st6.spl q1 q2 hb fun h7 x7 st7 => ?_
        have r1 : 2 ^ (k.log2 + 1) + 2 * (k - 2 ^ k.log2) = 2 * k := q3
        have r2 : 2 ^ (k.log2 + 1) + (2 * (k - 2 ^ k.log2) + 1) = 2 * k + 1 := by omega
        rw [r1, r2] at x7
        exact hyes k N5 h7 k1 k16 hk hA x7 (st4.trans (st5.trans (st6.trans st7)))
end TL

namespace TL
open Go Go.Proofs
variable {g h : PH} {N : List Nat} {K : Value → PH → Prop} {wb : Nat} {s : WS}
theorem cPageOut {lA : Option Addr} {lN lC : Nat} {i : Int} (hi : ¬ (0 ≤ i ∧ i < 16)) (hk : K (.tuple #[.string (⟨#[]⟩ : ByteArray), .int .i64 (1 : Int)]) h) : CallH Tryz.prog id_bucket_Page [.int .i64 i, .slice lA lN lC] K h := by
  have hf : (decide (i ≥ (0 : Int)) && decide (i < (16 : Int))) = false := by
    rw [Bool.eq_false_iff]
    intro e
    simp only [Bool.and_eq_true, decide_eq_true_eq] at e
    omega
  refine F_bucket_Page_ok ⟨fun _ _ => False, F_bucket_bucket_ok ⟨_, rfl, fun e => ?_, fun _ => hk⟩, fun _ _ h => h.elim⟩
  rw [hf] at e; cases e
theorem pgOk_iff {i : Nat} {l : List PrR} : (mayB l = true ∧ (partB l i).length = l.length ∧ l.length ≤ 48) ↔ PgOk i l := by
  refine ⟨fun ⟨h1, h2, h3⟩ => ⟨h1, fun x hx => ?_, h3⟩, fun ⟨h1, h2, h3⟩ => ⟨h1, ?_, h3⟩⟩
  · have h4 : ∀ y ∈ l, (bkt y.p == i) = true := List.length_filter_eq_length_iff.1 h2
    simpa using h4 x hx
  · exact List.length_filter_eq_length_iff.2 fun y hy => by simp [h2 y hy]
theorem cWPage (x : WalkAt g N h wb s) (sp : Spl g N h) {i : Int} {lA : Option Addr} {lC : Nat} {l : List PrR} (hl : SR EncPr g lA l) (hn : l.length ≤ 1000) (hs : ∀ x ∈ l, x.p.length ≤ 1000000) (hT : s.T.length ≤ 100000)
    (hno : (∀ k : Nat, k < 16 → i = k → PgOk k l → s.A (16 + k) ≠ some (shaN (76 :: pageL l))) → ∀ h', WalkAt g N h' wb s → Stp g N h g N h' → K (.bool false) h')
    (hyes : ∀ (k : Nat) g' N' h', k < 16 → i = k → PgOk k l → s.A (16 + k) = some (shaN (76 :: pageL l)) → WalkAt g' N' h' wb (wPg s k l) → Stp g N h g' N' h' → K (.bool true) h') :
    CallH Tryz.prog id_walk_Walk_Page [.pointer (some ⟨wb, 0, none⟩), .int .i64 i, .slice lA l.length lC] K h := by
  refine F_walk_Walk_Page_ok (cWNone x ⟨_, rfl, fun e => (by cases e), fun _ => ?_⟩)
  by_cases hi : ¬ (0 ≤ i ∧ i < 16)
  · exact cPageOut hi ⟨_, _, rfl, fun e => by simp at e, fun _ => hno (fun k hk e _ => absurd (show 0 ≤ i ∧ i < 16 by omega) hi) h x (Stp.refl sp)⟩
  have hi : 0 ≤ i ∧ i < 16 := Classical.not_not.1 hi
  obtain ⟨k, rfl⟩ : ∃ k : Nat, i = k := ⟨i.toNat, by omega⟩
  have hk : k < 16 := by omega
  refine cPage hk (hl.sub sp.sub) (by omega) hs fun h2 s2 => ⟨_, _, rfl, fun e => ?_, fun e => ?_⟩
  · have hok : PgOk k l := by
      refine pgOk_iff.1 ?_
      unfold pageV at e
      split at e
      · rename_i hh
        split at e
        · rename_i h48; exact ⟨hh.1, hh.2, h48⟩
        · simp at e
      · simp at e
    have hpv := page_ok hok
    rw [hpv]
    dsimp only
    have hpl := page_len hok
    have st2 := sp.grow s2
    have x2 : WalkAt g N h2 wb s := x.keep (PH.Sub.rf _) fun q _ o e => s2 q o e
    refine cLeaf (by omega) fun h3 s3 => ⟨bi (shaN (76 :: pageL l)), by rw [bi_len, shaN_len], rfl, ?_, ?_⟩
    · rw [size_mk]; show ((1 + (pageL l).length : Nat) : Int) ≤ _; omega
    rw [show (⟨#[76]⟩ : ByteArray) = mk [76] from rfl, mk_append]
    have st3 := st2.trans (st2.spl.grow s3)
    have x3 : WalkAt g N h3 wb s := x2.keep (PH.Sub.rf _) fun q _ o e => s3 q o e
    have hap : askP (2 ^ 4 + k) = (4, (k : Int)) := askP_at 4 (by decide) k hk hk
    refine cWFits (t := 76 :: pageL l) x3 st3.spl (shaN_len _) hT (fun hn => ⟨_, rfl, fun _ => hno (fun j _ ej _ => ?_) h3 x3 st3, fun e => by simp at e⟩) fun j N5 h5 j1 j2 hj hA x5 st5 => ⟨_, rfl, fun e => by simp at e, fun _ => ?_⟩
    · have : j = k := by omega
      subst this
      exact hn (16 + j) (by omega) (by omega) hap
    have hjk : j = 16 + k := askP_inj j j2 (2 ^ 4 + k) (show 16 + k < 32 by omega) j1 (show 1 ≤ 16 + k by omega) (hj.trans hap.symm)
    subst hjk
    obtain ⟨⟨tb, ra, rp, esA, cA, esP, cP, tA, tN, tC, Bt, rfl, d1, d2, d3, d4, d5, d6, hw, ht, ha, hA5, hp, hP, hB⟩, hR, hL⟩ := x5
    refine ⟨wb, 0, rfl, _, wk_part hw hR, cClonePr (hl.sub st5.spl.sub) hn fun a6 c6 B6 h6 hb6 cc6 => ⟨_, _, _, rfl, wk_part (cc6.sub0 _ _ hw) hR, rp, esP, cP, rfl, cc6.sub0 _ _ hp, hP.key, ?_⟩⟩
    have st6 := st5.spl.new cc6
    have hsr : SR EncPr (PH.plus g h6 B6) a6 l := (hb6.keep fun b hb o e => by rw [plus_in hb]; exact e).sr
    have hw6 := cc6.sub0 _ _ hw
    have ha6 := cc6.sub0 _ _ ha
    have hB6 := hB.sub cc6.sub0
    have cc : Chg [rp] [rp] h6 (h6.upd rp (.map (upM esP (.int .i64 (k : Int)) (.slice a6 l.length c6) cP).1.toArray (upM esP (.int .i64 (k : Int)) (.slice a6 l.length c6) cP).2)) := Chg.upd _
    have hw7 := cc.keep hw6 (by simpa using d2)
    have ha7 := cc.keep ha6 (by simpa using d3)
    have hB7 := hB6.chg cc fun b hb hm => by rw [List.mem_singleton] at hm; subst hm; exact d6 hb
    have st7 := st6.spl.chg (cc.sub (C := wb :: ra :: rp :: Bt) (fun b hb => by simp at hb; subst hb; simp) fun b hb => .inr hb) (fun b hb => by
      simp only [List.mem_cons] at hb
      rcases hb with rfl | rfl | rfl | hb
      · exact ⟨_, hw7⟩
      · exact ⟨_, ha7⟩
      · exact ⟨_, PH.upd_same _ _ _⟩
      · exact hB7.has b hb)
    exact hyes k _ (wb :: ra :: rp :: Bt) _ hk rfl hok hA ⟨⟨tb, ra, rp, esA, cA, _, _, tA, tN, tC, Bt, rfl, d1, d2, d3, d4, d5, d6, hw7, ht.sub st6.gs, ha7, hA5, PH.upd_same _ _ _, (hP.sub st6.gs).put hk hsr, hB7⟩, hR, hL⟩ (st3.trans (st5.trans (st6.trans st7)))
  · refine hno (fun j _ ej hj => ?_) h2 (x.keep (PH.Sub.rf _) fun q _ o e => s2 q o e) (sp.grow s2)
    have : j = k := by omega
    subst this
    rw [page_ok hj] at e
    simp at e
end TL

namespace TL
open Go Go.Proofs
variable {g h : PH} {N : List Nat} {K : Value → PH → Prop} {wb : Nat} {s : WS}
theorem ltA_ext : ∀ {l m : List (Int × Int)}, l.Pairwise ltA → m.Pairwise ltA → (∀ x, x ∈ l ↔ x ∈ m) → l = m
  | [], [], _, _, _ => rfl
  | [], b :: m, _, _, h => by have := (h b).2 List.mem_cons_self; cases this
  | a :: l, [], _, _, h => by have := (h a).1 List.mem_cons_self; cases this
  | a :: l, b :: m, h1, h2, h => by
    obtain ⟨h1, h1'⟩ := List.pairwise_cons.1 h1
    obtain ⟨h2, h2'⟩ := List.pairwise_cons.1 h2
    have irr : ∀ x : Int × Int, ¬ ltA x x := fun x => by unfold ltA; omega
    have e : a = b := by
      rcases List.mem_cons.1 ((h a).1 List.mem_cons_self) with e | e
      · exact e
      · rcases List.mem_cons.1 ((h b).2 List.mem_cons_self) with e2 | e2
        · exact e2.symm
        · have q1 := h2 a e
          have q2 := h1 b e2
          unfold ltA at q1 q2; omega
    subst e
    rw [ltA_ext h1' h2' fun x => ⟨fun hx => ?_, fun hx => ?_⟩]
    · rcases List.mem_cons.1 ((h x).1 (List.mem_cons_of_mem _ hx)) with e | e
      · subst e; exact absurd (h1 x hx) (irr x)
      · exact e
    · rcases List.mem_cons.1 ((h x).2 (List.mem_cons_of_mem _ hx)) with e | e
      · subst e; exact absurd (h2 x hx) (irr x)
      · exact e
theorem wList_mem {A : Nat → Option (List UInt8)} {k : Nat} : k ∈ wList A ↔ k < 32 ∧ (A k).isSome = true := by
  unfold wList
  rw [List.mem_filter, List.mem_range]
theorem wList_sorted {A : Nat → Option (List UInt8)} (h0 : A 0 = none) : ((wList A).map askP).Pairwise ltA := by
  rw [List.pairwise_map]
  refine List.Pairwise.imp_of_mem (R := fun a b => a < b) (fun {a b} ha hb hab => ?_) (List.pairwise_lt_range.sublist List.filter_sublist)
  obtain ⟨a1, a2⟩ := wList_mem.1 ha
  obtain ⟨b1, b2⟩ := wList_mem.1 hb
  have n0 : ∀ k : Nat, (A k).isSome = true → 1 ≤ k := fun k hk => by
    rcases Nat.eq_zero_or_pos k with rfl | h
    · rw [h0] at hk; cases hk
    · exact h
  exact (askP_lt a a1 b b1 (n0 a a2) (n0 b b2)).2 hab
theorem asked_row {es : List MapEntry} {c : Nat} {A : Nat → Option (List UInt8)} (x : AskMapE es c A) (h0 : A 0 = none) {l : List (Int × Int)} (hp : (l.map keyV).Perm (es.map (·.key))) (hs : l.Pairwise fun a b => ¬ ltA b a) : l = (wList A).map askP := by
  have hnd : (es.map (·.key)).Nodup := by
    refine List.pairwise_map.2 (List.Pairwise.imp_of_mem (fun {a b} ha hb hab e => ?_) x.nd)
    rw [(keq_eq (x.kOk a ha) (x.kOk b hb)).2 e] at hab; cases hab
  have hln : l.Nodup := by
    have := hp.nodup_iff.2 hnd
    exact List.Pairwise.imp (fun h e => h (by rw [e])) (List.pairwise_map.1 this)
  have hmem : ∀ p : Int × Int, p ∈ l ↔ keyV p ∈ es.map (·.key) := fun p => by
    rw [← hp.mem_iff, List.mem_map]
    exact ⟨fun h => ⟨p, h, rfl⟩, fun ⟨q, hq, e⟩ => keyV_inj e ▸ hq⟩
  refine ltA_ext ?_ (wList_sorted h0) fun p => ?_
  · refine List.Pairwise.imp (fun {a b} h => ?_) (hs.and hln)
    obtain ⟨h1, h2⟩ := h
    have : ¬ (a.1 = b.1 ∧ a.2 = b.2) := fun e => h2 (Prod.ext e.1 e.2)
    unfold ltA at *; omega
  · rw [hmem p, List.mem_map]
    refine ⟨fun ⟨e, he, ek⟩ => ?_, fun hk => ?_⟩
    · obtain ⟨k, k1, k2, hk⟩ := x.key e he
      have hpk : p = askP k := keyV_inj (ek.symm.trans hk)
      subst hpk
      refine List.mem_map.2 ⟨k, wList_mem.2 ⟨k2, ?_⟩, rfl⟩
      cases hA : A k with
      | some y => rfl
      | none =>
        have hv := x.at_ k k1 k2
        rw [hA] at hv
        have := va_none.1 hv e he
        rw [hk, keyV_keq] at this
        simp at this
    · obtain ⟨k, hkm, rfl⟩ := List.mem_map.1 hk
      obtain ⟨k2, hs⟩ := wList_mem.1 hkm
      have k1 : 1 ≤ k := by
        rcases Nat.eq_zero_or_pos k with rfl | h
        · rw [h0] at hs; cases hs
        · exact h
      obtain ⟨y, hy⟩ := Option.isSome_iff_exists.1 hs
      have hv := x.at_ k k1 k2
      rw [hy] at hv
      have hnn : ¬ va es (keyV (askP k)) = none := by rw [hv]; simp
      rw [va_none] at hnn
      obtain ⟨e, he⟩ := Classical.not_forall.1 hnn
      obtain ⟨he, hq⟩ := Classical.not_imp.1 he
      have hq : keq (keyV (askP k)) e.key = true := by simpa using hq
      exact ⟨e, he, ((keq_eq (keyV_ok _) (x.kOk e he)).1 hq).symm⟩
theorem AskMapE.len {es : List MapEntry} {c : Nat} {A : Nat → Option (List UInt8)} (x : AskMapE es c A) : es.length ≤ 32 := by
  have hnd : (es.map (·.key)).Nodup := by
    refine List.pairwise_map.2 (List.Pairwise.imp_of_mem (fun {a b} ha hb hab e => ?_) x.nd)
    rw [(keq_eq (x.kOk a ha) (x.kOk b hb)).2 e] at hab; cases hab
  have := List.Nodup.length_le_of_subset (l₂ := (List.range 32).map fun k => keyV (askP k)) hnd fun v hv => by
    obtain ⟨e, he, rfl⟩ := List.mem_map.1 hv
    obtain ⟨k, _, k2, hk⟩ := x.key e he
    exact List.mem_map.2 ⟨k, List.mem_range.2 k2, hk.symm⟩
  simpa using this
theorem take_min_len {α : Type} (l : List α) (n : Nat) : l.take (min n l.length) = l.take n := by
  rcases Nat.le_total n l.length with h | h
  · rw [Nat.min_eq_left h]
  · rw [Nat.min_eq_right h, List.take_length, List.take_of_length_le h]
theorem cWWant (x : WalkAt g N h wb s) (h0 : s.A 0 = none) {n : Int} (hk : ∀ a' c' h', h.Sub h' → SR EncAsk h' a' (((wList s.A).map askP).take n.toNat) → K (.slice a' (((wList s.A).map askP).take n.toNat).length c') h') :
    CallH Tryz.prog id_walk_Walk_Want [.pointer (some ⟨wb, 0, none⟩), .int .i64 n] K h := by
  refine F_walk_Walk_Want_ok (cWNone x ⟨_, rfl, fun e => ?_, fun e => ?_⟩)
  · have e : n < 1 := by simpa using e
    have hn : n.toNat = 0 := by omega
    have := hk none 0 h (PH.Sub.rf _) (by rw [hn]; exact .inl rfl)
    rw [hn] at this; exact this
  · have e : ¬ n < 1 := by simpa using e
    obtain ⟨⟨tb, ra, rp, esA, cA, esP, cP, tA, tN, tC, Bt, rfl, d1, d2, d3, d4, d5, d6, hw, ht, ha, hA, hp, hP, hB⟩, hR, hL⟩ := x
    have hlen : esA.length ≤ 1000 := by have := hA.len; omega
    refine ⟨wb, 0, rfl, _, wk_ask hw hR, F_maps_Keys_map_walk_Ask_api_Hash_walk_Ask_api_Hash_ok (nwL fun bm h1 _ hbm c1 => ⟨_, rfl, rfl, cSortedA hbm (c1.sub0 _ _ ha) (fun e he => ?_) hA.old hA.bn hlen fun l a' c' B' h2 hp2 hs2 hB2 cc2 => ⟨_, _, _, rfl, ?_, ?_⟩⟩)⟩
    · obtain ⟨k, _, _, hk⟩ := hA.key e he
      exact ⟨_, hk⟩
    · have := hB2.le
      unfold minV
      split <;> omega
    · have hl := asked_row hA h0 hp2 hs2
      have hle := hB2.le
      rw [← hl] at hk
      have e1 : (minV n ((l.length : Nat) : Int)).toNat = min n.toNat l.length := by unfold minV; split <;> omega
      have e2 : (minV n ((l.length : Nat) : Int)).toNat - (0 : Int).toNat = (l.take n.toNat).length := by rw [e1, List.length_take]; exact Nat.sub_zero _
      rw [e2]
      refine hk _ _ h2 (c1.sub0.tr cc2.sub0) ?_
      have := hB2.sr.slice (L := 0) (lo := 0) (hi := min n.toNat l.length) (mx := (c' : Int)) rfl (Nat.min_le_right _ _) (by omega)
      rw [List.drop_zero, Nat.sub_zero, take_min_len] at this
      exact this
end TL

namespace TL
open Go Go.Proofs Go.Shelf Go.RowKit Go.Lib Go.Sort
set_option maxHeartbeats 1000000 in
theorem walkLess122 (a0 a1 b0 b1 : ByteArray) (w : World) :
    Calls Tryz.prog 122 #[.agg #[.string a0, .string a1], .agg #[.string b0, .string b1]] w fun e w' => e = .returned (.int .i64 (Lib.compareBytes a0.data.toList b0.data.toList)) ∧ ∃ q os', w' = grow (w.drewN q) os' := by
  have hcon := fun W => walkCompare a0 b0 W
  generalize Lib.compareBytes a0.data.toList b0.data.toList = r at hcon ⊢
  go_enter Tryz.func122, Tryz.ntmps122
  go_wp2_with (go_at_call 123; refine (hcon _).mono ?_; rintro e w' ⟨rfl, rfl⟩)
  go_ret
  exact ⟨rfl, 0, _, by rw [alloc_eq_grow, alloc_eq_grow, grow_grow]; rfl⟩
theorem cSortW {B : List Nat} {h : PH} {K : Value → PH → Prop} {a : Option Addr} {n c : Nat} {l : List PrR} {T : TypeId} (x : Buf EncPr T B h a n c l) (hn : l.length ≤ 1000000)
    (hk : ∀ l' h', l'.Perm l → (l'.Pairwise fun a b => ¬ b.p < a.p) → Buf EncPr T B h' a n c l' → Chg B B h h' → K (.tuple #[]) h') : CallH Tryz.prog 121 [.slice a n c, .func (.func 122) #[] #[]] K h :=
  cSortPr Tryz.srtA Tryz.isAgg101 Tryz.sizeOf101 122 (enters_of Tryz.func122 (by kernel_rfl) rfl) walkLess122 x hn hk
variable {g h : PH} {N : List Nat} {K : Value → PH → Prop} {wb : Nat} {s : WS}
/-- all parts of a walk -/
def wDone (s : WS) : List PrR := (List.range 16).flatMap (wPart s)
theorem part_le {s : WS} (hS : s.S.length ≤ 48) (hQ : ∀ i l, s.Q i = some l → l.length ≤ 48) (i : Nat) : (wPart s i).length ≤ 48 := by
  unfold wPart
  cases e : s.Q i with
  | none => exact Nat.le_trans (List.length_filter_le _ _) hS
  | some l => exact hQ i l e
theorem parts_le {s : WS} (hS : s.S.length ≤ 48) (hQ : ∀ i l, s.Q i = some l → l.length ≤ 48) (n : Nat) : ((List.range n).flatMap (wPart s)).length ≤ 48 * n := by
  induction n with
  | zero => simp
  | succ n ih =>
    rw [List.range_succ, List.flatMap_append, List.length_append, List.flatMap_cons, List.flatMap_nil, List.append_nil]
    have := part_le hS hQ n
    omega
theorem parts_succ (s : WS) (n : Nat) : (List.range (n + 1)).flatMap (wPart s) = (List.range n).flatMap (wPart s) ++ wPart s n := by
  rw [List.range_succ, List.flatMap_append, List.flatMap_cons, List.flatMap_nil, List.append_nil]
theorem cWDone (x : WalkAt g N h wb s) (sp : Spl g N h) (hQ : ∀ i l, s.Q i = some l → l.length ≤ 48)
    (hno : (∃ k, 1 ≤ k ∧ k < 32 ∧ (s.A k).isSome = true) ∨ ((∀ k, 1 ≤ k → k < 32 → s.A k = none) ∧ 48 < (wDone s).length) → ∀ h', h.Sub h' → K (.tuple #[.slice none 0 0, .bool false]) h')
    (hyes : (∀ k, 1 ≤ k → k < 32 → s.A k = none) → (wDone s).length ≤ 48 → ∀ l a' c' B' h', l.Perm (wDone s) → (l.Pairwise fun a b => ¬ b.p < a.p) → Buf EncPr T_api_Pair B' h' a' l.length c' l → Chg [] B' h h' → K (.tuple #[.slice a' l.length c', .bool true]) h') :
    CallH Tryz.prog id_walk_Walk_Done [.pointer (some ⟨wb, 0, none⟩)] K h := by
  have hxx := x
  obtain ⟨⟨tb, ra, rp, esA, cA, esP, cP, tA, tN, tC, Bt, rfl, d1, d2, d3, d4, d5, d6, hw, ht, ha, hA, hp, hP, hB⟩, hR, hL⟩ := x
  have hS : s.S.length ≤ 48 := ht.le
  refine F_walk_Walk_Done_ok ⟨fun _ h' => h' = h ∧ ∀ k, 1 ≤ k → k < 32 → s.A k = none, cWNone hxx ⟨_, rfl, wb, 0, fun _ => rfl, some ra, fun _ => wk_ask hw hR, fun _ => ⟨esA.length, ⟨_, cA, ha, by simp⟩, fun e => ?_, fun e => ⟨rfl, fun k k1 k2 => ?_⟩⟩, fun e => by cases e⟩, ?_⟩
  · have e : 0 < esA.length := by have := of_decide_eq_true e; omega
    refine hno (.inl ?_) h (PH.Sub.rf _)
    have hm := List.getElem_mem e
    obtain ⟨k, k1, k2, hk⟩ := hA.key _ hm
    refine ⟨k, k1, k2, ?_⟩
    cases hAk : s.A k with
    | some y => rfl
    | none =>
      have hv := hA.at_ k k1 k2
      rw [hAk] at hv
      have := va_none.1 hv _ hm
      rw [hk, keyV_keq] at this
      simp at this
  · have e : esA = [] := List.length_eq_zero_iff.1 (by have := of_decide_eq_false e; omega)
    have hv := hA.at_ k k1 k2
    rw [e] at hv
    cases hAk : s.A k with
    | none => rfl
    | some y => rw [hAk] at hv; cases hv
  rintro _ h1 ⟨rfl, hdone⟩
  refine LoopP.ind (fun (z : (Option Addr × Nat × Nat) × Int × Unit) h' => ∃ (i : Nat) (B' : List Nat), z.2.1 = i ∧ i ≤ 16 ∧ Buf EncPr T_api_Pair B' h' z.1.1 z.1.2.1 z.1.2.2 ((List.range i).flatMap (wPart s)) ∧ Chg [] B' h1 h') (fun z _ => (16 - z.2.1).toNat) ?_
    ⟨0, [], rfl, Nat.zero_le _, Buf.nil _ _ _ _, Chg.refl _ _⟩
  rintro ⟨⟨lA, lN, lC⟩, zi, u⟩ h2 ⟨i, B2, hzi, hi, hb, hc⟩
  dsimp only at hzi hb
  subst hzi
  dsimp only
  have hw2 := hc.sub0 _ _ hw
  have hlen := parts_le hS hQ i
  have hlN := hb.1
  refine ⟨fun e => ?_, fun e => ?_⟩
  · have e : i < 16 := by have := of_decide_eq_true e; omega
    have hwi : IntKind.wrap .i64 (((i : Nat) : Int) + (1 : Int)) = ((i + 1 : Nat) : Int) := by rw [wrap64] <;> omega
    have hpl := part_le hS hQ i
    rw [hwi]
    cases hq : s.Q i with
    | none =>
      refine ⟨wb, 0, rfl, _, wk_part hw2 hR, none, 0, 0, false, ⟨esP, ⟨⟨cP, hc.sub0 _ _ hp⟩, hP.key⟩, by rw [lk_va, hP.no i e hq]⟩, fun _ => ?_, fun e2 => by simp at e2⟩
      refine ⟨wb, 0, rfl, _, wk_base hw2, cPairs ((ht.sub sp.sub).sub hc.sub0) e fun a3 c3 B3 h3 hb3 hc3 => ⟨_, _, _, rfl, EncPr.row (partB s.S i), hb3.sr.src, ?_⟩⟩
      have hpw : wPart s i = partB s.S i := by unfold wPart; rw [hq]; rfl
      have hpl2 : (partB s.S i).length ≤ 48 := hpw ▸ hpl
      refine (hb.sub hc3.sub0).append (new := partB s.S i) rfl rfl rfl (by omega) fun a4 c4 B4 h4 hb4 hc4 _ => ⟨⟨i + 1, B4, rfl, by omega, ?_, ?_⟩, by omega⟩
      · rw [parts_succ, hpw]; exact hb4
      · exact (hc.trans ⟨fun b o hb e => hc3.sub0 b o e, fun b hb => .inl hb⟩).trans hc4
    | some l =>
      obtain ⟨a3, c3, hv, hsr⟩ := hP.yes i l e hq
      have hpw : wPart s i = l := by unfold wPart; rw [hq]; rfl
      have hpl2 : l.length ≤ 48 := hpw ▸ hpl
      refine ⟨wb, 0, rfl, _, wk_part hw2 hR, a3, l.length, c3, true, ⟨esP, ⟨⟨cP, hc.sub0 _ _ hp⟩, hP.key⟩, by rw [lk_va, hv]⟩, fun e2 => by simp at e2, fun _ => ⟨EncPr.row l, ((hsr.sub sp.sub).sub hc.sub0).src, ?_⟩⟩
      refine hb.append (new := l) rfl rfl rfl (by omega) fun a4 c4 B4 h4 hb4 hc4 _ => ⟨⟨i + 1, B4, rfl, by omega, ?_, hc.trans hc4⟩, by omega⟩
      rw [parts_succ, hpw]; exact hb4
  · have e : i = 16 := by have := of_decide_eq_false e; omega
    subst e
    have hb : Buf EncPr T_api_Pair B2 h2 lA lN lC (wDone s) := hb
    refine ⟨fun e2 => hno (.inr ⟨hdone, ?_⟩) h2 hc.sub0, fun e2 => cSortW hb (by have : (wDone s).length ≤ 48 * 16 := hlen; omega) fun l h3 hp3 hs3 hb3 hc3 => ?_⟩
    · have := of_decide_eq_true e2
      have hlN : lN = (wDone s).length := hlN
      omega
    · have := of_decide_eq_false e2
      have hlN : lN = (wDone s).length := hlN
      have hl3 := hp3.length_eq
      have := hyes hdone (by omega) l lA lC B2 h3 hp3 hs3 (by rw [hl3, ← hlN]; exact hb3) (hc.trans hc3)
      rw [hl3, ← hlN] at this; exact this
end TL

namespace TL
open Go Go.Proofs
/- twinlock/twinlocklaw16.WalkNobody -/
/- twinlock/twinlocklaw16.WalkQuiet -/
/- twinlock/twinlocklaw16.WalkKnown -/
/- twinlock/twinlocklaw16.WalkPlays -/
set_option maxRecDepth 100000 in
def F_law16_WalkPlays (baseA : Option Addr) (baseN baseC : Nat) (toA : Option Addr) (toN toC : Nat) (lA : Option Addr) (lN lC : Nat) (n : Int) (K : Value → PH → Prop) (h : PH) : Prop :=
  JoinP (T := Unit) (fun Jv =>
    CallH Tryz.prog id_law16_Great [.slice lA lN lC] (fun v h2 =>
      ∃ t : Bool, v = .bool t ∧
      ((t = false →
          CallH Tryz.prog id_law13_GreatPairs [.slice baseA baseN baseC] (fun v_1 h3 =>
            ∃ t_1 : Bool, v_1 = .bool t_1 ∧
            ((t_1 = false →
                CallH Tryz.prog id_law13_GreatPairs [.slice toA toN toC] (fun v_2 h4 =>
                  ∃ t_2 : Bool, v_2 = .bool t_2 ∧
                  ((t_2 = true →
                      CallH Tryz.prog id_law16_wakes [] (fun v_3 h5 =>
                        ∃ t_3 : Bool, v_3 = .bool t_3 ∧
                        K (.bool t_3) h5) h4) ∧
                    (t_2 = false →
                      Jv (()) h4))) h3) ∧
              (t_1 = true →
                CallH Tryz.prog id_law16_wakes [] (fun v_4 h6 =>
                  ∃ t_4 : Bool, v_4 = .bool t_4 ∧
                  K (.bool t_4) h6) h3))) h2) ∧
        (t = true →
          CallH Tryz.prog id_law16_wakes [] (fun v_5 h7 =>
            ∃ t_5 : Bool, v_5 = .bool t_5 ∧
            K (.bool t_5) h7) h2))) h)
  (fun _ h1 =>
    CallH Tryz.prog id_tree_Of [.slice toA toN toC] (fun v_6 h8 =>
      ∃ t0 : Option Addr, ∃ t1 : Int, v_6 = .tuple #[.pointer t0, .int .i64 t1] ∧
      JoinP (T := Option Addr × Unit) (fun Jv_1 =>
        (((t1 != (0 : Int)) = true →
            CallH Tryz.prog id_tree_New [] (fun v_7 h10 =>
              ∃ t_6 : Option Addr, v_7 = .pointer t_6 ∧
              Jv_1 (t_6, ()) h10) h8) ∧
          ((t1 != (0 : Int)) = false →
            Jv_1 (t0, ()) h8)))
      (fun st_1 h9 =>
        CallH Tryz.prog id_tree_Tree_Root [.pointer st_1.1] (fun v_8 h11 =>
          ∃ t_7 : List Int, t_7.length = 32 ∧ v_8 = .agg ((t_7.map (Value.int .u8) ++ [])).toArray ∧
          CallH Tryz.prog id_walk_New [.slice baseA baseN baseC, .agg ((t_7.map (Value.int .u8) ++ [])).toArray] (fun v_9 h12 =>
            ∃ t0_1 : Option Addr, ∃ t1_1 : Int, v_9 = .tuple #[.pointer t0_1, .int .i64 t1_1] ∧
            CallH Tryz.prog id_tree_Tree_Root [.pointer st_1.1] (fun v_10 h13 =>
              ∃ t_8 : List Int, t_8.length = 32 ∧ v_10 = .agg ((t_8.map (Value.int .u8) ++ [])).toArray ∧
              CallH Tryz.prog id_ref16_New [.slice baseA baseN baseC, .agg ((t_8.map (Value.int .u8) ++ [])).toArray] (fun v_11 h14 =>
                ∃ t0_2 : Option Addr, ∃ t1_2 : Bool, v_11 = .tuple #[.pointer t0_2, .bool t1_2] ∧
                ((((!(t1_2 == (t1_1 == (0 : Int)))) || ((Option.isNone t0_1) == t1_2)) = true →
                    K (.bool false) h14) ∧
                  (((!(t1_2 == (t1_1 == (0 : Int)))) || ((Option.isNone t0_1) == t1_2)) = false →
                    (((!t1_2) = true →
                        CallH Tryz.prog id_ref14_May [.slice baseA baseN baseC] (fun v_12 h15 =>
                          ∃ t_9 : Bool, v_12 = .bool t_9 ∧
                          ((((t1_1 == (1 : Int)) == (!t_9)) = true →
                              CallH Tryz.prog id_law16_wakes [] (fun v_13 h16 =>
                                ∃ t_10 : Bool, v_13 = .bool t_10 ∧
                                K (.bool t_10) h16) h15) ∧
                            (((t1_1 == (1 : Int)) == (!t_9)) = false →
                              K (.bool false) h15))) h14) ∧
                      ((!t1_2) = false →
                        LoopP (T := Int × Unit) (fun Jv_2 st_2 h17 =>
                          (((decide (st_2.1 < ((lN : Nat) : Int))) = true →
                              ∃ bv ov : Nat, (lA = some ⟨bv, ov, none⟩ ∧ 0 ≤ st_2.1 ∧ st_2.1 < (lN : Nat)) ∧
                              ∃ t0_3 : Int, ∃ t1_3 : Int, ∃ t2 : Int, ∃ t3 : Int, ∃ (t4A : Option Addr) (t4N t4C : Nat), (h17.rds bv (ov + st_2.1.toNat * 5) 5 = some [.int .u8 t0_3, .int .i64 t1_3, .int .i64 t2, .int .i64 t3, .slice t4A t4N t4C]) ∧
                              CallH Tryz.prog id_law16_one [.pointer t0_1, .pointer t0_2, .pointer st_1.1, .agg #[.int .u8 t0_3, .int .i64 t1_3, .int .i64 t2, .int .i64 t3, .slice t4A t4N t4C]] (fun v_14 h18 =>
                                ∃ t_11 : Bool, v_14 = .bool t_11 ∧
                                (((!t_11) = true →
                                    K (.bool false) h18) ∧
                                  ((!t_11) = false →
                                    CallH Tryz.prog id_walk_Walk_Want [.pointer t0_1, .int .i64 n] (fun v_15 h19 =>
                                      ∃ (wantA : Option Addr) (wantN wantC : Nat), v_15 = .slice wantA wantN wantC ∧
                                      CallH Tryz.prog id_walk_Walk_Want [.pointer t0_1, .int .i64 (100 : Int)] (fun v_16 h20 =>
                                        ∃ (allA : Option Addr) (allN allC : Nat), v_16 = .slice allA allN allC ∧
                                        ∃ bv_1 ov_1 : Nat, t0_2 = some ⟨bv_1, ov_1, none⟩ ∧
                                        ∃ (tA : Option Addr) (tN tC : Nat), (h20.rds bv_1 (ov_1 + 34) 1 = some [.slice tA tN tC]) ∧
                                        (((((allN : Nat) : Int) != ((tN : Nat) : Int)) = false →
                                            ((((decide (n < (1 : Int))) && (((wantN : Nat) : Int) != (0 : Int))) = false →
                                                ((((decide (n ≥ (1 : Int))) && (((wantN : Nat) : Int) != (minV n ((allN : Nat) : Int)))) = true →
                                                    K (.bool false) h20) ∧
                                                  (((decide (n ≥ (1 : Int))) && (((wantN : Nat) : Int) != (minV n ((allN : Nat) : Int)))) = false →
                                                    LoopP (T := Int × Unit) (fun Jv_3 st_3 h21 =>
                                                      (((decide (st_3.1 < ((allN : Nat) : Int))) = true →
                                                          ∃ bv_2 ov_2 : Nat, (allA = some ⟨bv_2, ov_2, none⟩ ∧ 0 ≤ st_3.1 ∧ st_3.1 < (allN : Nat)) ∧
                                                          ∃ t_12 : Int, (h21.rds bv_2 (ov_2 + st_3.1.toNat * 2) 1 = some [.int .i64 t_12]) ∧
                                                          ∃ bv_3 ov_3 : Nat, t0_2 = some ⟨bv_3, ov_3, none⟩ ∧
                                                          ∃ (tA_1 : Option Addr) (tN_1 tC_1 : Nat), (h21.rds bv_3 (ov_3 + 34) 1 = some [.slice tA_1 tN_1 tC_1]) ∧
                                                          ∃ bv_4 ov_4 : Nat, (tA_1 = some ⟨bv_4, ov_4, none⟩ ∧ 0 ≤ st_3.1 ∧ st_3.1 < (tN_1 : Nat)) ∧
                                                          ∃ t_13 : Int, (h21.rds bv_4 (ov_4 + st_3.1.toNat * 34) 1 = some [.int .i64 t_13]) ∧
                                                          ∃ bv_5 ov_5 : Nat, (((t_12 != t_13) = false → allA = some ⟨bv_5, ov_5, none⟩ ∧ 0 ≤ st_3.1 ∧ st_3.1 < (allN : Nat))) ∧
                                                          ∃ t_14 : Int, (((t_12 != t_13) = false → h21.rds bv_5 ((ov_5 + st_3.1.toNat * 2) + 1) 1 = some [.int .i64 t_14])) ∧
                                                          ∃ bv_6 ov_6 : Nat, ((t_12 != t_13) = false → t0_2 = some ⟨bv_6, ov_6, none⟩) ∧
                                                          ∃ (tA_2 : Option Addr) (tN_2 tC_2 : Nat), (((t_12 != t_13) = false → h21.rds bv_6 (ov_6 + 34) 1 = some [.slice tA_2 tN_2 tC_2])) ∧
                                                          ∃ bv_7 ov_7 : Nat, (((t_12 != t_13) = false → tA_2 = some ⟨bv_7, ov_7, none⟩ ∧ 0 ≤ st_3.1 ∧ st_3.1 < (tN_2 : Nat))) ∧
                                                          ∃ t_15 : Int, (((t_12 != t_13) = false → h21.rds bv_7 ((ov_7 + st_3.1.toNat * 34) + 1) 1 = some [.int .i64 t_15])) ∧
                                                          ((((t_12 != t_13) || (t_14 != t_15)) = false →
                                                              ∃ bv_8 ov_8 : Nat, (((decide (st_3.1 < ((wantN : Nat) : Int))) = true → wantA = some ⟨bv_8, ov_8, none⟩ ∧ 0 ≤ st_3.1 ∧ st_3.1 < (wantN : Nat))) ∧
                                                              ∃ t0_4 : Int, ∃ t1_4 : Int, (((decide (st_3.1 < ((wantN : Nat) : Int))) = true → h21.rds bv_8 (ov_8 + st_3.1.toNat * 2) 2 = some [.int .i64 t0_4, .int .i64 t1_4])) ∧
                                                              ∃ bv_9 ov_9 : Nat, (((decide (st_3.1 < ((wantN : Nat) : Int))) = true → allA = some ⟨bv_9, ov_9, none⟩ ∧ 0 ≤ st_3.1 ∧ st_3.1 < (allN : Nat))) ∧
                                                              ∃ t0_5 : Int, ∃ t1_5 : Int, (((decide (st_3.1 < ((wantN : Nat) : Int))) = true → h21.rds bv_9 (ov_9 + st_3.1.toNat * 2) 2 = some [.int .i64 t0_5, .int .i64 t1_5])) ∧
                                                              ((((decide (st_3.1 < ((wantN : Nat) : Int))) && (!((t0_4 == t0_5) && ((t1_4 == t1_5) && true)))) = true →
                                                                  K (.bool false) h21) ∧
                                                                (((decide (st_3.1 < ((wantN : Nat) : Int))) && (!((t0_4 == t0_5) && ((t1_4 == t1_5) && true)))) = false →
                                                                  Jv_3 ((IntKind.wrap .i64 (st_3.1 + (1 : Int))), ()) h21))) ∧
                                                            (((t_12 != t_13) || (t_14 != t_15)) = true →
                                                              K (.bool false) h21))) ∧
                                                        ((decide (st_3.1 < ((allN : Nat) : Int))) = false →
                                                          Jv_2 ((IntKind.wrap .i64 (st_2.1 + (1 : Int))), ()) h21))) ((0 : Int), ()) h20))) ∧
                                              (((decide (n < (1 : Int))) && (((wantN : Nat) : Int) != (0 : Int))) = true →
                                                K (.bool false) h20))) ∧
                                          ((((allN : Nat) : Int) != ((tN : Nat) : Int)) = true →
                                            K (.bool false) h20))) h19) h18))) h17) ∧
                            ((decide (st_2.1 < ((lN : Nat) : Int))) = false →
                              CallH Tryz.prog id_walk_Walk_Done [.pointer t0_1] (fun v_17 h22 =>
                                ∃ (t0A : Option Addr) (t0N t0C : Nat), ∃ t1_6 : Bool, v_17 = .tuple #[.slice t0A t0N t0C, .bool t1_6] ∧
                                CallH Tryz.prog id_ref16_Walk_Done [.pointer t0_2] (fun v_18 h23 =>
                                  ∃ (t0A_1 : Option Addr) (t0N_1 t0C_1 : Nat), ∃ t1_7 : Bool, v_18 = .tuple #[.slice t0A_1 t0N_1 t0C_1, .bool t1_7] ∧
                                  (((t1_6 == t1_7) = true →
                                      CallH Tryz.prog id_ref13_Same [.slice t0A t0N t0C, .slice t0A_1 t0N_1 t0C_1] (fun v_19 h24 =>
                                        ∃ t_16 : Bool, v_19 = .bool t_16 ∧
                                        ∃ bv_10 ov_10 : Nat, (t_16 = true → t0_2 = some ⟨bv_10, ov_10, none⟩) ∧
                                        ∃ t_17 : List Int, t_17.length = 32 ∧ ((t_16 = true → h24.rds bv_10 (ov_10 + 2) 32 = some (t_17.map (Value.int .u8) ++ []))) ∧
                                        ((t_16 = true →
                                            CallH Tryz.prog id_walk_Walk_Root [.pointer t0_1] (fun v_20 h25 =>
                                              ∃ t_18 : List Int, t_18.length = 32 ∧ v_20 = .agg ((t_18.map (Value.int .u8) ++ [])).toArray ∧
                                              ((t_16 = true → h25.rds bv_10 (ov_10 + 2) 32 = some (t_17.map (Value.int .u8) ++ []))) ∧
                                              ∃ bv_11 ov_11 : Nat, ((t_18 == t_17) = true → t0_2 = some ⟨bv_11, ov_11, none⟩) ∧
                                              ∃ (tA_3 : Option Addr) (tN_3 tC_3 : Nat), (((t_18 == t_17) = true → h25.rds bv_11 (ov_11 + 67) 1 = some [.slice tA_3 tN_3 tC_3])) ∧
                                              (((t_18 == t_17) = true →
                                                  CallH Tryz.prog id_walk_Walk_Texts [.pointer t0_1] (fun v_21 h26 =>
                                                    ∃ (tA_4 : Option Addr) (tN_4 tC_4 : Nat), v_21 = .slice tA_4 tN_4 tC_4 ∧
                                                    (((t_18 == t_17) = true → h26.rds bv_11 (ov_11 + 67) 1 = some [.slice tA_3 tN_3 tC_3])) ∧
                                                    CallH Tryz.prog id_law13_SameTexts [.slice tA_4 tN_4 tC_4, .slice tA_3 tN_3 tC_3] (fun v_22 h27 =>
                                                      ∃ t_19 : Bool, v_22 = .bool t_19 ∧
                                                      ((t_19 = true →
                                                          CallH Tryz.prog id_law16_wakes [] (fun v_23 h28 =>
                                                            ∃ t_20 : Bool, v_23 = .bool t_20 ∧
                                                            K (.bool t_20) h28) h27) ∧
                                                        (t_19 = false →
                                                          K (.bool false) h27))) h26) h25) ∧
                                                ((t_18 == t_17) = false →
                                                  (((t_18 == t_17) = true → h25.rds bv_11 (ov_11 + 67) 1 = some [.slice tA_3 tN_3 tC_3])) ∧
                                                  K (.bool false) h25))) h24) ∧
                                          (t_16 = false →
                                            ((t_16 = true → h24.rds bv_10 (ov_10 + 2) 32 = some (t_17.map (Value.int .u8) ++ []))) ∧
                                            K (.bool false) h24))) h23) ∧
                                    ((t1_6 == t1_7) = false →
                                      K (.bool false) h23))) h22) h17))) ((0 : Int), ()) h14))))) h13) h12) h11) h9)) h1)
set_option maxRecDepth 100000 in
theorem F_law16_WalkPlays_eq {baseA : Option Addr} {baseN baseC : Nat} {toA : Option Addr} {toN toC : Nat} {lA : Option Addr} {lN lC : Nat} {n : Int} {K : Value → PH → Prop} {h : PH} : @Eq Prop (F_law16_WalkPlays baseA baseN baseC toA toN toC lA lN lC n K h) (denF Tryz.prog Tryz.f9 ⟨[], [(28, .of [0, 1, 2, 3, 4, 5, 6, 7, 8, 9, 11, 12, 13, 14, 10, 15, 16, 17, 18, 20, 21, 22, 23, 19, 24, 25, 26, 27, 28, 29])], [(0, ⟨[(15, .int .i64)], [], []⟩), (2, ⟨[(18, .int .i64)], [], []⟩)], [(8, ⟨[], [], []⟩), (14, ⟨[(9, .ptr)], [], []⟩)]⟩ [.v (.slice baseA baseN baseC), .v (.slice toA toN toC), .v (.slice lA lN lC), .v (.int .i64 n)] K h) := by
  kernel_rfl
theorem F_law16_WalkPlays_ok {baseA : Option Addr} {baseN baseC : Nat} {toA : Option Addr} {toN toC : Nat} {lA : Option Addr} {lN lC : Nat} {n : Int}  {K : Value → PH → Prop} {h : PH} (hh : F_law16_WalkPlays baseA baseN baseC toA toN toC lA lN lC n K h) : CallH Tryz.prog id_law16_WalkPlays [.slice baseA baseN baseC, .slice toA toN toC, .slice lA lN lC, .int .i64 n] K h :=
  denF_sound' Tryz.func9 (H := ⟨[], [(28, .of [0, 1, 2, 3, 4, 5, 6, 7, 8, 9, 11, 12, 13, 14, 10, 15, 16, 17, 18, 20, 21, 22, 23, 19, 24, 25, 26, 27, 28, 29])], [(0, ⟨[(15, .int .i64)], [], []⟩), (2, ⟨[(18, .int .i64)], [], []⟩)], [(8, ⟨[], [], []⟩), (14, ⟨[(9, .ptr)], [], []⟩)]⟩) (xs := [.v (.slice baseA baseN baseC), .v (.slice toA toN toC), .v (.slice lA lN lC), .v (.int .i64 n)]) (by kernel_rfl) (⟨rfl, rfl, rfl, rfl, trivial⟩) (den_of F_law16_WalkPlays_eq hh)

/- twinlock/twinlocklaw16.WalkFew -/
/- twinlock/twinlocklaw16.WalkLevel -/
/- twinlock/twinlocklaw16.wakes -/
def F_law16_wakes  (K : Value → PH → Prop) (h : PH) : Prop :=
  newH h (.cells #[.string (⟨#[97, 112, 112, 47, 97]⟩ : ByteArray), .string (⟨#[49]⟩ : ByteArray)] T_api_Pair (0, 0)) fun bv h1 =>
  CallH Tryz.prog id_tree_Of [.slice (some ⟨bv, 0, none⟩) 1 1] (fun v h2 =>
    ∃ t0 : Option Addr, ∃ t1 : Int, v = .tuple #[.pointer t0, .int .i64 t1] ∧
    ((((t1 != (0 : Int)) || (Option.isNone t0)) = true →
        K (.bool false) h2) ∧
      (((t1 != (0 : Int)) || (Option.isNone t0)) = false →
        CallH Tryz.prog id_tree_Tree_Root [.pointer t0] (fun v_1 h3 =>
          ∃ t : List Int, t.length = 32 ∧ v_1 = .agg ((t.map (Value.int .u8) ++ [])).toArray ∧
          CallH Tryz.prog id_walk_New [.slice none 0 0, .agg ((t.map (Value.int .u8) ++ [])).toArray] (fun v_2 h4 =>
            ∃ t0_1 : Option Addr, ∃ t1_1 : Int, v_2 = .tuple #[.pointer t0_1, .int .i64 t1_1] ∧
            ((((t1_1 != (0 : Int)) || (Option.isNone t0_1)) = true →
                K (.bool false) h4) ∧
              (((t1_1 != (0 : Int)) || (Option.isNone t0_1)) = false →
                LoopP (T := Int × Unit) (fun Jv st h5 =>
                  CallH Tryz.prog id_walk_Walk_Want [.pointer t0_1, .int .i64 (1 : Int)] (fun v_3 h6 =>
                    ∃ (lA : Option Addr) (lN lC : Nat), v_3 = .slice lA lN lC ∧
                    ((((((lN : Nat) : Int) != (1 : Int)) || (decide (st.1 > (9 : Int)))) = true →
                        CallH Tryz.prog id_walk_Walk_Done [.pointer t0_1] (fun v_4 h7 =>
                          ∃ (t0A : Option Addr) (t0N t0C : Nat), ∃ t1_2 : Bool, v_4 = .tuple #[.slice t0A t0N t0C, .bool t1_2] ∧
                          ∃ bv_1 ov : Nat, (((t1_2 && (((t0N : Nat) : Int) == (1 : Int))) = true → t0A = some ⟨bv_1, ov, none⟩ ∧ 0 ≤ (0 : Int) ∧ (0 : Int) < (t0N : Nat))) ∧
                          ∃ t_1 : ByteArray, (((t1_2 && (((t0N : Nat) : Int) == (1 : Int))) = true → h7.rds bv_1 ((ov + (0 : Int).toNat * 2) + 1) 1 = some [.string t_1])) ∧
                          (((((t1_2 && (((t0N : Nat) : Int) == (1 : Int))) && (strEq t_1 (⟨#[49]⟩ : ByteArray))) && (st.1 == (5 : Int))) = true →
                              CallH Tryz.prog id_walk_Walk_Root [.pointer t0_1] (fun v_5 h8 =>
                                ∃ t_2 : List Int, t_2.length = 32 ∧ v_5 = .agg ((t_2.map (Value.int .u8) ++ [])).toArray ∧
                                CallH Tryz.prog id_tree_Tree_Root [.pointer t0] (fun v_6 h9 =>
                                  ∃ t_3 : List Int, t_3.length = 32 ∧ v_6 = .agg ((t_3.map (Value.int .u8) ++ [])).toArray ∧
                                  K (.bool (t_2 == t_3)) h9) h8) h7) ∧
                            ((((t1_2 && (((t0N : Nat) : Int) == (1 : Int))) && (strEq t_1 (⟨#[49]⟩ : ByteArray))) && (st.1 == (5 : Int))) = false →
                              K (.bool false) h7))) h6) ∧
                      (((((lN : Nat) : Int) != (1 : Int)) || (decide (st.1 > (9 : Int)))) = false →
                        ∃ bv_2 ov_1 : Nat, (lA = some ⟨bv_2, ov_1, none⟩ ∧ 0 ≤ (0 : Int) ∧ (0 : Int) < (lN : Nat)) ∧
                        ∃ t0_2 : Int, ∃ t1_3 : Int, (h6.rds bv_2 (ov_1 + (0 : Int).toNat * 2) 2 = some [.int .i64 t0_2, .int .i64 t1_3]) ∧
                        CallH Tryz.prog id_law16_answer [.pointer t0_1, .pointer t0, .agg #[.int .i64 t0_2, .int .i64 t1_3]] (fun v_7 h10 =>
                          ∃ t_4 : Bool, v_7 = .bool t_4 ∧
                          Jv ((IntKind.wrap .i64 (st.1 + (1 : Int))), ()) h10) h6))) h5) ((0 : Int), ()) h4))) h3) h2))) h1
theorem F_law16_wakes_eq  {K : Value → PH → Prop} {h : PH} : @Eq Prop (F_law16_wakes  K h) (denF Tryz.prog Tryz.f50 ⟨[], [], [(0, ⟨[(5, .int .i64)], [], []⟩)], []⟩ [] K h) := by
  kernel_rfl
theorem F_law16_wakes_ok   {K : Value → PH → Prop} {h : PH} (hh : F_law16_wakes  K h) : CallH Tryz.prog id_law16_wakes [] K h :=
  denF_sound' Tryz.func50 (H := ⟨[], [], [(0, ⟨[(5, .int .i64)], [], []⟩)], []⟩) (xs := []) (by kernel_rfl) (trivial) (den_of F_law16_wakes_eq hh)

/- twinlock/twinlocklaw16.Great -/
def F_law16_Great (lA : Option Addr) (lN _ : Nat) (K : Value → PH → Prop) (h : PH) : Prop :=
  (((decide (((lN : Nat) : Int) > (100 : Int))) = true →
      K (.bool true) h) ∧
    ((decide (((lN : Nat) : Int) > (100 : Int))) = false →
      LoopP (T := Int × Unit) (fun Jv st h1 =>
        (((decide (st.1 < ((lN : Nat) : Int))) = true →
            ∃ bv ov : Nat, (lA = some ⟨bv, ov, none⟩ ∧ 0 ≤ st.1 ∧ st.1 < (lN : Nat)) ∧
            ∃ (tA : Option Addr) (tN tC : Nat), (h1.rds bv ((ov + st.1.toNat * 5) + 4) 1 = some [.slice tA tN tC]) ∧
            CallH Tryz.prog id_law13_GreatPairs [.slice tA tN tC] (fun v h2 =>
              ∃ t : Bool, v = .bool t ∧
              ((t = true →
                  K (.bool true) h2) ∧
                (t = false →
                  Jv ((IntKind.wrap .i64 (st.1 + (1 : Int))), ()) h2))) h1) ∧
          ((decide (st.1 < ((lN : Nat) : Int))) = false →
            K (.bool false) h1))) ((0 : Int), ()) h))
theorem F_law16_Great_eq {lA : Option Addr} {lN lC : Nat} {K : Value → PH → Prop} {h : PH} : @Eq Prop (F_law16_Great lA lN lC K h) (denF Tryz.prog Tryz.f52 ⟨[], [], [(0, ⟨[(3, .int .i64)], [], []⟩)], []⟩ [.v (.slice lA lN lC)] K h) := by
  kernel_rfl
theorem F_law16_Great_ok {lA : Option Addr} {lN lC : Nat}  {K : Value → PH → Prop} {h : PH} (hh : F_law16_Great lA lN lC K h) : CallH Tryz.prog id_law16_Great [.slice lA lN lC] K h :=
  denF_sound' Tryz.func52 (H := ⟨[], [], [(0, ⟨[(3, .int .i64)], [], []⟩)], []⟩) (xs := [.v (.slice lA lN lC)]) (by kernel_rfl) (⟨rfl, trivial⟩) (den_of F_law16_Great_eq hh)

/- twinlock/twinlocklaw16.begin -/
/- twinlock/twinlocklaw16.answer -/
def F_law16_answer (w : Option Addr) (t : Option Addr) (a0 : Int) (a1 : Int) (K : Value → PH → Prop) (h : PH) : Prop :=
  (((a0 == (4 : Int)) = true →
      CallH Tryz.prog id_tree_Tree_Pairs [.pointer t, .int .i64 a1] (fun v h1 =>
        ∃ (tA : Option Addr) (tN tC : Nat), v = .slice tA tN tC ∧
        CallH Tryz.prog id_walk_Walk_Page [.pointer w, .int .i64 a1, .slice tA tN tC] (fun v_1 h2 =>
          ∃ t_1 : Bool, v_1 = .bool t_1 ∧
          K (.bool t_1) h2) h1) h) ∧
    ((a0 == (4 : Int)) = false →
      CallH Tryz.prog id_tree_Tree_Node [.pointer t, .int .i64 (IntKind.wrap .i64 (a0 + (1 : Int))), .int .i64 (IntKind.wrap .i64 ((2 : Int) * a1))] (fun v_2 h3 =>
        ∃ t0 : List Int, t0.length = 32 ∧ ∃ t1 : Bool, v_2 = .tuple #[.agg ((t0.map (Value.int .u8) ++ [])).toArray, .bool t1] ∧
        CallH Tryz.prog id_tree_Tree_Node [.pointer t, .int .i64 (IntKind.wrap .i64 (a0 + (1 : Int))), .int .i64 (IntKind.wrap .i64 ((IntKind.wrap .i64 ((2 : Int) * a1)) + (1 : Int)))] (fun v_3 h4 =>
          ∃ t0_1 : List Int, t0_1.length = 32 ∧ ∃ t1_1 : Bool, v_3 = .tuple #[.agg ((t0_1.map (Value.int .u8) ++ [])).toArray, .bool t1_1] ∧
          CallH Tryz.prog id_walk_Walk_Node [.pointer w, .int .i64 a0, .int .i64 a1, .agg ((t0.map (Value.int .u8) ++ [])).toArray, .agg ((t0_1.map (Value.int .u8) ++ [])).toArray] (fun v_4 h5 =>
            ∃ t_2 : Bool, v_4 = .bool t_2 ∧
            K (.bool t_2) h5) h4) h3) h))
theorem F_law16_answer_eq {w : Option Addr} {t : Option Addr} {a0 : Int} {a1 : Int} {K : Value → PH → Prop} {h : PH} : @Eq Prop (F_law16_answer w t a0 a1 K h) (denF Tryz.prog Tryz.f54 ⟨[5, 7, 9], [], [], []⟩ [.v (.pointer w), .v (.pointer t), .agg [.one (.int .i64 a0), .one (.int .i64 a1)]] K h) := by
  kernel_rfl
theorem F_law16_answer_ok {w : Option Addr} {t : Option Addr} {a0 : Int} {a1 : Int}  {K : Value → PH → Prop} {h : PH} (hh : F_law16_answer w t a0 a1 K h) : CallH Tryz.prog id_law16_answer [.pointer w, .pointer t, .agg #[.int .i64 a0, .int .i64 a1]] K h :=
  denF_sound' Tryz.func54 (H := ⟨[5, 7, 9], [], [], []⟩) (xs := [.v (.pointer w), .v (.pointer t), .agg [.one (.int .i64 a0), .one (.int .i64 a1)]]) (by kernel_rfl) (⟨rfl, rfl, ⟨rfl, rfl, trivial⟩, trivial⟩) (den_of F_law16_answer_eq hh)

/- twinlock/twinlocklaw16.one -/
def F_law16_one (w : Option Addr) (xv : Option Addr) (t : Option Addr) (a0 : Int) (a1 : Int) (a2 : Int) (a3 : Int) (a4A : Option Addr) (a4N a4C : Nat) (K : Value → PH → Prop) (h : PH) : Prop :=
  JoinP (T := Int × Int × Unit) (fun Jv =>
    (((a0 == (0 : Int)) = true →
        ∃ bv ov : Nat, xv = some ⟨bv, ov, none⟩ ∧
        ∃ (tA : Option Addr) (tN tC : Nat), (h.rds bv (ov + 34) 1 = some [.slice tA tN tC]) ∧
        (((((tN : Nat) : Int) == (0 : Int)) = true →
            K (.bool true) h) ∧
          ((((tN : Nat) : Int) == (0 : Int)) = false →
            ∃ bv_1 ov_1 : Nat, xv = some ⟨bv_1, ov_1, none⟩ ∧
            ∃ (tA_1 : Option Addr) (tN_1 tC_1 : Nat), (h.rds bv_1 (ov_1 + 34) 1 = some [.slice tA_1 tN_1 tC_1]) ∧
            (((tN_1 : Nat) : Int) ≠ 0) ∧
            JoinP (T := Int × Unit) (fun Jv_1 =>
              (((decide ((a1.tmod ((tN_1 : Nat) : Int)) < (0 : Int))) = true →
                  ∃ bv_2 ov_2 : Nat, xv = some ⟨bv_2, ov_2, none⟩ ∧
                  ∃ (tA_2 : Option Addr) (tN_2 tC_2 : Nat), (h.rds bv_2 (ov_2 + 34) 1 = some [.slice tA_2 tN_2 tC_2]) ∧
                  Jv_1 ((IntKind.wrap .i64 ((a1.tmod ((tN_1 : Nat) : Int)) + ((tN_2 : Nat) : Int))), ()) h) ∧
                ((decide ((a1.tmod ((tN_1 : Nat) : Int)) < (0 : Int))) = false →
                  Jv_1 ((a1.tmod ((tN_1 : Nat) : Int)), ()) h)))
            (fun st_1 h2 =>
              ∃ bv_3 ov_3 : Nat, xv = some ⟨bv_3, ov_3, none⟩ ∧
              ∃ (tA_3 : Option Addr) (tN_3 tC_3 : Nat), (h2.rds bv_3 (ov_3 + 34) 1 = some [.slice tA_3 tN_3 tC_3]) ∧
              ∃ bv_4 ov_4 : Nat, (tA_3 = some ⟨bv_4, ov_4, none⟩ ∧ 0 ≤ st_1.1 ∧ st_1.1 < (tN_3 : Nat)) ∧
              ∃ level : Int, (h2.rds bv_4 (ov_4 + st_1.1.toNat * 34) 1 = some [.int .i64 level]) ∧
              ∃ bv_5 ov_5 : Nat, xv = some ⟨bv_5, ov_5, none⟩ ∧
              ∃ (tA_4 : Option Addr) (tN_4 tC_4 : Nat), (h2.rds bv_5 (ov_5 + 34) 1 = some [.slice tA_4 tN_4 tC_4]) ∧
              ∃ bv_6 ov_6 : Nat, (tA_4 = some ⟨bv_6, ov_6, none⟩ ∧ 0 ≤ st_1.1 ∧ st_1.1 < (tN_4 : Nat)) ∧
              ∃ i : Int, (h2.rds bv_6 ((ov_6 + st_1.1.toNat * 34) + 1) 1 = some [.int .i64 i]) ∧
              Jv (level, i, ()) h2)))) ∧
      ((a0 == (0 : Int)) = false →
        Jv (a2, a3, ()) h)))
  (fun st h1 =>
    (((((a0 == (0 : Int)) || (a0 == (1 : Int))) && (st.1 == (4 : Int))) = true →
        CallH Tryz.prog id_tree_Tree_Pairs [.pointer t, .int .i64 st.2.1] (fun v h3 =>
          ∃ (tA_5 : Option Addr) (tN_5 tC_5 : Nat), v = .slice tA_5 tN_5 tC_5 ∧
          CallH Tryz.prog id_walk_Walk_Page [.pointer w, .int .i64 st.2.1, .slice tA_5 tN_5 tC_5] (fun v_1 h4 =>
            ∃ t_1 : Bool, v_1 = .bool t_1 ∧
            CallH Tryz.prog id_tree_Tree_Pairs [.pointer t, .int .i64 st.2.1] (fun v_2 h5 =>
              ∃ (tA_6 : Option Addr) (tN_6 tC_6 : Nat), v_2 = .slice tA_6 tN_6 tC_6 ∧
              CallH Tryz.prog id_ref16_Walk_Page [.pointer xv, .int .i64 st.2.1, .slice tA_6 tN_6 tC_6] (fun v_3 h6 =>
                ∃ t_2 : Bool, v_3 = .bool t_2 ∧
                K (.bool (t_1 == t_2)) h6) h5) h4) h3) h1) ∧
      ((((a0 == (0 : Int)) || (a0 == (1 : Int))) && (st.1 == (4 : Int))) = false →
        JoinP (T := List Int × List Int × Unit) (fun Jv_2 =>
          ((((decide (a0 ≤ (2 : Int))) && ((((decide (st.1 ≥ (0 : Int))) && (decide (st.1 ≤ (4 : Int)))) && (decide (st.2.1 ≥ (0 : Int)))) && (decide (st.2.1 < (16 : Int))))) = true →
              CallH Tryz.prog id_law16_node [.pointer t, .int .i64 (IntKind.wrap .i64 (st.1 + (1 : Int))), .int .i64 (IntKind.wrap .i64 ((2 : Int) * st.2.1))] (fun v_4 h8 =>
                ∃ leftv : List Int, leftv.length = 32 ∧ v_4 = .agg ((leftv.map (Value.int .u8) ++ [])).toArray ∧
                CallH Tryz.prog id_law16_node [.pointer t, .int .i64 (IntKind.wrap .i64 (st.1 + (1 : Int))), .int .i64 (IntKind.wrap .i64 ((IntKind.wrap .i64 ((2 : Int) * st.2.1)) + (1 : Int)))] (fun v_5 h9 =>
                  ∃ rightv : List Int, rightv.length = 32 ∧ v_5 = .agg ((rightv.map (Value.int .u8) ++ [])).toArray ∧
                  Jv_2 (leftv, rightv, ()) h9) h8) h1) ∧
            (((decide (a0 ≤ (2 : Int))) && ((((decide (st.1 ≥ (0 : Int))) && (decide (st.1 ≤ (4 : Int)))) && (decide (st.2.1 ≥ (0 : Int)))) && (decide (st.2.1 < (16 : Int))))) = false →
              Jv_2 ((List.replicate 32 0), (List.replicate 32 0), ()) h1)))
        (fun st_2 h7 =>
          JoinP (T := List Int × List Int × Unit) (fun Jv_3 =>
            (((a0 == (2 : Int)) = true →
                Jv_3 (st_2.2.1, st_2.1, ()) h7) ∧
              ((a0 == (2 : Int)) = false →
                Jv_3 (st_2.1, st_2.2.1, ()) h7)))
          (fun st_3 h10 =>
            (((a0 == (3 : Int)) = true →
                CallH Tryz.prog id_walk_Walk_Page [.pointer w, .int .i64 st.2.1, .slice a4A a4N a4C] (fun v_6 h11 =>
                  ∃ t_3 : Bool, v_6 = .bool t_3 ∧
                  CallH Tryz.prog id_ref16_Walk_Page [.pointer xv, .int .i64 st.2.1, .slice a4A a4N a4C] (fun v_7 h12 =>
                    ∃ t_4 : Bool, v_7 = .bool t_4 ∧
                    K (.bool (t_3 == t_4)) h12) h11) h10) ∧
              ((a0 == (3 : Int)) = false →
                CallH Tryz.prog id_walk_Walk_Node [.pointer w, .int .i64 st.1, .int .i64 st.2.1, .agg ((st_3.1.map (Value.int .u8) ++ [])).toArray, .agg ((st_3.2.1.map (Value.int .u8) ++ [])).toArray] (fun v_8 h13 =>
                  ∃ t_5 : Bool, v_8 = .bool t_5 ∧
                  CallH Tryz.prog id_ref16_Walk_Node [.pointer xv, .int .i64 st.1, .int .i64 st.2.1, .agg ((st_3.1.map (Value.int .u8) ++ [])).toArray, .agg ((st_3.2.1.map (Value.int .u8) ++ [])).toArray] (fun v_9 h14 =>
                    ∃ t_6 : Bool, v_9 = .bool t_6 ∧
                    K (.bool (t_5 == t_6)) h14) h13) h10)))))))
theorem F_law16_one_eq {w : Option Addr} {xv : Option Addr} {t : Option Addr} {a0 : Int} {a1 : Int} {a2 : Int} {a3 : Int} {a4A : Option Addr} {a4N a4C : Nat} {K : Value → PH → Prop} {h : PH} : @Eq Prop (F_law16_one w xv t a0 a1 a2 a3 a4A a4N a4C K h) (denF Tryz.prog Tryz.f58 ⟨[7, 13, 14], [(21, .of [0, 1, 2, 3, 5, 6, 7, 8, 4, 9, 10, 11]), (22, .of [0, 1, 2, 3, 4, 6, 7, 8, 9, 10, 5, 11, 12, 13])], [], [(24, ⟨[(9, .int .i64), (10, .int .i64)], [], []⟩), (20, ⟨[(11, .int .i64)], [], []⟩), (38, ⟨[], [], [(1, [.ints .u8 32]), (2, [.ints .u8 32])]⟩), (42, ⟨[], [], [(1, [.ints .u8 32]), (2, [.ints .u8 32])]⟩)]⟩ [.v (.pointer w), .v (.pointer xv), .v (.pointer t), .agg [.one (.int .u8 a0), .one (.int .i64 a1), .one (.int .i64 a2), .one (.int .i64 a3), .one (.slice a4A a4N a4C)]] K h) := by
  kernel_rfl
theorem F_law16_one_ok {w : Option Addr} {xv : Option Addr} {t : Option Addr} {a0 : Int} {a1 : Int} {a2 : Int} {a3 : Int} {a4A : Option Addr} {a4N a4C : Nat}  {K : Value → PH → Prop} {h : PH} (hh : F_law16_one w xv t a0 a1 a2 a3 a4A a4N a4C K h) : CallH Tryz.prog id_law16_one [.pointer w, .pointer xv, .pointer t, .agg #[.int .u8 a0, .int .i64 a1, .int .i64 a2, .int .i64 a3, .slice a4A a4N a4C]] K h :=
  denF_sound' Tryz.func58 (H := ⟨[7, 13, 14], [(21, .of [0, 1, 2, 3, 5, 6, 7, 8, 4, 9, 10, 11]), (22, .of [0, 1, 2, 3, 4, 6, 7, 8, 9, 10, 5, 11, 12, 13])], [], [(24, ⟨[(9, .int .i64), (10, .int .i64)], [], []⟩), (20, ⟨[(11, .int .i64)], [], []⟩), (38, ⟨[], [], [(1, [.ints .u8 32]), (2, [.ints .u8 32])]⟩), (42, ⟨[], [], [(1, [.ints .u8 32]), (2, [.ints .u8 32])]⟩)]⟩) (xs := [.v (.pointer w), .v (.pointer xv), .v (.pointer t), .agg [.one (.int .u8 a0), .one (.int .i64 a1), .one (.int .i64 a2), .one (.int .i64 a3), .one (.slice a4A a4N a4C)]]) (by kernel_rfl) (⟨rfl, rfl, rfl, ⟨rfl, rfl, rfl, rfl, rfl, trivial⟩, trivial⟩) (den_of F_law16_one_eq hh)

/- twinlock/twinlocklaw16.above -/
/- twinlock/twinlocklaw16.collides -/
/- twinlock/twinlocklaw16.node -/
def F_law16_node (t : Option Addr) (level : Int) (i : Int) (K : Value → PH → Prop) (h : PH) : Prop :=
  CallH Tryz.prog id_tree_Tree_Node [.pointer t, .int .i64 level, .int .i64 i] (fun v h1 =>
    ∃ t0 : List Int, t0.length = 32 ∧ ∃ t1 : Bool, v = .tuple #[.agg ((t0.map (Value.int .u8) ++ [])).toArray, .bool t1] ∧
    K (.agg ((t0.map (Value.int .u8) ++ [])).toArray) h1) h
theorem F_law16_node_eq {t : Option Addr} {level : Int} {i : Int} {K : Value → PH → Prop} {h : PH} : @Eq Prop (F_law16_node t level i K h) (denF Tryz.prog Tryz.f62 ⟨[6, 7], [], [], []⟩ [.v (.pointer t), .v (.int .i64 level), .v (.int .i64 i)] K h) := by
  kernel_rfl
theorem F_law16_node_ok {t : Option Addr} {level : Int} {i : Int}  {K : Value → PH → Prop} {h : PH} (hh : F_law16_node t level i K h) : CallH Tryz.prog id_law16_node [.pointer t, .int .i64 level, .int .i64 i] K h :=
  denF_sound' Tryz.func62 (H := ⟨[6, 7], [], [], []⟩) (xs := [.v (.pointer t), .v (.int .i64 level), .v (.int .i64 i)]) (by kernel_rfl) (⟨rfl, rfl, rfl, trivial⟩) (den_of F_law16_node_eq hh)

/- twinlock/twinlocklaw16.rest -/
end TL

namespace TL
open Go Go.Proofs
variable {g h : PH} {N : List Nat} {K : Value → PH → Prop} {wb tb : Nat} {s : WS} {S T : List PrR}
theorem nd_in {c : Nat} (h1 : 1 ≤ c) (h2 : c < 16) : nd S c = shaN (innT (nd S (2 * c)) (nd S (2 * c + 1))) := by
  unfold nd; rw [node_in _ h1 h2]
theorem nd_leaf {i : Nat} (h : i < 16) : nd S (16 + i) = shaN (76 :: pageL (partB S i)) := by
  unfold nd; rw [node_leaf _ (by omega) (by omega), show 16 + i - 16 = i by omega]; rfl
theorem askP_leaf : ∀ c : Nat, c < 32 → 16 ≤ c → (askP c).1 = 4 ∧ (askP c).2 = ((c - 16 : Nat) : Int) := by decide +kernel
theorem cAnswer (x : WalkAt g N h wb s) (sp : Spl g N h) (ht : Tr tb g T) {c : Nat} (c1 : 1 ≤ c) (c2 : c < 32) (hA : s.A c = some (nd T c)) (hT : s.T.length ≤ 100000)
    (hk : ∀ g' N' h' s', WalkAt g' N' h' wb s' → Stp g N h g' N' h' → (c < 16 → s' = wIn s c (nd T (2 * c)) (nd T (2 * c + 1))) → (16 ≤ c → s' = wPg s (c - 16) (partB T (c - 16))) → K (.bool true) h') :
    CallH Tryz.prog id_law16_answer [.pointer (some ⟨wb, 0, none⟩), .pointer (some ⟨tb, 0, none⟩), .agg #[.int .i64 (askP c).1, .int .i64 (askP c).2]] K h := by
  by_cases h16 : 16 ≤ c
  · obtain ⟨e1, e2⟩ := askP_leaf c c2 h16
    obtain ⟨i, rfl⟩ : ∃ i, c = 16 + i := ⟨c - 16, by omega⟩
    have hi : i < 16 := by omega
    have ei : 16 + i - 16 = i := by omega
    rw [ei] at hk e2
    rw [e1, e2]
    refine F_law16_answer_ok ⟨fun _ => cPairs (ht.sub sp.sub) hi fun a' c' B' h1 hb1 cc1 => ⟨_, _, _, rfl, ?_⟩, fun e => by simp at e⟩
    have st1 := sp.new cc1
    have hsr : SR EncPr (PH.plus g h1 B') a' (partB T i) := (hb1.keep fun b hb o e => by rw [plus_in hb]; exact e).sr
    have x1 : WalkAt (PH.plus g h1 B') N h1 wb s := x.keep st1.gs fun q _ o e => cc1.sub0 q o e
    have hok := part_ok ht.may ht.le i
    have hpl : (partB T i).length ≤ 48 := Nat.le_trans (List.length_filter_le _ _) ht.le
    refine cWPage (l := partB T i) x1 st1.spl hsr (by omega) (fun y hy => ?_) hT (fun hn h2 _ _ => ?_) fun k g' N' h2 k16 ek _ _ x2 st2 => ⟨_, rfl, ?_⟩
    · have := (ok_len ((may_ok hok.1).1 y hy)).1
      omega
    · exact absurd (by rw [hA, nd_leaf hi]) (hn i hi rfl hok)
    · have : k = i := by omega
      subst this
      exact hk g' N' h2 _ x2 (st1.trans st2) (fun e => by omega) fun _ => rfl
  · have c16 : c < 16 := by omega
    obtain ⟨q1, q2, q3⟩ := askP_kids c c16 c1
    have e1 : (askP c).1 = ((c.log2 : Nat) : Int) := rfl
    have e2 : (askP c).2 = ((c - 2 ^ c.log2 : Nat) : Int) := rfl
    have hl4 : ¬ ((c.log2 : Nat) : Int) = 4 := by omega
    have hlt := askP_in c c2 c1
    have w1 : IntKind.wrap .i64 ((askP c).1 + 1) = ((c.log2 + 1 : Nat) : Int) := by rw [e1, wrap64] <;> omega
    have hb16 : c - 2 ^ c.log2 < 32 := by omega
    have w2 : IntKind.wrap .i64 ((2 : Int) * (askP c).2) = ((2 * (c - 2 ^ c.log2) : Nat) : Int) := by rw [e2, wrap64] <;> omega
    have w3 : IntKind.wrap .i64 (((2 * (c - 2 ^ c.log2) : Nat) : Int) + 1) = ((2 * (c - 2 ^ c.log2) + 1 : Nat) : Int) := by rw [wrap64] <;> omega
    refine F_law16_answer_ok ⟨fun e => absurd (by simpa [e1] using e) hl4, fun _ => ?_⟩
    rw [w1, w2, w3]
    refine cNode (ht.sub sp.sub) q1 (by omega) ⟨bi (nd T (2 ^ (c.log2 + 1) + 2 * (c - 2 ^ c.log2))), by rw [bi_len, nd_len], _, rfl, cNode (ht.sub sp.sub) q1 q2 ⟨bi (nd T (2 ^ (c.log2 + 1) + (2 * (c - 2 ^ c.log2) + 1))), by rw [bi_len, nd_len], _, rfl, ?_⟩⟩
    have r2 : 2 ^ (c.log2 + 1) + (2 * (c - 2 ^ c.log2) + 1) = 2 * c + 1 := by omega
    rw [q3, r2]
    refine cWNode x sp (nd_len _ _) (nd_len _ _) hT (fun hn h2 _ _ => ?_) fun k N' h2 k1 k16 ek _ x2 st2 => ⟨_, rfl, ?_⟩
    · exact absurd (by rw [hA, nd_in c1 c16]) (hn c c1 c16 rfl)
    · have : k = c := askP_inj k (by omega) c c2 k1 c1 ek
      subst this
      exact hk g N' h2 _ x2 st2 (fun _ => rfl) fun e => by omega
/-- the way to the one page -/
def pc : Nat → Nat
  | 0 => 1
  | 1 => 2
  | 2 => 4
  | 3 => 9
  | _ => 19
def onlyA (c : Nat) : Nat → Option (List UInt8) := upF (fun _ => none) c (some (nd sApp c))
theorem wAsk_yes {A : Nat → Option (List UInt8)} {d : Nat} {x : List UInt8} (h : nd S d ≠ x) : wAsk S A d x = upF A d (some x) := by unfold wAsk; rw [if_neg h]
theorem wAsk_not {A : Nat → Option (List UInt8)} {d : Nat} {x : List UInt8} (h : nd S d = x) : wAsk S A d x = A := by unfold wAsk; rw [if_pos h]
theorem on1 : nd [] 1 ≠ nd sApp 1 := by rw [nil4, app4]; decide
theorem on2 : nd [] 2 ≠ nd sApp 2 := by rw [nil3 (by omega) (by omega), app3]; decide
theorem on4 : nd [] 4 ≠ nd sApp 4 := by rw [nil2 (by omega) (by omega), app2]; decide
theorem on9 : nd [] 9 ≠ nd sApp 9 := by rw [nil1 (by omega) (by omega), app1]; decide
theorem on19 : nd [] 19 ≠ nd sApp 19 := by rw [nil0 (by omega) (by omega), app0]; decide
theorem off_app {j : Nat} (hj : j < 32) (ha : ¬ Anc j 19) : nd [] j = nd sApp j := (app_same hj ha).symm
theorem only_off (c : Nat) : upF (onlyA c) c none = fun _ => none := by
  funext d
  by_cases e : d = c
  · subst e; rw [upF_same]
  · rw [upF_ne _ _ e]; unfold onlyA; rw [upF_ne _ _ e]
theorem next_ask : ∀ j, j < 4 → wAsk [] (wAsk [] (fun _ => none) (2 * pc j) (nd sApp (2 * pc j))) (2 * pc j + 1) (nd sApp (2 * pc j + 1)) = onlyA (pc (j + 1)) := fun j hj => by
  match j, hj with
  | 0, _ => show wAsk [] (wAsk [] _ 2 (nd sApp 2)) 3 (nd sApp 3) = onlyA 2; rw [wAsk_yes on2, wAsk_not (off_app (j := 3) (by omega) (by unfold Anc; omega))]; rfl
  | 1, _ => show wAsk [] (wAsk [] _ 4 (nd sApp 4)) 5 (nd sApp 5) = onlyA 4; rw [wAsk_yes on4, wAsk_not (off_app (j := 5) (by omega) (by unfold Anc; omega))]; rfl
  | 2, _ => show wAsk [] (wAsk [] _ 8 (nd sApp 8)) 9 (nd sApp 9) = onlyA 9; rw [wAsk_not (off_app (j := 8) (by omega) (by unfold Anc; omega)), wAsk_yes on9]; rfl
  | 3, _ => show wAsk [] (wAsk [] _ 18 (nd sApp 18)) 19 (nd sApp 19) = onlyA 19; rw [wAsk_not (off_app (j := 18) (by omega) (by unfold Anc; omega)), wAsk_yes on19]; rfl
theorem pc_in : ∀ j : Nat, j < 5 → 1 ≤ pc j ∧ pc j < 32 ∧ (j < 4 → pc j < 16) ∧ (j = 4 → pc j = 19) := by decide
theorem onlyA_list {c : Nat} (hc : c < 32) : wList (onlyA c) = [c] := by
  unfold wList
  have : (fun d => (onlyA c d).isSome) = fun d => d == c := by
    funext d
    unfold onlyA
    by_cases e : d = c
    · subst e; rw [upF_same]; simp
    · rw [upF_ne _ _ e]; simp [e]
  rw [this, range_at hc, List.filter_append, List.filter_cons]
  have z1 : (List.range c).filter (fun d => d == c) = [] := List.filter_eq_nil_iff.2 fun d hd => by have := List.mem_range.1 hd; simp; omega
  have z2 : (List.range' (c + 1) (32 - c - 1)).filter (fun d => d == c) = [] := List.filter_eq_nil_iff.2 fun d hd => by have := List.mem_range'_1.1 hd; simp; omega
  rw [z1, z2]; simp
theorem app_may : mayB sApp = true := by decide +kernel
theorem app_done {s : WS} (hS : s.S = []) (hQ : s.Q = upF (fun _ => none) 3 (some sApp)) : wDone s = sApp := by
  have h1 : ∀ i, wPart s i = if i = 3 then sApp else [] := fun i => by
    unfold wPart
    rw [hQ, hS]
    by_cases e : i = 3
    · subst e; rw [upF_same]; rfl
    · rw [upF_ne _ _ e, if_neg e]; rfl
  unfold wDone
  have : wPart s = fun i => if i = 3 then sApp else [] := funext h1
  rw [this]
  decide +kernel
theorem app_page : partB sApp 3 = sApp := by
  have : bkt pApp = 3 := bkt_app
  simp [sApp, partB, this]
theorem nil_may : mayB ([] : List PrR) = true ∧ ([] : List PrR).length ≤ 48 := by decide
structure WkI (g0 : PH) (g : PH) (N : List Nat) (h : PH) (wb : Nat) (s : WS) (j : Nat) : Prop where
  x : WalkAt g N h wb s
  st : Stp g0 [] g0 g N h
  S : s.S = []
  R : s.R = nd sApp 1
  t : s.T.length ≤ 31 + j
  a : (j < 5 ∧ s.Q = (fun _ => none) ∧ s.A = onlyA (pc j)) ∨ (j = 5 ∧ s.A = (fun _ => none) ∧ s.Q = upF (fun _ => none) 3 (some sApp))
theorem wki0 {g0 : PH} (x : WalkAt g N h wb (wNew [] (nd sApp 1))) (st : Stp g0 [] g0 g N h) : WkI g0 g N h wb (wNew [] (nd sApp 1)) 0 := by
  refine { x := x, st := st, S := ?_, R := ?_, t := ?_, a := .inl ⟨Nat.zero_lt_succ 4, ?_, ?_⟩ }
  · unfold wNew; dsimp only
  · unfold wNew; dsimp only
  · exact Nat.le_of_eq (texts_len [])
  · unfold wNew; dsimp only
  · unfold wNew; dsimp only; exact wAsk_yes on1
theorem cWakes16 (hk : ∀ h', h.Sub h' → K (.bool true) h') : CallH Tryz.prog id_law16_wakes [] K h := by
  refine F_law16_wakes_ok (nwL (cs := EncPr.row sApp) fun b0 h1 _ hb0 c1 => ?_)
  have hsr : SR EncPr h1 (some ⟨b0, 0, none⟩) sApp := .inr ⟨b0, 0, rfl, rdsL hb0 rfl rfl⟩
  refine cOfT (l := sApp) hsr app_may (by decide) fun tb h2 ht _ c2 => ⟨_, _, rfl, fun e => by simp at e, fun _ => ?_⟩
  refine cRoot ht ⟨bi (nd sApp 1), by rw [bi_len, nd_len], rfl, ?_⟩
  refine cWNew (Spl.start h2) (l := []) (.inl rfl) (by decide) (fun _ h => by cases h) (R := nd sApp 1) (nd_len _ _) (fun hn => absurd nil_may hn) fun _ _ wb N3 g3 h3 x3 st3 _ => ?_
  refine ⟨some ⟨wb, 0, none⟩, 0, rfl, fun e => ?_, fun _ => ?_⟩
  · simp at e
  rw [List.append_nil] at st3
  refine LoopP.ind (fun (z : Int × Unit) h' => ∃ (j : Nat) (g' : PH) (N' : List Nat) (s : WS), z.1 = j ∧ j ≤ 5 ∧ WkI h2 g' N' h' wb s j) (fun z _ => (5 - z.1).toNat) ?_ ⟨0, g3, N3, wNew [] (nd sApp 1), rfl, Nat.zero_le _, wki0 x3 st3⟩
  rintro ⟨zj, u⟩ h4 ⟨j, g4, N4, s, hzj, hj, I⟩
  dsimp only at hzj
  subst hzj
  dsimp only
  have h0 : s.A 0 = none := by
    rcases I.a with ⟨hj5, _, hA⟩ | ⟨_, hA, _⟩
    · have := (pc_in j hj5).1
      rw [hA]; unfold onlyA; rw [upF_ne _ _ (by omega)]
    · rw [hA]
  refine cWWant I.x h0 fun aA aC h5 s5 hsr5 => ⟨_, _, _, rfl, fun e => ?_, fun e => ?_⟩
  · -- all is there
    have hj5 : j = 5 := by
      rcases I.a with ⟨hj5, _, hA⟩ | ⟨h, _, _⟩
      · exfalso
        rw [hA, onlyA_list (pc_in j hj5).2.1] at e
        simp at e
        omega
      · exact h
    subst hj5
    obtain ⟨_, hA, hQ⟩ : 5 = 5 ∧ s.A = (fun _ => none) ∧ s.Q = upF (fun _ => none) 3 (some sApp) := by
      rcases I.a with ⟨h, _⟩ | h
      · omega
      · exact h
    have hD := app_done I.S hQ
    have x5 : WalkAt g4 N4 h5 wb s := I.x.keep (PH.Sub.rf _) fun q _ o e => s5 q o e
    have st5 := I.st.spl.grow s5
    refine cWDone x5 st5.spl (fun i l hl => ?_) (fun hh => ?_) fun _ _ l a' c' B' h6 hp hs hb hc => ?_
    · rw [hQ] at hl
      by_cases e3 : i = 3
      · subst e3; rw [upF_same] at hl; cases hl; decide
      · rw [upF_ne _ _ e3] at hl; cases hl
    · exfalso
      rcases hh with ⟨k, _, _, hk⟩ | ⟨_, hh⟩
      · rw [hA] at hk; cases hk
      · rw [hD] at hh; exact absurd hh (by decide)
    · rw [hD] at hp
      have hl : l = sApp := List.perm_singleton.1 hp
      subst hl
      obtain ⟨bb, oo, hA6, hr6⟩ := hb.sr.get (i := 0) (by decide)
      refine ⟨_, _, _, _, rfl, bb, oo, fun _ => ⟨hA6, by decide, by decide⟩, mk [49], fun _ => hr6 _ 1 1 rfl (by decide), fun _ => ?_, fun e => by exfalso; revert e; decide⟩
      have x6 : WalkAt g4 N4 h6 wb s := x5.keep (PH.Sub.rf _) fun q _ o e => hc.sub0 q o e
      have s26 : h2.Sub h6 := I.st.gh.tr (s5.tr hc.sub0)
      refine cWRoot x6 ⟨bi s.R, by rw [bi_len, I.R, nd_len], rfl, cRoot (ht.sub s26) ⟨bi (nd sApp 1), by rw [bi_len, nd_len], rfl, ?_⟩⟩
      rw [I.R, beq_self_eq_true]
      exact hk h6 ((c1.sub0.tr c2.sub0).tr s26)
  · -- one more
    have hj5 : j < 5 := by
      rcases I.a with ⟨h, _⟩ | ⟨_, hA, _⟩
      · exact h
      · exfalso
        have : wList s.A = [] := List.filter_eq_nil_iff.2 fun d _ => by rw [hA]; simp
        rw [this] at e
        simp at e
    obtain ⟨_, hQ, hA⟩ : j < 5 ∧ s.Q = (fun _ => none) ∧ s.A = onlyA (pc j) := by
      rcases I.a with h | ⟨h, _⟩
      · exact h
      · omega
    obtain ⟨p1, p2, p3, p4⟩ := pc_in j hj5
    have hrow : ((wList s.A).map askP).take (1 : Int).toNat = [askP (pc j)] := by rw [hA, onlyA_list p2]; rfl
    rw [hrow] at hsr5 ⊢
    obtain ⟨bb, oo, hA5, hr5⟩ := hsr5.get (i := 0) (by simp)
    have x5 : WalkAt g4 N4 h5 wb s := I.x.keep (PH.Sub.rf _) fun q _ o e => s5 q o e
    have st5 := I.st.trans (I.st.spl.grow s5)
    refine ⟨bb, oo, ⟨hA5, by decide, by simp⟩, (askP (pc j)).1, (askP (pc j)).2, hr5 _ 0 2 rfl (by decide), ?_⟩
    have ht' := I.t
    refine cAnswer x5 st5.spl (ht.sub st5.gs) p1 p2 (by rw [hA]; unfold onlyA; rw [upF_same]) (by omega) fun g6 N6 h6 s6 x6 st6 e1 e2 => ⟨_, rfl, ?_⟩
    have hw : IntKind.wrap .i64 (((j : Nat) : Int) + (1 : Int)) = ((j + 1 : Nat) : Int) := by rw [wrap64] <;> omega
    rw [hw]
    refine ⟨⟨j + 1, g6, N6, s6, rfl, by omega, x6, st5.trans st6, ?_, ?_, ?_, ?_⟩, by omega⟩
    all_goals rcases Nat.lt_or_ge (pc j) 16 with h16 | h16
    · rw [e1 h16]; exact I.S
    · rw [e2 h16]; exact I.S
    · rw [e1 h16]; exact I.R
    · rw [e2 h16]; exact I.R
    · rw [e1 h16]; show (s.T ++ [_]).length ≤ _; rw [List.length_append]; simp; omega
    · rw [e2 h16]; show (s.T ++ [_]).length ≤ _; rw [List.length_append]; simp; omega
    · have hj4 : j < 4 := by
        rcases Nat.lt_or_ge j 4 with h | h
        · exact h
        · have := p4 (by omega); omega
      refine .inl ⟨by omega, by rw [e1 h16]; exact hQ, ?_⟩
      rw [e1 h16]
      show wAsk s.S (wAsk s.S (upF s.A (pc j) none) (2 * pc j) (nd sApp (2 * pc j))) (2 * pc j + 1) (nd sApp (2 * pc j + 1)) = _
      rw [I.S, hA, only_off]
      exact next_ask j hj4
    · have hj4 : j = 4 := by
        rcases Nat.lt_or_ge j 4 with h | h
        · have := p3 h; omega
        · omega
      subst hj4
      refine .inr ⟨rfl, ?_, ?_⟩
      · rw [e2 h16]
        show upF s.A (16 + (pc 4 - 16)) none = _
        rw [hA]; exact only_off 19
      · rw [e2 h16]
        show upF s.Q (pc 4 - 16) (some (partB sApp (pc 4 - 16))) = _
        rw [hQ]
        show upF _ 3 (some (partB sApp 3)) = _
        rw [app_page]
end TL

namespace TL
open Go Go.Proofs
variable {h : PH} {K : Value → PH → Prop}
theorem wk16 {h1 : PH} (s : h.Sub h1) (hk : ∀ h', h.Sub h' → K (.bool true) h') : CallH Tryz.prog id_law16_wakes [] (fun v h2 => ∃ t : Bool, v = .bool t ∧ K (.bool t) h2) h1 :=
  cWakes16 fun h' s' => ⟨true, rfl, hk h' (s.tr s')⟩
end TL

namespace TL
open Go Go.Proofs
variable {h : PH} {K : Value → PH → Prop} {p v : List UInt8} {lA : Option Addr} {lC : Nat} {l : List PrR} {b : Nat}

theorem lv_rd {h : PH} {a : Option Addr} {l : List PrR} {j i : Nat} (x : SR EncH h a (lvRow l j (2 ^ j))) (hi : i < 2 ^ j) : ∃ bb ob, a = some ⟨bb, ob, none⟩ ∧ h.rds bb (ob + i * 32) 32 = some ((bi (nd l (2 ^ j + i))).map (Value.int .u8) ++ []) := by
  have hl : i < (lvRow l j (2 ^ j)).length := by rw [lvRow_len]; exact hi
  obtain ⟨bb, ob, hA, hr⟩ := x.get hl
  refine ⟨bb, ob, hA, ?_⟩
  have := hr (ob + i * 32) 0 32 (by show _ = ob + i * 32 + 0; omega) (by decide)
  rw [this, lvRow_get, List.drop_zero, List.append_nil, List.take_of_length_le (by rw [EncH.len]; decide)]; rfl
theorem cRTexts (hl : SR EncPr h lA l) (hm : mayB l = true) (h48 : l.length ≤ 48) (hk : ∀ a' c' B' h', Buf EncS 9 B' h' a' (textsT l).length c' (textsT l) → Chg [] B' h h' → K (.slice a' (textsT l).length c') h') :
    CallH Tryz.prog id_ref15_Texts [.slice lA l.length lC] K h := by
  refine F_ref15_Texts_ok (LoopP.ind (fun (z : (Option Addr × Nat × Nat) × Int × Unit) h' => ∃ (i : Nat) (B' : List Nat), z.2.1 = i ∧ i ≤ 16 ∧ Buf EncS 9 B' h' z.1.1 z.1.2.1 z.1.2.2 ((List.range i).map (leafT l)) ∧ Chg [] B' h h') (fun z _ => (16 - z.2.1).toNat) ?_ ⟨0, [], rfl, by omega, Buf.nil _ _ _ _, Chg.refl _ _⟩)
  rintro ⟨⟨oA, oN, oC⟩, zi, u⟩ h1 ⟨i, B1, hzi, hi, hb, hc⟩
  dsimp only at hzi hb
  subst hzi
  dsimp only
  have hon : oN = i := by rw [hb.1]; simp
  subst hon
  refine ⟨fun e => ?_, fun e => ?_⟩
  · have e : oN < 16 := by simp at e; omega
    refine cLeafText e (hl.sub hc.sub0) hm h48 fun h2 s2 => ⟨_, rfl, ?_⟩
    refine (hb.sub s2).append (new := [leafT l oN]) rfl rfl rfl (by omega) fun a' c' B' h' hb' hc' _ => ⟨⟨oN + 1, B', by rw [wrap64] <;> omega, by omega, ?_, (hc.onto s2).trans hc'⟩, by rw [wrap64] <;> omega⟩
    rw [List.range_succ, List.map_append]; exact hb'
  · have e : oN = 16 := by simp at e; omega
    subst e
    refine (Spl.of0 hc hb.has).call (cLevels (K := fun v g => ∃ bv f, LvB g bv f ∧ (∀ j, j < 5 → (f j).n = 2 ^ j ∧ SR EncH g (f j).a (lvRow l j (2 ^ j))) ∧ h.Sub g ∧ v = .slice (some ⟨bv, 0, none⟩) 5 5) hl hm h48 fun bv f g x1 x2 x3 => ⟨bv, f, x1, x2, x3, rfl⟩) ?_
    rintro _ g2 h2 ⟨bv, f, xv, rv, s2, rfl⟩ st
    obtain ⟨st, same⟩ := st s2
    have sp2 := st.spl
    refine ⟨_, _, _, rfl, ?_⟩
    have hb := hb.keep same
    have lvs : ∀ {g : PH}, g2.Sub g → ∀ j, j < 5 → g.rds bv (0 + j * 1) 1 = some [.slice (f j).a (f j).n (f j).c] ∧ (f j).n = 2 ^ j ∧ SR EncH g (f j).a (lvRow l j (2 ^ j)) := fun s j hj => ⟨(xv.sub s).get hj (by omega), (rv j hj).1, (rv j hj).2.sub s⟩
    refine LoopP.ind (fun (z : (Option Addr × Nat × Nat) × Int × Unit) h' => ∃ (m : Nat) (B' : List Nat), z.2.1 = (3 : Int) - m ∧ m ≤ 4 ∧ Buf EncS 9 B' h' z.1.1 z.1.2.1 z.1.2.2 ((List.range 16).map (leafT l) ++ (List.range m).flatMap fun d => inRow l (3 - d)) ∧ Spl g2 B' h') (fun z _ => (z.2.1 + 1).toNat) ?_ ⟨0, B1, rfl, by omega, by simpa using hb, sp2⟩
    rintro ⟨⟨oA, oN, oC⟩, zm, u⟩ h3 ⟨m, B2, hzm, hm4, hb2, s3⟩
    dsimp only at hzm hb2
    subst hzm
    dsimp only
    refine ⟨fun e => ?_, fun e => ?_⟩
    · have e : m < 4 := by simp at e; omega
      have hlv : ((3 : Int) - (m : Nat)) = ((3 - m : Nat) : Int) := by omega
      rw [hlv]
      generalize hlv2 : 3 - m = lv
      have hlv4 : lv ≤ 3 := by omega
      have h2lv : 2 ^ lv ≤ 8 := Nat.pow_le_pow_right (n := 2) (by decide) (show lv ≤ 3 from hlv4)
      have hp2 : 2 ^ (lv + 1) = 2 * 2 ^ lv := by rw [Nat.pow_succ]; omega
      have hrow : inRow l lv = (List.range (2 ^ lv)).map fun i => inT l (2 ^ lv + i) := rfl
      have hw : IntKind.wrap .i64 (((lv : Nat) : Int) - (1 : Int)) = (3 : Int) - ((m + 1 : Nat) : Int) := by rw [wrap64] <;> omega
      have hw1 : IntKind.wrap .i64 (((lv : Nat) : Int) + (1 : Int)) = ((lv + 1 : Nat) : Int) := by rw [wrap64] <;> omega
      have tn : ((lv : Nat) : Int).toNat = lv := by omega
      have tn1 : ((lv + 1 : Nat) : Int).toNat = lv + 1 := by omega
      rw [hw, hw1, tn, tn1]
      refine LoopP.ind (fun (z : (Option Addr × Nat × Nat) × Int × Unit) h' => ∃ (k : Nat) (B' : List Nat), z.2.1 = k ∧ k ≤ 2 ^ lv ∧ Buf EncS 9 B' h' z.1.1 z.1.2.1 z.1.2.2 ((List.range 16).map (leafT l) ++ ((List.range m).flatMap (fun d => inRow l (3 - d)) ++ (List.range k).map fun i => inT l (2 ^ lv + i))) ∧ Spl g2 B' h') (fun z _ => (((2 ^ lv : Nat) : Int) - z.2.1).toNat) ?_ ⟨0, B2, rfl, Nat.zero_le _, by simpa using hb2, s3⟩
      rintro ⟨⟨oA, oN, oC⟩, zk, u⟩ h4 ⟨k, B3, hzk, hk3, hb3, s4⟩
      dsimp only at hzk hb3
      subst hzk
      dsimp only
      have hon : oN ≤ 100 := by
        rw [hb3.1, List.length_append, List.length_append, List.length_map, List.length_map, List.length_range, List.length_range]
        have := pre_len l m
        omega
      obtain ⟨g0, n0, r0⟩ := lvs s4.sub lv (by omega)
      obtain ⟨g1, n1, r1⟩ := lvs s4.sub (lv + 1) (by omega)
      refine ⟨bv, 0, ⟨rfl, by omega, by omega⟩, _, _, _, g0, ?_⟩
      rw [n0]
      refine ⟨fun e5 => ?_, fun e5 => ?_⟩
      · have e5 : k < 2 ^ lv := Int.ofNat_lt.1 (of_decide_eq_true e5)
        have w1 : IntKind.wrap .i64 ((2 : Int) * ((k : Nat) : Int)) = ((2 * k : Nat) : Int) := by rw [wrap64] <;> omega
        have w2 : IntKind.wrap .i64 (((2 * k : Nat) : Int) + (1 : Int)) = ((2 * k + 1 : Nat) : Int) := by rw [wrap64] <;> omega
        have w5 : IntKind.wrap .i64 (((k : Nat) : Int) + (1 : Int)) = ((k + 1 : Nat) : Int) := by rw [wrap64] <;> omega
        have t1 : ((2 * k : Nat) : Int).toNat = 2 * k := by omega
        have t2 : ((2 * k + 1 : Nat) : Int).toNat = 2 * k + 1 := by omega
        rw [w1, w2, w5, t1, t2]
        obtain ⟨b1, o1, hA1, hr1⟩ := lv_rd r1 (i := 2 * k) (by omega)
        obtain ⟨b2, o2, hA2, hr2⟩ := lv_rd r1 (i := 2 * k + 1) (by omega)
        refine ⟨bv, 0, ⟨rfl, by omega, by show ((lv + 1 : Nat) : Int) < 5; omega⟩, _, _, _, g1, b1, o1, ⟨hA1, by omega, by rw [n1]; omega⟩, bi (nd l (2 ^ (lv + 1) + 2 * k)), by rw [bi_len, nd_len], hr1, bv, 0, ⟨rfl, by omega, by show ((lv + 1 : Nat) : Int) < 5; omega⟩, _, _, _, g1, b2, o2, ⟨hA2, by omega, by rw [n1]; omega⟩, bi (nd l (2 ^ (lv + 1) + (2 * k + 1))), by rw [bi_len, nd_len], hr2,
          cRInnerText (nd_len _ _) (nd_len _ _) fun h5 s5 => ⟨_, rfl, ?_⟩⟩
        have ht : innT (nd l (2 ^ (lv + 1) + 2 * k)) (nd l (2 ^ (lv + 1) + (2 * k + 1))) = inT l (2 ^ lv + k) := by
          unfold inT
          rw [show 2 ^ (lv + 1) + 2 * k = 2 * (2 ^ lv + k) by omega, show 2 ^ (lv + 1) + (2 * k + 1) = 2 * (2 ^ lv + k) + 1 by omega]
        rw [ht]
        refine (hb3.sub s5).append (new := [inT l (2 ^ lv + k)]) rfl rfl rfl (by omega) fun a' c' B' h' hb' hc' _ => ⟨⟨k + 1, B', rfl, by omega, ?_, ((s4.grow s5).spl.chg hc' hb'.has).spl⟩, by omega⟩
        rw [List.range_succ (n := k), List.map_append, ← List.append_assoc, ← List.append_assoc]
        rw [← List.append_assoc] at hb'
        exact hb'
      · have e5 : k = 2 ^ lv := by
          rcases Nat.lt_or_ge k (2 ^ lv) with h | h
          · exact absurd (Int.ofNat_lt.2 h) (of_decide_eq_false e5)
          · omega
        refine ⟨⟨m + 1, B3, rfl, by omega, ?_, s4⟩, by omega⟩
        rw [e5] at hb3
        have : ((List.range (m + 1)).flatMap fun d => inRow l (3 - d)) = ((List.range m).flatMap fun d => inRow l (3 - d)) ++ (List.range (2 ^ lv)).map fun i => inT l (2 ^ lv + i) := by
          rw [List.range_succ, List.flatMap_append, List.flatMap_cons, List.flatMap_nil, List.append_nil, hlv2, hrow]
        rw [this]; exact hb3
    · have e : m = 4 := by simp at e; omega
      subst e
      have := hb2.1
      subst this
      exact hk _ _ _ _ hb2 (s3.chg0 s2)
end TL

namespace TL
open Go Go.Proofs
/- twinlock/twinlockref16.New -/
def F_ref16_New (baseA : Option Addr) (baseN baseC : Nat) (root : List Int) (K : Value → PH → Prop) (h : PH) : Prop :=
  CallH Tryz.prog id_ref14_May [.slice baseA baseN baseC] (fun v h1 =>
    ∃ t : Bool, v = .bool t ∧
    ((((!t) || (decide (((baseN : Nat) : Int) > (48 : Int)))) = true →
        K (.tuple #[.pointer none, .bool false]) h1) ∧
      (((!t) || (decide (((baseN : Nat) : Int) > (48 : Int)))) = false →
        CallH Tryz.prog id_ref15_Levels [.slice baseA baseN baseC] (fun v_1 h2 =>
          ∃ (tA : Option Addr) (tN tC : Nat), v_1 = .slice tA tN tC ∧
          CallH Tryz.prog id_ref15_Texts [.slice baseA baseN baseC] (fun v_2 h3 =>
            ∃ (tA_1 : Option Addr) (tN_1 tC_1 : Nat), v_2 = .slice tA_1 tN_1 tC_1 ∧
            newH h3 (.cells ((.slice baseA baseN baseC :: (.slice tA tN tC :: (root.map (Value.int .u8) ++ (.slice none 0 0 :: ((List.replicate 16 (.bool false : Value)) ++ ((List.replicate 16 (.slice none 0 0 : Value)) ++ ([.slice tA_1 tN_1 tC_1] : List Value)))))))).toArray T_ref16_Walk (0, 0)) fun bv h4 =>
            CallH Tryz.prog id_ref16_Walk_ask [.pointer (some ⟨bv, 0, none⟩), .int .i64 (0 : Int), .int .i64 (0 : Int), .agg ((root.map (Value.int .u8) ++ [])).toArray] (fun _ h5 =>
              K (.tuple #[.pointer (some ⟨bv, 0, none⟩), .bool true]) h5) h4) h2) h1))) h
theorem F_ref16_New_eq {baseA : Option Addr} {baseN baseC : Nat} {root : List Int} {K : Value → PH → Prop} {h : PH} : @Eq Prop (F_ref16_New baseA baseN baseC root K h) (denF Tryz.prog Tryz.f57 ⟨[3], [(3, .of [0, 1, 3, 4, 2, 5, 6, 7, 8])], [], []⟩ [.v (.slice baseA baseN baseC), .agg [.ints .u8 32 root]] K h) := by
  kernel_rfl
theorem F_ref16_New_ok {baseA : Option Addr} {baseN baseC : Nat} {root : List Int} (hk0 : root.length = 32) {K : Value → PH → Prop} {h : PH} (hh : F_ref16_New baseA baseN baseC root K h) : CallH Tryz.prog id_ref16_New [.slice baseA baseN baseC, .agg ((root.map (Value.int .u8) ++ [])).toArray] K h :=
  denF_sound' Tryz.func57 (H := ⟨[3], [(3, .of [0, 1, 3, 4, 2, 5, 6, 7, 8])], [], []⟩) (xs := [.v (.slice baseA baseN baseC), .agg [.ints .u8 32 root]]) (by kernel_rfl) (⟨rfl, ⟨hk0, trivial⟩, trivial⟩) (den_of F_ref16_New_eq hh)

/- (*twinlock/twinlockref16.Walk).Done -/
def F_ref16_Walk_Done (w : Option Addr) (K : Value → PH → Prop) (h : PH) : Prop :=
  ∃ bv ov : Nat, w = some ⟨bv, ov, none⟩ ∧
  ∃ (tA : Option Addr) (tN tC : Nat), (h.rds bv (ov + 34) 1 = some [.slice tA tN tC]) ∧
  (((decide (((tN : Nat) : Int) > (0 : Int))) = true →
      K (.tuple #[.slice none 0 0, .bool false]) h) ∧
    ((decide (((tN : Nat) : Int) > (0 : Int))) = false →
      LoopP (T := (Option Addr × Nat × Nat) × Int × Unit) (fun Jv st h1 =>
        (((decide (st.2.1 < (16 : Int))) = true →
            ∃ bv_1 ov_1 : Nat, w = some ⟨bv_1, ov_1, none⟩ ∧
            ∃ (tA_1 : Option Addr) (tN_1 tC_1 : Nat), (h1.rds bv_1 ov_1 1 = some [.slice tA_1 tN_1 tC_1]) ∧
            CallH Tryz.prog id_ref14_Part [.slice tA_1 tN_1 tC_1, .int .i64 st.2.1] (fun v h2 =>
              ∃ (lA : Option Addr) (lN lC : Nat), v = .slice lA lN lC ∧
              JoinP (T := (Option Addr × Nat × Nat) × Unit) (fun Jv_1 =>
                ∃ bv_2 ov_2 : Nat, w = some ⟨bv_2, ov_2, none⟩ ∧
                (0 ≤ st.2.1 ∧ st.2.1 < (16 : Nat)) ∧
                ∃ t : Bool, (h2.rds bv_2 ((ov_2 + 35) + st.2.1.toNat * 1) 1 = some [.bool t]) ∧
                ((t = true →
                    ∃ bv_3 ov_3 : Nat, w = some ⟨bv_3, ov_3, none⟩ ∧
                    (0 ≤ st.2.1 ∧ st.2.1 < (16 : Nat)) ∧
                    ∃ (lA_1 : Option Addr) (lN_1 lC_1 : Nat), (h2.rds bv_3 ((ov_3 + 51) + st.2.1.toNat * 1) 1 = some [.slice lA_1 lN_1 lC_1]) ∧
                    Jv_1 ((lA_1, lN_1, lC_1), ()) h2) ∧
                  (t = false →
                    Jv_1 ((lA, lN, lC), ()) h2)))
              (fun st_1 h3 =>
                LoopP (T := (Option Addr × Nat × Nat) × Int × Unit) (fun Jv_2 st_2 h4 =>
                  (((decide (st_2.2.1 < ((st_1.1.2.1 : Nat) : Int))) = true →
                      JoinP (T := Int × Unit) (fun Jv_3 =>
                        LoopP (T := Int × Unit) (fun Jv_4 st_4 h6 =>
                          ∃ bv_4 ov_4 : Nat, (((decide (st_4.1 > (0 : Int))) = true → st_1.1.1 = some ⟨bv_4, ov_4, none⟩ ∧ 0 ≤ st_2.2.1 ∧ st_2.2.1 < (st_1.1.2.1 : Nat))) ∧
                          ∃ t_1 : ByteArray, (((decide (st_4.1 > (0 : Int))) = true → h6.rds bv_4 (ov_4 + st_2.2.1.toNat * 2) 1 = some [.string t_1])) ∧
                          ∃ bv_5 ov_5 : Nat, (((decide (st_4.1 > (0 : Int))) = true → st_2.1.1 = some ⟨bv_5, ov_5, none⟩ ∧ 0 ≤ (IntKind.wrap .i64 (st_4.1 - (1 : Int))) ∧ (IntKind.wrap .i64 (st_4.1 - (1 : Int))) < (st_2.1.2.1 : Nat))) ∧
                          ∃ t_2 : ByteArray, (((decide (st_4.1 > (0 : Int))) = true → h6.rds bv_5 (ov_5 + (IntKind.wrap .i64 (st_4.1 - (1 : Int))).toNat * 2) 1 = some [.string t_2])) ∧
                          (((decide (st_4.1 > (0 : Int))) = true →
                              CallH Tryz.prog id_ref11_Less [.string t_1, .string t_2] (fun v_1 h7 =>
                                ∃ t_3 : Bool, v_1 = .bool t_3 ∧
                                ((t_3 = true →
                                    Jv_4 ((IntKind.wrap .i64 (st_4.1 - (1 : Int))), ()) h7) ∧
                                  (t_3 = false →
                                    Jv_3 (st_4.1, ()) h7))) h6) ∧
                            ((decide (st_4.1 > (0 : Int))) = false →
                              Jv_3 (st_4.1, ()) h6))) (((st_2.1.2.1 : Nat) : Int), ()) h4)
                      (fun st_3 h5 =>
                        newH h5 (.cells #[] T_api_Pair (0, 0)) fun bv_6 h8 =>
                        (0 ≤ (0 : Int) ∧ (0 : Int) ≤ st_3.1 ∧ st_3.1 ≤ ((st_2.1.2.2 : Nat) : Int) ∧ ((st_2.1.2.2 : Nat) : Int) ≤ (st_2.1.2.2 : Nat)) ∧
                        ∃ vs : List Value, srcH h8 (slA st_2.1.1 2 (0 : Int) ((st_2.1.2.2 : Nat) : Int)) ((st_3.1.toNat - (0 : Int).toNat) * 2) vs ∧
                        appH T_api_Pair 2 32 [.string (⟨#[]⟩ : ByteArray), .string (⟨#[]⟩ : ByteArray)] (some ⟨bv_6, 0, none⟩) 0 0 (st_3.1.toNat - (0 : Int).toNat) vs (fun nextA nextN nextC h9 =>
                          ∃ bv_7 ov_6 : Nat, (st_1.1.1 = some ⟨bv_7, ov_6, none⟩ ∧ 0 ≤ st_2.2.1 ∧ st_2.2.1 < (st_1.1.2.1 : Nat)) ∧
                          ∃ t0 : ByteArray, ∃ t1 : ByteArray, (h9.rds bv_7 (ov_6 + st_2.2.1.toNat * 2) 2 = some [.string t0, .string t1]) ∧
                          appH T_api_Pair 2 32 [.string (⟨#[]⟩ : ByteArray), .string (⟨#[]⟩ : ByteArray)] nextA nextN nextC 1 [.string t0, .string t1] (fun nextA_1 nextN_1 nextC_1 h10 =>
                            (0 ≤ st_3.1 ∧ st_3.1 ≤ ((st_2.1.2.1 : Nat) : Int) ∧ ((st_2.1.2.1 : Nat) : Int) ≤ ((st_2.1.2.2 : Nat) : Int) ∧ ((st_2.1.2.2 : Nat) : Int) ≤ (st_2.1.2.2 : Nat)) ∧
                            ∃ vs_1 : List Value, srcH h10 (slA st_2.1.1 2 st_3.1 ((st_2.1.2.2 : Nat) : Int)) ((((st_2.1.2.1 : Nat) : Int).toNat - st_3.1.toNat) * 2) vs_1 ∧
                            appH T_api_Pair 2 32 [.string (⟨#[]⟩ : ByteArray), .string (⟨#[]⟩ : ByteArray)] nextA_1 nextN_1 nextC_1 (((st_2.1.2.1 : Nat) : Int).toNat - st_3.1.toNat) vs_1 (fun outA outN outC h11 =>
                              Jv_2 ((outA, outN, outC), (IntKind.wrap .i64 (st_2.2.1 + (1 : Int))), ()) h11) h10) h9) h8)) ∧
                    ((decide (st_2.2.1 < ((st_1.1.2.1 : Nat) : Int))) = false →
                      Jv ((st_2.1.1, st_2.1.2.1, st_2.1.2.2), (IntKind.wrap .i64 (st.2.1 + (1 : Int))), ()) h4))) ((st.1.1, st.1.2.1, st.1.2.2), (0 : Int), ()) h3)) h1) ∧
          ((decide (st.2.1 < (16 : Int))) = false →
            (((decide (((st.1.2.1 : Nat) : Int) > (48 : Int))) = true →
                K (.tuple #[.slice none 0 0, .bool false]) h1) ∧
              ((decide (((st.1.2.1 : Nat) : Int) > (48 : Int))) = false →
                K (.tuple #[.slice st.1.1 st.1.2.1 st.1.2.2, .bool true]) h1))))) ((none, 0, 0), (0 : Int), ()) h))
theorem F_ref16_Walk_Done_eq {w : Option Addr} {K : Value → PH → Prop} {h : PH} : @Eq Prop (F_ref16_Walk_Done w K h) (denF Tryz.prog Tryz.f59 ⟨[74], [], [(0, ⟨[(4, .slice), (5, .int .i64)], [], []⟩), (2, ⟨[(4, .slice), (7, .int .i64)], [], []⟩), (4, ⟨[(8, .int .i64)], [], []⟩)], [(22, ⟨[(6, .slice)], [], []⟩), (34, ⟨[(8, .int .i64)], [], []⟩)]⟩ [.v (.pointer w)] K h) := by
  kernel_rfl
theorem F_ref16_Walk_Done_ok {w : Option Addr}  {K : Value → PH → Prop} {h : PH} (hh : F_ref16_Walk_Done w K h) : CallH Tryz.prog id_ref16_Walk_Done [.pointer w] K h :=
  denF_sound' Tryz.func59 (H := ⟨[74], [], [(0, ⟨[(4, .slice), (5, .int .i64)], [], []⟩), (2, ⟨[(4, .slice), (7, .int .i64)], [], []⟩), (4, ⟨[(8, .int .i64)], [], []⟩)], [(22, ⟨[(6, .slice)], [], []⟩), (34, ⟨[(8, .int .i64)], [], []⟩)]⟩) (xs := [.v (.pointer w)]) (by kernel_rfl) (⟨rfl, trivial⟩) (den_of F_ref16_Walk_Done_eq hh)

/- (*twinlock/twinlockref16.Walk).ask -/
def F_ref16_Walk_ask (w : Option Addr) (level : Int) (i : Int) (hv : List Int) (K : Value → PH → Prop) (h : PH) : Prop :=
  ∃ bv ov : Nat, w = some ⟨bv, ov, none⟩ ∧
  ∃ (tA : Option Addr) (tN tC : Nat), (h.rds bv (ov + 1) 1 = some [.slice tA tN tC]) ∧
  ∃ bv_1 ov_1 : Nat, (tA = some ⟨bv_1, ov_1, none⟩ ∧ 0 ≤ level ∧ level < (tN : Nat)) ∧
  ∃ (tA_1 : Option Addr) (tN_1 tC_1 : Nat), (h.rds bv_1 (ov_1 + level.toNat * 1) 1 = some [.slice tA_1 tN_1 tC_1]) ∧
  ∃ bv_2 ov_2 : Nat, (tA_1 = some ⟨bv_2, ov_2, none⟩ ∧ 0 ≤ i ∧ i < (tN_1 : Nat)) ∧
  ∃ t : List Int, t.length = 32 ∧ (h.rds bv_2 (ov_2 + i.toNat * 32) 32 = some (t.map (Value.int .u8) ++ [])) ∧
  (((t == hv) = true →
      K (.tuple #[]) h) ∧
    ((t == hv) = false →
      LoopP (T := Int × Unit) (fun Jv st h1 =>
        ∃ bv_3 ov_3 : Nat, w = some ⟨bv_3, ov_3, none⟩ ∧
        ∃ (tA_2 : Option Addr) (tN_2 tC_2 : Nat), (h1.rds bv_3 (ov_3 + 34) 1 = some [.slice tA_2 tN_2 tC_2]) ∧
        ∃ bv_4 ov_4 : Nat, ((decide (st.1 < ((tN_2 : Nat) : Int))) = true → w = some ⟨bv_4, ov_4, none⟩) ∧
        ∃ (tA_3 : Option Addr) (tN_3 tC_3 : Nat), (((decide (st.1 < ((tN_2 : Nat) : Int))) = true → h1.rds bv_4 (ov_4 + 34) 1 = some [.slice tA_3 tN_3 tC_3])) ∧
        ∃ bv_5 ov_5 : Nat, (((decide (st.1 < ((tN_2 : Nat) : Int))) = true → tA_3 = some ⟨bv_5, ov_5, none⟩ ∧ 0 ≤ st.1 ∧ st.1 < (tN_3 : Nat))) ∧
        ∃ t_1 : Int, (((decide (st.1 < ((tN_2 : Nat) : Int))) = true → h1.rds bv_5 (ov_5 + st.1.toNat * 34) 1 = some [.int .i64 t_1])) ∧
        (((decide (st.1 < ((tN_2 : Nat) : Int))) = true →
            ∃ bv_6 ov_6 : Nat, ((decide (t_1 < level)) = false → w = some ⟨bv_6, ov_6, none⟩) ∧
            ∃ (tA_4 : Option Addr) (tN_4 tC_4 : Nat), (((decide (t_1 < level)) = false → h1.rds bv_6 (ov_6 + 34) 1 = some [.slice tA_4 tN_4 tC_4])) ∧
            ∃ bv_7 ov_7 : Nat, (((decide (t_1 < level)) = false → tA_4 = some ⟨bv_7, ov_7, none⟩ ∧ 0 ≤ st.1 ∧ st.1 < (tN_4 : Nat))) ∧
            ∃ t_2 : Int, (((decide (t_1 < level)) = false → h1.rds bv_7 (ov_7 + st.1.toNat * 34) 1 = some [.int .i64 t_2])) ∧
            (((decide (t_1 < level)) = false →
                ∃ bv_8 ov_8 : Nat, ((t_2 == level) = true → w = some ⟨bv_8, ov_8, none⟩) ∧
                ∃ (tA_5 : Option Addr) (tN_5 tC_5 : Nat), (((t_2 == level) = true → h1.rds bv_8 (ov_8 + 34) 1 = some [.slice tA_5 tN_5 tC_5])) ∧
                ∃ bv_9 ov_9 : Nat, (((t_2 == level) = true → tA_5 = some ⟨bv_9, ov_9, none⟩ ∧ 0 ≤ st.1 ∧ st.1 < (tN_5 : Nat))) ∧
                ∃ t_3 : Int, (((t_2 == level) = true → h1.rds bv_9 ((ov_9 + st.1.toNat * 34) + 1) 1 = some [.int .i64 t_3])) ∧
                ((((t_2 == level) && (decide (t_3 < i))) = true →
                    Jv ((IntKind.wrap .i64 (st.1 + (1 : Int))), ()) h1) ∧
                  (((t_2 == level) && (decide (t_3 < i))) = false →
                    ∃ bv_10 ov_10 : Nat, w = some ⟨bv_10, ov_10, none⟩ ∧
                    ∃ (tA_6 : Option Addr) (tN_6 tC_6 : Nat), (h1.rds bv_10 (ov_10 + 34) 1 = some [.slice tA_6 tN_6 tC_6]) ∧
                    (0 ≤ (0 : Int) ∧ (0 : Int) ≤ st.1 ∧ st.1 ≤ ((tC_6 : Nat) : Int) ∧ ((tC_6 : Nat) : Int) ≤ (tC_6 : Nat)) ∧
                    ∃ vs : List Value, srcH h1 (slA tA_6 34 (0 : Int) ((tC_6 : Nat) : Int)) ((st.1.toNat - (0 : Int).toNat) * 34) vs ∧
                    appH T_ref16_Node 34 48 [.int .i64 (0 : Int), .int .i64 (0 : Int), .int .u8 (0 : Int), .int .u8 (0 : Int), .int .u8 (0 : Int), .int .u8 (0 : Int), .int .u8 (0 : Int), .int .u8 (0 : Int), .int .u8 (0 : Int), .int .u8 (0 : Int), .int .u8 (0 : Int), .int .u8 (0 : Int), .int .u8 (0 : Int), .int .u8 (0 : Int), .int .u8 (0 : Int), .int .u8 (0 : Int), .int .u8 (0 : Int), .int .u8 (0 : Int), .int .u8 (0 : Int), .int .u8 (0 : Int), .int .u8 (0 : Int), .int .u8 (0 : Int), .int .u8 (0 : Int), .int .u8 (0 : Int), .int .u8 (0 : Int), .int .u8 (0 : Int), .int .u8 (0 : Int), .int .u8 (0 : Int), .int .u8 (0 : Int), .int .u8 (0 : Int), .int .u8 (0 : Int), .int .u8 (0 : Int), .int .u8 (0 : Int), .int .u8 (0 : Int)] none 0 0 (st.1.toNat - (0 : Int).toNat) vs (fun lA lN lC h2 =>
                      appH T_ref16_Node 34 48 [.int .i64 (0 : Int), .int .i64 (0 : Int), .int .u8 (0 : Int), .int .u8 (0 : Int), .int .u8 (0 : Int), .int .u8 (0 : Int), .int .u8 (0 : Int), .int .u8 (0 : Int), .int .u8 (0 : Int), .int .u8 (0 : Int), .int .u8 (0 : Int), .int .u8 (0 : Int), .int .u8 (0 : Int), .int .u8 (0 : Int), .int .u8 (0 : Int), .int .u8 (0 : Int), .int .u8 (0 : Int), .int .u8 (0 : Int), .int .u8 (0 : Int), .int .u8 (0 : Int), .int .u8 (0 : Int), .int .u8 (0 : Int), .int .u8 (0 : Int), .int .u8 (0 : Int), .int .u8 (0 : Int), .int .u8 (0 : Int), .int .u8 (0 : Int), .int .u8 (0 : Int), .int .u8 (0 : Int), .int .u8 (0 : Int), .int .u8 (0 : Int), .int .u8 (0 : Int), .int .u8 (0 : Int), .int .u8 (0 : Int)] lA lN lC 1 (.int .i64 level :: (.int .i64 i :: (hv.map (Value.int .u8) ++ []))) (fun lA_1 lN_1 lC_1 h3 =>
                        ∃ bv_11 ov_11 : Nat, w = some ⟨bv_11, ov_11, none⟩ ∧
                        ∃ (tA_7 : Option Addr) (tN_7 tC_7 : Nat), (h3.rds bv_11 (ov_11 + 34) 1 = some [.slice tA_7 tN_7 tC_7]) ∧
                        (0 ≤ st.1 ∧ st.1 ≤ ((tN_7 : Nat) : Int) ∧ ((tN_7 : Nat) : Int) ≤ ((tC_7 : Nat) : Int) ∧ ((tC_7 : Nat) : Int) ≤ (tC_7 : Nat)) ∧
                        ∃ vs_1 : List Value, srcH h3 (slA tA_7 34 st.1 ((tC_7 : Nat) : Int)) ((((tN_7 : Nat) : Int).toNat - st.1.toNat) * 34) vs_1 ∧
                        appH T_ref16_Node 34 48 [.int .i64 (0 : Int), .int .i64 (0 : Int), .int .u8 (0 : Int), .int .u8 (0 : Int), .int .u8 (0 : Int), .int .u8 (0 : Int), .int .u8 (0 : Int), .int .u8 (0 : Int), .int .u8 (0 : Int), .int .u8 (0 : Int), .int .u8 (0 : Int), .int .u8 (0 : Int), .int .u8 (0 : Int), .int .u8 (0 : Int), .int .u8 (0 : Int), .int .u8 (0 : Int), .int .u8 (0 : Int), .int .u8 (0 : Int), .int .u8 (0 : Int), .int .u8 (0 : Int), .int .u8 (0 : Int), .int .u8 (0 : Int), .int .u8 (0 : Int), .int .u8 (0 : Int), .int .u8 (0 : Int), .int .u8 (0 : Int), .int .u8 (0 : Int), .int .u8 (0 : Int), .int .u8 (0 : Int), .int .u8 (0 : Int), .int .u8 (0 : Int), .int .u8 (0 : Int), .int .u8 (0 : Int), .int .u8 (0 : Int)] lA_1 lN_1 lC_1 (((tN_7 : Nat) : Int).toNat - st.1.toNat) vs_1 (fun tA_8 tN_8 tC_8 h4 =>
                          ∃ bv_12 ov_12 : Nat, w = some ⟨bv_12, ov_12, none⟩ ∧
                          stH h4 bv_12 (ov_12 + 34) [.slice tA_8 tN_8 tC_8] fun h5 =>
                          K (.tuple #[]) h5) h3) h2) h1))) ∧
              ((decide (t_1 < level)) = true →
                Jv ((IntKind.wrap .i64 (st.1 + (1 : Int))), ()) h1))) ∧
          ((decide (st.1 < ((tN_2 : Nat) : Int))) = false →
            ∃ bv_13 ov_13 : Nat, w = some ⟨bv_13, ov_13, none⟩ ∧
            ∃ (tA_9 : Option Addr) (tN_9 tC_9 : Nat), (h1.rds bv_13 (ov_13 + 34) 1 = some [.slice tA_9 tN_9 tC_9]) ∧
            (0 ≤ (0 : Int) ∧ (0 : Int) ≤ st.1 ∧ st.1 ≤ ((tC_9 : Nat) : Int) ∧ ((tC_9 : Nat) : Int) ≤ (tC_9 : Nat)) ∧
            ∃ vs_2 : List Value, srcH h1 (slA tA_9 34 (0 : Int) ((tC_9 : Nat) : Int)) ((st.1.toNat - (0 : Int).toNat) * 34) vs_2 ∧
            appH T_ref16_Node 34 48 [.int .i64 (0 : Int), .int .i64 (0 : Int), .int .u8 (0 : Int), .int .u8 (0 : Int), .int .u8 (0 : Int), .int .u8 (0 : Int), .int .u8 (0 : Int), .int .u8 (0 : Int), .int .u8 (0 : Int), .int .u8 (0 : Int), .int .u8 (0 : Int), .int .u8 (0 : Int), .int .u8 (0 : Int), .int .u8 (0 : Int), .int .u8 (0 : Int), .int .u8 (0 : Int), .int .u8 (0 : Int), .int .u8 (0 : Int), .int .u8 (0 : Int), .int .u8 (0 : Int), .int .u8 (0 : Int), .int .u8 (0 : Int), .int .u8 (0 : Int), .int .u8 (0 : Int), .int .u8 (0 : Int), .int .u8 (0 : Int), .int .u8 (0 : Int), .int .u8 (0 : Int), .int .u8 (0 : Int), .int .u8 (0 : Int), .int .u8 (0 : Int), .int .u8 (0 : Int), .int .u8 (0 : Int), .int .u8 (0 : Int)] none 0 0 (st.1.toNat - (0 : Int).toNat) vs_2 (fun lA_2 lN_2 lC_2 h6 =>
              appH T_ref16_Node 34 48 [.int .i64 (0 : Int), .int .i64 (0 : Int), .int .u8 (0 : Int), .int .u8 (0 : Int), .int .u8 (0 : Int), .int .u8 (0 : Int), .int .u8 (0 : Int), .int .u8 (0 : Int), .int .u8 (0 : Int), .int .u8 (0 : Int), .int .u8 (0 : Int), .int .u8 (0 : Int), .int .u8 (0 : Int), .int .u8 (0 : Int), .int .u8 (0 : Int), .int .u8 (0 : Int), .int .u8 (0 : Int), .int .u8 (0 : Int), .int .u8 (0 : Int), .int .u8 (0 : Int), .int .u8 (0 : Int), .int .u8 (0 : Int), .int .u8 (0 : Int), .int .u8 (0 : Int), .int .u8 (0 : Int), .int .u8 (0 : Int), .int .u8 (0 : Int), .int .u8 (0 : Int), .int .u8 (0 : Int), .int .u8 (0 : Int), .int .u8 (0 : Int), .int .u8 (0 : Int), .int .u8 (0 : Int), .int .u8 (0 : Int)] lA_2 lN_2 lC_2 1 (.int .i64 level :: (.int .i64 i :: (hv.map (Value.int .u8) ++ []))) (fun lA_3 lN_3 lC_3 h7 =>
                ∃ bv_14 ov_14 : Nat, w = some ⟨bv_14, ov_14, none⟩ ∧
                ∃ (tA_10 : Option Addr) (tN_10 tC_10 : Nat), (h7.rds bv_14 (ov_14 + 34) 1 = some [.slice tA_10 tN_10 tC_10]) ∧
                (0 ≤ st.1 ∧ st.1 ≤ ((tN_10 : Nat) : Int) ∧ ((tN_10 : Nat) : Int) ≤ ((tC_10 : Nat) : Int) ∧ ((tC_10 : Nat) : Int) ≤ (tC_10 : Nat)) ∧
                ∃ vs_3 : List Value, srcH h7 (slA tA_10 34 st.1 ((tC_10 : Nat) : Int)) ((((tN_10 : Nat) : Int).toNat - st.1.toNat) * 34) vs_3 ∧
                appH T_ref16_Node 34 48 [.int .i64 (0 : Int), .int .i64 (0 : Int), .int .u8 (0 : Int), .int .u8 (0 : Int), .int .u8 (0 : Int), .int .u8 (0 : Int), .int .u8 (0 : Int), .int .u8 (0 : Int), .int .u8 (0 : Int), .int .u8 (0 : Int), .int .u8 (0 : Int), .int .u8 (0 : Int), .int .u8 (0 : Int), .int .u8 (0 : Int), .int .u8 (0 : Int), .int .u8 (0 : Int), .int .u8 (0 : Int), .int .u8 (0 : Int), .int .u8 (0 : Int), .int .u8 (0 : Int), .int .u8 (0 : Int), .int .u8 (0 : Int), .int .u8 (0 : Int), .int .u8 (0 : Int), .int .u8 (0 : Int), .int .u8 (0 : Int), .int .u8 (0 : Int), .int .u8 (0 : Int), .int .u8 (0 : Int), .int .u8 (0 : Int), .int .u8 (0 : Int), .int .u8 (0 : Int), .int .u8 (0 : Int), .int .u8 (0 : Int)] lA_3 lN_3 lC_3 (((tN_10 : Nat) : Int).toNat - st.1.toNat) vs_3 (fun tA_11 tN_11 tC_11 h8 =>
                  ∃ bv_15 ov_15 : Nat, w = some ⟨bv_15, ov_15, none⟩ ∧
                  stH h8 bv_15 (ov_15 + 34) [.slice tA_11 tN_11 tC_11] fun h9 =>
                  K (.tuple #[]) h9) h7) h6) h1))) ((0 : Int), ()) h))
theorem F_ref16_Walk_ask_eq {w : Option Addr} {level : Int} {i : Int} {hv : List Int} {K : Value → PH → Prop} {h : PH} : @Eq Prop (F_ref16_Walk_ask w level i hv K h) (denF Tryz.prog Tryz.f129 ⟨[7, 80], [], [(0, ⟨[(8, .int .i64)], [], []⟩)], []⟩ [.v (.pointer w), .v (.int .i64 level), .v (.int .i64 i), .agg [.ints .u8 32 hv]] K h) := by
  kernel_rfl
theorem F_ref16_Walk_ask_ok {w : Option Addr} {level : Int} {i : Int} {hv : List Int} (hk0 : hv.length = 32) {K : Value → PH → Prop} {h : PH} (hh : F_ref16_Walk_ask w level i hv K h) : CallH Tryz.prog id_ref16_Walk_ask [.pointer w, .int .i64 level, .int .i64 i, .agg ((hv.map (Value.int .u8) ++ [])).toArray] K h :=
  denF_sound' Tryz.func129 (H := ⟨[7, 80], [], [(0, ⟨[(8, .int .i64)], [], []⟩)], []⟩) (xs := [.v (.pointer w), .v (.int .i64 level), .v (.int .i64 i), .agg [.ints .u8 32 hv]]) (by kernel_rfl) (⟨rfl, rfl, rfl, ⟨hk0, trivial⟩, trivial⟩) (den_of F_ref16_Walk_ask_eq hh)

/- (*twinlock/twinlockref16.Walk).Page -/
def F_ref16_Walk_Page (w : Option Addr) (i : Int) (lA : Option Addr) (lN lC : Nat) (K : Value → PH → Prop) (h : PH) : Prop :=
  CallH Tryz.prog id_ref14_Page [.int .i64 i, .slice lA lN lC] (fun v h1 =>
    ∃ t0 : ByteArray, ∃ t1 : Int, v = .tuple #[.string t0, .int .i64 t1] ∧
    JoinP (T := Unit) (fun Jv =>
      (((t1 != (0 : Int)) = false → ((ByteArray.size (⟨#[76]⟩ : ByteArray) + ByteArray.size t0 : Nat) : Int) ≤ 9223372036854775807)) ∧
      (((t1 != (0 : Int)) = false →
          CallH Tryz.prog id_ref16_Walk_fits [.pointer w, .int .i64 (4 : Int), .int .i64 i, .string ((⟨#[76]⟩ : ByteArray) ++ t0)] (fun v_1 h3 =>
            ∃ t : Bool, v_1 = .bool t ∧
            (((!t) = true →
                K (.bool false) h3) ∧
              ((!t) = false →
                Jv (()) h3))) h1) ∧
        ((t1 != (0 : Int)) = true →
          K (.bool false) h1)))
    (fun _ h2 =>
      ∃ bv ov : Nat, w = some ⟨bv, ov, none⟩ ∧
      (0 ≤ i ∧ i < (16 : Nat)) ∧
      stH h2 bv ((ov + 35) + i.toNat * 1) [.bool true] fun h4 =>
      ∃ bv_1 ov_1 : Nat, w = some ⟨bv_1, ov_1, none⟩ ∧
      newH h4 (.cells #[] T_api_Pair (0, 0)) fun bv_2 h5 =>
      ∃ vs : List Value, srcH h5 lA (lN * 2) vs ∧
      appH T_api_Pair 2 32 [.string (⟨#[]⟩ : ByteArray), .string (⟨#[]⟩ : ByteArray)] (some ⟨bv_2, 0, none⟩) 0 0 lN vs (fun tA tN tC h6 =>
        (0 ≤ i ∧ i < (16 : Nat)) ∧
        stH h6 bv_1 ((ov_1 + 51) + i.toNat * 1) [.slice tA tN tC] fun h7 =>
        K (.bool true) h7) h5)) h
theorem F_ref16_Walk_Page_eq {w : Option Addr} {i : Int} {lA : Option Addr} {lN lC : Nat} {K : Value → PH → Prop} {h : PH} : @Eq Prop (F_ref16_Walk_Page w i lA lN lC K h) (denF Tryz.prog Tryz.f130 ⟨[], [(5, .of [0, 1, 3, 5, 6, 2, 4, 7, 8])], [], [(10, ⟨[], [], []⟩)]⟩ [.v (.pointer w), .v (.int .i64 i), .v (.slice lA lN lC)] K h) := by
  kernel_rfl
theorem F_ref16_Walk_Page_ok {w : Option Addr} {i : Int} {lA : Option Addr} {lN lC : Nat}  {K : Value → PH → Prop} {h : PH} (hh : F_ref16_Walk_Page w i lA lN lC K h) : CallH Tryz.prog id_ref16_Walk_Page [.pointer w, .int .i64 i, .slice lA lN lC] K h :=
  denF_sound' Tryz.func130 (H := ⟨[], [(5, .of [0, 1, 3, 5, 6, 2, 4, 7, 8])], [], [(10, ⟨[], [], []⟩)]⟩) (xs := [.v (.pointer w), .v (.int .i64 i), .v (.slice lA lN lC)]) (by kernel_rfl) (⟨rfl, rfl, rfl, trivial⟩) (den_of F_ref16_Walk_Page_eq hh)

/- (*twinlock/twinlockref16.Walk).Node -/
def F_ref16_Walk_Node (w : Option Addr) (level : Int) (i : Int) (leftv : List Int) (rightv : List Int) (K : Value → PH → Prop) (h : PH) : Prop :=
  JoinP (T := Unit) (fun Jv =>
    ((((decide (level < (0 : Int))) || (decide (level > (3 : Int)))) = false →
        CallH Tryz.prog id_ref15_InnerText [.agg ((leftv.map (Value.int .u8) ++ [])).toArray, .agg ((rightv.map (Value.int .u8) ++ [])).toArray] (fun v h2 =>
          ∃ t : ByteArray, v = .string t ∧
          CallH Tryz.prog id_ref16_Walk_fits [.pointer w, .int .i64 level, .int .i64 i, .string t] (fun v_1 h3 =>
            ∃ t_1 : Bool, v_1 = .bool t_1 ∧
            (((!t_1) = true →
                K (.bool false) h3) ∧
              ((!t_1) = false →
                Jv (()) h3))) h2) h) ∧
      (((decide (level < (0 : Int))) || (decide (level > (3 : Int)))) = true →
        K (.bool false) h)))
  (fun _ h1 =>
    CallH Tryz.prog id_ref16_Walk_ask [.pointer w, .int .i64 (IntKind.wrap .i64 (level + (1 : Int))), .int .i64 (IntKind.wrap .i64 ((2 : Int) * i)), .agg ((leftv.map (Value.int .u8) ++ [])).toArray] (fun _ h4 =>
      CallH Tryz.prog id_ref16_Walk_ask [.pointer w, .int .i64 (IntKind.wrap .i64 (level + (1 : Int))), .int .i64 (IntKind.wrap .i64 ((IntKind.wrap .i64 ((2 : Int) * i)) + (1 : Int))), .agg ((rightv.map (Value.int .u8) ++ [])).toArray] (fun _ h5 =>
        K (.bool true) h5) h4) h1)
theorem F_ref16_Walk_Node_eq {w : Option Addr} {level : Int} {i : Int} {leftv : List Int} {rightv : List Int} {K : Value → PH → Prop} {h : PH} : @Eq Prop (F_ref16_Walk_Node w level i leftv rightv K h) (denF Tryz.prog Tryz.f131 ⟨[8, 9], [], [], [(8, ⟨[], [], []⟩)]⟩ [.v (.pointer w), .v (.int .i64 level), .v (.int .i64 i), .agg [.ints .u8 32 leftv], .agg [.ints .u8 32 rightv]] K h) := by
  kernel_rfl
theorem F_ref16_Walk_Node_ok {w : Option Addr} {level : Int} {i : Int} {leftv : List Int} {rightv : List Int} (hk0 : leftv.length = 32) (hk1 : rightv.length = 32) {K : Value → PH → Prop} {h : PH} (hh : F_ref16_Walk_Node w level i leftv rightv K h) : CallH Tryz.prog id_ref16_Walk_Node [.pointer w, .int .i64 level, .int .i64 i, .agg ((leftv.map (Value.int .u8) ++ [])).toArray, .agg ((rightv.map (Value.int .u8) ++ [])).toArray] K h :=
  denF_sound' Tryz.func131 (H := ⟨[8, 9], [], [], [(8, ⟨[], [], []⟩)]⟩) (xs := [.v (.pointer w), .v (.int .i64 level), .v (.int .i64 i), .agg [.ints .u8 32 leftv], .agg [.ints .u8 32 rightv]]) (by kernel_rfl) (⟨rfl, rfl, rfl, ⟨hk0, trivial⟩, ⟨hk1, trivial⟩, trivial⟩) (den_of F_ref16_Walk_Node_eq hh)

/- (*twinlock/twinlockref16.Walk).fits -/
def F_ref16_Walk_fits (w : Option Addr) (level : Int) (i : Int) (text : ByteArray) (K : Value → PH → Prop) (h : PH) : Prop :=
  CallH Tryz.prog id_ref02_Sum [.string text] (fun v h1 =>
    ∃ hv : List Int, hv.length = 32 ∧ v = .agg ((hv.map (Value.int .u8) ++ [])).toArray ∧
    LoopP (T := Int × Unit) (fun Jv st h2 =>
      ∃ bv ov : Nat, w = some ⟨bv, ov, none⟩ ∧
      ∃ (tA : Option Addr) (tN tC : Nat), (h2.rds bv (ov + 34) 1 = some [.slice tA tN tC]) ∧
      (((decide (st.1 < ((tN : Nat) : Int))) = true →
          ∃ bv_1 ov_1 : Nat, w = some ⟨bv_1, ov_1, none⟩ ∧
          ∃ (tA_1 : Option Addr) (tN_1 tC_1 : Nat), (h2.rds bv_1 (ov_1 + 34) 1 = some [.slice tA_1 tN_1 tC_1]) ∧
          ∃ bv_2 ov_2 : Nat, (tA_1 = some ⟨bv_2, ov_2, none⟩ ∧ 0 ≤ st.1 ∧ st.1 < (tN_1 : Nat)) ∧
          ∃ t : Int, (h2.rds bv_2 (ov_2 + st.1.toNat * 34) 1 = some [.int .i64 t]) ∧
          ∃ bv_3 ov_3 : Nat, ((t == level) = true → w = some ⟨bv_3, ov_3, none⟩) ∧
          ∃ (tA_2 : Option Addr) (tN_2 tC_2 : Nat), (((t == level) = true → h2.rds bv_3 (ov_3 + 34) 1 = some [.slice tA_2 tN_2 tC_2])) ∧
          ∃ bv_4 ov_4 : Nat, (((t == level) = true → tA_2 = some ⟨bv_4, ov_4, none⟩ ∧ 0 ≤ st.1 ∧ st.1 < (tN_2 : Nat))) ∧
          ∃ t_1 : Int, (((t == level) = true → h2.rds bv_4 ((ov_4 + st.1.toNat * 34) + 1) 1 = some [.int .i64 t_1])) ∧
          ∃ bv_5 ov_5 : Nat, (((t == level) && (t_1 == i)) = true → w = some ⟨bv_5, ov_5, none⟩) ∧
          ∃ (tA_3 : Option Addr) (tN_3 tC_3 : Nat), ((((t == level) && (t_1 == i)) = true → h2.rds bv_5 (ov_5 + 34) 1 = some [.slice tA_3 tN_3 tC_3])) ∧
          ∃ bv_6 ov_6 : Nat, ((((t == level) && (t_1 == i)) = true → tA_3 = some ⟨bv_6, ov_6, none⟩ ∧ 0 ≤ st.1 ∧ st.1 < (tN_3 : Nat))) ∧
          ∃ t_2 : List Int, t_2.length = 32 ∧ ((((t == level) && (t_1 == i)) = true → h2.rds bv_6 ((ov_6 + st.1.toNat * 34) + 2) 32 = some (t_2.map (Value.int .u8) ++ []))) ∧
          (((((t == level) && (t_1 == i)) && (t_2 == hv)) = true →
              ∃ bv_7 ov_7 : Nat, w = some ⟨bv_7, ov_7, none⟩ ∧
              ∃ (tA_4 : Option Addr) (tN_4 tC_4 : Nat), (h2.rds bv_7 (ov_7 + 34) 1 = some [.slice tA_4 tN_4 tC_4]) ∧
              (0 ≤ (0 : Int) ∧ (0 : Int) ≤ st.1 ∧ st.1 ≤ ((tC_4 : Nat) : Int) ∧ ((tC_4 : Nat) : Int) ≤ (tC_4 : Nat)) ∧
              ∃ vs : List Value, srcH h2 (slA tA_4 34 (0 : Int) ((tC_4 : Nat) : Int)) ((st.1.toNat - (0 : Int).toNat) * 34) vs ∧
              appH T_ref16_Node 34 48 [.int .i64 (0 : Int), .int .i64 (0 : Int), .int .u8 (0 : Int), .int .u8 (0 : Int), .int .u8 (0 : Int), .int .u8 (0 : Int), .int .u8 (0 : Int), .int .u8 (0 : Int), .int .u8 (0 : Int), .int .u8 (0 : Int), .int .u8 (0 : Int), .int .u8 (0 : Int), .int .u8 (0 : Int), .int .u8 (0 : Int), .int .u8 (0 : Int), .int .u8 (0 : Int), .int .u8 (0 : Int), .int .u8 (0 : Int), .int .u8 (0 : Int), .int .u8 (0 : Int), .int .u8 (0 : Int), .int .u8 (0 : Int), .int .u8 (0 : Int), .int .u8 (0 : Int), .int .u8 (0 : Int), .int .u8 (0 : Int), .int .u8 (0 : Int), .int .u8 (0 : Int), .int .u8 (0 : Int), .int .u8 (0 : Int), .int .u8 (0 : Int), .int .u8 (0 : Int), .int .u8 (0 : Int), .int .u8 (0 : Int)] none 0 0 (st.1.toNat - (0 : Int).toNat) vs (fun lA lN lC h3 =>
                ∃ bv_8 ov_8 : Nat, w = some ⟨bv_8, ov_8, none⟩ ∧
                ∃ (tA_5 : Option Addr) (tN_5 tC_5 : Nat), (h3.rds bv_8 (ov_8 + 34) 1 = some [.slice tA_5 tN_5 tC_5]) ∧
                (0 ≤ (IntKind.wrap .i64 (st.1 + (1 : Int))) ∧ (IntKind.wrap .i64 (st.1 + (1 : Int))) ≤ ((tN_5 : Nat) : Int) ∧ ((tN_5 : Nat) : Int) ≤ ((tC_5 : Nat) : Int) ∧ ((tC_5 : Nat) : Int) ≤ (tC_5 : Nat)) ∧
                ∃ vs_1 : List Value, srcH h3 (slA tA_5 34 (IntKind.wrap .i64 (st.1 + (1 : Int))) ((tC_5 : Nat) : Int)) ((((tN_5 : Nat) : Int).toNat - (IntKind.wrap .i64 (st.1 + (1 : Int))).toNat) * 34) vs_1 ∧
                appH T_ref16_Node 34 48 [.int .i64 (0 : Int), .int .i64 (0 : Int), .int .u8 (0 : Int), .int .u8 (0 : Int), .int .u8 (0 : Int), .int .u8 (0 : Int), .int .u8 (0 : Int), .int .u8 (0 : Int), .int .u8 (0 : Int), .int .u8 (0 : Int), .int .u8 (0 : Int), .int .u8 (0 : Int), .int .u8 (0 : Int), .int .u8 (0 : Int), .int .u8 (0 : Int), .int .u8 (0 : Int), .int .u8 (0 : Int), .int .u8 (0 : Int), .int .u8 (0 : Int), .int .u8 (0 : Int), .int .u8 (0 : Int), .int .u8 (0 : Int), .int .u8 (0 : Int), .int .u8 (0 : Int), .int .u8 (0 : Int), .int .u8 (0 : Int), .int .u8 (0 : Int), .int .u8 (0 : Int), .int .u8 (0 : Int), .int .u8 (0 : Int), .int .u8 (0 : Int), .int .u8 (0 : Int), .int .u8 (0 : Int), .int .u8 (0 : Int)] lA lN lC (((tN_5 : Nat) : Int).toNat - (IntKind.wrap .i64 (st.1 + (1 : Int))).toNat) vs_1 (fun tA_6 tN_6 tC_6 h4 =>
                  ∃ bv_9 ov_9 : Nat, w = some ⟨bv_9, ov_9, none⟩ ∧
                  stH h4 bv_9 (ov_9 + 34) [.slice tA_6 tN_6 tC_6] fun h5 =>
                  newH h5 (.cells #[] 9 (0, 0)) fun bv_10 h6 =>
                  ∃ bv_11 ov_10 : Nat, w = some ⟨bv_11, ov_10, none⟩ ∧
                  ∃ (tA_7 : Option Addr) (tN_7 tC_7 : Nat), (h6.rds bv_11 (ov_10 + 67) 1 = some [.slice tA_7 tN_7 tC_7]) ∧
                  ∃ vs_2 : List Value, srcH h6 tA_7 (tN_7 * 1) vs_2 ∧
                  appH 9 1 16 [.string (⟨#[]⟩ : ByteArray)] (some ⟨bv_10, 0, none⟩) 0 0 tN_7 vs_2 (fun tA_8 tN_8 tC_8 h7 =>
                    appH 9 1 16 [.string (⟨#[]⟩ : ByteArray)] tA_8 tN_8 tC_8 1 [.string text] (fun tA_9 tN_9 tC_9 h8 =>
                      ∃ bv_12 ov_11 : Nat, w = some ⟨bv_12, ov_11, none⟩ ∧
                      stH h8 bv_12 (ov_11 + 67) [.slice tA_9 tN_9 tC_9] fun h9 =>
                      K (.bool true) h9) h7) h6) h3) h2) ∧
            ((((t == level) && (t_1 == i)) && (t_2 == hv)) = false →
              Jv ((IntKind.wrap .i64 (st.1 + (1 : Int))), ()) h2))) ∧
        ((decide (st.1 < ((tN : Nat) : Int))) = false →
          K (.bool false) h2))) ((0 : Int), ()) h1) h
theorem F_ref16_Walk_fits_eq {w : Option Addr} {level : Int} {i : Int} {text : ByteArray} {K : Value → PH → Prop} {h : PH} : @Eq Prop (F_ref16_Walk_fits w level i text K h) (denF Tryz.prog Tryz.f168 ⟨[9, 85], [], [(0, ⟨[(10, .int .i64)], [], []⟩)], []⟩ [.v (.pointer w), .v (.int .i64 level), .v (.int .i64 i), .v (.string text)] K h) := by
  kernel_rfl
theorem F_ref16_Walk_fits_ok {w : Option Addr} {level : Int} {i : Int} {text : ByteArray}  {K : Value → PH → Prop} {h : PH} (hh : F_ref16_Walk_fits w level i text K h) : CallH Tryz.prog id_ref16_Walk_fits [.pointer w, .int .i64 level, .int .i64 i, .string text] K h :=
  denF_sound' Tryz.func168 (H := ⟨[9, 85], [], [(0, ⟨[(10, .int .i64)], [], []⟩)], []⟩) (xs := [.v (.pointer w), .v (.int .i64 level), .v (.int .i64 i), .v (.string text)]) (by kernel_rfl) (⟨rfl, rfl, rfl, rfl, trivial⟩) (den_of F_ref16_Walk_fits_eq hh)

end TL

namespace TL
open Go Go.Proofs
variable {g h : PH} {N : List Nat} {K : Value → PH → Prop} {wb tb : Nat} {s : WS} {S T : List PrR}
open Classical in
/-- what a node does to a walk -/
noncomputable def nodeW (s : WS) (lv i : Int) (a b : List UInt8) : Bool × WS :=
  if h : ∃ k, (1 ≤ k ∧ k < 16) ∧ askP k = (lv, i) ∧ s.A k = some (shaN (innT a b)) then (true, wIn s h.choose a b) else (false, s)
open Classical in
/-- what a page does to a walk -/
noncomputable def pageW (s : WS) (i : Int) (l : List PrR) : Bool × WS :=
  if h : ∃ k : Nat, k < 16 ∧ i = k ∧ PgOk k l ∧ s.A (16 + k) = some (shaN (76 :: pageL l)) then (true, wPg s h.choose l) else (false, s)
theorem cWNodeV (x : WalkAt g N h wb s) (sp : Spl g N h) {lv i : Int} {a b : List UInt8} (ha : a.length = 32) (hb : b.length = 32) (hT : s.T.length ≤ 100000)
    (hk : ∀ N' h', WalkAt g N' h' wb (nodeW s lv i a b).2 → Stp g N h g N' h' → K (.bool (nodeW s lv i a b).1) h') :
    CallH Tryz.prog id_walk_Walk_Node [.pointer (some ⟨wb, 0, none⟩), .int .i64 lv, .int .i64 i, .agg (((bi a).map (Value.int .u8) ++ [])).toArray, .agg (((bi b).map (Value.int .u8) ++ [])).toArray] K h := by
  refine cWNode x sp ha hb hT (fun hn h' x' st => ?_) fun k N' h' k1 k2 ek hA x' st => ?_
  · have e : nodeW s lv i a b = (false, s) := dif_neg fun ⟨k, hk1, hk2, hk3⟩ => hn k hk1.1 hk1.2 hk2 hk3
    have := hk N h'
    rw [e] at this
    exact this x' st
  · have hex : ∃ k, (1 ≤ k ∧ k < 16) ∧ askP k = (lv, i) ∧ s.A k = some (shaN (innT a b)) := ⟨k, ⟨k1, k2⟩, ek, hA⟩
    have e : nodeW s lv i a b = (true, wIn s hex.choose a b) := dif_pos hex
    have hc := hex.choose_spec
    have ec : hex.choose = k := askP_inj _ (by omega) k (by omega) hc.1.1 k1 (hc.2.1.trans ek.symm)
    have := hk N' h'
    rw [e, ec] at this
    exact this x' st
theorem cWPageV (x : WalkAt g N h wb s) (sp : Spl g N h) {i : Int} {lA : Option Addr} {lC : Nat} {l : List PrR} (hl : SR EncPr g lA l) (hn : l.length ≤ 1000) (hs : ∀ x ∈ l, x.p.length ≤ 1000000) (hT : s.T.length ≤ 100000)
    (hk : ∀ g' N' h', WalkAt g' N' h' wb (pageW s i l).2 → Stp g N h g' N' h' → K (.bool (pageW s i l).1) h') :
    CallH Tryz.prog id_walk_Walk_Page [.pointer (some ⟨wb, 0, none⟩), .int .i64 i, .slice lA l.length lC] K h := by
  refine cWPage x sp hl hn hs hT (fun hno h' x' st => ?_) fun k g' N' h' k16 ek hok hA x' st => ?_
  · have e : pageW s i l = (false, s) := dif_neg fun ⟨k, hk1, hk2, hk3, hk4⟩ => hno k hk1 hk2 hk3 hk4
    have := hk g N h'
    rw [e] at this
    exact this x' st
  · have hex : ∃ k : Nat, k < 16 ∧ i = k ∧ PgOk k l ∧ s.A (16 + k) = some (shaN (76 :: pageL l)) := ⟨k, k16, ek, hok, hA⟩
    have e : pageW s i l = (true, wPg s hex.choose l) := dif_pos hex
    have hc := hex.choose_spec
    have ec : hex.choose = k := by have := hc.2.1; omega
    have := hk g' N' h'
    rw [e, ec] at this
    exact this x' st
/-- what an answer out of a tree does to a walk -/
noncomputable def answerW (s : WS) (T : List PrR) (c : Nat) : Bool × WS :=
  if 16 ≤ c then pageW s ((c - 16 : Nat) : Int) (partB T (c - 16)) else nodeW s (askP c).1 (askP c).2 (nd T (2 * c)) (nd T (2 * c + 1))
end TL

namespace TL
open Go Go.Proofs
variable {h : PH} {K : Value → PH → Prop}
/-- an act on a walk -/
structure Ac6 where
  d : Int
  x1 : Int
  x2 : Int
  x3 : Int
  a : Option Addr
  c : Nat
  ps : List PrR
def EncAc6 : Enc Ac6 where
  enc r := [.int .u8 r.d, .int .i64 r.x1, .int .i64 r.x2, .int .i64 r.x3, .slice r.a r.ps.length r.c]
  k := 5
  len _ := rfl
  one o v hv := by
    simp only [List.mem_cons, List.not_mem_nil, or_false] at hv
    rcases hv with rfl | rfl | rfl | rfl | rfl <;> rfl
  pos := by decide
def gAc6 (l : List Ac6) : Bool := decide (100 < l.length) || l.any fun r => gPrs r.ps
theorem cGreat16 {lA : Option Addr} {lC : Nat} {l : List Ac6} (hl : SR EncAc6 h lA l) (hs : ∀ r ∈ l, SR EncPr h r.a r.ps) (hk : K (.bool (gAc6 l)) h) : CallH Tryz.prog id_law16_Great [.slice lA l.length lC] K h := by
  refine F_law16_Great_ok ⟨fun e => ?_, fun e => ?_⟩
  · have e : 100 < l.length := by have := of_decide_eq_true e; omega
    simpa [gAc6, e] using hk
  · have e0 : ¬ 100 < l.length := by have := of_decide_eq_false e; omega
    refine LoopP.ind (fun (z : Int × Unit) h' => ∃ i : Nat, z.1 = i ∧ i ≤ l.length ∧ h' = h ∧ ∀ j, (hj : j < l.length) → j < i → gPrs l[j].ps = false) (fun z _ => (l.length - z.1).toNat) ?_ ⟨0, rfl, Nat.zero_le _, rfl, fun _ _ hj => absurd hj (Nat.not_lt_zero _)⟩
    rintro ⟨zi, u⟩ h1 ⟨i, hzi, hi, rfl, ha⟩
    dsimp only at hzi
    subst hzi
    dsimp only
    refine ⟨fun e1 => ?_, fun e1 => ?_⟩
    · have e1 : i < l.length := by have := of_decide_eq_true e1; omega
      have hit : ((i : Nat) : Int).toNat = i := by omega
      have hwi : IntKind.wrap .i64 (((i : Nat) : Int) + (1 : Int)) = ((i + 1 : Nat) : Int) := by rw [wrap64] <;> omega
      obtain ⟨b, o, hA, hr⟩ := hl.get e1
      rw [hit, hwi]
      refine ⟨b, o, ⟨hA, by omega, by omega⟩, _, _, _, hr _ 4 1 rfl (by decide), cGreatPairs (hs _ (List.getElem_mem e1)) ⟨_, rfl, fun e2 => ?_, fun e2 => ⟨⟨i + 1, rfl, by omega, rfl, fun j hj hji => ?_⟩, by omega⟩⟩⟩
      · have : gAc6 l = true := by
          simp only [gAc6, Bool.or_eq_true, List.any_eq_true]
          exact .inr ⟨_, List.getElem_mem e1, e2⟩
        rw [this] at hk; exact hk
      · by_cases hji2 : j = i
        · subst hji2; exact e2
        · exact ha j hj (by omega)
    · have e1 : i = l.length := by have := of_decide_eq_false e1; omega
      have : gAc6 l = false := by
        simp only [gAc6, Bool.or_eq_false_iff, List.any_eq_false]
        refine ⟨by simpa using e0, fun r hr => ?_⟩
        obtain ⟨j, hj, rfl⟩ := List.getElem_of_mem hr
        have := ha j hj (by omega)
        simp [this]
      rw [this] at hk; exact hk
end TL

namespace TL
open Go Go.Proofs
variable {s : WS} {lv i : Int} {a b : List UInt8} {l T : List PrR} {c : Nat}
/-- what each answer keeps: no node 0, few texts, the base, the root -/
structure KeepW (s s' : WS) : Prop where
  a0 : s.A 0 = none → s'.A 0 = none
  t : s'.T.length ≤ s.T.length + 1
  S : s'.S = s.S
  R : s'.R = s.R
theorem KeepW.rf (s : WS) : KeepW s s := ⟨id, Nat.le_succ _, rfl, rfl⟩
theorem wIn_keep {k : Nat} (h : 1 ≤ k) : KeepW s (wIn s k a b) := by
  refine ⟨fun h0 => ?_, by show (s.T ++ [_]).length ≤ _; rw [List.length_append]; simp, rfl, rfl⟩
  show wAsk _ (wAsk _ (upF s.A k none) _ _) _ _ 0 = none
  rw [wAsk_ne (by omega), wAsk_ne (by omega), upF_ne _ _ (by omega)]
  exact h0
theorem wPg_keep {k : Nat} : KeepW s (wPg s k l) := by
  refine ⟨fun h0 => ?_, by show (s.T ++ [_]).length ≤ _; rw [List.length_append]; simp, rfl, rfl⟩
  show upF s.A (16 + k) none 0 = none
  rw [upF_ne _ _ (by omega)]
  exact h0
theorem nodeW_keep : KeepW s (nodeW s lv i a b).2 := by
  unfold nodeW
  split
  · rename_i h
    exact wIn_keep h.choose_spec.1.1
  · exact KeepW.rf s
theorem pageW_keep : KeepW s (pageW s i l).2 := by
  unfold pageW
  split
  · exact wPg_keep
  · exact KeepW.rf s
end TL

namespace TL
open Go Go.Proofs
variable {g h : PH} {N : List Nat} {K : Value → PH → Prop} {wb ub tb : Nat} {s : WS} {S T : List PrR}
/-- a hash of one byte and noughts -/
def hx (n : Int) : List UInt8 := UInt8.ofNat (IntKind.wrap .u8 n).toNat :: List.replicate 31 0
theorem bi_z32 : List.replicate 32 (0 : Int) = bi (List.replicate 32 0) := bi_zero 32
theorem wList_in {A : Nat → Option (List UInt8)} (h0 : A 0 = none) {k : Nat} (hk : k ∈ wList A) : 1 ≤ k ∧ k < 32 := by
  obtain ⟨h1, h2⟩ := wList_mem.1 hk
  rcases Nat.eq_zero_or_pos k with rfl | h
  · rw [h0] at h2; cases h2
  · exact ⟨h, h1⟩
theorem cWWantG {M : List Nat} (x : WalkAt g N h wb s) (sp : Spl g M h) (h0 : s.A 0 = none) {n : Int} (hk : ∀ a' c' g' h', h.Sub h' → Stp g M h g' M h' → SR EncAsk g' a' (((wList s.A).map askP).take n.toNat) → K (.slice a' (((wList s.A).map askP).take n.toNat).length c') h') :
    CallH Tryz.prog id_walk_Walk_Want [.pointer (some ⟨wb, 0, none⟩), .int .i64 n] K h := by
  refine F_walk_Walk_Want_ok (cWNone x ⟨_, rfl, fun e => ?_, fun e => ?_⟩)
  · have e : n < 1 := by simpa using e
    have hn : n.toNat = 0 := by omega
    have := hk none 0 g h (PH.Sub.rf _) (Stp.refl sp) (by rw [hn]; exact .inl rfl)
    rw [hn] at this; exact this
  · have e : ¬ n < 1 := by simpa using e
    obtain ⟨⟨tb, ra, rp, esA, cA, esP, cP, tA, tN, tC, Bt, rfl, d1, d2, d3, d4, d5, d6, hw, ht, ha, hA, hp, hP, hB⟩, hR, hL⟩ := x
    have hlen : esA.length ≤ 1000 := by have := hA.len; omega
    refine ⟨wb, 0, rfl, _, wk_ask hw hR, F_maps_Keys_map_walk_Ask_api_Hash_walk_Ask_api_Hash_ok (nwL fun bm h1 _ hbm c1 => ⟨_, rfl, rfl, cSortedA hbm (c1.sub0 _ _ ha) (fun e he => ?_) hA.old hA.bn hlen fun l a' c' B' h2 hp2 hs2 hB2 cc2 => ⟨_, _, _, rfl, ?_, ?_⟩⟩)⟩
    · obtain ⟨k, _, _, hk⟩ := hA.key e he
      exact ⟨_, hk⟩
    · have := hB2.le
      unfold minV
      split <;> omega
    · have hl := asked_row hA h0 hp2 hs2
      have hle := hB2.le
      rw [← hl] at hk
      have e1 : (minV n ((l.length : Nat) : Int)).toNat = min n.toNat l.length := by unfold minV; split <;> omega
      have e2 : (minV n ((l.length : Nat) : Int)).toNat - (0 : Int).toNat = (l.take n.toNat).length := by rw [e1, List.length_take]; exact Nat.sub_zero _
      rw [e2]
      have hB3 : SR EncAsk (PH.plus g h2 B') a' l := (hB2.keep fun b hb o e => by rw [plus_in hb]; exact e).sr
      refine hk _ _ (PH.plus g h2 B') h2 (c1.sub0.tr cc2.sub0) (sp.new (Chg.from c1.sub0 cc2)) ?_
      have := hB3.slice (L := 0) (lo := 0) (hi := min n.toNat l.length) (mx := (c' : Int)) rfl (Nat.min_le_right _ _) (by omega)
      rw [List.drop_zero, Nat.sub_zero, take_min_len] at this
      exact this
end TL

namespace TL
open Go Go.Proofs
variable {g h : PH} {N : List Nat} {K : Value → PH → Prop} {wb ub tb : Nat} {s : WS} {S T : List PrR} {lv i : Int} {a b : List UInt8} {l : List PrR} {c : Nat}
theorem textsT_le (hm : mayB S = true) (hl : S.length ≤ 48) : ∀ t ∈ textsT S, t.length ≤ 1000000 := fun t ht => by
  have e : textsT S = codesT.map fun c => if c < 16 then leafT S c else inT S (c - 16) := texts_codes (leafT S) (inT S)
  rw [e] at ht
  obtain ⟨c, _, rfl⟩ := List.mem_map.1 ht
  split
  · have := leafT_le hm hl c; omega
  · rw [inT_len]; decide
/-- a walk that was begun and answered -/
structure WOk (s : WS) : Prop where
  inv : ∃ W X, WInv s W X
  ts : ∀ t ∈ s.T, t.length ≤ 1000000
  q16 : ∀ i l, s.Q i = some l → i < 16
theorem WOk.new {R : List UInt8} (hm : mayB S = true) (hl : S.length ≤ 48) (hR : R.length = 32) : WOk (wNew S R) := ⟨⟨_, _, WInv.new hm hl hR⟩, textsT_le hm hl, fun _ _ h => by cases h⟩
theorem nodeW_cases : nodeW s lv i a b = (false, s) ∨ ∃ k, (1 ≤ k ∧ k < 16) ∧ askP k = (lv, i) ∧ s.A k = some (shaN (innT a b)) ∧ nodeW s lv i a b = (true, wIn s k a b) := by
  unfold nodeW
  split
  · rename_i hh
    exact .inr ⟨hh.choose, hh.choose_spec.1, hh.choose_spec.2.1, hh.choose_spec.2.2, rfl⟩
  · exact .inl rfl
theorem pageW_cases : pageW s i l = (false, s) ∨ ∃ k : Nat, k < 16 ∧ i = k ∧ PgOk k l ∧ s.A (16 + k) = some (shaN (76 :: pageL l)) ∧ pageW s i l = (true, wPg s k l) := by
  unfold pageW
  split
  · rename_i hh
    exact .inr ⟨hh.choose, hh.choose_spec.1, hh.choose_spec.2.1, hh.choose_spec.2.2.1, hh.choose_spec.2.2.2, rfl⟩
  · exact .inl rfl
theorem WOk.inn (v : WOk s) (ha : a.length = 32) (hb : b.length = 32) (h16 : c < 16) (hA : s.A c = some (shaN (innT a b))) : WOk (wIn s c a b) := by
  obtain ⟨⟨W, X, v⟩, ht, hq⟩ := v
  refine ⟨⟨_, _, v.node ha hb h16 hA⟩, fun t hm => ?_, hq⟩
  rcases List.mem_append.1 hm with hm | hm
  · exact ht t hm
  · rw [List.mem_singleton] at hm; subst hm
    simp [innT, ha, hb]
theorem WOk.pg (v : WOk s) (h16 : c < 16) (hp : PgOk c l) (hA : s.A (16 + c) = some (shaN (76 :: pageL l))) : WOk (wPg s c l) := by
  obtain ⟨⟨W, X, v⟩, ht, hq⟩ := v
  refine ⟨⟨_, _, v.page h16 hp hA⟩, fun t hm => ?_, fun j m hj => ?_⟩
  · rcases List.mem_append.1 hm with hm | hm
    · exact ht t hm
    · rw [List.mem_singleton] at hm; subst hm
      have := page_len hp
      rw [List.length_cons]; omega
  · have hj : upF s.Q c (some l) j = some m := hj
    by_cases e : j = c
    · omega
    · rw [upF_ne _ _ e] at hj; exact hq j m hj
theorem WOk.node (v : WOk s) (ha : a.length = 32) (hb : b.length = 32) : WOk (nodeW s lv i a b).2 := by
  rcases nodeW_cases (s := s) (lv := lv) (i := i) (a := a) (b := b) with e | ⟨k, hk, _, hA, e⟩
  · rw [e]; exact v
  · rw [e]; exact v.inn ha hb hk.2 hA
theorem WOk.page (v : WOk s) : WOk (pageW s i l).2 := by
  rcases pageW_cases (s := s) (i := i) (l := l) with e | ⟨k, hk, _, hp, hA, e⟩
  · rw [e]; exact v
  · rw [e]; exact v.pg hk hp hA
theorem WOk.answer (v : WOk s) : WOk (answerW s T c).2 := by
  unfold answerW
  split
  · exact v.page
  · exact v.node (nd_len _ _) (nd_len _ _)
theorem WOk.a0 (v : WOk s) : s.A 0 = none := by
  obtain ⟨⟨W, X, v⟩, _, _⟩ := v
  exact (v.out 0 (.inl rfl)).1
theorem WOk.may (v : WOk s) : mayB s.S = true ∧ s.S.length ≤ 48 := by
  obtain ⟨⟨W, X, v⟩, _, _⟩ := v
  exact ⟨v.may, v.le⟩
theorem WOk.none (v : WOk s) (h : wList s.A = []) : ∀ c, s.A c = .none := by
  obtain ⟨⟨W, X, v⟩, _, _⟩ := v
  exact wList_nil v h
/-- no two unlike texts of one hash: what is asked for is the tree's -/
theorem WOk.asks (v : WOk s) (hR : s.R = nd T 1) {L : List (List UInt8)} (hno : NoColl L L.length) (h1 : ∀ t ∈ s.T, t ∈ L) (h2 : ∀ t ∈ textsT T, t ∈ L) : ∀ c x, s.A c = some x → x = nd T c := fun c x hA => by
  obtain ⟨⟨W, X, v⟩, _, _⟩ := v
  obtain ⟨c1, c2, hk, _, rfl, _⟩ := v.asked hA
  exact v.wants hR hno h1 h2 c c1 c2 hk
/-- .. and when all is answered, its parts are the tree's -/
theorem WOk.parts (v : WOk s) (hR : s.R = nd T 1) (hm : mayB T = true) (h48 : T.length ≤ 48) (hd : ∀ c, s.A c = Option.none) {L : List (List UInt8)} (hno : NoColl L L.length) (h1 : ∀ t ∈ s.T, t ∈ L) (h2 : ∀ t ∈ textsT T, t ∈ L) : ∀ i, i < 16 → wPart s i = partB T i := by
  obtain ⟨⟨W, X, v⟩, _, _⟩ := v
  obtain ⟨H, TX, hv⟩ := v.vt hd
  rw [hR] at hv
  exact hv.inj (VT.tree hm h48) hno h1 h2
theorem WOk.q (v : WOk s) : ∀ i l, s.Q i = some l → PgOk i l := fun i l hq => by
  obtain ⟨⟨W, X, v⟩, _, v3⟩ := v
  have hi := v3 i l hq
  obtain ⟨t, ht⟩ := Option.isSome_iff_exists.1 (v.q i l hi hq)
  obtain ⟨m, h1, h2, _⟩ := v.lf i t hi ht
  rw [hq] at h1; cases h1
  exact h2
theorem WOk.part (v : WOk s) : ∀ i, i < 16 → PgOk i (wPart s i) := fun i _ => by
  unfold wPart
  cases e : s.Q i with
  | none => exact part_ok v.may.1 v.may.2 i
  | some l => exact v.q i l e
end TL

namespace TL
open Go Go.Proofs
variable {g h : PH} {N : List Nat} {K : Value → PH → Prop} {wb ub tb : Nat} {s : WS} {S T : List PrR}
theorem turn_in (n : Int) {m : Nat} (hm : 0 < m) (hm2 : m ≤ 1000000) : (n.tmod (m : Int) < 0 → 0 ≤ IntKind.wrap .i64 (n.tmod (m : Int) + (m : Int)) ∧ IntKind.wrap .i64 (n.tmod (m : Int) + (m : Int)) < m) ∧ (¬ n.tmod (m : Int) < 0 → 0 ≤ n.tmod (m : Int) ∧ n.tmod (m : Int) < m) := by
  have h1 : n.tmod (m : Int) < m := Int.tmod_lt_of_pos n (by omega)
  have h2 : -(m : Int) < n.tmod (m : Int) := Int.lt_tmod_of_pos n (by omega)
  refine ⟨fun h => ?_, fun h => by omega⟩
  rw [wrap64 (by omega) (by omega)]
  omega
theorem cLawNode {lv i : Nat} (x : Tr tb h S) (hl : lv ≤ 4) (hi : i < 2 ^ lv) (hk : K (.agg (((bi (nd S (2 ^ lv + i))).map (Value.int .u8) ++ [])).toArray) h) :
    CallH Tryz.prog id_law16_node [.pointer (some ⟨tb, 0, none⟩), .int .i64 (lv : Int), .int .i64 (i : Int)] K h :=
  F_law16_node_ok (cNode x hl hi ⟨bi (nd S (2 ^ lv + i)), by rw [bi_len, nd_len], true, rfl, hk⟩)
end TL

namespace TL
open Go Go.Proofs
variable {g h : PH} {K : Value → PH → Prop} {xb : Nat} {s : WS}
/-! ### One cell of a block -/
theorem rd1 {b : Nat} {cs : List Value} {T : TypeId} {fr : Nat × Nat} (hb : h b = some (.cells cs.toArray T fr)) {o : Nat} {v : Value} (hv : cs[o]? = some v) : h.rds b o 1 = some [v] := by
  obtain ⟨ho, rfl⟩ := List.getElem?_eq_some_iff.1 hv
  rw [rds_of hb (by omega)]
  congr 1
  rw [List.drop_eq_getElem_cons ho]
  rfl
theorem st1 {b : Nat} {cs : List Value} {T : TypeId} (hb : h b = some (.cells cs.toArray T (0, 0))) {o : Nat} {v : Value} {J : PH → Prop} (ho : o < cs.length) (hk : ∀ h', h' b = some (.cells (cs.set o v).toArray T (0, 0)) → Chg [b] [b] h h' → J h') : stH h b o [v] J := by
  refine stH_mk hb (by show o + 1 ≤ cs.length; omega) ?_
  have : cs.take o ++ [v] ++ cs.drop (o + [v].length) = cs.set o v := by
    rw [List.set_eq_take_append_cons_drop, if_pos ho]; simp
  rw [this]
  exact hk _ (PH.upd_same ..) (Chg.upd _)
/-! ### Rows of nodes -/
structure NdR where
  p : Int × Int
  w : H32
def EncNd : Enc NdR where
  enc r := .int .i64 r.p.1 :: .int .i64 r.p.2 :: (bi r.w.1).map (Value.int .u8)
  k := 34
  len r := by rw [List.length_cons, List.length_cons, List.length_map, bi_len, r.w.2]
  one r v hv := by
    simp only [List.mem_cons] at hv
    rcases hv with rfl | rfl | hv
    · rfl
    · rfl
    · obtain ⟨n, _, rfl⟩ := List.mem_map.1 hv
      rfl
  pos := by decide
def toH (x : List UInt8) : H32 := if h : x.length = 32 then ⟨x, h⟩ else ⟨List.replicate 32 0, by simp⟩
theorem toH_of {x : List UInt8} (h : x.length = 32) : toH x = ⟨x, h⟩ := dif_pos h
def ndR (A : Nat → Option (List UInt8)) (c : Nat) : NdR := ⟨askP c, toH ((A c).getD [])⟩
/-- what is asked for, as the document's row -/
def ndL (A : Nat → Option (List UInt8)) : List NdR := (wList A).map (ndR A)
theorem ndL_len (A : Nat → Option (List UInt8)) : (ndL A).length = (wList A).length := by simp [ndL]
theorem ndL_le (A : Nat → Option (List UInt8)) : (ndL A).length ≤ 32 := by rw [ndL_len]; exact wList_le A
theorem natUp_ext : ∀ {l m : List Nat}, l.Pairwise (· < ·) → m.Pairwise (· < ·) → (∀ x, x ∈ l ↔ x ∈ m) → l = m
  | [], [], _, _, _ => rfl
  | [], b :: m, _, _, h => by have := (h b).2 List.mem_cons_self; cases this
  | a :: l, [], _, _, h => by have := (h a).1 List.mem_cons_self; cases this
  | a :: l, b :: m, h1, h2, h => by
    obtain ⟨h1, h1'⟩ := List.pairwise_cons.1 h1
    obtain ⟨h2, h2'⟩ := List.pairwise_cons.1 h2
    have e : a = b := by
      rcases List.mem_cons.1 ((h a).1 List.mem_cons_self) with e | e
      · exact e
      · rcases List.mem_cons.1 ((h b).2 List.mem_cons_self) with e2 | e2
        · exact e2.symm
        · have := h2 a e; have := h1 b e2; omega
    subst e
    rw [natUp_ext h1' h2' fun x => ⟨fun hx => ?_, fun hx => ?_⟩]
    · rcases List.mem_cons.1 ((h x).1 (List.mem_cons_of_mem _ hx)) with e | e
      · subst e; have := h1 x hx; omega
      · exact e
    · rcases List.mem_cons.1 ((h x).2 (List.mem_cons_of_mem _ hx)) with e | e
      · subst e; have := h2 x hx; omega
      · exact e
theorem wList_up (A : Nat → Option (List UInt8)) : (wList A).Pairwise (· < ·) := List.pairwise_lt_range.sublist List.filter_sublist
theorem wList_ins {A : Nat → Option (List UInt8)} {c k : Nat} {v : List UInt8} (hc : c < 32) (hk : k ≤ (wList A).length) (h1 : ∀ j (hj : j < (wList A).length), j < k → (wList A)[j] < c) (h2 : ∀ j (hj : j < (wList A).length), k ≤ j → c < (wList A)[j]) : wList (upF A c (some v)) = (wList A).take k ++ c :: (wList A).drop k := by
  have m1 : ∀ x ∈ (wList A).take k, x < c := fun x hx => by
    obtain ⟨j, hj, rfl⟩ := List.getElem_of_mem hx
    rw [List.length_take] at hj
    rw [List.getElem_take]
    exact h1 j (by omega) (by omega)
  have m2 : ∀ x ∈ (wList A).drop k, c < x := fun x hx => by
    obtain ⟨j, hj, rfl⟩ := List.getElem_of_mem hx
    rw [List.length_drop] at hj
    rw [List.getElem_drop]
    exact h2 _ (by omega) (by omega)
  refine natUp_ext (wList_up _) ?_ fun x => ?_
  · rw [List.pairwise_append]
    refine ⟨(wList_up A).sublist (List.take_sublist _ _), List.pairwise_cons.2 ⟨m2, (wList_up A).sublist (List.drop_sublist _ _)⟩, fun a ha b hb => ?_⟩
    rcases List.mem_cons.1 hb with rfl | hb
    · exact m1 a ha
    · have := m1 a ha; have := m2 b hb; omega
  · have hmem : x ∈ (wList A).take k ++ c :: (wList A).drop k ↔ x = c ∨ x ∈ wList A := by
      conv => rhs; rhs; rw [← List.take_append_drop k (wList A)]
      simp only [List.mem_append, List.mem_cons]
      constructor
      · rintro (h | h | h)
        · exact .inr (.inl h)
        · exact .inl h
        · exact .inr (.inr h)
      · rintro (h | h | h)
        · exact .inr (.inl h)
        · exact .inl h
        · exact .inr (.inr h)
    rw [hmem, wList_mem, wList_mem]
    by_cases e : x = c
    · subst e
      rw [upF_same]; simp [hc]
    · rw [upF_ne _ _ e]; simp [e]
theorem wList_del {A : Nat → Option (List UInt8)} {k : Nat} (hk : k < (wList A).length) : wList (upF A (wList A)[k] none) = (wList A).take k ++ (wList A).drop (k + 1) := by
  have hs := wList_up A
  have hp := List.pairwise_iff_getElem.1 hs
  refine natUp_ext (wList_up _) (hs.sublist ?_) fun x => ?_
  · conv => rhs; rw [← List.take_append_drop k (wList A)]
    refine (List.Sublist.refl _).append ?_
    rw [← List.drop_drop]
    exact List.drop_sublist _ _
  · rw [wList_mem]
    have e1 : x ∈ (wList A).take k ++ (wList A).drop (k + 1) ↔ x ≠ (wList A)[k] ∧ x ∈ wList A := by
      constructor
      · intro hx
        rcases List.mem_append.1 hx with hx | hx
        · refine ⟨fun e => ?_, List.mem_of_mem_take hx⟩
          obtain ⟨j, hj, rfl⟩ := List.getElem_of_mem hx
          rw [List.length_take] at hj
          rw [List.getElem_take] at e
          have := hp j k (by omega) hk (by omega)
          omega
        · refine ⟨fun e => ?_, List.mem_of_mem_drop hx⟩
          obtain ⟨j, hj, rfl⟩ := List.getElem_of_mem hx
          rw [List.length_drop] at hj
          rw [List.getElem_drop] at e
          have := hp k (k + 1 + j) hk (by omega) (by omega)
          omega
      · rintro ⟨hne, hx⟩
        obtain ⟨j, hj, rfl⟩ := List.getElem_of_mem hx
        rcases Nat.lt_trichotomy j k with h | h | h
        · refine List.mem_append_left _ (List.mem_iff_getElem.2 ⟨j, by rw [List.length_take]; omega, ?_⟩)
          rw [List.getElem_take]
        · subst h; exact absurd rfl hne
        · refine List.mem_append_right _ (List.mem_iff_getElem.2 ⟨j - (k + 1), by rw [List.length_drop]; omega, ?_⟩)
          rw [List.getElem_drop]
          congr 1; omega
    rw [e1, wList_mem]
    by_cases e : x = (wList A)[k]
    · rw [e, upF_same]; simp
    · rw [upF_ne _ _ e]; simp [e]
theorem ndR_ne {A : Nat → Option (List UInt8)} {c d : Nat} {y : Option (List UInt8)} (h : d ≠ c) : ndR (upF A c y) d = ndR A d := by unfold ndR; rw [upF_ne _ _ h]
theorem ndL_ins {A : Nat → Option (List UInt8)} {c k : Nat} {v : List UInt8} (hv : v.length = 32) (hc : c < 32) (hA : A c = none) (hk : k ≤ (wList A).length) (h1 : ∀ j (hj : j < (wList A).length), j < k → (wList A)[j] < c) (h2 : ∀ j (hj : j < (wList A).length), k ≤ j → c < (wList A)[j]) : ndL (upF A c (some v)) = (ndL A).take k ++ [⟨askP c, ⟨v, hv⟩⟩] ++ (ndL A).drop k := by
  have hne : ∀ d ∈ wList A, ndR (upF A c (some v)) d = ndR A d := fun d hd => ndR_ne fun e => by
    subst e
    have := (wList_mem.1 hd).2
    rw [hA] at this; cases this
  unfold ndL
  rw [wList_ins hc hk h1 h2, List.map_append, List.map_cons, ← List.map_take, ← List.map_drop, List.append_assoc]
  congr 1
  · exact List.map_congr_left fun d hd => hne d (List.mem_of_mem_take hd)
  · rw [List.singleton_append]
    congr 1
    · unfold ndR
      rw [upF_same, Option.getD_some, toH_of hv]
    · exact List.map_congr_left fun d hd => hne d (List.mem_of_mem_drop hd)
theorem ndL_del {A : Nat → Option (List UInt8)} {k : Nat} (hk : k < (wList A).length) : ndL (upF A (wList A)[k] none) = (ndL A).take k ++ (ndL A).drop (k + 1) := by
  have hp := List.pairwise_iff_getElem.1 (wList_up A)
  unfold ndL
  rw [wList_del hk, List.map_append, ← List.map_take, ← List.map_drop]
  congr 1
  · refine List.map_congr_left fun d hd => ndR_ne fun e => ?_
    obtain ⟨j, hj, rfl⟩ := List.getElem_of_mem hd
    rw [List.length_take] at hj
    rw [List.getElem_take] at e
    have := hp j k (by omega) hk (by omega)
    omega
  · refine List.map_congr_left fun d hd => ndR_ne fun e => ?_
    obtain ⟨j, hj, rfl⟩ := List.getElem_of_mem hd
    rw [List.length_drop] at hj
    rw [List.getElem_drop] at e
    have := hp k (k + 1 + j) hk (by omega) (by omega)
    omega
/-! ### The document's walk -/
/-- its cells -/
structure RefC (g : PH) (L : List Value) (s : WS) : Prop where
  len : L.length = 68
  base : ∃ a c, L[0]? = some (.slice a s.S.length c) ∧ SR EncPr g a s.S
  lev : ∃ lv f, L[1]? = some (.slice (some ⟨lv, 0, none⟩) 5 5) ∧ LvB g lv f ∧ ∀ j, j < 5 → (f j).n = 2 ^ j ∧ SR EncH g (f j).a (lvRow s.S j (2 ^ j))
  root : (L.drop 2).take 32 = (bi s.R).map (Value.int .u8)
  ask : ∃ a c, L[34]? = some (.slice a (ndL s.A).length c) ∧ SR EncNd g a (ndL s.A) ∧ (ndL s.A).length ≤ c
  stg : ∀ i, i < 16 → L[35 + i]? = some (.bool (s.Q i).isSome)
  part : ∀ i, i < 16 → ∃ a n c, L[51 + i]? = some (.slice a n c) ∧ ∀ l, s.Q i = some l → n = l.length ∧ SR EncPr g a l
  text : ∃ a c, L[67]? = some (.slice a s.T.length c) ∧ SR EncS g a s.T
structure RefAt (g h : PH) (xb : Nat) (s : WS) : Prop where
  mem : ∃ L, h xb = some (.cells (L : List Value).toArray T_ref16_Walk (0, 0)) ∧ RefC g L s
  R : s.R.length = 32
  may : mayB s.S = true
  le : s.S.length ≤ 48
theorem RefC.sub {g' : PH} {L : List Value} (x : RefC g L s) (hs : g.Sub g') : RefC g' L s := by
  obtain ⟨h1, ⟨a, c, h2, h3⟩, ⟨lv, f, h4, h5, h6⟩, h7, ⟨a2, c2, h8, h9, h9'⟩, h10, h11, ⟨a3, c3, h12, h13⟩⟩ := x
  exact ⟨h1, ⟨a, c, h2, h3.sub hs⟩, ⟨lv, f, h4, h5.sub hs, fun j hj => ⟨(h6 j hj).1, (h6 j hj).2.sub hs⟩⟩, h7, ⟨a2, c2, h8, h9.sub hs, h9'⟩, h10, fun i hi => by
    obtain ⟨a, n, c, q1, q2⟩ := h11 i hi
    exact ⟨a, n, c, q1, fun l hl => ⟨(q2 l hl).1, (q2 l hl).2.sub hs⟩⟩, ⟨a3, c3, h12, h13.sub hs⟩⟩
theorem RefAt.keep {g' h' : PH} (x : RefAt g h xb s) (hs : g.Sub g') (hk : ∀ o, h xb = some o → h' xb = some o) : RefAt g' h' xb s := by
  obtain ⟨⟨L, h1, h2⟩, h3, h4, h5⟩ := x
  exact ⟨⟨L, hk _ h1, h2.sub hs⟩, h3, h4, h5⟩
/-- other rows of what is asked for -/
theorem RefC.setAsk {L : List Value} (x : RefC g L s) {A' : Nat → Option (List UInt8)} {a : Option Addr} {c n : Nat} (hn : n = (ndL A').length) (hl : SR EncNd g a (ndL A')) (hc : (ndL A').length ≤ c) : RefC g (L.set 34 (.slice a n c)) { s with A := A' } := by
  have hlen := x.len
  subst hn
  have ne : ∀ {j : Nat} {v : Value}, j ≠ 34 → L[j]? = some v → (L.set 34 (.slice a (ndL A').length c))[j]? = some v := fun hj e => by rw [List.getElem?_set_ne (Ne.symm hj)]; exact e
  refine ⟨by rw [List.length_set]; exact hlen, ?_, ?_, ?_, ⟨a, c, by rw [List.getElem?_set_self (by omega)], hl, hc⟩, fun i hi => ne (by omega) (x.stg i hi), fun i hi => ?_, ?_⟩
  · obtain ⟨a, c, q1, q2⟩ := x.base; exact ⟨a, c, ne (by decide) q1, q2⟩
  · obtain ⟨a, c, q1, q2⟩ := x.lev; exact ⟨a, c, ne (by decide) q1, q2⟩
  · rw [List.drop_set]
    simp only [show ¬ 34 < 2 by decide, if_false]
    rw [List.take_set_of_le (by decide)]
    exact x.root
  · obtain ⟨a, n, c, q1, q2⟩ := x.part i hi; exact ⟨a, n, c, ne (by omega) q1, q2⟩
  · obtain ⟨a, c, q1, q2⟩ := x.text; exact ⟨a, c, ne (by decide) q1, q2⟩
end TL

namespace TL
open Go Go.Proofs
variable {g h : PH} {K : Value → PH → Prop} {xb : Nat} {s : WS}
theorem ndL_at {A : Nat → Option (List UInt8)} {k : Nat} (hk : k < (ndL A).length) : ∃ hk' : k < (wList A).length, (ndL A)[k] = ndR A (wList A)[k] := by
  have hk' : k < (wList A).length := by rw [← ndL_len]; exact hk
  exact ⟨hk', by simp [ndL]⟩
theorem nd_rdw {r : NdR} : ((EncNd.enc r).drop 2).take 32 = (bi r.w.1).map (Value.int .u8) ++ [] := by
  show ((bi r.w.1).map (Value.int .u8)).take 32 = _
  rw [List.append_nil, List.take_of_length_le (by rw [List.length_map, bi_len, r.w.2]; decide)]
theorem nd_row1 {p : Int × Int} {v : List UInt8} (hv : v.length = 32) : (.int .i64 p.1 :: (.int .i64 p.2 :: ((bi v).map (Value.int .u8) ++ [])) : List Value) = EncNd.row [⟨p, ⟨v, hv⟩⟩] := by simp [Enc.row, EncNd]
/-- rows written anew, then the walk told of them -/
theorem RefAt.ask34 {L : List Value} {h4 : PH} {B4 : List Nat} {a4 : Option Addr} {n4 c4 : Nat} {A' : Nat → Option (List UInt8)} {J : PH → Prop} (x : RefAt g h xb s) (sp : Spl g [xb] h) (hb : h xb = some (.cells L.toArray T_ref16_Walk (0, 0))) (hx : RefC g L s)
    (hB : Buf EncNd T_ref16_Node B4 h4 a4 n4 c4 (ndL A')) (cc : Chg [] B4 h h4) (hk : ∀ L' g' h', h' xb = some (.cells L'.toArray T_ref16_Walk (0, 0)) → RefC g' L' { s with A := A' } → RefAt g' h' xb { s with A := A' } → Stp g [xb] h g' [xb] h' → J h') :
    stH h4 xb (0 + 34) [.slice a4 n4 c4] J := by
  have hb4 := cc.sub0 _ _ hb
  have hlen := hx.len
  refine st1 hb4 (by omega) fun h5 hb5 c5 => ?_
  have st4 := sp.new cc
  have st5 : Stp (PH.plus g h4 B4) [xb] h4 (PH.plus g h4 B4) [xb] h5 := st4.spl.chg c5 (has1 hb5)
  have hsr : SR EncNd (PH.plus g h4 B4) a4 (ndL A') := (hB.keep fun b hb o e => by rw [plus_in hb]; exact e).sr
  have hx' : RefC (PH.plus g h4 B4) (L.set 34 (.slice a4 n4 c4)) { s with A := A' } := (hx.sub st4.gs).setAsk hB.1 hsr (by have := hB.le; rw [← hB.1]; exact this)
  exact hk _ _ h5 hb5 hx' ⟨⟨_, hb5, hx'⟩, x.R, x.may, x.le⟩ (st4.trans st5)
/-- a node more in its place -/
theorem insX {L : List Value} (x : RefAt g h xb s) (sp : Spl g [xb] h) (hb : h xb = some (.cells L.toArray T_ref16_Walk (0, 0))) (hx : RefC g L s) {k : Nat} (hk : k ≤ (ndL s.A).length) {lv i : Int} {v : List UInt8} (hv : v.length = 32) {A' : Nat → Option (List UInt8)}
    (hnew : ndL A' = (ndL s.A).take k ++ [⟨(lv, i), ⟨v, hv⟩⟩] ++ (ndL s.A).drop k) {z : List Value} (hz : z.length = 34) {J : PH → Prop} (hJ : ∀ g' h', RefAt g' h' xb { s with A := A' } → Stp g [xb] h g' [xb] h' → J h') :
    ∃ bv_10 ov_10 : Nat, (some ⟨xb, 0, none⟩ : Option Addr) = some ⟨bv_10, ov_10, none⟩ ∧
    ∃ (tA_6 : Option Addr) (tN_6 tC_6 : Nat), (h.rds bv_10 (ov_10 + 34) 1 = some [.slice tA_6 tN_6 tC_6]) ∧
    (0 ≤ (0 : Int) ∧ (0 : Int) ≤ ((k : Nat) : Int) ∧ ((k : Nat) : Int) ≤ ((tC_6 : Nat) : Int) ∧ ((tC_6 : Nat) : Int) ≤ (tC_6 : Nat)) ∧
    ∃ vs : List Value, srcH h (slA tA_6 34 (0 : Int) ((tC_6 : Nat) : Int)) ((((k : Nat) : Int).toNat - (0 : Int).toNat) * 34) vs ∧
    appH T_ref16_Node 34 48 z none 0 0 (((k : Nat) : Int).toNat - (0 : Int).toNat) vs (fun lA lN lC h2 =>
      appH T_ref16_Node 34 48 z lA lN lC 1 (.int .i64 lv :: (.int .i64 i :: ((bi v).map (Value.int .u8) ++ []))) (fun lA_1 lN_1 lC_1 h3 =>
        ∃ bv_11 ov_11 : Nat, (some ⟨xb, 0, none⟩ : Option Addr) = some ⟨bv_11, ov_11, none⟩ ∧
        ∃ (tA_7 : Option Addr) (tN_7 tC_7 : Nat), (h3.rds bv_11 (ov_11 + 34) 1 = some [.slice tA_7 tN_7 tC_7]) ∧
        (0 ≤ ((k : Nat) : Int) ∧ ((k : Nat) : Int) ≤ ((tN_7 : Nat) : Int) ∧ ((tN_7 : Nat) : Int) ≤ ((tC_7 : Nat) : Int) ∧ ((tC_7 : Nat) : Int) ≤ (tC_7 : Nat)) ∧
        ∃ vs_1 : List Value, srcH h3 (slA tA_7 34 ((k : Nat) : Int) ((tC_7 : Nat) : Int)) ((((tN_7 : Nat) : Int).toNat - ((k : Nat) : Int).toNat) * 34) vs_1 ∧
        appH T_ref16_Node 34 48 z lA_1 lN_1 lC_1 (((tN_7 : Nat) : Int).toNat - ((k : Nat) : Int).toNat) vs_1 (fun tA_8 tN_8 tC_8 h4 =>
          ∃ bv_12 ov_12 : Nat, (some ⟨xb, 0, none⟩ : Option Addr) = some ⟨bv_12, ov_12, none⟩ ∧
          stH h4 bv_12 (ov_12 + 34) [.slice tA_8 tN_8 tC_8] fun h5 =>
          J h5) h3) h2) h := by
  obtain ⟨aA, aC, q1, q2, q3⟩ := hx.ask
  have hle := ndL_le s.A
  have hkt : ((k : Nat) : Int).toNat = k := by omega
  have hlt : (((ndL s.A).length : Nat) : Int).toNat = (ndL s.A).length := by omega
  have m1 : k - (0 : Int).toNat = ((ndL s.A).take k).length := by rw [List.length_take]; show k - 0 = _; omega
  have m2 : (ndL s.A).length - k = ((ndL s.A).drop k).length := by rw [List.length_drop]
  have hs0 : SR EncNd h (slA aA 34 (0 : Int) ((aC : Nat) : Int)) ((ndL s.A).take k) := by
    have := (q2.sub sp.sub).slice (L := 0) (lo := 0) (hi := k) (mx := (aC : Int)) rfl hk (by omega)
    rw [List.drop_zero, Nat.sub_zero] at this; exact this
  refine ⟨xb, 0, rfl, aA, (ndL s.A).length, aC, rd1 hb q1, ⟨by decide, by omega, by omega, by omega⟩, EncNd.row ((ndL s.A).take k), ?_, ?_⟩
  · rw [hkt, m1]; exact hs0.src
  rw [hkt, m1]
  refine (Buf.nil EncNd T_ref16_Node h none).append (new := (ndL s.A).take k) rfl rfl hz (by rw [List.length_take]; omega) fun a2 c2 B2 h2 hb2 cc2 _ => ?_
  refine hb2.append (new := [⟨(lv, i), ⟨v, hv⟩⟩]) rfl (nd_row1 (p := (lv, i)) hv) hz (by rw [List.length_take]; omega) fun a3 c3 B3 h3 hb3 cc3 _ => ?_
  have ccA := cc2.trans cc3
  have hs3 : SR EncNd h3 (slA aA 34 ((k : Nat) : Int) ((aC : Nat) : Int)) ((ndL s.A).drop k) := by
    have := ((q2.sub sp.sub).sub ccA.sub0).slice (L := ((k : Nat) : Int)) (lo := k) (hi := (ndL s.A).length) (mx := (aC : Int)) hkt (Nat.le_refl _) (by omega)
    rw [List.take_of_length_le (by rw [List.length_drop]; exact Nat.le_refl _)] at this; exact this
  refine ⟨xb, 0, rfl, aA, (ndL s.A).length, aC, rd1 (ccA.sub0 _ _ hb) q1, ⟨by omega, by omega, by omega, by omega⟩, EncNd.row ((ndL s.A).drop k), ?_, ?_⟩
  · rw [hlt, m2]; exact hs3.src
  rw [hlt, m2]
  refine hb3.append (new := (ndL s.A).drop k) rfl rfl hz (by rw [List.length_take, List.length_drop]; omega) fun a4 c4 B4 h4 hb4 cc4 _ => ⟨xb, 0, rfl, ?_⟩
  have hrow : ([] ++ (ndL s.A).take k ++ [⟨(lv, i), ⟨v, hv⟩⟩] ++ (ndL s.A).drop k) = ndL A' := by rw [hnew, List.nil_append]
  rw [hrow] at hb4
  exact x.ask34 sp hb hx hb4 (ccA.trans cc4) fun L' g' h' _ _ x' st' => hJ g' h' x' st'
theorem cXAsk (x : RefAt g h xb s) (sp : Spl g [xb] h) (h0 : s.A 0 = none) {lv i : Nat} (hl : lv ≤ 4) (hi : i < 2 ^ lv) {v : List UInt8} (hv : v.length = 32) (hA : s.A (2 ^ lv + i) = none)
    (hk : ∀ g' h', RefAt g' h' xb { s with A := wAsk s.S s.A (2 ^ lv + i) v } → Stp g [xb] h g' [xb] h' → K (.tuple #[]) h') :
    CallH Tryz.prog id_ref16_Walk_ask [.pointer (some ⟨xb, 0, none⟩), .int .i64 (lv : Int), .int .i64 (i : Int), .agg (((bi v).map (Value.int .u8) ++ [])).toArray] K h := by
  have hi16 : i < 16 := Nat.lt_of_lt_of_le hi (Nat.pow_le_pow_right (by decide) hl)
  have hk1 : 1 ≤ 2 ^ lv + i := by have := Nat.one_le_two_pow (n := lv); omega
  have hk2 : 2 ^ lv + i < 32 := by
    have : 2 ^ lv ≤ 2 ^ 4 := Nat.pow_le_pow_right (by decide) hl
    omega
  have hap := askP_at lv (by omega) i hi16 hi
  obtain ⟨L, hb, hx⟩ := x.mem
  obtain ⟨lvb, f, l1, l2, l3⟩ := hx.lev
  obtain ⟨fn, fr⟩ := l3 lv (by omega)
  obtain ⟨bb, ob, hfa, hrd⟩ := lv_rd (fr.sub sp.sub) hi
  obtain ⟨aA, aC, q1, q2, q3⟩ := hx.ask
  have hlt : ((lv : Nat) : Int).toNat = lv := by omega
  have hit : ((i : Nat) : Int).toNat = i := by omega
  refine F_ref16_Walk_ask_ok (by rw [bi_len, hv]) ⟨xb, 0, rfl, _, _, _, rd1 hb l1, lvb, 0, ⟨rfl, by omega, by omega⟩, (f lv).a, (f lv).n, (f lv).c, ?_, bb, ob, ⟨hfa, by omega, by rw [fn]; omega⟩, bi (nd s.S (2 ^ lv + i)), by rw [bi_len, nd_len], ?_, fun e => ?_, fun e => ?_⟩
  · rw [hlt]; exact (l2.sub sp.sub).get (by omega) (by omega)
  · rw [hit]; exact hrd
  · rw [bi_beq, decide_eq_true_eq] at e
    refine hk g h ?_ (Stp.refl sp)
    have : wAsk s.S s.A (2 ^ lv + i) v = s.A := by unfold wAsk; rw [if_pos e]
    rw [this]; exact x
  · rw [bi_beq, decide_eq_false_iff_not] at e
    have hw : wAsk s.S s.A (2 ^ lv + i) v = upF s.A (2 ^ lv + i) (some v) := by unfold wAsk; rw [if_neg e]
    rw [hw] at hk
    refine LoopP.ind (fun (z : Int × Unit) h' => ∃ k : Nat, z.1 = k ∧ k ≤ (ndL s.A).length ∧ h' = h ∧ ∀ j (hj : j < (wList s.A).length), j < k → (wList s.A)[j] < 2 ^ lv + i) (fun z _ => ((ndL s.A).length - z.1).toNat) ?_ ⟨0, rfl, Nat.zero_le _, rfl, fun _ _ h => absurd h (Nat.not_lt_zero _)⟩
    rintro ⟨zk, u⟩ h1 ⟨k, hzk, hkl, rfl, hlow⟩
    dsimp only at hzk
    subst hzk
    dsimp only
    have hle := ndL_le s.A
    have hkt : ((k : Nat) : Int).toNat = k := by omega
    have hwk : IntKind.wrap .i64 (((k : Nat) : Int) + (1 : Int)) = ((k + 1 : Nat) : Int) := by rw [wrap64] <;> omega
    have r34 := rd1 (o := 34) hb q1
    have hup := List.pairwise_iff_getElem.1 (wList_up s.A)
    have ins := fun (hhi : ∀ j (hj : j < (wList s.A).length), k ≤ j → 2 ^ lv + i < (wList s.A)[j]) (z : List Value) (hz : z.length = 34) => insX (A' := upF s.A (2 ^ lv + i) (some v)) (z := z) (J := fun h5 => K (.tuple #[]) h5) x sp hb hx hkl (lv := (lv : Int)) (i := (i : Int)) hv (by
      have := ndL_ins (A := s.A) (v := v) hv hk2 hA (by rw [← ndL_len]; exact hkl) hlow hhi
      rw [hap] at this
      exact this) hz fun g' h' x' st' => hk g' h' x' st'
    by_cases hkk : k < (ndL s.A).length
    · obtain ⟨hk', hnk⟩ := ndL_at hkk
      obtain ⟨b, o, hA4, hr4⟩ := (q2.sub sp.sub).get hkk
      have r1 := hr4 _ 0 1 rfl (by decide)
      have r2 := hr4 _ 1 1 rfl (by decide)
      rw [hnk] at r1 r2
      have hd : decide (((k : Nat) : Int) < (((ndL s.A).length : Nat) : Int)) = true := by simpa using hkk
      have hmem := List.getElem_mem hk'
      obtain ⟨d1, d2⟩ := wList_in h0 hmem
      have hltA := askP_lt (wList s.A)[k] d2 (2 ^ lv + i) hk2 d1 hk1
      rw [hap] at hltA
      have hne : (wList s.A)[k] ≠ 2 ^ lv + i := fun e => by
        have := (wList_mem.1 hmem).2
        rw [e, hA] at this; cases this
      rw [hkt, hwk]
      have next : (wList s.A)[k] < 2 ^ lv + i → (∃ k_1 : Nat, ((k + 1 : Nat) : Int) = k_1 ∧ k_1 ≤ (ndL s.A).length ∧ h1 = h1 ∧ ∀ j (hj : j < (wList s.A).length), j < k_1 → (wList s.A)[j] < 2 ^ lv + i) ∧ (((ndL s.A).length : Int) - ((k + 1 : Nat) : Int)).toNat < (((ndL s.A).length : Int) - ((k : Nat) : Int)).toNat := fun hlt => ⟨⟨k + 1, rfl, by omega, rfl, fun j hj hjk => by
        by_cases e : j = k
        · subst e; exact hlt
        · exact hlow j hj (by omega)⟩, by omega⟩
      refine ⟨xb, 0, rfl, _, _, _, r34, xb, 0, fun _ => rfl, _, _, _, fun _ => r34, b, o, fun _ => ⟨hA4, by omega, by omega⟩, (askP (wList s.A)[k]).1, fun _ => r1, fun _ => ?_, fun e2 => by rw [hd] at e2; cases e2⟩
      refine ⟨xb, 0, fun _ => rfl, _, _, _, fun _ => r34, b, o, fun _ => ⟨hA4, by omega, by omega⟩, (askP (wList s.A)[k]).1, fun _ => r1, fun e3 => ?_, fun e3 => next (hltA.1 (.inl (of_decide_eq_true e3)))⟩
      have e3 := of_decide_eq_false e3
      refine ⟨xb, 0, fun _ => rfl, _, _, _, fun _ => r34, b, o, fun _ => ⟨hA4, by omega, by omega⟩, (askP (wList s.A)[k]).2, fun _ => r2, fun e4 => ?_, fun e4 => ?_⟩
      · simp only [Bool.and_eq_true, beq_iff_eq, decide_eq_true_eq] at e4
        exact next (hltA.1 (.inr ⟨e4.1, e4.2⟩))
      · have hge : 2 ^ lv + i < (wList s.A)[k] := by
          have : ¬ (wList s.A)[k] < 2 ^ lv + i := fun hlt => by
            rcases hltA.2 hlt with hc | ⟨hc1, hc2⟩
            · exact e3 hc
            · dsimp only at hc1 hc2
              rw [hc1] at e4
              simp only [beq_self_eq_true, Bool.true_and, decide_eq_false_iff_not] at e4
              exact e4 hc2
          omega
        exact ins (fun j hj hkj => by
          by_cases e : j = k
          · subst e; exact hge
          · have := hup k j hk' hj (by omega); omega) _ rfl
    · have hd : decide (((k : Nat) : Int) < (((ndL s.A).length : Nat) : Int)) = false := by simpa using hkk
      refine ⟨xb, 0, rfl, _, _, _, r34, xb, 0, fun _ => rfl, _, _, _, fun _ => r34, 0, 0, fun e => (by rw [hd] at e; cases e), 0, fun e => (by rw [hd] at e; cases e), fun e => (by rw [hd] at e; cases e), fun _ => ?_⟩
      exact ins (fun j hj hkj => by rw [ndL_len] at hkk; omega) _ rfl
end TL

namespace TL
open Go Go.Proofs
variable {g h : PH} {K : Value → PH → Prop} {xb : Nat} {s : WS}
/-- other texts -/
theorem RefC.setText {L : List Value} (x : RefC g L s) {T' : List (List UInt8)} {a : Option Addr} {c n : Nat} (hn : n = T'.length) (hl : SR EncS g a T') : RefC g (L.set 67 (.slice a n c)) { s with T := T' } := by
  have hlen := x.len
  subst hn
  have ne : ∀ {j : Nat} {v : Value}, j ≠ 67 → L[j]? = some v → (L.set 67 (.slice a T'.length c))[j]? = some v := fun hj e => by rw [List.getElem?_set_ne (Ne.symm hj)]; exact e
  refine ⟨by rw [List.length_set]; exact hlen, ?_, ?_, ?_, ?_, fun i hi => ne (by omega) (x.stg i hi), fun i hi => ?_, ⟨a, c, by rw [List.getElem?_set_self (by omega)], hl⟩⟩
  · obtain ⟨a, c, q1, q2⟩ := x.base; exact ⟨a, c, ne (by decide) q1, q2⟩
  · obtain ⟨a, c, q1, q2⟩ := x.lev; exact ⟨a, c, ne (by decide) q1, q2⟩
  · rw [List.drop_set]
    simp only [show ¬ 67 < 2 by decide, if_false]
    rw [List.take_set_of_le (by decide)]
    exact x.root
  · obtain ⟨a, c, q1, q2⟩ := x.ask; exact ⟨a, c, ne (by decide) q1, q2⟩
  · obtain ⟨a, n, c, q1, q2⟩ := x.part i hi; exact ⟨a, n, c, ne (by omega) q1, q2⟩
/-- a page staged -/
theorem RefC.setPart {L : List Value} (x : RefC g L s) {i : Nat} (hi : i < 16) {l : List PrR} {a : Option Addr} {c n : Nat} (hn : n = l.length) (hl : SR EncPr g a l) : RefC g ((L.set (35 + i) (.bool true)).set (51 + i) (.slice a n c)) { s with Q := upF s.Q i (some l) } := by
  have hlen := x.len
  subst hn
  have ne : ∀ {j : Nat} {v : Value}, j ≠ 35 + i → j ≠ 51 + i → L[j]? = some v → ((L.set (35 + i) (.bool true)).set (51 + i) (.slice a l.length c))[j]? = some v := fun hj hj2 e => by rw [List.getElem?_set_ne (Ne.symm hj2), List.getElem?_set_ne (Ne.symm hj)]; exact e
  refine ⟨by rw [List.length_set, List.length_set]; exact hlen, ?_, ?_, ?_, ?_, fun j hj => ?_, fun j hj => ?_, ?_⟩
  · obtain ⟨a, c, q1, q2⟩ := x.base; exact ⟨a, c, ne (by omega) (by omega) q1, q2⟩
  · obtain ⟨a, c, q1, q2⟩ := x.lev; exact ⟨a, c, ne (by omega) (by omega) q1, q2⟩
  · rw [List.drop_set]
    simp only [show ¬ 51 + i < 2 by omega, if_false]
    rw [List.take_set_of_le (by omega), List.drop_set]
    simp only [show ¬ 35 + i < 2 by omega, if_false]
    rw [List.take_set_of_le (by omega)]
    exact x.root
  · obtain ⟨a, c, q1, q2⟩ := x.ask; exact ⟨a, c, ne (by omega) (by omega) q1, q2⟩
  · by_cases e : j = i
    · subst e
      rw [List.getElem?_set_ne (by omega), List.getElem?_set_self (by omega)]
      show _ = some (Value.bool (upF s.Q j (some l) j).isSome)
      rw [upF_same]; rfl
    · rw [ne (by omega) (by omega) (x.stg j hj)]
      show _ = some (Value.bool (upF s.Q i (some l) j).isSome)
      rw [upF_ne _ _ e]
  · by_cases e : j = i
    · subst e
      refine ⟨a, l.length, c, by rw [List.getElem?_set_self (by rw [List.length_set]; omega)], fun m hm => ?_⟩
      have hm : upF s.Q j (some l) j = some m := hm
      rw [upF_same] at hm; cases hm
      exact ⟨rfl, hl⟩
    · obtain ⟨a', n', c', q1, q2⟩ := x.part j hj
      refine ⟨a', n', c', ne (by omega) (by omega) q1, fun m hm => ?_⟩
      have hm : upF s.Q i (some l) j = some m := hm
      rw [upF_ne _ _ e] at hm
      exact q2 m hm
  · obtain ⟨a, c, q1, q2⟩ := x.text; exact ⟨a, c, ne (by omega) (by omega) q1, q2⟩
theorem cXFits (x : RefAt g h xb s) (sp : Spl g [xb] h) (h0 : s.A 0 = none) (al : ∀ k y, s.A k = some y → y.length = 32) {a0 a1 : Int} {t : List UInt8} (ht : t.length ≤ 1000000) (hT : s.T.length ≤ 100000)
    (hno : (∀ k, 1 ≤ k → k < 32 → askP k = (a0, a1) → s.A k ≠ some (shaN t)) → ∀ h', h.Sub h' → K (.bool false) h')
    (hyes : ∀ k g' h', 1 ≤ k → k < 32 → askP k = (a0, a1) → s.A k = some (shaN t) → RefAt g' h' xb { s with A := upF s.A k none, T := s.T ++ [t] } → Stp g [xb] h g' [xb] h' → K (.bool true) h') :
    CallH Tryz.prog id_ref16_Walk_fits [.pointer (some ⟨xb, 0, none⟩), .int .i64 a0, .int .i64 a1, .string (mk t)] K h := by
  refine F_ref16_Walk_fits_ok (cRSum ht fun h2 s2 => ⟨bi (shaN t), by rw [bi_len, shaN_len], rfl, ?_⟩)
  have st2 := sp.grow s2
  have x2 : RefAt g h2 xb s := x.keep (PH.Sub.rf _) fun o e => s2 _ _ e
  have sp2 := st2.spl
  obtain ⟨L, hb, hx⟩ := x2.mem
  obtain ⟨aA, aC, q1, q2, q3⟩ := hx.ask
  obtain ⟨tA, tC, u1, u2⟩ := hx.text
  refine LoopP.ind (fun (z : Int × Unit) h' => ∃ k : Nat, z.1 = k ∧ k ≤ (ndL s.A).length ∧ h' = h2 ∧ ∀ j (hj : j < (wList s.A).length), j < k → ¬ (askP (wList s.A)[j] = (a0, a1) ∧ s.A (wList s.A)[j] = some (shaN t))) (fun z _ => ((ndL s.A).length - z.1).toNat) ?_ ⟨0, rfl, Nat.zero_le _, rfl, fun _ _ h => absurd h (Nat.not_lt_zero _)⟩
  rintro ⟨zk, u⟩ h1 ⟨k, hzk, hkl, rfl, hlow⟩
  dsimp only at hzk
  subst hzk
  dsimp only
  have hle := ndL_le s.A
  have hkt : ((k : Nat) : Int).toNat = k := by omega
  have hwk : IntKind.wrap .i64 (((k : Nat) : Int) + (1 : Int)) = ((k + 1 : Nat) : Int) := by rw [wrap64] <;> omega
  have r34 := rd1 (o := 34) hb q1
  refine ⟨xb, 0, rfl, _, _, _, r34, fun e => ?_, fun e => ?_⟩
  · have hkk : k < (ndL s.A).length := by have := of_decide_eq_true e; omega
    obtain ⟨hk', hnk⟩ := ndL_at hkk
    obtain ⟨b, o, hA4, hr4⟩ := (q2.sub sp2.sub).get hkk
    have r1 := hr4 _ 0 1 rfl (by decide)
    have r2 := hr4 _ 1 1 rfl (by decide)
    have r3 := hr4 _ 2 32 rfl (by decide)
    rw [hnk] at r1 r2
    rw [nd_rdw, hnk] at r3
    have hmem := List.getElem_mem hk'
    obtain ⟨d1, d2⟩ := wList_in h0 hmem
    obtain ⟨y, hy⟩ := Option.isSome_iff_exists.1 (wList_mem.1 hmem).2
    have hw : (ndR s.A (wList s.A)[k]).w.1 = y := by unfold ndR; rw [hy, Option.getD_some, toH_of (al _ _ hy)]
    rw [hw] at r3
    rw [hkt]
    refine ⟨xb, 0, rfl, _, _, _, r34, b, o, ⟨hA4, by omega, by omega⟩, _, r1, xb, 0, fun _ => rfl, _, _, _, fun _ => r34, b, o, fun _ => ⟨hA4, by omega, by omega⟩, _, fun _ => r2, xb, 0, fun _ => rfl, _, _, _, fun _ => r34, b, o, fun _ => ⟨hA4, by omega, by omega⟩, bi y, by rw [bi_len]; exact al _ _ hy, fun _ => r3, fun e2 => ?_, fun e2 => ?_⟩
    · simp only [Bool.and_eq_true, beq_iff_eq] at e2
      obtain ⟨⟨e3, e4⟩, e5⟩ := e2
      have e5 : y = shaN t := bi_inj e5
      subst e5
      have hap : askP (wList s.A)[k] = (a0, a1) := Prod.ext e3 e4
      have m1 : k - (0 : Int).toNat = ((ndL s.A).take k).length := by rw [List.length_take]; show k - 0 = _; omega
      have hk1t : ((k + 1 : Nat) : Int).toNat = k + 1 := by omega
      have hlt : (((ndL s.A).length : Nat) : Int).toNat = (ndL s.A).length := by omega
      have m2 : (ndL s.A).length - (k + 1) = ((ndL s.A).drop (k + 1)).length := by rw [List.length_drop]
      have hs0 : SR EncNd h1 (slA aA 34 (0 : Int) ((aC : Nat) : Int)) ((ndL s.A).take k) := by
        have := (q2.sub sp2.sub).slice (L := 0) (lo := 0) (hi := k) (mx := (aC : Int)) rfl hkl (by omega)
        rw [List.drop_zero, Nat.sub_zero] at this; exact this
      refine ⟨xb, 0, rfl, _, _, _, r34, ⟨by decide, by omega, by omega, by omega⟩, EncNd.row ((ndL s.A).take k), ?_, ?_⟩
      · rw [m1]; exact hs0.src
      rw [m1, hwk, hk1t]
      refine (Buf.nil EncNd T_ref16_Node h1 none).append (new := (ndL s.A).take k) rfl rfl rfl (by rw [List.length_take]; omega) fun a3 c3 B3 h3 hb3 cc3 _ => ?_
      have hs3 : SR EncNd h3 (slA aA 34 ((k + 1 : Nat) : Int) ((aC : Nat) : Int)) ((ndL s.A).drop (k + 1)) := by
        have := ((q2.sub sp2.sub).sub cc3.sub0).slice (L := ((k + 1 : Nat) : Int)) (lo := k + 1) (hi := (ndL s.A).length) (mx := (aC : Int)) hk1t (Nat.le_refl _) (by omega)
        rw [List.take_of_length_le (by rw [List.length_drop]; exact Nat.le_refl _)] at this; exact this
      refine ⟨xb, 0, rfl, _, _, _, rd1 (o := 0 + 34) (cc3.sub0 _ _ hb) q1, ⟨by omega, by omega, by omega, by omega⟩, EncNd.row ((ndL s.A).drop (k + 1)), ?_, ?_⟩
      · rw [hlt, m2]; exact hs3.src
      rw [hlt, m2]
      refine hb3.append (new := (ndL s.A).drop (k + 1)) rfl rfl rfl (by rw [List.length_take, List.length_drop]; omega) fun a4 c4 B4 h4 hb4 cc4 _ => ⟨xb, 0, rfl, ?_⟩
      have hrow : ([] ++ (ndL s.A).take k ++ (ndL s.A).drop (k + 1)) = ndL (upF s.A (wList s.A)[k] none) := by rw [ndL_del hk', List.nil_append]
      rw [hrow] at hb4
      refine x2.ask34 sp2 hb hx hb4 (cc3.trans cc4) fun L5 g5 h5 hb5 hx5 x5 st5 => ?_
      refine nwL (cs := []) fun b6 h6 _ _ c6 => ?_
      obtain ⟨tA5, tC5, w1, w2⟩ := hx5.text
      have sp5 := st5.spl
      refine ⟨xb, 0, rfl, _, _, _, rd1 (o := 0 + 67) (c6.sub0 _ _ hb5) w1, EncS.row s.T, ((w2.sub sp5.sub).sub c6.sub0).src, ?_⟩
      refine (Buf.nil EncS 9 h6 (some ⟨b6, 0, none⟩)).append (new := s.T) rfl rfl rfl (by dsimp only; omega) fun a7 c7 B7 h7 hb7 cc7 _ => ?_
      refine hb7.append (new := [t]) rfl rfl rfl (by dsimp only; omega) fun a8 c8 B8 h8 hb8 cc8 _ => ⟨xb, 0, rfl, ?_⟩
      have ccB : Chg [] B8 h5 h8 := Chg.from c6.sub0 (cc7.trans cc8)
      have hlen := hx5.len
      refine st1 (o := 0 + 67) (ccB.sub0 _ _ hb5) (by omega) fun h9 hb9 c9 => ?_
      have st8 := sp5.new ccB
      have st9 : Stp (PH.plus g5 h8 B8) [xb] h8 (PH.plus g5 h8 B8) [xb] h9 := st8.spl.chg c9 (has1 hb9)
      have hsr : SR EncS (PH.plus g5 h8 B8) a8 ([] ++ s.T ++ [t]) := (hb8.keep fun b hb o e => by rw [plus_in hb]; exact e).sr
      rw [List.nil_append] at hsr
      have hx9 := (hx5.sub st8.gs).setText (c := c8) (n := 0 + s.T.length + 1) (by show _ = (s.T ++ [t]).length; rw [List.length_append]; simp) hsr
      exact hyes _ _ h9 d1 d2 hap hy ⟨⟨_, hb9, hx9⟩, x.R, x.may, x.le⟩ (st2.trans (st5.trans (st8.trans st9)))
    · rw [hwk]
      refine ⟨⟨k + 1, rfl, by omega, rfl, fun j hj hjk => ?_⟩, by omega⟩
      by_cases e3 : j = k
      · subst e3
        rintro ⟨e4, e5⟩
        rw [hy] at e5; cases e5
        have e2 : ((askP (wList s.A)[j]).1 == a0 && (askP (wList s.A)[j]).2 == a1 && bi (shaN t) == bi (shaN t)) = false := e2
        rw [e4] at e2
        simp at e2
      · exact hlow j hj (by omega)
  · have hkl2 : k = (ndL s.A).length := by have := of_decide_eq_false e; omega
    refine hno (fun c c1 c2 hc hA => ?_) h1 s2
    have hm : c ∈ wList s.A := wList_mem.2 ⟨c2, by rw [hA]; rfl⟩
    obtain ⟨j, hj, rfl⟩ := List.getElem_of_mem hm
    exact hlow j hj (by rw [hkl2, ndL_len]; exact hj) ⟨hc, hA⟩
/-- the kids of what is asked for are not asked for yet -/
theorem WOk.kids (v : WOk s) {c : Nat} {y : List UInt8} (hA : s.A c = some y) (hc : c < 16) : s.A (2 * c) = Option.none ∧ s.A (2 * c + 1) = Option.none := by
  obtain ⟨⟨W, X, v⟩, _, _⟩ := v
  obtain ⟨h1, _, _, h4, _, _⟩ := v.asked hA
  have nk : ∀ d, (d = 2 * c ∨ d = 2 * c + 1) → s.A d = Option.none := fun d hd => (v.un d (by omega) (by omega) fun hk => by
    rcases hk with hk | hk
    · omega
    · rw [show d / 2 = c by omega, h4] at hk; cases hk).1
  exact ⟨nk _ (.inl rfl), nk _ (.inr rfl)⟩
theorem WOk.al (v : WOk s) : ∀ k y, s.A k = some y → y.length = 32 := fun k y hA => by
  obtain ⟨⟨W, X, v⟩, _, _⟩ := v
  obtain ⟨c1, c2, hk, _, rfl, _⟩ := v.asked hA
  exact v.wl k c1 c2 hk
theorem cXNodeV (x : RefAt g h xb s) (sp : Spl g [xb] h) (v : WOk s) {lv i : Int} {a b : List UInt8} (ha : a.length = 32) (hb : b.length = 32) (hT : s.T.length ≤ 100000)
    (hk : ∀ g' h', RefAt g' h' xb (nodeW s lv i a b).2 → Stp g [xb] h g' [xb] h' → K (.bool (nodeW s lv i a b).1) h') :
    CallH Tryz.prog id_ref16_Walk_Node [.pointer (some ⟨xb, 0, none⟩), .int .i64 lv, .int .i64 i, .agg (((bi a).map (Value.int .u8) ++ [])).toArray, .agg (((bi b).map (Value.int .u8) ++ [])).toArray] K h := by
  have no : (∀ k, 1 ≤ k → k < 16 → askP k = (lv, i) → s.A k ≠ some (shaN (innT a b))) → ∀ h', h.Sub h' → K (.bool false) h' := fun hn h' s' => by
    have e : nodeW s lv i a b = (false, s) := dif_neg fun ⟨k, hk1, hk2, hk3⟩ => hn k hk1.1 hk1.2 hk2 hk3
    have := hk g h'
    rw [e] at this
    exact this (x.keep (PH.Sub.rf _) fun o e => s' _ _ e) (sp.grow s')
  refine F_ref16_Walk_Node_ok (by rw [bi_len, ha]) (by rw [bi_len, hb]) ⟨fun _ h' => ∃ k g', (1 ≤ k ∧ k < 16) ∧ askP k = (lv, i) ∧ s.A k = some (shaN (innT a b)) ∧ RefAt g' h' xb { s with A := upF s.A k none, T := s.T ++ [innT a b] } ∧ Stp g [xb] h g' [xb] h', ⟨fun e => ?_, fun e => ?_⟩, ?_⟩
  · refine cRInnerText ha hb fun h2 s2 => ⟨_, rfl, ?_⟩
    have st2 := sp.grow s2
    refine cXFits (t := innT a b) (x.keep (PH.Sub.rf _) fun o e => s2 _ _ e) st2.spl v.a0 v.al (by simp [innT, ha, hb]) hT (fun hn h3 s3 => ⟨_, rfl, fun _ => no (fun k k1 k2 hk => hn k k1 (by omega) hk) h3 (s2.tr s3), fun e => by cases e⟩) fun k g3 h3 k1 k2 hk hA x3 st3 => ⟨_, rfl, fun e => (by cases e), fun _ => ⟨k, g3, ⟨k1, ?_⟩, hk, hA, x3, st2.trans st3⟩⟩
    refine (askP_16 k k2 k1).2 ?_
    rw [hk]
    simp only [Bool.or_eq_false_iff, decide_eq_false_iff_not] at e
    dsimp only; omega
  · refine no (fun k k1 k2 hk _ => ?_) h (PH.Sub.rf _)
    have := askP_nn k (by omega) k1
    have h16 := (askP_16 k (by omega) k1).1 k2
    rw [hk] at this h16
    simp only [Bool.or_eq_true, decide_eq_true_eq] at e
    dsimp only at this h16
    omega
  rintro _ h3 ⟨k, g3, ⟨k1, k16⟩, hk', hA, x3, st3⟩
  obtain ⟨n1, n2⟩ := v.kids hA k16
  have h00 := v.a0
  obtain ⟨q1, q2, q3⟩ := askP_kids k k16 k1
  have hlv : lv = ((k.log2 : Nat) : Int) := (congrArg Prod.fst hk').symm
  have hi : i = ((k - 2 ^ k.log2 : Nat) : Int) := (congrArg Prod.snd hk').symm
  have w1 : IntKind.wrap .i64 (lv + 1) = ((k.log2 + 1 : Nat) : Int) := by rw [hlv, wrap64] <;> omega
  have w2 : IntKind.wrap .i64 ((2 : Int) * i) = ((2 * (k - 2 ^ k.log2) : Nat) : Int) := by rw [hi, wrap64] <;> omega
  have w3 : IntKind.wrap .i64 (((2 * (k - 2 ^ k.log2) : Nat) : Int) + 1) = ((2 * (k - 2 ^ k.log2) + 1 : Nat) : Int) := by rw [wrap64] <;> omega
  have r2 : 2 ^ (k.log2 + 1) + (2 * (k - 2 ^ k.log2) + 1) = 2 * k + 1 := by omega
  rw [w1, w2, w3]
  refine cXAsk x3 st3.spl (by show upF s.A k none 0 = none; rw [upF_ne _ _ (by omega)]; exact h00) q1 (by omega) ha (by rw [q3]; show upF s.A k none (2 * k) = none; rw [upF_ne _ _ (by omega)]; exact n1) fun g4 h4 x4 st4 => ?_
  rw [q3] at x4
  refine cXAsk x4 st4.spl (by show wAsk _ _ _ _ 0 = none; rw [wAsk_ne (by omega)]; show upF s.A k none 0 = none; rw [upF_ne _ _ (by omega)]; exact h00) q1 q2 hb (by rw [r2]; show wAsk _ _ _ _ (2 * k + 1) = none; rw [wAsk_ne (by omega)]; show upF s.A k none (2 * k + 1) = none; rw [upF_ne _ _ (by omega)]; exact n2) fun g5 h5 x5 st5 => ?_
  rw [r2] at x5
  have hex : ∃ k, (1 ≤ k ∧ k < 16) ∧ askP k = (lv, i) ∧ s.A k = some (shaN (innT a b)) := ⟨k, ⟨k1, k16⟩, hk', hA⟩
  have e : nodeW s lv i a b = (true, wIn s hex.choose a b) := dif_pos hex
  have hc := hex.choose_spec
  have ec : hex.choose = k := askP_inj _ (by omega) k (by omega) hc.1.1 k1 (hc.2.1.trans hk'.symm)
  have := hk g5 h5
  rw [e, ec] at this
  exact this x5 (st3.trans (st4.trans st5))
theorem cXPageV (x : RefAt g h xb s) (sp : Spl g [xb] h) (v : WOk s) {i : Int} {lA : Option Addr} {lC : Nat} {l : List PrR} (hl : SR EncPr g lA l) (hn : l.length ≤ 1000) (hs : ∀ x ∈ l, x.p.length ≤ 1000000) (hT : s.T.length ≤ 100000)
    (hk : ∀ g' h', RefAt g' h' xb (pageW s i l).2 → Stp g [xb] h g' [xb] h' → K (.bool (pageW s i l).1) h') :
    CallH Tryz.prog id_ref16_Walk_Page [.pointer (some ⟨xb, 0, none⟩), .int .i64 i, .slice lA l.length lC] K h := by
  have no : (∀ k : Nat, k < 16 → i = k → PgOk k l → s.A (16 + k) ≠ some (shaN (76 :: pageL l))) → ∀ h', h.Sub h' → K (.bool false) h' := fun hn h' s' => by
    have e : pageW s i l = (false, s) := dif_neg fun ⟨k, hk1, hk2, hk3, hk4⟩ => hn k hk1 hk2 hk3 hk4
    have := hk g h'
    rw [e] at this
    exact this (x.keep (PH.Sub.rf _) fun o e => s' _ _ e) (sp.grow s')
  have hJ : ∀ {Q : PH → Prop}, Q h → Q h := id
  refine F_ref16_Walk_Page_ok ?_
  by_cases hi : ¬ (0 ≤ i ∧ i < 16)
  · refine F_ref14_Page_ok ⟨fun _ _ => False, ⟨fun e => ?_, fun _ => ⟨_, _, rfl, fun _ _ => False, ⟨fun e => by simp at e, fun e => by simp at e, fun _ => no (fun k hk e _ => absurd (show 0 ≤ i ∧ i < 16 by omega) hi) h (PH.Sub.rf _)⟩, fun _ _ h => h.elim⟩⟩, fun _ _ h => h.elim⟩
    exfalso
    simp only [Bool.or_eq_false_iff, decide_eq_false_iff_not] at e
    omega
  have hi : 0 ≤ i ∧ i < 16 := Classical.not_not.1 hi
  obtain ⟨k, rfl⟩ : ∃ k : Nat, i = k := ⟨i.toNat, by omega⟩
  have hk16 : k < 16 := by omega
  have hkt : ((k : Nat) : Int).toNat = k := by omega
  refine cRPage hk16 (hl.sub sp.sub) (by omega) hs fun h2 s2 => ⟨_, _, rfl, ?_⟩
  have st2 := sp.grow s2
  have x2 : RefAt g h2 xb s := x.keep (PH.Sub.rf _) fun o e => s2 _ _ e
  by_cases hok : PgOk k l
  · have hpv := page_ok hok
    have hpl := page_len hok
    rw [hpv]
    dsimp only
    refine ⟨fun _ h' => ∃ g', s.A (16 + k) = some (shaN (76 :: pageL l)) ∧ RefAt g' h' xb { s with A := upF s.A (16 + k) none, T := s.T ++ [76 :: pageL l] } ∧ Stp g [xb] h g' [xb] h', ⟨fun _ => ?_, fun _ => ?_, fun e => by simp at e⟩, ?_⟩
    · rw [size_mk]; show ((1 + (pageL l).length : Nat) : Int) ≤ _; omega
    · rw [show (⟨#[76]⟩ : ByteArray) = mk [76] from rfl, mk_append]
      have hap : askP (2 ^ 4 + k) = (4, (k : Int)) := askP_at 4 (by decide) k hk16 hk16
      refine cXFits (t := 76 :: pageL l) x2 st2.spl v.a0 v.al (by rw [List.length_cons]; omega) hT (fun hn h3 s3 => ⟨_, rfl, fun _ => no (fun j _ ej _ => ?_) h3 (s2.tr s3), fun e => by cases e⟩) fun j g3 h3 j1 j2 hj hA x3 st3 => ⟨_, rfl, fun e => (by cases e), fun _ => ⟨g3, ?_⟩⟩
      · have : j = k := by omega
        subst this
        exact hn (16 + j) (by omega) (by omega) hap
      · have hjk : j = 16 + k := askP_inj j j2 (2 ^ 4 + k) (show 16 + k < 32 by omega) j1 (show 1 ≤ 16 + k by omega) (hj.trans hap.symm)
        subst hjk
        exact ⟨hA, x3, st2.trans st3⟩
    rintro _ h3 ⟨g3, hA, x3, st3⟩
    obtain ⟨L, hb, hx⟩ := x3.mem
    have hlen := hx.len
    refine ⟨xb, 0, rfl, ⟨by omega, by omega⟩, st1 (o := (0 + 35) + ((k : Nat) : Int).toNat * 1) hb (by omega) fun h4 hb4 c4 => ⟨xb, 0, rfl, nwL (cs := []) fun b5 h5 _ _ c5 => ?_⟩⟩
    have st4 : Stp g3 [xb] h3 g3 [xb] h4 := st3.spl.chg c4 (has1 hb4)
    refine ⟨EncPr.row l, ((hl.sub st3.gs).sub (st4.spl.sub.tr c5.sub0)).src, ?_⟩
    refine (Buf.nil EncPr T_api_Pair h5 (some ⟨b5, 0, none⟩)).append (new := l) rfl rfl rfl (by omega) fun a6 c6 B6 h6 hb6 cc6 _ => ?_
    have ccB : Chg [] B6 h4 h6 := Chg.from c5.sub0 cc6
    refine ⟨⟨by omega, by omega⟩, st1 (o := (0 + 51) + ((k : Nat) : Int).toNat * 1) (ccB.sub0 _ _ hb4) (by rw [List.length_set]; omega) fun h7 hb7 c7 => ?_⟩
    have st6 := st4.spl.new ccB
    have st7 : Stp (PH.plus g3 h6 B6) [xb] h6 (PH.plus g3 h6 B6) [xb] h7 := st6.spl.chg c7 (has1 hb7)
    have hsr : SR EncPr (PH.plus g3 h6 B6) a6 ([] ++ l) := (hb6.keep fun b hb o e => by rw [plus_in hb]; exact e).sr
    rw [List.nil_append] at hsr
    have hx7 := (hx.sub st6.gs).setPart hk16 (c := c6) (n := 0 + l.length) (by omega) hsr
    have e35 : (0 + 35) + ((k : Nat) : Int).toNat * 1 = 35 + k := by omega
    have e51 : (0 + 51) + ((k : Nat) : Int).toNat * 1 = 51 + k := by omega
    rw [e35, e51] at hb7
    have hex : ∃ k' : Nat, k' < 16 ∧ ((k : Nat) : Int) = k' ∧ PgOk k' l ∧ s.A (16 + k') = some (shaN (76 :: pageL l)) := ⟨k, hk16, rfl, hok, hA⟩
    have e : pageW s (k : Int) l = (true, wPg s hex.choose l) := dif_pos hex
    have hc := hex.choose_spec
    have ec : hex.choose = k := by have := hc.2.1; omega
    have := hk (PH.plus g3 h6 B6) h7
    rw [e, ec] at this
    exact this ⟨⟨_, hb7, hx7⟩, x.R, x.may, x.le⟩ (st3.trans (st4.trans (st6.trans st7)))
  · refine ⟨fun _ _ => False, ⟨fun e => ?_, fun e => ?_, fun _ => no (fun j _ ej hj => ?_) h2 s2⟩, fun _ _ h => h.elim⟩
    · exfalso
      refine hok (pgOk_iff.1 ?_)
      unfold pageV at e
      split at e
      · rename_i hh
        split at e
        · rename_i h48; exact ⟨hh.1, hh.2, h48⟩
        · simp at e
      · simp at e
    · exfalso
      refine hok (pgOk_iff.1 ?_)
      unfold pageV at e
      split at e
      · rename_i hh
        split at e
        · rename_i h48; exact ⟨hh.1, hh.2, h48⟩
        · simp at e
      · simp at e
    · have : j = k := by omega
      subst this
      exact absurd hj hok
end TL

namespace TL
open Go Go.Proofs
variable {g h : PH} {K : Value → PH → Prop} {xb : Nat} {s : WS}
theorem cXNew (sp : Spl g [] h) {lA : Option Addr} {lC : Nat} {l : List PrR} (hl : SR EncPr g lA l) (hn : l.length ≤ 1000) (hs : ∀ x ∈ l, x.p.length ≤ 1000000) {R : List UInt8} (hR : R.length = 32)
    (hno : ¬ (mayB l = true ∧ l.length ≤ 48) → K (.tuple #[.pointer none, .bool false]) h)
    (hyes : mayB l = true → l.length ≤ 48 → ∀ xb g' h', RefAt g' h' xb (wNew l R) → Stp g [] h g' [xb] h' → K (.tuple #[.pointer (some ⟨xb, 0, none⟩), .bool true]) h') :
    CallH Tryz.prog id_ref16_New [.slice lA l.length lC, .agg (((bi R).map (Value.int .u8) ++ [])).toArray] K h := by
  refine F_ref16_New_ok (by rw [bi_len, hR]) (cRMay (hl.sub sp.sub) (by omega) hs ⟨_, rfl, fun e => ?_, fun e => ?_⟩)
  · refine hno fun ⟨h1, h2⟩ => ?_
    rw [h1] at e
    simp at e
    omega
  · simp only [Bool.or_eq_false_iff, Bool.not_eq_false', decide_eq_false_iff_not] at e
    obtain ⟨hm, h48⟩ := e
    have h48 : l.length ≤ 48 := by omega
    refine sp.call (K := fun v g' => ∃ bv f, LvB g' bv f ∧ (∀ j, j < 5 → (f j).n = 2 ^ j ∧ SR EncH g' (f j).a (lvRow l j (2 ^ j))) ∧ g.Sub g' ∧ v = .slice (some ⟨bv, 0, none⟩) 5 5) (cLevels hl hm h48 fun bv f g' x1 x2 x3 => ⟨bv, f, x1, x2, x3, rfl⟩) ?_
    rintro _ g2 h2 ⟨lv, f, xv, rv, s2, rfl⟩ st
    obtain ⟨st2, _⟩ := st s2
    have hl2 : SR EncPr h2 lA l := (hl.sub s2).sub st2.spl.sub
    refine ⟨_, _, _, rfl, cRTexts hl2 hm h48 fun tA tC Bt h3 hb3 c3 => ⟨_, _, _, rfl, ?_⟩⟩
    have st3 := st2.spl.new c3
    have hsr : SR EncS (PH.plus g2 h3 Bt) tA (textsT l) := (hb3.keep fun b hb o e => by rw [plus_in hb]; exact e).sr
    refine nwL fun xb h4 nb4 hb4 c4 => ?_
    have st4 := st3.spl.own c4 (has1 hb4)
    have hlb : ((bi R).map (Value.int .u8)).length = 32 := by rw [List.length_map, bi_len, hR]
    have hx : RefC (PH.plus g2 h3 Bt) (.slice lA l.length lC :: (.slice (some ⟨lv, 0, none⟩) 5 5 :: ((bi R).map (Value.int .u8) ++ (.slice none 0 0 :: ((List.replicate 16 (.bool false : Value)) ++ ((List.replicate 16 (.slice none 0 0 : Value)) ++ ([.slice tA (textsT l).length tC] : List Value)))))))
        ⟨l, R, fun _ => none, fun _ => none, textsT l⟩ := by
      have at2 : ∀ j, 2 + 32 + j < 68 → ∀ {P : List Value}, (.slice lA l.length lC :: (.slice (some ⟨lv, 0, none⟩) 5 5 :: ((bi R).map (Value.int .u8) ++ P)) : List Value)[2 + 32 + j]? = P[j]? := fun j _ P => by
        rw [show 2 + 32 + j = (32 + j) + 1 + 1 by omega, List.getElem?_cons_succ, List.getElem?_cons_succ, List.getElem?_append_right (by omega), hlb]
        congr 1; omega
      have hz : ndL (fun _ => none) = [] := by decide +kernel
      refine ⟨by simp [bi_len, hR], ⟨lA, lC, rfl, (hl.sub s2).sub st3.gs⟩, ⟨lv, f, rfl, xv.sub st3.gs, fun j hj => ⟨(rv j hj).1, (rv j hj).2.sub st3.gs⟩⟩, ?_, ⟨none, 0, ?_, ?_, ?_⟩, fun i hi => ?_, fun i hi => ?_, ⟨tA, tC, ?_, hsr⟩⟩
      · show ((bi R).map (Value.int .u8) ++ _).take 32 = _
        rw [← hlb, List.take_left]
      · have := @at2 0 (by decide)
        rw [show (34 : Nat) = 2 + 32 + 0 from rfl, this]
        show _ = some (Value.slice none (ndL fun _ => none).length 0)
        rw [hz]; rfl
      · show SR EncNd _ none (ndL fun _ => none)
        rw [hz]; exact .inl rfl
      · show (ndL fun _ => none).length ≤ 0
        rw [hz]; exact Nat.le_refl _
      · rw [show 35 + i = 2 + 32 + (1 + i) by omega, at2 _ (by omega), show 1 + i = i + 1 by omega, List.getElem?_cons_succ, List.getElem?_append_left (by simpa using hi), List.getElem?_replicate, if_pos hi]
        rfl
      · refine ⟨none, 0, 0, ?_, fun _ h => by cases h⟩
        rw [show 51 + i = 2 + 32 + (1 + (16 + i)) by omega, at2 _ (by omega), show 1 + (16 + i) = (16 + i) + 1 by omega, List.getElem?_cons_succ, List.getElem?_append_right (by simp), List.length_replicate, show 16 + i - 16 = i by omega, List.getElem?_append_left (by simpa using hi), List.getElem?_replicate, if_pos hi]
      · rw [show (67 : Nat) = 2 + 32 + (1 + (16 + 16)) from rfl, at2 _ (by decide)]
        rfl
    have x4 : RefAt (PH.plus g2 h3 Bt) h4 xb ⟨l, R, fun _ => none, fun _ => none, textsT l⟩ := ⟨⟨_, hb4, hx⟩, hR, hm, h48⟩
    refine cXAsk (lv := 0) (i := 0) x4 (by simpa using st4.spl) rfl (by decide) (by decide) hR rfl fun g5 h5 x5 st5 => ?_
    have ew : ({ (⟨l, R, fun _ => none, fun _ => none, textsT l⟩ : WS) with A := wAsk l (fun _ => none) (2 ^ 0 + 0) R } : WS) = wNew l R := rfl
    refine hyes hm h48 xb g5 h5 (ew ▸ x5) (st2.trans (st3.trans (Stp.trans (by simpa using st4) st5)))
theorem pr_lt_trans {a b c : List UInt8} (h1 : a < b) (h2 : b < c) : a < c := List.lt_trans h1 h2
theorem ins_sorted {O : List PrR} {x : PrR} {k : Nat} (hO : O.Pairwise fun a b => ¬ b.p < a.p) (h1 : ∀ j (hj : j < O.length), k ≤ j → x.p < O[j].p) (h2 : ∀ (hk : k - 1 < O.length), 0 < k → ¬ x.p < O[k - 1].p) (hk : k ≤ O.length) : (O.take k ++ [x] ++ O.drop k).Pairwise fun a b => ¬ b.p < a.p := by
  have hp := List.pairwise_iff_getElem.1 hO
  have lo : ∀ a ∈ O.take k, ¬ x.p < a.p := fun a ha hlt => by
    obtain ⟨j, hj, rfl⟩ := List.getElem_of_mem ha
    rw [List.length_take] at hj
    rw [List.getElem_take] at hlt
    have hn := h2 (by omega) (by omega)
    by_cases e : j = k - 1
    · subst e; exact hn hlt
    · have hj2 := hp j (k - 1) (by omega) (by omega) (by omega)
      by_cases e2 : O[k - 1].p = O[j].p
      · rw [e2] at hn; exact hn hlt
      · exact hn (pr_lt_trans hlt (lt_of_not hj2 e2))
  have hi : ∀ b ∈ O.drop k, ¬ b.p < x.p := fun b hb hlt => by
    obtain ⟨j, hj, rfl⟩ := List.getElem_of_mem hb
    rw [List.length_drop] at hj
    rw [List.getElem_drop] at hlt
    exact List.lt_irrefl _ (pr_lt_trans hlt (h1 _ (by omega) (by omega)))
  rw [List.append_assoc, List.pairwise_append]
  refine ⟨hO.sublist (List.take_sublist _ _), ?_, fun a ha b hb => ?_⟩
  · rw [List.singleton_append, List.pairwise_cons]
    exact ⟨hi, hO.sublist (List.drop_sublist _ _)⟩
  · rw [List.singleton_append] at hb
    rcases List.mem_cons.1 hb with rfl | hb
    · exact lo a ha
    · obtain ⟨j, hj, rfl⟩ := List.getElem_of_mem ha
      obtain ⟨i, hi', rfl⟩ := List.getElem_of_mem hb
      rw [List.length_take] at hj
      rw [List.length_drop] at hi'
      rw [List.getElem_take, List.getElem_drop]
      exact hp j (k + i) (by omega) (by omega) (by omega)
theorem ins_perm {O : List PrR} {x : PrR} {k : Nat} : (O.take k ++ [x] ++ O.drop k).Perm (O ++ [x]) := by
  have h1 : (O.take k ++ [x] ++ O.drop k).Perm (O.take k ++ (O.drop k ++ [x])) := by
    rw [List.append_assoc]
    exact List.Perm.append_left _ List.perm_append_comm
  rw [← List.append_assoc, List.take_append_drop] at h1
  exact h1
theorem cXDone (x : RefAt g h xb s) (sp : Spl g [xb] h) (v : WOk s)
    (hno : (∃ k, 1 ≤ k ∧ k < 32 ∧ (s.A k).isSome = true) ∨ ((∀ k, 1 ≤ k → k < 32 → s.A k = none) ∧ 48 < (wDone s).length) → ∀ h', h.Sub h' → K (.tuple #[.slice none 0 0, .bool false]) h')
    (hyes : (∀ k, 1 ≤ k → k < 32 → s.A k = none) → (wDone s).length ≤ 48 → ∀ l a' c' B' h', l.Perm (wDone s) → (l.Pairwise fun a b => ¬ b.p < a.p) → Buf EncPr T_api_Pair B' h' a' l.length c' l → Chg [] B' h h' → K (.tuple #[.slice a' l.length c', .bool true]) h') :
    CallH Tryz.prog id_ref16_Walk_Done [.pointer (some ⟨xb, 0, none⟩)] K h := by
  obtain ⟨L, hb, hx⟩ := x.mem
  obtain ⟨aA, aC, q1, q2, q3⟩ := hx.ask
  obtain ⟨bA, bC, p1, p2⟩ := hx.base
  have h48S := x.le
  have hSp : ∀ y ∈ s.S, y.p.length ≤ 1000000 := fun y hy => by have := (ok_len ((may_ok x.may).1 y hy)).1; omega
  have hpl : ∀ i, i < 16 → (wPart s i).length ≤ 48 := fun i hi => (v.part i hi).2.2
  have hPl : ∀ i, i ≤ 16 → ((List.range i).flatMap (wPart s)).length ≤ 48 * i := fun i => by
    induction i with
    | zero => intro _; simp
    | succ n ih =>
      intro hn
      rw [parts_succ, List.length_append]
      have := ih (by omega)
      have := hpl n (by omega)
      omega
  refine F_ref16_Walk_Done_ok ⟨xb, 0, rfl, _, _, _, rd1 (o := 0 + 34) hb q1, fun e => ?_, fun e => ?_⟩
  · have e : 0 < (ndL s.A).length := by have := of_decide_eq_true e; omega
    rw [ndL_len] at e
    refine hno (.inl ?_) h (PH.Sub.rf _)
    have hm := List.getElem_mem e
    obtain ⟨c1, c2⟩ := wList_in v.a0 hm
    exact ⟨_, c1, c2, (wList_mem.1 hm).2⟩
  · have e : (wList s.A).length = 0 := by rw [← ndL_len]; have := of_decide_eq_false e; omega
    have hnone : ∀ c, s.A c = none := v.none (List.length_eq_zero_iff.1 e)
    refine LoopP.ind (fun (z : (Option Addr × Nat × Nat) × Int × Unit) h' => ∃ (i : Nat) (B' : List Nat) (O : List PrR), z.2.1 = i ∧ i ≤ 16 ∧ Buf EncPr T_api_Pair B' h' z.1.1 z.1.2.1 z.1.2.2 O ∧ Chg [] B' h h' ∧ O.Perm ((List.range i).flatMap (wPart s)) ∧ O.Pairwise fun a b => ¬ b.p < a.p) (fun z _ => (16 - z.2.1).toNat) ?_
      ⟨0, [], [], rfl, Nat.zero_le _, Buf.nil _ _ _ _, Chg.refl _ _, List.Perm.refl _, List.Pairwise.nil⟩
    rintro ⟨⟨oA, oN, oC⟩, zi, u⟩ h1 ⟨i, B1, O, hzi, hi, hbO, hc1, hpO, hsO⟩
    dsimp only at hzi hbO
    subst hzi
    dsimp only
    have hoN := hbO.1
    have hOl : O.length ≤ 48 * i := by rw [hpO.length_eq]; exact hPl i hi
    refine ⟨fun e => ?_, fun e => ?_⟩
    · have e : i < 16 := by have := of_decide_eq_true e; omega
      have hit : ((i : Nat) : Int).toNat * 1 = i := by omega
      have hwi : IntKind.wrap .i64 (((i : Nat) : Int) + (1 : Int)) = ((i + 1 : Nat) : Int) := by rw [wrap64] <;> omega
      have hpok := v.part i e
      have hpp : ∀ y ∈ wPart s i, y.p.length ≤ 1000000 := fun y hy => by have := (ok_len ((may_ok hpok.1).1 y hy)).1; omega
      rw [hit, hwi]
      refine ⟨xb, 0, rfl, bA, s.S.length, bC, rd1 (hc1.sub0 _ _ hb) p1, ?_⟩
      refine cRPart ((p2.sub sp.sub).sub hc1.sub0) (by omega) hSp fun lA lC B2 h2 hb2 cc2 => ⟨_, _, _, rfl, ?_⟩
      have hs2 : h.Sub h2 := hc1.sub0.tr cc2.sub0
      refine ⟨fun st h' => ∃ a c, st.1 = (a, (wPart s i).length, c) ∧ h' = h2 ∧ SR EncPr h2 a (wPart s i), ?_, ?_⟩
      · refine ⟨xb, 0, rfl, ⟨by omega, by omega⟩, (s.Q i).isSome, rd1 (o := (0 + 35) + i) (hs2 _ _ hb) (by rw [show (0 + 35) + i = 35 + i by omega]; exact hx.stg i e), fun e2 => ?_, fun e2 => ?_⟩
        · obtain ⟨l, hQ⟩ := Option.isSome_iff_exists.1 e2
          obtain ⟨a3, n3, c3, w1, w2⟩ := hx.part i e
          obtain ⟨w3, w4⟩ := w2 l hQ
          subst w3
          refine ⟨xb, 0, rfl, ⟨by omega, by omega⟩, a3, l.length, c3, rd1 (o := (0 + 51) + i) (hs2 _ _ hb) (by rw [show (0 + 51) + i = 51 + i by omega]; exact w1), a3, c3, ?_, rfl, ?_⟩
          · unfold wPart; rw [hQ]; rfl
          · unfold wPart; rw [hQ]; exact (w4.sub sp.sub).sub hs2
        · have hQ : s.Q i = none := by
            cases hq : s.Q i with
            | none => rfl
            | some l => rw [hq] at e2; cases e2
          refine ⟨lA, lC, ?_, rfl, ?_⟩
          · unfold wPart; rw [hQ]; rfl
          · unfold wPart; rw [hQ]; exact hb2.sr
      rintro ⟨stv, u⟩ h3 ⟨pA, pC, hst, rfl, hsP⟩
      dsimp only at hst
      subst hst
      dsimp only
      refine LoopP.ind (fun (z : (Option Addr × Nat × Nat) × Int × Unit) h' => ∃ (k : Nat) (B' : List Nat) (O' : List PrR), z.2.1 = k ∧ k ≤ (wPart s i).length ∧ Buf EncPr T_api_Pair B' h' z.1.1 z.1.2.1 z.1.2.2 O' ∧ Chg [] B' h h' ∧ h3.Sub h' ∧ O'.Perm ((List.range i).flatMap (wPart s) ++ (wPart s i).take k) ∧ O'.Pairwise fun a b => ¬ b.p < a.p) (fun z _ => ((wPart s i).length - z.2.1).toNat) ?_
        ⟨0, B1, O, rfl, Nat.zero_le _, hbO.sub cc2.sub0, (hc1.trans ⟨fun b o _ e => cc2.sub0 b o e, fun b hb => .inl hb⟩), PH.Sub.rf _, by simpa using hpO, hsO⟩
      rintro ⟨⟨oA4, oN4, oC4⟩, zk, u⟩ h4 ⟨k, B4, O4, hzk, hk, hb4, hc4, s34, hp4, hs4⟩
      dsimp only at hzk hb4
      subst hzk
      dsimp only
      have ho4 := hb4.1
      have hcap := hb4.le
      have hl4 : O4.length ≤ 48 * i + k := by
        rw [hp4.length_eq, List.length_append, List.length_take]
        have := hPl i hi
        omega
      have hk48 := hpl i e
      refine ⟨fun e4 => ?_, fun e4 => ?_⟩
      · have e4 : k < (wPart s i).length := by have := of_decide_eq_true e4; omega
        have hkt : ((k : Nat) : Int).toNat = k := by omega
        have hwk : IntKind.wrap .i64 (((k : Nat) : Int) + (1 : Int)) = ((k + 1 : Nat) : Int) := by rw [wrap64] <;> omega
        rw [hkt, hwk]
        obtain ⟨bp, op, hpA, hpr⟩ := (hsP.sub s34).get e4
        refine ⟨fun st h' => ∃ at_ : Nat, st.1 = at_ ∧ at_ ≤ O4.length ∧ h' = h4 ∧ (∀ j (hj : j < O4.length), at_ ≤ j → (wPart s i)[k].p < O4[j].p) ∧ ∀ (hj : at_ - 1 < O4.length), 0 < at_ → ¬ (wPart s i)[k].p < O4[at_ - 1].p, ?_, ?_⟩
        · refine LoopP.ind (fun (z : Int × Unit) h' => ∃ at_ : Nat, z.1 = at_ ∧ at_ ≤ O4.length ∧ h' = h4 ∧ ∀ j (hj : j < O4.length), at_ ≤ j → (wPart s i)[k].p < O4[j].p) (fun z _ => z.1.toNat) ?_ ⟨O4.length, by rw [ho4], Nat.le_refl _, rfl, fun j hj h => by omega⟩
          rintro ⟨za, u⟩ h5 ⟨at_, hza, hat, rfl, hhi⟩
          dsimp only at hza
          subst hza
          dsimp only
          by_cases ha : 0 < at_
          · have hd : decide (((at_ : Nat) : Int) > (0 : Int)) = true := by simpa using ha
            have hw : IntKind.wrap .i64 (((at_ : Nat) : Int) - (1 : Int)) = ((at_ - 1 : Nat) : Int) := by rw [wrap64] <;> omega
            have hwt : ((at_ - 1 : Nat) : Int).toNat = at_ - 1 := by omega
            obtain ⟨bo, oo, hoA, hor⟩ := hb4.sr.get (i := at_ - 1) (by omega)
            rw [hw, hwt]
            refine ⟨bp, op, fun _ => ⟨hpA, by omega, by omega⟩, _, fun _ => hpr _ 0 1 rfl (by decide), bo, oo, fun _ => ⟨hoA, by omega, by omega⟩, _, fun _ => hor _ 0 1 rfl (by decide), fun _ => ?_, fun e => by rw [hd] at e; cases e⟩
            refine cLess (by have := hpp _ (List.getElem_mem e4); omega) ⟨_, rfl, fun e5 => ?_, fun e5 => ?_⟩
            · have e5 := of_decide_eq_true e5
              refine ⟨⟨at_ - 1, rfl, by omega, rfl, fun j hj hjk => ?_⟩, by omega⟩
              by_cases ej : j = at_ - 1
              · subst ej; exact e5
              · exact hhi j hj (by omega)
            · have e5 := of_decide_eq_false e5
              exact ⟨at_, rfl, hat, rfl, hhi, fun _ _ => e5⟩
          · have hd : decide (((at_ : Nat) : Int) > (0 : Int)) = false := by simpa using ha
            exact ⟨0, 0, fun e => (by rw [hd] at e; cases e), ⟨#[]⟩, fun e => (by rw [hd] at e; cases e), 0, 0, fun e => (by rw [hd] at e; cases e), ⟨#[]⟩, fun e => (by rw [hd] at e; cases e), fun e => (by rw [hd] at e; cases e), fun _ => ⟨at_, rfl, hat, rfl, hhi, fun _ h0 => absurd h0 ha⟩⟩
        rintro ⟨zat, u⟩ h5 ⟨at_, hzat, hat, rfl, hhi, hlo⟩
        dsimp only at hzat
        subst hzat
        dsimp only
        have hatt : ((at_ : Nat) : Int).toNat = at_ := by omega
        have hont : ((oN4 : Nat) : Int).toNat = O4.length := by omega
        have m1 : at_ - (0 : Int).toNat = (O4.take at_).length := by rw [List.length_take]; show at_ - 0 = _; omega
        have m2 : O4.length - at_ = (O4.drop at_).length := by rw [List.length_drop]
        refine nwL (cs := []) fun b6 h6 _ _ c6 => ⟨⟨by decide, by omega, by omega, by omega⟩, EncPr.row (O4.take at_), ?_, ?_⟩
        · have := (hb4.sr.sub c6.sub0).slice (L := 0) (lo := 0) (hi := at_) (mx := (oC4 : Int)) rfl hat (by omega)
          rw [List.drop_zero, Nat.sub_zero] at this
          rw [hatt, m1]; exact this.src
        rw [hatt, m1, hont]
        refine (Buf.nil EncPr T_api_Pair h6 (some ⟨b6, 0, none⟩)).append (new := O4.take at_) rfl rfl rfl (by rw [List.length_take]; omega) fun a7 c7 B7 h7 hb7 cc7 _ => ?_
        obtain ⟨bp7, op7, hpA7, hpr7⟩ := (hsP.sub (s34.tr (c6.sub0.tr cc7.sub0))).get e4
        refine ⟨bp7, op7, ⟨hpA7, by omega, by omega⟩, _, _, hpr7 _ 0 2 rfl (by decide), ?_⟩
        refine hb7.append (new := [(wPart s i)[k]]) rfl rfl rfl (by rw [List.length_take]; omega) fun a8 c8 B8 h8 hb8 cc8 _ => ?_
        have ccA := Chg.from c6.sub0 (cc7.trans cc8)
        refine ⟨⟨by omega, by omega, by omega, by omega⟩, EncPr.row (O4.drop at_), ?_, ?_⟩
        · have := (hb4.sr.sub ccA.sub0).slice (L := ((at_ : Nat) : Int)) (lo := at_) (hi := O4.length) (mx := (oC4 : Int)) hatt (Nat.le_refl _) (by omega)
          rw [List.take_of_length_le (by rw [List.length_drop]; exact Nat.le_refl _)] at this
          rw [m2]; exact this.src
        rw [m2]
        refine hb8.append (new := O4.drop at_) rfl rfl rfl (by rw [List.length_take, List.length_drop]; omega) fun a9 c9 B9 h9 hb9 cc9 _ => ?_
        have ccB := ccA.trans cc9
        rw [List.nil_append] at hb9
        refine ⟨⟨k + 1, B9, _, rfl, by omega, hb9, ?_, s34.tr ccB.sub0, ?_, ins_sorted hs4 hhi hlo hat⟩, by omega⟩
        · exact ⟨fun b o _ e => ccB.sub0 _ _ (hc4.sub0 _ _ e), fun b hb => .inr (by
            cases eh : h b with
            | none => rfl
            | some o =>
              rcases ccB.2 b hb with h1 | h1
              · cases h1
              · rw [hc4.sub0 _ _ eh] at h1; cases h1)⟩
        · refine ins_perm.trans ?_
          rw [List.take_succ_eq_append_getElem e4, ← List.append_assoc]
          exact hp4.append_right _
      · have e4 : k = (wPart s i).length := by have := of_decide_eq_false e4; omega
        subst e4
        rw [List.take_length, ← parts_succ] at hp4
        exact ⟨⟨i + 1, B4, O4, rfl, by omega, hb4, hc4, hp4, hs4⟩, by omega⟩
    · have e : i = 16 := by have := of_decide_eq_false e; omega
      subst e
      have hlen := hpO.length_eq
      have hDl : (wDone s).length = O.length := hlen.symm
      refine ⟨fun e2 => hno (.inr ⟨fun k _ _ => hnone k, ?_⟩) h1 hc1.sub0, fun e2 => ?_⟩
      · have := of_decide_eq_true e2
        omega
      · have := of_decide_eq_false e2
        have := hyes (fun k _ _ => hnone k) (by omega) O oA oC B1 h1 hpO hsO (by rw [← hoN]; exact hbO) hc1
        rw [← hoN] at this; exact this
end TL

namespace TL
open Go Go.Proofs
variable {g h : PH} {N : List Nat} {K : Value → PH → Prop} {xb wb tb : Nat} {s : WS} {T : List PrR}
/-- both, with one state -/
structure TwoX (h0 : PH) (T : List PrR) (wb xb tb : Nat) (g : PH) (N : List Nat) (h : PH) (s : WS) (n : Nat) : Prop where
  v : WOk s
  t : s.T.length ≤ 31 + n
  w : WalkAt g N h wb s
  x : RefAt g h xb s
  dj : Dj [xb] N
  st : Stp h0 [] h0 g ([xb] ++ N) h
  tr : Tr tb g T
section
variable {h0 : PH} {n : Nat} {lv i : Int} {a b : List UInt8} {l : List PrR}
theorem TwoX.up {m : Nat} (I : TwoX h0 T wb xb tb g N h s n) (hm : n ≤ m) : TwoX h0 T wb xb tb g N h s m := ⟨I.v, by have := I.t; omega, I.w, I.x, I.dj, I.st, I.tr⟩
theorem TwoX.grow {h' : PH} (I : TwoX h0 T wb xb tb g N h s n) (s' : h.Sub h') : TwoX h0 T wb xb tb g N h' s n :=
  ⟨I.v, I.t, I.w.keep (PH.Sub.rf _) fun q _ o e => s' q o e, I.x.keep (PH.Sub.rf _) fun _ e => s' _ _ e, I.dj, I.st.trans (I.st.spl.grow s'), I.tr⟩
theorem TwoX.node (I : TwoX h0 T wb xb tb g N h s n) (hn : n ≤ 1000) (ha : a.length = 32) (hb : b.length = 32) (hk : ∀ g' N' h' s', TwoX h0 T wb xb tb g' N' h' s' (n + 1) → K (.bool true) h') :
    CallH Tryz.prog id_walk_Walk_Node [.pointer (some ⟨wb, 0, none⟩), .int .i64 lv, .int .i64 i, .agg (((bi a).map (Value.int .u8) ++ [])).toArray, .agg (((bi b).map (Value.int .u8) ++ [])).toArray] (fun v_8 h13 =>
                  ∃ t_5 : Bool, v_8 = .bool t_5 ∧
                  CallH Tryz.prog id_ref16_Walk_Node [.pointer (some ⟨xb, 0, none⟩), .int .i64 lv, .int .i64 i, .agg (((bi a).map (Value.int .u8) ++ [])).toArray, .agg (((bi b).map (Value.int .u8) ++ [])).toArray] (fun v_9 h14 =>
                    ∃ t_6 : Bool, v_9 = .bool t_6 ∧
                    K (.bool (t_5 == t_6)) h14) h13) h := by
  have hT := I.t
  refine cWNodeV I.w I.st.spl.right ha hb (by omega) fun N1 h1 w1 st1 => ⟨_, rfl, ?_⟩
  obtain ⟨sf1, d1⟩ := st1.frameR I.st.spl I.dj
  have x1 : RefAt g h1 xb s := I.x.keep (PH.Sub.rf _) fun o e => st1.chg.keep e (I.dj xb (by simp))
  refine cXNodeV x1 sf1.spl.left I.v ha hb (by omega) fun g2 h2 x2 st2 => ⟨_, rfl, ?_⟩
  obtain ⟨sf2, d2⟩ := st2.frame sf1.spl d1.symm
  rw [beq_self_eq_true]
  have kp := nodeW_keep (s := s) (lv := lv) (i := i) (a := a) (b := b)
  exact hk g2 N1 h2 _ ⟨I.v.node ha hb, by have := kp.t; omega, w1.stp st2 d1.symm, x2, d1, I.st.trans (sf1.trans sf2), I.tr.sub st2.gs⟩
theorem TwoX.page (I : TwoX h0 T wb xb tb g N h s n) (hn : n ≤ 1000) {lA : Option Addr} {lC : Nat} (hl : SR EncPr g lA l) (hl2 : l.length ≤ 1000) (hs : ∀ x ∈ l, x.p.length ≤ 1000000) {J : Value → PH → Prop}
    (hk : ∀ g' N' h', g.Sub g' → WalkAt g' N' h' wb (pageW s i l).2 → Stp h0 [] h0 g' ([xb] ++ N') h' → Dj [xb] N' → RefAt g' h' xb s → J (.bool (pageW s i l).1) h') :
    CallH Tryz.prog id_walk_Walk_Page [.pointer (some ⟨wb, 0, none⟩), .int .i64 i, .slice lA l.length lC] J h := by
  have hT := I.t
  refine cWPageV I.w I.st.spl.right hl hl2 hs (by omega) fun g1 N1 h1 w1 st1 => ?_
  obtain ⟨sf1, d1⟩ := st1.frameR I.st.spl I.dj
  exact hk g1 N1 h1 st1.gs w1 (I.st.trans sf1) d1 (I.x.keep st1.gs fun o e => st1.chg.keep e (I.dj xb (by simp)))
theorem TwoX.page2 (v : WOk s) (hT : s.T.length ≤ 31 + n) (hn : n ≤ 1000) (w : WalkAt g N h wb (pageW s i l).2) (st : Stp h0 [] h0 g ([xb] ++ N) h) (dj : Dj [xb] N) (x : RefAt g h xb s) (tr : Tr tb g T) {lA : Option Addr} {lC : Nat} (hl : SR EncPr g lA l) (hl2 : l.length ≤ 1000) (hs : ∀ x ∈ l, x.p.length ≤ 1000000)
    (hk : ∀ g' N' h' s', TwoX h0 T wb xb tb g' N' h' s' (n + 1) → K (.bool (pageW s i l).1) h') :
    CallH Tryz.prog id_ref16_Walk_Page [.pointer (some ⟨xb, 0, none⟩), .int .i64 i, .slice lA l.length lC] K h := by
  refine cXPageV x st.spl.left v hl hl2 hs (by omega) fun g2 h2 x2 st2 => ?_
  obtain ⟨sf2, d2⟩ := st2.frame st.spl dj.symm
  have kp := pageW_keep (s := s) (i := i) (l := l)
  exact hk g2 N h2 _ ⟨v.page, by have := kp.t; omega, w.stp st2 dj.symm, x2, dj, st.trans sf2, tr.sub st2.gs⟩
end
/-! ### A tree at any place -/
def pairsAt (T : List PrR) (i : Int) : List PrR := if 0 ≤ i ∧ i < 16 then partB T i.toNat else []
theorem cPairsAny (tr : Tr tb h T) {i : Int} (hk : ∀ a' c' B' h', Buf EncPr T_api_Pair B' h' a' (pairsAt T i).length c' (pairsAt T i) → Chg [] B' h h' → K (.slice a' (pairsAt T i).length c') h') :
    CallH Tryz.prog id_tree_Tree_Pairs [.pointer (some ⟨tb, 0, none⟩), .int .i64 i] K h := by
  by_cases hi : 0 ≤ i ∧ i < 16
  · have e : pairsAt T i = partB T i.toNat := if_pos hi
    rw [e] at hk
    obtain ⟨k, rfl⟩ : ∃ k : Nat, i = k := ⟨i.toNat, by omega⟩
    exact cPairs tr (by omega) hk
  · have e : pairsAt T i = [] := if_neg hi
    rw [e] at hk
    refine F_tree_Tree_Pairs_ok ⟨fun _ => hk none 0 [] h (Buf.nil _ _ _ _) (Chg.refl _ _), fun e2 => ?_⟩
    exfalso
    simp only [Option.isNone_some, Bool.false_or, Bool.or_eq_false_iff, decide_eq_false_iff_not] at e2
    omega
theorem pairsAt_ok (tr : Tr tb h T) (i : Int) : (pairsAt T i).length ≤ 1000 ∧ ∀ x ∈ pairsAt T i, x.p.length ≤ 1000000 := by
  unfold pairsAt
  split
  · have hok := part_ok tr.may tr.le i.toNat
    refine ⟨by have := hok.2.2; omega, fun x hx => ?_⟩
    have := (ok_len ((may_ok hok.1).1 x hx)).1
    omega
  · exact ⟨by simp, fun _ h => by cases h⟩
theorem node_out : ∀ lv : Nat, lv < 6 → ∀ i : Nat, i < 32 → ¬ (lv ≤ 4 ∧ i < 2 ^ lv) → (((((Option.isNone (some () : Option Unit)) || (decide (((lv : Nat) : Int) < (0 : Int)))) || (decide (((lv : Nat) : Int) > (4 : Int)))) || (decide (((i : Nat) : Int) < (0 : Int)))) || (decide (((i : Nat) : Int) ≥ (shlV .i64 (1 : Int) ((lv : Nat) : Int))))) = true := by decide +kernel
theorem cLawNodeAny (tr : Tr tb h T) {lv i : Int} (h1 : 0 ≤ lv) (h2 : lv ≤ 5) (h3 : 0 ≤ i) (h4 : i < 32) (hk : ∀ x : List UInt8, x.length = 32 → K (.agg (((bi x).map (Value.int .u8) ++ [])).toArray) h) :
    CallH Tryz.prog id_law16_node [.pointer (some ⟨tb, 0, none⟩), .int .i64 lv, .int .i64 i] K h := by
  obtain ⟨k, rfl⟩ : ∃ k : Nat, lv = k := ⟨lv.toNat, by omega⟩
  obtain ⟨j, rfl⟩ : ∃ k : Nat, i = k := ⟨i.toNat, by omega⟩
  by_cases hin : k ≤ 4 ∧ j < 2 ^ k
  · exact cLawNode tr hin.1 hin.2 (hk _ (nd_len _ _))
  · refine F_law16_node_ok (cNodeNo (fun _ => by omega) (node_out k (by omega) j (by omega) hin) ⟨List.replicate 32 0, by simp, false, rfl, ?_⟩)
    rw [bi_z32]; exact hk _ (by simp)
theorem cOne16 {h0 : PH} {n : Nat} (I : TwoX h0 T wb xb tb g N h s n) (hn : n ≤ 1000) {a0 a1 a2 a3 : Int} {a4A : Option Addr} {a4C : Nat} {ps : List PrR} (hps : SR EncPr g a4A ps) (hpl : ps.length ≤ 1000) (hpp : ∀ x ∈ ps, x.p.length ≤ 1000000)
    (hk : ∀ g' N' h' s', TwoX h0 T wb xb tb g' N' h' s' (n + 1) → K (.bool true) h') :
    CallH Tryz.prog id_law16_one [.pointer (some ⟨wb, 0, none⟩), .pointer (some ⟨xb, 0, none⟩), .pointer (some ⟨tb, 0, none⟩), .agg #[.int .u8 a0, .int .i64 a1, .int .i64 a2, .int .i64 a3, .slice a4A ps.length a4C]] K h := by
  refine F_law16_one_ok ⟨fun _ h' => h' = h, ⟨fun _ => ?_, fun _ => rfl⟩, ?_⟩
  · obtain ⟨L, hb, hx⟩ := I.x.mem
    obtain ⟨aA, aC, q1, q2, q3⟩ := hx.ask
    have r34 := rd1 (o := 0 + 34) hb q1
    have hle := ndL_le s.A
    refine ⟨xb, 0, rfl, _, _, _, r34, fun _ => hk g N h s (I.up (by omega)), fun e => ?_⟩
    have h0 : 0 < (ndL s.A).length := by have : (ndL s.A).length ≠ 0 := by simpa using e
                                         omega
    obtain ⟨t1, t2⟩ := turn_in a1 h0 (by omega)
    have rest : ∀ k : Int, 0 ≤ k → k < (ndL s.A).length →
              ∃ bv_3 ov_3 : Nat, (some ⟨xb, 0, none⟩ : Option Addr) = some ⟨bv_3, ov_3, none⟩ ∧
              ∃ (tA_3 : Option Addr) (tN_3 tC_3 : Nat), (h.rds bv_3 (ov_3 + 34) 1 = some [.slice tA_3 tN_3 tC_3]) ∧
              ∃ bv_4 ov_4 : Nat, (tA_3 = some ⟨bv_4, ov_4, none⟩ ∧ 0 ≤ k ∧ k < (tN_3 : Nat)) ∧
              ∃ level : Int, (h.rds bv_4 (ov_4 + k.toNat * 34) 1 = some [.int .i64 level]) ∧
              ∃ bv_5 ov_5 : Nat, (some ⟨xb, 0, none⟩ : Option Addr) = some ⟨bv_5, ov_5, none⟩ ∧
              ∃ (tA_4 : Option Addr) (tN_4 tC_4 : Nat), (h.rds bv_5 (ov_5 + 34) 1 = some [.slice tA_4 tN_4 tC_4]) ∧
              ∃ bv_6 ov_6 : Nat, (tA_4 = some ⟨bv_6, ov_6, none⟩ ∧ 0 ≤ k ∧ k < (tN_4 : Nat)) ∧
              ∃ i : Int, (h.rds bv_6 ((ov_6 + k.toNat * 34) + 1) 1 = some [.int .i64 i]) ∧ h = h := fun k k0 k1 => by
      obtain ⟨k, rfl⟩ : ∃ m : Nat, k = m := ⟨k.toNat, by omega⟩
      have hkt : ((k : Nat) : Int).toNat = k := by omega
      obtain ⟨b, o, hA4, hr4⟩ := (q2.sub I.st.spl.sub).get (i := k) (by omega)
      rw [hkt]
      exact ⟨xb, 0, rfl, _, _, _, r34, b, o, ⟨hA4, by omega, by omega⟩, _, hr4 _ 0 1 rfl (by decide), xb, 0, rfl, _, _, _, r34, b, o, ⟨hA4, by omega, by omega⟩, _, hr4 _ 1 1 rfl (by decide), rfl⟩
    refine ⟨xb, 0, rfl, _, _, _, r34, by omega, fun st h' => h' = h ∧ 0 ≤ st.1 ∧ st.1 < (ndL s.A).length, ⟨fun e2 => ⟨xb, 0, rfl, _, _, _, r34, rfl, t1 (of_decide_eq_true e2)⟩, fun e2 => ⟨rfl, t2 (of_decide_eq_false e2)⟩⟩, ?_⟩
    rintro ⟨k, u⟩ h' ⟨rfl, k0, k1⟩
    exact rest k k0 k1
  rintro ⟨lv, i, u⟩ h1 rfl
  dsimp only
  have sp := I.st.spl
  have hT := I.t
  refine ⟨fun _ => ?_, fun _ => ?_⟩
  · obtain ⟨p1, p2⟩ := pairsAt_ok I.tr i
    refine cPairsAny (I.tr.sub sp.sub) fun aA aC Ba h2 hb2 cc2 => ⟨_, _, _, rfl, ?_⟩
    have st2 := sp.new cc2
    have sr2 : SR EncPr (PH.plus g h2 Ba) aA (pairsAt T i) := (hb2.keep fun b hb o e => by rw [plus_in hb]; exact e).sr
    have I2 : TwoX h0 T wb xb tb (PH.plus g h2 Ba) N h2 s n := ⟨I.v, hT, I.w.keep st2.gs fun q _ o e => cc2.sub0 q o e, I.x.keep st2.gs fun o e => cc2.sub0 _ _ e, I.dj, I.st.trans st2, I.tr.sub st2.gs⟩
    refine I2.page hn sr2 p1 p2 fun g3 N3 h3 gs3 w3 st3 d3 x3 => ⟨_, rfl, ?_⟩
    have tr3 := I2.tr.sub gs3
    refine cPairsAny (tr3.sub st3.spl.sub) fun bA bC Bb h4 hb4 cc4 => ⟨_, _, _, rfl, ?_⟩
    have st4 := st3.spl.new cc4
    have sr4 : SR EncPr (PH.plus g3 h4 Bb) bA (pairsAt T i) := (hb4.keep fun b hb o e => by rw [plus_in hb]; exact e).sr
    refine TwoX.page2 (n := n) I.v hT hn (w3.keep st4.gs fun q _ o e => cc4.sub0 q o e) (st3.trans st4) d3 (x3.keep st4.gs fun o e => cc4.sub0 _ _ e) (tr3.sub st4.gs) sr4 p1 p2 fun g5 N5 h5 s5 I5 => ⟨_, rfl, ?_⟩
    rw [beq_self_eq_true]
    exact hk g5 N5 h5 s5 I5
  · refine ⟨fun st h' => h' = h1 ∧ ∃ x y : List UInt8, st.1 = bi x ∧ st.2.1 = bi y ∧ x.length = 32 ∧ y.length = 32, ⟨fun e => ?_, fun _ => ⟨rfl, List.replicate 32 0, List.replicate 32 0, bi_z32, bi_z32, by simp, by simp⟩⟩, ?_⟩
    · simp only [Bool.and_eq_true, decide_eq_true_eq] at e
      have w1 : IntKind.wrap .i64 (lv + 1) = lv + 1 := by rw [wrap64] <;> omega
      have w2 : IntKind.wrap .i64 ((2 : Int) * i) = 2 * i := by rw [wrap64] <;> omega
      have w3 : IntKind.wrap .i64 (2 * i + (1 : Int)) = 2 * i + 1 := by rw [wrap64] <;> omega
      rw [w1, w2, w3]
      refine cLawNodeAny (I.tr.sub sp.sub) (by omega) (by omega) (by omega) (by omega) fun x hx => ⟨bi x, by rw [bi_len, hx], rfl, cLawNodeAny (I.tr.sub sp.sub) (by omega) (by omega) (by omega) (by omega) fun y hy => ⟨bi y, by rw [bi_len, hy], rfl, rfl, x, y, rfl, rfl, hx, hy⟩⟩
    rintro ⟨p, q, u2⟩ h2 ⟨rfl, x, y, hx, hy, lx, ly⟩
    dsimp only at hx hy
    subst hx hy
    dsimp only
    refine ⟨fun st h' => h' = h2 ∧ ∃ x y : List UInt8, st.1 = bi x ∧ st.2.1 = bi y ∧ x.length = 32 ∧ y.length = 32, ⟨fun _ => ⟨rfl, y, x, rfl, rfl, ly, lx⟩, fun _ => ⟨rfl, x, y, rfl, rfl, lx, ly⟩⟩, ?_⟩
    rintro ⟨p, q, u3⟩ h3 ⟨rfl, x, y, hx, hy, lx, ly⟩
    dsimp only at hx hy
    subst hx hy
    dsimp only
    refine ⟨fun _ => ?_, fun _ => I.node hn lx ly hk⟩
    refine I.page hn hps hpl hpp fun g3 N3 h4 gs3 w3 st3 d3 x3 => ⟨_, rfl, ?_⟩
    refine TwoX.page2 (n := n) I.v hT hn w3 st3 d3 x3 (I.tr.sub gs3) (hps.sub gs3) hpl hpp fun g5 N5 h5 s5 I5 => ⟨_, rfl, ?_⟩
    rw [beq_self_eq_true]
    exact hk g5 N5 h5 s5 I5
end TL

namespace TL
open Go Go.Proofs
variable {g h : PH} {N : List Nat} {K : Value → PH → Prop} {xb wb tb : Nat} {s : WS} {T : List PrR}
theorem ask40 {A : Nat → Option (List UInt8)} {n : Nat} (hn : 32 ≤ n) : ((wList A).map askP).take n = (wList A).map askP := List.take_of_length_le (by have := wList_le A; rw [List.length_map]; omega)
/-- a row of asks, the document's row, a part of it -/
theorem askTwo {g0 : PH} {x0 : Nat} {wA aA : Option Addr} {n : Int} (hw : SR EncAsk h wA (((wList s.A).map askP).take n.toNat)) (ha : SR EncAsk h aA ((wList s.A).map askP)) (x : RefAt g0 h x0 s) (sp : Spl g0 [x0] h) {J F : PH → Prop} (hk : J h) :
    LoopP (T := Int × Unit) (fun Jv_3 st_3 h21 =>
                                                      (((decide (st_3.1 < ((((wList s.A).map askP).length : Nat) : Int))) = true →
                                                          ∃ bv_2 ov_2 : Nat, (aA = some ⟨bv_2, ov_2, none⟩ ∧ 0 ≤ st_3.1 ∧ st_3.1 < (((wList s.A).map askP).length : Nat)) ∧
                                                          ∃ t_12 : Int, (h21.rds bv_2 (ov_2 + st_3.1.toNat * 2) 1 = some [.int .i64 t_12]) ∧
                                                          ∃ bv_3 ov_3 : Nat, (some ⟨x0, 0, none⟩ : Option Addr) = some ⟨bv_3, ov_3, none⟩ ∧
                                                          ∃ (tA_1 : Option Addr) (tN_1 tC_1 : Nat), (h21.rds bv_3 (ov_3 + 34) 1 = some [.slice tA_1 tN_1 tC_1]) ∧
                                                          ∃ bv_4 ov_4 : Nat, (tA_1 = some ⟨bv_4, ov_4, none⟩ ∧ 0 ≤ st_3.1 ∧ st_3.1 < (tN_1 : Nat)) ∧
                                                          ∃ t_13 : Int, (h21.rds bv_4 (ov_4 + st_3.1.toNat * 34) 1 = some [.int .i64 t_13]) ∧
                                                          ∃ bv_5 ov_5 : Nat, (((t_12 != t_13) = false → aA = some ⟨bv_5, ov_5, none⟩ ∧ 0 ≤ st_3.1 ∧ st_3.1 < (((wList s.A).map askP).length : Nat))) ∧
                                                          ∃ t_14 : Int, (((t_12 != t_13) = false → h21.rds bv_5 ((ov_5 + st_3.1.toNat * 2) + 1) 1 = some [.int .i64 t_14])) ∧
                                                          ∃ bv_6 ov_6 : Nat, ((t_12 != t_13) = false → (some ⟨x0, 0, none⟩ : Option Addr) = some ⟨bv_6, ov_6, none⟩) ∧
                                                          ∃ (tA_2 : Option Addr) (tN_2 tC_2 : Nat), (((t_12 != t_13) = false → h21.rds bv_6 (ov_6 + 34) 1 = some [.slice tA_2 tN_2 tC_2])) ∧
                                                          ∃ bv_7 ov_7 : Nat, (((t_12 != t_13) = false → tA_2 = some ⟨bv_7, ov_7, none⟩ ∧ 0 ≤ st_3.1 ∧ st_3.1 < (tN_2 : Nat))) ∧
                                                          ∃ t_15 : Int, (((t_12 != t_13) = false → h21.rds bv_7 ((ov_7 + st_3.1.toNat * 34) + 1) 1 = some [.int .i64 t_15])) ∧
                                                          ((((t_12 != t_13) || (t_14 != t_15)) = false →
                                                              ∃ bv_8 ov_8 : Nat, (((decide (st_3.1 < (((((wList s.A).map askP).take n.toNat).length : Nat) : Int))) = true → wA = some ⟨bv_8, ov_8, none⟩ ∧ 0 ≤ st_3.1 ∧ st_3.1 < ((((wList s.A).map askP).take n.toNat).length : Nat))) ∧
                                                              ∃ t0_4 : Int, ∃ t1_4 : Int, (((decide (st_3.1 < (((((wList s.A).map askP).take n.toNat).length : Nat) : Int))) = true → h21.rds bv_8 (ov_8 + st_3.1.toNat * 2) 2 = some [.int .i64 t0_4, .int .i64 t1_4])) ∧
                                                              ∃ bv_9 ov_9 : Nat, (((decide (st_3.1 < (((((wList s.A).map askP).take n.toNat).length : Nat) : Int))) = true → aA = some ⟨bv_9, ov_9, none⟩ ∧ 0 ≤ st_3.1 ∧ st_3.1 < (((wList s.A).map askP).length : Nat))) ∧
                                                              ∃ t0_5 : Int, ∃ t1_5 : Int, (((decide (st_3.1 < (((((wList s.A).map askP).take n.toNat).length : Nat) : Int))) = true → h21.rds bv_9 (ov_9 + st_3.1.toNat * 2) 2 = some [.int .i64 t0_5, .int .i64 t1_5])) ∧
                                                              ((((decide (st_3.1 < (((((wList s.A).map askP).take n.toNat).length : Nat) : Int))) && (!((t0_4 == t0_5) && ((t1_4 == t1_5) && true)))) = true →
                                                                  F h21) ∧
                                                                (((decide (st_3.1 < (((((wList s.A).map askP).take n.toNat).length : Nat) : Int))) && (!((t0_4 == t0_5) && ((t1_4 == t1_5) && true)))) = false →
                                                                  Jv_3 ((IntKind.wrap .i64 (st_3.1 + (1 : Int))), ()) h21))) ∧
                                                            (((t_12 != t_13) || (t_14 != t_15)) = true →
                                                              F h21))) ∧
                                                        ((decide (st_3.1 < ((((wList s.A).map askP).length : Nat) : Int))) = false →
                                                          J h21))) ((0 : Int), ()) h := by
  obtain ⟨L, hb, hx⟩ := x.mem
  obtain ⟨qA, qC, q1, q2, q3⟩ := hx.ask
  have r34 := rd1 (o := 0 + 34) hb q1
  have hlen := wList_le s.A
  refine LoopP.ind (fun (z : Int × Unit) h' => ∃ i : Nat, z.1 = i ∧ i ≤ (wList s.A).length ∧ h' = h) (fun z _ => ((wList s.A).length - z.1).toNat) ?_ ⟨0, rfl, Nat.zero_le _, rfl⟩
  rintro ⟨zi, u⟩ h1 ⟨i, hzi, hi, rfl⟩
  dsimp only at hzi
  subst hzi
  dsimp only
  refine ⟨fun e => ?_, fun _ => hk⟩
  have e : i < (wList s.A).length := by have := of_decide_eq_true e; rw [List.length_map] at this; omega
  have hit : ((i : Nat) : Int).toNat = i := by omega
  have hwi : IntKind.wrap .i64 (((i : Nat) : Int) + (1 : Int)) = ((i + 1 : Nat) : Int) := by rw [wrap64] <;> omega
  have em : i < ((wList s.A).map askP).length := by rw [List.length_map]; exact e
  obtain ⟨b, o, hA, hr⟩ := ha.get em
  obtain ⟨hk', hnk⟩ := ndL_at (A := s.A) (k := i) (by rw [ndL_len]; exact e)
  obtain ⟨b2, o2, hA2, hr2⟩ := (q2.sub sp.sub).get (i := i) (by rw [ndL_len]; exact e)
  have hai : ((wList s.A).map askP)[i] = askP (wList s.A)[i] := by simp
  have a0 := hr _ 0 1 rfl (by decide)
  have a1 := hr _ 1 1 rfl (by decide)
  have a2 := hr _ 0 2 rfl (by decide)
  have b0 := hr2 _ 0 1 rfl (by decide)
  have b1 := hr2 _ 1 1 rfl (by decide)
  rw [hai] at a0 a1 a2
  rw [hnk] at b0 b1
  have hndl : ((ndL s.A).length : Int) = ((wList s.A).length : Nat) := by rw [ndL_len]
  rw [hit, hwi]
  refine ⟨b, o, ⟨hA, by omega, by omega⟩, (askP (wList s.A)[i]).1, a0, x0, 0, rfl, _, _, _, r34, b2, o2, ⟨hA2, by omega, by omega⟩, (askP (wList s.A)[i]).1, b0, b, o, fun _ => ⟨hA, by omega, by omega⟩, (askP (wList s.A)[i]).2, fun _ => a1, x0, 0, fun _ => rfl, _, _, _, fun _ => r34, b2, o2, fun _ => ⟨hA2, by omega, by omega⟩, (askP (wList s.A)[i]).2, fun _ => b1, fun _ => ?_, fun e2 => ?_⟩
  · have next : (∃ i_1 : Nat, ((i + 1 : Nat) : Int) = i_1 ∧ i_1 ≤ (wList s.A).length ∧ h1 = h1) ∧ (((wList s.A).length : Int) - ((i + 1 : Nat) : Int)).toNat < (((wList s.A).length : Int) - ((i : Nat) : Int)).toNat := ⟨⟨i + 1, rfl, by omega, rfl⟩, by omega⟩
    by_cases hin : i < (((wList s.A).map askP).take n.toNat).length
    · obtain ⟨b3, o3, hA3, hr3⟩ := hw.get hin
      have c2 := hr3 _ 0 2 rfl (by decide)
      rw [List.getElem_take, hai] at c2
      refine ⟨b3, o3, fun _ => ⟨hA3, by omega, by omega⟩, _, _, fun _ => c2, b, o, fun _ => ⟨hA, by omega, by omega⟩, _, _, fun _ => a2, fun e3 => ?_, fun _ => next⟩
      simp at e3
    · have hd : decide (((i : Nat) : Int) < (((((wList s.A).map askP).take n.toNat).length : Nat) : Int)) = false := by
        rw [decide_eq_false_iff_not]; omega
      rw [hd]
      exact ⟨0, 0, fun e => (by cases e), 0, 0, fun e => (by cases e), 0, 0, fun e => (by cases e), 0, 0, fun e => (by cases e), fun e => (by cases e), fun _ => next⟩
  · simp at e2
theorem WalkPlays_den {bA tA lA : Option Addr} {bC tC lC : Nat} {base to : List PrR} {l : List Ac6} {n : Int} (hb : SR EncPr h bA base) (ht : SR EncPr h tA to) (hl : SR EncAc6 h lA l) (hs : ∀ r ∈ l, SR EncPr h r.a r.ps) (hk : ∀ h', h.Sub h' → K (.bool true) h') :
    CallH Tryz.prog id_law16_WalkPlays [.slice bA base.length bC, .slice tA to.length tC, .slice lA l.length lC, .int .i64 n] K h := by
  refine F_law16_WalkPlays_ok ⟨fun _ h' => h' = h ∧ gAc6 l = false ∧ gPrs base = false ∧ gPrs to = false, cGreat16 hl hs ⟨_, rfl, fun g1 => cGreatPairs hb ⟨_, rfl, fun g2 => cGreatPairs ht ⟨_, rfl, fun _ => wk16 (PH.Sub.rf _) hk, fun g3 => ⟨rfl, g1, g2, g3⟩⟩, fun _ => wk16 (PH.Sub.rf _) hk⟩, fun _ => wk16 (PH.Sub.rf _) hk⟩, ?_⟩
  rintro _ h1 ⟨rfl, g1, g2, g3⟩
  obtain ⟨b1, b2⟩ := gPrs_no g2
  obtain ⟨t1, t2⟩ := gPrs_no g3
  obtain ⟨l1, l2⟩ : l.length ≤ 100 ∧ ∀ r ∈ l, gPrs r.ps = false := by
    simpa only [gAc6, Bool.or_eq_false_iff, List.any_eq_false, decide_eq_false_iff_not, Nat.not_lt, Bool.not_eq_true] using g1
  have hbp : ∀ x ∈ base, x.p.length ≤ 1000000 := fun x hx => by have := (b2 x hx).1; omega
  have htp : ∀ x ∈ to, x.p.length ≤ 1000000 := fun x hx => by have := (t2 x hx).1; omega
  -- the tree, or an empty one
  refine (cOf3 (K := fun v h2 => ∃ p e, v = .tuple #[.pointer p, .int .i64 e] ∧ h1.Sub h2 ∧ (e ≠ (0 : Int) ∨ ∃ tb, p = some ⟨tb, 0, none⟩ ∧ Tr tb h2 to)) ht (by omega) htp (fun hok tb h2 tr2 _ c2 => ⟨_, _, rfl, c2.sub0, .inr ⟨tb, rfl, tr2⟩⟩) fun hno e he _ => ⟨_, e, rfl, PH.Sub.rf _, .inl (by rcases he with rfl | rfl <;> decide)⟩).mono ?_
  rintro _ h2 ⟨p, e, rfl, s2, hq⟩
  refine ⟨p, e, rfl, fun st h' => ∃ tb T, st.1 = some ⟨tb, 0, none⟩ ∧ Tr tb h' T ∧ h1.Sub h', ⟨fun _ => cNew fun b h' _ tr' c' => ⟨_, rfl, b, [], rfl, tr', s2.tr c'.sub0⟩, fun e1 => ?_⟩, ?_⟩
  · rcases hq with hq | ⟨tb, rfl, tr2⟩
    · exact absurd (by simpa using e1) hq
    · exact ⟨tb, to, rfl, tr2, s2⟩
  clear hq s2 e p h2
  rintro ⟨stv, u⟩ h3 ⟨tb, T, hst, tr3, s3⟩
  dsimp only at hst
  subst hst
  dsimp only
  have hb3 := hb.sub s3
  refine cRoot tr3 ⟨bi (nd T 1), by rw [bi_len, nd_len], rfl, ?_⟩
  by_cases hok : ¬ (mayB base = true ∧ base.length ≤ 48)
  · refine F_walk_New_ok (by rw [bi_len, nd_len]) (cOf3 hb3 (by omega) hbp (fun hh => absurd hh hok) fun _ e he hiff => ⟨_, _, rfl, fun _ => ⟨_, _, rfl, ?_⟩, fun e2 => by rcases he with rfl | rfl <;> simp at e2⟩)
    have he0 : (e == (0 : Int)) = false := by rcases he with rfl | rfl <;> decide
    refine cRoot tr3 ⟨bi (nd T 1), by rw [bi_len, nd_len], rfl, cXNew (Spl.start h3) hb3 (by omega) hbp (nd_len _ _) (fun _ => ⟨_, _, rfl, fun e2 => ?_, fun _ => ⟨fun _ => cRMay hb3 (by omega) hbp ⟨_, rfl, fun _ => wk16 s3 hk, fun e3 => ?_⟩, fun e => by cases e⟩⟩) fun m h48 => absurd ⟨m, h48⟩ hok⟩
    · rw [he0] at e2; simp at e2
    · exfalso
      cases hm : mayB base with
      | true =>
        have : ¬ e = 1 := fun e1 => by rw [hiff.1 e1] at hm; cases hm
        rw [hm] at e3
        simp [this] at e3
      | false =>
        rw [hiff.2 hm, hm] at e3
        simp at e3
  have hok : mayB base = true ∧ base.length ≤ 48 := Classical.not_not.1 hok
  refine cWNew (Spl.start h3) hb3 (by omega) hbp (nd_len _ _) (fun hn => absurd hok hn) fun m1 m2 wb N4 g4 h4 x4 st4 _ => ⟨_, _, rfl, ?_⟩
  rw [List.append_nil] at st4
  refine cRoot (tr3.sub st4.gh) ⟨bi (nd T 1), by rw [bi_len, nd_len], rfl, cXNew (st4.spl.less (M := []) fun _ hm => by cases hm) (hb3.sub st4.gs) (by omega) hbp (nd_len _ _) (fun hn => absurd hok hn) fun _ _ xb g5 h5 x5 st5 => ⟨_, _, rfl, fun e => by simp at e, fun _ => ⟨fun e => (by cases e), fun _ => ?_⟩⟩⟩
  obtain ⟨sf5, d5⟩ := st5.frame (N := []) (M := N4) st4.spl (Dj.nil N4)
  have I5 : TwoX h3 T wb xb tb g5 N4 h5 (wNew base (nd T 1)) 0 := by
    refine ⟨WOk.new m1 m2 (nd_len _ _), ?_, x4.stp st5 (Dj.nil N4), x5, d5.symm, st4.trans sf5, tr3.sub (st4.gs.tr st5.gs)⟩
    rw [Nat.add_zero]; exact Nat.le_of_eq (texts_len base)
  generalize wNew base (nd T 1) = w0 at I5
  refine LoopP.ind (fun (z : Int × Unit) h' => ∃ (i : Nat) (s : WS) (g' : PH) (N' : List Nat), z.1 = i ∧ i ≤ l.length ∧ TwoX h3 T wb xb tb g' N' h' s i) (fun z _ => (l.length - z.1).toNat) ?_ ⟨0, w0, g5, N4, rfl, Nat.zero_le _, I5⟩
  rintro ⟨zi, u⟩ h6 ⟨i, s, g6, N6, hzi, hi, I⟩
  dsimp only at hzi
  subst hzi
  dsimp only
  refine ⟨fun e => ?_, fun e => ?_⟩
  · have e : i < l.length := by have := of_decide_eq_true e; omega
    have hit : ((i : Nat) : Int).toNat = i := by omega
    have hwi : IntKind.wrap .i64 (((i : Nat) : Int) + (1 : Int)) = ((i + 1 : Nat) : Int) := by rw [wrap64] <;> omega
    obtain ⟨b4, o4, hA4, hr4⟩ := (hl.sub (s3.tr I.st.gh)).get e
    have hps := (hs _ (List.getElem_mem e)).sub (s3.tr I.st.gs)
    obtain ⟨p1, p2⟩ := gPrs_no (l2 _ (List.getElem_mem e))
    have pp : ∀ x ∈ l[i].ps, x.p.length ≤ 1000000 := fun x hx => by have := (p2 x hx).1; omega
    rw [hit, hwi]
    refine ⟨b4, o4, ⟨hA4, by omega, by omega⟩, l[i].d, l[i].x1, l[i].x2, l[i].x3, l[i].a, l[i].ps.length, l[i].c, hr4 _ 0 5 rfl (by decide), ?_⟩
    refine cOne16 I (by omega) hps (by omega) pp fun g7 N7 h7 s7 I7 => ⟨_, rfl, fun e => (by cases e), fun _ => ?_⟩
    refine cWWantG I7.w I7.st.spl I7.v.a0 fun wA wC g8 h8 s8 st8 hw8 => ⟨_, _, _, rfl, ?_⟩
    have w8 := I7.w.keep st8.gs fun q _ o e => s8 q o e
    refine cWWantG w8 st8.spl I7.v.a0 fun aA aC g9 h9 s9 st9 ha9 => ⟨_, _, _, rfl, ?_⟩
    rw [ask40 (by decide)] at ha9 ⊢
    have st79 := st8.trans st9
    have x9 : RefAt g9 h9 xb s7 := I7.x.keep st79.gs fun o e => s9 _ _ (s8 _ _ e)
    have I9 : TwoX h3 T wb xb tb g9 N7 h9 s7 (i + 1) := ⟨I7.v, I7.t, w8.keep st9.gs fun q _ o e => s9 q o e, x9, I7.dj, I7.st.trans st79, I7.tr.sub st79.gs⟩
    obtain ⟨L, hbL, hxL⟩ := x9.mem
    obtain ⟨qA, qC, q1, q2, q3⟩ := hxL.ask
    have hlen := wList_le s7.A
    refine ⟨xb, 0, rfl, _, _, _, rd1 (o := 0 + 34) hbL q1, fun _ => ⟨fun _ => ⟨fun e2 => ?_, fun _ => ?_⟩, fun e2 => ?_⟩, fun e2 => ?_⟩
    · exfalso
      simp only [Bool.and_eq_true, decide_eq_true_eq, bne_iff_ne, List.length_take, List.length_map] at e2
      obtain ⟨e3, e4⟩ := e2
      refine e4 ?_
      unfold minV
      split <;> omega
    · exact askTwo ((hw8.sub st9.gs).sub st9.spl.sub) (ha9.sub st9.spl.sub) x9 I9.st.spl.left ⟨⟨i + 1, s7, g9, N7, rfl, by omega, I9⟩, by omega⟩
    · exfalso
      simp only [Bool.and_eq_true, decide_eq_true_eq, bne_iff_ne, List.length_take, List.length_map] at e2
      omega
    · exfalso
      rw [ndL_len, List.length_map] at e2
      simp at e2
  · have sp := I.st.spl
    have s16 : h1.Sub h6 := s3.tr I.st.gh
    have hT := I.t
    have hil : i ≤ 100 := by omega
    -- both done, with the same
    have fin : ∀ {h8 : PH} {mA nA : Option Addr} {mC nC : Nat} {m : List PrR}, h6.Sub h8 → SR EncPr h8 mA m → SR EncPr h8 nA m → m.length ≤ 1000 →
        CallH Tryz.prog id_ref13_Same [.slice mA m.length mC, .slice nA m.length nC] (fun v_19 h24 =>
                                        ∃ t_16 : Bool, v_19 = .bool t_16 ∧
                                        ∃ bv_10 ov_10 : Nat, (t_16 = true → (some ⟨xb, 0, none⟩ : Option Addr) = some ⟨bv_10, ov_10, none⟩) ∧
                                        ∃ t_17 : List Int, t_17.length = 32 ∧ ((t_16 = true → h24.rds bv_10 (ov_10 + 2) 32 = some (t_17.map (Value.int .u8) ++ []))) ∧
                                        ((t_16 = true →
                                            CallH Tryz.prog id_walk_Walk_Root [.pointer (some ⟨wb, 0, none⟩)] (fun v_20 h25 =>
                                              ∃ t_18 : List Int, t_18.length = 32 ∧ v_20 = .agg ((t_18.map (Value.int .u8) ++ [])).toArray ∧
                                              ((t_16 = true → h25.rds bv_10 (ov_10 + 2) 32 = some (t_17.map (Value.int .u8) ++ []))) ∧
                                              ∃ bv_11 ov_11 : Nat, ((t_18 == t_17) = true → (some ⟨xb, 0, none⟩ : Option Addr) = some ⟨bv_11, ov_11, none⟩) ∧
                                              ∃ (tA_3 : Option Addr) (tN_3 tC_3 : Nat), (((t_18 == t_17) = true → h25.rds bv_11 (ov_11 + 67) 1 = some [.slice tA_3 tN_3 tC_3])) ∧
                                              (((t_18 == t_17) = true →
                                                  CallH Tryz.prog id_walk_Walk_Texts [.pointer (some ⟨wb, 0, none⟩)] (fun v_21 h26 =>
                                                    ∃ (tA_4 : Option Addr) (tN_4 tC_4 : Nat), v_21 = .slice tA_4 tN_4 tC_4 ∧
                                                    (((t_18 == t_17) = true → h26.rds bv_11 (ov_11 + 67) 1 = some [.slice tA_3 tN_3 tC_3])) ∧
                                                    CallH Tryz.prog id_law13_SameTexts [.slice tA_4 tN_4 tC_4, .slice tA_3 tN_3 tC_3] (fun v_22 h27 =>
                                                      ∃ t_19 : Bool, v_22 = .bool t_19 ∧
                                                      ((t_19 = true →
                                                          CallH Tryz.prog id_law16_wakes [] (fun v_23 h28 =>
                                                            ∃ t_20 : Bool, v_23 = .bool t_20 ∧
                                                            K (.bool t_20) h28) h27) ∧
                                                        (t_19 = false →
                                                          K (.bool false) h27))) h26) h25) ∧
                                                ((t_18 == t_17) = false →
                                                  (((t_18 == t_17) = true → h25.rds bv_11 (ov_11 + 67) 1 = some [.slice tA_3 tN_3 tC_3])) ∧
                                                  K (.bool false) h25))) h24) ∧
                                          (t_16 = false →
                                            ((t_16 = true → h24.rds bv_10 (ov_10 + 2) 32 = some (t_17.map (Value.int .u8) ++ []))) ∧
                                            K (.bool false) h24))) h8 := fun {h8 mA nA mC nC m} s8 hm hn2 hml => by
      have I8 := I.grow s8
      obtain ⟨L, hbL, hxL⟩ := I8.x.mem
      obtain ⟨tA, tC, u1, u2⟩ := hxL.text
      have hroot : h8.rds xb (0 + 2) 32 = some ((bi s.R).map (Value.int .u8) ++ []) := by
        rw [rds_of hbL (by rw [hxL.len]; decide), List.append_nil]
        congr 1
        exact hxL.root
      have htext := rd1 (o := 0 + 67) hbL u1
      have hR := I8.x.R
      refine cRSame hm hn2 (by omega) ⟨_, rfl, xb, 0, fun _ => rfl, bi s.R, by rw [bi_len, hR], fun _ => hroot, fun _ => ?_, fun e => by simp at e⟩
      refine cWRoot I8.w ⟨bi s.R, by rw [bi_len, hR], rfl, fun _ => hroot, xb, 0, fun _ => rfl, _, _, _, fun _ => htext, fun _ => ?_, fun e => by simp at e⟩
      refine cWTexts I8.w (by omega) fun a9 c9 B9 h9 hb9 cc9 => ⟨_, _, _, rfl, fun _ => rd1 (o := 0 + 67) (cc9.sub0 _ _ hbL) u1, ?_⟩
      refine cSameTexts hb9.sr ((u2.sub I8.st.spl.sub).sub cc9.sub0) (by omega) ⟨_, rfl, fun _ => wk16 (s16.tr (s8.tr cc9.sub0)) hk, fun e => by simp at e⟩
    refine cWDone I.w sp.right (fun i l hq => (I.v.q i l hq).2.2) (fun hh h7 s7 => ⟨_, _, _, _, rfl, ?_⟩) fun hd h48 m a7 c7 B7 h7 hp7 hs7 hb7 cc7 => ⟨_, _, _, _, rfl, ?_⟩
    · have I7 := I.grow s7
      refine cXDone I7.x I7.st.spl.left I.v (fun _ h8 s8 => ⟨_, _, _, _, rfl, fun _ => fin (m := []) (s7.tr s8) (.inl rfl) (.inl rfl) (by simp), fun e => by cases e⟩) fun hd h48 => ?_
      exfalso
      rcases hh with ⟨k, k1, k2, hk⟩ | ⟨_, hh⟩
      · rw [hd k k1 k2] at hk; cases hk
      · omega
    · have I7 := I.grow cc7.sub0
      refine cXDone I7.x I7.st.spl.left I.v (fun hh => ?_) fun _ _ m2 a8 c8 B8 h8 hp8 hs8 hb8 cc8 => ⟨_, _, _, _, rfl, fun _ => ?_, fun e => by cases e⟩
      · exfalso
        rcases hh with ⟨k, k1, k2, hk⟩ | ⟨_, hh⟩
        · rw [hd k k1 k2] at hk; cases hk
        · omega
      · obtain ⟨hmay, _⟩ := parts_up I.v.part hp7 hs7
        have he : m2 = m := up_unique (may_ok hmay).2 (hp8.trans hp7.symm) hs8
        subst he
        exact fin (cc7.sub0.tr cc8.sub0) (hb7.sr.sub cc8.sub0) hb8.sr (by rw [hp7.length_eq]; omega)
end TL
