/-
  Stages: their states; in memory; new ones, forgetting, roots. No condition.
-/
import Derived.Test.YtmcgndbfoebcnaaGreatPartE
namespace TL
open Go Go.Proofs
variable {g h : PH} {N : List Nat} {K : Value → PH → Prop} {zb : Nat}
/-- a stage: the walk, the copy's place; how many; texts of walks ahead -/
structure StS where
  g : Option (WS × Int × Int)
  b : Nat
  T : List (List UInt8)
def allT (s : StS) : List (List UInt8) := match s.g with
  | none => s.T
  | some (w, _, _) => s.T ++ w.T
def forgetS (s : StS) : StS := ⟨none, s.b, allT s⟩
open Classical in
/-- what a root does -/
noncomputable def rootS (s : StS) (m0 m2 m3 : Int) (R : List UInt8) (base : List PrR) (at_ : Int) : Bool × StS :=
  if m0 ≠ 4 ∨ m2 ≤ at_ ∨ m3 < 1 then (false, s)
  else if ∃ w, s.g = some (w, m2, m3) ∧ w.R = R then (false, s)
  else if okP base then (true, ⟨some (wNew base R, m2, m3), s.b + 1, allT s⟩)
  else (false, s)
/-- what an answer does -/
noncomputable def answS (s : StS) (m0 m2 lv i : Int) (a b : List UInt8) (l : List PrR) : Bool × StS := match s.g with
  | none => (false, s)
  | some (w, at_, e) => if m2 ≠ at_ then (false, s)
    else if m0 = 6 then ((nodeW w lv i a b).1, { s with g := some ((nodeW w lv i a b).2, at_, e) })
    else if m0 = 7 then ((pageW w i l).1, { s with g := some ((pageW w i l).2, at_, e) })
    else (false, s)
def goalAt (g : PH) (Nw : List Nat) (h : PH) (gp : Option Addr) : Option (WS × Int × Int) → Prop
  | none => gp = none ∧ Nw = []
  | some (w, a, e) => ∃ gb wb, gp = some ⟨gb, 0, none⟩ ∧ g gb = some (.cells ([.pointer (some ⟨wb, 0, none⟩), .int .i64 a, .int .i64 e] : List Value).toArray T_stage_goal (0, 0)) ∧ WalkAt g Nw h wb w
structure StageAt (g : PH) (N : List Nat) (h : PH) (zb : Nat) (s : StS) : Prop where
  mem : ∃ gp tA tN tC Bt Nw, N = zb :: (Bt ++ Nw) ∧ zb ∉ Bt ++ Nw ∧ Dj Bt Nw ∧ h zb = some (.cells ([.pointer gp, .int .i64 (s.b : Nat), .slice tA tN tC] : List Value).toArray T_stage_Stage (0, 0)) ∧ Buf EncS 9 Bt h tA tN tC s.T ∧ goalAt g Nw h gp s.g
variable {s : StS}
theorem goalAt.keep {g' h' : PH} {Nw : List Nat} {gp : Option Addr} {q : Option (WS × Int × Int)} (x : goalAt g Nw h gp q) (hs : g.Sub g') (hk : ∀ b ∈ Nw, ∀ o, h b = some o → h' b = some o) : goalAt g' Nw h' gp q := by
  unfold goalAt at x ⊢
  split at x
  · exact x
  · obtain ⟨gb, wb, h1, h2, h3⟩ := x
    exact ⟨gb, wb, h1, hs _ _ h2, h3.keep hs hk⟩
theorem StageAt.keep {g' h' : PH} (x : StageAt g N h zb s) (hs : g.Sub g') (hk : ∀ b ∈ N, ∀ o, h b = some o → h' b = some o) : StageAt g' N h' zb s := by
  obtain ⟨gp, tA, tN, tC, Bt, Nw, rfl, nz, dj, hb, hbuf, hg⟩ := x
  exact ⟨gp, tA, tN, tC, Bt, Nw, rfl, nz, dj, hk _ (by simp) _ hb, hbuf.keep fun b hb' => hk b (List.mem_cons_of_mem _ (List.mem_append_left _ hb')), hg.keep hs fun b hb' => hk b (List.mem_cons_of_mem _ (List.mem_append_right _ hb'))⟩
theorem StageAt.stp {M M' : List Nat} {g' h' : PH} (x : StageAt g N h zb s) (t : Stp g M h g' M' h') (d : Dj N M) : StageAt g' N h' zb s :=
  x.keep t.gs fun b hb _ e => t.chg.keep e (d b hb)
theorem cSNew (sp : Spl g N h) (hk : ∀ zb N' h', StageAt g N' h' zb ⟨none, 0, []⟩ → Stp g N h g (N' ++ N) h' → Dj N' N → h.Sub h' → K (.pointer (some ⟨zb, 0, none⟩)) h') : CallH Tryz.prog id_stage_New [] K h :=
  F_stage_New_ok (nwL fun b h1 _ hb1 c1 => hk b [b] h1 ⟨none, none, 0, 0, [], [], rfl, by simp, Dj.nil _, hb1, Buf.nil _ _ _ _, rfl, rfl⟩ (sp.own c1 (has1 hb1)) (Dj.new sp.has c1) c1.sub0)
theorem cSNone (x : StageAt g N h zb s) (hk : K (.bool s.g.isNone) h) : CallH Tryz.prog id_stage_Stage_none [.pointer (some ⟨zb, 0, none⟩)] K h := by
  obtain ⟨gp, tA, tN, tC, Bt, Nw, rfl, nz, dj, hb, hbuf, hg⟩ := x
  refine F_stage_Stage_none_ok ⟨zb, 0, fun _ => rfl, gp, fun _ => rdsL hb rfl rfl, ?_⟩
  have : (Option.isNone (some (⟨zb, 0, none⟩ : Addr)) || Option.isNone gp) = s.g.isNone := by
    cases hq : s.g with
    | none => rw [hq] at hg; rw [hg.1]; rfl
    | some q =>
      obtain ⟨w, a, e⟩ := q
      rw [hq] at hg
      obtain ⟨gb, wb, rfl, _, _⟩ := hg
      rfl
  rw [this]; exact hk
theorem zcells (p : Option Addr) (b : Nat) (a : Option Addr) (n c : Nat) {o : Nat} {T : TypeId} (hb : h o = some (.cells ([.pointer p, .int .i64 (b : Nat), .slice a n c] : List Value).toArray T (0, 0))) :
    h.rds o 0 1 = some [.pointer p] ∧ h.rds o (0 + 1) 1 = some [.int .i64 (b : Nat)] ∧ h.rds o (0 + 2) 1 = some [.slice a n c] := ⟨rdsL hb rfl rfl, rdsL hb rfl rfl, rdsL hb rfl rfl⟩
theorem gcells {p : Option Addr} {a e : Int} {o : Nat} {T : TypeId} (hb : h o = some (.cells ([.pointer p, .int .i64 a, .int .i64 e] : List Value).toArray T (0, 0))) :
    h.rds o 0 1 = some [.pointer p] ∧ h.rds o (0 + 1) 1 = some [.int .i64 a] ∧ h.rds o (0 + 2) 1 = some [.int .i64 e] := ⟨rdsL hb rfl rfl, rdsL hb rfl rfl, rdsL hb rfl rfl⟩
theorem cSForget (x : StageAt g N h zb s) (sp : Spl g N h) (hT : (allT s).length ≤ 1000000) (hk : ∀ N' h', StageAt g N' h' zb (forgetS s) → Stp g N h g N' h' → K (.tuple #[]) h') : CallH Tryz.prog id_stage_Stage_Forget [.pointer (some ⟨zb, 0, none⟩)] K h := by
  refine F_stage_Stage_Forget_ok (cSNone x ⟨_, rfl, fun e => ?_, fun e => ?_⟩)
  · obtain ⟨gp, tA, tN, tC, Bt, Nw, rfl, nz, dj, hb, hbuf, hg⟩ := x
    cases hq : s.g with
    | none => rw [hq] at e; cases e
    | some q =>
    obtain ⟨w, a, e'⟩ := q
    rw [hq] at hg
    obtain ⟨gb, wb, rfl, hgb, hw⟩ := hg
    have haT : allT s = s.T ++ w.T := by unfold allT; rw [hq]
    have hTl : s.T.length + w.T.length ≤ 1000000 := by rw [haT, List.length_append] at hT; exact hT
    obtain ⟨z0, z1, z2⟩ := zcells _ _ _ _ _ hb
    obtain ⟨y0, y1, y2⟩ := gcells (sp.sub _ _ hgb)
    refine ⟨zb, 0, rfl, _, _, _, z2, zb, 0, rfl, _, z0, gb, 0, rfl, _, y0, cWTexts hw (by omega) fun a1 c1 B1 h1 hb1 cc1 => ⟨_, _, _, rfl, (zcells _ _ _ _ _ (cc1.sub0 _ _ hb)).2.2, EncS.row w.T, hb1.sr.src, ?_⟩⟩
    have htn := hbuf.1
    refine (hbuf.sub cc1.sub0).append (new := w.T) rfl rfl rfl (by omega) fun a2 c2 B2 h2 hb2 cc2 _ => ⟨zb, 0, rfl, ?_⟩
    have nzB : zb ∉ Bt := fun hm => nz (List.mem_append_left _ hm)
    have hbz2 := cc2.keep (cc1.sub0 _ _ hb) nzB
    refine stL hbz2 rfl rfl fun h3 hbz3 c3 => ⟨zb, 0, rfl, stL hbz3 rfl rfl fun h4 hbz4 c4 => ?_⟩
    have nz2 : zb ∉ B2 := fun hm => by
      rcases cc2.2 _ hm with h5 | h5
      · exact nzB h5
      · rw [cc1.sub0 _ _ hb] at h5; cases h5
    have hb4 : Buf EncS 9 B2 h4 a2 (tN + w.T.length) c2 (s.T ++ w.T) := (hb2.chg c3 (notIn1 nz2)).chg c4 (notIn1 nz2)
    refine hk (zb :: (B2 ++ [])) h4 ⟨none, a2, _, c2, B2, [], rfl, by simpa using nz2, Dj.nil _, hbz4, ?_, rfl, rfl⟩ ?_
    · show Buf EncS 9 B2 h4 a2 _ c2 (allT s)
      rw [haT]; exact hb4
    · have C1 : Chg (zb :: (Bt ++ Nw)) (zb :: (Bt ++ Nw)) h h1 := ⟨fun b o _ e => cc1.sub0 b o e, fun b hb => .inl hb⟩
      have C2 : Chg (zb :: (Bt ++ Nw)) (zb :: (B2 ++ [])) h1 h2 := by
        rw [List.append_nil]
        exact cc2.sub (fun b hb => by simp [hb]) fun b hb => by
          rcases List.mem_cons.1 hb with rfl | hb
          · exact .inr List.mem_cons_self
          · exact .inl hb
      have C3 : Chg (zb :: (B2 ++ [])) (zb :: (B2 ++ [])) h2 h4 := (c3.trans c4).head
      refine sp.chg ((C1.trans C2).trans C3) fun b hb => ?_
      rw [List.append_nil] at hb
      rcases List.mem_cons.1 hb with rfl | hb
      · exact ⟨_, hbz4⟩
      · exact hb4.has b hb
  · have hq : s.g = none := by
      cases hq : s.g with
      | none => rfl
      | some q => rw [hq] at e; cases e
    refine hk N h ?_ (Stp.refl sp)
    have : forgetS s = s := by
      unfold forgetS allT
      rw [hq]
      cases s
      dsimp only at hq
      subst hq; rfl
    rw [this]; exact x
end TL

namespace TL
open Go Go.Proofs
variable {g h : PH} {N : List Nat} {K : Value → PH → Prop} {zb : Nat} {s : StS}
theorem rep_zS (n : Nat) : (List.replicate n ([.string (⟨#[]⟩ : ByteArray)] : List Value)).flatten = EncS.row (List.replicate n []) := by
  induction n with
  | zero => rfl
  | succ n ih => rw [List.replicate_succ, List.flatten_cons, ih, List.replicate_succ]; rfl
theorem cGrowS {n : Nat} (hn : n ≤ 1000000) (hk : ∀ a' c' B' h', Buf EncS 9 B' h' a' 0 c' [] → Chg [] B' h h' → K (.slice a' 0 c') h') :
    CallH Tryz.prog id_slices_Grow_string_string [.slice none 0 0, .int .i64 (n : Int)] K h := by
  have w1 : IntKind.wrap .i64 ((n : Int) - (IntKind.wrap .i64 (((0 : Nat) : Int) - ((0 : Nat) : Int)))) = (n : Int) := by
    rw [wrap64 (n := ((0 : Nat) : Int) - ((0 : Nat) : Int)) (by omega) (by omega), wrap64 (by omega) (by omega)]; omega
  refine F_slices_Grow_string_string_ok ⟨fun _ h' => h' = h, ⟨fun e => by simp at e; omega, fun _ => rfl⟩, ?_⟩
  rintro _ h1 rfl
  rw [w1]
  refine ⟨fun e => ⟨by decide, ⟨by omega, by omega⟩, ?_⟩, fun _ => hk none 0 [] h1 (Buf.nil _ _ _ _) (Chg.refl _ _)⟩
  have hb0 : Buf EncS 9 [] h1 (slA none 1 (0 : Int) ((0 : Nat) : Int)) 0 0 [] := Buf.nil _ _ _ _
  rw [show ((n : Nat) : Int).toNat = n by omega, rep_zS]
  refine hb0.append (new := List.replicate n []) (by simp) rfl rfl (by simp; omega) fun a' c' B' h' hb' hc' _ => ?_
  have e : 0 < n := by simp at e; omega
  have hle := hb'.le
  obtain ⟨b', ha', hB'⟩ := hb'.spot (by omega)
  refine ⟨⟨by omega, by omega, by omega, by omega⟩, ?_⟩
  rw [slA0 a' (fun x ex => by rw [ha'] at ex; cases ex; rfl)]
  have ht := hb'.take (i := 0) (by omega)
  rw [List.take_zero] at ht
  exact hk a' c' B' h' ht hc'
def two2 (l1 l2 : List (List UInt8)) (i : Nat) : List (List UInt8) := if i = 0 then [] else if i = 1 then l1 else l1 ++ l2
theorem cConcat2 {b : Nat} {a1 a2 : Option Addr} {c1 c2 : Nat} {l1 l2 : List (List UInt8)} {T : TypeId} (hb : h b = some (.cells ([.slice a1 l1.length c1, .slice a2 l2.length c2] : List Value).toArray T (0, 0))) (h1 : SR EncS h a1 l1) (h2 : SR EncS h a2 l2) (hn : (l1 ++ l2).length ≤ 1000000)
    (hk : ∀ a' c' B' h', Buf EncS 9 B' h' a' (l1 ++ l2).length c' (l1 ++ l2) → Chg [] B' h h' → K (.slice a' (l1 ++ l2).length c') h') :
    CallH Tryz.prog id_slices_Concat_string_string [.slice (some ⟨b, 0, none⟩) 2 2] K h := by
  have hn' : l1.length + l2.length ≤ 1000000 := by rw [List.length_append] at hn; exact hn
  have rd : ∀ {h' : PH}, h.Sub h' → h'.rds b (0 + 0 * 1) 1 = some [.slice a1 l1.length c1] ∧ h'.rds b (0 + 1 * 1) 1 = some [.slice a2 l2.length c2] := fun hs => ⟨rdsL (hs _ _ hb) rfl rfl, rdsL (hs _ _ hb) rfl rfl⟩
  refine F_slices_Concat_string_string_ok (LoopP.ind (fun (z : Int × Int × Unit) h' => ∃ i : Nat, z.1 = (((two2 l1 l2 i).length : Nat) : Int) ∧ z.2.1 = i ∧ i ≤ 2 ∧ h' = h) (fun z _ => (2 - z.2.1).toNat) ?_ ⟨0, rfl, rfl, by omega, rfl⟩)
  rintro ⟨zs, zi, u⟩ h3 ⟨i, hzs, hzi, hi, rfl⟩
  dsimp only at hzs hzi
  subst hzs hzi
  dsimp only
  refine ⟨fun e => ?_, fun e => ?_⟩
  · have e : i < 2 := by have := of_decide_eq_true e; omega
    have hit : ((i : Nat) : Int).toNat = i := by omega
    rw [hit]
    have wi : IntKind.wrap .i64 (((i : Nat) : Int) + (1 : Int)) = ((i + 1 : Nat) : Int) := by rw [wrap64] <;> omega
    rw [wi]
    rcases (show i = 0 ∨ i = 1 by omega) with rfl | rfl
    · have w1 : IntKind.wrap .i64 ((((two2 l1 l2 0).length : Nat) : Int) + ((l1.length : Nat) : Int)) = (((two2 l1 l2 1).length : Nat) : Int) := by
        show IntKind.wrap .i64 (((0 : Nat) : Int) + ((l1.length : Nat) : Int)) = ((l1.length : Nat) : Int)
        rw [wrap64] <;> omega
      refine ⟨b, 0, ⟨rfl, by omega, by omega⟩, a1, l1.length, c1, (rd (PH.Sub.rf _)).1, ?_⟩
      rw [w1]
      exact ⟨fun e => by have := of_decide_eq_true e; omega, fun _ => ⟨⟨1, rfl, rfl, by omega, rfl⟩, by omega⟩⟩
    · have w1 : IntKind.wrap .i64 ((((two2 l1 l2 1).length : Nat) : Int) + ((l2.length : Nat) : Int)) = (((two2 l1 l2 2).length : Nat) : Int) := by
        show IntKind.wrap .i64 (((l1.length : Nat) : Int) + ((l2.length : Nat) : Int)) = (((l1 ++ l2).length : Nat) : Int)
        rw [List.length_append, wrap64] <;> omega
      refine ⟨b, 0, ⟨rfl, by omega, by omega⟩, a2, l2.length, c2, (rd (PH.Sub.rf _)).2, ?_⟩
      rw [w1]
      exact ⟨fun e => by have := of_decide_eq_true e; omega, fun _ => ⟨⟨2, rfl, rfl, by omega, rfl⟩, by omega⟩⟩
  · have e : i = 2 := by have := of_decide_eq_false e; omega
    subst e
    have hl2 : (two2 l1 l2 2).length ≤ 1000000 := hn
    refine cGrowS hl2 fun a3 c3 B3 h4 hb4 hc4 => ⟨_, _, _, rfl, LoopP.ind (fun (z : (Option Addr × Nat × Nat) × Int × Unit) h' => ∃ (i : Nat) (B' : List Nat), z.2.1 = i ∧ i ≤ 2 ∧ Buf EncS 9 B' h' z.1.1 z.1.2.1 z.1.2.2 (two2 l1 l2 i) ∧ Chg [] B' h3 h') (fun z _ => (2 - z.2.1).toNat) ?_ ⟨0, B3, rfl, by omega, hb4, hc4⟩⟩
    rintro ⟨⟨oA, oN, oC⟩, zi, u⟩ h5 ⟨i, B5, hzi, hi, hb5, hc5⟩
    dsimp only at hzi hb5
    subst hzi
    dsimp only
    have hn5 := hb5.1
    refine ⟨fun e => ?_, fun e => ?_⟩
    · have e : i < 2 := by have := of_decide_eq_true e; omega
      have hit : ((i : Nat) : Int).toNat = i := by omega
      have wi : IntKind.wrap .i64 (((i : Nat) : Int) + (1 : Int)) = ((i + 1 : Nat) : Int) := by rw [wrap64] <;> omega
      rw [hit, wi]
      rcases (show i = 0 ∨ i = 1 by omega) with rfl | rfl
      · have hoN : oN = 0 := hn5
        refine ⟨b, 0, ⟨rfl, by omega, by omega⟩, a1, l1.length, c1, (rd hc5.sub0).1, EncS.row l1, (h1.sub hc5.sub0).src, ?_⟩
        exact hb5.append (new := l1) rfl rfl rfl (by omega) fun a' c' B' h' hb' hc' _ => ⟨⟨1, B', rfl, by omega, hb', hc5.trans hc'⟩, by omega⟩
      · have hoN : oN = l1.length := hn5
        refine ⟨b, 0, ⟨rfl, by omega, by omega⟩, a2, l2.length, c2, (rd hc5.sub0).2, EncS.row l2, (h2.sub hc5.sub0).src, ?_⟩
        exact hb5.append (new := l2) rfl rfl rfl (by omega) fun a' c' B' h' hb' hc' _ => ⟨⟨2, B', rfl, by omega, hb', hc5.trans hc'⟩, by omega⟩
    · have e : i = 2 := by have := of_decide_eq_false e; omega
      subst e
      have hn6 : oN = (l1 ++ l2).length := hn5
      rw [hn6] at hb5 ⊢
      exact hk oA oC B5 h5 hb5 hc5
theorem cSTexts (x : StageAt g N h zb s) (sp : Spl g N h) (hT : (allT s).length ≤ 1000000) (hk : ∀ a' c' B' h', Buf EncS 9 B' h' a' (allT s).length c' (allT s) → Chg [] B' h h' → K (.slice a' (allT s).length c') h') :
    CallH Tryz.prog id_stage_Stage_Texts [.pointer (some ⟨zb, 0, none⟩)] K h := by
  obtain ⟨gp, tA, tN, tC, Bt, Nw, rfl, nz, dj, hb, hbuf, hg⟩ := x
  obtain ⟨z0, z1, z2⟩ := zcells _ _ _ _ _ hb
  have htn := hbuf.1
  subst htn
  refine F_stage_Stage_Texts_ok ⟨fun e => (by cases e), fun _ => ⟨zb, 0, rfl, gp, z0, fun e => ?_, fun e => ?_⟩⟩
  · have hq : s.g = none := by
      cases hq : s.g with
      | none => rfl
      | some q =>
        obtain ⟨w, a, e'⟩ := q
        rw [hq] at hg
        obtain ⟨gb, wb, rfl, _, _⟩ := hg
        cases e
    have haT : allT s = s.T := by unfold allT; rw [hq]
    rw [haT] at hT hk
    exact ⟨zb, 0, rfl, _, _, _, z2, cCloneStr hbuf.sr hT fun a' c' B' h' hb' hc' => ⟨_, _, _, rfl, hk a' c' B' h' hb' hc'⟩⟩
  · cases hq : s.g with
    | none => rw [hq] at hg; rw [hg.1] at e; cases e
    | some q =>
    obtain ⟨w, a, e'⟩ := q
    rw [hq] at hg
    obtain ⟨gb, wb, rfl, hgb, hw⟩ := hg
    have haT : allT s = s.T ++ w.T := by unfold allT; rw [hq]
    rw [haT] at hT hk
    have hTl : s.T.length + w.T.length ≤ 1000000 := by rw [List.length_append] at hT; exact hT
    obtain ⟨y0, y1, y2⟩ := gcells (sp.sub _ _ hgb)
    refine ⟨zb, 0, rfl, _, _, _, z2, zb, 0, rfl, _, z0, gb, 0, rfl, _, y0, cWTexts hw (by omega) fun a1 c1 B1 h1 hb1 cc1 => ⟨_, _, _, rfl, (zcells _ _ _ _ _ (cc1.sub0 _ _ hb)).2.2, ?_⟩⟩
    refine nwL (cs := [.slice tA s.T.length tC, .slice a1 w.T.length c1]) fun b3 h3 _ hb3 c3 => ?_
    refine cConcat2 hb3 ((hbuf.sub cc1.sub0).sub c3.sub0).sr (hb1.sub c3.sub0).sr hT fun a' c' B' h' hb' hc' => ⟨_, _, _, rfl, hk a' c' B' h' hb' (Chg.from (cc1.sub0.tr c3.sub0) hc')⟩
theorem cSBegun (x : StageAt g N h zb s) (hk : K (.int .i64 (s.b : Nat)) h) : CallH Tryz.prog id_stage_Stage_Begun [.pointer (some ⟨zb, 0, none⟩)] K h := by
  obtain ⟨gp, tA, tN, tC, Bt, Nw, rfl, nz, dj, hb, hbuf, hg⟩ := x
  obtain ⟨z0, z1, z2⟩ := zcells _ _ _ _ _ hb
  exact F_stage_Stage_Begun_ok ⟨fun e => (by cases e), fun _ => ⟨zb, 0, rfl, _, z1, hk⟩⟩
theorem cSGoal (x : StageAt g N h zb s) (sp : Spl g N h) (h0 : s.g = none → K (.tuple #[.int .i64 (0 : Int), .agg (((List.replicate 32 0).map (Value.int .u8) ++ [])).toArray, .bool false]) h)
    (h1 : ∀ w a e, s.g = some (w, a, e) → w.R.length = 32 → K (.tuple #[.int .i64 a, .agg (((bi w.R).map (Value.int .u8) ++ [])).toArray, .bool true]) h) : CallH Tryz.prog id_stage_Stage_Goal [.pointer (some ⟨zb, 0, none⟩)] K h := by
  refine F_stage_Stage_Goal_ok (cSNone x ⟨_, rfl, fun e => ?_, fun e => ?_⟩)
  · refine h0 ?_
    cases hq : s.g with
    | none => rfl
    | some q => rw [hq] at e; cases e
  · obtain ⟨gp, tA, tN, tC, Bt, Nw, rfl, nz, dj, hb, hbuf, hg⟩ := x
    cases hq : s.g with
    | none => rw [hq] at e; cases e
    | some q =>
    obtain ⟨w, a, e'⟩ := q
    rw [hq] at hg
    obtain ⟨gb, wb, rfl, hgb, hw⟩ := hg
    obtain ⟨z0, z1, z2⟩ := zcells _ _ _ _ _ hb
    obtain ⟨y0, y1, y2⟩ := gcells (sp.sub _ _ hgb)
    exact ⟨zb, 0, rfl, _, z0, gb, 0, rfl, _, y1, zb, 0, rfl, _, z0, gb, 0, rfl, _, y0, cWRoot hw ⟨bi w.R, by rw [bi_len]; exact hw.R, rfl, y1, z0, h1 w a e' hq hw.R⟩⟩
theorem cSDone (x : StageAt g N h zb s) (sp : Spl g N h) (hQ : ∀ w a e, s.g = some (w, a, e) → ∀ i l, w.Q i = some l → l.length ≤ 48)
    (h0 : s.g = none → K (.tuple #[.slice none 0 0, .int .i64 (0 : Int), .int .i64 (0 : Int), .bool false]) h)
    (hno : ∀ w a e, s.g = some (w, a, e) → (∃ k, 1 ≤ k ∧ k < 32 ∧ (w.A k).isSome = true) ∨ ((∀ k, 1 ≤ k → k < 32 → w.A k = none) ∧ 48 < (wDone w).length) → ∀ h', h.Sub h' → K (.tuple #[.slice none 0 0, .int .i64 (0 : Int), .int .i64 (0 : Int), .bool false]) h')
    (hyes : ∀ w a e, s.g = some (w, a, e) → (∀ k, 1 ≤ k → k < 32 → w.A k = none) → (wDone w).length ≤ 48 → ∀ l a' c' B' h', l.Perm (wDone w) → (l.Pairwise fun a b => ¬ b.p < a.p) → Buf EncPr T_api_Pair B' h' a' l.length c' l → Chg [] B' h h' → K (.tuple #[.slice a' l.length c', .int .i64 a, .int .i64 e, .bool true]) h') :
    CallH Tryz.prog id_stage_Stage_Done [.pointer (some ⟨zb, 0, none⟩)] K h := by
  refine F_stage_Stage_Done_ok (cSNone x ⟨_, rfl, fun e => ?_, fun e => ?_⟩)
  · refine h0 ?_
    cases hq : s.g with
    | none => rfl
    | some q => rw [hq] at e; cases e
  · obtain ⟨gp, tA, tN, tC, Bt, Nw, rfl, nz, dj, hb, hbuf, hg⟩ := x
    cases hq : s.g with
    | none => rw [hq] at e; cases e
    | some q =>
    obtain ⟨w, a, e'⟩ := q
    rw [hq] at hg
    obtain ⟨gb, wb, rfl, hgb, hw⟩ := hg
    obtain ⟨z0, z1, z2⟩ := zcells _ _ _ _ _ hb
    obtain ⟨y0, y1, y2⟩ := gcells (sp.sub _ _ hgb)
    have spw : Spl g Nw h := sp.less fun b hb => List.mem_cons_of_mem _ (List.mem_append_right _ hb)
    refine ⟨zb, 0, rfl, _, z0, gb, 0, rfl, _, y0, cWDone hw spw (hQ w a e' hq) (fun hh h1 s1 => ⟨_, _, _, _, rfl, fun _ => hno w a e' hq hh h1 s1, fun e => by cases e⟩) fun hd h48 l a1 c1 B1 h1 hp hs hb1 cc1 => ⟨_, _, _, _, rfl, fun e => (by cases e), fun _ => ?_⟩⟩
    obtain ⟨z0', _, _⟩ := zcells _ _ _ _ _ (cc1.sub0 _ _ hb)
    obtain ⟨_, y1', y2'⟩ := gcells (cc1.sub0 _ _ (sp.sub _ _ hgb))
    exact ⟨zb, 0, rfl, _, z0', gb, 0, rfl, _, y1', zb, 0, rfl, _, z0', gb, 0, rfl, _, y2', hyes w a e' hq hd h48 l a1 c1 B1 h1 hp hs hb1 cc1⟩
end TL

namespace TL
open Go Go.Proofs
variable {g h : PH} {N : List Nat} {K : Value → PH → Prop} {zb : Nat} {s : StS}
def askF (ep a : Int) (p : Int × Int) : MsgF := fOf { msg0 with kd := 5, ep := ep, at_ := a, lv := p.1, ii := p.2 } none 0
theorem ask_row (ep a : Int) (p : Int × Int) : (.int .u8 (5 : Int) :: (.int .i64 ep :: (.int .i64 a :: (.int .i64 (0 : Int) :: (.int .i64 (0 : Int) :: (.int .i64 (0 : Int) :: (.slice none 0 0 :: (.int .i64 (0 : Int) :: ((List.replicate 32 0).map (Value.int .u8) ++ (.int .i64 p.1 :: (.int .i64 p.2 :: ((List.replicate 32 0).map (Value.int .u8) ++ ((List.replicate 32 0).map (Value.int .u8) ++ ([.slice none 0 0] : List Value))))))))))))) : List Value) = EncMsg.row [askF ep a p] := by
  simp only [Enc.row, List.flatMap_cons, List.flatMap_nil, EncMsg, encMsg, fOf, askF, msg0, hv_zero, List.append_nil]
  rfl
/-- what a stage asks for -/
def asksF (s : StS) (ep : Int) : List MsgF := match s.g with
  | none => []
  | some (w, a, _) => (((wList w.A).map askP).take 8).map (askF ep a)
theorem cSAsks (x : StageAt g N h zb s) {M : List Nat} (sp : Spl g M h) (h0 : ∀ w a e, s.g = some (w, a, e) → w.A 0 = none) {ep : Int} (hk : ∀ a' c' g' h', h.Sub h' → Stp g M h g' M h' → SR EncMsg g' a' (asksF s ep) → K (.slice a' (asksF s ep).length c') h') :
    CallH Tryz.prog id_stage_Stage_Asks [.pointer (some ⟨zb, 0, none⟩), .int .i64 ep] K h := by
  refine F_stage_Stage_Asks_ok (cSNone x ⟨_, rfl, fun e => ?_, fun e => ?_⟩)
  · have hq : s.g = none := by
      cases hq : s.g with
      | none => rfl
      | some q => rw [hq] at e; cases e
    have ha : asksF s ep = [] := by unfold asksF; rw [hq]
    rw [ha] at hk
    exact hk none 0 g h (PH.Sub.rf _) (Stp.refl sp) (.inl rfl)
  · obtain ⟨gp, tA, tN, tC, Bt, Nw, rfl, nz, dj, hb, hbuf, hg⟩ := x
    cases hq : s.g with
    | none => rw [hq] at e; cases e
    | some q =>
    obtain ⟨w, a, e'⟩ := q
    rw [hq] at hg
    obtain ⟨gb, wb, rfl, hgb, hw⟩ := hg
    have ha : asksF s ep = (((wList w.A).map askP).take 8).map (askF ep a) := by unfold asksF; rw [hq]
    rw [ha] at hk
    obtain ⟨z0, z1, z2⟩ := zcells _ _ _ _ _ hb
    obtain ⟨y0, y1, y2⟩ := gcells (sp.sub _ _ hgb)
    refine ⟨zb, 0, rfl, _, z0, gb, 0, rfl, _, y0, cWWantG hw sp (h0 w a e' hq) fun aA aC g2 h2 s2 st2 hl2 => ⟨_, _, _, rfl, ?_⟩⟩
    have e8 : (8 : Int).toNat = 8 := rfl
    rw [e8] at hl2 ⊢
    generalize hL : ((wList w.A).map askP).take 8 = L at hl2 hk ⊢
    have hLl : L.length ≤ 8 := by rw [← hL, List.length_take]; omega
    refine LoopP.ind (fun (z : (Option Addr × Nat × Nat) × Int × Unit) h' => ∃ (i : Nat) (B' : List Nat), z.2.1 = i ∧ i ≤ L.length ∧ Buf EncMsg T_api_Msg B' h' z.1.1 z.1.2.1 z.1.2.2 ((L.take i).map (askF ep a)) ∧ Chg [] B' h2 h') (fun z _ => (L.length - z.2.1).toNat) ?_ ⟨0, [], rfl, Nat.zero_le _, Buf.nil _ _ _ _, Chg.refl _ _⟩
    rintro ⟨⟨oA, oN, oC⟩, zi, u⟩ h3 ⟨i, B3, hzi, hi, hb3, cc3⟩
    dsimp only at hzi hb3
    subst hzi
    dsimp only
    have hn3 := hb3.1
    rw [List.length_map, List.length_take] at hn3
    refine ⟨fun e => ?_, fun e => ?_⟩
    · have e : i < L.length := by have := of_decide_eq_true e; omega
      have hit : ((i : Nat) : Int).toNat = i := by omega
      have wi : IntKind.wrap .i64 (((i : Nat) : Int) + (1 : Int)) = ((i + 1 : Nat) : Int) := by rw [wrap64] <;> omega
      obtain ⟨b4, o4, hA4, hr4⟩ := ((hl2.sub st2.spl.sub).sub cc3.sub0).get e
      obtain ⟨z0', _, _⟩ := zcells _ _ _ _ _ (cc3.sub0 _ _ (s2 _ _ hb))
      obtain ⟨_, y1', _⟩ := gcells (cc3.sub0 _ _ (s2 _ _ (sp.sub _ _ hgb)))
      rw [hit, wi]
      refine ⟨b4, o4, ⟨hA4, by omega, by omega⟩, L[i].1, L[i].2, hr4 _ 0 2 rfl (by decide), zb, 0, rfl, _, z0', gb, 0, rfl, _, y1', ?_⟩
      refine hb3.append (new := [askF ep a L[i]]) rfl (ask_row ep a L[i]) rfl (by omega) fun a5 c5 B5 h5 hb5 cc5 _ => ⟨⟨i + 1, B5, rfl, by omega, ?_, cc3.trans cc5⟩, by omega⟩
      rw [List.take_succ_eq_append_getElem e, List.map_append]; exact hb5
    · have e : i = L.length := by have := of_decide_eq_false e; omega
      subst e
      rw [List.take_length] at hb3
      have st3 := st2.spl.new cc3
      have hn5 := hb3.1
      have := hk oA oC (PH.plus g2 h3 B3) h3 (s2.tr cc3.sub0) (st2.trans st3) (hb3.keep fun b hb o e => by rw [plus_in hb]; exact e).sr
      rw [← hn5] at this
      exact this
section
variable {m0 m1 m2 m3 m4 m5 m7 m9 m10 : Int} {m6A m13A : Option Addr} {m6N m6C m13N m13C : Nat} {m8 m11 m12 : List Int}
theorem cSRoot (x : StageAt g N h zb s) (sp : Spl g N h) (hT : (allT s).length ≤ 1000000) (hbn : s.b ≤ 1000000) {R : List UInt8} (hR : R.length = 32) (h11 : m11.length = 32) (h12 : m12.length = 32) {bA : Option Addr} {bC : Nat} {base : List PrR} (hl : SR EncPr g bA base) (hn : base.length ≤ 1000) (hs : ∀ x ∈ base, x.p.length ≤ 1000000) {at_ : Int}
    (hk : ∀ g' N' h', StageAt g' N' h' zb (rootS s m0 m2 m3 R base at_).2 → Stp g N h g' N' h' → K (.bool (rootS s m0 m2 m3 R base at_).1) h') :
    CallH Tryz.prog id_stage_Stage_Root [.pointer (some ⟨zb, 0, none⟩), mV m0 m1 m2 m3 m4 m5 m6A m6N m6C m7 (bi R) m9 m10 m11 m12 m13A m13N m13C, .slice bA base.length bC, .int .i64 at_] K h := by
  refine F_stage_Stage_Root_ok (by rw [bi_len, hR]) h11 h12 ⟨fun e => ?_, fun e => ?_⟩
  · have e : m0 ≠ 4 ∨ m2 ≤ at_ ∨ m3 < 1 := by
      simp only [Option.isNone_some, Bool.false_or, Bool.or_eq_true, bne_iff_ne, decide_eq_true_eq] at e
      omega
    have er : rootS s m0 m2 m3 R base at_ = (false, s) := by unfold rootS; rw [if_pos e]
    rw [er] at hk
    exact hk g N h x (Stp.refl sp)
  · have e : ¬ (m0 ≠ 4 ∨ m2 ≤ at_ ∨ m3 < 1) := by
      simp only [Option.isNone_some, Bool.false_or, Bool.or_eq_false_iff, bne_eq_false_iff_eq, decide_eq_false_iff_not] at e
      omega
    have same : (∃ w, s.g = some (w, m2, m3) ∧ w.R = R) → K (.bool false) h := fun hh => by
      have er : rootS s m0 m2 m3 R base at_ = (false, s) := by unfold rootS; rw [if_neg e, if_pos hh]
      rw [er] at hk
      exact hk g N h x (Stp.refl sp)
    refine ⟨fun _ h' => h' = h ∧ ¬ ∃ w, s.g = some (w, m2, m3) ∧ w.R = R, ?_, ?_⟩
    · obtain ⟨gp, tA, tN, tC, Bt, Nw, rfl, nz, dj, hb, hbuf, hg⟩ := x
      obtain ⟨z0, z1, z2⟩ := zcells _ _ _ _ _ hb
      cases hq : s.g with
      | none =>
        rw [hq] at hg
        obtain ⟨rfl, rfl⟩ := hg
        exact ⟨zb, 0, rfl, none, z0, 0, 0, fun e => (by cases e), none, fun e => (by cases e), 0, 0, fun e => (by cases e), 0, fun e => (by cases e), 0, 0, fun e => (by cases e), none, fun e => (by cases e), 0, 0, fun e => (by cases e), 0, fun e => (by cases e), 0, 0, fun e => (by cases e), none, fun e => (by cases e), 0, 0, fun e => (by cases e), none, fun e => (by cases e), fun e => (by cases e), fun _ => ⟨rfl, fun ⟨w, e, _⟩ => by cases e⟩⟩
      | some q =>
      obtain ⟨w, a, e'⟩ := q
      rw [hq] at hg same
      obtain ⟨gb, wb, rfl, hgb, hw⟩ := hg
      obtain ⟨y0, y1, y2⟩ := gcells (sp.sub _ _ hgb)
      refine ⟨zb, 0, rfl, _, z0, zb, 0, fun _ => rfl, _, fun _ => z0, gb, 0, fun _ => rfl, a, fun _ => y1, zb, 0, fun _ => rfl, _, fun _ => z0, gb, 0, fun _ => rfl, e', fun _ => y2, zb, 0, fun _ => rfl, _, fun _ => z0, gb, 0, fun _ => rfl, _, fun _ => y0, fun e1 => ?_, fun e1 => ⟨rfl, ?_⟩⟩
      · simp only [Option.isNone_some, Bool.not_false, Bool.true_and, Bool.and_eq_true, beq_iff_eq] at e1
        obtain ⟨rfl, rfl⟩ := e1
        refine cWRoot hw ⟨bi w.R, by rw [bi_len]; exact hw.R, rfl, fun e2 => ?_, fun e2 => ⟨rfl, ?_⟩⟩
        · rw [bi_beq, decide_eq_true_eq] at e2
          exact same ⟨w, rfl, e2⟩
        · rw [bi_beq, decide_eq_false_iff_not] at e2
          rintro ⟨w', ew, er⟩
          cases ew
          exact e2 er
      · rintro ⟨w', ew, er⟩
        cases ew
        simp at e1
    rintro _ _ ⟨rfl, hns⟩
    have er0 : rootS s m0 m2 m3 R base at_ = if okP base then (true, ⟨some (wNew base R, m2, m3), s.b + 1, allT s⟩) else (false, s) := by unfold rootS; rw [if_neg e, if_neg hns]
    refine cWNew (sp.less (M := []) fun _ hm => by cases hm) hl hn hs hR (fun hno e he g' h' st' _ => ⟨_, _, rfl, fun _ => ?_, fun e2 => by rcases he with rfl | rfl <;> simp at e2⟩) fun hm h48 wb N3 g3 h3 w3 st3 _ => ⟨_, _, rfl, fun e => by simp at e, fun _ => ?_⟩
    · rw [er0, if_neg hno] at hk
      obtain ⟨sf, _⟩ := st'.frame (N := []) (M := N) sp (Dj.nil N)
      exact hk g' N h' (x.stp st' (Dj.nil N)) sf
    · rw [er0, if_pos ⟨hm, h48⟩] at hk
      rw [List.append_nil] at st3
      obtain ⟨sf3, d3⟩ := st3.frame (N := []) (M := N) sp (Dj.nil N)
      have x3 := x.stp st3 (Dj.nil N)
      refine cSForget x3 sf3.spl.right hT fun N4 h4 x4 st4 => ?_
      obtain ⟨sf4, d4⟩ := st4.frameR sf3.spl d3.symm
      have w4 := w3.stp st4 d3.symm
      refine nwL (cs := [.pointer (some ⟨wb, 0, none⟩), .int .i64 m2, .int .i64 m3]) fun gb h5 nb5 hb5 c5 => ?_
      have st5 := sf4.spl.new c5
      obtain ⟨gp, tA, tN, tC, Bt, Nw, rfl, nz, dj, hb, hbuf, hg⟩ := x4
      obtain ⟨hgp, rfl⟩ : gp = none ∧ Nw = [] := hg
      subst hgp
      rw [List.append_nil] at nz
      have hb5z := c5.sub0 _ _ hb
      refine ⟨zb, 0, rfl, stL hb5z rfl rfl fun h6 hb6 c6 => ?_⟩
      obtain ⟨_, z1, _⟩ := zcells _ _ _ _ _ hb6
      have wi : IntKind.wrap .i64 (((s.b : Nat) : Int) + (1 : Int)) = ((s.b + 1 : Nat) : Int) := by rw [wrap64] <;> omega
      refine ⟨zb, 0, rfl, _, z1, zb, 0, rfl, ?_⟩
      show stH h6 zb (0 + 1) [.int .i64 (IntKind.wrap .i64 (((s.b : Nat) : Int) + (1 : Int)))] _
      rw [wi]
      refine stL hb6 rfl rfl fun h7 hb7 c7 => ?_
      have cz := c6.trans c7
      have nzN3 : zb ∉ N3 := fun hm => d4 zb hm (by simp)
      have dBN3 : Dj Bt N3 := fun b hb hm => d4 b hm (by simp [hb])
      have w7 : WalkAt (PH.plus g3 h5 [gb]) N3 h7 wb (wNew base R) := (w4.keep st5.gs fun q _ o e => c5.sub0 q o e).keep (PH.Sub.rf _) fun q hq o e => cz.keep e fun hm => nzN3 (by rw [List.mem_singleton] at hm; subst hm; exact hq)
      have hbuf7 := (hbuf.sub c5.sub0).chg cz (notIn1 nz)
      have sp5 := st5.spl
      have st7 : Stp (PH.plus g3 h5 [gb]) (N3 ++ (zb :: (Bt ++ []))) h5 (PH.plus g3 h5 [gb]) (N3 ++ (zb :: (Bt ++ []))) h7 := sp5.chg (cz.sub (fun b hb => by rw [List.mem_singleton] at hb; subst hb; simp) fun b hb => .inr hb) fun q hq => by
        rcases List.mem_append.1 hq with hq1 | hq1
        · obtain ⟨o, ho⟩ := sp5.has q (List.mem_append_left _ hq1)
          exact ⟨o, cz.keep ho fun hm => nzN3 (by rw [List.mem_singleton] at hm; rw [← hm]; exact hq1)⟩
        · rcases List.mem_cons.1 hq1 with rfl | hq2
          · exact ⟨_, hb7⟩
          · rw [List.append_nil] at hq2
            exact hbuf7.has q hq2
      refine hk (PH.plus g3 h5 [gb]) (zb :: (Bt ++ N3)) h7 ⟨some ⟨gb, 0, none⟩, tA, tN, tC, Bt, N3, rfl, ?_, dBN3, hb7, hbuf7, gb, wb, rfl, by rw [plus_in (by simp)]; exact hb5, w7⟩ ((sf3.trans (sf4.trans (st5.trans st7))).less fun b hb => ?_)
      · intro hm
        rcases List.mem_append.1 hm with hm | hm
        · exact nz hm
        · exact nzN3 hm
      · simp only [List.mem_cons, List.mem_append, List.append_nil] at hb ⊢
        rcases hb with rfl | hb | hb
        · exact .inr (.inl rfl)
        · exact .inr (.inr hb)
        · exact .inl hb
theorem cSAnswer (x : StageAt g N h zb s) (sp : Spl g N h) (h8 : m8.length = 32) {a b : List UInt8} (ha : a.length = 32) (hb' : b.length = 32) {lA : Option Addr} {lC : Nat} {l : List PrR} (hl : SR EncPr g lA l) (hn : l.length ≤ 1000) (hs : ∀ x ∈ l, x.p.length ≤ 1000000) (hT : ∀ w a e, s.g = some (w, a, e) → w.T.length ≤ 100000)
    (hk : ∀ g' N' h', StageAt g' N' h' zb (answS s m0 m2 m9 m10 a b l).2 → Stp g N h g' N' h' → K (.bool (answS s m0 m2 m9 m10 a b l).1) h') :
    CallH Tryz.prog id_stage_Stage_Answer [.pointer (some ⟨zb, 0, none⟩), mV m0 m1 m2 m3 m4 m5 m6A m6N m6C m7 m8 m9 m10 (bi a) (bi b) lA l.length lC] K h := by
  refine F_stage_Stage_Answer_ok h8 (by rw [bi_len, ha]) (by rw [bi_len, hb']) (cSNone x ⟨_, rfl, ?_⟩)
  have hxx := x
  obtain ⟨gp, tA, tN, tC, Bt, Nw, rfl, nz, dj, hb, hbuf, hg⟩ := x
  obtain ⟨z0, z1, z2⟩ := zcells _ _ _ _ _ hb
  cases hq : s.g with
  | none =>
    have ea : answS s m0 m2 m9 m10 a b l = (false, s) := by unfold answS; rw [hq]
    rw [ea] at hk
    exact ⟨0, 0, fun e => (by cases e), none, fun e => (by cases e), 0, 0, fun e => (by cases e), 0, fun e => (by cases e), fun _ => hk g _ h hxx (Stp.refl sp), fun e => by cases e⟩
  | some q =>
  obtain ⟨w, ga, e'⟩ := q
  rw [hq] at hg
  obtain ⟨gb, wb, rfl, hgb, hw⟩ := hg
  obtain ⟨y0, y1, y2⟩ := gcells (sp.sub _ _ hgb)
  have hTw := hT w ga e' hq
  have spw : Spl g ((zb :: Bt) ++ Nw) h := sp
  have dzw : Dj (zb :: Bt) Nw := fun q hq hm => by
    rcases List.mem_cons.1 hq with rfl | hq
    · exact nz (List.mem_append_right _ hm)
    · exact dj q hq hm
  refine ⟨zb, 0, fun _ => rfl, _, fun _ => z0, gb, 0, fun _ => rfl, ga, fun _ => y1, fun e => ?_, fun e => ?_⟩
  · have e : m2 ≠ ga := by simpa using e
    have ea : answS s m0 m2 m9 m10 a b l = (false, s) := by unfold answS; rw [hq]; dsimp only; rw [if_pos e]
    rw [ea] at hk
    exact hk g _ h hxx (Stp.refl sp)
  · have e : ¬ m2 ≠ ga := by simpa using e
    have fin : ∀ {g' : PH} {Nw' : List Nat} {h' : PH} {w' : WS}, WalkAt g' Nw' h' wb w' → Stp g Nw h g' Nw' h' → StageAt g' (zb :: (Bt ++ Nw')) h' zb { s with g := some (w', ga, e') } ∧ Stp g (zb :: (Bt ++ Nw)) h g' (zb :: (Bt ++ Nw')) h' := fun {g' Nw' h' w'} w1 st1 => by
      obtain ⟨sf1, d1⟩ := st1.frameR spw dzw
      refine ⟨⟨some ⟨gb, 0, none⟩, tA, tN, tC, Bt, Nw', rfl, fun hm => ?_, fun q hq => d1 q (List.mem_cons_of_mem _ hq), st1.chg.keep hb (dzw zb (by simp)), hbuf.keep fun q hq o eo => st1.chg.keep eo (dj q hq), gb, wb, rfl, st1.gs _ _ hgb, w1⟩, sf1⟩
      rcases List.mem_append.1 hm with hm | hm
      · exact nz (List.mem_append_left _ hm)
      · exact d1 zb (by simp) hm
    refine ⟨fun e6 => ?_, fun e6 => ⟨fun e7 => ?_, fun e7 => ?_⟩⟩
    · have e6 : m0 = 6 := by simpa using e6
      have ea : answS s m0 m2 m9 m10 a b l = ((nodeW w m9 m10 a b).1, { s with g := some ((nodeW w m9 m10 a b).2, ga, e') }) := by unfold answS; rw [hq]; dsimp only; rw [if_neg e, if_pos e6]
      rw [ea] at hk
      refine ⟨zb, 0, rfl, _, z0, gb, 0, rfl, _, y0, cWNodeV hw spw.right ha hb' hTw fun N' h' w1 st1 => ⟨_, rfl, ?_⟩⟩
      obtain ⟨f1, f2⟩ := fin w1 st1
      exact hk g _ h' f1 f2
    · have e6 : m0 ≠ 6 := by simpa using e6
      have e7 : m0 = 7 := by simpa using e7
      have ea : answS s m0 m2 m9 m10 a b l = ((pageW w m10 l).1, { s with g := some ((pageW w m10 l).2, ga, e') }) := by unfold answS; rw [hq]; dsimp only; rw [if_neg e, if_neg e6, if_pos e7]
      rw [ea] at hk
      refine ⟨zb, 0, rfl, _, z0, gb, 0, rfl, _, y0, cWPageV hw spw.right hl hn hs hTw fun g' N' h' w1 st1 => ⟨_, rfl, ?_⟩⟩
      obtain ⟨f1, f2⟩ := fin w1 st1
      exact hk g' _ h' f1 f2
    · have e6 : m0 ≠ 6 := by simpa using e6
      have e7 : m0 ≠ 7 := by simpa using e7
      have ea : answS s m0 m2 m9 m10 a b l = (false, s) := by unfold answS; rw [hq]; dsimp only; rw [if_neg e, if_neg e6, if_neg e7]
      rw [ea] at hk
      exact hk g _ h hxx (Stp.refl sp)
end
end TL

namespace TL
open Go Go.Proofs
variable {g h : PH} {N : List Nat} {K : Value → PH → Prop} {zb tb : Nat} {s : StS} {T : List PrR}
theorem ask_enc (ep a : Int) (p : Int × Int) : EncMsg.enc (askF ep a p) = (.int .u8 (5 : Int) :: (.int .i64 ep :: (.int .i64 a :: (.int .i64 (0 : Int) :: (.int .i64 (0 : Int) :: (.int .i64 (0 : Int) :: (.slice none 0 0 :: (.int .i64 (0 : Int) :: (Z32.map (Value.int .u8) ++ (.int .i64 p.1 :: (.int .i64 p.2 :: (Z32.map (Value.int .u8) ++ (Z32.map (Value.int .u8) ++ ([.slice none 0 0] : List Value))))))))))))) : List Value) := by
  have := ask_row ep a p
  rw [show EncMsg.row [askF ep a p] = EncMsg.enc (askF ep a p) ++ [] from rfl, List.append_nil] at this
  exact this.symm
/-- one of the asks -/
theorem askRd {a : Option Addr} {ep : Int} (x : SR EncMsg g a (asksF s ep)) (h0 : ∀ w a e, s.g = some (w, a, e) → w.A 0 = none) {i : Nat} (hi : i < (asksF s ep).length) :
    ∃ w ga e c b o, s.g = some (w, ga, e) ∧ 1 ≤ c ∧ c < 32 ∧ (w.A c).isSome = true ∧ (((wList w.A).map askP).take 8)[i]? = some (askP c) ∧ a = some ⟨b, o, none⟩ ∧ ∀ h', g.Sub h' →
      h'.rds b (o + i * 107) 107 = some ((.int .u8 (5 : Int) :: (.int .i64 ep :: (.int .i64 ga :: (.int .i64 (0 : Int) :: (.int .i64 (0 : Int) :: (.int .i64 (0 : Int) :: (.slice none 0 0 :: (.int .i64 (0 : Int) :: (Z32.map (Value.int .u8) ++ (.int .i64 (askP c).1 :: (.int .i64 (askP c).2 :: (Z32.map (Value.int .u8) ++ (Z32.map (Value.int .u8) ++ ([.slice none 0 0] : List Value))))))))))))) : List Value)) := by
  obtain ⟨b, o, hA, _⟩ := x.get hi
  cases hq : s.g with
  | none =>
    have : asksF s ep = [] := by unfold asksF; rw [hq]
    rw [this] at hi; cases hi
  | some q =>
    obtain ⟨w, ga, e⟩ := q
    have ha : asksF s ep = (((wList w.A).map askP).take 8).map (askF ep ga) := by unfold asksF; rw [hq]
    have hi2 : i < (((wList w.A).map askP).take 8).length := by rw [ha, List.length_map] at hi; exact hi
    obtain ⟨c, c1, c2, hc, hc2⟩ := askGet (h0 w ga e hq) hi2
    refine ⟨w, ga, e, c, b, o, rfl, c1, c2, hc, by rw [hc2, List.getElem?_eq_getElem hi2], hA, fun h' hs => ?_⟩
    obtain ⟨b', o', hA', hr⟩ := (x.sub hs).get hi
    rw [hA] at hA'; cases hA'
    have := hr _ 0 107 rfl (by decide)
    have e2 : (asksF s ep)[i] = askF ep ga (askP c) := by
      rw [hc2]
      simp only [ha, List.getElem_map]
    rw [e2, ask_enc, List.drop_zero, List.take_of_length_le (by rw [← ask_enc, EncMsg.len]; decide)] at this
    exact this
theorem cRootM (tr : Tr tb h T) {at_ ep : Int} (hk : K (mV 4 2 at_ ep 0 0 none 0 0 0 (bi (nd T 1)) 0 0 Z32 Z32 none 0 0) h) : CallH Tryz.prog id_law22_root [.pointer (some ⟨tb, 0, none⟩), .int .i64 at_, .int .i64 ep] K h :=
  F_law22_root_ok (cRoot tr ⟨bi (nd T 1), by rw [bi_len, nd_len], rfl, hk⟩)
/-- what a tree's answer does to a stage -/
noncomputable def ansT (s : StS) (T : List PrR) (c : Nat) (at_ : Int) : Bool × StS := match s.g with
  | none => (false, s)
  | some (w, a, e) => if at_ ≠ a then (false, s) else ((answerW w T c).1, { s with g := some ((answerW w T c).2, a, e) })
section
variable {m0 m1 m2 m3 m4 m5 m7 : Int} {m6A m13A : Option Addr} {m6N m6C m13N m13C : Nat} {m8 m11 m12 : List Int}
theorem cAnsStage (x : StageAt g N h zb s) (sp : Spl g N h) (tr : Tr tb g T) {c : Nat} (c1 : 1 ≤ c) (c2 : c < 32) (h8 : m8.length = 32) (h11 : m11.length = 32) (h12 : m12.length = 32) (hT : ∀ w a e, s.g = some (w, a, e) → w.T.length ≤ 100000) {at_ : Int}
    (hk : ∀ g' N' h', StageAt g' N' h' zb (ansT s T c at_).2 → Stp g N h g' N' h' → K (.bool (ansT s T c at_).1) h') :
    CallH Tryz.prog id_law22_Answer [.pointer (some ⟨tb, 0, none⟩), mV m0 m1 m2 m3 m4 m5 m6A m6N m6C m7 m8 (askP c).1 (askP c).2 m11 m12 m13A m13N m13C, .int .i64 at_] (fun v_7 h11 =>
      ∃ t0_4 : Int, ∃ t1_4 : Int, ∃ t2_3 : Int, ∃ t3_3 : Int, ∃ t4_3 : Int, ∃ t5_3 : Int, ∃ (t6A_3 : Option Addr) (t6N_3 t6C_3 : Nat), ∃ t7_3 : Int, ∃ t8_3 : List Int, t8_3.length = 32 ∧ ∃ t9_3 : Int, ∃ t10_3 : Int, ∃ t11_3 : List Int, t11_3.length = 32 ∧ ∃ t12_3 : List Int, t12_3.length = 32 ∧ ∃ (t13A_3 : Option Addr) (t13N_3 t13C_3 : Nat), v_7 = mV t0_4 t1_4 t2_3 t3_3 t4_3 t5_3 t6A_3 t6N_3 t6C_3 t7_3 t8_3 t9_3 t10_3 t11_3 t12_3 t13A_3 t13N_3 t13C_3 ∧
      CallH Tryz.prog id_stage_Stage_Answer [.pointer (some ⟨zb, 0, none⟩), mV t0_4 t1_4 t2_3 t3_3 t4_3 t5_3 t6A_3 t6N_3 t6C_3 t7_3 t8_3 t9_3 t10_3 t11_3 t12_3 t13A_3 t13N_3 t13C_3] K h11) h := by
  by_cases hc16 : 16 ≤ c
  · obtain ⟨e1, e2⟩ := askP_leaf c c2 hc16
    have ea : ∀ a b, answS s 7 at_ 0 (askP c).2 a b (partB T (c - 16)) = ansT s T c at_ := fun a b => by
      unfold answS ansT
      cases s.g with
      | none => rfl
      | some q =>
        obtain ⟨w, a', e'⟩ := q
        dsimp only
        split
        · rfl
        · rw [if_neg (by decide), if_pos rfl]
          have : answerW w T c = pageW w (askP c).2 (partB T (c - 16)) := by unfold answerW; rw [if_pos hc16, e2]
          rw [this]
    refine F_law22_Answer_ok h8 h11 h12 ⟨fun _ => ?_, fun e => by rw [e1] at e; simp at e⟩
    rw [e2]
    refine cPairs (tr.sub sp.sub) (by omega) fun a' c' B' h1 hb1 cc1 => ⟨_, _, _, rfl, _, _, _, _, _, _, _, _, _, _, Z32, z32, _, _, Z32, z32, Z32, z32, _, _, _, rfl, ?_⟩
    have st1 := sp.new cc1
    have sr1 : SR EncPr (PH.plus g h1 B') a' (partB T (c - 16)) := (hb1.keep fun b hb o e => by rw [plus_in hb]; exact e).sr
    have hokp := part_ok tr.may tr.le (c - 16)
    have hZ : Z32 = bi (List.replicate 32 0) := bi_z32
    rw [hZ]
    refine cSAnswer (x.keep st1.gs fun q _ o e => cc1.sub0 q o e) st1.spl (by rw [bi_len]; simp) (by simp) (by simp) sr1 (by have := hokp.2.2; omega) (fun y hy => by have := (ok_len ((may_ok hokp.1).1 y hy)).1; omega) hT fun g' N' h' x' st' => ?_
    have := ea (List.replicate 32 0) (List.replicate 32 0)
    rw [e2] at this
    rw [this] at x' ⊢
    exact hk g' N' h' x' (st1.trans st')
  · have c16 : c < 16 := by omega
    obtain ⟨q1, q2, q3⟩ := askP_kids c c16 c1
    have e1 : (askP c).1 = ((c.log2 : Nat) : Int) := rfl
    have e2 : (askP c).2 = ((c - 2 ^ c.log2 : Nat) : Int) := rfl
    have hlt := askP_in c c2 c1
    have w1 : IntKind.wrap .i64 ((askP c).1 + 1) = ((c.log2 + 1 : Nat) : Int) := by rw [e1, wrap64] <;> omega
    have hb16 : c - 2 ^ c.log2 < 32 := by omega
    have w2 : IntKind.wrap .i64 ((2 : Int) * (askP c).2) = ((2 * (c - 2 ^ c.log2) : Nat) : Int) := by rw [e2, wrap64] <;> omega
    have w3 : IntKind.wrap .i64 (((2 * (c - 2 ^ c.log2) : Nat) : Int) + 1) = ((2 * (c - 2 ^ c.log2) + 1 : Nat) : Int) := by rw [wrap64] <;> omega
    have hl4 : ¬ ((c.log2 : Nat) : Int) = 4 := by omega
    have ea : answS s 6 at_ (askP c).1 (askP c).2 (nd T (2 * c)) (nd T (2 * c + 1)) [] = ansT s T c at_ := by
      unfold answS ansT
      cases s.g with
      | none => rfl
      | some q =>
        obtain ⟨w, a', e'⟩ := q
        dsimp only
        split
        · rfl
        · rw [if_pos rfl]
          have : answerW w T c = nodeW w (askP c).1 (askP c).2 (nd T (2 * c)) (nd T (2 * c + 1)) := by unfold answerW; rw [if_neg hc16]
          rw [this]
    refine F_law22_Answer_ok h8 h11 h12 ⟨fun e => absurd (by simpa [e1] using e) hl4, fun _ => ?_⟩
    rw [w1, w2, w3]
    have r2 : 2 ^ (c.log2 + 1) + (2 * (c - 2 ^ c.log2) + 1) = 2 * c + 1 := by omega
    refine cNode (tr.sub sp.sub) q1 (by omega) ⟨bi (nd T (2 ^ (c.log2 + 1) + 2 * (c - 2 ^ c.log2))), by rw [bi_len, nd_len], _, rfl, cNode (tr.sub sp.sub) q1 q2 ⟨bi (nd T (2 ^ (c.log2 + 1) + (2 * (c - 2 ^ c.log2) + 1))), by rw [bi_len, nd_len], _, rfl, ?_⟩⟩
    rw [q3, r2]
    refine ⟨_, _, _, _, _, _, _, _, _, _, Z32, z32, _, _, bi (nd T (2 * c)), by rw [bi_len, nd_len], bi (nd T (2 * c + 1)), by rw [bi_len, nd_len], _, _, _, rfl, ?_⟩
    refine cSAnswer (l := []) x sp z32 (nd_len _ _) (nd_len _ _) (.inl rfl) (by decide) (fun _ h => by cases h) hT fun g' N' h' x' st' => ?_
    rw [ea] at x' ⊢
    exact hk g' N' h' x' st'
end
end TL

namespace TL
open Go Go.Proofs
variable {g h : PH} {N : List Nat} {K : Value → PH → Prop} {zb tb : Nat} {s : StS} {T : List PrR}
theorem cWakes22 (hk : ∀ h', h.Sub h' → K (.bool true) h') : CallH Tryz.prog id_law22_wakes [] K h := by
  refine F_law22_wakes_ok (nwL (cs := EncPr.row sApp) fun b0 h1 _ hb0 c1 => ?_)
  have hsr : SR EncPr h1 (some ⟨b0, 0, none⟩) sApp := .inr ⟨b0, 0, rfl, rdsL hb0 rfl rfl⟩
  refine cOfT (l := sApp) hsr app_may (by decide) fun tb h2 ht _ c2 => ⟨_, _, rfl, fun e => by simp at e, fun _ => ?_⟩
  refine cSNew (Spl.start h2) fun zb N3 h3 x3 st3 _ _ => ⟨_, rfl, ?_⟩
  rw [List.append_nil] at st3
  refine cRootM (ht.sub st3.gh) ⟨_, _, _, _, _, _, _, _, _, _, bi (nd sApp 1), by rw [bi_len, nd_len], _, _, Z32, z32, Z32, z32, _, _, _, rfl, ?_⟩
  refine cSRoot (base := []) x3 st3.spl (by decide) (by decide) (nd_len _ _) z32 z32 (.inl rfl) (by decide) (fun _ h => by cases h) fun g4 N4 h4 x4 st4 => ⟨_, rfl, ?_⟩
  have r1 : rootS ⟨none, 0, []⟩ 4 5 1 (nd sApp 1) [] 5 = (false, ⟨none, 0, []⟩) := by unfold rootS; rw [if_pos (by omega)]
  rw [r1] at x4 ⊢
  have st24 := st3.trans st4
  refine cRootM (ht.sub st24.gh) ⟨_, _, _, _, _, _, _, _, _, _, bi (nd sApp 1), by rw [bi_len, nd_len], _, _, Z32, z32, Z32, z32, _, _, _, rfl, ?_⟩
  refine cSRoot (base := []) x4 st4.spl (by decide) (by decide) (nd_len _ _) z32 z32 (.inl rfl) (by decide) (fun _ h => by cases h) fun g5 N5 h5 x5 st5 => ⟨_, rfl, ?_⟩
  have r2 : rootS ⟨none, 0, []⟩ 4 5 1 (nd sApp 1) [] 4 = (true, ⟨some (wNew [] (nd sApp 1), 5, 1), 1, []⟩) := by
    unfold rootS
    rw [if_neg (by omega), if_neg (fun ⟨w, e, _⟩ => by cases e), if_pos (show okP [] from nil_may)]
    rfl
  rw [r2] at x5 ⊢
  have st25 := st24.trans st5
  refine ⟨fun _ h' => ∃ g' N' w, StageAt g' N' h' zb ⟨some (w, 5, 1), 1, []⟩ ∧ Stp h2 [] h2 g' N' h' ∧ KnS w 5, ?_, ?_⟩
  · refine LoopP.ind (fun (z : Int × Unit) h' => ∃ (j : Nat) (g' : PH) (N' : List Nat) (w : WS), z.1 = j ∧ j ≤ 5 ∧ StageAt g' N' h' zb ⟨some (w, 5, 1), 1, []⟩ ∧ Stp h2 [] h2 g' N' h' ∧ KnS w j) (fun z _ => (9 - z.1).toNat) ?_ ⟨0, g5, N5, _, rfl, Nat.zero_le _, x5, st25, KnS.new⟩
    rintro ⟨zj, u⟩ h6 ⟨j, g6, N6, w, hzj, hj, x6, st6, k⟩
    dsimp only at hzj
    subst hzj
    dsimp only
    have h0 : ∀ w' a e, (⟨some (w, 5, 1), 1, []⟩ : StS).g = some (w', a, e) → w'.A 0 = none := fun w' a e hh => by cases hh; exact k.a0
    refine ⟨fun _ => ?_, fun e => by have := of_decide_eq_false e; omega⟩
    refine cSAsks x6 st6.spl h0 fun aA aC g7 h7 s7 st7 hl7 => ⟨_, _, _, rfl, fun e => ?_, fun e => ?_⟩
    · have hj5 : j = 5 := by
        by_cases h5 : j < 5
        · exfalso
          have : (asksF ⟨some (w, 5, 1), 1, []⟩ 2).length = 1 := by
            show ((((wList w.A).map askP).take 8).map (askF 2 5)).length = 1
            rw [k.row h5 (by decide)]; rfl
          rw [this] at e
          simp at e
        · omega
      subst hj5
      exact ⟨g7, N6, w, x6.keep st7.gs fun q _ o e => s7 q o e, st6.trans st7, k⟩
    · have e0 : (asksF ⟨some (w, 5, 1), 1, []⟩ 2).length ≠ 0 := by simpa using e
      have h0' : 0 < (asksF ⟨some (w, 5, 1), 1, []⟩ 2).length := by omega
      have hj5 : j < 5 := by
        by_cases h5 : j < 5
        · exact h5
        · exfalso
          have : j = 5 := by omega
          subst this
          refine e0 ?_
          show ((((wList w.A).map askP).take 8).map (askF 2 5)).length = 0
          have : wList w.A = [] := List.filter_eq_nil_iff.2 fun d _ => by rw [k.end.1]; simp
          rw [this]; rfl
      obtain ⟨w', ga, e', c, b, o, hq, c1, c2, hc, hrow, hA, rd⟩ := askRd hl7 h0 h0'
      cases hq
      have hcp : c = pc j := by
        rw [k.row hj5 (by decide)] at hrow
        have hrow : askP (pc j) = askP c := by simpa using hrow
        exact (askP_inj _ (pc_in j hj5).2.1 c c2 (pc_in j hj5).1 c1 hrow).symm
      subst hcp
      refine ⟨b, o, ⟨hA, by decide, by omega⟩, _, _, _, _, _, _, _, _, _, _, Z32, z32, _, _, Z32, z32, Z32, z32, _, _, _, rd h7 st7.spl.sub, ?_⟩
      have hw' : IntKind.wrap .i64 (((j : Nat) : Int) + (1 : Int)) = ((j + 1 : Nat) : Int) := by rw [wrap64] <;> omega
      obtain ⟨en, kn⟩ := k.next hj5
      have ea : ansT ⟨some (w, 5, 1), 1, []⟩ sApp (pc j) 5 = ((answerW w sApp (pc j)).1, ⟨some ((answerW w sApp (pc j)).2, 5, 1), 1, []⟩) := rfl
      rw [hw']
      refine cAnsStage (x6.keep st7.gs fun q _ o e => s7 q o e) st7.spl (ht.sub (st6.gs.tr st7.gs)) c1 c2 z32 z32 z32 (fun w' a e hh => by cases hh; have := k.t; omega) fun g8 N8 h8 x8 st8 => ⟨_, rfl, ?_⟩
      rw [ea] at x8
      exact ⟨⟨j + 1, g8, N8, _, rfl, by omega, x8, st6.trans (st7.trans st8), kn⟩, by omega⟩
  rintro _ h6 ⟨g6, N6, w, x6, st6, k⟩
  refine cSDone x6 st6.spl (fun w' a e hh i l hl => ?_) (fun hh => by cases hh) (fun w' a e hh hc => ?_) fun w' a e hh _ _ l a' c' B' h7 hp _ hb cc => ?_
  · cases hh
    rw [k.end.2] at hl
    by_cases e3 : i = 3
    · subst e3; rw [upF_same] at hl; cases hl; decide
    · rw [upF_ne _ _ e3] at hl; cases hl
  · exfalso
    cases hh
    rcases hc with ⟨k', _, _, hk⟩ | ⟨_, hc⟩
    · rw [k.end.1] at hk; cases hk
    · rw [k.done] at hc; exact absurd hc (by decide)
  · cases hh
    rw [k.done] at hp
    have hl : l = sApp := List.perm_singleton.1 hp
    subst hl
    obtain ⟨bb, oo, hA6, hr6⟩ := hb.sr.get (i := 0) (by decide)
    refine ⟨_, _, _, _, _, _, rfl, bb, oo, fun _ => ⟨hA6, by decide, by decide⟩, mk [49], fun _ => hr6 _ 1 1 rfl (by decide), fun _ => ?_, fun e => absurd e (by decide +kernel)⟩
    refine cSBegun (x6.keep (PH.Sub.rf _) fun q _ o e => cc.sub0 q o e) ⟨_, rfl, ?_⟩
    exact hk h7 (c1.sub0.tr (c2.sub0.tr (st6.gh.tr cc.sub0)))
theorem wk22 {h1 : PH} (s : h.Sub h1) (hk : ∀ h', h.Sub h' → K (.bool true) h') : CallH Tryz.prog id_law22_wakes [] (fun v h2 => ∃ t : Bool, v = .bool t ∧ K (.bool t) h2) h1 :=
  cWakes22 fun h' s' => ⟨true, rfl, hk h' (s.tr s')⟩
/-! ### A nil stage -/
end TL

namespace TL
open Go Go.Proofs
variable {g h : PH} {N : List Nat} {K : Value → PH → Prop} {zb tb : Nat} {s : StS} {T : List PrR}
/-! ### Rows -/
def EncPt : Enc Nat where
  enc b := [.pointer (some ⟨b, 0, none⟩)]
  k := 1
  len _ := rfl
  one o v hv := by
    simp only [List.mem_cons, List.not_mem_nil, or_false] at hv
    rcases hv with rfl; rfl
  pos := by decide
/-- trees in memory -/
structure TrsAt (h : PH) (a : Option Addr) (bs : List Nat) (ts : List (List PrR)) : Prop where
  sr : SR EncPt h a bs
  len : bs.length = ts.length
  pos : 0 < ts.length
  tr : ∀ i (h1 : i < bs.length) (h2 : i < ts.length), Tr bs[i] h ts[i]
theorem TrsAt.sub {g' : PH} {a : Option Addr} {bs : List Nat} {ts : List (List PrR)} (x : TrsAt g a bs ts) (s : g.Sub g') : TrsAt g' a bs ts := ⟨x.sr.sub s, x.len, x.pos, fun i h1 h2 => (x.tr i h1 h2).sub s⟩
theorem TrsAt.get {a : Option Addr} {bs : List Nat} {ts : List (List PrR)} (x : TrsAt h a bs ts) {i : Nat} (hi : i < bs.length) : ∃ b o T, a = some ⟨b, o, none⟩ ∧ (∀ h', h.Sub h' → h'.rds b (o + i * 1) 1 = some [.pointer (some ⟨bs[i], 0, none⟩)]) ∧ Tr bs[i] h T ∧ ts[i]? = some T := by
  obtain ⟨b, o, hA, _⟩ := x.sr.get hi
  have h2 : i < ts.length := by rw [← x.len]; exact hi
  refine ⟨b, o, ts[i], hA, fun h' hs => ?_, x.tr i hi h2, List.getElem?_eq_getElem h2⟩
  obtain ⟨b', o', hA', hr⟩ := (x.sr.sub hs).get hi
  rw [hA] at hA'; cases hA'
  exact hr _ 0 1 rfl (by decide)
end TL

namespace TL
open Go Go.Proofs
variable {g h : PH} {N : List Nat} {K : Value → PH → Prop} {zb tb : Nat} {s : StS} {T : List PrR}
theorem root_ok {q : Option (WS × Int × Int)} {b : Nat} {X : List (List UInt8)} {m2 m3 at_ : Int} {R : List UInt8} {base : List PrR} (h2 : at_ < m2) (h3 : 1 ≤ m3) (hs : ∀ w a e, q = some (w, a, e) → ¬ (a = m2 ∧ e = m3)) (hok : okP base) :
    rootS ⟨q, b, X⟩ 4 m2 m3 R base at_ = (true, ⟨some (wNew base R, m2, m3), b + 1, allT ⟨q, b, X⟩⟩) := by
  unfold rootS
  rw [if_neg (by omega), if_neg (fun ⟨w, e, _⟩ => hs w m2 m3 e ⟨rfl, rfl⟩), if_pos hok]
theorem wNew_T (S : List PrR) (R : List UInt8) : (wNew S R).T.length = 31 := texts_len S
end TL

namespace TL
open Go Go.Proofs
variable {g h : PH} {N : List Nat} {K : Value → PH → Prop} {zb tb : Nat} {s : StS} {T : List PrR}
theorem root_no {m0 m2 m3 at_ : Int} {R : List UInt8} {base : List PrR} (hh : m0 ≠ 4 ∨ m2 ≤ at_ ∨ m3 < 1) : rootS s m0 m2 m3 R base at_ = (false, s) := by
  unfold rootS; rw [if_pos hh]
theorem StageKnown_den (hk : ∀ h', h.Sub h' → K (.bool true) h') : CallH Tryz.prog id_law22_StageKnown [] K h := by
  refine F_law22_StageKnown_ok (nwL (cs := EncPr.row sApp) fun b0 h1 _ hb0 c1 => ?_)
  have hsr : SR EncPr h1 (some ⟨b0, 0, none⟩) sApp := .inr ⟨b0, 0, rfl, rdsL hb0 rfl rfl⟩
  refine cOfT (l := sApp) hsr app_may (by decide) fun tb h2 ht _ c2 => ⟨_, _, rfl, fun e => by simp at e, fun _ => ?_⟩
  have s02 : h.Sub h2 := c1.sub0.tr c2.sub0
  refine cRootM ht ⟨_, _, _, _, _, _, _, _, _, _, bi (nd sApp 1), by rw [bi_len, nd_len], _, _, Z32, z32, Z32, z32, _, _, _, rfl, ?_⟩
  refine cSNew (Spl.start h2) fun zb N3 h3 x3 st3 _ _ => ⟨_, rfl, ?_⟩
  rw [List.append_nil] at st3
  refine cSRoot (base := []) x3 st3.spl (by decide) (by decide) (nd_len _ _) z32 z32 (.inl rfl) (by decide) (fun _ h => by cases h) fun g4 N4 h4 x4 st4 => ⟨_, rfl, ?_⟩
  rw [root_no (by omega)] at x4 ⊢
  dsimp only at x4
  have st24 := st3.trans st4
  refine cSRoot (base := []) x4 st4.spl (by decide) (by decide) (nd_len _ _) z32 z32 (.inl rfl) (by decide) (fun _ h => by cases h) fun g5 N5 h5 x5 st5 => ⟨_, rfl, ?_⟩
  rw [root_ok (by decide) (by decide) (fun _ _ _ e => by cases e) nil_may] at x5 ⊢
  dsimp only at x5
  have st25 := st24.trans st5
  have k0 := KnS.new
  generalize wNew [] (nd sApp 1) = w0 at *
  have e0T : allT ⟨some (w0, 5, 1), 0 + 1, allT ⟨none, 0, []⟩⟩ = [] ++ w0.T := rfl
  have l0T := k0.t
  refine cSRoot (base := []) x5 st5.spl (by rw [e0T, List.nil_append]; omega) (Nat.le_of_ble_eq_true rfl) (nd_len _ _) z32 z32 (.inl rfl) (by decide) (fun _ h => by cases h) fun g6 N6 h6 x6 st6 => ⟨_, rfl, ?_⟩
  have r3 : rootS ⟨some (w0, 5, 1), 0 + 1, allT ⟨none, 0, []⟩⟩ 4 5 1 (nd sApp 1) [] 4 = (false, ⟨some (w0, 5, 1), 0 + 1, allT ⟨none, 0, []⟩⟩) := by
    unfold rootS
    rw [if_neg (by omega), if_pos ⟨w0, rfl, k0.R⟩]
  rw [r3] at x6 ⊢
  dsimp only at x6
  have x6 : StageAt g6 N6 h6 zb ⟨some (w0, 5, 1), 1, []⟩ := x6
  have st26 := st25.trans st6
  have h0 : ∀ w' a e, (⟨some (w0, 5, 1), 1, []⟩ : StS).g = some (w', a, e) → w'.A 0 = none := fun w' a e hh => by cases hh; exact k0.a0
  refine cSAsks x6 st6.spl h0 fun aA aC g7 h7 s7 st7 hl7 => ⟨_, _, _, rfl, ?_⟩
  have eas : asksF ⟨some (w0, 5, 1), 1, []⟩ 2 = [askF 2 5 (askP (pc 0))] := by
    show (((wList w0.A).map askP).take 8).map (askF 2 5) = _
    rw [k0.row (by decide) (by decide)]; rfl
  have e01 : askP (pc 0) = (0, 0) := by decide +kernel
  obtain ⟨p1, p2, _, _⟩ := pc_in 0 (by decide)
  have st27 := st26.trans st7
  have x7 := x6.keep st7.gs fun q _ o e => s7 q o e
  rw [eas] at hl7 ⊢
  obtain ⟨bA, oA, hA, _⟩ := hl7.get (i := 0) (Nat.lt_succ_self 0)
  have rd : ∀ h', g7.Sub h' → h'.rds bA (oA + 0 * 107) 107 = some ((.int .u8 (5 : Int) :: (.int .i64 2 :: (.int .i64 5 :: (.int .i64 (0 : Int) :: (.int .i64 (0 : Int) :: (.int .i64 (0 : Int) :: (.slice none 0 0 :: (.int .i64 (0 : Int) :: (Z32.map (Value.int .u8) ++ (.int .i64 (askP (pc 0)).1 :: (.int .i64 (askP (pc 0)).2 :: (Z32.map (Value.int .u8) ++ (Z32.map (Value.int .u8) ++ ([.slice none 0 0] : List Value))))))))))))) : List Value)) := fun h' hs => by
    obtain ⟨b', o', hA', hr⟩ := (hl7.sub hs).get (i := 0) (Nat.lt_succ_self 0)
    rw [hA] at hA'; cases hA'
    have := hr _ 0 107 rfl (by decide)
    rw [show ([askF 2 5 (askP (pc 0))] : List MsgF)[0] = askF 2 5 (askP (pc 0)) from rfl, ask_enc, List.drop_zero, List.take_of_length_le (by rw [← ask_enc, EncMsg.len]; decide)] at this
    exact this
  have rd1 : ∀ k, k + 1 ≤ 107 → h7.rds bA (oA + 0 * 107 + k) 1 = some ((((EncMsg.enc (askF 2 5 (0, 0))).drop k).take 1)) := fun k hk => by
    obtain ⟨b', o', hA', hr⟩ := (hl7.sub st7.spl.sub).get (i := 0) (Nat.lt_succ_self 0)
    rw [hA] at hA'; cases hA'
    have := hr _ k 1 rfl hk
    rw [show ([askF 2 5 (askP (pc 0))] : List MsgF)[0] = askF 2 5 (askP (pc 0)) from rfl, e01] at this
    exact this
  rw [show ((([askF 2 5 (askP (pc 0))] : List MsgF).length : Nat) : Int) = 1 from rfl]
  refine cSGoal x7 st7.spl (fun hh => by cases hh) fun w a e hh hR => ?_
  cases hh
  refine ⟨_, bi w0.R, by rw [bi_len, hR], _, rfl, fun e => absurd e (by decide), fun _ => ?_⟩
  refine ⟨fun st h' => st.1 = true ∧ h' = h7, ⟨bA, oA, fun _ => ⟨hA, by decide, by decide⟩, 5, fun _ => rd1 0 (by decide), bA, oA, fun _ => ⟨hA, by decide, by decide⟩, 2, fun _ => rd1 1 (by decide), bA, oA, fun _ => ⟨hA, by decide, by decide⟩, 5, fun _ => rd1 2 (by decide), bA, oA, fun _ => ⟨hA, by decide, by decide⟩, 0, fun _ => rd1 40 (by decide), bA, oA, fun _ => ⟨hA, by decide, by decide⟩, 0, fun _ => rd1 41 (by decide), fun _ => ?_, fun e => absurd (show true = false from e) (by decide)⟩, ?_⟩
  · refine cRoot (ht.sub st27.gh) ⟨bi (nd sApp 1), by rw [bi_len, nd_len], rfl, ?_, rfl⟩
    dsimp only
    rw [k0.R]; simp
  rintro ⟨f, u⟩ h7' ⟨hf, rfl⟩
  dsimp only at hf
  subst hf
  cases u
  refine ⟨bA, oA, ⟨hA, by decide, by decide⟩, _, _, _, _, _, _, _, _, _, _, Z32, z32, _, _, Z32, z32, Z32, z32, _, _, _, rd h7' st7.spl.sub, ?_⟩
  refine cAnsStage x7 st7.spl (ht.sub st27.gs) p1 p2 z32 z32 z32 (fun w' a e hh => by cases hh; omega) fun g8 N8 h8 x8 st8 => ⟨_, rfl, ?_⟩
  have a6 : ansT ⟨some (w0, 5, 1), 1, []⟩ sApp (pc 0) 6 = (false, ⟨some (w0, 5, 1), 1, []⟩) := by
    unfold ansT; dsimp only; rw [if_pos (by decide)]
  rw [a6] at x8 ⊢
  dsimp only at x8
  have st28 := st27.trans st8
  refine ⟨bA, oA, ⟨hA, by decide, by decide⟩, _, _, _, _, _, _, _, _, _, _, Z32, z32, _, _, Z32, z32, Z32, z32, _, _, _, rd h8 st8.gh, ?_⟩
  refine cAnsStage x8 st8.spl (ht.sub st28.gs) p1 p2 z32 z32 z32 (fun w' a e hh => by cases hh; omega) fun g9 N9 h9 x9 st9 => ⟨_, rfl, ?_⟩
  obtain ⟨e9, k1⟩ := k0.next (by decide)
  have a5 : ansT ⟨some (w0, 5, 1), 1, []⟩ sApp (pc 0) 5 = (true, ⟨some ((answerW w0 sApp (pc 0)).2, 5, 1), 1, []⟩) := by
    unfold ansT; dsimp only; rw [if_neg (by decide), e9]
  rw [a5] at x9 ⊢
  dsimp only at x9
  have st29 := st28.trans st9
  generalize (answerW w0 sApp (pc 0)).2 = w1 at *
  have A1 := k1.at_ (by decide)
  have l1T := k1.t
  refine cSDone x9 st9.spl (fun w' a e hh i l hq => by cases hh; rw [(k1.in (by decide)).1] at hq; cases hq) (fun hh => by cases hh) (fun w' a e hh _ h10 s10 => ?_) fun w' a e hh hc _ => ?_
  rotate_left
  · exfalso
    cases hh
    have := hc (pc 1) (by decide) (by decide)
    rw [A1] at this; cases this
  refine ⟨_, _, _, _, _, _, rfl, ?_⟩
  cases hh
  have x10 := x9.keep (PH.Sub.rf _) fun q _ o e => s10 q o e
  have st10 := st9.spl.grow s10
  have hZ : (List.replicate 32 (0 : Int)) = bi (List.replicate 32 0) := bi_z32
  rw [hZ]
  refine cSAnswer (l := []) x10 st10.spl (by rw [bi_len]; simp) (by simp) (by simp) (.inl rfl) (by decide) (fun _ h => by cases h) (fun w' a e hh => by cases hh; omega) fun g11 N11 h11 x11 st11 => ⟨_, rfl, ?_⟩
  have a3 : answS ⟨some (w1, 5, 1), 1, []⟩ 3 5 0 0 (List.replicate 32 0) (List.replicate 32 0) [] = (false, ⟨some (w1, 5, 1), 1, []⟩) := by
    unfold answS; dsimp only
    rw [if_neg (by decide), if_neg (by decide), if_neg (by decide)]
  rw [a3] at x11 ⊢
  dsimp only at x11
  have st211 := st29.trans (st10.trans st11)
  have e1T : allT ⟨some (w1, 5, 1), 1, []⟩ = w1.T := List.nil_append _
  refine cSTexts x11 st11.spl (by rw [e1T]; omega) fun a12 c12 B12 h12 _ cc12 => ⟨_, _, _, rfl, ?_⟩
  have x12 := x11.keep (PH.Sub.rf _) fun q _ o e => cc12.sub0 q o e
  have st12 := st11.spl.grow cc12.sub0
  refine cSForget x12 st12.spl (by rw [e1T]; omega) fun N13 h13 x13 st13 => ?_
  have e2 : forgetS ⟨some (w1, 5, 1), 1, []⟩ = ⟨none, 1, w1.T⟩ := by
    unfold forgetS; rw [e1T]
  rw [e2] at x13
  rw [e1T, l1T]
  have st213 := st211.trans (st12.trans st13)
  refine ⟨fun st h' => st.1 = true ∧ ∃ g' N', StageAt g' N' h' zb ⟨none, 1, w1.T⟩ ∧ Stp h2 [] h2 g' N' h', ?_, ?_⟩
  · refine cSAsks x13 st13.spl (fun w' a e hh => by cases hh) fun a14 c14 g14 h14 s14 st14 _ => ⟨_, _, _, rfl, fun _ => ?_, fun e => ?_⟩
    · have x14 := x13.keep st14.gs fun q _ o e => s14 q o e
      refine cSBegun x14 ⟨_, rfl, fun _ => ?_, fun e => absurd e (by show ¬ ((((1 : Nat) : Int) == (1 : Int)) = false); decide)⟩
      have e3T : allT ⟨none, 1, w1.T⟩ = w1.T := rfl
      refine cSTexts x14 st14.spl (by rw [e3T]; omega) fun a15 c15 B15 h15 _ cc15 => ⟨_, _, _, rfl, ?_, g14, N13, x14.keep (PH.Sub.rf _) fun q _ o e => cc15.sub0 q o e, st213.trans (st14.trans (st14.spl.grow cc15.sub0))⟩
      dsimp only
      rw [e3T, l1T]; rfl
    · exact absurd e (by show ¬ ((((0 : Nat) : Int) == (0 : Int)) = false); decide)
  rintro ⟨f, u⟩ h16 ⟨hf, g16, N16, x16, st16⟩
  dsimp only at hf
  subst hf
  cases u
  refine cNew fun be h17 _ te c17 => ⟨_, rfl, ?_⟩
  have x17 := x16.keep (PH.Sub.rf _) fun q _ o e => c17.sub0 q o e
  have st17 := st16.trans (st16.spl.grow c17.sub0)
  refine cRootM te ⟨_, _, _, _, _, _, _, _, _, _, bi (nd [] 1), by rw [bi_len, nd_len], _, _, Z32, z32, Z32, z32, _, _, _, rfl, ?_⟩
  refine cSRoot (base := []) x17 st17.spl (by show w1.T.length ≤ _; omega) (Nat.le_of_ble_eq_true rfl) (nd_len _ _) z32 z32 (.inl rfl) (by decide) (fun _ h => by cases h) fun g18 N18 h18 x18 st18 => ⟨_, rfl, ?_⟩
  rw [root_ok (by decide) (by decide) (fun _ _ _ e => by cases e) nil_may] at x18 ⊢
  dsimp only at x18
  have hA0 : (wNew [] (nd [] 1)).A = fun _ => none := by unfold wNew; dsimp only; exact wAsk_not rfl
  have hQ0 : ∀ i, (wNew [] (nd [] 1)).Q i = none := fun i => by unfold wNew; rfl
  have hD0 : wDone (wNew [] (nd [] 1)) = [] := by
    unfold wDone
    exact List.flatMap_eq_nil_iff.2 fun i _ => rfl
  have hT0 := wNew_T [] (nd [] 1)
  have x18 : StageAt g18 N18 h18 zb ⟨some (wNew [] (nd [] 1), 9, 1), 2, w1.T⟩ := x18
  generalize wNew [] (nd [] 1) = w2 at *
  have st218 := st17.trans st18
  refine cSDone x18 st218.spl (fun w' a e hh i l hq => by cases hh; rw [hQ0] at hq; cases hq) (fun hh => by cases hh) (fun w' a e hh hc => ?_) fun w' a e hh _ _ l a' c' B' h19 hp _ hb cc => ?_
  · exfalso
    cases hh
    rcases hc with ⟨k', _, _, hk⟩ | ⟨_, hc⟩
    · rw [hA0] at hk; cases hk
    · rw [hD0] at hc; exact absurd hc (by decide)
  cases hh
  rw [hD0] at hp
  have hl : l = [] := List.perm_nil.1 hp
  subst hl
  refine ⟨_, _, _, _, _, _, rfl, ?_⟩
  have x19 := x18.keep (PH.Sub.rf _) fun q _ o e => cc.sub0 q o e
  have st19 := st218.trans (st218.spl.grow cc.sub0)
  have e4T : allT ⟨some (w2, 9, 1), 2, w1.T⟩ = w1.T ++ w2.T := rfl
  have l4T : (allT ⟨some (w2, 9, 1), 2, w1.T⟩).length ≤ 1000000 := by rw [e4T, List.length_append]; omega
  refine ⟨fun st h' => st.1 = false ∧ ∃ g' N', StageAt g' N' h' zb ⟨some (w2, 9, 1), 2, w1.T⟩ ∧ Stp h2 [] h2 g' N' h', ?_, ?_⟩
  · refine cSRoot (base := []) (R := List.replicate 32 0) x19 st19.spl l4T (Nat.le_of_ble_eq_true rfl) (by simp) (by rw [bi_len]; simp) (by rw [bi_len]; simp) (.inl rfl) (by decide) (fun _ h => by cases h) fun g20 N20 h20 x20 st20 => ⟨_, rfl, ?_⟩
    rw [root_no (by omega)] at x20 ⊢
    dsimp only at x20
    have st220 := st19.trans st20
    refine ⟨fun _ => ?_, fun e => by cases e⟩
    refine cRootM (ht.sub st220.gh) ⟨_, _, _, _, _, _, _, _, _, _, bi (nd sApp 1), by rw [bi_len, nd_len], _, _, Z32, z32, Z32, z32, _, _, _, rfl, ?_⟩
    refine cSRoot (base := []) x20 st20.spl l4T (Nat.le_of_ble_eq_true rfl) (nd_len _ _) z32 z32 (.inl rfl) (by decide) (fun _ h => by cases h) fun g21 N21 h21 x21 st21 => ⟨_, rfl, ?_⟩
    rw [root_no (by omega)] at x21 ⊢
    dsimp only at x21
    have st221 := st220.trans st21
    refine ⟨fun _ => ?_, fun e => by cases e⟩
    refine nwL (cs := EncPr.row [⟨[97, 112, 112], []⟩]) fun b22 h22 _ hb22 c22 => ?_
    have st22 := st21.spl.new c22
    have sr22 : SR EncPr (PH.plus g21 h22 [b22]) (some ⟨b22, 0, none⟩) [⟨[97, 112, 112], []⟩] := .inr ⟨b22, 0, rfl, rdsL (by rw [plus_in (by simp)]; exact hb22) rfl rfl⟩
    refine cSRoot (base := [⟨[97, 112, 112], []⟩]) (x21.keep st22.gs fun q _ o e => c22.sub0 q o e) st22.spl l4T (Nat.le_of_ble_eq_true rfl) (nd_len _ _) z32 z32 sr22 (by decide) (by decide) fun g23 N23 h23 x23 st23 => ⟨_, rfl, ?_⟩
    have r5 : rootS ⟨some (w2, 9, 1), 2, w1.T⟩ 4 5 1 (nd sApp 1) [⟨[97, 112, 112], []⟩] 4 = (false, ⟨some (w2, 9, 1), 2, w1.T⟩) := by
      unfold rootS
      rw [if_neg (by omega), if_neg (fun ⟨w, e, _⟩ => by cases e), if_neg (fun hh => by have hm : mayB [⟨[97, 112, 112], []⟩] = true := hh.1; rw [app_bad] at hm; cases hm)]
    rw [r5] at x23 ⊢
    exact ⟨rfl, g23, N23, x23, st221.trans (st22.trans st23)⟩
  rintro ⟨f, u⟩ h24 ⟨hf, g24, N24, x24, st24'⟩
  dsimp only at hf
  subst hf
  cases u
  refine ⟨fun _ => ?_, fun e => absurd (show true = false from e) (by decide)⟩
  refine cSBegun x24 ⟨_, rfl, fun _ => wk22 (s02.tr st24'.gh) hk, fun e => absurd e (by show ¬ ((((2 : Nat) : Int) == (2 : Int)) = false); decide)⟩
end TL
