/-
  Stages: roots, answers, asks. No condition.
-/
import Derived.Test.YtmcgndbfoebcnaaGreatPartF
namespace TL
open Go Go.Proofs
variable {g h : PH} {N : List Nat} {K : Value → PH → Prop} {zb : Nat} {s : StS}
def askF (ep a : Int) (p : Int × Int) : MsgF := fOf { msg0 with kd := 5, ep := ep, at_ := a, lv := p.1, ii := p.2 } none 0
theorem ask_row (ep a : Int) (p : Int × Int) : (.int .u8 (5 : Int) :: (.int .i64 ep :: (.int .i64 a :: (.int .i64 (0 : Int) :: (.int .i64 (0 : Int) :: (.int .i64 (0 : Int) :: (.slice none 0 0 :: (.int .i64 (0 : Int) :: ((List.replicate 32 0).map (Value.int .u8) ++ (.int .i64 p.1 :: (.int .i64 p.2 :: ((List.replicate 32 0).map (Value.int .u8) ++ ((List.replicate 32 0).map (Value.int .u8) ++ ([.slice none 0 0] : List Value))))))))))))) : List Value) = EncMsg.row [askF ep a p] := by
 simp only [Enc.row, List.flatMap_cons, List.flatMap_nil, EncMsg, encMsg, fOf, askF, msg0, hv_zero, List.append_nil]
 rfl
def asksF (s : StS) (ep : Int) : List MsgF := match s.g with
 | none => []
 | some (w, a, _) => (((wList w.A).map askP).take 8).map (askF ep a)
theorem asksF_len (s : StS) (ep : Int) : (asksF s ep).length ≤ 8 := by
 unfold asksF
 split
 ·simp
 ·rw [List.length_map, List.length_take]; omega
theorem asksF_in {a : Option Addr} {ep : Int} (x : SR EncMsg h a (asksF s ep)) : MsgsIn h a (asksF s ep) := by
 have hf : ∀ f ∈ asksF s ep, ∃ a p, f = askF ep a p := fun f hm => by
  unfold asksF at hm
  split at hm
  ·cases hm
  ·obtain ⟨p, _, e⟩ := List.mem_map.1 hm
   exact ⟨_, p, e.symm⟩
 refine ⟨x, fun f hm => ?_, fun f hm => ?_⟩
 ·obtain ⟨a, p, rfl⟩ := hf f hm
  exact ⟨.inl rfl, Nat.zero_le _⟩
 ·obtain ⟨a, p, rfl⟩ := hf f hm
  exact ⟨.inl rfl, Nat.zero_le _⟩
theorem cSAsks (x : StageAt g N h zb s) {M : List Nat} (sp : Spl g M h) (h0 : ∀ w a e, s.g = some (w, a, e) → w.A 0 = none) {ep : Int} (hk : ∀ a' c' g' h', h.Sub h' → Stp g M h g' M h' → SR EncMsg g' a' (asksF s ep) → K (.slice a' (asksF s ep).length c') h') :
  CallH Tryz.prog id_stage_Stage_Asks [.pointer (some ⟨zb, 0, none⟩), .int .i64 ep] K h := by
 refine F_stage_Stage_Asks_ok (cSNone x ⟨_, rfl, fun e => ?_, fun e => ?_⟩)
 ·have hq : s.g = none := by
   cases hq : s.g with
   | none => rfl
   | some q => rw [hq] at e; cases e
  have ha : asksF s ep = [] := by unfold asksF; rw [hq]
  rw [ha] at hk
  exact hk none 0 g h (PH.Sub.rf _) (Stp.refl sp) (.inl rfl)
 ·obtain ⟨gp, tA, tN, tC, Bt, Nw, rfl, nz, dj, hb, hbuf, hg⟩ := x
  cases hq : s.g with
  | none => rw [hq] at e; cases e
  | some q =>
  obtain ⟨w, a, e'⟩ := q
  rw [hq] at hg
  obtain ⟨gb, wb, rfl, hgb, hw⟩ := hg
  have ha : asksF s ep = (((wList w.A).map askP).take 8).map (askF ep a) := by unfold asksF; rw [hq]
  rw [ha] at hk
  obtain ⟨z0, z1, z2⟩ := zcells _ _ _ _ _ hb
  obtain ⟨y0, y1, y2⟩ := gcells (sp.sub _ _ hgb)
  refine ⟨zb, 0, rfl, _, z0, gb, 0, rfl, _, y0, cWWantG hw sp (h0 w a e' hq) fun aA aC g2 h2 s2 st2 hl2 => ⟨_, _, _, rfl, ?_⟩⟩
  have e8 : (8 : Int).toNat = 8 := rfl
  rw [e8] at hl2 ⊢
  generalize hL : ((wList w.A).map askP).take 8 = L at hl2 hk ⊢
  have hLl : L.length ≤ 8 := by rw [← hL, List.length_take]; omega
  refine LoopP.ind (fun (z : (Option Addr × Nat × Nat) × Int × Unit) h' => ∃ (i : Nat) (B' : List Nat), z.2.1 = i ∧ i ≤ L.length ∧ Buf EncMsg T_api_Msg B' h' z.1.1 z.1.2.1 z.1.2.2 ((L.take i).map (askF ep a)) ∧ Chg [] B' h2 h') (fun z _ => (L.length - z.2.1).toNat) ?_ ⟨0, [], rfl, Nat.zero_le _, Buf.nil _ _ _ _, Chg.refl _ _⟩
  rintro ⟨⟨oA, oN, oC⟩, zi, u⟩ h3 ⟨i, B3, hzi, hi, hb3, cc3⟩
  dsimp only at hzi hb3
  subst hzi
  dsimp only
  have hn3 := hb3.1
  rw [List.length_map, List.length_take] at hn3
  refine ⟨fun e => ?_, fun e => ?_⟩
  ·have e : i < L.length := by have := of_decide_eq_true e; omega
   have hit : ((i : Nat) : Int).toNat = i := by omega
   have wi : IntKind.wrap .i64 (((i : Nat) : Int) + (1 : Int)) = ((i + 1 : Nat) : Int) := by rw [wrap64] <;> omega
   obtain ⟨b4, o4, hA4, hr4⟩ := ((hl2.sub st2.spl.sub).sub cc3.sub0).get e
   obtain ⟨z0', _, _⟩ := zcells _ _ _ _ _ (cc3.sub0 _ _ (s2 _ _ hb))
   obtain ⟨_, y1', _⟩ := gcells (cc3.sub0 _ _ (s2 _ _ (sp.sub _ _ hgb)))
   rw [hit, wi]
   refine ⟨b4, o4, ⟨hA4, by omega, by omega⟩, L[i].1, L[i].2, hr4 _ 0 2 rfl (by decide), zb, 0, rfl, _, z0', gb, 0, rfl, _, y1', ?_⟩
   refine hb3.append (new := [askF ep a L[i]]) rfl (ask_row ep a L[i]) rfl (by omega) fun a5 c5 B5 h5 hb5 cc5 _ => ⟨⟨i + 1, B5, rfl, by omega, ?_, cc3.trans cc5⟩, by omega⟩
   rw [List.take_succ_eq_append_getElem e, List.map_append]; exact hb5
  ·have e : i = L.length := by have := of_decide_eq_false e; omega
   subst e
   rw [List.take_length] at hb3
   have st3 := st2.spl.new cc3
   have hn5 := hb3.1
   have := hk oA oC (PH.plus g2 h3 B3) h3 (s2.tr cc3.sub0) (st2.trans st3) (hb3.keep fun b hb o e => by rw [plus_in hb]; exact e).sr
   rw [← hn5] at this
   exact this
section
variable {m0 m1 m2 m3 m4 m5 m7 m9 m10 : Int} {m6A m13A : Option Addr} {m6N m6C m13N m13C : Nat} {m8 m11 m12 : List Int}
theorem cSRoot (x : StageAt g N h zb s) (sp : Spl g N h) (hT : (allT s).length ≤ 1000000) (hbn : s.b ≤ 1000000) {R : List UInt8} (hR : R.length = 32) (h11 : m11.length = 32) (h12 : m12.length = 32) {bA : Option Addr} {bC : Nat} {base : List PrR} (hl : SR EncPr g bA base) (hn : base.length ≤ 1000) (hs : ∀ x ∈ base, x.p.length ≤ 1000000) {at_ : Int}
  (hk : ∀ g' N' h', StageAt g' N' h' zb (rootS s m0 m2 m3 R base at_).2 → Stp g N h g' N' h' → K (.bool (rootS s m0 m2 m3 R base at_).1) h') :
  CallH Tryz.prog id_stage_Stage_Root [.pointer (some ⟨zb, 0, none⟩), mV m0 m1 m2 m3 m4 m5 m6A m6N m6C m7 (bi R) m9 m10 m11 m12 m13A m13N m13C, .slice bA base.length bC, .int .i64 at_] K h := by
 refine F_stage_Stage_Root_ok (by rw [bi_len, hR]) h11 h12 ⟨fun e => ?_, fun e => ?_⟩
 ·have e : m0 ≠ 4 ∨ m2 ≤ at_ ∨ m3 < 1 := by
   simp only [Option.isNone_some, Bool.false_or, Bool.or_eq_true, bne_iff_ne, decide_eq_true_eq] at e
   omega
  have er : rootS s m0 m2 m3 R base at_ = (false, s) := by unfold rootS; rw [if_pos e]
  rw [er] at hk
  exact hk g N h x (Stp.refl sp)
 ·have e : ¬ (m0 ≠ 4 ∨ m2 ≤ at_ ∨ m3 < 1) := by
   simp only [Option.isNone_some, Bool.false_or, Bool.or_eq_false_iff, bne_eq_false_iff_eq, decide_eq_false_iff_not] at e
   omega
  have same : (∃ w, s.g = some (w, m2, m3) ∧ w.R = R) → K (.bool false) h := fun hh => by
   have er : rootS s m0 m2 m3 R base at_ = (false, s) := by unfold rootS; rw [if_neg e, if_pos hh]
   rw [er] at hk
   exact hk g N h x (Stp.refl sp)
  refine ⟨fun _ h' => h' = h ∧ ¬ ∃ w, s.g = some (w, m2, m3) ∧ w.R = R, ?_, ?_⟩
  ·obtain ⟨gp, tA, tN, tC, Bt, Nw, rfl, nz, dj, hb, hbuf, hg⟩ := x
   obtain ⟨z0, z1, z2⟩ := zcells _ _ _ _ _ hb
   cases hq : s.g with
   | none =>
    rw [hq] at hg
    obtain ⟨rfl, rfl⟩ := hg
    exact ⟨zb, 0, rfl, none, z0, 0, 0, fun e => (by cases e), none, fun e => (by cases e), 0, 0, fun e => (by cases e), 0, fun e => (by cases e), 0, 0, fun e => (by cases e), none, fun e => (by cases e), 0, 0, fun e => (by cases e), 0, fun e => (by cases e), 0, 0, fun e => (by cases e), none, fun e => (by cases e), 0, 0, fun e => (by cases e), none, fun e => (by cases e), fun e => (by cases e), fun _ => ⟨rfl, fun ⟨w, e, _⟩ => by cases e⟩⟩
   | some q =>
   obtain ⟨w, a, e'⟩ := q
   rw [hq] at hg same
   obtain ⟨gb, wb, rfl, hgb, hw⟩ := hg
   obtain ⟨y0, y1, y2⟩ := gcells (sp.sub _ _ hgb)
   refine ⟨zb, 0, rfl, _, z0, zb, 0, fun _ => rfl, _, fun _ => z0, gb, 0, fun _ => rfl, a, fun _ => y1, zb, 0, fun _ => rfl, _, fun _ => z0, gb, 0, fun _ => rfl, e', fun _ => y2, zb, 0, fun _ => rfl, _, fun _ => z0, gb, 0, fun _ => rfl, _, fun _ => y0, fun e1 => ?_, fun e1 => ⟨rfl, ?_⟩⟩
   ·simp only [Option.isNone_some, Bool.not_false, Bool.true_and, Bool.and_eq_true, beq_iff_eq] at e1
    obtain ⟨rfl, rfl⟩ := e1
    refine cWRoot hw ⟨bi w.R, by rw [bi_len]; exact hw.R, rfl, fun e2 => ?_, fun e2 => ⟨rfl, ?_⟩⟩
    ·rw [bi_beq, decide_eq_true_eq] at e2
     exact same ⟨w, rfl, e2⟩
    ·rw [bi_beq, decide_eq_false_iff_not] at e2
     rintro ⟨w', ew, er⟩
     cases ew
     exact e2 er
   ·rintro ⟨w', ew, er⟩
    cases ew
    simp at e1
  rintro _ _ ⟨rfl, hns⟩
  have er0 : rootS s m0 m2 m3 R base at_ = if okP base then (true, ⟨some (wNew base R, m2, m3), s.b + 1, allT s⟩) else (false, s) := by unfold rootS; rw [if_neg e, if_neg hns]
  refine cWNew (sp.less (M := []) fun _ hm => by cases hm) hl hn hs hR (fun hno e he g' h' st' _ => ⟨_, _, rfl, fun _ => ?_, fun e2 => by rcases he with rfl | rfl <;> simp at e2⟩) fun hm h48 wb N3 g3 h3 w3 st3 _ => ⟨_, _, rfl, fun e => by simp at e, fun _ => ?_⟩
  ·rw [er0, if_neg hno] at hk
   obtain ⟨sf, _⟩ := st'.frame (N := []) (M := N) sp (Dj.nil N)
   exact hk g' N h' (x.stp st' (Dj.nil N)) sf
  ·rw [er0, if_pos ⟨hm, h48⟩] at hk
   rw [List.append_nil] at st3
   obtain ⟨sf3, d3⟩ := st3.frame (N := []) (M := N) sp (Dj.nil N)
   have x3 := x.stp st3 (Dj.nil N)
   refine cSForget x3 sf3.spl.right hT fun N4 h4 x4 st4 => ?_
   obtain ⟨sf4, d4⟩ := st4.frameR sf3.spl d3.symm
   have w4 := w3.stp st4 d3.symm
   refine nwL (cs := [.pointer (some ⟨wb, 0, none⟩), .int .i64 m2, .int .i64 m3]) fun gb h5 nb5 hb5 c5 => ?_
   have st5 := sf4.spl.new c5
   obtain ⟨gp, tA, tN, tC, Bt, Nw, rfl, nz, dj, hb, hbuf, hg⟩ := x4
   obtain ⟨hgp, rfl⟩ : gp = none ∧ Nw = [] := hg
   subst hgp
   rw [List.append_nil] at nz
   have hb5z := c5.sub0 _ _ hb
   refine ⟨zb, 0, rfl, stL hb5z rfl rfl fun h6 hb6 c6 => ?_⟩
   obtain ⟨_, z1, _⟩ := zcells _ _ _ _ _ hb6
   have wi : IntKind.wrap .i64 (((s.b : Nat) : Int) + (1 : Int)) = ((s.b + 1 : Nat) : Int) := by rw [wrap64] <;> omega
   refine ⟨zb, 0, rfl, _, z1, zb, 0, rfl, ?_⟩
   show stH h6 zb (0 + 1) [.int .i64 (IntKind.wrap .i64 (((s.b : Nat) : Int) + (1 : Int)))] _
   rw [wi]
   refine stL hb6 rfl rfl fun h7 hb7 c7 => ?_
   have cz := c6.trans c7
   have nzN3 : zb ∉ N3 := fun hm => d4 zb hm (by simp)
   have dBN3 : Dj Bt N3 := fun b hb hm => d4 b hm (by simp [hb])
   have w7 : WalkAt (PH.plus g3 h5 [gb]) N3 h7 wb (wNew base R) := (w4.keep st5.gs fun q _ o e => c5.sub0 q o e).keep (PH.Sub.rf _) fun q hq o e => cz.keep e fun hm => nzN3 (by rw [List.mem_singleton] at hm; subst hm; exact hq)
   have hbuf7 := (hbuf.sub c5.sub0).chg cz (notIn1 nz)
   have sp5 := st5.spl
   have st7 : Stp (PH.plus g3 h5 [gb]) (N3 ++ (zb :: (Bt ++ []))) h5 (PH.plus g3 h5 [gb]) (N3 ++ (zb :: (Bt ++ []))) h7 := sp5.chg (cz.sub (fun b hb => by rw [List.mem_singleton] at hb; subst hb; simp) fun b hb => .inr hb) fun q hq => by
    rcases List.mem_append.1 hq with hq1 | hq1
    ·obtain ⟨o, ho⟩ := sp5.has q (List.mem_append_left _ hq1)
     exact ⟨o, cz.keep ho fun hm => nzN3 (by rw [List.mem_singleton] at hm; rw [← hm]; exact hq1)⟩
    ·rcases List.mem_cons.1 hq1 with rfl | hq2
     ·exact ⟨_, hb7⟩
     ·rw [List.append_nil] at hq2
      exact hbuf7.has q hq2
   refine hk (PH.plus g3 h5 [gb]) (zb :: (Bt ++ N3)) h7 ⟨some ⟨gb, 0, none⟩, tA, tN, tC, Bt, N3, rfl, ?_, dBN3, hb7, hbuf7, gb, wb, rfl, by rw [plus_in (by simp)]; exact hb5, w7⟩ ((sf3.trans (sf4.trans (st5.trans st7))).less fun b hb => ?_)
   ·intro hm
    rcases List.mem_append.1 hm with hm | hm
    ·exact nz hm
    ·exact nzN3 hm
   ·simp only [List.mem_cons, List.mem_append, List.append_nil] at hb ⊢
    rcases hb with rfl | hb | hb
    ·exact .inr (.inl rfl)
    ·exact .inr (.inr hb)
    ·exact .inl hb
theorem cSAnswer (x : StageAt g N h zb s) (sp : Spl g N h) (h8 : m8.length = 32) {a b : List UInt8} (ha : a.length = 32) (hb' : b.length = 32) {lA : Option Addr} {lC : Nat} {l : List PrR} (hl : SR EncPr g lA l) (hn : l.length ≤ 1000) (hs : ∀ x ∈ l, x.p.length ≤ 1000000) (hT : ∀ w a e, s.g = some (w, a, e) → w.T.length ≤ 100000)
  (hk : ∀ g' N' h', StageAt g' N' h' zb (answS s m0 m2 m9 m10 a b l).2 → Stp g N h g' N' h' → K (.bool (answS s m0 m2 m9 m10 a b l).1) h') :
  CallH Tryz.prog id_stage_Stage_Answer [.pointer (some ⟨zb, 0, none⟩), mV m0 m1 m2 m3 m4 m5 m6A m6N m6C m7 m8 m9 m10 (bi a) (bi b) lA l.length lC] K h := by
 refine F_stage_Stage_Answer_ok h8 (by rw [bi_len, ha]) (by rw [bi_len, hb']) (cSNone x ⟨_, rfl, ?_⟩)
 have hxx := x
 obtain ⟨gp, tA, tN, tC, Bt, Nw, rfl, nz, dj, hb, hbuf, hg⟩ := x
 obtain ⟨z0, z1, z2⟩ := zcells _ _ _ _ _ hb
 cases hq : s.g with
 | none =>
  have ea : answS s m0 m2 m9 m10 a b l = (false, s) := by unfold answS; rw [hq]
  rw [ea] at hk
  exact ⟨0, 0, fun e => (by cases e), none, fun e => (by cases e), 0, 0, fun e => (by cases e), 0, fun e => (by cases e), fun _ => hk g _ h hxx (Stp.refl sp), fun e => by cases e⟩
 | some q =>
 obtain ⟨w, ga, e'⟩ := q
 rw [hq] at hg
 obtain ⟨gb, wb, rfl, hgb, hw⟩ := hg
 obtain ⟨y0, y1, y2⟩ := gcells (sp.sub _ _ hgb)
 have hTw := hT w ga e' hq
 have spw : Spl g ((zb :: Bt) ++ Nw) h := sp
 have dzw : Dj (zb :: Bt) Nw := fun q hq hm => by
  rcases List.mem_cons.1 hq with rfl | hq
  ·exact nz (List.mem_append_right _ hm)
  ·exact dj q hq hm
 refine ⟨zb, 0, fun _ => rfl, _, fun _ => z0, gb, 0, fun _ => rfl, ga, fun _ => y1, fun e => ?_, fun e => ?_⟩
 ·have e : m2 ≠ ga := by simpa using e
  have ea : answS s m0 m2 m9 m10 a b l = (false, s) := by unfold answS; rw [hq]; dsimp only; rw [if_pos e]
  rw [ea] at hk
  exact hk g _ h hxx (Stp.refl sp)
 ·have e : ¬ m2 ≠ ga := by simpa using e
  have fin : ∀ {g' : PH} {Nw' : List Nat} {h' : PH} {w' : WS}, WalkAt g' Nw' h' wb w' → Stp g Nw h g' Nw' h' → StageAt g' (zb :: (Bt ++ Nw')) h' zb { s with g := some (w', ga, e') } ∧ Stp g (zb :: (Bt ++ Nw)) h g' (zb :: (Bt ++ Nw')) h' := fun {g' Nw' h' w'} w1 st1 => by
   obtain ⟨sf1, d1⟩ := st1.frameR spw dzw
   refine ⟨⟨some ⟨gb, 0, none⟩, tA, tN, tC, Bt, Nw', rfl, fun hm => ?_, fun q hq => d1 q (List.mem_cons_of_mem _ hq), st1.chg.keep hb (dzw zb (by simp)), hbuf.keep fun q hq o eo => st1.chg.keep eo (dj q hq), gb, wb, rfl, st1.gs _ _ hgb, w1⟩, sf1⟩
   rcases List.mem_append.1 hm with hm | hm
   ·exact nz (List.mem_append_left _ hm)
   ·exact d1 zb (by simp) hm
  refine ⟨fun e6 => ?_, fun e6 => ⟨fun e7 => ?_, fun e7 => ?_⟩⟩
  ·have e6 : m0 = 6 := by simpa using e6
   have ea : answS s m0 m2 m9 m10 a b l = ((nodeW w m9 m10 a b).1, { s with g := some ((nodeW w m9 m10 a b).2, ga, e') }) := by unfold answS; rw [hq]; dsimp only; rw [if_neg e, if_pos e6]
   rw [ea] at hk
   refine ⟨zb, 0, rfl, _, z0, gb, 0, rfl, _, y0, cWNodeV hw spw.right ha hb' hTw fun N' h' w1 st1 => ⟨_, rfl, ?_⟩⟩
   obtain ⟨f1, f2⟩ := fin w1 st1
   exact hk g _ h' f1 f2
  ·have e6 : m0 ≠ 6 := by simpa using e6
   have e7 : m0 = 7 := by simpa using e7
   have ea : answS s m0 m2 m9 m10 a b l = ((pageW w m10 l).1, { s with g := some ((pageW w m10 l).2, ga, e') }) := by unfold answS; rw [hq]; dsimp only; rw [if_neg e, if_neg e6, if_pos e7]
   rw [ea] at hk
   refine ⟨zb, 0, rfl, _, z0, gb, 0, rfl, _, y0, cWPageV hw spw.right hl hn hs hTw fun g' N' h' w1 st1 => ⟨_, rfl, ?_⟩⟩
   obtain ⟨f1, f2⟩ := fin w1 st1
   exact hk g' _ h' f1 f2
  ·have e6 : m0 ≠ 6 := by simpa using e6
   have e7 : m0 ≠ 7 := by simpa using e7
   have ea : answS s m0 m2 m9 m10 a b l = (false, s) := by unfold answS; rw [hq]; dsimp only; rw [if_neg e, if_neg e6, if_neg e7]
   rw [ea] at hk
   exact hk g _ h hxx (Stp.refl sp)
end
end TL

namespace TL
open Go Go.Proofs
variable {g h : PH} {N : List Nat} {K : Value → PH → Prop} {zb tb : Nat} {s : StS} {T : List PrR}
theorem ask_enc (ep a : Int) (p : Int × Int) : EncMsg.enc (askF ep a p) = (.int .u8 (5 : Int) :: (.int .i64 ep :: (.int .i64 a :: (.int .i64 (0 : Int) :: (.int .i64 (0 : Int) :: (.int .i64 (0 : Int) :: (.slice none 0 0 :: (.int .i64 (0 : Int) :: (Z32.map (Value.int .u8) ++ (.int .i64 p.1 :: (.int .i64 p.2 :: (Z32.map (Value.int .u8) ++ (Z32.map (Value.int .u8) ++ ([.slice none 0 0] : List Value))))))))))))) : List Value) := by
 have := ask_row ep a p
 rw [show EncMsg.row [askF ep a p] = EncMsg.enc (askF ep a p) ++ [] from rfl, List.append_nil] at this
 exact this.symm
theorem askRd {a : Option Addr} {ep : Int} (x : SR EncMsg g a (asksF s ep)) (h0 : ∀ w a e, s.g = some (w, a, e) → w.A 0 = none) {i : Nat} (hi : i < (asksF s ep).length) :
  ∃ w ga e c b o, s.g = some (w, ga, e) ∧ 1 ≤ c ∧ c < 32 ∧ (w.A c).isSome = true ∧ (((wList w.A).map askP).take 8)[i]? = some (askP c) ∧ a = some ⟨b, o, none⟩ ∧ ∀ h', g.Sub h' →
   h'.rds b (o + i * 107) 107 = some ((.int .u8 (5 : Int) :: (.int .i64 ep :: (.int .i64 ga :: (.int .i64 (0 : Int) :: (.int .i64 (0 : Int) :: (.int .i64 (0 : Int) :: (.slice none 0 0 :: (.int .i64 (0 : Int) :: (Z32.map (Value.int .u8) ++ (.int .i64 (askP c).1 :: (.int .i64 (askP c).2 :: (Z32.map (Value.int .u8) ++ (Z32.map (Value.int .u8) ++ ([.slice none 0 0] : List Value))))))))))))) : List Value)) := by
 obtain ⟨b, o, hA, _⟩ := x.get hi
 cases hq : s.g with
 | none =>
  have : asksF s ep = [] := by unfold asksF; rw [hq]
  rw [this] at hi; cases hi
 | some q =>
  obtain ⟨w, ga, e⟩ := q
  have ha : asksF s ep = (((wList w.A).map askP).take 8).map (askF ep ga) := by unfold asksF; rw [hq]
  have hi2 : i < (((wList w.A).map askP).take 8).length := by rw [ha, List.length_map] at hi; exact hi
  obtain ⟨c, c1, c2, hc, hc2⟩ := askGet (h0 w ga e hq) hi2
  refine ⟨w, ga, e, c, b, o, rfl, c1, c2, hc, by rw [hc2, List.getElem?_eq_getElem hi2], hA, fun h' hs => ?_⟩
  obtain ⟨b', o', hA', hr⟩ := (x.sub hs).get hi
  rw [hA] at hA'; cases hA'
  have := hr _ 0 107 rfl (by decide)
  have e2 : (asksF s ep)[i] = askF ep ga (askP c) := by
   rw [hc2]
   simp only [ha, List.getElem_map]
  rw [e2, ask_enc, List.drop_zero, List.take_of_length_le (by rw [← ask_enc, EncMsg.len]; decide)] at this
  exact this
theorem cRootM (tr : Tr tb h T) {at_ ep : Int} (hk : K (mV 4 2 at_ ep 0 0 none 0 0 0 (bi (nd T 1)) 0 0 Z32 Z32 none 0 0) h) : CallH Tryz.prog id_law22_root [.pointer (some ⟨tb, 0, none⟩), .int .i64 at_, .int .i64 ep] K h :=
 F_law22_root_ok (cRoot tr ⟨bi (nd T 1), by rw [bi_len, nd_len], rfl, hk⟩)
noncomputable def ansT (s : StS) (T : List PrR) (c : Nat) (at_ : Int) : Bool × StS := match s.g with
 | none => (false, s)
 | some (w, a, e) => if at_ ≠ a then (false, s) else ((answerW w T c).1, { s with g := some ((answerW w T c).2, a, e) })
section
variable {m0 m1 m2 m3 m4 m5 m7 : Int} {m6A m13A : Option Addr} {m6N m6C m13N m13C : Nat} {m8 m11 m12 : List Int}
theorem cAnsStage (x : StageAt g N h zb s) (sp : Spl g N h) (tr : Tr tb g T) {c : Nat} (c1 : 1 ≤ c) (c2 : c < 32) (h8 : m8.length = 32) (h11 : m11.length = 32) (h12 : m12.length = 32) (hT : ∀ w a e, s.g = some (w, a, e) → w.T.length ≤ 100000) {at_ : Int}
  (hk : ∀ g' N' h', StageAt g' N' h' zb (ansT s T c at_).2 → Stp g N h g' N' h' → K (.bool (ansT s T c at_).1) h') :
  CallH Tryz.prog id_law22_Answer [.pointer (some ⟨tb, 0, none⟩), mV m0 m1 m2 m3 m4 m5 m6A m6N m6C m7 m8 (askP c).1 (askP c).2 m11 m12 m13A m13N m13C, .int .i64 at_] (fun v_7 h11 =>
   ∃ t0_4 : Int, ∃ t1_4 : Int, ∃ t2_3 : Int, ∃ t3_3 : Int, ∃ t4_3 : Int, ∃ t5_3 : Int, ∃ (t6A_3 : Option Addr) (t6N_3 t6C_3 : Nat), ∃ t7_3 : Int, ∃ t8_3 : List Int, t8_3.length = 32 ∧ ∃ t9_3 : Int, ∃ t10_3 : Int, ∃ t11_3 : List Int, t11_3.length = 32 ∧ ∃ t12_3 : List Int, t12_3.length = 32 ∧ ∃ (t13A_3 : Option Addr) (t13N_3 t13C_3 : Nat), v_7 = mV t0_4 t1_4 t2_3 t3_3 t4_3 t5_3 t6A_3 t6N_3 t6C_3 t7_3 t8_3 t9_3 t10_3 t11_3 t12_3 t13A_3 t13N_3 t13C_3 ∧
   CallH Tryz.prog id_stage_Stage_Answer [.pointer (some ⟨zb, 0, none⟩), mV t0_4 t1_4 t2_3 t3_3 t4_3 t5_3 t6A_3 t6N_3 t6C_3 t7_3 t8_3 t9_3 t10_3 t11_3 t12_3 t13A_3 t13N_3 t13C_3] K h11) h := by
 by_cases hc16 : 16 ≤ c
 ·obtain ⟨e1, e2⟩ := askP_leaf c c2 hc16
  have ea : ∀ a b, answS s 7 at_ 0 (askP c).2 a b (partB T (c - 16)) = ansT s T c at_ := fun a b => by
   unfold answS ansT
   cases s.g with
   | none => rfl
   | some q =>
    obtain ⟨w, a', e'⟩ := q
    dsimp only
    split
    ·rfl
    ·rw [if_neg (by decide), if_pos rfl]
     have : answerW w T c = pageW w (askP c).2 (partB T (c - 16)) := by unfold answerW; rw [if_pos hc16, e2]
     rw [this]
  refine F_law22_Answer_ok h8 h11 h12 ⟨fun _ => ?_, fun e => by rw [e1] at e; simp at e⟩
  rw [e2]
  refine cPairs (tr.sub sp.sub) (by omega) fun a' c' B' h1 hb1 cc1 => ⟨_, _, _, rfl, _, _, _, _, _, _, _, _, _, _, Z32, z32, _, _, Z32, z32, Z32, z32, _, _, _, rfl, ?_⟩
  have st1 := sp.new cc1
  have sr1 : SR EncPr (PH.plus g h1 B') a' (partB T (c - 16)) := (hb1.keep fun b hb o e => by rw [plus_in hb]; exact e).sr
  have hokp := part_ok tr.may tr.le (c - 16)
  have hZ : Z32 = bi (List.replicate 32 0) := bi_z32
  rw [hZ]
  refine cSAnswer (x.keep st1.gs fun q _ o e => cc1.sub0 q o e) st1.spl (by rw [bi_len]; simp) (by simp) (by simp) sr1 (by have := hokp.2.2; omega) (fun y hy => by have := (ok_len ((may_ok hokp.1).1 y hy)).1; omega) hT fun g' N' h' x' st' => ?_
  have := ea (List.replicate 32 0) (List.replicate 32 0)
  rw [e2] at this
  rw [this] at x' ⊢
  exact hk g' N' h' x' (st1.trans st')
 ·have c16 : c < 16 := by omega
  obtain ⟨q1, q2, q3⟩ := askP_kids c c16 c1
  have e1 : (askP c).1 = ((c.log2 : Nat) : Int) := rfl
  have e2 : (askP c).2 = ((c - 2 ^ c.log2 : Nat) : Int) := rfl
  have hlt := askP_in c c2 c1
  have w1 : IntKind.wrap .i64 ((askP c).1 + 1) = ((c.log2 + 1 : Nat) : Int) := by rw [e1, wrap64] <;> omega
  have hb16 : c - 2 ^ c.log2 < 32 := by omega
  have w2 : IntKind.wrap .i64 ((2 : Int) * (askP c).2) = ((2 * (c - 2 ^ c.log2) : Nat) : Int) := by rw [e2, wrap64] <;> omega
  have w3 : IntKind.wrap .i64 (((2 * (c - 2 ^ c.log2) : Nat) : Int) + 1) = ((2 * (c - 2 ^ c.log2) + 1 : Nat) : Int) := by rw [wrap64] <;> omega
  have hl4 : ¬ ((c.log2 : Nat) : Int) = 4 := by omega
  have ea : answS s 6 at_ (askP c).1 (askP c).2 (nd T (2 * c)) (nd T (2 * c + 1)) [] = ansT s T c at_ := by
   unfold answS ansT
   cases s.g with
   | none => rfl
   | some q =>
    obtain ⟨w, a', e'⟩ := q
    dsimp only
    split
    ·rfl
    ·rw [if_pos rfl]
     have : answerW w T c = nodeW w (askP c).1 (askP c).2 (nd T (2 * c)) (nd T (2 * c + 1)) := by unfold answerW; rw [if_neg hc16]
     rw [this]
  refine F_law22_Answer_ok h8 h11 h12 ⟨fun e => absurd (by simpa [e1] using e) hl4, fun _ => ?_⟩
  rw [w1, w2, w3]
  have r2 : 2 ^ (c.log2 + 1) + (2 * (c - 2 ^ c.log2) + 1) = 2 * c + 1 := by omega
  refine cNode (tr.sub sp.sub) q1 (by omega) ⟨bi (nd T (2 ^ (c.log2 + 1) + 2 * (c - 2 ^ c.log2))), by rw [bi_len, nd_len], _, rfl, cNode (tr.sub sp.sub) q1 q2 ⟨bi (nd T (2 ^ (c.log2 + 1) + (2 * (c - 2 ^ c.log2) + 1))), by rw [bi_len, nd_len], _, rfl, ?_⟩⟩
  rw [q3, r2]
  refine ⟨_, _, _, _, _, _, _, _, _, _, Z32, z32, _, _, bi (nd T (2 * c)), by rw [bi_len, nd_len], bi (nd T (2 * c + 1)), by rw [bi_len, nd_len], _, _, _, rfl, ?_⟩
  refine cSAnswer (l := []) x sp z32 (nd_len _ _) (nd_len _ _) (.inl rfl) (by decide) (fun _ h => by cases h) hT fun g' N' h' x' st' => ?_
  rw [ea] at x' ⊢
  exact hk g' N' h' x' st'
end
theorem cTurn22 {n : Int} {m : Nat} (hm : 0 < m) (hm2 : m ≤ 1000000) (hk : ∀ k : Nat, k < m → K (.int .i64 (k : Int)) h) : CallH Tryz.prog id_law22_turn [.int .i64 n, .int .i64 (m : Int)] K h := by
 obtain ⟨t1, t2⟩ := turn_in n hm hm2
 refine F_law22_turn_ok ⟨by omega, fun e => ?_, fun e => ?_⟩
 ·obtain ⟨q1, q2⟩ := t1 (of_decide_eq_true e)
  generalize IntKind.wrap .i64 (n.tmod (m : Int) + (m : Int)) = k at q1 q2 ⊢
  obtain ⟨k, rfl⟩ : ∃ j : Nat, k = j := ⟨k.toNat, by omega⟩
  exact hk k (by omega)
 ·obtain ⟨q1, q2⟩ := t2 (of_decide_eq_false e)
  generalize n.tmod (m : Int) = k at q1 q2 ⊢
  obtain ⟨k, rfl⟩ : ∃ j : Nat, k = j := ⟨k.toNat, by omega⟩
  exact hk k (by omega)
end TL

namespace TL
open Go Go.Proofs
variable {g h : PH} {N : List Nat} {K : Value → PH → Prop} {zb tb : Nat} {s : StS} {T : List PrR}
theorem cWakes22 (hk : ∀ h', h.Sub h' → K (.bool true) h') : CallH Tryz.prog id_law22_wakes [] K h := by
 refine F_law22_wakes_ok (nwL (cs := EncPr.row sApp) fun b0 h1 _ hb0 c1 => ?_)
 have hsr : SR EncPr h1 (some ⟨b0, 0, none⟩) sApp := .inr ⟨b0, 0, rfl, rdsL hb0 rfl rfl⟩
 refine cOfT (l := sApp) hsr app_may (by decide) fun tb h2 ht _ c2 => ⟨_, _, rfl, fun e => by simp at e, fun _ => ?_⟩
 refine cSNew (Spl.start h2) fun zb N3 h3 x3 st3 _ _ => ⟨_, rfl, ?_⟩
 rw [List.append_nil] at st3
 refine cRootM (ht.sub st3.gh) ⟨_, _, _, _, _, _, _, _, _, _, bi (nd sApp 1), by rw [bi_len, nd_len], _, _, Z32, z32, Z32, z32, _, _, _, rfl, ?_⟩
 refine cSRoot (base := []) x3 st3.spl (by decide) (by decide) (nd_len _ _) z32 z32 (.inl rfl) (by decide) (fun _ h => by cases h) fun g4 N4 h4 x4 st4 => ⟨_, rfl, ?_⟩
 have r1 : rootS ⟨none, 0, []⟩ 4 5 1 (nd sApp 1) [] 5 = (false, ⟨none, 0, []⟩) := by unfold rootS; rw [if_pos (by omega)]
 rw [r1] at x4 ⊢
 have st24 := st3.trans st4
 refine cRootM (ht.sub st24.gh) ⟨_, _, _, _, _, _, _, _, _, _, bi (nd sApp 1), by rw [bi_len, nd_len], _, _, Z32, z32, Z32, z32, _, _, _, rfl, ?_⟩
 refine cSRoot (base := []) x4 st4.spl (by decide) (by decide) (nd_len _ _) z32 z32 (.inl rfl) (by decide) (fun _ h => by cases h) fun g5 N5 h5 x5 st5 => ⟨_, rfl, ?_⟩
 have r2 : rootS ⟨none, 0, []⟩ 4 5 1 (nd sApp 1) [] 4 = (true, ⟨some (wNew [] (nd sApp 1), 5, 1), 1, []⟩) := by
  unfold rootS
  rw [if_neg (by omega), if_neg (fun ⟨w, e, _⟩ => by cases e), if_pos (show okP [] from nil_may)]
  rfl
 rw [r2] at x5 ⊢
 have st25 := st24.trans st5
 refine ⟨fun _ h' => ∃ g' N' w, StageAt g' N' h' zb ⟨some (w, 5, 1), 1, []⟩ ∧ Stp h2 [] h2 g' N' h' ∧ KnS w 5, ?_, ?_⟩
 ·refine LoopP.ind (fun (z : Int × Unit) h' => ∃ (j : Nat) (g' : PH) (N' : List Nat) (w : WS), z.1 = j ∧ j ≤ 5 ∧ StageAt g' N' h' zb ⟨some (w, 5, 1), 1, []⟩ ∧ Stp h2 [] h2 g' N' h' ∧ KnS w j) (fun z _ => (9 - z.1).toNat) ?_ ⟨0, g5, N5, _, rfl, Nat.zero_le _, x5, st25, KnS.new⟩
  rintro ⟨zj, u⟩ h6 ⟨j, g6, N6, w, hzj, hj, x6, st6, k⟩
  dsimp only at hzj
  subst hzj
  dsimp only
  have h0 : ∀ w' a e, (⟨some (w, 5, 1), 1, []⟩ : StS).g = some (w', a, e) → w'.A 0 = none := fun w' a e hh => by cases hh; exact k.a0
  refine ⟨fun _ => ?_, fun e => by have := of_decide_eq_false e; omega⟩
  refine cSAsks x6 st6.spl h0 fun aA aC g7 h7 s7 st7 hl7 => ⟨_, _, _, rfl, fun e => ?_, fun e => ?_⟩
  ·have hj5 : j = 5 := by
    by_cases h5 : j < 5
    ·exfalso
     have : (asksF ⟨some (w, 5, 1), 1, []⟩ 2).length = 1 := by
      show ((((wList w.A).map askP).take 8).map (askF 2 5)).length = 1
      rw [k.row h5 (by decide)]; rfl
     rw [this] at e
     simp at e
    ·omega
   subst hj5
   exact ⟨g7, N6, w, x6.keep st7.gs fun q _ o e => s7 q o e, st6.trans st7, k⟩
  ·have e0 : (asksF ⟨some (w, 5, 1), 1, []⟩ 2).length ≠ 0 := by simpa using e
   have h0' : 0 < (asksF ⟨some (w, 5, 1), 1, []⟩ 2).length := by omega
   have hj5 : j < 5 := by
    by_cases h5 : j < 5
    ·exact h5
    ·exfalso
     have : j = 5 := by omega
     subst this
     refine e0 ?_
     show ((((wList w.A).map askP).take 8).map (askF 2 5)).length = 0
     have : wList w.A = [] := List.filter_eq_nil_iff.2 fun d _ => by rw [k.end.1]; simp
     rw [this]; rfl
   obtain ⟨w', ga, e', c, b, o, hq, c1, c2, hc, hrow, hA, rd⟩ := askRd hl7 h0 h0'
   cases hq
   have hcp : c = pc j := by
    rw [k.row hj5 (by decide)] at hrow
    have hrow : askP (pc j) = askP c := by simpa using hrow
    exact (askP_inj _ (pc_in j hj5).2.1 c c2 (pc_in j hj5).1 c1 hrow).symm
   subst hcp
   refine ⟨b, o, ⟨hA, by decide, by omega⟩, _, _, _, _, _, _, _, _, _, _, Z32, z32, _, _, Z32, z32, Z32, z32, _, _, _, rd h7 st7.spl.sub, ?_⟩
   have hw' : IntKind.wrap .i64 (((j : Nat) : Int) + (1 : Int)) = ((j + 1 : Nat) : Int) := by rw [wrap64] <;> omega
   obtain ⟨en, kn⟩ := k.next hj5
   have ea : ansT ⟨some (w, 5, 1), 1, []⟩ sApp (pc j) 5 = ((answerW w sApp (pc j)).1, ⟨some ((answerW w sApp (pc j)).2, 5, 1), 1, []⟩) := rfl
   rw [hw']
   refine cAnsStage (x6.keep st7.gs fun q _ o e => s7 q o e) st7.spl (ht.sub (st6.gs.tr st7.gs)) c1 c2 z32 z32 z32 (fun w' a e hh => by cases hh; have := k.t; omega) fun g8 N8 h8 x8 st8 => ⟨_, rfl, ?_⟩
   rw [ea] at x8
   exact ⟨⟨j + 1, g8, N8, _, rfl, by omega, x8, st6.trans (st7.trans st8), kn⟩, by omega⟩
 rintro _ h6 ⟨g6, N6, w, x6, st6, k⟩
 refine cSDone x6 st6.spl (fun w' a e hh i l hl => ?_) (fun hh => by cases hh) (fun w' a e hh hc => ?_) fun w' a e hh _ _ l a' c' B' h7 hp _ hb cc => ?_
 ·cases hh
  rw [k.end.2] at hl
  by_cases e3 : i = 3
  ·subst e3; rw [upF_same] at hl; cases hl; decide
  ·rw [upF_ne _ _ e3] at hl; cases hl
 ·exfalso
  cases hh
  rcases hc with ⟨k', _, _, hk⟩ | ⟨_, hc⟩
  ·rw [k.end.1] at hk; cases hk
  ·rw [k.done] at hc; exact absurd hc (by decide)
 ·cases hh
  rw [k.done] at hp
  have hl : l = sApp := List.perm_singleton.1 hp
  subst hl
  obtain ⟨bb, oo, hA6, hr6⟩ := hb.sr.get (i := 0) (by decide)
  refine ⟨_, _, _, _, _, _, rfl, bb, oo, fun _ => ⟨hA6, by decide, by decide⟩, mk [49], fun _ => hr6 _ 1 1 rfl (by decide), fun _ => ?_, fun e => absurd e (by decide +kernel)⟩
  refine cSBegun (x6.keep (PH.Sub.rf _) fun q _ o e => cc.sub0 q o e) ⟨_, rfl, ?_⟩
  exact hk h7 (c1.sub0.tr (c2.sub0.tr (st6.gh.tr cc.sub0)))
theorem wk22 {h1 : PH} (s : h.Sub h1) (hk : ∀ h', h.Sub h' → K (.bool true) h') : CallH Tryz.prog id_law22_wakes [] (fun v h2 => ∃ t : Bool, v = .bool t ∧ K (.bool t) h2) h1 :=
 cWakes22 fun h' s' => ⟨true, rfl, hk h' (s.tr s')⟩
end TL

namespace TL
open Go Go.Proofs
variable {g h : PH} {N : List Nat} {K : Value → PH → Prop} {zb tb : Nat} {s : StS} {T : List PrR}
theorem Stp.also {g' h' : PH} {N' M : List Nat} (st : Stp g N h g' N' h') (sp : Spl g M h) (d : Dj M N) : Spl g' M h' ∧ Dj M N' :=
 ⟨⟨st.spl.sub, fun b hb => st.gn b (d b hb) (sp.has b hb) (sp.av b hb), fun b hb => by
  obtain ⟨o, ho⟩ := sp.has b hb
  exact ⟨o, st.chg.keep ho (d b hb)⟩⟩, st.chg.dj d sp.has⟩
structure PsR where
 a : Option Addr
 c : Nat
 ps : List PrR
def EncPs : Enc PsR where
 enc r := [.slice r.a r.ps.length r.c]
 k := 1
 len _ := rfl
 one o v hv := by
  simp only [List.mem_cons, List.not_mem_nil, or_false] at hv
  rcases hv with rfl; rfl
 pos := by decide
structure Ac22 where
 d : Int
 t : Int
 x1 : Int
 x2 : Int
 n : Int
 k : Int
def EncAc22 : Enc Ac22 where
 enc r := [.int .u8 r.d, .int .i64 r.t, .int .i64 r.x1, .int .i64 r.x2, .int .i64 r.n, .int .u8 r.k]
 k := 6
 len _ := rfl
 one o v hv := by
  simp only [List.mem_cons, List.not_mem_nil, or_false] at hv
  rcases hv with rfl | rfl | rfl | rfl | rfl | rfl <;> rfl
 pos := by decide
def EncPt : Enc Nat where
 enc b := [.pointer (some ⟨b, 0, none⟩)]
 k := 1
 len _ := rfl
 one o v hv := by
  simp only [List.mem_cons, List.not_mem_nil, or_false] at hv
  rcases hv with rfl; rfl
 pos := by decide
def gPs (l : List PsR) (n : Nat) : Bool := decide (5 < l.length) || (decide (120 < n) || l.any fun r => gPrs r.ps)
theorem gPs_no {l : List PsR} {n : Nat} (hg : gPs l n = false) : l.length ≤ 5 ∧ n ≤ 120 ∧ ∀ r ∈ l, r.ps.length ≤ 200 ∧ ∀ o ∈ r.ps, o.p.length ≤ 1000 := by
 simp only [gPs, Bool.or_eq_false_iff, decide_eq_false_iff_not, List.any_eq_false] at hg
 refine ⟨by omega, by omega, fun r hr => ?_⟩
 obtain ⟨p1, p2⟩ := gPrs_no (by simpa using hg.2.2 r hr : gPrs r.ps = false)
 exact ⟨p1, fun o ho => (p2 o ho).1⟩
theorem cGreat22 {lA aA : Option Addr} {lC n aC : Nat} {l : List PsR} (hl : SR EncPs h lA l) (hs : ∀ r ∈ l, SR EncPr h r.a r.ps) (hk : K (.bool (gPs l n)) h) : CallH Tryz.prog id_law22_Great [.slice lA l.length lC, .slice aA n aC] K h := by
 refine F_law22_Great_ok ⟨fun e => ?_, fun e => ?_⟩
 ·have e : 5 < l.length ∨ 120 < n := by
   simp only [Bool.or_eq_true, decide_eq_true_eq] at e; omega
  have : gPs l n = true := by
   simp only [gPs, Bool.or_eq_true, decide_eq_true_eq]
   rcases e with e | e
   ·exact .inl e
   ·exact .inr (.inl e)
  rw [this] at hk; exact hk
 ·have e0 : ¬ 5 < l.length ∧ ¬ 120 < n := by
   simp only [Bool.or_eq_false_iff, decide_eq_false_iff_not] at e; omega
  have hg : gPs l n = l.any fun r => gPrs r.ps := by simp only [gPs, e0.1, e0.2, decide_false, Bool.false_or]
  rw [hg] at hk
  refine LoopP.ind (fun (z : Int × Unit) h' => ∃ i : Nat, z.1 = i ∧ i ≤ l.length ∧ h' = h ∧ ∀ j, (hj : j < l.length) → j < i → gPrs l[j].ps = false) (fun z _ => (l.length - z.1).toNat) ?_ ⟨0, rfl, Nat.zero_le _, rfl, fun _ _ hj => absurd hj (Nat.not_lt_zero _)⟩
  rintro ⟨zi, u⟩ h1 ⟨i, hzi, hi, rfl, ha⟩
  dsimp only at hzi
  subst hzi
  dsimp only
  refine ⟨fun e1 => ?_, fun e1 => ?_⟩
  ·have e1 : i < l.length := by have := of_decide_eq_true e1; omega
   have hit : ((i : Nat) : Int).toNat = i := by omega
   have hwi : IntKind.wrap .i64 (((i : Nat) : Int) + (1 : Int)) = ((i + 1 : Nat) : Int) := by rw [wrap64] <;> omega
   obtain ⟨b, o, hA, hr⟩ := hl.get e1
   rw [hit, hwi]
   refine ⟨b, o, ⟨hA, by omega, by omega⟩, _, _, _, hr _ 0 1 rfl (by decide), cGreatPairs (hs _ (List.getElem_mem e1)) ⟨_, rfl, fun e2 => ?_, fun e2 => ⟨⟨i + 1, rfl, by omega, rfl, fun j hj hji => ?_⟩, by omega⟩⟩⟩
   ·have : (l.any fun r => gPrs r.ps) = true := List.any_eq_true.2 ⟨_, List.getElem_mem e1, e2⟩
    rw [this] at hk; exact hk
   ·by_cases hji2 : j = i
    ·subst hji2; exact e2
    ·exact ha j hj (by omega)
  ·have e1 : i = l.length := by have := of_decide_eq_false e1; omega
   have : (l.any fun r => gPrs r.ps) = false := by
    rw [List.any_eq_false]
    intro r hr
    obtain ⟨j, hj, rfl⟩ := List.getElem_of_mem hr
    have := ha j hj (by omega)
    simp [this]
   rw [this] at hk; exact hk
structure TrsAt (h : PH) (a : Option Addr) (bs : List Nat) (ts : List (List PrR)) : Prop where
 sr : SR EncPt h a bs
 len : bs.length = ts.length
 pos : 0 < ts.length
 tr : ∀ i (h1 : i < bs.length) (h2 : i < ts.length), Tr bs[i] h ts[i]
theorem TrsAt.sub {g' : PH} {a : Option Addr} {bs : List Nat} {ts : List (List PrR)} (x : TrsAt g a bs ts) (s : g.Sub g') : TrsAt g' a bs ts := ⟨x.sr.sub s, x.len, x.pos, fun i h1 h2 => (x.tr i h1 h2).sub s⟩
theorem TrsAt.get {a : Option Addr} {bs : List Nat} {ts : List (List PrR)} (x : TrsAt h a bs ts) {i : Nat} (hi : i < bs.length) : ∃ b o T, a = some ⟨b, o, none⟩ ∧ (∀ h', h.Sub h' → h'.rds b (o + i * 1) 1 = some [.pointer (some ⟨bs[i], 0, none⟩)]) ∧ Tr bs[i] h T ∧ ts[i]? = some T := by
 obtain ⟨b, o, hA, _⟩ := x.sr.get hi
 have h2 : i < ts.length := by rw [← x.len]; exact hi
 refine ⟨b, o, ts[i], hA, fun h' hs => ?_, x.tr i hi h2, List.getElem?_eq_getElem h2⟩
 obtain ⟨b', o', hA', hr⟩ := (x.sr.sub hs).get hi
 rw [hA] at hA'; cases hA'
 exact hr _ 0 1 rfl (by decide)
theorem cTrees {lA : Option Addr} {lC : Nat} {l : List PsR} {n : Nat} (hl : SR EncPs h lA l) (hs : ∀ r ∈ l, SR EncPr h r.a r.ps) (hg : gPs l n = false) (hk : ∀ a' c' bs ts h', h.Sub h' → TrsAt h' a' bs ts → bs.length ≤ 6 → K (.slice a' bs.length c') h') :
  CallH Tryz.prog id_law22_trees [.slice lA l.length lC] K h := by
 obtain ⟨n5, _, hp⟩ := gPs_no hg
 refine F_law22_trees_ok (cNew fun b0 h1 _ tr1 c1 => ⟨_, rfl, ?_⟩)
 refine nwL (cs := [.pointer (some ⟨b0, 0, none⟩)]) fun bv h2 nb2 hb2 c2 => ?_
 have st2 := (Spl.start h1).own c2 (has1 hb2)
 have hbuf0 : Buf EncPt 25 [bv] h2 (some ⟨bv, 0, none⟩) 1 1 [b0] := ⟨rfl, .inr ⟨bv, [], rfl, rfl, hb2, rfl, by decide⟩⟩
 refine LoopP.ind (fun (z : (Option Addr × Nat × Nat) × Int × Unit) h' => ∃ (i : Nat) (g' : PH) (B' bs : List Nat) (ts : List (List PrR)), z.2.1 = i ∧ i ≤ l.length ∧ Spl g' B' h' ∧ h.Sub g' ∧ Buf EncPt 25 B' h' z.1.1 z.1.2.1 z.1.2.2 bs ∧ bs.length = ts.length ∧ 0 < ts.length ∧ bs.length ≤ i + 1 ∧ ∀ i (h1 : i < bs.length) (h2 : i < ts.length), Tr bs[i] g' ts[i]) (fun z _ => (l.length - z.2.1).toNat) ?_
  ⟨0, h1, [bv], [b0], [[]], rfl, Nat.zero_le _, by simpa using st2.spl, c1.sub0, hbuf0, rfl, Nat.zero_lt_one, Nat.le_refl 1, fun i h1 h2 => by
   have : i = 0 := by simp at h1; omega
   subst this; exact tr1⟩
 rintro ⟨⟨oA, oN, oC⟩, zi, u⟩ h3 ⟨i, g3, B3, bs, ts, hzi, hi, sp3, s3, hb3, hlen, hpos, hle, htr⟩
 dsimp only at hzi hb3
 subst hzi
 dsimp only
 have hn3 := hb3.1
 refine ⟨fun e => ?_, fun e => ?_⟩
 ·have e : i < l.length := by have := of_decide_eq_true e; omega
  have hit : ((i : Nat) : Int).toNat = i := by omega
  have hwi : IntKind.wrap .i64 (((i : Nat) : Int) + (1 : Int)) = ((i + 1 : Nat) : Int) := by rw [wrap64] <;> omega
  obtain ⟨b, o, hA, hr⟩ := (hl.sub (s3.tr sp3.sub)).get e
  obtain ⟨q1, q2⟩ := hp _ (List.getElem_mem e)
  rw [hit, hwi]
  refine ⟨b, o, ⟨hA, by omega, by omega⟩, _, _, _, hr _ 0 1 rfl (by decide), ?_⟩
  refine sp3.call (K := fun v g' => ∃ t0 t1, v = .tuple #[.pointer t0, .int .i64 t1] ∧ g3.Sub g' ∧ ((t1 = (0 : Int) ∧ ∃ b, Tr b g' l[i].ps ∧ t0 = some ⟨b, 0, none⟩) ∨ t1 ≠ 0))
   (cOf3 ((hs _ (List.getElem_mem e)).sub s3) (by omega) (fun x hx => by have := q2 x hx; omega) (fun hok b h' ht _ c => ⟨_, _, rfl, c.sub0, .inl ⟨rfl, b, ht, rfl⟩⟩) fun hn e he _ => ⟨_, e, rfl, PH.Sub.rf _, .inr (by rcases he with rfl | rfl <;> decide)⟩) ?_
  rintro _ g4 h4 ⟨t0, t1, rfl, hgs, hor⟩ st
  obtain ⟨st4, keep4⟩ := st hgs
  have hb4 := hb3.keep keep4
  refine ⟨t0, t1, rfl, fun e2 => ?_, fun e2 => ?_⟩
  ·rcases hor with ⟨rfl, tb, trn, rfl⟩ | hne
   ·refine hb4.append (new := [tb]) rfl rfl rfl (by omega) fun a5 c5 B5 h5 hb5 cc5 _ => ?_
    have st5 := st4.spl.chg cc5 hb5.has
    refine ⟨⟨i + 1, g4, B5, bs ++ [tb], ts ++ [l[i].ps], rfl, by omega, st5.spl, s3.tr hgs, hb5, by simp [hlen], by simp, by simp; omega, fun j h1 h2 => ?_⟩, by omega⟩
    by_cases hj : j < bs.length
    ·rw [List.getElem_append_left hj, List.getElem_append_left (by omega)]
     exact (htr j hj (by omega)).sub hgs
    ·have : j = bs.length := by simp at h1; omega
     subst this
     rw [List.getElem_append_right (Nat.le_refl _), List.getElem_append_right (by omega)]
     simp only [Nat.sub_self, List.getElem_cons_zero, hlen]
     exact trn
   ·exfalso
    simp only [Bool.and_eq_true, beq_iff_eq] at e2
    exact hne e2.1
  ·exact ⟨⟨i + 1, g4, B3, bs, ts, rfl, by omega, st4.spl, s3.tr hgs, hb4, hlen, hpos, by omega, fun j h1 h2 => (htr j h1 h2).sub hgs⟩, by omega⟩
 ·have := hk oA oC bs ts h3 (s3.tr sp3.sub) ⟨hb3.sr, hlen, hpos, fun j h1 h2 => (htr j h1 h2).sub sp3.sub⟩ (by omega)
  rw [← hn3] at this
  exact this
end TL

namespace TL
open Go Go.Proofs
variable {g h : PH} {N : List Nat} {K : Value → PH → Prop} {zb tb : Nat} {s : StS} {T : List PrR}
theorem root_ok {q : Option (WS × Int × Int)} {b : Nat} {X : List (List UInt8)} {m2 m3 at_ : Int} {R : List UInt8} {base : List PrR} (h2 : at_ < m2) (h3 : 1 ≤ m3) (hs : ∀ w a e, q = some (w, a, e) → ¬ (a = m2 ∧ e = m3)) (hok : okP base) :
  rootS ⟨q, b, X⟩ 4 m2 m3 R base at_ = (true, ⟨some (wNew base R, m2, m3), b + 1, allT ⟨q, b, X⟩⟩) := by
 unfold rootS
 rw [if_neg (by omega), if_neg (fun ⟨w, e, _⟩ => hs w m2 m3 e ⟨rfl, rfl⟩), if_pos hok]
theorem wNew_T (S : List PrR) (R : List UInt8) : (wNew S R).T.length = 31 := texts_len S
end TL

namespace TL
open Go Go.Proofs
variable {g h : PH} {N : List Nat} {K : Value → PH → Prop} {zb ub tb : Nat} {s : StS} {T : List PrR}
structure Two2 (zb ub : Nat) (g : PH) (Nz Nu : List Nat) (h : PH) (S S2 : StS) : Prop where
 x : StageAt g Nz h zb S
 y : StageAt g Nu h ub S2
 sz : Spl g Nz h
 su : Spl g Nu h
 d : Dj Nz Nu
section
variable {Nz Nu Nz' Nu' : List Nat} {S S2 S' : StS} {g' h' : PH}
theorem Two2.l (I : Two2 zb ub g Nz Nu h S S2) (x : StageAt g' Nz' h' zb S') (st : Stp g Nz h g' Nz' h') : Two2 zb ub g' Nz' Nu h' S' S2 := by
 obtain ⟨a, b⟩ := st.also I.su I.d.symm
 exact ⟨x, I.y.stp st I.d.symm, st.spl, a, b.symm⟩
theorem Two2.r (I : Two2 zb ub g Nz Nu h S S2) (y : StageAt g' Nu' h' ub S') (st : Stp g Nu h g' Nu' h') : Two2 zb ub g' Nz Nu' h' S S' := by
 obtain ⟨a, b⟩ := st.also I.sz I.d
 exact ⟨I.x.stp st I.d, y, a, st.spl, b⟩
theorem Two2.up (I : Two2 zb ub g Nz Nu h S S2) (st : Stp g Nz h g' Nz h') (s' : h.Sub h') : Two2 zb ub g' Nz Nu h' S S2 :=
 I.l (I.x.keep st.gs fun q _ o e => s' q o e) st
theorem Two2.grow (I : Two2 zb ub g Nz Nu h S S2) (s' : h.Sub h') : Two2 zb ub g Nz Nu h' S S2 := I.up (I.sz.grow s') s'
end
end TL

namespace TL
open Go Go.Proofs
variable {g h : PH} {N : List Nat} {K : Value → PH → Prop} {zb tb : Nat} {s : StS} {T : List PrR}
end TL

namespace TL
open Go Go.Proofs
variable {g h : PH} {N : List Nat} {K : Value → PH → Prop} {zb sb tb : Nat} {s : StS} {T : List PrR}
variable {rA eA pA : Option Addr} {rC eC pC : Nat} {rows : List OsR} {eps : List Int} {prs : List PrR} {r0 r1 : Int}
theorem MsgsIn.whole {a : Option Addr} {L : List MsgF} (x : MsgsIn g a L) {i : Nat} (hi : i < L.length) : ∃ f b o, f = L[i] ∧ a = some ⟨b, o, none⟩ ∧ ∀ h', g.Sub h' → h'.rds b (o + i * 107) 107 = some (.int .u8 f.m.kd :: (.int .i64 f.m.ep :: (.int .i64 f.m.at_ :: (.int .i64 f.m.ae :: (.int .i64 f.m.ix :: (.int .i64 f.m.be :: (.slice f.oA f.m.ops.length f.oC :: (.int .i64 f.m.prev :: ((bi f.m.root.1).map (Value.int .u8) ++ (.int .i64 f.m.lv :: (.int .i64 f.m.ii :: ((bi f.m.left.1).map (Value.int .u8) ++ ((bi f.m.right.1).map (Value.int .u8) ++ ([.slice f.pA f.m.prs.length f.pC] : List Value)))))))))))))) := by
 obtain ⟨b, o, hA, _⟩ := x.rd hi
 refine ⟨_, b, o, rfl, hA, fun h' hs => ?_⟩
 obtain ⟨b', o', hA', rF⟩ := (x.sub hs).rd hi
 rw [hA] at hA'; cases hA'
 exact rF 0 107 _ (Nat.le_refl _) (by rw [List.drop_zero]; exact List.take_of_length_le (Nat.le_of_eq (EncMsg.len _))) _ rfl
structure ShW (T : List PrR) (w : WS) : Prop where
 f : ∃ W X, FewV w W X T
 v : WOk w
 R : w.R = nd T 1
 z : wSize w.A ≤ 31
 t : w.T.length + wSize w.A ≤ 62
theorem ShW.new {base : List PrR} (hb : okP base) : ShW T (wNew base (nd T 1)) := by
 have hz := wSize_new base (nd T 1)
 have ht := wNew_T base (nd T 1)
 refine ⟨⟨_, _, FewV.new hb.1 hb.2 rfl⟩, WOk.new hb.1 hb.2 (nd_len _ _), ?_, hz, by omega⟩
 unfold wNew; dsimp only
theorem ShW.answer {w : WS} {c : Nat} (I : ShW T w) (hT : okP T) (c1 : 1 ≤ c) (c2 : c < 32) : ShW T (answerW w T c).2 ∧ wSize (answerW w T c).2.A ≤ wSize w.A ∧ ((w.A c).isSome = true → wSize (answerW w T c).2.A + 1 ≤ wSize w.A) := by
 obtain ⟨W, X, hf⟩ := I.f
 have kp := answerW_keep (s := w) (T := T) (c := c)
 have h1 := I.z
 have h2 := I.t
 by_cases hc : (w.A c).isSome = true
 ·obtain ⟨y, hy⟩ := Option.isSome_iff_exists.1 hc
  obtain ⟨_, W', t', hf'⟩ := hf.answer hT.1 hT.2 hc
  have hyT := (hf.ask hy).2.2.2.1
  have hls := answerW_less c1 c2 hT.1 hT.2 (by rw [hy, hyT] : w.A c = some (nd T c))
  have h3 := kp.t
  exact ⟨⟨⟨_, _, hf'⟩, I.v.answer, kp.R.trans I.R, by omega, by omega⟩, by omega, fun _ => hls⟩
 ·have e : answerW w T c = (false, w) := answerW_no c2 (fun e => hc (by rw [e]; rfl)) c1
  rw [e]
  exact ⟨I, Nat.le_refl _, fun e => absurd e hc⟩
inductive StSh (T : List PrR) (a e : Int) : StS → Prop
 | no : StSh T a e ⟨none, 0, []⟩
 | on {w : WS} : ShW T w → StSh T a e ⟨some (w, a, e), 1, []⟩
theorem StSh.all {a e : Int} (I : StSh T a e s) : (allT s).length ≤ 62 ∧ s.b ≤ 1 := by
 cases I with
 | no => exact ⟨Nat.zero_le _, Nat.zero_le _⟩
 | @on w k =>
  have := k.t
  refine ⟨?_, Nat.le_refl _⟩
  show ([] ++ w.T).length ≤ 62
  rw [List.nil_append]; omega
theorem StSh.a0 {a e : Int} (I : StSh T a e s) : ∀ w' a' e', s.g = some (w', a', e') → w'.A 0 = none := fun w' a' e' hq => by
 cases I with
 | no => cases hq
 | on k => cases hq; exact k.v.a0
theorem StSh.root {a e : Int} (I : StSh T a e s) (he : 1 ≤ e) {base : List PrR} (hb : okP base) :
  (∃ w, (rootS s 4 a e (nd T 1) base (a - 1)).2 = ⟨some (w, a, e), 1, []⟩ ∧ ShW T w) ∧ (∀ w, s = ⟨some (w, a, e), 1, []⟩ → (rootS s 4 a e (nd T 1) base (a - 1)).2 = s) := by
 cases I with
 | no =>
  rw [root_ok (by omega) he (fun _ _ _ e => by cases e) hb]
  exact ⟨⟨_, rfl, ShW.new hb⟩, fun w hq => by cases hq⟩
 | @on w k =>
  have : rootS ⟨some (w, a, e), 1, []⟩ 4 a e (nd T 1) base (a - 1) = (false, ⟨some (w, a, e), 1, []⟩) := by
   unfold rootS
   rw [if_neg (by omega), if_pos ⟨w, rfl, k.R⟩]
  rw [this]
  exact ⟨⟨w, rfl, k⟩, fun _ _ => rfl⟩
structure ShI (h0 : PH) (zb sb : Nat) (sS : ShS) (S : StS) (Ns : List Nat) (g : PH) (N : List Nat) (h : PH) : Prop where
 x : StageAt g N h zb S
 sh : ShipAt g Ns h sb sS
 dj : Dj Ns N
 st : Stp h0 [] h0 g (N ++ Ns) h
section
variable {h0 g' h' : PH} {sS sS' : ShS} {S S' : StS} {Ns N' Ns' : List Nat}
theorem ShI.stage (I : ShI h0 zb sb sS S Ns g N h) (x : StageAt g' N' h' zb S') (st : Stp g N h g' N' h') : ShI h0 zb sb sS S' Ns g' N' h' := by
 obtain ⟨sf, d⟩ := st.frame I.st.spl I.dj
 exact ⟨x, I.sh.stp st I.dj, d, I.st.trans sf⟩
theorem ShI.ship (I : ShI h0 zb sb sS S Ns g N h) (x : ShipAt g' Ns' h' sb sS') (st : Stp g Ns h g' Ns' h') : ShI h0 zb sb sS' S Ns' g' N h' := by
 obtain ⟨sf, d⟩ := st.frameR I.st.spl I.dj.symm
 exact ⟨I.x.stp st I.dj.symm, x, d.symm, I.st.trans sf⟩
theorem ShI.up (I : ShI h0 zb sb sS S Ns g N h) (st : Stp g (N ++ Ns) h g' (N ++ Ns) h') (s' : h.Sub h') : ShI h0 zb sb sS S Ns g' N h' :=
 ⟨I.x.keep st.gs fun q _ o e => s' q o e, I.sh.keep st.gs fun q _ o e => s' q o e, I.dj, I.st.trans st⟩
theorem ShI.grow (I : ShI h0 zb sb sS S Ns g N h) (s' : h.Sub h') : ShI h0 zb sb sS S Ns g N h' := I.up (I.st.spl.grow s') s'
end
theorem ShI.collides {h0 : PH} {sS : ShS} {w : WS} {Ns : List Nat} {a e : Int} {mA : Option Addr} {mC : Nat} {m : List PrR} (I : ShI h0 zb sb sS ⟨some (w, a, e), 1, []⟩ Ns g N h) (k : ShW T w) (hT : okP T) (hd : ∀ c, w.A c = none) (hs : sS.texts = textsT T)
  (hm : SR EncPr h mA m) (hmay : mayB m = true) (h48 : m.length ≤ 48) (hno : ¬ (∀ i, i < 16 → wPart w i = partB T i)) (hk : ∀ h', h.Sub h' → K (.bool true) h') :
  CallH Tryz.prog id_law22_collides [.pointer (some ⟨zb, 0, none⟩), .pointer (some ⟨sb, 0, none⟩), .slice mA m.length mC] K h := by
 have tl : ∀ S : List PrR, (textsT S).length = 31 := texts_len
 have ht := k.t
 have eT : allT ⟨some (w, a, e), 1, []⟩ = w.T := List.nil_append _
 refine F_law22_collides_ok (cSTexts I.x I.st.spl.left (by rw [eT]; omega) fun a1 c1 B1 h1 hb1 cc1 => ⟨_, _, _, rfl, ?_⟩)
 rw [eT] at hb1 ⊢
 refine cShTexts (I.sh.keep (PH.Sub.rf _) fun q _ o e => cc1.sub0 q o e) (by rw [hs, tl]; decide) fun a2 c2 B2 h2 hb2 cc2 => ⟨_, _, _, rfl, EncS.row sS.texts, hb2.sr.src, ?_⟩
 rw [hs] at hb2 ⊢
 refine (hb1.sub cc2.sub0).append (new := textsT T) rfl rfl rfl (by rw [tl]; omega) fun a3 c3 B3 h3 hb3 cc3 _ => ?_
 have cA : Chg [] B3 h h3 := (cc1.trans ⟨fun b o _ e => cc2.sub0 b o e, fun b hb => .inl hb⟩).trans cc3
 refine cRTexts (hm.sub cA.sub0) hmay h48 fun a4 c4 B4 h4 hb4 cc4 => ⟨_, _, _, rfl, EncS.row (textsT m), hb4.sr.src, ?_⟩
 refine (hb3.sub cc4.sub0).append (new := textsT m) rfl rfl rfl (by rw [tl, tl]; omega) fun a5 c5 B5 h5 hb5 cc5 _ => ?_
 have hlen := hb5.1
 rw [hlen]
 have cB : Chg [] B5 h h5 := (cA.trans ⟨fun b o _ e => cc4.sub0 b o e, fun b hb => .inl hb⟩).trans cc5
 refine cCollides hb5.sr (by rw [List.length_append, List.length_append, tl, tl]; omega) (fun t ht => ?_) fun cc h7 hcc s7 => ⟨_, rfl, ?_⟩
 ·rcases List.mem_append.1 ht with ht | ht
  ·rcases List.mem_append.1 ht with ht | ht
   ·exact k.v.ts t ht
   ·exact textsT_le hT.1 hT.2 t ht
  ·exact textsT_le hmay h48 t ht
 ·cases cc with
  | true => exact hk h7 (cB.sub0.tr s7)
  | false => exact absurd (k.v.parts k.R hT.1 hT.2 hd (hcc rfl) (fun t ht => by simp [ht]) (fun t ht => by simp [ht])) hno
end TL

namespace TL
open Go Go.Proofs
variable {g h : PH} {N : List Nat} {K : Value → PH → Prop} {rb : Nat} {s : StS} {ra re : Int}
def refGoal (g : PH) (Nw : List Nat) (h : PH) (gp : Option Addr) (ra re : Int) : Option (WS × Int × Int) → Prop
 | none => gp = none ∧ Nw = []
 | some (w, a, e) => a = ra ∧ e = re ∧ ∃ xb, gp = some ⟨xb, 0, none⟩ ∧ Nw = [xb] ∧ RefAt g h xb w
structure RStAt (g : PH) (N : List Nat) (h : PH) (rb : Nat) (s : StS) (ra re : Int) : Prop where
 mem : ∃ gp tA tC Nw, N = rb :: Nw ∧ rb ∉ Nw ∧ h rb = some (.cells ([.pointer gp, .int .i64 ra, .int .i64 re, .int .i64 (s.b : Nat), .slice tA s.T.length tC] : List Value).toArray T_ref22_Stage (0, 0)) ∧ SR EncS g tA s.T ∧ refGoal g Nw h gp ra re s.g
theorem refGoal.keep {g' h' : PH} {Nw : List Nat} {gp : Option Addr} {q : Option (WS × Int × Int)} (x : refGoal g Nw h gp ra re q) (hs : g.Sub g') (hk : ∀ b ∈ Nw, ∀ o, h b = some o → h' b = some o) : refGoal g' Nw h' gp ra re q := by
 unfold refGoal at x ⊢
 split at x
 ·exact x
 ·obtain ⟨h1, h2, xb, h3, h4, h5⟩ := x
  subst h4
  exact ⟨h1, h2, xb, h3, rfl, h5.keep hs (hk xb (by simp))⟩
theorem RStAt.keep {g' h' : PH} (x : RStAt g N h rb s ra re) (hs : g.Sub g') (hk : ∀ b ∈ N, ∀ o, h b = some o → h' b = some o) : RStAt g' N h' rb s ra re := by
 obtain ⟨gp, tA, tC, Nw, rfl, nz, hb, ht, hg⟩ := x
 exact ⟨gp, tA, tC, Nw, rfl, nz, hk _ (by simp) _ hb, ht.sub hs, hg.keep hs fun b hb' => hk b (List.mem_cons_of_mem _ hb')⟩
theorem RStAt.stp {M M' : List Nat} {g' h' : PH} (x : RStAt g N h rb s ra re) (t : Stp g M h g' M' h') (d : Dj N M) : RStAt g' N h' rb s ra re :=
 x.keep t.gs fun b hb _ e => t.chg.keep e (d b hb)
theorem rcells {p : Option Addr} {a e b : Int} {t : Option Addr} {n c o : Nat} {T : TypeId} (hb : h o = some (.cells ([.pointer p, .int .i64 a, .int .i64 e, .int .i64 b, .slice t n c] : List Value).toArray T (0, 0))) :
  h.rds o 0 1 = some [.pointer p] ∧ h.rds o (0 + 1) 1 = some [.int .i64 a] ∧ h.rds o (0 + 2) 1 = some [.int .i64 e] ∧ h.rds o (0 + 3) 1 = some [.int .i64 b] ∧ h.rds o (0 + 4) 1 = some [.slice t n c] := ⟨rdsL hb rfl rfl, rdsL hb rfl rfl, rdsL hb rfl rfl, rdsL hb rfl rfl, rdsL hb rfl rfl⟩
theorem RefAt.rdR {xb : Nat} {w : WS} (x : RefAt g h xb w) : h.rds xb (0 + 2) 32 = some ((bi w.R).map (Value.int .u8) ++ []) := by
 obtain ⟨L, hb, hx⟩ := x.mem
 rw [List.append_nil, ← hx.root]
 exact rds_of hb (by have := hx.len; omega)
theorem cRSAsks (x : RStAt g N h rb s ra re) {M : List Nat} (sp : Spl g M h) {ep : Int} (hk : ∀ a' c' g' h', h.Sub h' → Stp g M h g' M h' → SR EncMsg g' a' (asksF s ep) → K (.slice a' (asksF s ep).length c') h') :
  CallH Tryz.prog id_ref22_Stage_Asks [.pointer (some ⟨rb, 0, none⟩), .int .i64 ep] K h := by
 obtain ⟨gp, tA, tC, Nw, rfl, nz, hb, ht, hg⟩ := x
 cases hq : s.g with
 | none =>
  rw [hq] at hg
  obtain ⟨rfl, rfl⟩ := hg
  have ha : asksF s ep = [] := by unfold asksF; rw [hq]
  rw [ha] at hk
  obtain ⟨z0, _⟩ := rcells hb
  refine F_ref22_Stage_Asks_ok (LoopP.ind (fun (z : (Option Addr × Nat × Nat) × Int × Unit) h' => z = ((none, 0, 0), 0, ()) ∧ h' = h) (fun z _ => 0) ?_ ⟨rfl, rfl⟩)
  rintro _ _ ⟨rfl, rfl⟩
  exact ⟨rb, 0, rfl, none, z0, 0, 0, fun e => (by cases e), none, fun e => (by cases e), 0, 0, fun e => (by cases e), none, 0, 0, fun e => (by cases e), fun e => (by cases e), fun _ => hk none 0 g _ (PH.Sub.rf _) (Stp.refl sp) (.inl rfl)⟩
 | some q =>
 obtain ⟨w, a, e'⟩ := q
 rw [hq] at hg
 obtain ⟨rfl, rfl, xb, rfl, rfl, hw⟩ := hg
 have ha : asksF s ep = (((wList w.A).map askP).take 8).map (askF ep a) := by unfold asksF; rw [hq]
 rw [ha] at hk
 obtain ⟨L, hbx, hx⟩ := hw.mem
 obtain ⟨aA, aC, q1, q2, q3⟩ := hx.ask
 have hnl := ndL_len w.A
 generalize hL : ((wList w.A).map askP).take 8 = R at hk ⊢
 have hRl : R.length = min 8 (wList w.A).length := by rw [← hL, List.length_take, List.length_map]
 refine F_ref22_Stage_Asks_ok (LoopP.ind (fun (z : (Option Addr × Nat × Nat) × Int × Unit) h' => ∃ (i : Nat) (B' : List Nat), z.2.1 = i ∧ i ≤ R.length ∧ Buf EncMsg T_api_Msg B' h' z.1.1 z.1.2.1 z.1.2.2 ((R.take i).map (askF ep a)) ∧ Chg [] B' h h') (fun z _ => (R.length - z.2.1).toNat) ?_ ⟨0, [], rfl, Nat.zero_le _, Buf.nil _ _ _ _, Chg.refl _ _⟩)
 rintro ⟨⟨oA, oN, oC⟩, zi, u⟩ h3 ⟨i, B3, hzi, hi, hb3, cc3⟩
 dsimp only at hzi hb3
 subst hzi
 dsimp only
 have hn3 := hb3.1
 rw [List.length_map, List.length_take] at hn3
 have hb' := cc3.sub0 _ _ hb
 obtain ⟨z0, z1, _⟩ := rcells hb'
 have r34 := rd1 (o := 0 + 34) (cc3.sub0 _ _ hbx) q1
 refine ⟨rb, 0, rfl, _, z0, rb, 0, fun _ => rfl, _, fun _ => z0, xb, 0, fun _ => rfl, _, _, _, fun _ => r34, fun e => ?_, fun e => ?_⟩
 ·simp only [Option.isNone_some, Bool.not_false, Bool.true_and, Bool.and_eq_true, decide_eq_true_eq] at e
  have e : i < R.length := by omega
  have hiw : i < (wList w.A).length := by omega
  have hit : ((i : Nat) : Int).toNat = i := by omega
  have wi : IntKind.wrap .i64 (((i : Nat) : Int) + (1 : Int)) = ((i + 1 : Nat) : Int) := by rw [wrap64] <;> omega
  obtain ⟨b4, o4, hA4, hr4⟩ := ((q2.sub sp.sub).sub cc3.sub0).get (i := i) (by omega)
  have en : (ndL w.A)[i]'(by omega) = ndR w.A (wList w.A)[i] := by simp only [ndL, List.getElem_map]
  have eR : R[i] = askP (wList w.A)[i] := by simp only [← hL, List.getElem_take, List.getElem_map]
  have r0 := hr4 _ 0 1 rfl (by decide)
  have r1 := hr4 _ 1 1 rfl (by decide)
  rw [en] at r0 r1
  rw [hit, wi]
  refine ⟨rb, 0, rfl, _, z1, rb, 0, rfl, _, z0, xb, 0, rfl, _, _, _, r34, b4, o4, ⟨hA4, by omega, by omega⟩, (askP (wList w.A)[i]).1, r0, rb, 0, rfl, _, z0, xb, 0, rfl, _, _, _, r34, b4, o4, ⟨hA4, by omega, by omega⟩, (askP (wList w.A)[i]).2, r1, ?_⟩
  refine hb3.append (new := [askF ep a (askP (wList w.A)[i])]) rfl (ask_row ep a _) rfl (by omega) fun a5 c5 B5 h5 hb5 cc5 _ => ⟨⟨i + 1, B5, rfl, by omega, ?_, cc3.trans cc5⟩, by omega⟩
  rw [List.take_succ_eq_append_getElem e, List.map_append, eR]; exact hb5
 ·have e : i = R.length := by
   simp only [Option.isNone_some, Bool.not_false, Bool.true_and, Bool.and_eq_false_iff, decide_eq_false_iff_not] at e
   omega
  subst e
  rw [List.take_length] at hb3
  have st3 := sp.new cc3
  have hn5 := hb3.1
  have := hk oA oC (PH.plus g h3 B3) h3 cc3.sub0 st3 (hb3.keep fun b hb o e => by rw [plus_in hb]; exact e).sr
  rw [← hn5] at this
  exact this
theorem cRSForget (x : RStAt g N h rb s ra re) (sp : Spl g N h) (hT : (allT s).length ≤ 1000000) (hk : ∀ g' N' h', RStAt g' N' h' rb (forgetS s) ra re → Stp g N h g' N' h' → K (.tuple #[]) h') : CallH Tryz.prog id_ref22_Stage_Forget [.pointer (some ⟨rb, 0, none⟩)] K h := by
 have hx0 := x
 obtain ⟨gp, tA, tC, Nw, rfl, nz, hb, ht, hg⟩ := x
 obtain ⟨z0, z1, z2, z3, z4⟩ := rcells hb
 refine F_ref22_Stage_Forget_ok ⟨rb, 0, rfl, gp, z0, fun e => ?_, fun e => ?_⟩
 ·cases hq : s.g with
  | none => rw [hq] at hg; rw [hg.1] at e; cases e
  | some q =>
  obtain ⟨w, a, e'⟩ := q
  rw [hq] at hg
  obtain ⟨rfl, rfl, xb, rfl, rfl, hw⟩ := hg
  obtain ⟨L, hbx, hx⟩ := hw.mem
  obtain ⟨wA, wC, w1, w2⟩ := hx.text
  have haT : allT s = s.T ++ w.T := by unfold allT; rw [hq]
  have hTl : s.T.length + w.T.length ≤ 1000000 := by rw [haT, List.length_append] at hT; exact hT
  refine ⟨rb, 0, rfl, _, _, _, z4, rb, 0, rfl, _, z0, xb, 0, rfl, _, _, _, rd1 (o := 0 + 67) hbx w1, nwL (cs := []) fun b1 h1 _ hb1 c1 => ⟨EncS.row s.T, ((ht.sub sp.sub).sub c1.sub0).src, ?_⟩⟩
  refine (Buf.nil EncS 9 h1 (some ⟨b1, 0, none⟩)).append (new := s.T) (by show _ = s.T.length; rfl) rfl rfl (by omega) fun a2 c2 B2 h2 hb2 cc2 _ => ⟨rd1 (o := 0 + 67) (cc2.sub0 _ _ (c1.sub0 _ _ hbx)) w1, (rcells (cc2.sub0 _ _ (c1.sub0 _ _ hb))).1, EncS.row w.T, (((w2.sub sp.sub).sub c1.sub0).sub cc2.sub0).src, ?_⟩
  have hn2 := hb2.1
  rw [List.nil_append] at hb2 hn2
  refine hb2.append (new := w.T) rfl rfl rfl (by omega) fun a3 c3 B3 h3 hb3 cc3 _ => ⟨rb, 0, rfl, ?_⟩
  have C : Chg [] B3 h h3 := Chg.from c1.sub0 (cc2.trans cc3)
  have st3 := sp.new C
  have hn3 := hb3.1
  have sr3 : SR EncS (PH.plus g h3 B3) a3 (s.T ++ w.T) := (hb3.keep fun b hb o e => by rw [plus_in hb]; exact e).sr
  refine stL (C.sub0 _ _ hb) rfl rfl fun h4 hb4 c4 => ⟨rb, 0, rfl, stL hb4 rfl rfl fun h5 hb5 c5 => ?_⟩
  have st5 : Stp (PH.plus g h3 B3) (rb :: [xb]) h3 (PH.plus g h3 B3) (rb :: [xb]) h5 := st3.spl.chg ((c4.trans c5).sub (fun b hb => by rw [List.mem_singleton] at hb; subst hb; simp) fun b hb => .inr hb) fun b hb => by
   rcases List.mem_cons.1 hb with rfl | hb
   ·exact ⟨_, hb5⟩
   ·rw [List.mem_singleton] at hb
    subst hb
    obtain ⟨o, ho⟩ := st3.spl.has b (by simp)
    exact ⟨o, (c4.trans c5).keep ho fun hm => nz (by rw [List.mem_singleton] at hm; subst hm; simp)⟩
  rw [hn3] at hb5
  refine hk (PH.plus g h3 B3) [rb] h5 ⟨none, a3, c3, [], rfl, by simp, ?_, ?_, rfl, rfl⟩ ((st3.trans st5).less fun b hb => by rw [List.mem_singleton] at hb; subst hb; simp)
  ·show h5 rb = some (.cells ([.pointer none, .int .i64 a, .int .i64 e', .int .i64 (s.b : Nat), .slice a3 (allT s).length c3] : List Value).toArray T_ref22_Stage (0, 0))
   rw [haT]; exact hb5
  ·show SR EncS _ a3 (allT s)
   rw [haT]; exact sr3
 ·have hq : s.g = none := by
   cases hq : s.g with
   | none => rfl
   | some q =>
    obtain ⟨w, a, e'⟩ := q
    rw [hq] at hg
    obtain ⟨_, _, xb, rfl, _, _⟩ := hg
    cases e
  have : forgetS s = s := by
   unfold forgetS allT
   rw [hq]
   cases s
   dsimp only at hq
   subst hq; rfl
  exact hk g _ h (by rw [this]; exact hx0) (Stp.refl sp)
end TL

namespace TL
open Go Go.Proofs
variable {g h : PH} {N : List Nat} {K : Value → PH → Prop} {rb : Nat} {s : StS} {ra re : Int}
theorem cRSAll (x : RStAt g N h rb s ra re) (sp : Spl g N h) (hT : (allT s).length ≤ 1000000) (hk : ∀ a' c' h', h.Sub h' → SR EncS h' a' (allT s) → K (.slice a' (allT s).length c') h') : CallH Tryz.prog id_ref22_Stage_All [.pointer (some ⟨rb, 0, none⟩)] K h := by
 obtain ⟨gp, tA, tC, Nw, rfl, nz, hb, ht, hg⟩ := x
 obtain ⟨z0, z1, z2, z3, z4⟩ := rcells hb
 cases hq : s.g with
 | none =>
  rw [hq] at hg
  obtain ⟨rfl, rfl⟩ := hg
  have haT : allT s = s.T := by unfold allT; rw [hq]
  rw [haT] at hk
  exact F_ref22_Stage_All_ok ⟨rb, 0, rfl, _, z0, fun _ => ⟨rb, 0, rfl, _, _, _, z4, hk tA tC h (PH.Sub.rf _) (ht.sub sp.sub)⟩, fun e => by cases e⟩
 | some q =>
 obtain ⟨w, a, e'⟩ := q
 rw [hq] at hg
 obtain ⟨rfl, rfl, xb, rfl, rfl, hw⟩ := hg
 obtain ⟨L, hbx, hx⟩ := hw.mem
 obtain ⟨wA, wC, w1, w2⟩ := hx.text
 have haT : allT s = s.T ++ w.T := by unfold allT; rw [hq]
 have hTl : s.T.length + w.T.length ≤ 1000000 := by rw [haT, List.length_append] at hT; exact hT
 rw [haT] at hk
 refine F_ref22_Stage_All_ok ⟨rb, 0, rfl, _, z0, fun e => (by cases e), fun _ => ⟨rb, 0, rfl, _, _, _, z4, rb, 0, rfl, _, z0, xb, 0, rfl, _, _, _, rd1 (o := 0 + 67) hbx w1, nwL (cs := []) fun b1 h1 _ hb1 c1 => ⟨EncS.row s.T, ((ht.sub sp.sub).sub c1.sub0).src, ?_⟩⟩⟩
 refine (Buf.nil EncS 9 h1 (some ⟨b1, 0, none⟩)).append (new := s.T) (by show _ = s.T.length; rfl) rfl rfl (by omega) fun a2 c2 B2 h2 hb2 cc2 _ => ⟨rd1 (o := 0 + 67) (cc2.sub0 _ _ (c1.sub0 _ _ hbx)) w1, (rcells (cc2.sub0 _ _ (c1.sub0 _ _ hb))).1, EncS.row w.T, (((w2.sub sp.sub).sub c1.sub0).sub cc2.sub0).src, ?_⟩
 have hn2 := hb2.1
 rw [List.nil_append] at hb2 hn2
 refine hb2.append (new := w.T) rfl rfl rfl (by omega) fun a3 c3 B3 h3 hb3 cc3 _ => ?_
 have hn3 := hb3.1
 have C : Chg [] B3 h h3 := Chg.from c1.sub0 (cc2.trans cc3)
 rw [hn3]
 exact hk a3 c3 h3 C.sub0 hb3.sr
section
variable {m0 m1 m2 m3 m4 m5 m7 m9 m10 : Int} {m6A m13A : Option Addr} {m6N m6C m13N m13C : Nat} {m8 m11 m12 : List Int}
theorem cRSRoot (x : RStAt g N h rb s ra re) (sp : Spl g N h) (hT : (allT s).length ≤ 1000000) (hbn : s.b ≤ 1000000) {R : List UInt8} (hR : R.length = 32) (h11 : m11.length = 32) (h12 : m12.length = 32) {bA : Option Addr} {bC : Nat} {base : List PrR} (hl : SR EncPr g bA base) (hn : base.length ≤ 1000) (hs : ∀ x ∈ base, x.p.length ≤ 1000000) {at_ : Int}
    (hk : ∀ g' N' h' ra' re', RStAt g' N' h' rb (rootS s m0 m2 m3 R base at_).2 ra' re' → Stp g N h g' N' h' → K (.bool (rootS s m0 m2 m3 R base at_).1) h') :
    CallH Tryz.prog id_ref22_Stage_Root [.pointer (some ⟨rb, 0, none⟩), mV m0 m1 m2 m3 m4 m5 m6A m6N m6C m7 (bi R) m9 m10 m11 m12 m13A m13N m13C, .slice bA base.length bC, .int .i64 at_] K h := by
  refine F_ref22_Stage_Root_ok (by rw [bi_len, hR]) h11 h12 ⟨fun e => ?_, fun e => ?_⟩
  · have e : m0 ≠ 4 ∨ m2 ≤ at_ ∨ m3 < 1 := by
      simp only [Bool.or_eq_true, bne_iff_ne, decide_eq_true_eq] at e
      omega
    have er : rootS s m0 m2 m3 R base at_ = (false, s) := by unfold rootS; rw [if_pos e]
    rw [er] at hk
    exact hk g N h ra re x (Stp.refl sp)
  · have e : ¬ (m0 ≠ 4 ∨ m2 ≤ at_ ∨ m3 < 1) := by
      simp only [Bool.or_eq_false_iff, bne_eq_false_iff_eq, decide_eq_false_iff_not] at e
      omega
    have hx0 := x
    obtain ⟨gp, tA, tC, Nw, rfl, nz, hb, ht, hg⟩ := x
    obtain ⟨z0, z1, z2, z3, z4⟩ := rcells hb
    have same : (∃ w, s.g = some (w, m2, m3) ∧ w.R = R) → K (.bool false) h := fun hh => by
      have er : rootS s m0 m2 m3 R base at_ = (false, s) := by unfold rootS; rw [if_neg e, if_pos hh]
      rw [er] at hk
      exact hk g _ h ra re hx0 (Stp.refl sp)
    have rest : ¬ (∃ w, s.g = some (w, m2, m3) ∧ w.R = R) → CallH Tryz.prog id_ref16_New [.slice bA base.length bC, .agg (((bi R).map (Value.int .u8) ++ [])).toArray] (fun v h1 =>
            ∃ t0 : Option Addr, ∃ t1 : Bool, v = .tuple #[.pointer t0, .bool t1] ∧
            (((!t1) = true →
                K (.bool false) h1) ∧
              ((!t1) = false →
                CallH Tryz.prog id_ref22_Stage_Forget [.pointer (some ⟨rb, 0, none⟩)] (fun _ h2 =>
                  ∃ bv_5 ov_5 : Nat, (some ⟨rb, 0, none⟩ : Option Addr) = some ⟨bv_5, ov_5, none⟩ ∧
                  stH h2 bv_5 ov_5 [.pointer t0] fun h3 =>
                  ∃ bv_6 ov_6 : Nat, (some ⟨rb, 0, none⟩ : Option Addr) = some ⟨bv_6, ov_6, none⟩ ∧
                  stH h3 bv_6 (ov_6 + 1) [.int .i64 m2] fun h4 =>
                  ∃ bv_7 ov_7 : Nat, (some ⟨rb, 0, none⟩ : Option Addr) = some ⟨bv_7, ov_7, none⟩ ∧
                  stH h4 bv_7 (ov_7 + 2) [.int .i64 m3] fun h5 =>
                  ∃ bv_8 ov_8 : Nat, (some ⟨rb, 0, none⟩ : Option Addr) = some ⟨bv_8, ov_8, none⟩ ∧
                  ∃ t_5 : Int, (h5.rds bv_8 (ov_8 + 3) 1 = some [.int .i64 t_5]) ∧
                  ∃ bv_9 ov_9 : Nat, (some ⟨rb, 0, none⟩ : Option Addr) = some ⟨bv_9, ov_9, none⟩ ∧
                  stH h5 bv_9 (ov_9 + 3) [.int .i64 (IntKind.wrap .i64 (t_5 + (1 : Int)))] fun h6 =>
                  K (.bool true) h6) h1))) h := fun hns => by
      have er0 : rootS s m0 m2 m3 R base at_ = if okP base then (true, ⟨some (wNew base R, m2, m3), s.b + 1, allT s⟩) else (false, s) := by unfold rootS; rw [if_neg e, if_neg hns]
      refine cXNew (sp.less (M := []) fun _ hm => by cases hm) hl hn hs hR (fun hno => ⟨_, _, rfl, fun _ => ?_, fun e2 => by cases e2⟩) fun hm h48 xb g3 h3 w3 st3 => ⟨_, _, rfl, fun e => (by cases e), fun _ => ?_⟩
      · rw [er0, if_neg hno] at hk
        exact hk g _ h ra re hx0 (Stp.refl sp)
      · rw [er0, if_pos ⟨hm, h48⟩] at hk
        obtain ⟨sf3, d3⟩ := st3.frame (N := []) (M := rb :: Nw) sp (Dj.nil _)
        have x3 := hx0.stp st3 (Dj.nil _)
        refine cRSForget x3 sf3.spl.right hT fun g4 N4 h4 x4 st4 => ?_
        obtain ⟨sf4, d4⟩ := st4.frameR sf3.spl d3.symm
        have w4 : RefAt g4 h4 xb (wNew base R) := w3.keep st4.gs fun o eo => st4.chg.keep eo (d3.symm xb (by simp))
        obtain ⟨gp4, tA4, tC4, Nw4, rfl, nz4, hb4, ht4, hg4⟩ := x4
        obtain ⟨rfl, rfl⟩ : gp4 = none ∧ Nw4 = [] := hg4
        have nx : xb ≠ rb := fun he => d4 xb (by simp) (by rw [he]; simp)
        refine ⟨rb, 0, rfl, stL hb4 rfl rfl fun h5 hb5 c5 => ⟨rb, 0, rfl, stL hb5 rfl rfl fun h6 hb6 c6 => ⟨rb, 0, rfl, stL hb6 rfl rfl fun h7 hb7 c7 => ⟨rb, 0, rfl, _, (rcells hb7).2.2.2.1, rb, 0, rfl, ?_⟩⟩⟩⟩
        have wi : IntKind.wrap .i64 ((((forgetS s).b : Nat) : Int) + (1 : Int)) = ((s.b + 1 : Nat) : Int) := by
          show IntKind.wrap .i64 (((s.b : Nat) : Int) + (1 : Int)) = _
          rw [wrap64] <;> omega
        rw [wi]
        refine stL hb7 rfl rfl fun h8 hb8 c8 => ?_
        have cz := ((c5.trans c6).trans c7).trans c8
        have w8 : RefAt g4 h8 xb (wNew base R) := w4.keep (PH.Sub.rf _) fun o eo => cz.keep eo fun hm => nx (by rw [List.mem_singleton] at hm; exact hm)
        have st8 : Stp g4 ([xb] ++ [rb]) h4 g4 ([xb] ++ [rb]) h8 := sf4.spl.chg (cz.sub (fun b hb => by rw [List.mem_singleton] at hb; subst hb; simp) fun b hb => .inr hb) fun b hb => by
          rcases List.mem_append.1 hb with hb | hb
          · obtain ⟨o, ho⟩ := sf4.spl.has b (List.mem_append_left _ hb)
            exact ⟨o, cz.keep ho fun hm => nx (by rw [List.mem_singleton] at hm hb; rw [← hb, hm])⟩
          · rw [List.mem_singleton] at hb
            subst hb
            exact ⟨_, hb8⟩
        refine hk g4 [rb, xb] h8 m2 m3 ⟨some ⟨xb, 0, none⟩, tA4, tC4, [xb], rfl, by simpa using fun e => nx e.symm, hb8, ht4, rfl, rfl, xb, rfl, rfl, w8⟩ ((sf3.trans (sf4.trans st8)).less fun b hb => ?_)
        simp only [List.mem_cons, List.not_mem_nil, or_false, List.mem_append] at hb ⊢
        rcases hb with rfl | rfl
        · exact .inr rfl
        · exact .inl rfl
    cases hq : s.g with
    | none =>
      rw [hq] at hg rest
      obtain ⟨rfl, rfl⟩ := hg
      exact ⟨rb, 0, rfl, none, z0, 0, 0, fun e => (by cases e), 0, fun e => (by cases e), 0, 0, fun e => (by cases e), 0, fun e => (by cases e), 0, 0, fun e => (by cases e), none, fun e => (by cases e), 0, 0, fun e => (by cases e), List.replicate 32 0, by simp, fun e => (by cases e), fun e => (by cases e), fun _ => rest fun ⟨w, e, _⟩ => by cases e⟩
    | some q =>
    obtain ⟨w, a, e'⟩ := q
    rw [hq] at hg same rest
    obtain ⟨rfl, rfl, xb, rfl, rfl, hw⟩ := hg
    refine ⟨rb, 0, rfl, _, z0, rb, 0, fun _ => rfl, a, fun _ => z1, rb, 0, fun _ => rfl, e', fun _ => z2, rb, 0, fun _ => rfl, _, fun _ => z0, xb, 0, fun _ => rfl, bi w.R, by rw [bi_len]; exact hw.R, fun _ => hw.rdR, fun e1 => ?_, fun e1 => rest ?_⟩
    · simp only [Option.isNone_some, Bool.not_false, Bool.true_and, Bool.and_eq_true, beq_iff_eq] at e1
      obtain ⟨⟨rfl, rfl⟩, e2⟩ := e1
      have e2 : (bi w.R == bi R) = true := by simpa using e2
      rw [bi_beq, decide_eq_true_eq] at e2
      exact same ⟨w, rfl, e2⟩
    · rintro ⟨w', ew, er⟩
      cases ew
      simp [er] at e1
theorem cRSAnswer (x : RStAt g N h rb s ra re) (sp : Spl g N h) (hv : ∀ w a e, s.g = some (w, a, e) → WOk w) (h8 : m8.length = 32) {a b : List UInt8} (ha : a.length = 32) (hb' : b.length = 32) {lA : Option Addr} {lC : Nat} {l : List PrR} (hl : SR EncPr g lA l) (hn : l.length ≤ 1000) (hs : ∀ x ∈ l, x.p.length ≤ 1000000) (hT : ∀ w a e, s.g = some (w, a, e) → w.T.length ≤ 100000)
  (hk : ∀ g' N' h', RStAt g' N' h' rb (answS s m0 m2 m9 m10 a b l).2 ra re → Stp g N h g' N' h' → K (.bool (answS s m0 m2 m9 m10 a b l).1) h') :
  CallH Tryz.prog id_ref22_Stage_Answer [.pointer (some ⟨rb, 0, none⟩), mV m0 m1 m2 m3 m4 m5 m6A m6N m6C m7 m8 m9 m10 (bi a) (bi b) lA l.length lC] K h := by
 have hx0 := x
 obtain ⟨gp, tA, tC, Nw, rfl, nz, hb, ht, hg⟩ := x
 obtain ⟨z0, z1, z2, z3, z4⟩ := rcells hb
 refine F_ref22_Stage_Answer_ok h8 (by rw [bi_len, ha]) (by rw [bi_len, hb']) ?_
 cases hq : s.g with
 | none =>
  rw [hq] at hg
  obtain ⟨rfl, rfl⟩ := hg
  have ea : answS s m0 m2 m9 m10 a b l = (false, s) := by unfold answS; rw [hq]
  rw [ea] at hk
  exact ⟨rb, 0, rfl, none, z0, 0, 0, fun e => (by cases e), 0, fun e => (by cases e), fun _ => hk g _ h hx0 (Stp.refl sp), fun e => by cases e⟩
 | some q =>
 obtain ⟨w, ga, e'⟩ := q
 rw [hq] at hg
 obtain ⟨rfl, rfl, xb, rfl, rfl, hw⟩ := hg
 have hTw := hT w ga e' hq
 have vw := hv w ga e' hq
 have sp' : Spl g ([rb] ++ [xb]) h := sp
 have dj : Dj [rb] [xb] := fun q hq hm => by
  rw [List.mem_singleton] at hq
  subst hq
  exact nz hm
 refine ⟨rb, 0, rfl, _, z0, rb, 0, fun _ => rfl, ga, fun _ => z1, fun e => ?_, fun e => ?_⟩
 ·have e : m2 ≠ ga := by simpa using e
  have ea : answS s m0 m2 m9 m10 a b l = (false, s) := by unfold answS; rw [hq]; dsimp only; rw [if_pos e]
  rw [ea] at hk
  exact hk g _ h hx0 (Stp.refl sp)
 ·have e : ¬ m2 ≠ ga := by simpa using e
  have fin : ∀ {g' : PH} {h' : PH} {w' : WS}, RefAt g' h' xb w' → Stp g [xb] h g' [xb] h' → RStAt g' (rb :: [xb]) h' rb { s with g := some (w', ga, e') } ga e' ∧ Stp g (rb :: [xb]) h g' (rb :: [xb]) h' := fun {g' h' w'} w1 st1 => by
   obtain ⟨sf1, d1⟩ := st1.frameR sp' dj
   exact ⟨⟨some ⟨xb, 0, none⟩, tA, tC, [xb], rfl, nz, st1.chg.keep hb nz, ht.sub st1.gs, rfl, rfl, xb, rfl, rfl, w1⟩, sf1⟩
  refine ⟨fun e6 => ?_, fun e6 => ⟨rb, 0, fun _ => rfl, _, fun _ => z0, fun e7 => ?_, fun e7 => ?_⟩⟩
  ·have e6 : m0 = 6 := by simpa using e6
   have ea : answS s m0 m2 m9 m10 a b l = ((nodeW w m9 m10 a b).1, { s with g := some ((nodeW w m9 m10 a b).2, ga, e') }) := by unfold answS; rw [hq]; dsimp only; rw [if_neg e, if_pos e6]
   rw [ea] at hk
   refine ⟨rb, 0, rfl, _, z0, cXNodeV hw sp'.right vw ha hb' hTw fun g' h' w1 st1 => ⟨_, rfl, ?_⟩⟩
   obtain ⟨f1, f2⟩ := fin w1 st1
   exact hk g' _ h' f1 f2
  ·have e6 : m0 ≠ 6 := by simpa using e6
   have e7 : m0 = 7 := by simpa using e7
   have ea : answS s m0 m2 m9 m10 a b l = ((pageW w m10 l).1, { s with g := some ((pageW w m10 l).2, ga, e') }) := by unfold answS; rw [hq]; dsimp only; rw [if_neg e, if_neg e6, if_pos e7]
   rw [ea] at hk
   refine cXPageV hw sp'.right vw hl hn hs hTw fun g' h' w1 st1 => ⟨_, rfl, ?_⟩
   obtain ⟨f1, f2⟩ := fin w1 st1
   exact hk g' _ h' f1 f2
  ·have e6 : m0 ≠ 6 := by simpa using e6
   have e7 : m0 ≠ 7 := by simpa using e7
   have ea : answS s m0 m2 m9 m10 a b l = (false, s) := by unfold answS; rw [hq]; dsimp only; rw [if_neg e, if_neg e6, if_neg e7]
   rw [ea] at hk
   exact hk g _ h hx0 (Stp.refl sp)
end
end TL

namespace TL
open Go Go.Proofs
variable {g h : PH} {N : List Nat} {K : Value → PH → Prop} {zb rb tb : Nat} {s : StS} {ra re : Int} {T : List PrR} {n : Nat}
structure StOk (n : Nat) (s : StS) : Prop where
 v : ∀ w a e, s.g = some (w, a, e) → WOk w
 t : (allT s).length ≤ 40 * n
 b : s.b ≤ n
theorem StOk.up (k : StOk n s) : StOk (n + 1) s := ⟨k.v, by have := k.t; omega, by have := k.b; omega⟩
theorem StOk.wT (k : StOk n s) {w : WS} {a e : Int} (hq : s.g = some (w, a, e)) : w.T.length ≤ 40 * n ∧ allT s = s.T ++ w.T := by
 have ha : allT s = s.T ++ w.T := by unfold allT; rw [hq]
 have := k.t
 rw [ha, List.length_append] at this
 exact ⟨by omega, ha⟩
theorem StOk.root (k : StOk n s) {m0 m2 m3 at_ : Int} {R : List UInt8} {base : List PrR} (hR : R.length = 32) : StOk (n + 1) (rootS s m0 m2 m3 R base at_).2 := by
 unfold rootS
 split
 ·exact k.up
 ·split
  ·exact k.up
  ·split
   ·rename_i hok
    refine ⟨fun w a e hq => ?_, ?_, ?_⟩
    ·dsimp only at hq
     cases hq
     exact WOk.new hok.1 hok.2 hR
    ·show (allT s ++ (wNew base R).T).length ≤ _
     rw [List.length_append, wNew_T]
     have := k.t; omega
    ·have := k.b
     show s.b + 1 ≤ n + 1
     omega
   ·exact k.up
theorem StOk.set (k : StOk n s) {w w' : WS} {a e : Int} (hq : s.g = some (w, a, e)) (hv : WOk w') (hk : KeepW w w') : StOk (n + 1) { s with g := some (w', a, e) } := by
 refine ⟨fun w2 a2 e2 hq2 => by cases hq2; exact hv, ?_, by have := k.b; show s.b ≤ n + 1; omega⟩
 show (s.T ++ w'.T).length ≤ _
 have h1 := k.t
 rw [(k.wT hq).2, List.length_append] at h1
 have h2 := hk.t
 rw [List.length_append]; omega
theorem StOk.answ (k : StOk n s) {m0 m2 lv i : Int} {a b : List UInt8} {l : List PrR} (ha : a.length = 32) (hb : b.length = 32) : StOk (n + 1) (answS s m0 m2 lv i a b l).2 := by
 cases hq : s.g with
 | none =>
  have : answS s m0 m2 lv i a b l = (false, s) := by unfold answS; rw [hq]
  rw [this]; exact k.up
 | some q =>
  obtain ⟨w, at_, e⟩ := q
  have hw := k.v w at_ e hq
  unfold answS
  rw [hq]
  dsimp only
  split
  ·exact k.up
  ·split
   ·exact k.set hq (hw.node ha hb) nodeW_keep
   ·split
    ·exact k.set hq hw.page pageW_keep
    ·exact k.up
theorem StOk.forget (k : StOk n s) : StOk (n + 1) (forgetS s) :=
 ⟨fun w a e hq => (by cases hq), by have := k.t; show (allT s).length ≤ _; omega, by have := k.b; show s.b ≤ n + 1; omega⟩
structure Pl2 (h0 : PH) (zb rb : Nat) (g : PH) (N Nr : List Nat) (h : PH) (s1 s2 : StS) (ra re : Int) : Prop where
 x : StageAt g N h zb s1
 y : RStAt g Nr h rb s2 ra re
 dj : Dj Nr N
 st : Stp h0 [] h0 g (Nr ++ N) h
section
variable {h0 g' h' : PH} {Nr N' Nr' : List Nat} {s1 s2 s' : StS} {ra' re' : Int}
theorem Pl2.l (I : Pl2 h0 zb rb g N Nr h s1 s2 ra re) (x : StageAt g' N' h' zb s') (st : Stp g N h g' N' h') : Pl2 h0 zb rb g' N' Nr h' s' s2 ra re := by
 obtain ⟨sf, d⟩ := st.frameR I.st.spl I.dj
 exact ⟨x, I.y.stp st I.dj, d, I.st.trans sf⟩
theorem Pl2.r (I : Pl2 h0 zb rb g N Nr h s1 s2 ra re) (y : RStAt g' Nr' h' rb s' ra' re') (st : Stp g Nr h g' Nr' h') : Pl2 h0 zb rb g' N Nr' h' s1 s' ra' re' := by
 obtain ⟨sf, d⟩ := st.frame I.st.spl I.dj.symm
 exact ⟨I.x.stp st I.dj.symm, y, d.symm, I.st.trans sf⟩
theorem Pl2.up (I : Pl2 h0 zb rb g N Nr h s1 s2 ra re) (st : Stp g (Nr ++ N) h g' (Nr ++ N) h') (s' : h.Sub h') : Pl2 h0 zb rb g' N Nr h' s1 s2 ra re :=
 ⟨I.x.keep st.gs fun q _ o e => s' q o e, I.y.keep st.gs fun q _ o e => s' q o e, I.dj, I.st.trans st⟩
theorem Pl2.grow (I : Pl2 h0 zb rb g N Nr h s1 s2 ra re) (s' : h.Sub h') : Pl2 h0 zb rb g N Nr h' s1 s2 ra re := I.up (I.st.spl.grow s') s'
theorem Pl2.rd (I : Pl2 h0 zb rb g N Nr h s1 s2 ra re) : h.rds rb (0 + 1) 1 = some [.int .i64 ra] ∧ h.rds rb (0 + 2) 1 = some [.int .i64 re] ∧ h.rds rb (0 + 3) 1 = some [.int .i64 (s2.b : Nat)] := by
 obtain ⟨gp, tA, tC, Nw, _, _, hb, _⟩ := I.y.mem
 obtain ⟨_, z1, z2, z3, _⟩ := rcells hb
 exact ⟨z1, z2, z3⟩
end
section
variable {h0 : PH} {Nr : List Nat} {Q : PH → Prop}
variable {m0 m1 m2 m3 m4 m5 m7 : Int} {m6A m13A : Option Addr} {m6N m6C m13N m13C : Nat} {m8 m11 m12 : List Int}
theorem Pl2.answ (I : Pl2 h0 zb rb g N Nr h s s ra re) (k : StOk n s) (hn : n ≤ 1000) {m9 m10 : Int} {a b : List UInt8} (h8 : m8.length = 32) (ha : a.length = 32) (hb' : b.length = 32) {lA : Option Addr} {lC : Nat} {l : List PrR} (hl : SR EncPr g lA l) (hln : l.length ≤ 1000) (hs : ∀ x ∈ l, x.p.length ≤ 1000000) {X : PH → Prop} (hX : ∀ g' N' h' s', Pl2 h0 zb rb g' N' Nr h' s' s ra re → X h')
  (hk : ∀ g' N' Nr' h' s', Pl2 h0 zb rb g' N' Nr' h' s' s' ra re → StOk (n + 1) s' → Q h') :
  CallH Tryz.prog id_stage_Stage_Answer [.pointer (some ⟨zb, 0, none⟩), mV m0 m1 m2 m3 m4 m5 m6A m6N m6C m7 m8 m9 m10 (bi a) (bi b) lA l.length lC] (fun v_17 h24 =>
   ∃ t_13 : Bool, v_17 = .bool t_13 ∧ X h24 ∧
   CallH Tryz.prog id_ref22_Stage_Answer [.pointer (some ⟨rb, 0, none⟩), mV m0 m1 m2 m3 m4 m5 m6A m6N m6C m7 m8 m9 m10 (bi a) (bi b) lA l.length lC] (fun v_18 h25 =>
    ∃ t_14 : Bool, v_18 = .bool t_14 ∧
    (((!(t_13 == t_14)) = true → K (.bool false) h25) ∧ ((!(t_13 == t_14)) = false → Q h25))) h24) h := by
 have hT : ∀ w a e, s.g = some (w, a, e) → w.T.length ≤ 100000 := fun w a e hq => by have := (k.wT hq).1; omega
 refine cSAnswer I.x I.st.spl.right h8 ha hb' hl hln hs hT fun g1 N1 h1 x1 st1 => ⟨_, rfl, ?_⟩
 have I1 := I.l x1 st1
 refine ⟨hX _ _ _ _ I1, cRSAnswer I1.y I1.st.spl.left k.v h8 ha hb' (hl.sub st1.gs) hln hs hT fun g2 N2 h2 y2 st2 => ⟨_, rfl, fun e => ?_, fun _ => ?_⟩⟩
 ·rw [beq_self_eq_true] at e; cases e
 ·exact hk g2 N1 N2 h2 _ (I1.r y2 st2) (k.answ ha hb')
theorem Pl2.tree (I : Pl2 h0 zb rb g N Nr h s s ra re) (k : StOk n s) (hn : n ≤ 1000) (tr : Tr tb g T) {c : Nat} (c1 : 1 ≤ c) (c2 : c < 32) (h8 : m8.length = 32) (h11 : m11.length = 32) (h12 : m12.length = 32) {at_ : Int}
  (hk : ∀ g' N' Nr' h' s', Pl2 h0 zb rb g' N' Nr' h' s' s' ra re → StOk (n + 1) s' → Q h') :
  CallH Tryz.prog id_law22_Answer [.pointer (some ⟨tb, 0, none⟩), mV m0 m1 m2 m3 m4 m5 m6A m6N m6C m7 m8 (askP c).1 (askP c).2 m11 m12 m13A m13N m13C, .int .i64 at_] (fun v_7 h11 =>
   ∃ t0_4 : Int, ∃ t1_4 : Int, ∃ t2_3 : Int, ∃ t3_3 : Int, ∃ t4_3 : Int, ∃ t5_3 : Int, ∃ (t6A_3 : Option Addr) (t6N_3 t6C_3 : Nat), ∃ t7_3 : Int, ∃ t8_3 : List Int, t8_3.length = 32 ∧ ∃ t9_3 : Int, ∃ t10_3 : Int, ∃ t11_3 : List Int, t11_3.length = 32 ∧ ∃ t12_3 : List Int, t12_3.length = 32 ∧ ∃ (t13A_3 : Option Addr) (t13N_3 t13C_3 : Nat), v_7 = mV t0_4 t1_4 t2_3 t3_3 t4_3 t5_3 t6A_3 t6N_3 t6C_3 t7_3 t8_3 t9_3 t10_3 t11_3 t12_3 t13A_3 t13N_3 t13C_3 ∧
   CallH Tryz.prog id_stage_Stage_Answer [.pointer (some ⟨zb, 0, none⟩), mV t0_4 t1_4 t2_3 t3_3 t4_3 t5_3 t6A_3 t6N_3 t6C_3 t7_3 t8_3 t9_3 t10_3 t11_3 t12_3 t13A_3 t13N_3 t13C_3] (fun v_17 h24 =>
    ∃ t_13 : Bool, v_17 = .bool t_13 ∧
    CallH Tryz.prog id_ref22_Stage_Answer [.pointer (some ⟨rb, 0, none⟩), mV t0_4 t1_4 t2_3 t3_3 t4_3 t5_3 t6A_3 t6N_3 t6C_3 t7_3 t8_3 t9_3 t10_3 t11_3 t12_3 t13A_3 t13N_3 t13C_3] (fun v_18 h25 =>
     ∃ t_14 : Bool, v_18 = .bool t_14 ∧
     (((!(t_13 == t_14)) = true → K (.bool false) h25) ∧ ((!(t_13 == t_14)) = false → Q h25))) h24) h11) h := by
 have sp := I.st.spl
 by_cases hc16 : 16 ≤ c
 ·obtain ⟨e1, e2⟩ := askP_leaf c c2 hc16
  refine F_law22_Answer_ok h8 h11 h12 ⟨fun _ => ?_, fun e => by rw [e1] at e; simp at e⟩
  rw [e2]
  refine cPairs (tr.sub sp.sub) (by omega) fun a' c' B' h1 hb1 cc1 => ⟨_, _, _, rfl, _, _, _, _, _, _, _, _, _, _, Z32, z32, _, _, Z32, z32, Z32, z32, _, _, _, rfl, ?_⟩
  have st1 := sp.new cc1
  have I1 := I.up st1 cc1.sub0
  have sr1 : SR EncPr (PH.plus g h1 B') a' (partB T (c - 16)) := (hb1.keep fun b hb o e => by rw [plus_in hb]; exact e).sr
  have hokp := part_ok tr.may tr.le (c - 16)
  have hZ : Z32 = bi (List.replicate 32 0) := bi_z32
  rw [hZ]
  exact (I1.answ (X := fun _ => True) k hn (by rw [bi_len]; simp) (by simp) (by simp) sr1 (by have := hokp.2.2; omega) (fun y hy => by have := (ok_len ((may_ok hokp.1).1 y hy)).1; omega) (fun _ _ _ _ _ => trivial) hk).mono fun v h ⟨t, e, _, q⟩ => ⟨t, e, q⟩
 ·have c16 : c < 16 := by omega
  obtain ⟨q1, q2, q3⟩ := askP_kids c c16 c1
  have e1 : (askP c).1 = ((c.log2 : Nat) : Int) := rfl
  have e2 : (askP c).2 = ((c - 2 ^ c.log2 : Nat) : Int) := rfl
  have hlt := askP_in c c2 c1
  have w1 : IntKind.wrap .i64 ((askP c).1 + 1) = ((c.log2 + 1 : Nat) : Int) := by rw [e1, wrap64] <;> omega
  have hb16 : c - 2 ^ c.log2 < 32 := by omega
  have w2 : IntKind.wrap .i64 ((2 : Int) * (askP c).2) = ((2 * (c - 2 ^ c.log2) : Nat) : Int) := by rw [e2, wrap64] <;> omega
  have w3 : IntKind.wrap .i64 (((2 * (c - 2 ^ c.log2) : Nat) : Int) + 1) = ((2 * (c - 2 ^ c.log2) + 1 : Nat) : Int) := by rw [wrap64] <;> omega
  have hl4 : ¬ ((c.log2 : Nat) : Int) = 4 := by omega
  refine F_law22_Answer_ok h8 h11 h12 ⟨fun e => absurd (by simpa [e1] using e) hl4, fun _ => ?_⟩
  rw [w1, w2, w3]
  refine cNode (tr.sub sp.sub) q1 (by omega) ⟨bi (nd T (2 ^ (c.log2 + 1) + 2 * (c - 2 ^ c.log2))), by rw [bi_len, nd_len], _, rfl, cNode (tr.sub sp.sub) q1 q2 ⟨bi (nd T (2 ^ (c.log2 + 1) + (2 * (c - 2 ^ c.log2) + 1))), by rw [bi_len, nd_len], _, rfl, ?_⟩⟩
  refine ⟨_, _, _, _, _, _, _, _, _, _, Z32, z32, _, _, bi (nd T (2 ^ (c.log2 + 1) + 2 * (c - 2 ^ c.log2))), by rw [bi_len, nd_len], bi (nd T (2 ^ (c.log2 + 1) + (2 * (c - 2 ^ c.log2) + 1))), by rw [bi_len, nd_len], _, _, _, rfl, ?_⟩
  exact (I.answ (X := fun _ => True) (l := []) k hn z32 (nd_len _ _) (nd_len _ _) (.inl rfl) (by decide) (fun _ h => by cases h) (fun _ _ _ _ _ => trivial) hk).mono fun v h ⟨t, e, _, q⟩ => ⟨t, e, q⟩
end
theorem StagePlays_den {pA bA lA : Option Addr} {pC bC lC : Nat} {prss : List PsR} {base : List PrR} {at_ : Int} {l : List Ac22} (hp : SR EncPs h pA prss) (hps : ∀ r ∈ prss, SR EncPr h r.a r.ps) (hb : SR EncPr h bA base) (hl : SR EncAc22 h lA l) (hk : ∀ h', h.Sub h' → K (.bool true) h') :
  CallH Tryz.prog id_law22_StagePlays [.slice pA prss.length pC, .slice bA base.length bC, .int .i64 at_, .slice lA l.length lC] K h := by
 refine F_law22_StagePlays_ok ⟨fun _ h' => h' = h ∧ gPs prss l.length = false ∧ gPrs base = false, cGreat22 hp hps ⟨_, rfl, fun g1 => cGreatPairs hb ⟨_, rfl, fun _ => wk22 (PH.Sub.rf _) hk, fun g2 => ⟨rfl, g1, g2⟩⟩, fun _ => wk22 (PH.Sub.rf _) hk⟩, ?_⟩
 rintro _ h1 ⟨rfl, g1, g2⟩
 obtain ⟨b1, b2⟩ := gPrs_no g2
 obtain ⟨_, n120, _⟩ := gPs_no g1
 have hbp : ∀ x ∈ base, x.p.length ≤ 1000000 := fun x hx => by have := (b2 x hx).1; omega
 refine cTrees hp hps g1 fun tsA tsC bs ts h2 s12 trs hle => ⟨_, _, _, rfl, ?_⟩
 have hpos : 0 < bs.length := by have := trs.pos; have := trs.len; omega
 have hb2 := hb.sub s12
 have hl2 := hl.sub s12
 refine cSNew (Spl.start h2) fun zb N3 h3 x3 st3 _ s3 => ⟨_, rfl, ?_⟩
 rw [List.append_nil] at st3
 refine nwL (cs := [.pointer none, .int .i64 (0 : Int), .int .i64 (0 : Int), .int .i64 (0 : Int), .slice none 0 0]) fun rb h4 nb4 hb4 c4 => ?_
 have st4 := st3.spl.own c4 (has1 hb4)
 have I4 : Pl2 h2 zb rb h2 N3 [rb] h4 ⟨none, 0, []⟩ ⟨none, 0, []⟩ 0 0 := ⟨x3.keep (PH.Sub.rf _) fun q _ o e => c4.sub0 q o e, ⟨none, none, 0, [], rfl, by simp, hb4, .inl rfl, rfl, rfl⟩, Dj.new st3.spl.has c4, st3.trans st4⟩
 refine LoopP.ind (fun (z : Int × Unit) h' => ∃ (i : Nat) (g' : PH) (N Nr : List Nat) (s : StS) (ra re : Int), z.1 = i ∧ i ≤ l.length ∧ Pl2 h2 zb rb g' N Nr h' s s ra re ∧ StOk i s) (fun z _ => (l.length - z.1).toNat) ?_ ⟨0, _, _, _, _, _, _, rfl, Nat.zero_le _, I4, fun w a e hq => (by cases hq), Nat.zero_le _, Nat.zero_le _⟩
 clear I4 st4 st3 x3
 rintro ⟨zi, u⟩ h7 ⟨i, g7, N7, R7, s, ra, re, hzi, hi, I, k⟩
 dsimp only at hzi
 subst hzi
 dsimp only
 have hit : ((i : Nat) : Int).toNat = i := by omega
 have hwi : IntKind.wrap .i64 (((i : Nat) : Int) + (1 : Int)) = ((i + 1 : Nat) : Int) := by rw [wrap64] <;> omega
 rw [hit, hwi]
 refine ⟨fun e => ?_, fun e => ?_⟩
 ·have e : i < l.length := by have := of_decide_eq_true e; omega
  refine ⟨fun _ h' => ∃ g' N Nr s ra re, Pl2 h2 zb rb g' N Nr h' s s ra re ∧ StOk (i + 1) s, ?_, fun _ h' ⟨g', N, Nr, s, ra, re, q1, q2⟩ => ⟨⟨i + 1, g', N, Nr, s, ra, re, rfl, by omega, q1, q2⟩, by omega⟩⟩
  obtain ⟨bL, oL, hAL, hrL⟩ := (hl2.sub I.st.gh).get e
  refine ⟨bL, oL, ⟨hAL, by omega, by omega⟩, l[i].d, l[i].t, l[i].x1, l[i].x2, l[i].n, l[i].k, hrL _ 0 6 rfl (by decide), ?_⟩
  generalize l[i].d = ad, l[i].t = at1, l[i].x1 = ax1, l[i].x2 = ax2, l[i].n = an, l[i].k = ak
  refine cTurn22 hpos (by omega) fun kt hkt => ⟨_, rfl, ?_⟩
  have hktt : ((kt : Nat) : Int).toNat = kt := by omega
  obtain ⟨bO, oO, TO, hAO, rdO, trO, _⟩ := trs.get (i := kt) hkt
  rw [hktt]
  refine ⟨bO, oO, ⟨hAO, by omega, by omega⟩, _, rdO h7 I.st.gh, ?_⟩
  have tr7 := trO.sub I.st.gs
  have hT : (allT s).length ≤ 1000000 := by have := k.t; omega
  have hbn : s.b ≤ 1000000 := by have := k.b; omega
  have a0 : ∀ w a e, s.g = some (w, a, e) → w.A 0 = none := fun w a e hq => (k.v w a e hq).a0
  refine ⟨fun _ h' => ∃ g' N Nr s ra re, Pl2 h2 zb rb g' N Nr h' s s ra re ∧ StOk (i + 1) s, ?_, ?_⟩
  ·refine ⟨fun _ => ?_, fun _ => ⟨fun e1 => ⟨fun _ => ?_, fun e => by rw [e1] at e; cases e⟩, fun e1 => ⟨fun e2 => ?_, fun e2 => ⟨fun _ => ?_, fun _ => ⟨fun _ => ?_, fun _ => ⟨g7, N7, R7, s, ra, re, I, k.up⟩⟩⟩⟩⟩⟩
   ·refine cRootM (tr7.sub I.st.spl.sub) ⟨_, _, _, _, _, _, _, _, _, _, bi (nd TO 1), by rw [bi_len, nd_len], _, _, Z32, z32, Z32, z32, _, _, _, rfl, ?_⟩
    refine cSRoot I.x I.st.spl.right hT hbn (nd_len _ _) z32 z32 (hb2.sub I.st.gs) (by omega) hbp fun g8 N8 h8 x8 st8 => ⟨_, rfl, ?_⟩
    have I8 := I.l x8 st8
    refine cRSRoot I8.y I8.st.spl.left hT hbn (nd_len _ _) z32 z32 (hb2.sub I8.st.gs) (by omega) hbp fun g9 N9 h9 ra9 re9 y9 st9 => ⟨_, rfl, fun e => ?_, fun _ => ⟨g9, N8, N9, _, ra9, re9, I8.r y9 st9, k.root (nd_len _ _)⟩⟩
    rw [beq_self_eq_true] at e; cases e
   ·refine cRSAsks I.y I.st.spl fun aA aC g8 h8 s8 st8 hl8 => ⟨_, _, _, rfl, fun _ => ⟨g8, N7, R7, s, ra, re, I.up st8 s8, k.up⟩, fun e => ?_⟩
    have I8 := I.up st8 s8
    have h0 : 0 < (asksF s 3).length := by
     have : (asksF s 3).length ≠ 0 := by simpa using e
     omega
    have hle8 := asksF_len s 3
    have ed : (ad == (2 : Int)) = false := by
     have : ad = 1 := by simpa using e1
     rw [this]; rfl
    refine ⟨fun st h' => h' = h8, ⟨fun e => absurd (ed.symm.trans e) (by decide), fun _ => rfl⟩, ?_⟩
    rintro ⟨to_, u⟩ h8' rfl
    dsimp only
    refine cTurn22 h0 (by omega) fun kq hkq => ⟨_, rfl, ?_⟩
    have hkt : ((kq : Nat) : Int).toNat = kq := by omega
    obtain ⟨w', ga, e', c, b, o, hq, c1, c2, _, _, hA, rd⟩ := askRd hl8 a0 hkq
    rw [hkt]
    refine ⟨b, o, ⟨hA, by omega, by omega⟩, _, _, _, _, _, _, _, _, _, _, Z32, z32, _, _, Z32, z32, Z32, z32, _, _, _, rd h8' st8.spl.sub, ?_⟩
    exact I8.tree k (by omega) (tr7.sub st8.gs) c1 c2 z32 z32 z32 fun g' N' Nr' h' s' q1 q2 => ⟨g', N', Nr', s', ra, re, q1, q2⟩
   ·refine cRSAsks I.y I.st.spl fun aA aC g8 h8 s8 st8 hl8 => ⟨_, _, _, rfl, fun _ => ⟨g8, N7, R7, s, ra, re, I.up st8 s8, k.up⟩, fun e => ?_⟩
    have I8 := I.up st8 s8
    have h0 : 0 < (asksF s 3).length := by
     have : (asksF s 3).length ≠ 0 := by simpa using e
     omega
    have hle8 := asksF_len s 3
    refine ⟨fun st h' => h' = h8, ⟨fun _ => ⟨rb, 0, rfl, ra, I8.rd.1, rfl⟩, fun e => absurd (e2.symm.trans e) (by decide)⟩, ?_⟩
    rintro ⟨to_, u⟩ h8' rfl
    dsimp only
    refine cTurn22 h0 (by omega) fun kq hkq => ⟨_, rfl, ?_⟩
    have hkt : ((kq : Nat) : Int).toNat = kq := by omega
    obtain ⟨w', ga, e', c, b, o, hq, c1, c2, _, _, hA, rd⟩ := askRd hl8 a0 hkq
    rw [hkt]
    refine ⟨b, o, ⟨hA, by omega, by omega⟩, _, _, _, _, _, _, _, _, _, _, Z32, z32, _, _, Z32, z32, Z32, z32, _, _, _, rd h8' st8.spl.sub, ?_⟩
    exact I8.tree k (by omega) (tr7.sub st8.gs) c1 c2 z32 z32 z32 fun g' N' Nr' h' s' q1 q2 => ⟨g', N', Nr', s', ra, re, q1, q2⟩
   ·refine cSForget I.x I.st.spl.right hT fun N8 h8 x8 st8 => ?_
    have I8 := I.l x8 st8
    refine cRSForget I8.y I8.st.spl.left hT fun g9 N9 h9 y9 st9 => ?_
    exact ⟨g9, N8, N9, _, ra, re, I8.r y9 st9, k.forget⟩
   ·refine ⟨rb, 0, rfl, ra, I.rd.1, rb, 0, rfl, ra, I.rd.1, ?_⟩
    have hZ : (List.replicate 32 (0 : Int)) = bi (List.replicate 32 0) := bi_z32
    rw [hZ]
    exact I.answ (l := []) k (by omega) (by rw [bi_len]; simp) (by simp) (by simp) (.inl rfl) (by decide) (fun _ h => by cases h) (fun g' N' h' s' q => q.rd.1) fun g' N' Nr' h' s' q1 q2 => ⟨g', N', Nr', s', ra, re, q1, q2⟩
  clear I k a0 hT hbn tr7
  rintro _ h12 ⟨g12, N12, R12, s2, ra2, re2, I2, k2⟩
  refine ⟨fun _ h' => ∃ g', Pl2 h2 zb rb g' N12 R12 h' s2 s2 ra2 re2, ?_, ?_⟩
  ·refine cSAsks I2.x I2.st.spl (fun w a e hq => (k2.v w a e hq).a0) fun aA aC g13 h13 s13 st13 hl13 => ⟨_, _, _, rfl, ?_⟩
   have I13 := I2.up st13 s13
   refine cRSAsks I13.y I13.st.spl fun cA cC g14 h14 s14 st14 hl14 => ⟨_, _, _, rfl, ?_⟩
   have I14 := I13.up st14 s14
   have hle8 := asksF_len s2 3
   refine cSameAll (asksF_in ((hl13.sub st14.gs).sub I14.st.spl.sub)) (asksF_in (hl14.sub I14.st.spl.sub)) (by omega) ⟨_, rfl, ?_⟩
   rw [decide_eq_true rfl]
   exact ⟨rb, 0, fun _ => rfl, _, fun _ => I14.rd.2.2, fun _ => cSBegun I14.x ⟨_, rfl, fun _ => I14.rd.2.2, fun e => (by simp at e), fun _ => ⟨g14, I14⟩⟩, fun e => by cases e⟩
  rintro _ h15 ⟨g15, I⟩
  have ok : ∀ {h' : PH}, h15.Sub h' → ∃ g' N Nr s ra re, Pl2 h2 zb rb g' N Nr h' s s ra re ∧ StOk (i + 1) s := fun s' => ⟨g15, N12, R12, s2, ra2, re2, I.grow s', k2⟩
  cases hq : s2.g with
  | none =>
   refine cSGoal I.x I.st.spl.right (fun _ => ?_) fun w a e hh hR => by rw [hq] at hh; cases hh
   obtain ⟨gp, tA, tC, Nw, _, _, hbr, _, hg⟩ := I.y.mem
   rw [hq] at hg
   obtain ⟨rfl, rfl⟩ := hg
   obtain ⟨z0, _⟩ := rcells hbr
   refine ⟨_, _, by simp, _, rfl, rb, 0, rfl, none, z0, fun _ => ⟨0, 0, fun e => (by cases e), 0, fun e => (by cases e), fun e => (by cases e), fun _ => ?_⟩, fun e => by cases e⟩
   refine cSDone I.x I.st.spl.right (fun w a e hh => by rw [hq] at hh; cases hh) (fun _ => ⟨_, _, _, _, _, _, rfl, rb, 0, rfl, none, z0, fun _ => ⟨fun e => absurd e (by decide), fun _ => ok (PH.Sub.rf _)⟩, fun e => by cases e⟩) (fun w a e hh => by rw [hq] at hh; cases hh) fun w a e hh => by rw [hq] at hh; cases hh
  | some q =>
   obtain ⟨w, a, e⟩ := q
   refine cSGoal I.x I.st.spl.right (fun hh => by rw [hq] at hh; cases hh) fun w' a' e' hh hR => ?_
   rw [hq] at hh
   cases hh
   have hy := I.y
   obtain ⟨gp, tA, tC, Nw, hNr, nz, hbr, _, hg⟩ := hy.mem
   rw [hq] at hg
   obtain ⟨rfl, rfl, xb, rfl, rfl, hw⟩ := hg
   have spx : Spl g15 [xb] h15 := I.st.spl.left.less fun b hb => by rw [hNr]; exact List.mem_cons_of_mem _ hb
   obtain ⟨z0, z1, z2, _⟩ := rcells hbr
   have vw := k2.v _ _ _ hq
   refine ⟨_, bi w.R, by rw [bi_len, hR], _, rfl, rb, 0, rfl, _, z0, fun _ => ⟨rb, 0, fun _ => rfl, a, fun _ => z1, fun _ => ⟨rb, 0, fun _ => rfl, _, fun _ => z0, xb, 0, fun _ => rfl, bi w.R, by rw [bi_len, hR], fun _ => hw.rdR, fun e => (by simp at e), fun _ => ?_⟩, fun e => by cases e⟩, fun e => by cases e⟩
   refine cSDone I.x I.st.spl.right (fun w' a' e' hh i l hQ => by rw [hq] at hh; cases hh; exact (vw.q i l hQ).2.2) (fun hh => by rw [hq] at hh; cases hh) (fun w' a' e' hh hc h16 s16 => ?_) fun w' a' e' hh hd h48 l6 a6 c6 B6 h16 hp6 hs6 hb6 cc6 => ?_
   ·rw [hq] at hh
    cases hh
    obtain ⟨z0', _⟩ := rcells (s16 _ _ hbr)
    refine ⟨_, _, _, _, _, _, rfl, rb, 0, rfl, _, z0', fun e => (by cases e), fun _ => ⟨rb, 0, rfl, _, z0', ?_⟩⟩
    refine cXDone (hw.keep (PH.Sub.rf _) fun o e => s16 _ _ e) (spx.grow s16).spl vw (fun _ h17 s17 => ⟨_, _, _, _, rfl, fun _ => ?_, fun e => by cases e⟩) fun hd h48 => ?_
    ·refine cRSame (l := []) (m2 := []) (.inl rfl) (.inl rfl) (by decide) ⟨_, rfl, fun _ => ⟨0, 0, fun e => (by cases e), 0, fun e => (by cases e), fun e => (by cases e), fun _ => ⟨fun _ => ⟨fun e => absurd e (by decide), fun _ => ok (s16.tr s17)⟩, fun e => by cases e⟩⟩, fun e => absurd e (by decide)⟩
    ·exfalso
     rcases hc with ⟨k, k1, k2, hk⟩ | ⟨_, hc⟩
     ·rw [hd k k1 k2] at hk; cases hk
     ·omega
   ·rw [hq] at hh
    cases hh
    obtain ⟨z0', _⟩ := rcells (cc6.sub0 _ _ hbr)
    refine ⟨_, _, _, _, _, _, rfl, rb, 0, rfl, _, z0', fun e => (by cases e), fun _ => ⟨rb, 0, rfl, _, z0', ?_⟩⟩
    refine cXDone (hw.keep (PH.Sub.rf _) fun o e => cc6.sub0 _ _ e) (spx.grow cc6.sub0).spl vw (fun hc => ?_) fun _ _ l7 a7 c7 B7 h17 hp7 hs7 hb7 cc7 => ⟨_, _, _, _, rfl, fun _ => ?_, fun e => by cases e⟩
    ·exfalso
     rcases hc with ⟨k, k1, k2, hk⟩ | ⟨_, hc⟩
     ·rw [hd k k1 k2] at hk; cases hk
     ·omega
    ·obtain ⟨hmay, _⟩ := parts_up vw.part hp6 hs6
     have he : l7 = l6 := up_unique (may_ok hmay).2 (hp7.trans hp6.symm) hs7
     subst he
     have s17 := cc6.sub0.tr cc7.sub0
     obtain ⟨_, z1', z2', _⟩ := rcells (s17 _ _ hbr)
     refine cRSame (hb6.sr.sub cc7.sub0) hb7.sr (by rw [hp6.length_eq]; omega) ⟨_, rfl, fun _ => ⟨rb, 0, fun _ => rfl, a, fun _ => z1', fun _ => ⟨rb, 0, fun _ => rfl, e, fun _ => z2', fun _ => ⟨fun e => (by cases e), fun _ => ok s17⟩, fun e => by simp at e⟩, fun e => by cases e⟩, fun e => by simp at e⟩
 ·have hle := k.t
  refine cSTexts I.x I.st.spl.right (by omega) fun a8 c8 B8 h8 hb8 cc8 => ⟨_, _, _, rfl, ?_⟩
  have I8 := I.grow cc8.sub0
  refine cRSAll I8.y I8.st.spl.left (by omega) fun a9 c9 h9 s9 sr9 => ⟨_, _, _, rfl, ?_⟩
  refine cSameTexts (hb8.sr.sub s9) sr9 (by omega) ⟨_, rfl, fun _ => wk22 (s12.tr (I8.st.gh.tr s9)) hk, fun e => by simp at e⟩
end TL
