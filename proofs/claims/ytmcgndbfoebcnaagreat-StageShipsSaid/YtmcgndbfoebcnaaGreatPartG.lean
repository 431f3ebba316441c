/-
  Statement StageShips of layer stage. No condition.
-/
import Derived.Test.YtmcgndbfoebcnaaGreatPartF
namespace TL
open Go Go.Proofs
variable {g h : PH} {N : List Nat} {K : Value → PH → Prop} {zb sb tb : Nat} {s : StS} {T : List PrR}
variable {rA eA pA : Option Addr} {rC eC pC : Nat} {rows : List OsR} {eps : List Int} {prs : List PrR} {r0 r1 : Int}
theorem nn64 (x : Int) : 0 ≤ IntKind.wrap .u64 x := by
 have : IntKind.wrap .u64 x = x % 2 ^ 64 := by
  unfold IntKind.wrap
  exact if_neg fun e => Bool.noConfusion (show false = true from e)
 rw [this]; omega
theorem bit0 (y : Int) : (bitsV .and .i64 (shrV .i64 0 y) 1 == (0 : Int)) = true := by
 have : shrV .i64 0 y = 0 := Int.zero_fdiv _
 rw [this]; decide +kernel
theorem MsgsIn.whole {a : Option Addr} {L : List MsgF} (x : MsgsIn g a L) {i : Nat} (hi : i < L.length) : ∃ f b o, f = L[i] ∧ a = some ⟨b, o, none⟩ ∧ ∀ h', g.Sub h' → h'.rds b (o + i * 107) 107 = some (.int .u8 f.m.kd :: (.int .i64 f.m.ep :: (.int .i64 f.m.at_ :: (.int .i64 f.m.ae :: (.int .i64 f.m.ix :: (.int .i64 f.m.be :: (.slice f.oA f.m.ops.length f.oC :: (.int .i64 f.m.prev :: ((bi f.m.root.1).map (Value.int .u8) ++ (.int .i64 f.m.lv :: (.int .i64 f.m.ii :: ((bi f.m.left.1).map (Value.int .u8) ++ ((bi f.m.right.1).map (Value.int .u8) ++ ([.slice f.pA f.m.prs.length f.pC] : List Value)))))))))))))) := by
 obtain ⟨b, o, hA, _⟩ := x.rd hi
 refine ⟨_, b, o, rfl, hA, fun h' hs => ?_⟩
 obtain ⟨b', o', hA', rF⟩ := (x.sub hs).rd hi
 rw [hA] at hA'; cases hA'
 exact rF 0 107 _ (Nat.le_refl _) (by rw [List.drop_zero]; exact List.take_of_length_le (Nat.le_of_eq (EncMsg.len _))) _ rfl
structure ShW (T : List PrR) (w : WS) : Prop where
 f : ∃ W X, FewV w W X T
 v : WOk w
 R : w.R = nd T 1
 z : wSize w.A ≤ 31
 t : w.T.length + wSize w.A ≤ 62
theorem ShW.new {base : List PrR} (hb : okP base) : ShW T (wNew base (nd T 1)) := by
 have hz := wSize_new base (nd T 1)
 have ht := wNew_T base (nd T 1)
 refine ⟨⟨_, _, FewV.new hb.1 hb.2 rfl⟩, WOk.new hb.1 hb.2 (nd_len _ _), ?_, hz, by omega⟩
 unfold wNew; dsimp only
theorem ShW.answer {w : WS} {c : Nat} (I : ShW T w) (hT : okP T) (c1 : 1 ≤ c) (c2 : c < 32) : ShW T (answerW w T c).2 ∧ wSize (answerW w T c).2.A ≤ wSize w.A ∧ ((w.A c).isSome = true → wSize (answerW w T c).2.A + 1 ≤ wSize w.A) := by
 obtain ⟨W, X, hf⟩ := I.f
 have kp := answerW_keep (s := w) (T := T) (c := c)
 have h1 := I.z
 have h2 := I.t
 by_cases hc : (w.A c).isSome = true
 ·obtain ⟨y, hy⟩ := Option.isSome_iff_exists.1 hc
  obtain ⟨_, W', t', hf'⟩ := hf.answer hT.1 hT.2 hc
  have hyT := (hf.ask hy).2.2.2.1
  have hls := answerW_less c1 c2 hT.1 hT.2 (by rw [hy, hyT] : w.A c = some (nd T c))
  have h3 := kp.t
  exact ⟨⟨⟨_, _, hf'⟩, I.v.answer, kp.R.trans I.R, by omega, by omega⟩, by omega, fun _ => hls⟩
 ·have e : answerW w T c = (false, w) := answerW_no c2 (fun e => hc (by rw [e]; rfl)) c1
  rw [e]
  exact ⟨I, Nat.le_refl _, fun e => absurd e hc⟩
inductive StSh (T : List PrR) (a e : Int) : StS → Prop
 | no : StSh T a e ⟨none, 0, []⟩
 | on {w : WS} : ShW T w → StSh T a e ⟨some (w, a, e), 1, []⟩
theorem StSh.all {a e : Int} (I : StSh T a e s) : (allT s).length ≤ 62 ∧ s.b ≤ 1 := by
 cases I with
 | no => exact ⟨Nat.zero_le _, Nat.zero_le _⟩
 | @on w k =>
  have := k.t
  refine ⟨?_, Nat.le_refl _⟩
  show ([] ++ w.T).length ≤ 62
  rw [List.nil_append]; omega
theorem StSh.a0 {a e : Int} (I : StSh T a e s) : ∀ w' a' e', s.g = some (w', a', e') → w'.A 0 = none := fun w' a' e' hq => by
 cases I with
 | no => cases hq
 | on k => cases hq; exact k.v.a0
theorem StSh.root {a e : Int} (I : StSh T a e s) (he : 1 ≤ e) {base : List PrR} (hb : okP base) :
  (∃ w, (rootS s 4 a e (nd T 1) base (a - 1)).2 = ⟨some (w, a, e), 1, []⟩ ∧ ShW T w) ∧ (∀ w, s = ⟨some (w, a, e), 1, []⟩ → (rootS s 4 a e (nd T 1) base (a - 1)).2 = s) := by
 cases I with
 | no =>
  rw [root_ok (by omega) he (fun _ _ _ e => by cases e) hb]
  exact ⟨⟨_, rfl, ShW.new hb⟩, fun w hq => by cases hq⟩
 | @on w k =>
  have : rootS ⟨some (w, a, e), 1, []⟩ 4 a e (nd T 1) base (a - 1) = (false, ⟨some (w, a, e), 1, []⟩) := by
   unfold rootS
   rw [if_neg (by omega), if_pos ⟨w, rfl, k.R⟩]
  rw [this]
  exact ⟨⟨w, rfl, k⟩, fun _ _ => rfl⟩
structure ShI (h0 : PH) (zb sb : Nat) (sS : ShS) (S : StS) (Ns : List Nat) (g : PH) (N : List Nat) (h : PH) : Prop where
 x : StageAt g N h zb S
 sh : ShipAt g Ns h sb sS
 dj : Dj Ns N
 st : Stp h0 [] h0 g (N ++ Ns) h
section
variable {h0 g' h' : PH} {sS sS' : ShS} {S S' : StS} {Ns N' Ns' : List Nat}
theorem ShI.stage (I : ShI h0 zb sb sS S Ns g N h) (x : StageAt g' N' h' zb S') (st : Stp g N h g' N' h') : ShI h0 zb sb sS S' Ns g' N' h' := by
 obtain ⟨sf, d⟩ := st.frame I.st.spl I.dj
 exact ⟨x, I.sh.stp st I.dj, d, I.st.trans sf⟩
theorem ShI.ship (I : ShI h0 zb sb sS S Ns g N h) (x : ShipAt g' Ns' h' sb sS') (st : Stp g Ns h g' Ns' h') : ShI h0 zb sb sS' S Ns' g' N h' := by
 obtain ⟨sf, d⟩ := st.frameR I.st.spl I.dj.symm
 exact ⟨I.x.stp st I.dj.symm, x, d.symm, I.st.trans sf⟩
theorem ShI.up (I : ShI h0 zb sb sS S Ns g N h) (st : Stp g (N ++ Ns) h g' (N ++ Ns) h') (s' : h.Sub h') : ShI h0 zb sb sS S Ns g' N h' :=
 ⟨I.x.keep st.gs fun q _ o e => s' q o e, I.sh.keep st.gs fun q _ o e => s' q o e, I.dj, I.st.trans st⟩
theorem ShI.grow (I : ShI h0 zb sb sS S Ns g N h) (s' : h.Sub h') : ShI h0 zb sb sS S Ns g N h' := I.up (I.st.spl.grow s') s'
end
theorem ShI.collides {h0 : PH} {sS : ShS} {w : WS} {Ns : List Nat} {a e : Int} {mA : Option Addr} {mC : Nat} {m : List PrR} (I : ShI h0 zb sb sS ⟨some (w, a, e), 1, []⟩ Ns g N h) (k : ShW T w) (hT : okP T) (hd : ∀ c, w.A c = none) (hs : sS.texts = textsT T)
  (hm : SR EncPr h mA m) (hmay : mayB m = true) (h48 : m.length ≤ 48) (hno : ¬ (∀ i, i < 16 → wPart w i = partB T i)) (hk : ∀ h', h.Sub h' → K (.bool true) h') :
  CallH Tryz.prog id_law22_collides [.pointer (some ⟨zb, 0, none⟩), .pointer (some ⟨sb, 0, none⟩), .slice mA m.length mC] K h := by
 have tl : ∀ S : List PrR, (textsT S).length = 31 := texts_len
 have ht := k.t
 have eT : allT ⟨some (w, a, e), 1, []⟩ = w.T := List.nil_append _
 refine F_law22_collides_ok (cSTexts I.x I.st.spl.left (by rw [eT]; omega) fun a1 c1 B1 h1 hb1 cc1 => ⟨_, _, _, rfl, ?_⟩)
 rw [eT] at hb1 ⊢
 refine cShTexts (I.sh.keep (PH.Sub.rf _) fun q _ o e => cc1.sub0 q o e) (by rw [hs, tl]; decide) fun a2 c2 B2 h2 hb2 cc2 => ⟨_, _, _, rfl, EncS.row sS.texts, hb2.sr.src, ?_⟩
 rw [hs] at hb2 ⊢
 refine (hb1.sub cc2.sub0).append (new := textsT T) rfl rfl rfl (by rw [tl]; omega) fun a3 c3 B3 h3 hb3 cc3 _ => ?_
 have cA : Chg [] B3 h h3 := (cc1.trans ⟨fun b o _ e => cc2.sub0 b o e, fun b hb => .inl hb⟩).trans cc3
 refine cRTexts (hm.sub cA.sub0) hmay h48 fun a4 c4 B4 h4 hb4 cc4 => ⟨_, _, _, rfl, EncS.row (textsT m), hb4.sr.src, ?_⟩
 refine (hb3.sub cc4.sub0).append (new := textsT m) rfl rfl rfl (by rw [tl, tl]; omega) fun a5 c5 B5 h5 hb5 cc5 _ => ?_
 have hlen := hb5.1
 rw [hlen]
 have cB : Chg [] B5 h h5 := (cA.trans ⟨fun b o _ e => cc4.sub0 b o e, fun b hb => .inl hb⟩).trans cc5
 refine cCollides hb5.sr (by rw [List.length_append, List.length_append, tl, tl]; omega) (fun t ht => ?_) fun cc h7 hcc s7 => ⟨_, rfl, ?_⟩
 ·rcases List.mem_append.1 ht with ht | ht
  ·rcases List.mem_append.1 ht with ht | ht
   ·exact k.v.ts t ht
   ·exact textsT_le hT.1 hT.2 t ht
  ·exact textsT_le hmay h48 t ht
 ·cases cc with
  | true => exact hk h7 (cB.sub0.tr s7)
  | false => exact absurd (k.v.parts k.R hT.1 hT.2 hd (hcc rfl) (fun t ht => by simp [ht]) (fun t ht => by simp [ht])) hno
theorem StageShips_den {bA mA : Option Addr} {bC mC : Nat} {base : List PrR} {masks : List Int} (ro : RowOk h rA rows eA eps pA prs) (hb : SR EncPr h bA base) (hm : SR EncI h mA masks) (hk : ∀ h', h.Sub h' → K (.bool true) h') :
  CallH Tryz.prog id_law22_StageShips [rowV r0 r1 rA rows rC eA eps eC pA prs pC, .slice bA base.length bC, .slice mA masks.length mC] K h := by
 refine F_law22_StageShips_ok ⟨fun _ h' => h' = h ∧ gRow rows eps.length prs = false ∧ gPrs base = false ∧ masks.length ≤ 60, cGreat20 ro.rw ro.op ro.pr ⟨_, rfl, fun hg => cGreatPairs hb ⟨_, rfl, fun _ => wk22 (PH.Sub.rf _) hk, fun hg2 => ?_⟩, fun _ => wk22 (PH.Sub.rf _) hk⟩, ?_⟩
 ·simp only [Bool.or_eq_false_iff, decide_eq_false_iff_not] at hg2
  exact ⟨rfl, hg, hg2.1, by omega⟩
 rintro _ h0 ⟨rfl, hg, hgb, hml⟩
 obtain ⟨b1, b2⟩ := gPrs_no hgb
 have hbp : ∀ x ∈ base, x.p.length ≤ 1000000 := fun x hx => by have := (b2 x hx).1; omega
 refine cMadeS (Spl.start _) ro hg fun gone prev bs a c g1 h1 hM hv st1 _ => ⟨_, _, _, _, _, _, _, _, _, _, rfl, ?_⟩
 obtain ⟨n80, _, _, _⟩ := gRow_no hg
 have l1 := hM.len
 have z1 := hM.g0
 have z2 := hM.g1
 have hv1 := hv.sub st1.spl.sub
 have s01 := st1.gh
 refine cOf3 (l := prs) hv1.prs hv1.pn hv1.pl (fun hok tb h2 tr2 _ cc2 => ⟨_, _, rfl, ?_⟩) fun hno e he _ => ⟨_, e, rfl, ?_⟩
 rotate_left
 ·have he0 : e ≠ 0 := by rcases he with rfl | rfl <;> decide
  have bad : ((e != 0) = true) := by simpa using he0
  refine cOf3 (hb.sub s01) (by omega) hbp (fun _ b h2 _ _ cc2 => ⟨_, _, rfl, fun _ => wk22 (s01.tr cc2.sub0) hk, fun e => by rw [bad] at e; simp at e⟩) fun _ e2 _ _ => ⟨_, e2, rfl, fun _ => wk22 s01 hk, fun e => by rw [bad] at e; simp at e⟩
 have s02 := s01.tr cc2.sub0
 refine cOf3 (hb.sub s02) (by omega) hbp (fun hokb b3 h3 _ _ cc3 => ⟨_, _, rfl, fun _ => wk22 (s02.tr cc3.sub0) hk, fun hat1 => ?_⟩) fun _ e2 he2 _ => ⟨_, e2, rfl, fun _ => wk22 s02 hk, fun e => by rcases he2 with rfl | rfl <;> simp at e⟩
 have s03 := s02.tr cc3.sub0
 have hat1 : (1 : Int) ≤ gone + (bs.length : Int) := by
  have : (1 : Int) ≤ (madeV 3 gone prev bs a c pA pC prs).at_ := by simpa using hat1
  exact this
 generalize hA : gone + (bs.length : Int) = at_ at *
 have hat2 : at_ ≤ 1000 := by omega
 have hae : 1 ≤ pe prev bs bs.length := by
  rcases Nat.eq_zero_or_pos bs.length with hz | hz
  ·have hp := hM.p0
   have : prev ≠ 0 := fun e => by have := hM.pg.2 e; omega
   rw [hz]
   show 1 ≤ prev
   omega
  ·obtain ⟨i, hi⟩ : ∃ i, bs.length = i + 1 := ⟨bs.length - 1, by omega⟩
   obtain ⟨_, _, _, _, _, _, h1', _⟩ := hM.bts i (by omega)
   rw [hi, pe_def, List.getElem?_eq_getElem (by omega)]
   exact h1'
 obtain ⟨nz1, nz2⟩ := next_zero (epoch := 3) (a := a) (c := c) (pA := pA) (pC := pC) (prs := prs) hM (y := 9) (by decide)
 have hv3 : VwOk h3 (madeV 3 gone prev bs a c pA pC prs) := (hv1.sub cc2.sub0).sub cc3.sub0
 have hvat : -9223372036854775808 ≤ (madeV 3 gone prev bs a c pA pC prs).at_ ∧ (madeV 3 gone prev bs a c pA pC prs).at_ ≤ 9223372036854775807 := by
  show _ ≤ gone + (bs.length : Int) ∧ gone + (bs.length : Int) ≤ _
  omega
 have tr3 : Tr tb h3 prs := tr2.sub cc3.sub0
 have hb3 := hb.sub s03
 have hm3 := hm.sub s03
 have hpr3 := ro.pr.sub s03
 generalize hae' : pe prev bs bs.length = ae at *
 have ea : (madeV 3 gone prev bs a c pA pC prs).at_ = at_ := hA
 have ee : (madeV 3 gone prev bs a c pA pC prs).ae = ae := hae'
 have tick : ∀ sS : ShS, (sS = ⟨some (0, 9), none, []⟩ ∨ sS = ⟨some (0, 9), some (at_, ae, prs), textsT prs⟩) → tickV sS (madeV 3 gone prev bs a c pA pC prs) = ([helloM 3, rootM 3 at_ ae (rootH prs)], ⟨some (0, 9), some (at_, ae, prs), textsT prs⟩) := by
  rintro sS (rfl | rfl)
  ·rw [tick_new (s := ⟨some (0, 9), none, []⟩) rfl nz2 nz1 (by unfold needV; trivial) hok, ea, ee]
   rfl
  ·have hneed : ¬ needV ⟨some (0, 9), some (at_, ae, prs), textsT prs⟩ (madeV 3 gone prev bs a c pA pC prs) 0 := by
    unfold needV
    dsimp only
    rw [ea]
    omega
   rw [tick_old (s := ⟨some (0, 9), some (at_, ae, prs), textsT prs⟩) rfl nz2 nz1 hneed rfl]
   rfl
 clear nz1 nz2
 generalize madeV 3 gone prev bs a c pA pC prs = V at *
 have hwM : IntKind.wrap .i64 (((masks.length : Nat) : Int) + (40 : Int)) = ((masks.length + 40 : Nat) : Int) := by rw [wrap64] <;> omega
 have hwa : IntKind.wrap .i64 (V.at_ - (1 : Int)) = at_ - 1 := by rw [ea, wrap64] <;> omega
 rw [hwM, hwa]
 refine cShipNew (Spl.start h3) fun sb N4 h4 x4 st4 d4 => ⟨_, rfl, ?_⟩
 rw [List.append_nil] at st4
 refine cAck x4 st4.spl z32 z32 z32 fun g5 h5 x5 st5 => ⟨_, rfl, ?_⟩
 rw [ack_to rfl (by decide)] at x5
 dsimp only at x5
 have st35 := st4.trans st5
 refine cSNew st35.spl fun zb N6 h6 z6 st6 d6 s6 => ⟨_, rfl, ?_⟩
 have I6 : ShI h3 zb sb ⟨some (0, 9), none, []⟩ ⟨none, 0, []⟩ N4 g5 N6 h6 := ⟨z6, x5.keep (PH.Sub.rf _) fun q _ o e => s6 q o e, d6.symm, st35.trans st6⟩
 refine LoopP.ind (fun (z : Int × Unit) h' => ∃ (n : Nat) (sS : ShS) (S : StS) (Ns N' : List Nat) (g' : PH), z.1 = n ∧ n ≤ masks.length + 40 ∧ ((n = 0 ∧ sS = ⟨some (0, 9), none, []⟩) ∨ sS = ⟨some (0, 9), some (at_, ae, prs), textsT prs⟩) ∧ ShI h3 zb sb sS S Ns g' N' h' ∧ StSh prs at_ ae S ∧ (n ≤ masks.length ∨ ∃ w, S = ⟨some (w, at_, ae), 1, []⟩ ∧ (wSize w.A + (n - masks.length) ≤ 31 ∨ ∀ c, w.A c = none))) (fun z _ => (((masks.length + 40 : Nat) : Int) - z.1).toNat) ?_ ⟨0, _, _, _, _, _, rfl, Nat.zero_le _, .inl ⟨rfl, rfl⟩, I6, .no, .inl (Nat.zero_le _)⟩
 rintro ⟨zn, u⟩ h7 ⟨n, sS, S, Ns, N7, g7, hzn, hn, hS, I7, J7, P7⟩
 dsimp only at hzn
 subst hzn
 dsimp only
 have hwn : IntKind.wrap .i64 (((n : Nat) : Int) + (1 : Int)) = ((n + 1 : Nat) : Int) := by rw [wrap64] <;> omega
 have hnt : ((n : Nat) : Int).toNat = n := by omega
 rw [hwn, hnt]
 refine ⟨fun e => ?_, fun e => ?_⟩
 ·have hnl : n < masks.length + 40 := by have := of_decide_eq_true e; omega
  refine ⟨fun st h' => h' = h7 ∧ (masks.length ≤ n → st.1 = 0), ⟨fun e => ?_, fun e => ?_⟩, ?_⟩
  ·have e : n < masks.length := by have := of_decide_eq_true e; omega
   obtain ⟨bM, oM, hAM, hrM⟩ := (hm3.sub I7.st.gh).get e
   exact ⟨bM, oM, ⟨hAM, by omega, by omega⟩, masks[n], hrM _ 0 1 rfl (by decide), rfl, fun hle => by omega⟩
  ·exact ⟨rfl, fun _ => rfl⟩
  rintro ⟨mask, u⟩ h7' ⟨rfl, hquiet⟩
  dsimp only at hquiet ⊢
  have ht := tick sS (by rcases hS with ⟨_, h⟩ | h; exact .inl h; exact .inr h)
  have htl : sS.texts.length ≤ 100000 := by
   rcases hS with ⟨_, rfl⟩ | rfl
   ·exact Nat.zero_le _
   ·show (textsT prs).length ≤ _
    rw [texts_len]; decide
  refine cTickF (v := V) I7.sh I7.st.spl.right (hv3.sub I7.st.gs) hvat htl fun g8 Ns8 h8 a8 c8 L8 x8 m8 e8 st8 => ⟨_, _, _, rfl, ?_⟩
  rw [ht] at e8 x8
  dsimp only at e8 x8
  have I8 := I7.ship x8 st8
  obtain ⟨f1, f2, rfl, q1, q2⟩ := maps2 e8
  clear hS ht htl x8 I7 st8 e8 x4 st4 d4 x5 st5 st35 z6 st6 d6 s6 I6
  generalize hsS : (⟨some (0, 9), some (at_, ae, prs), textsT prs⟩ : ShS) = sS1 at *
  refine LoopP.ind (fun (z : Int × Unit) h' => ∃ (i : Nat) (S' : StS) (N' : List Nat) (g' : PH), z.1 = i ∧ i ≤ 2 ∧ g8.Sub g' ∧ ShI h3 zb sb sS1 S' Ns8 g' N' h' ∧ StSh prs at_ ae S' ∧ (∀ w, S = ⟨some (w, at_, ae), 1, []⟩ → S' = S) ∧ (i = 2 → masks.length ≤ n → ∃ w, S' = ⟨some (w, at_, ae), 1, []⟩)) (fun z _ => (2 - z.1).toNat) ?_ ⟨0, _, _, _, rfl, Nat.zero_le _, PH.Sub.rf _, I8, J7, fun _ _ => rfl, fun e => by omega⟩
  clear I8
  rintro ⟨zi, u⟩ h9 ⟨i, S9, N9, g9, hzi, hi, s89, I9, J9, C9, B9⟩
  dsimp only at hzi
  subst hzi
  dsimp only
  have hwi : IntKind.wrap .i64 (((i : Nat) : Int) + (1 : Int)) = ((i + 1 : Nat) : Int) := by rw [wrap64] <;> omega
  have hit : ((i : Nat) : Int).toNat = i := by omega
  rw [hwi, hit]
  refine ⟨fun e => ?_, fun e => ?_⟩
  ·have hi2 : i < 2 := by
    have := of_decide_eq_true e
    have e2 : (((([f1, f2] : List MsgF).length : Nat) : Int)) = 2 := rfl
    omega
   refine ⟨nn64 _, fun _ => ?_, fun e => ?_⟩
   ·obtain ⟨f, bb, oo, hf, hA8, rd8⟩ := m8.whole (i := i) hi2
    obtain ⟨a1, a2⟩ := J9.all
    have h8c : a8 = some ⟨bb, oo, none⟩ ∧ 0 ≤ ((i : Nat) : Int) ∧ ((i : Nat) : Int) < ((([f1, f2] : List MsgF).length : Nat) : Int) := ⟨hA8, by omega, by have e2 : (((([f1, f2] : List MsgF).length : Nat) : Int)) = 2 := rfl; omega⟩
    refine ⟨bb, oo, h8c, ?_⟩
    refine ⟨f.m.kd, f.m.ep, f.m.at_, f.m.ae, f.m.ix, f.m.be, f.oA, f.m.ops.length, f.oC, f.m.prev, bi f.m.root.1, by rw [bi_len, f.m.root.2], f.m.lv, f.m.ii, bi f.m.left.1, by rw [bi_len, f.m.left.2], bi f.m.right.1, by rw [bi_len, f.m.right.2], f.pA, f.m.prs.length, f.pC, ?_, ?_⟩
    ·exact rd8 h9 (s89.tr I9.st.spl.sub)
    refine cSRoot I9.x I9.st.spl.left (by omega) (by omega) f.m.root.2 (by rw [bi_len, f.m.left.2]) (by rw [bi_len, f.m.right.2]) (hb3.sub I9.st.gs) (by omega) hbp fun g10 N10 h10 x10 st10 => ⟨_, rfl, ?_⟩
    have I10 := I9.stage x10 st10
    rcases (show i = 0 ∨ i = 1 by omega) with rfl | rfl
    ·have hf : f = f1 := hf
     have e0 : rootS S9 f.m.kd f.m.at_ f.m.ae f.m.root.1 base (at_ - 1) = (false, S9) := by
      rw [hf, q1]
      exact root_no (.inl (by show (1 : Int) ≠ 4; decide))
     rw [e0] at I10
     exact ⟨⟨1, S9, N10, g10, rfl, by omega, s89.tr st10.gs, I10, J9, C9, fun e => by omega⟩, by omega⟩
    ·have hf : f = f2 := hf
     have e1 : rootS S9 f.m.kd f.m.at_ f.m.ae f.m.root.1 base (at_ - 1) = rootS S9 4 at_ ae (nd prs 1) base (at_ - 1) := by
      rw [hf, q2]
      rfl
     rw [e1] at I10
     obtain ⟨⟨w', ew, kw⟩, hsame⟩ := J9.root hae hokb
     refine ⟨⟨2, _, N10, g10, rfl, by omega, s89.tr st10.gs, I10, by rw [ew]; exact .on kw, fun w0 hw0 => ?_, fun _ _ => ⟨w', ew⟩⟩, by omega⟩
     have h9 := C9 w0 hw0
     rw [hsame w0 (h9.trans hw0), h9]
   ·refine ⟨⟨i + 1, S9, N9, g9, rfl, by omega, s89, I9, J9, C9, fun _ hle => ?_⟩, by omega⟩
    rw [hquiet hle, bit0] at e
    cases e
  ·have hi2 : i = 2 := by
    have := of_decide_eq_false e
    have e2 : (((([f1, f2] : List MsgF).length : Nat) : Int)) = 2 := rfl
    omega
   subst hi2
   refine cSAsks I9.x I9.st.spl J9.a0 fun aA aC g10 h10 s10 st10 hl10 => ⟨_, _, _, rfl, ?_⟩
   have I10 := I9.up st10 s10
   refine LoopP.ind (fun (z : Int × Unit) h' => ∃ (j : Nat) (S' : StS) (N' : List Nat) (g' : PH), z.1 = j ∧ j ≤ (asksF S9 3).length ∧ g10.Sub g' ∧ ShI h3 zb sb sS1 S' Ns8 g' N' h' ∧ StSh prs at_ ae S' ∧ (j = 0 → S' = S9) ∧ (∀ w, S9 = ⟨some (w, at_, ae), 1, []⟩ → ∃ w', S' = ⟨some (w', at_, ae), 1, []⟩ ∧ wSize w'.A ≤ wSize w.A ∧ (masks.length ≤ n → 1 ≤ j → wSize w'.A + 1 ≤ wSize w.A))) (fun z _ => ((asksF S9 3).length - z.1).toNat) ?_ ⟨0, _, _, _, rfl, Nat.zero_le _, PH.Sub.rf _, I10, J9, fun _ => rfl, fun w hw => ⟨w, hw, Nat.le_refl _, fun _ h => by omega⟩⟩
   clear I10
   have hlen8 := asksF_len S9 3
   rintro ⟨zj, u⟩ h11 ⟨j, S11, N11, g11, hzj, hj, s11, I11, J11, Z11, C11⟩
   dsimp only at hzj
   subst hzj
   dsimp only
   have hwj : IntKind.wrap .i64 (((j : Nat) : Int) + (1 : Int)) = ((j + 1 : Nat) : Int) := by rw [wrap64] <;> omega
   have hjt : ((j : Nat) : Int).toNat = j := by omega
   rw [hwj, hjt]
   refine ⟨fun e => ?_, fun e => ?_⟩
   ·have hjl : j < (asksF S9 3).length := by have := of_decide_eq_true e; omega
    obtain ⟨w9, ga, e9, cc, bb, oo, hq, c1, c2, hc, hrow, hA10, rd⟩ := askRd hl10 J9.a0 hjl
    refine ⟨bb, oo, ⟨hA10, by omega, by omega⟩, _, _, _, _, _, _, _, _, _, _, Z32, z32, _, _, Z32, z32, Z32, z32, _, _, _, rd h11 (s11.tr I11.st.spl.sub), ?_⟩
    obtain ⟨hga, he9, hS9⟩ : ga = at_ ∧ e9 = ae ∧ S9 = ⟨some (w9, at_, ae), 1, []⟩ := by
     cases J9 with
     | no => cases hq
     | on k => cases hq; exact ⟨rfl, rfl, rfl⟩
    subst hga he9 hS9
    obtain ⟨w', e11, hle, hdec⟩ := C11 w9 rfl
    subst e11
    have k' : ShW prs w' := by cases J11 with | on k => exact k
    obtain ⟨k2, hle2, hdec2⟩ := k'.answer (c := cc) hok c1 c2
    have hdec3 : masks.length ≤ n → wSize (answerW w' prs cc).2.A + 1 ≤ wSize w9.A := fun hq => by
     rcases Nat.eq_zero_or_pos j with hj0 | hj0
     ·have := Z11 hj0
      cases this
      exact hdec2 hc
     ·have := hdec hq hj0
      omega
    have hshot : sS1.shot = some (ga, e9, prs) := by rw [← hsS]
    obtain ⟨r1', r2', r3'⟩ := askP_in cc c2 c1
    have enn : 0 ≤ (askP cc).1 ∧ (askP cc).1 ≤ 4 ∧ 0 ≤ (askP cc).2 ∧ (askP cc).2 < ((2 ^ (askP cc).1.toNat : Nat) : Int) := by
     refine ⟨by show (0 : Int) ≤ ((cc.log2 : Nat) : Int); omega, by show ((cc.log2 : Nat) : Int) ≤ 4; omega, by show (0 : Int) ≤ ((cc - 2 ^ cc.log2 : Nat) : Int); omega, ?_⟩
     show ((cc - 2 ^ cc.log2 : Nat) : Int) < ((2 ^ (((cc.log2 : Nat) : Int)).toNat : Nat) : Int)
     rw [Int.toNat_natCast]
     exact Int.ofNat_lt.2 r2'
    have nxt : ∀ {g' : PH} {N' : List Nat} {h' : PH} {w2 : WS}, g11.Sub g' → ShI h3 zb sb sS1 ⟨some (w2, ga, e9), 1, []⟩ Ns8 g' N' h' → ShW prs w2 → wSize w2.A ≤ wSize w'.A → (masks.length ≤ n → wSize w2.A + 1 ≤ wSize w9.A) →
      (∃ (j1 : Nat) (S' : StS) (N' : List Nat) (g' : PH), ((j + 1 : Nat) : Int) = j1 ∧ j1 ≤ (asksF ⟨some (w9, ga, e9), 1, []⟩ 3).length ∧ g10.Sub g' ∧ ShI h3 zb sb sS1 S' Ns8 g' N' h' ∧ StSh prs ga e9 S' ∧ (j1 = 0 → S' = ⟨some (w9, ga, e9), 1, []⟩) ∧ (∀ w, (⟨some (w9, ga, e9), 1, []⟩ : StS) = ⟨some (w, ga, e9), 1, []⟩ → ∃ w', S' = ⟨some (w', ga, e9), 1, []⟩ ∧ wSize w'.A ≤ wSize w.A ∧ (masks.length ≤ n → 1 ≤ j1 → wSize w'.A + 1 ≤ wSize w.A))) ∧ (((asksF ⟨some (w9, ga, e9), 1, []⟩ 3).length : Int) - ((j + 1 : Nat) : Int)).toNat < (((asksF ⟨some (w9, ga, e9), 1, []⟩ 3).length : Int) - (j : Int)).toNat :=
     fun {g' N' h' w2} sg I2 k3 hl hd => ⟨⟨j + 1, _, N', g', rfl, by omega, s11.tr sg, I2, .on k3, fun e => by omega, fun w hw => by cases hw; exact ⟨w2, rfl, by omega, fun hq _ => hd hq⟩⟩, by omega⟩
    have sp11 := I11.st.spl
    have skip : (bitsV .and .i64 (shrV .i64 mask (IntKind.wrap .u64 (IntKind.wrap .i64 (((j : Nat) : Int) + (2 : Int))))) (1 : Int) == (0 : Int)) = false → masks.length ≤ n → False := fun e hq => by
     rw [hquiet hq, bit0] at e
     cases e
    have hTb : ∀ w a e, (⟨some (w', ga, e9), 1, []⟩ : StS).g = some (w, a, e) → w.T.length ≤ 100000 := fun w a e hh => by
     cases hh
     have := k'.t
     omega
    refine cAsk I11.sh sp11.right z32 z32 z32 (fun hno => absurd ⟨rfl, rfl, enn⟩ (hno _ _ _ hshot)) (fun x y S2 hS2 _ _ h9' jj hjj hj16 a' c' B' h' hb' cc' => ?_) (fun x y S2 hS2 _ _ lv jj hlv hjj hlv4 hjl => ?_)
    ·rw [hshot] at hS2
     cases hS2
     have hc16 : 16 ≤ cc := by
      have := askP_16 cc c2 c1
      rw [h9'] at this
      omega
     obtain ⟨_, e2⟩ := askP_leaf cc c2 hc16
     have hjc : jj = cc - 16 := by omega
     subst hjc
     have ea : ∀ a b, answS ⟨some (w', ga, e9), 1, []⟩ 7 ga 0 (askP cc).2 a b (partB prs (cc - 16)) = ((answerW w' prs cc).1, ⟨some ((answerW w' prs cc).2, ga, e9), 1, []⟩) := fun a b => by
      have : answerW w' prs cc = pageW w' (askP cc).2 (partB prs (cc - 16)) := by unfold answerW; rw [if_pos hc16, e2]
      rw [this]
      unfold answS
      dsimp only
      rw [if_neg (by omega), if_neg (by decide), if_pos rfl]
     have st12 := sp11.new cc'
     have I12 := I11.up st12 cc'.sub0
     have sr12 : SR EncPr (PH.plus g11 h' B') a' (partB prs (cc - 16)) := (hb'.keep fun b hb o e => by rw [plus_in hb]; exact e).sr
     have hokp := part_ok hok.1 hok.2 (cc - 16)
     refine ⟨_, _, _, _, _, _, _, _, _, _, Z32, z32, _, _, Z32, z32, Z32, z32, _, _, _, true, rfl, fun e => absurd e (by decide), fun _ => ⟨nn64 _, fun _ => ?_, fun e => ?_⟩⟩
     ·have hZ : Z32 = bi (List.replicate 32 0) := bi_z32
      rw [hZ]
      refine cSAnswer I12.x I12.st.spl.left (by rw [bi_len]; simp) (by simp) (by simp) sr12 (by have := hokp.2.2; omega) (fun y hy => by have := (ok_len ((may_ok hokp.1).1 y hy)).1; omega) hTb fun g13 N13 h13 x13 st13 => ⟨_, rfl, ?_⟩
      have I13 := I12.stage x13 st13
      rw [ea] at I13
      exact nxt (st12.gs.tr st13.gs) I13 k2 hle2 hdec3
     ·exact nxt st12.gs I12 k' (Nat.le_refl _) fun hq => (skip e hq).elim
    ·rw [hshot] at hS2
     cases hS2
     have hc16 : cc < 16 := (askP_16 cc c2 c1).2 (by rw [hlv]; omega)
     obtain ⟨q1', q2', q3'⟩ := askP_kids cc hc16 c1
     have elv : lv = cc.log2 := by
      have : ((cc.log2 : Nat) : Int) = (lv : Int) := hlv
      omega
     have ej : jj = cc - 2 ^ cc.log2 := by
      have : ((cc - 2 ^ cc.log2 : Nat) : Int) = (jj : Int) := hjj
      omega
     subst elv ej
     have e2 : 2 ^ (cc.log2 + 1) + (2 * (cc - 2 ^ cc.log2) + 1) = 2 * cc + 1 := by omega
     rw [q3', e2]
     have ea : answS ⟨some (w', ga, e9), 1, []⟩ 6 ga (askP cc).1 (askP cc).2 (nd prs (2 * cc)) (nd prs (2 * cc + 1)) [] = ((answerW w' prs cc).1, ⟨some ((answerW w' prs cc).2, ga, e9), 1, []⟩) := by
      have : answerW w' prs cc = nodeW w' (askP cc).1 (askP cc).2 (nd prs (2 * cc)) (nd prs (2 * cc + 1)) := by unfold answerW; rw [if_neg (by omega)]
      rw [this]
      unfold answS
      dsimp only
      rw [if_neg (by omega), if_pos rfl]
     refine ⟨_, _, _, _, _, _, _, _, _, _, Z32, z32, _, _, bi (nd prs (2 * cc)), by rw [bi_len, nd_len], bi (nd prs (2 * cc + 1)), by rw [bi_len, nd_len], _, _, _, true, rfl, fun e => absurd e (by decide), fun _ => ⟨nn64 _, fun _ => ?_, fun e => ?_⟩⟩
     ·refine cSAnswer (l := []) I11.x sp11.left z32 (nd_len _ _) (nd_len _ _) (.inl rfl) (by decide) (fun _ h => by cases h) hTb fun g13 N13 h13 x13 st13 => ⟨_, rfl, ?_⟩
      have I13 := I11.stage x13 st13
      rw [ea] at I13
      exact nxt st13.gs I13 k2 hle2 hdec3
     ·exact nxt (PH.Sub.rf _) I11 k' (Nat.le_refl _) fun hq => (skip e hq).elim
   ·have hjl : j = (asksF S9 3).length := by have := of_decide_eq_false e; omega
    have nx : ∀ h', h11.Sub h' → (∃ (n1 : Nat) (sS : ShS) (S : StS) (Ns N' : List Nat) (g' : PH), ((n + 1 : Nat) : Int) = n1 ∧ n1 ≤ masks.length + 40 ∧ ((n1 = 0 ∧ sS = ⟨some (0, 9), none, []⟩) ∨ sS = sS1) ∧ ShI h3 zb sb sS S Ns g' N' h' ∧ StSh prs at_ ae S ∧ (n1 ≤ masks.length ∨ ∃ w, S = ⟨some (w, at_, ae), 1, []⟩ ∧ (wSize w.A + (n1 - masks.length) ≤ 31 ∨ ∀ c, w.A c = none))) ∧ (((masks.length + 40 : Nat) : Int) - ((n + 1 : Nat) : Int)).toNat < (((masks.length + 40 : Nat) : Int) - (n : Int)).toNat := fun h' s' => by
     refine ⟨⟨n + 1, sS1, S11, Ns8, N11, g11, rfl, by omega, .inr rfl, I11.grow s', J11, ?_⟩, by omega⟩
     by_cases hn1 : n + 1 ≤ masks.length
     ·exact .inl hn1
     ·have hle : masks.length ≤ n := by omega
      obtain ⟨w, e9⟩ := B9 rfl hle
      subst e9
      have k9 : ShW prs w := by cases J9 with | on k => exact k
      obtain ⟨w', e', hle', hdec⟩ := C11 w rfl
      refine .inr ⟨w', e', ?_⟩
      by_cases hw : wList w.A = []
      ·right
       have h0 : (asksF ⟨some (w, at_, ae), 1, []⟩ 3).length = 0 := by
        show ((((wList w.A).map askP).take 8).map (askF 3 at_)).length = 0
        rw [hw]; rfl
       have := Z11 (by omega)
       rw [this] at e'
       cases e'
       exact k9.v.none hw
      ·left
       have h0 : 1 ≤ (asksF ⟨some (w, at_, ae), 1, []⟩ 3).length := by
        show 1 ≤ ((((wList w.A).map askP).take 8).map (askF 3 at_)).length
        have : (wList w.A).length ≠ 0 := fun e => hw (List.length_eq_zero_iff.1 e)
        rw [List.length_map, List.length_take, List.length_map]; omega
       have hd := hdec hle (by omega)
       have hz := k9.z
       rcases P7 with hP | ⟨w0, e0, hP⟩
       ·omega
       ·have := C9 w0 e0
        rw [e0] at this
        cases this
        rcases hP with hP | hP
        ·omega
        ·exact absurd (List.filter_eq_nil_iff.2 fun d _ => by rw [hP]; simp) hw
    refine cSDone I11.x I11.st.spl.left (fun w a e hh i l hq => ?_) (fun _ => ⟨_, _, _, _, _, _, rfl, fun e => (by cases e), fun _ => nx _ (PH.Sub.rf _)⟩) (fun w a e hh hc h' s' => ⟨_, _, _, _, _, _, rfl, fun e => (by cases e), fun _ => nx _ s'⟩) fun w a e hh hd h48 l a' c' B' h' hp hs hb' cc => ⟨_, _, _, _, _, _, rfl, fun _ => ?_, fun e => by cases e⟩
    ·cases J11 with
     | no => cases hh
     | on k => cases hh; exact (k.v.q i l hq).2.2
    cases J11 with
    | no => cases hh
    | @on w2 k =>
    cases hh
    have hd0 : ∀ c, w.A c = none := k.v.none (List.filter_eq_nil_iff.2 fun d hd' => by
     have hd'' := List.mem_range.1 hd'
     rcases Nat.eq_zero_or_pos d with rfl | hd1
     ·rw [k.v.a0]; simp
     ·rw [hd d hd1 hd'']; simp)
    refine ⟨fun _ => ?_, fun e => ?_⟩
    ·have sb3 : h3.Sub h' := I11.st.gh.tr cc.sub0
     refine cAll (tr3.sub sb3) fun a2 c2 B2 h2' hb2 cc2 => ⟨_, _, _, rfl, cRSame (hb'.sr.sub cc2.sub0) hb2.sr (by have := hp.length_eq; omega) ⟨_, rfl, fun e => ?_, fun _ => nx _ (cc.sub0.tr cc2.sub0)⟩⟩
     have e : l ≠ prs := by simpa using e
     obtain ⟨hmay, _⟩ := parts_up k.v.part hp hs
     refine (I11.grow (cc.sub0.tr cc2.sub0)).collides k hok hd0 (by rw [← hsS]) (hb'.sr.sub cc2.sub0) hmay (by rw [hp.length_eq]; exact h48) (fun hpp => e (up_unique (may_ok hok.1).2 (hp.trans (done_perm hpp)) hs)) fun h7 s7 => ⟨true, rfl, fun _ => wk22 (s03.tr (sb3.tr (cc2.sub0.tr s7))) hk, fun e => by cases e⟩
    ·rw [ea, ee] at e
     simp at e
 ·have hne : n = masks.length + 40 := by have := of_decide_eq_false e; omega
  rcases P7 with hP | ⟨w, e0, hP⟩
  ·omega
  subst e0
  have hd0 : ∀ c, w.A c = none := by
   rcases hP with hP | hP
   ·omega
   ·exact hP
  have k : ShW prs w := by cases J7 with | on k => exact k
  have hS1 : sS.texts = textsT prs := by
   rcases hS with ⟨hS, _⟩ | hS
   ·omega
   ·rw [hS]
  have s07 := s03.tr I7.st.gh
  refine cSDone I7.x I7.st.spl.left (fun w a e hh i l hq => by cases hh; exact (k.v.q i l hq).2.2) (fun hh => by cases hh) (fun w a e hh hc h8 s8 => ?_) fun w a e hh _ _ l a' c' B' h' _ _ _ cc => ⟨_, _, _, _, _, _, rfl, fun e => (by cases e), fun _ => wk22 (s07.tr cc.sub0) hk⟩
  cases hh
  refine ⟨_, _, _, _, _, _, rfl, fun _ => ?_, fun e => by cases e⟩
  refine (I7.grow s8).collides (m := []) k hok hd0 hS1 (.inl rfl) nil_may.1 nil_may.2 (fun hpp => ?_) fun h9 s9 => ⟨true, rfl, fun _ => wk22 (s07.tr (s8.tr s9)) hk, fun e => by cases e⟩
  have h1 := (done_perm hpp).length_eq
  have h2 := hok.2
  rcases hc with ⟨c, _, _, hc⟩ | ⟨_, hc⟩
  ·rw [hd0 c] at hc; cases hc
  ·omega
end TL
