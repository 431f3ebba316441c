/-
  Contracts of the document's answer for layers bucket and tree: numbers, texts, buckets, pages. No condition.
-/
import Derived.Test.YtmcgndbfoebcnaaGreatPartD
import Derived.Shelf.SlIter.Collect
import Derived.Shelf.SlSortCmp.WholeK
import Derived.Test.YtmcgndbfoebcnaaGreatProg
import Derived.Deep.RegionHeld3
import Derived.Test.YtmcgndbfoebcnaaGreatPartB
namespace TL
open Go Go.Proofs
variable {h : PH} {K : Value → PH → Prop} {p v : List UInt8} {lA : Option Addr} {lC : Nat} {l : List PrR}
theorem u8_of {n : Nat} (hn : n < 256) : ((UInt8.ofNat n).toNat : Int) = (n : Int) := by
 rw [UInt8.toNat_ofNat', Nat.mod_eq_of_lt (by omega)]
theorem cNum12 {n : Nat} (hn : n < 18446744073709551616) (hk : ∀ h', h.Sub h' → K (.string (mk (numL n))) h') : CallH Tryz.prog id_ref12_Num [.int .u64 (n : Int)] K h := by
 refine F_ref12_Num_ok (LoopP.ind (fun (z : ByteArray × Int × Unit) h' => ∃ (s : List UInt8) (m : Nat), z.1 = mk s ∧ z.2.1 = m ∧ m < 18446744073709551616 ∧ s ++ numL m = numL n ∧ h.Sub h') (fun z _ => z.2.1.toNat) ?_ ⟨[], n, rfl, rfl, hn, rfl, PH.Sub.rf _⟩)
 rintro ⟨zs, zm, u⟩ h1 ⟨s, m, hzs, hzm, hm, he, s1⟩
 dsimp only at hzs hzm
 subst hzs hzm
 dsimp only
 have hlen := numL_le hn
 have hsl : s.length + (numL m).length ≤ 10 := by rw [← he] at hlen; simpa using hlen
 refine ⟨fun e => ?_, fun e => ?_⟩
 ·have e : 128 ≤ m := by simp at e; omega
  have t1 : ((m : Nat) : Int).tmod 128 = ((m % 128 : Nat) : Int) := by rw [Int.tmod_eq_emod_of_nonneg (by omega)]; omega
  have t2 : ((m : Nat) : Int).tdiv 128 = ((m / 128 : Nat) : Int) := by rw [Int.tdiv_eq_ediv_of_nonneg (by omega)]; omega
  have w1 : IntKind.wrap .u8 (IntKind.wrap .u64 ((((m : Nat) : Int).tmod 128) + 128)) = ((UInt8.ofNat (128 + m % 128)).toNat : Int) := by
   rw [t1, wrap_u64 (by omega) (by omega), u8_of (by omega)]
   simp [IntKind.wrap, IntKind.bits, IntKind.signed]; omega
  rw [w1, t2, wrap_u64 (by omega) (by omega)]
  refine nwL fun b h2 _ hb2 c2 => ⟨_, SR.oneB hb2, ?_, ⟨s ++ [UInt8.ofNat (128 + m % 128)], m / 128, by rw [mk_append], rfl, by omega, ?_, s1.tr c2.sub0⟩, by omega⟩
  ·rw [size_mk, size_mk]; simp; omega
  ·rw [← he, numL_step hm e, List.append_assoc]; rfl
 ·have e : m < 128 := by simp at e; omega
  have w1 : IntKind.wrap .u8 ((m : Nat) : Int) = ((UInt8.ofNat m).toNat : Int) := by
   rw [u8_of (by omega)]; simp [IntKind.wrap, IntKind.bits, IntKind.signed]; omega
  rw [w1]
  refine nwL fun b h2 _ hb2 c2 => ⟨_, SR.oneB hb2, ?_, ?_⟩
  ·rw [size_mk, size_mk]; simp; omega
  ·rw [mk_append, show s ++ [UInt8.ofNat m] = numL n by rw [← he, numL_small e]]
   exact hk _ (s1.tr c2.sub0)
theorem cText12 (hp : p.length ≤ 1000000) (hk : ∀ h', h.Sub h' → K (.string (mk (textL p))) h') : CallH Tryz.prog id_ref12_Text [.string (mk p)] K h := by
 refine F_ref12_Text_ok ?_
 unfold F_ref12_Text
 rw [size_mk, wrap_u64 (by omega) (by omega)]
 refine cNum12 (by omega) fun h1 s1 => ⟨_, rfl, ?_, ?_⟩
 ·have := numL_le (n := p.length) (by omega)
  rw [size_mk]; omega
 ·rw [mk_append]; exact hk h1 s1
theorem cROf14 (hp : p.length ≤ 1000000) (hk : ∀ h', h.Sub h' → K (.int .i64 (bkt p : Nat)) h') : CallH Tryz.prog id_ref14_Of [.string (mk p)] K h := by
 refine F_ref14_Of_ok (cRSum hp fun h1 s1 => ⟨bi (shaN p), by rw [bi_len, shaN_len], rfl, ?_⟩)
 have hne : shaN p ≠ [] := fun e => by have := shaN_len p; rw [e] at this; simp at this
 have hlt : ((shaN p).getD 0 0).toNat < 256 := UInt8.toNat_lt _
 have : IntKind.wrap .i64 ((IntKind.wrap .i64 (((bi (shaN p)).take 1).getD 0 0)).tdiv (16 : Int)) = ((bkt p : Nat) : Int) := by
  have e1 : IntKind.wrap .i64 ((((shaN p).getD 0 0).toNat : Nat) : Int) = ((((shaN p).getD 0 0).toNat : Nat) : Int) := wrap64 (by omega) (by omega)
  rw [bi_get _ hne, e1, Int.tdiv_eq_ediv_of_nonneg (by omega), wrap64 (by omega) (by omega)]
  unfold bkt; omega
 rw [this]
 exact hk h1 s1
theorem cRMay (hl : SR EncPr h lA l) (hn : l.length ≤ 1000000) (hs : ∀ x ∈ l, x.p.length ≤ 1000000) (hk : K (.bool (mayB l)) h) : CallH Tryz.prog id_ref14_May [.slice lA l.length lC] K h := by
 refine F_ref14_May_ok (LoopP.ind (fun (z : Int × Unit) h' => ∃ k : Nat, z.1 = k ∧ k ≤ l.length ∧ h' = h ∧ mayB (l.take k) = true) (fun z _ => (l.length - z.1).toNat) ?_ ⟨0, rfl, by omega, rfl, by simp [mayB, Up]⟩)
 rintro ⟨zi, u⟩ h1 ⟨k, hzi, hkl, rfl, hm⟩
 dsimp only at hzi
 subst hzi
 dsimp only
 refine ⟨fun e => ?_, fun e => ?_⟩
 ·have e : k < l.length := by simpa using e
  have hit : ((k : Nat) : Int).toNat = k := by omega
  have hmem := List.getElem_mem e
  obtain ⟨b, o, hA, hr⟩ := hl.get e
  have no : (okPr l[k] = false ∨ ¬ Up (l.take (k + 1))) → K (.bool false) h1 := fun hno => by
   have : mayB l = false := by
    cases hml : mayB l with
    | false => rfl
    | true =>
     obtain ⟨h1, h2⟩ := may_ok hml
     rcases hno with h | h
     ·rw [h1 _ hmem] at h; cases h
     ·exact absurd (h2.sublist (List.take_sublist _ _)) h
   rw [this] at hk; exact hk
  have yes : okPr l[k] = true → Up (l.take (k + 1)) → mayB (l.take (k + 1)) = true := fun h1 h2 => by
   simp only [mayB, Bool.and_eq_true, List.all_eq_true, decide_eq_true_eq]
   refine ⟨fun x hx => ?_, h2⟩
   rw [← List.take_append_getElem e] at hx
   rcases List.mem_append.1 hx with hx | hx
   ·exact (may_ok hm).1 x hx
   ·rw [List.mem_singleton] at hx; subst hx; exact h1
  have hw : IntKind.wrap .i64 (((k : Nat) : Int) + (1 : Int)) = ((k + 1 : Nat) : Int) := by rw [wrap64] <;> omega
  rw [hit, hw]
  refine ⟨b, o, ⟨hA, by omega, by omega⟩, _, hr _ 0 1 rfl (by decide), cRCut (by have := hs _ hmem; omega) ⟨_, _, _, rfl, b, o, fun _ => ⟨hA, by omega, by omega⟩, mk l[k].v, fun _ => hr _ 1 1 rfl (by decide), fun e2 => ?_, fun e2 => ?_⟩⟩
  ·refine no (.inl ?_)
   rw [size_mk] at e2
   unfold okPr
   cases hc : (cutV l[k].p).2.2 with
   | false => rfl
   | true => rw [hc] at e2; simp at e2 ⊢; omega
  ·have hok : okPr l[k] = true := by
    rw [size_mk] at e2
    unfold okPr
    cases hc : (cutV l[k].p).2.2 with
    | false => rw [hc] at e2; simp at e2
    | true => rw [hc] at e2; simp at e2 ⊢; omega
   by_cases e0 : k = 0
   ·subst e0
    refine ⟨0, 0, fun e => by simp at e, mk [], fun e => by simp at e, 0, 0, fun e => by simp at e, mk [], fun e => by simp at e, fun e => by simp at e, fun _ => ⟨⟨1, rfl, by omega, rfl, yes hok ?_⟩, by omega⟩⟩
    cases l with
    | nil => simp at e
    | cons x r => simp [Up]
   ·have ek : k - 1 < l.length := by omega
    obtain ⟨b2, o2, hA2, hr2⟩ := hl.get ek
    have hw1 : IntKind.wrap .i64 (((k : Nat) : Int) - (1 : Int)) = ((k - 1 : Nat) : Int) := by rw [wrap64] <;> omega
    have hit1 : ((k - 1 : Nat) : Int).toNat = k - 1 := by omega
    rw [hw1, hit1]
    refine ⟨b2, o2, fun _ => ⟨hA2, by omega, by omega⟩, mk l[k - 1].p, fun _ => hr2 _ 0 1 rfl (by decide), b, o, fun _ => ⟨hA, by omega, by omega⟩, mk l[k].p, fun _ => hr _ 0 1 rfl (by decide), fun _ => cLess (by have := hs _ (List.getElem_mem ek); omega) ⟨_, rfl, fun e3 => ?_, fun e3 => ?_⟩, fun e => by simp at e; omega⟩
    ·have e3 : ¬ l[k - 1].p < l[k].p := by simpa using e3
     refine no (.inr fun hu => e3 ?_)
     have := List.pairwise_iff_getElem.1 hu (k - 1) k (by rw [List.length_take]; omega) (by rw [List.length_take]; omega) (by omega)
     simpa using this
    ·have e3 : l[k - 1].p < l[k].p := by simpa using e3
     refine ⟨⟨k + 1, rfl, by omega, rfl, yes hok ?_⟩, by omega⟩
     rw [← List.take_append_getElem e]
     refine up_snoc (may_ok hm).2 fun y hy => ?_
     have hlast : (l.take k).getLast? = some l[k - 1] := by
      rw [List.getLast?_eq_getElem?, List.length_take, Nat.min_eq_left (by omega), List.getElem?_take, if_pos (by omega), List.getElem?_eq_getElem ek]
     rw [hlast] at hy; cases hy
     exact e3
 ·have e : k = l.length := by simp at e; omega
  subst e
  rw [List.take_length] at hm
  rw [hm] at hk; exact hk
theorem cRPart {i : Nat} (hl : SR EncPr h lA l) (hn : l.length ≤ 1000000) (hs : ∀ x ∈ l, x.p.length ≤ 1000000) (hk : ∀ a' c' B' h', Buf EncPr T_api_Pair B' h' a' (partB l i).length c' (partB l i) → Chg [] B' h h' → K (.slice a' (partB l i).length c') h') :
  CallH Tryz.prog id_ref14_Part [.slice lA l.length lC, .int .i64 (i : Int)] K h := by
 refine F_ref14_Part_ok (LoopP.ind (fun (z : (Option Addr × Nat × Nat) × Int × Unit) h' => ∃ (k : Nat) (B' : List Nat), z.2.1 = k ∧ k ≤ l.length ∧ Buf EncPr T_api_Pair B' h' z.1.1 z.1.2.1 z.1.2.2 (partB (l.take k) i) ∧ Chg [] B' h h') (fun z _ => (l.length - z.2.1).toNat) ?_ ⟨0, [], rfl, by omega, Buf.nil _ _ _ _, Chg.refl _ _⟩)
 rintro ⟨⟨oA, oN, oC⟩, zi, u⟩ h1 ⟨k, B1, hzi, hi, hb, hc⟩
 dsimp only at hzi hb
 subst hzi
 dsimp only
 refine ⟨fun e => ?_, fun e => ?_⟩
 ·have e : k < l.length := by simpa using e
  have hit : ((k : Nat) : Int).toNat = k := by omega
  obtain ⟨b, o, hA, hr⟩ := (hl.sub hc.sub0).get e
  have hm := List.getElem_mem e
  have hsn : l.take (k + 1) = l.take k ++ [l[k]] := (List.take_append_getElem e).symm
  have hon : oN ≤ k := by
   rw [hb.1]
   refine Nat.le_trans (List.length_filter_le _ _) ?_
   rw [List.length_take]; omega
  rw [hit]
  refine ⟨b, o, ⟨hA, by omega, by omega⟩, _, hr _ 0 1 rfl (by decide), cROf14 (hs _ hm) fun h2 s2 => ⟨_, rfl, fun e2 => ?_, fun e2 => ?_⟩⟩
  ·have e2 : bkt l[k].p = i := by simp at e2; omega
   have hb2 := hb.sub s2
   refine ⟨b, o, ⟨hA, by omega, by omega⟩, _, _, rds_sub s2 (hr _ 0 2 rfl (by decide)), hb2.append (new := [l[k]]) rfl rfl rfl (by omega) fun a' c' B' h' hb' hc' _ => ⟨⟨k + 1, B', by rw [wrap64] <;> omega, by omega, ?_, (hc.onto s2).trans hc'⟩, by rw [wrap64] <;> omega⟩⟩
   have : partB (l.take (k + 1)) i = partB (l.take k) i ++ [l[k]] := by
    unfold partB; rw [hsn, List.filter_append]; simp [e2]
   rw [this]; exact hb'
  ·have e2 : bkt l[k].p ≠ i := by simp at e2; omega
   refine ⟨⟨k + 1, B1, by rw [wrap64] <;> omega, by omega, ?_, hc.onto s2⟩, by rw [wrap64] <;> omega⟩
   have : partB (l.take (k + 1)) i = partB (l.take k) i := by
    unfold partB; rw [hsn, List.filter_append]; simp [e2]
   rw [this]; exact hb.sub s2
 ·have e : k = l.length := by simp at e; omega
  rw [e, List.take_length] at hb
  have := hb.1
  subst this
  exact hk _ _ _ _ hb hc
theorem cRPage {i : Nat} (hi : i < 16) (hl : SR EncPr h lA l) (hn : l.length ≤ 1000) (hs : ∀ x ∈ l, x.p.length ≤ 1000000) (hk : ∀ h', h.Sub h' → K (.tuple #[.string (mk (pageV i l).1), .int .i64 ((pageV i l).2 : Nat)]) h') :
  CallH Tryz.prog id_ref14_Page [.int .i64 (i : Int), .slice lA l.length lC] K h := by
 have hno : ¬ (mayB l = true ∧ (partB l i).length = l.length) → ∀ h', h.Sub h' → K (.tuple #[.string (⟨#[]⟩ : ByteArray), .int .i64 (1 : Int)]) h' := fun hn h' s => by
  have := hk h' s
  unfold pageV at this; rw [if_neg hn] at this; exact this
 refine F_ref14_Page_ok ⟨fun _ h' => h' = h ∧ mayB l = true, ⟨fun _ => cRMay hl (by omega) hs ⟨_, rfl, fun e => hno (fun hh => by rw [hh.1] at e; cases e) _ (PH.Sub.rf _), fun e => ⟨rfl, by simpa using e⟩⟩, fun e => by simp at e; omega⟩, ?_⟩
 rintro u h1 ⟨rfl, hm⟩
 obtain ⟨hok, _⟩ := may_ok hm
 rw [wrap_u64 (by omega) (by omega)]
 have hnl := numL_le (n := l.length) (by omega)
 refine cNum12 (by omega) fun h2 s2 => ⟨_, rfl, LoopP.ind (fun (z : ByteArray × Int × Unit) h' => ∃ k : Nat, z.1 = mk (numL l.length ++ (l.take k).flatMap prL) ∧ z.2.1 = k ∧ k ≤ l.length ∧ h1.Sub h' ∧ (∀ x ∈ l.take k, bkt x.p = i) ∧ ((l.take k).flatMap prL).length ≤ k * 200) (fun z _ => (l.length - z.2.1).toNat) ?_ ⟨0, by simp, rfl, by omega, s2, by simp, by simp⟩⟩
 rintro ⟨zs, zi, u⟩ h3 ⟨k, hzs, hzi, hkl, s3, hb, hlen⟩
 dsimp only at hzs hzi
 subst hzs hzi
 dsimp only
 refine ⟨fun e => ?_, fun e => ?_⟩
 ·have e : k < l.length := by simpa using e
  have hit : ((k : Nat) : Int).toNat = k := by omega
  obtain ⟨b, o, hA, hr⟩ := (hl.sub s3).get e
  have hmem := List.getElem_mem e
  obtain ⟨o1, o2⟩ := ok_len (hok _ hmem)
  have n1 := numL_le (n := l[k].p.length) (by omega)
  have n2 := numL_le (n := l[k].v.length) (by omega)
  have hw : IntKind.wrap .i64 (((k : Nat) : Int) + (1 : Int)) = ((k + 1 : Nat) : Int) := by rw [wrap64] <;> omega
  rw [hit, hw]
  have hr1 := hr (o + k * 2) 0 1 rfl (by decide)
  have hr2 := hr (o + k * 2 + 1) 1 1 rfl (by decide)
  refine ⟨b, o, ⟨hA, by omega, by omega⟩, _, hr1, cROf14 (by omega) fun h4 s4 => ⟨_, rfl, fun e2 => ?_, fun e2 => ?_⟩⟩
  ·have e2 : bkt l[k].p ≠ i := by simp at e2; omega
   refine hno (fun hh => ?_) _ (s3.tr s4)
   have : (partB l i) = l := List.filter_eq_self.2 (List.length_filter_eq_length_iff.1 hh.2)
   have := List.length_filter_eq_length_iff.1 hh.2 _ hmem
   simp at this; exact e2 this
  ·have e2 : bkt l[k].p = i := by simp at e2; omega
   refine ⟨b, o, ⟨hA, by omega, by omega⟩, _, rds_sub s4 hr1, b, o, ⟨hA, by omega, by omega⟩, _, rds_sub s4 hr2, cText12 (by omega) fun h5 s5 => ⟨_, rfl, rds_sub (s4.tr s5) hr2, ?_, cText12 (by omega) fun h6 s6 => ⟨_, rfl, ?_, ⟨k + 1, ?_, rfl, by omega, ((s3.tr s4).tr s5).tr s6, ?_, ?_⟩, by omega⟩⟩⟩
   ·rw [size_mk, size_mk]; simp only [List.length_append, textL]; omega
   ·rw [mk_append, size_mk, size_mk]; simp only [List.length_append, textL]; omega
   ·rw [mk_append, mk_append, ← List.take_append_getElem e, List.flatMap_append]; simp [prL]
   ·intro x hx
    rw [← List.take_append_getElem e] at hx
    rcases List.mem_append.1 hx with hx | hx
    ·exact hb x hx
    ·rw [List.mem_singleton] at hx; subst hx; exact e2
   ·rw [← List.take_append_getElem e, List.flatMap_append]
    simp only [List.length_append, List.flatMap_cons, List.flatMap_nil, List.length_nil, prL, textL]; omega
 ·have e : k = l.length := by simp at e; omega
  subst e
  rw [List.take_length] at hb
  have hp : (partB l i).length = l.length := by rw [part_all hb]
  have hkk := hk h3 s3
  unfold pageV at hkk
  rw [if_pos ⟨hm, hp⟩] at hkk
  refine ⟨fun e => ?_, fun e => ?_⟩
  ·rw [if_neg (by simp at e; omega)] at hkk; exact hkk
  ·rw [if_pos (by simp at e; omega)] at hkk
   rw [List.take_length]; exact hkk
end TL

namespace TL
open Go Go.Proofs
variable {h : PH} {K : Value → PH → Prop} {p v : List UInt8} {lA : Option Addr} {lC : Nat} {l : List PrR}
theorem Chg.post {B B' : List Nat} {h g k : PH} (c : Chg B B' h g) (s : g.Sub k) : Chg B B' h k := ⟨fun b o hb e => s b o (c.1 b o hb e), c.2⟩
theorem cLeafText {i : Nat} (hi : i < 16) (hl : SR EncPr h lA l) (hm : mayB l = true) (h48 : l.length ≤ 48) (hk : ∀ h', h.Sub h' → K (.string (mk (leafT l i))) h') :
  CallH Tryz.prog id_ref15_LeafText [.slice lA l.length lC, .int .i64 (i : Int)] K h := by
 have hs : ∀ x ∈ l, x.p.length ≤ 1000000 := fun x hx => by have := ok_len ((may_ok hm).1 x hx); omega
 have hp := part_ok hm h48 i
 refine F_ref15_LeafText_ok (cRPart hl (by omega) hs fun a' c' B' h' hb hc => ⟨_, _, _, rfl, cRPage hi hb.sr (by have := hp.2.2; omega) (fun x hx => by have := ok_len ((may_ok hp.1).1 x hx); omega) fun h2 s2 => ⟨_, _, rfl, ?_, ?_⟩⟩)
 ·have := page_len hp
  rw [page_ok hp, size_mk]; show ((1 + (pageL (partB l i)).length : Nat) : Int) ≤ _; omega
 ·rw [page_ok hp, show (⟨#[76]⟩ : ByteArray) = mk [76] from rfl, mk_append]
  exact hk h2 (hc.sub0.tr s2)
abbrev H32 : Type := {x : List UInt8 // x.length = 32}
def EncH : Enc H32 where
 enc x := (bi x.1).map (Value.int .u8)
 k := 32
 len x := by rw [List.length_map, bi_len, x.2]
 one x v hv := by
  obtain ⟨n, _, rfl⟩ := List.mem_map.1 hv
  rfl
 pos := by decide
structure SlR where
 a : Option Addr
 n : Nat
 c : Nat
def EncSl : Enc SlR where
 enc r := [.slice r.a r.n r.c]
 k := 1
 len _ := rfl
 one o v hv := by
  simp only [List.mem_cons, List.not_mem_nil, or_false] at hv
  rcases hv with rfl; rfl
 pos := by decide
def nodeH (S : List PrR) (c : Nat) : H32 := ⟨nd S c, nd_len S c⟩
def lvRow (S : List PrR) (j m : Nat) : List H32 := (List.range m).map fun i => nodeH S (2 ^ j + i)
theorem lvRow_len (S : List PrR) (j m : Nat) : (lvRow S j m).length = m := by simp [lvRow]
theorem lvRow_get (S : List PrR) (j m i : Nat) (h : i < (lvRow S j m).length) : (lvRow S j m)[i] = nodeH S (2 ^ j + i) := by simp [lvRow]
theorem lvRow_succ (S : List PrR) (j m : Nat) : lvRow S j (m + 1) = lvRow S j m ++ [nodeH S (2 ^ j + m)] := by simp [lvRow, List.range_succ]
theorem set_range {α : Type} (f : Nat → α) {m k : Nat} (_ : k < m) (x : α) : ((List.range m).map f).set k x = (List.range m).map (upF f k x) := by
 apply List.ext_getElem
 ·simp
 ·intro i h1 h2
  simp only [List.getElem_set, List.getElem_map, List.getElem_range]
  unfold upF
  by_cases e : k = i
  ·rw [if_pos e, if_pos e.symm]
  ·rw [if_neg e, if_neg (Ne.symm e)]
def LvB (h : PH) (bv : Nat) (f : Nat → SlR) : Prop := ∃ T, Buf EncSl T [bv] h (some ⟨bv, 0, none⟩) 5 5 ((List.range 5).map f)
variable {bv : Nat} {f : Nat → SlR}
theorem LvB.get (x : LvB h bv f) {j o : Nat} (hj : j < 5) (ho : o = j) : h.rds bv o 1 = some [.slice (f j).a (f j).n (f j).c] := by
 obtain ⟨T, x⟩ := x
 have hlen : j < ((List.range 5).map f).length := by simpa using hj
 obtain ⟨b, o2, hA, hr⟩ := x.sr.get hlen
 cases hA
 have := hr o 0 1 (by show o = 0 + j * 1 + 0; omega) (by decide)
 simpa [EncSl] using this
theorem LvB.set (x : LvB h bv f) {j o : Nat} {r : SlR} {K : PH → Prop} (hj : j < 5) (ho : o = j) (hk : ∀ h', LvB h' bv (upF f j r) → Chg [bv] [bv] h h' → K h') : stH h bv o [.slice r.a r.n r.c] K := by
 obtain ⟨T, x⟩ := x
 refine x.setAt (i := j) (f := 0) (y := r) (vs := [.slice r.a r.n r.c]) (by simpa using hj) rfl (by show o = 0 + j * 1 + 0; omega) rfl (Nat.le_refl 1) fun h' x' c => hk h' ⟨T, ?_⟩ c
 rw [← set_range f hj]; exact x'
theorem LvB.there (x : LvB h bv f) : ∃ o, h bv = some o := by
 obtain ⟨T, _, ⟨h0, _⟩ | ⟨b', tail, ha, hB, hcell, _⟩⟩ := x
 ·cases h0
 ·cases ha; exact ⟨_, hcell⟩
theorem LvB.keep {h' : PH} (x : LvB h bv f) (e : ∀ o, h bv = some o → h' bv = some o) : LvB h' bv f := by
 obtain ⟨T, x⟩ := x
 exact ⟨T, x.keep fun b hb _ e2 => by simp at hb; subst hb; exact e _ e2⟩
theorem LvB.sub {h' : PH} (x : LvB h bv f) (s : h.Sub h') : LvB h' bv f := x.keep fun _ e => s _ _ e
def isIntV : Value → Bool
 | .int _ _ => true
 | _ => false
theorem LvB.quiet (x : LvB h bv f) : ∀ b ∈ [bv], ∀ cs T fr, h b = some (.cells cs T fr) → ∀ v ∈ cs.toList, isIntV v = false := fun b hb _ _ _ e v hv => by
 simp at hb; subst hb
 obtain ⟨T', _, ⟨h0, _⟩ | ⟨b', tail, ha, hB, hcell, htl, _⟩⟩ := x
 ·cases h0
 ·cases ha
  rw [hcell] at e; cases e
  have : tail = [] := List.length_eq_zero_iff.1 (by rw [htl]; rfl)
  subst this
  simp only [List.append_nil, Enc.row, List.mem_flatMap, List.mem_map] at hv
  obtain ⟨r, _, hr⟩ := hv
  simp only [EncSl, List.mem_cons, List.not_mem_nil, or_false] at hr
  subst hr; rfl
theorem LvB.off {h' : PH} {B' : List Nat} {a : Option Addr} {L : List H32} (x : LvB h bv f) (s : SR EncH h a L) (c : Chg [bv] B' h h') : SR EncH h' a L :=
 s.off isIntV (fun y => by
  have hl : (EncH.enc y).length = 32 := EncH.len y
  refine ⟨(EncH.enc y)[0], List.getElem_mem _, ?_⟩
  simp [EncH, isIntV]) x.quiet c
theorem hsh {x : List UInt8} (hx : x.length = 32) : (bi x).map (Value.int .u8) ++ [] = EncH.row [⟨x, hx⟩] := by simp [Enc.row, EncH]
theorem cLevels (hl : SR EncPr h lA l) (hm : mayB l = true) (h48 : l.length ≤ 48) (hk : ∀ bv f h', LvB h' bv f → (∀ j, j < 5 → (f j).n = 2 ^ j ∧ SR EncH h' (f j).a (lvRow l j (2 ^ j))) → h.Sub h' → K (.slice (some ⟨bv, 0, none⟩) 5 5) h') :
  CallH Tryz.prog id_ref15_Levels [.slice lA l.length lC] K h := by
 refine F_ref15_Levels_ok ⟨⟨by decide, by decide, by decide⟩, nwL (cs := [.slice none 0 0, .slice none 0 0, .slice none 0 0, .slice none 0 0, .slice none 0 0]) fun bv h1 hbn hb1 c1 => ?_⟩
 have x1 : LvB h1 bv fun _ => ⟨none, 0, 0⟩ := ⟨_, rfl, .inr ⟨bv, [], rfl, rfl, hb1, rfl, by decide⟩⟩
 refine LoopP.ind (fun (z : Int × Unit) h' => ∃ (i : Nat) (f : Nat → SlR) (B : List Nat), z.1 = i ∧ i ≤ 16 ∧ LvB h' bv f ∧ bv ∉ B ∧ Buf EncH T_api_Hash B h' (f 4).a (f 4).n (f 4).c (lvRow l 4 i) ∧ (∀ j, j < 4 → f j = ⟨none, 0, 0⟩) ∧ Chg [] (bv :: B) h h') (fun z _ => (16 - z.1).toNat) ?_ ⟨0, _, [], rfl, by omega, x1, by simp, Buf.nil _ _ _ _, fun _ _ => rfl, c1⟩
 rintro ⟨zi, u⟩ h2 ⟨i, f, B, hzi, hi, x2, nB, b2, f2, c2⟩
 dsimp only at hzi
 subst hzi
 dsimp only
 refine ⟨fun e => ?_, fun e => ?_⟩
 ·have e : i < 16 := by simp at e; omega
  have hw : IntKind.wrap .i64 (((i : Nat) : Int) + (1 : Int)) = ((i + 1 : Nat) : Int) := by rw [wrap64] <;> omega
  have hg : ∀ {g : PH}, LvB g bv f → g.rds bv (0 + (4 : Int).toNat * 1) 1 = some [.slice (f 4).a (f 4).n (f 4).c] := fun x => x.get (j := 4) (by omega) rfl
  rw [hw]
  refine ⟨bv, 0, ⟨rfl, by decide, by decide⟩, _, _, _, hg x2, cLeafText e (hl.sub c2.sub0) hm h48 fun h3 s3 => ⟨_, rfl, hg (x2.sub s3), cRSum (by have := leafT_le hm h48 i; omega) fun h4 s4 => ⟨bi (shaN (leafT l i)), by rw [bi_len, shaN_len], rfl, hg ((x2.sub s3).sub s4), ?_⟩⟩⟩
  have hn : (f 4).n = i := by rw [b2.1, lvRow_len]
  refine ((b2.sub s3).sub s4).append (new := [⟨shaN (leafT l i), shaN_len _⟩]) rfl (hsh _) rfl (by omega) fun a' c' B' h5 b5 c5 _ => ⟨bv, 0, ⟨rfl, by decide, by decide⟩, ?_⟩
  obtain ⟨ob, hob⟩ := ((x2.sub s3).sub s4).there
  have nB5 : bv ∉ B' := c5.fresh hob nB
  have x5 : LvB h5 bv f := ((x2.sub s3).sub s4).keep fun o e => c5.keep e nB
  refine x5.set (j := 4) (r := ⟨a', (f 4).n + 1, c'⟩) (by omega) rfl fun h6 x6 c6 => ⟨⟨i + 1, _, B', rfl, by omega, x6, nB5, ?_, fun j hj => ?_, ?_⟩, by omega⟩
  ·rw [upF_same]
   have hrow : lvRow l 4 i ++ [⟨shaN (leafT l i), shaN_len _⟩] = lvRow l 4 (i + 1) := by
    rw [lvRow_succ]
    congr 2
    apply Subtype.ext
    show _ = nd l (16 + i)
    unfold nd
    rw [node_leaf _ (by omega) (by omega), show 16 + i - 16 = i by omega]; rfl
   rw [hrow] at b5
   exact b5.chg c6 (notIn1 nB5)
  ·rw [upF_ne _ _ (by omega)]; exact f2 j hj
  ·exact ((c2.onto (s3.tr s4)).trans c5.tail).trans c6.head
 ·have e : i = 16 := by simp at e; omega
  subst e
  refine LoopP.ind (fun (z : Int × Unit) h' => ∃ (q : Nat) (f : Nat → SlR), z.1 = (q : Int) - 1 ∧ q ≤ 4 ∧ LvB h' bv f ∧ (∀ j, j < 5 → q ≤ j → (f j).n = 2 ^ j ∧ SR EncH h' (f j).a (lvRow l j (2 ^ j))) ∧ (∀ j, j < q → f j = ⟨none, 0, 0⟩) ∧ Chg [] [bv] h h') (fun z _ => (z.1 + 1).toNat) ?_ ⟨4, f, rfl, by omega, x2, fun j h1 h2 => ?_, f2, c2.sub (by simp) (by simp)⟩
  ·rintro ⟨zl, u⟩ h3 ⟨q, f, hzl, hq, x3, r3, f3, c3⟩
   dsimp only at hzl
   subst hzl
   dsimp only
   refine ⟨fun e => ?_, fun e => ?_⟩
   ·have e : 1 ≤ q := by simp at e; omega
    obtain ⟨lv, rfl⟩ : ∃ lv, q = lv + 1 := ⟨q - 1, by omega⟩
    have w1 : IntKind.wrap .i64 ((((lv + 1 : Nat) : Int) - 1) + 1) = ((lv + 1 : Nat) : Int) := by rw [wrap64] <;> omega
    have w2 : IntKind.wrap .i64 ((((lv + 1 : Nat) : Int) - 1) - 1) = ((lv : Nat) : Int) - 1 := by rw [wrap64] <;> omega
    rw [w1, w2]
    have hp2 : 2 ^ (lv + 1) = 2 * 2 ^ lv := by rw [Nat.pow_succ]; omega
    have hp8 : 2 ^ lv ≤ 8 := Nat.pow_le_pow_right (n := 2) (by decide) (show lv ≤ 3 by omega)
    refine LoopP.ind (fun (z : Int × Unit) h' => ∃ (i : Nat) (f' : Nat → SlR) (B : List Nat), z.1 = i ∧ i ≤ 2 ^ lv ∧ LvB h' bv f' ∧ bv ∉ B ∧ Buf EncH T_api_Hash B h' (f' lv).a (f' lv).n (f' lv).c (lvRow l lv i) ∧ (∀ j, j ≠ lv → f' j = f j) ∧ Chg [bv] (bv :: B) h3 h' ∧ Chg [] (bv :: B) h h') (fun z _ => (((2 ^ lv : Nat) : Int) - z.1).toNat) ?_ ⟨0, f, [], rfl, Nat.zero_le _, x3, by simp, by rw [f3 lv (by omega)]; exact Buf.nil _ _ _ _, fun _ _ => rfl, Chg.refl _ _, c3⟩
    rintro ⟨zi, u⟩ h4 ⟨i, f', B, hzi, hi, x4, nB, b4, f4, c34, c4⟩
    dsimp only at hzi
    subst hzi
    dsimp only
    have hup := r3 (lv + 1) (by omega) (by omega)
    have hup4 := x3.off hup.2 c34
    have tn1 : ((lv + 1 : Nat) : Int).toNat = lv + 1 := by omega
    have tn0 : (((lv + 1 : Nat) : Int) - 1).toNat = lv := by omega
    have g1 : ∀ {g : PH}, LvB g bv f' → g.rds bv (0 + (lv + 1) * 1) 1 = some [.slice (f (lv + 1)).a (f (lv + 1)).n (f (lv + 1)).c] := fun x => by
     have := x.get (j := lv + 1) (o := 0 + (lv + 1) * 1) (by omega) (by omega)
     rw [f4 (lv + 1) (by omega)] at this; exact this
    have g0 : ∀ {g : PH}, LvB g bv f' → g.rds bv (0 + lv * 1) 1 = some [.slice (f' lv).a (f' lv).n (f' lv).c] := fun x => x.get (j := lv) (by omega) (by omega)
    rw [tn1, tn0]
    have hdiv : IntKind.wrap .i64 ((((f (lv + 1)).n : Nat) : Int).tdiv (2 : Int)) = ((2 ^ lv : Nat) : Int) := by
     rw [hup.1, tdiv2, wrap64 (by omega) (by omega)]; omega
    refine ⟨bv, 0, ⟨rfl, by omega, by show ((lv + 1 : Nat) : Int) < 5; omega⟩, _, _, _, g1 x4, ?_⟩
    rw [hdiv]
    refine ⟨fun e2 => ?_, fun e2 => ?_⟩
    ·have e2 : i < 2 ^ lv := Int.ofNat_lt.1 (of_decide_eq_true e2)
     have w3 : IntKind.wrap .i64 ((2 : Int) * ((i : Nat) : Int)) = ((2 * i : Nat) : Int) := by rw [wrap64] <;> omega
     have w4 : IntKind.wrap .i64 (((2 * i : Nat) : Int) + (1 : Int)) = ((2 * i + 1 : Nat) : Int) := by rw [wrap64] <;> omega
     have w5 : IntKind.wrap .i64 (((i : Nat) : Int) + (1 : Int)) = ((i + 1 : Nat) : Int) := by rw [wrap64] <;> omega
     have t3 : ((2 * i : Nat) : Int).toNat = 2 * i := by omega
     have t4 : ((2 * i + 1 : Nat) : Int).toNat = 2 * i + 1 := by omega
     rw [w3, w4, w5, t3, t4]
     have hl1 : 2 * i < (lvRow l (lv + 1) (2 ^ (lv + 1))).length := by rw [lvRow_len]; omega
     have hl2 : 2 * i + 1 < (lvRow l (lv + 1) (2 ^ (lv + 1))).length := by rw [lvRow_len]; omega
     obtain ⟨bb, ob, hA1, hr1⟩ := hup4.get hl1
     obtain ⟨bb2, ob2, hA2, hr2⟩ := hup4.get hl2
     have hrd1 := hr1 (ob + 2 * i * 32) 0 32 (by show _ = ob + 2 * i * 32 + 0; omega) (by decide)
     have hrd2 := hr2 (ob2 + (2 * i + 1) * 32) 0 32 (by show _ = ob2 + (2 * i + 1) * 32 + 0; omega) (by decide)
     have hen : ∀ y : H32, ((EncH.enc y).drop 0).take 32 = (bi y.1).map (Value.int .u8) ++ [] := fun y => by
      rw [List.drop_zero, List.append_nil, List.take_of_length_le (by rw [EncH.len]; decide)]; rfl
     rw [hen, lvRow_get] at hrd1 hrd2
     have hc1 : 2 ^ (lv + 1) + 2 * i = 2 * (2 ^ lv + i) := by omega
     have hc2 : 2 ^ (lv + 1) + (2 * i + 1) = 2 * (2 ^ lv + i) + 1 := by omega
     rw [hc1] at hrd1
     rw [hc2] at hrd2
     refine ⟨bv, 0, ⟨rfl, by omega, by show ((lv + 1 : Nat) : Int) - 1 < 5; omega⟩, _, _, _, g0 x4, bv, 0, ⟨rfl, by omega, by show ((lv + 1 : Nat) : Int) < 5; omega⟩, _, _, _, g1 x4, bb, ob, ⟨hA1, by omega, by rw [hup.1]; omega⟩, bi (nd l (2 * (2 ^ lv + i))), by rw [bi_len, nd_len], hrd1,
      bv, 0, ⟨rfl, by omega, by show ((lv + 1 : Nat) : Int) < 5; omega⟩, _, _, _, g1 x4, bb2, ob2, ⟨hA2, by omega, by rw [hup.1]; omega⟩, bi (nd l (2 * (2 ^ lv + i) + 1)), by rw [bi_len, nd_len], hrd2,
      cRInnerText (nd_len _ _) (nd_len _ _) fun h5 s5 => ⟨_, rfl, g0 (x4.sub s5), cRSum (by simp [innT, nd_len]) fun h6 s6 => ⟨bi (shaN (innT (nd l (2 * (2 ^ lv + i))) (nd l (2 * (2 ^ lv + i) + 1)))), by rw [bi_len, shaN_len], rfl, g0 ((x4.sub s5).sub s6), ?_⟩⟩⟩
     have hn : (f' lv).n = i := by rw [b4.1, lvRow_len]
     refine ((b4.sub s5).sub s6).append (new := [⟨shaN (innT (nd l (2 * (2 ^ lv + i))) (nd l (2 * (2 ^ lv + i) + 1))), shaN_len _⟩]) rfl (hsh _) rfl (by omega) fun a' c' B' h7 b7 c7 _ => ⟨bv, 0, ⟨rfl, by omega, by show ((lv + 1 : Nat) : Int) - 1 < 5; omega⟩, ?_⟩
     have x6 := (x4.sub s5).sub s6
     obtain ⟨ob3, hob⟩ := x6.there
     have nB7 : bv ∉ B' := c7.fresh hob nB
     have x7 : LvB h7 bv f' := x6.keep fun o e => c7.keep e nB
     refine x7.set (j := lv) (r := ⟨a', (f' lv).n + 1, c'⟩) (by omega) (by omega) fun h8 x8 c8 => ⟨⟨i + 1, _, B', rfl, by omega, x8, nB7, ?_, fun j hj => ?_, ?_, ?_⟩, by omega⟩
     ·rw [upF_same]
      have hrow : lvRow l lv i ++ [⟨shaN (innT (nd l (2 * (2 ^ lv + i))) (nd l (2 * (2 ^ lv + i) + 1))), shaN_len _⟩] = lvRow l lv (i + 1) := by
       rw [lvRow_succ]
       congr 2
       apply Subtype.ext
       show _ = nd l (2 ^ lv + i)
       have : 0 < 2 ^ lv := Nat.pow_pos (by decide)
       unfold nd
       rw [node_in (leafF l) (k := 2 ^ lv + i) (by omega) (by omega)]
      rw [hrow] at b7
      exact b7.chg c8 (notIn1 nB7)
     ·rw [upF_ne _ _ hj]; exact f4 j hj
     ·exact ((c34.post (s5.tr s6)).trans c7.tail).trans c8.head
     ·exact ((c4.onto (s5.tr s6)).trans c7.tail).trans c8.head
    ·have e2 : i = 2 ^ lv := by
      rcases Nat.lt_or_ge i (2 ^ lv) with h | h
      ·exact absurd (Int.ofNat_lt.2 h) (of_decide_eq_false e2)
      ·omega
     subst e2
     refine ⟨⟨lv, f', rfl, by omega, x4, fun j h1 h2 => ?_, fun j hj => ?_, c4.sub (by simp) (by simp)⟩, by omega⟩
     ·by_cases ej : j = lv
      ·subst ej
       exact ⟨by rw [b4.1, lvRow_len], b4.sr⟩
      ·rw [f4 j ej]
       obtain ⟨q1, q2⟩ := r3 j h1 (by omega)
       exact ⟨q1, x3.off q2 c34⟩
     ·rw [f4 j (by omega)]; exact f3 j (by omega)
   ·have e : q = 0 := by simp at e; omega
    subst e
    exact hk bv f h3 x3 (fun j hj => r3 j hj (Nat.zero_le _)) c3.sub0
  ·have : j = 4 := by omega
   subst this
   exact ⟨by rw [b2.1, lvRow_len], b2.sr⟩
end TL

namespace TL
open Go Go.Proofs
variable {b : Nat} {h : PH} {K : Value → PH → Prop} {S : List PrR} {p v : List UInt8}
theorem ins_last (hx : ∀ x ∈ S, x.p < p) : ins S p v = S ++ [⟨p, v⟩] := by
 induction S with
 | nil => rfl
 | cons x r ih =>
  have h1 := hx x List.mem_cons_self
  unfold ins
  rw [if_neg (fun h => List.lt_irrefl _ (List.lt_trans h h1)), if_neg (fun e => by rw [e] at h1; exact List.lt_irrefl _ h1), ih fun y hy => hx y (List.mem_cons_of_mem _ hy)]
  rfl
theorem set_next {l : List PrR} (hm : mayB l = true) (h48 : l.length ≤ 48) {i : Nat} (hi : i < l.length) : setV (l.take i) l[i].p l[i].v = (0, l.take (i + 1)) := by
 obtain ⟨h1, h2⟩ := may_ok hm
 have hok := h1 _ (List.getElem_mem hi)
 simp only [okPr, Bool.and_eq_true, decide_eq_true_eq] at hok
 have hlt : ∀ x ∈ l.take i, x.p < l[i].p := fun x hx => by
  obtain ⟨j, hj, rfl⟩ := List.getElem_of_mem hx
  rw [List.length_take] at hj
  rw [List.getElem_take]
  exact List.pairwise_iff_getElem.1 h2 j i (by omega) hi (by omega)
 have hno : look (l.take i) l[i].p = none := look_none.2 fun x hx e => by
  have := hlt x hx
  rw [e] at this; exact List.lt_irrefl _ this
 unfold setV
 rw [if_neg (by rw [hok.1]; decide), if_neg (by omega), if_neg (fun hh => by have := hh.2; rw [List.length_take] at this; omega), ins_last hlt, ← List.take_append_getElem hi]
theorem cOfT {lA : Option Addr} {lC : Nat} {l : List PrR} (hl : SR EncPr h lA l) (hm : mayB l = true) (h48 : l.length ≤ 48) (hk : ∀ b h', Tr b h' l → h b = none → Chg [] [b] h h' → K (.tuple #[.pointer (some ⟨b, 0, none⟩), .int .i64 (0 : Int)]) h') :
  CallH Tryz.prog id_tree_Of [.slice lA l.length lC] K h := by
 obtain ⟨hok, hu⟩ := may_ok hm
 refine F_tree_Of_ok (cMay hl (by omega) (fun x hx => by have := ok_len (hok x hx); omega) ⟨_, rfl, fun e => (by rw [hm] at e; cases e), fun _ => ⟨fun e => (by simp at e; omega), fun _ => cNew fun b h1 hbn x1 c1 => ⟨_, rfl, LoopP.ind (fun (z : Int × Unit) h' => ∃ i : Nat, z.1 = i ∧ i ≤ l.length ∧ Tr b h' (l.take i) ∧ Chg [b] [b] h1 h') (fun z _ => (l.length - z.1).toNat) ?_ ⟨0, rfl, by omega, by simpa using x1, Chg.refl _ _⟩⟩⟩⟩)
 rintro ⟨zi, u⟩ h2 ⟨i, hzi, hi, x2, c2⟩
 dsimp only at hzi
 subst hzi
 dsimp only
 refine ⟨fun e => ?_, fun e => ?_⟩
 ·have e : i < l.length := by simpa using e
  have hit : ((i : Nat) : Int).toNat = i := by omega
  obtain ⟨bb, o, hA, hr⟩ := (x1.keep c2 (hl.sub c1.sub0) prStr).get e
  have hln := ok_len (hok _ (List.getElem_mem e))
  rw [hit]
  refine ⟨bb, o, ⟨hA, by omega, by omega⟩, _, _, hr _ 0 2 rfl (by decide), cSet x2 (by omega) (by omega) fun h3 x3 c3 => ⟨_, rfl, ⟨i + 1, by rw [wrap64] <;> omega, by omega, ?_, c2.trans c3⟩, by rw [wrap64] <;> omega⟩⟩
  rw [set_next hm h48 e] at x3; exact x3
 ·have e : i = l.length := by simp at e; omega
  rw [e, List.take_length] at x2
  exact hk b h2 x2 hbn (c1.trans c2)
theorem cOfNo {lA : Option Addr} {lC : Nat} {l : List PrR} (hl : SR EncPr h lA l) (hn : l.length ≤ 1000000) (hs : ∀ x ∈ l, x.p.length ≤ 1000000) (hm : mayB l = false) (hk : K (.tuple #[.pointer none, .int .i64 (1 : Int)]) h) :
  CallH Tryz.prog id_tree_Of [.slice lA l.length lC] K h :=
 F_tree_Of_ok (cMay hl hn hs ⟨_, rfl, fun _ => hk, fun e => by rw [hm] at e; cases e⟩)
end TL

namespace TL
open Go Go.Proofs
variable {b : Nat} {h : PH} {K : Value → PH → Prop} {S : List PrR} {p v : List UInt8}
variable {lA mA : Option Addr} {lC mC : Nat} {l m : List OpR}
end TL

namespace TL
open Go Go.Proofs
variable {b : Nat} {h : PH} {K : Value → PH → Prop} {S : List PrR} {p v : List UInt8}
end TL

namespace TL
open Go Go.Proofs
variable {b : Nat} {h : PH} {K : Value → PH → Prop} {S : List PrR} {p v : List UInt8}
def keyH (x : List UInt8) : Value := .agg (((bi x).map (Value.int .u8) ++ [])).toArray
theorem keyH_ok {x : List UInt8} (hx : x.length = 32) : kOk (.arr .u8 32) (keyH x) = true := by
 simp [keyH, kOk, bi, hx, isIntK, kEq]
theorem keyH_eq (x y : List UInt8) : keq (keyH x) (keyH y) = decide (x = y) := by
 show ((((bi x).map (Value.int .u8) ++ [])).toArray.toList.map intV == (((bi y).map (Value.int .u8) ++ [])).toArray.toList.map intV) = _
 rw [List.append_nil, List.append_nil, List.toList_toArray, List.toList_toArray, intV_map, intV_map, bi_beq]
def HMap (h : PH) (r : Nat) (F : List UInt8 → Option Int) : Prop := ∃ es c, h r = some (.map (es : List MapEntry).toArray c) ∧ (∀ e ∈ es, kOk (.arr .u8 32) e.key = true) ∧ ∀ x, x.length = 32 → va es (keyH x) = (F x).map (Value.int .i64)
theorem HMap.new {r : Nat} (e : h r = some (.map #[] 0)) : HMap h r fun _ => none := ⟨[], 0, e, fun _ h => (by cases h), fun _ _ => rfl⟩
theorem HMap.sub {g : PH} {r : Nat} {F : List UInt8 → Option Int} (x : HMap h r F) (s : h.Sub g) : HMap g r F := by
 obtain ⟨es, c, h1, h2, h3⟩ := x
 exact ⟨es, c, s _ _ h1, h2, h3⟩
theorem HMap.look {r : Nat} {F : List UInt8 → Option Int} (x : HMap h r F) {y : List UInt8} (hy : y.length = 32) : lkH (.arr .u8 32) h (some r) (keyH y) (.int .i64 0) (.int .i64 ((F y).getD 0)) (F y).isSome := by
 obtain ⟨es, c, h1, h2, h3⟩ := x
 refine ⟨es, ⟨⟨c, h1⟩, h2⟩, ?_⟩
 rw [lk_va, h3 y hy]
 cases F y <;> rfl
theorem HMap.put {r : Nat} {F : List UInt8 → Option Int} (x : HMap h r F) {y : List UInt8} (hy : y.length = 32) (n : Int) {K : PH → Prop} (hk : ∀ h', HMap h' r (fun z => if z = y then some n else F z) → Chg [r] [r] h h' → K h') : muH (.arr .u8 32) h (some r) (keyH y) (.int .i64 n) K := by
 obtain ⟨es, c, h1, h2, h3⟩ := x
 refine ⟨r, es, c, rfl, h1, h2, hk _ ⟨_, _, PH.upd_same _ _ _, upM_keys (keyH_ok hy) h2, fun z hz => ?_⟩ (Chg.upd _)⟩
 rw [va_upM h2 (keyH_ok hy) (keyH_ok hz), h3 z hz, keyH_eq]
 by_cases e : z = y
 ·simp [e]
 ·simp [e]
def NoColl (l : List (List UInt8)) (i : Nat) : Prop := ∀ j k, j < i → k < i → (hj : j < l.length) → (hk : k < l.length) → shaN l[j] = shaN l[k] → l[j] = l[k]
theorem cCollides {lA : Option Addr} {lC : Nat} {l : List (List UInt8)} (hl : SR EncS h lA l) (hn : l.length ≤ 1000000) (hs : ∀ x ∈ l, x.length ≤ 1000000) (hk : ∀ c h', (c = false → NoColl l l.length) → h.Sub h' → K (.bool c) h') :
  CallH Tryz.prog id_ref15_Collides [.slice lA l.length lC] K h := by
 refine F_ref15_Collides_ok fun bm hbm => ?_
 have hb1 : (h.upd bm (.map #[] 0)) bm = _ := PH.upd_same ..
 have c1 := Chg.new (.map #[] 0) hbm
 generalize h.upd bm (.map #[] 0) = h1 at hb1 c1
 have hA : ∀ {h' : PH}, Chg [bm] [bm] h1 h' → SR EncS h' lA l := fun c => hl.sub ((c1.trans c).sub0)
 refine LoopP.ind (fun (z : Int × Unit) h' => ∃ (i : Nat) (F : List UInt8 → Option Int), z.1 = i ∧ i ≤ l.length ∧ HMap h' bm F ∧ Chg [bm] [bm] h1 h' ∧ NoColl l i ∧ (∀ x n, F x = some n → ∃ j : Nat, n = (j : Int) + 1 ∧ j < i ∧ ∃ hj : j < l.length, shaN l[j] = x) ∧ (∀ j, j < i → (hj : j < l.length) → ∃ n, F (shaN l[j]) = some n)) (fun z _ => (l.length - z.1).toNat) ?_ ⟨0, _, rfl, by omega, HMap.new hb1, Chg.refl _ _, fun _ _ h => (by omega), fun _ _ h => (by cases h), fun _ h => (by omega)⟩
 rintro ⟨zi, u⟩ h2 ⟨i, F, hzi, hi, hm, c2, hno, hF1, hF2⟩
 dsimp only at hzi
 subst hzi
 dsimp only
 refine ⟨fun e => ?_, fun e => ?_⟩
 ·have e : i < l.length := by simpa using e
  have hit : ((i : Nat) : Int).toNat = i := by omega
  obtain ⟨b0, o0, hA0, hr0⟩ := (hA c2).get e
  have hr0 := hr0 (o0 + i * 1) 0 1 rfl (by decide)
  have hx := hs _ (List.getElem_mem e)
  have hw : IntKind.wrap .i64 (((i : Nat) : Int) + (1 : Int)) = ((i + 1 : Nat) : Int) := by rw [wrap64] <;> omega
  rw [hit, hw]
  refine ⟨b0, o0, ⟨hA0, by omega, by omega⟩, _, hr0, cRSum hx fun h3 s3 => ⟨bi (shaN l[i]), by rw [bi_len, shaN_len], rfl, (F (shaN l[i])).getD 0, (F (shaN l[i])).isSome, (hm.sub s3).look (shaN_len _), ?_⟩⟩
  have hr3 := rds_sub s3 hr0
  have hstep : ∀ h4, Chg [bm] [bm] h3 h4 → HMap h4 bm (fun z => if z = shaN l[i] then some ((i + 1 : Nat) : Int) else F z) → (∀ j, j < i → (hj : j < l.length) → shaN l[j] = shaN l[i] → l[j] = l[i]) →
    (∃ (i1 : Nat) (F : List UInt8 → Option Int), ((i + 1 : Nat) : Int) = i1 ∧ i1 ≤ l.length ∧ HMap h4 bm F ∧ Chg [bm] [bm] h1 h4 ∧ NoColl l i1 ∧ (∀ x n, F x = some n → ∃ j : Nat, n = (j : Int) + 1 ∧ j < i1 ∧ ∃ hj : j < l.length, shaN l[j] = x) ∧ (∀ j, j < i1 → (hj : j < l.length) → ∃ n, F (shaN l[j]) = some n)) := fun h4 c4 hm4 hnew => by
   refine ⟨i + 1, _, rfl, by omega, hm4, c2.trans (chg_pre s3 c4), fun j k hj hk hjl hkl he => ?_, fun x n hx => ?_, fun j hj hjl => ?_⟩
   ·by_cases h1 : j = i
    ·subst h1
     by_cases h2 : k = j
     ·subst h2; rfl
     ·exact (hnew k (by omega) hkl he.symm).symm
    ·by_cases h2 : k = i
     ·subst h2
      exact hnew j (by omega) hjl he
     ·exact hno j k (by omega) (by omega) hjl hkl he
   ·by_cases hxi : x = shaN l[i]
    ·subst hxi
     simp at hx
     exact ⟨i, by omega, by omega, e, rfl⟩
    ·simp only [if_neg hxi] at hx
     obtain ⟨j, h1, h2, h3⟩ := hF1 x n hx
     exact ⟨j, h1, by omega, h3⟩
   ·by_cases hji : shaN l[j] = shaN l[i]
    ·exact ⟨((i + 1 : Nat) : Int), by simp only [if_pos hji]⟩
    ·have : j ≠ i := fun h => by subst h; exact hji rfl
     obtain ⟨n, hn⟩ := hF2 j (by omega) hjl
     exact ⟨n, by simp only [if_neg hji]; exact hn⟩
  cases hf : F (shaN l[i]) with
  | none =>
   refine ⟨0, 0, fun e => by simp at e, mk [], fun e => by simp at e, 0, 0, fun e => by simp at e, mk [], fun e => by simp at e, fun e => by simp at e, fun _ => ?_⟩
   refine (hm.sub s3).put (shaN_len _) _ fun h4 hm4 c4 => ⟨hstep h4 c4 hm4 fun j hj hjl he => ?_, by omega⟩
   obtain ⟨n, hn⟩ := hF2 j hj hjl
   rw [he, hf] at hn; cases hn
  | some n =>
   obtain ⟨j, rfl, hji, hjl, hje⟩ := hF1 _ _ hf
   obtain ⟨b2, o2, hA2, hr2⟩ := ((hA c2).sub s3).get hjl
   have hr2 := hr2 (o2 + j * 1) 0 1 rfl (by decide)
   have hjw : IntKind.wrap .i64 (((j : Nat) : Int) + 1 - 1) = (j : Int) := by rw [wrap64] <;> omega
   simp only [Option.getD_some]
   rw [hjw, show ((j : Nat) : Int).toNat = j by omega]
   refine ⟨b2, o2, fun _ => ⟨hA2, by omega, by omega⟩, mk l[j], fun _ => hr2, b0, o0, fun _ => ⟨hA0, by omega, by omega⟩, mk l[i], fun _ => hr3, fun e2 => ?_, fun e2 => ?_⟩
   ·exact hk true _ (fun e => by cases e) (((c1.trans c2).sub0).tr s3)
   ·rw [strEq_mk'] at e2
    have hij : l[j] = l[i] := by
     have : (decide ((j : Int) + 1 > 0)) = true := decide_eq_true (by omega)
     rw [this] at e2
     simpa using e2
    refine (hm.sub s3).put (shaN_len _) _ fun h4 hm4 c4 => ⟨hstep h4 c4 hm4 fun j2 hj2 hjl2 he => ?_, by omega⟩
    rw [hno j2 j hj2 hji hjl2 hjl (he.trans hje.symm), hij]
 ·have e : i = l.length := by simp at e; omega
  subst e
  exact hk false _ (fun _ => hno) ((c1.trans c2).sub0)
end TL

namespace TL
open Go Go.Proofs
variable {b : Nat} {h : PH} {K : Value → PH → Prop} {S S' : List PrR} {p v : List UInt8}
theorem num_inj {n m : Nat} {r r' : List UInt8} (hn : n < 18446744073709551616) (hm : m < 18446744073709551616) (h : numL n ++ r = numL m ++ r') : n = m ∧ r = r' := by
 have h1 := next_num hn r
 have h2 := next_num hm r'
 rw [h, h2] at h1
 have : m = n := by injection h1
 subst this
 exact ⟨rfl, List.append_cancel_left h⟩
theorem text_inj {s s' r r' : List UInt8} (hs : s.length ≤ 1000) (hs' : s'.length ≤ 1000) (h : textL s ++ r = textL s' ++ r') : s = s' ∧ r = r' := by
 unfold textL at h
 rw [List.append_assoc, List.append_assoc] at h
 obtain ⟨e, h⟩ := num_inj (by omega) (by omega) h
 exact List.append_inj h e
theorem prs_inj : ∀ {l m : List PrR}, l.length = m.length → (∀ x ∈ l, okPr x = true) → (∀ x ∈ m, okPr x = true) → l.flatMap prL = m.flatMap prL → l = m
 | [], [], _, _, _, _ => rfl
 | x :: l, y :: m, hlen, hl, hm, h => by
  obtain ⟨x1, x2⟩ := ok_len (hl x List.mem_cons_self)
  obtain ⟨y1, y2⟩ := ok_len (hm y List.mem_cons_self)
  rw [List.flatMap_cons, List.flatMap_cons, prL, prL, List.append_assoc, List.append_assoc] at h
  obtain ⟨e1, h⟩ := text_inj (by omega) (by omega) h
  obtain ⟨e2, h⟩ := text_inj (by omega) (by omega) h
  have := prs_inj (by simpa using hlen) (fun z hz => hl z (List.mem_cons_of_mem _ hz)) (fun z hz => hm z (List.mem_cons_of_mem _ hz)) h
  cases x; cases y
  simp_all
theorem page_inj {l m : List PrR} {i : Nat} (hl : PgOk i l) (hm : PgOk i m) (h : pageL l = pageL m) : l = m := by
 obtain ⟨e, h⟩ := num_inj (by have := hl.2.2; omega) (by have := hm.2.2; omega) h
 exact prs_inj e (may_ok hl.1).1 (may_ok hm.1).1 h
theorem codes_in : ∀ k, k < 16 → 1 ≤ k → 16 + k ∈ codesT := by decide +kernel
theorem codes_leaf : ∀ i, i < 16 → i ∈ codesT := by decide +kernel
theorem mem_in {k : Nat} (h1 : 1 ≤ k) (h2 : k < 16) : inT S k ∈ textsT S := by
 have e : textsT S = codesT.map fun c => if c < 16 then leafT S c else inT S (c - 16) := texts_codes (leafT S) (inT S)
 rw [e]
 refine List.mem_map.2 ⟨16 + k, codes_in k h2 h1, ?_⟩
 rw [if_neg (by omega), show 16 + k - 16 = k by omega]
theorem mem_leaf {i : Nat} (h : i < 16) : leafT S i ∈ textsT S := by
 have e : textsT S = codesT.map fun c => if c < 16 then leafT S c else inT S (c - 16) := texts_codes (leafT S) (inT S)
 rw [e]
 exact List.mem_map.2 ⟨i, codes_leaf i h, by rw [if_pos h]⟩
theorem nocoll_mem {L : List (List UInt8)} (h : NoColl L L.length) {x y : List UInt8} (hx : x ∈ L) (hy : y ∈ L) (he : shaN x = shaN y) : x = y := by
 obtain ⟨i, hi, rfl⟩ := List.getElem_of_mem hx
 obtain ⟨j, hj, rfl⟩ := List.getElem_of_mem hy
 exact h i j hi hj hi hj he
variable {lA mA : Option Addr} {lC mC : Nat} {l m : List OpR}
end TL

namespace TL
open Go Go.Proofs
structure WS where
 S : List PrR
 R : List UInt8
 A : Nat → Option (List UInt8)
 Q : Nat → Option (List PrR)
 T : List (List UInt8)
def wAsk (S : List PrR) (A : Nat → Option (List UInt8)) (c : Nat) (x : List UInt8) : Nat → Option (List UInt8) := if nd S c = x then A else upF A c (some x)
def wNew (S : List PrR) (R : List UInt8) : WS := ⟨S, R, wAsk S (fun _ => none) 1 R, fun _ => none, textsT S⟩
def wIn (s : WS) (c : Nat) (x y : List UInt8) : WS := { s with A := wAsk s.S (wAsk s.S (upF s.A c none) (2 * c) x) (2 * c + 1) y, T := s.T ++ [innT x y] }
def wPg (s : WS) (i : Nat) (l : List PrR) : WS := { s with A := upF s.A (16 + i) none, Q := upF s.Q i (some l), T := s.T ++ [76 :: pageL l] }
def known (X : Nat → Option (List UInt8)) (c : Nat) : Prop := c = 1 ∨ (X (c / 2)).isSome = true
structure WInv (s : WS) (W : Nat → List UInt8) (X : Nat → Option (List UInt8)) : Prop where
 may : mayB s.S = true
 le : s.S.length ≤ 48
 r : W 1 = s.R
 wl : ∀ c, 1 ≤ c → c < 32 → known X c → (W c).length = 32
 un : ∀ c, 1 ≤ c → c < 32 → ¬ known X c → s.A c = none ∧ X c = none
 kn : ∀ c, 1 ≤ c → c < 32 → known X c → X c = none → (s.A c = none ∧ nd s.S c = W c) ∨ (s.A c = some (W c) ∧ nd s.S c ≠ W c)
 an : ∀ c t, 1 ≤ c → c < 32 → X c = some t → s.A c = none ∧ nd s.S c ≠ W c ∧ shaN t = W c ∧ t ∈ s.T
 inn : ∀ c t, 1 ≤ c → c < 16 → X c = some t → t = innT (W (2 * c)) (W (2 * c + 1))
 lf : ∀ i t, i < 16 → X (16 + i) = some t → ∃ l, s.Q i = some l ∧ PgOk i l ∧ t = 76 :: pageL l
 q : ∀ i l, i < 16 → s.Q i = some l → (X (16 + i)).isSome = true
 t : ∀ t ∈ textsT s.S, t ∈ s.T
 out : ∀ c, (c = 0 ∨ 32 ≤ c) → s.A c = none ∧ X c = none
variable {s : WS} {W : Nat → List UInt8} {X : Nat → Option (List UInt8)}
theorem wAsk_ne {S : List PrR} {A : Nat → Option (List UInt8)} {c d : Nat} {x : List UInt8} (h : d ≠ c) : wAsk S A c x d = A d := by
 unfold wAsk; split
 ·rfl
 ·rw [upF_ne _ _ h]
theorem wAsk_at {S : List PrR} {A : Nat → Option (List UInt8)} {c : Nat} {x : List UInt8} (h : A c = none) : (wAsk S A c x c = none ∧ nd S c = x) ∨ (wAsk S A c x c = some x ∧ nd S c ≠ x) := by
 unfold wAsk; split
 ·rename_i e; exact .inl ⟨h, e⟩
 ·rename_i e; exact .inr ⟨upF_same _ _ _, e⟩
theorem WInv.asked (v : WInv s W X) {c : Nat} {x : List UInt8} (h : s.A c = some x) : 1 ≤ c ∧ c < 32 ∧ known X c ∧ X c = none ∧ x = W c ∧ nd s.S c ≠ W c := by
 have h1 : 1 ≤ c ∧ c < 32 := by
  by_cases e : c = 0 ∨ 32 ≤ c
  ·rw [(v.out c e).1] at h; cases h
  ·omega
 have h2 : known X c := Classical.byContradiction fun e => by rw [(v.un c h1.1 h1.2 e).1] at h; cases h
 have h3 : X c = none := by
  cases e : X c with
  | none => rfl
  | some t => rw [(v.an c t h1.1 h1.2 e).1] at h; cases h
 rcases v.kn c h1.1 h1.2 h2 h3 with ⟨e, _⟩ | ⟨e, e2⟩
 ·rw [e] at h; cases h
 ·rw [e] at h; cases h
  exact ⟨h1.1, h1.2, h2, h3, rfl, e2⟩
theorem WInv.new {S : List PrR} {R : List UInt8} (hm : mayB S = true) (hl : S.length ≤ 48) (hR : R.length = 32) : WInv (wNew S R) (fun _ => R) fun _ => none := by
 have hk : ∀ c, known (fun _ => none) c → c = 1 := fun c h => by
  rcases h with h | h
  ·exact h
  ·cases h
 refine ⟨hm, hl, rfl, fun _ _ _ _ => hR, fun c _ _ h => ⟨?_, rfl⟩, fun c _ _ h _ => ?_, fun c t _ _ h => (by cases h), fun c t _ _ h => (by cases h), fun i t _ h => (by cases h), fun i l _ h => (by cases h), fun t h => h, fun c h => ⟨?_, rfl⟩⟩
 ·exact wAsk_ne fun e => h (.inl e)
 ·have := hk c h; subst this
  exact wAsk_at rfl
 ·exact wAsk_ne (by omega)
theorem WInv.node (v : WInv s W X) {c : Nat} {x y : List UInt8} (hx : x.length = 32) (hy : y.length = 32) (hc : c < 16) (ha : s.A c = some (shaN (innT x y))) :
  WInv (wIn s c x y) (upF (upF W (2 * c) x) (2 * c + 1) y) (upF X c (some (innT x y))) := by
 obtain ⟨h1, _, h3, h4, h5, h6⟩ := v.asked ha
 have nk : ∀ d, (d = 2 * c ∨ d = 2 * c + 1) → s.A d = none ∧ X d = none := fun d hd => v.un d (by omega) (by omega) fun hk => by
  rcases hk with hk | hk
  ·omega
  ·rw [show d / 2 = c by omega, h4] at hk; cases hk
 have kn' : ∀ d, known (upF X c (some (innT x y))) d ↔ known X d ∨ d = 2 * c ∨ d = 2 * c + 1 := fun d => by
  unfold known upF
  by_cases e : d / 2 = c
  ·rw [if_pos e]
   refine ⟨fun _ => .inr (by omega), fun _ => .inr rfl⟩
  ·rw [if_neg e]
   refine ⟨fun h => .inl h, fun h => ?_⟩
   rcases h with h | h
   ·exact h
   ·omega
 have W' : ∀ d, d ≠ 2 * c → d ≠ 2 * c + 1 → upF (upF W (2 * c) x) (2 * c + 1) y d = W d := fun d e1 e2 => by rw [upF_ne _ _ e2, upF_ne _ _ e1]
 have A' : ∀ d, d ≠ c → d ≠ 2 * c → d ≠ 2 * c + 1 → (wIn s c x y).A d = s.A d := fun d e0 e1 e2 => by
  show wAsk _ _ _ _ d = _
  rw [wAsk_ne e2, wAsk_ne e1, upF_ne _ _ e0]
 have X' : ∀ d, d ≠ c → upF X c (some (innT x y)) d = X d := fun d e => upF_ne _ _ e
 have Wc : upF (upF W (2 * c) x) (2 * c + 1) y c = W c := W' c (by omega) (by omega)
 have Ac : (wIn s c x y).A c = none := by
  show wAsk _ _ _ _ c = _
  rw [wAsk_ne (by omega), wAsk_ne (by omega), upF_same]
 refine ⟨v.may, v.le, ?_, fun d d1 d2 hk => ?_, fun d d1 d2 hk => ?_, fun d d1 d2 hk hX => ?_, fun d t d1 d2 hX => ?_, fun d t d1 d2 hX => ?_, fun i t hi hX => ?_, fun i l hi hQ => ?_, fun t ht => List.mem_append_left _ (v.t t ht), fun d hd => ⟨?_, ?_⟩⟩
 ·rw [W' 1 (by omega) (by omega)]; exact v.r
 ·rcases (kn' d).1 hk with hk | rfl | rfl
  ·by_cases e1 : d = 2 * c
   ·subst e1; rw [upF_ne _ _ (by omega), upF_same]; exact hx
   ·by_cases e2 : d = 2 * c + 1
    ·subst e2; rw [upF_same]; exact hy
    ·rw [W' d e1 e2]; exact v.wl d d1 d2 hk
  ·rw [upF_ne _ _ (by omega), upF_same]; exact hx
  ·rw [upF_same]; exact hy
 ·have hk := fun h => hk ((kn' d).2 h)
  have e0 : d ≠ c := fun e => hk (.inl (e ▸ h3))
  rw [A' d e0 (fun e => hk (.inr (.inl e))) (fun e => hk (.inr (.inr e))), X' d e0]
  exact v.un d d1 d2 fun h => hk (.inl h)
 ·have e0 : d ≠ c := fun e => by subst e; rw [upF_same] at hX; cases hX
  by_cases e1 : d = 2 * c
  ·subst e1
   have hw : upF (upF W (2 * c) x) (2 * c + 1) y (2 * c) = x := by rw [upF_ne _ _ (by omega), upF_same]
   have hA : (wIn s c x y).A (2 * c) = wAsk s.S (upF s.A c none) (2 * c) x (2 * c) := wAsk_ne (by omega)
   rw [hw, hA]
   exact wAsk_at (by rw [upF_ne _ _ (by omega)]; exact (nk _ (.inl rfl)).1)
  ·by_cases e2 : d = 2 * c + 1
   ·subst e2
    rw [upF_same]
    refine wAsk_at ?_
    rw [wAsk_ne (by omega), upF_ne _ _ (by omega)]; exact (nk _ (.inr rfl)).1
   ·rw [A' d e0 e1 e2, W' d e1 e2]
    rw [X' d e0] at hX
    refine v.kn d d1 d2 ?_ hX
    rcases (kn' d).1 hk with h | h | h
    ·exact h
    ·exact absurd h e1
    ·exact absurd h e2
 ·by_cases e0 : d = c
  ·subst e0
   rw [upF_same] at hX; cases hX
   rw [Wc]
   exact ⟨Ac, h6, h5, List.mem_append_right _ (by simp)⟩
  ·rw [X' d e0] at hX
   obtain ⟨a1, a2, a3, a4⟩ := v.an d t d1 d2 hX
   have e1 : d ≠ 2 * c := fun e => by rw [(nk d (.inl e)).2] at hX; cases hX
   have e2 : d ≠ 2 * c + 1 := fun e => by rw [(nk d (.inr e)).2] at hX; cases hX
   rw [A' d e0 e1 e2, W' d e1 e2]
   exact ⟨a1, a2, a3, List.mem_append_left _ a4⟩
 ·by_cases e0 : d = c
  ·subst e0
   rw [upF_same] at hX; cases hX
   rw [upF_same, upF_ne _ _ (show 2 * d ≠ 2 * d + 1 by omega), upF_same]
  ·rw [X' d e0] at hX
   rw [W' (2 * d) (by omega) (by omega), W' (2 * d + 1) (by omega) (by omega)]
   exact v.inn d t d1 d2 hX
 ·rw [X' _ (by omega)] at hX
  exact v.lf i t hi hX
 ·rw [X' _ (by omega)]
  exact v.q i l hi hQ
 ·rw [A' d (by omega) (by omega) (by omega)]; exact (v.out d hd).1
 ·rw [X' d (by omega)]; exact (v.out d hd).2
theorem WInv.page (v : WInv s W X) {i : Nat} {l : List PrR} (hi : i < 16) (hp : PgOk i l) (ha : s.A (16 + i) = some (shaN (76 :: pageL l))) : WInv (wPg s i l) W (upF X (16 + i) (some (76 :: pageL l))) := by
 obtain ⟨h1, _, h3, h4, h5, h6⟩ := v.asked ha
 have X' : ∀ d, d ≠ 16 + i → upF X (16 + i) (some (76 :: pageL l)) d = X d := fun d e => upF_ne _ _ e
 have A' : ∀ d, d ≠ 16 + i → (wPg s i l).A d = s.A d := fun d e => upF_ne _ _ e
 have kn' : ∀ d, d < 32 → (known (upF X (16 + i) (some (76 :: pageL l))) d ↔ known X d) := fun d hd => by
  unfold known
  rw [X' (d / 2) (by omega)]
 refine ⟨v.may, v.le, v.r, fun d d1 d2 hk => v.wl d d1 d2 ((kn' d d2).1 hk), fun d d1 d2 hk => ?_, fun d d1 d2 hk hX => ?_, fun d t d1 d2 hX => ?_, fun d t d1 d2 hX => ?_, fun j t hj hX => ?_, fun j m hj hQ => ?_, fun t ht => List.mem_append_left _ (v.t t ht), fun d hd => ⟨?_, ?_⟩⟩
 ·have hk : ¬ known X d := fun h => hk ((kn' d d2).2 h)
  have e0 : d ≠ 16 + i := fun e => hk (e ▸ h3)
  rw [A' d e0, X' d e0]
  exact v.un d d1 d2 hk
 ·have e0 : d ≠ 16 + i := fun e => by subst e; rw [upF_same] at hX; cases hX
  rw [X' d e0] at hX
  rw [A' d e0]
  exact v.kn d d1 d2 ((kn' d d2).1 hk) hX
 ·by_cases e0 : d = 16 + i
  ·subst e0
   rw [upF_same] at hX; cases hX
   exact ⟨upF_same _ _ _, h6, h5, List.mem_append_right _ (by simp)⟩
  ·rw [X' d e0] at hX
   obtain ⟨a1, a2, a3, a4⟩ := v.an d t d1 d2 hX
   rw [A' d e0]
   exact ⟨a1, a2, a3, List.mem_append_left _ a4⟩
 ·rw [X' d (by omega)] at hX
  exact v.inn d t d1 d2 hX
 ·by_cases e0 : j = i
  ·subst e0
   rw [upF_same] at hX; cases hX
   exact ⟨l, upF_same _ _ _, hp, rfl⟩
  ·rw [X' _ (by omega)] at hX
   obtain ⟨m, m1, m2, m3⟩ := v.lf j t hj hX
   exact ⟨m, by show upF s.Q i (some l) j = _; rw [upF_ne _ _ e0]; exact m1, m2, m3⟩
 ·by_cases e0 : j = i
  ·subst e0; rw [upF_same]; rfl
  ·rw [X' _ (by omega)]
   have hQ : upF s.Q i (some l) j = some m := hQ
   rw [upF_ne _ _ e0] at hQ
   exact v.q j m hj hQ
 ·rw [A' d (by omega)]; exact (v.out d hd).1
 ·rw [X' d (by omega)]; exact (v.out d hd).2
structure VT (T : List (List UInt8)) (P : Nat → List PrR) (R : List UInt8) (H : Nat → List UInt8) (TX : Nat → List UInt8) : Prop where
 r : H 1 = R
 mem : ∀ c, 1 ≤ c → c < 32 → TX c ∈ T
 sha : ∀ c, 1 ≤ c → c < 32 → shaN (TX c) = H c
 inn : ∀ c, 1 ≤ c → c < 16 → TX c = innT (H (2 * c)) (H (2 * c + 1))
 lf : ∀ i, i < 16 → TX (16 + i) = 76 :: pageL (P i)
 ok : ∀ i, i < 16 → PgOk i (P i)
def ndT (S : List PrR) (c : Nat) : List UInt8 := if c < 16 then inT S c else leafT S (c - 16)
theorem ndT_sha (S : List PrR) {c : Nat} (h1 : 1 ≤ c) (h2 : c < 32) : shaN (ndT S c) = nd S c := by
 unfold ndT
 split
 ·rename_i h; unfold nd; rw [node_in _ h1 h]; rfl
 ·rename_i h; unfold nd; rw [node_leaf _ (by omega) h2]; rfl
theorem ndT_mem (S : List PrR) {c : Nat} (h1 : 1 ≤ c) (h2 : c < 32) : ndT S c ∈ textsT S := by
 unfold ndT
 split
 ·rename_i h; exact mem_in h1 h
 ·exact mem_leaf (by omega)
theorem VT.tree {S : List PrR} (hm : mayB S = true) (hl : S.length ≤ 48) : VT (textsT S) (partB S) (nd S 1) (nd S) (ndT S) := by
 refine ⟨rfl, fun c h1 h2 => ndT_mem S h1 h2, fun c h1 h2 => ndT_sha S h1 h2, fun c h1 h2 => ?_, fun i hi => ?_, fun i _ => part_ok hm hl i⟩
 ·unfold ndT; rw [if_pos h2]; rfl
 ·unfold ndT; rw [if_neg (by omega), show 16 + i - 16 = i by omega]; rfl
theorem innT_inj {x y x' y' : List UInt8} (h : innT x y = innT x' y') (hx : x.length = x'.length) : x = x' ∧ y = y' := by
 unfold innT at h
 simp only [List.cons.injEq, true_and] at h
 exact List.append_inj h hx
theorem VT.inj {T T' L : List (List UInt8)} {P P' : Nat → List PrR} {R : List UInt8} {H H' TX TX' : Nat → List UInt8} (v : VT T P R H TX) (v' : VT T' P' R H' TX') (hno : NoColl L L.length) (h1 : ∀ t ∈ T, t ∈ L) (h2 : ∀ t ∈ T', t ∈ L) :
  ∀ i, i < 16 → P i = P' i := by
 have hall : ∀ m c, c = m → 1 ≤ c → c < 32 → H c = H' c := by
  intro m
  induction m using Nat.strongRecOn with
  | ind m ih =>
   intro c hcm c1 c2
   by_cases e : c = 1
   ·subst e; rw [v.r, v'.r]
   ·have hp := ih (c / 2) (by omega) (c / 2) rfl (by omega) (by omega)
    rw [← v.sha _ (by omega) (by omega), ← v'.sha _ (by omega) (by omega)] at hp
    have ht := nocoll_mem hno (h1 _ (v.mem _ (by omega) (by omega))) (h2 _ (v'.mem _ (by omega) (by omega))) hp
    rw [v.inn _ (by omega) (by omega), v'.inn _ (by omega) (by omega)] at ht
    have hl : (H (2 * (c / 2))).length = (H' (2 * (c / 2))).length := by
     rw [← v.sha _ (by omega) (by omega), ← v'.sha _ (by omega) (by omega), shaN_len, shaN_len]
    obtain ⟨t1, t2⟩ := innT_inj ht hl
    rcases Nat.mod_two_eq_zero_or_one c with h | h
    ·rw [show 2 * (c / 2) = c by omega] at t1; exact t1
    ·rw [show 2 * (c / 2) + 1 = c by omega] at t2; exact t2
 intro i hi
 have hh := hall (16 + i) (16 + i) rfl (by omega) (by omega)
 rw [← v.sha _ (by omega) (by omega), ← v'.sha _ (by omega) (by omega)] at hh
 have ht := nocoll_mem hno (h1 _ (v.mem _ (by omega) (by omega))) (h2 _ (v'.mem _ (by omega) (by omega))) hh
 rw [v.lf i hi, v'.lf i hi] at ht
 simp only [List.cons.injEq, true_and] at ht
 exact page_inj (v.ok i hi) (v'.ok i hi) ht
def wPart (s : WS) (i : Nat) : List PrR := (s.Q i).getD (partB s.S i)
theorem WInv.vt (v : WInv s W X) (hd : ∀ c, s.A c = none) : ∃ H TX, VT s.T (wPart s) s.R H TX := by
 refine ⟨fun c => if (1 ≤ c ∧ c < 32) ∧ (c = 1 ∨ (X (c / 2)).isSome = true) then W c else nd s.S c, fun c => (X c).getD (ndT s.S c), ?_⟩
 have kx : ∀ c, (X c).isSome = true → 1 ≤ c → c < 32 → known X c := fun c hc h1 h2 => Classical.byContradiction fun h => by rw [(v.un c h1 h2 h).2] at hc; cases hc
 have hH : ∀ c, 1 ≤ c → c < 32 → shaN ((X c).getD (ndT s.S c)) = if (1 ≤ c ∧ c < 32) ∧ (c = 1 ∨ (X (c / 2)).isSome = true) then W c else nd s.S c := fun c h1 h2 => by
  cases e : X c with
  | some t =>
   have hk := kx c (by rw [e]; rfl) h1 h2
   rw [if_pos ⟨⟨h1, h2⟩, hk⟩]
   exact (v.an c t h1 h2 e).2.2.1
  | none =>
   rw [Option.getD_none, ndT_sha _ h1 h2]
   split
   ·rename_i hk
    rcases v.kn c h1 h2 hk.2 e with ⟨_, h⟩ | ⟨h, _⟩
    ·exact h
    ·rw [hd c] at h; cases h
   ·rfl
 refine ⟨?_, fun c h1 h2 => ?_, hH, fun c h1 h2 => ?_, fun i hi => ?_, fun i hi => ?_⟩
 ·rw [if_pos ⟨by omega, .inl rfl⟩]; exact v.r
 ·cases e : X c with
  | some t => exact (v.an c t h1 h2 e).2.2.2
  | none => exact v.t _ (ndT_mem _ h1 h2)
 ·cases e : X c with
  | some t =>
   rw [if_pos ⟨by omega, .inr (by rw [show 2 * c / 2 = c by omega, e]; rfl)⟩, if_pos ⟨by omega, .inr (by rw [show (2 * c + 1) / 2 = c by omega, e]; rfl)⟩]
   exact v.inn c t h1 h2 e
  | none =>
   have n1 : ¬ (2 * c = 1 ∨ (X (2 * c / 2)).isSome = true) := fun h => by
    rcases h with h | h
    ·omega
    ·rw [show 2 * c / 2 = c by omega, e] at h; cases h
   have n2 : ¬ (2 * c + 1 = 1 ∨ (X ((2 * c + 1) / 2)).isSome = true) := fun h => by
    rcases h with h | h
    ·omega
    ·rw [show (2 * c + 1) / 2 = c by omega, e] at h; cases h
   rw [if_neg fun h => n1 h.2, if_neg fun h => n2 h.2, Option.getD_none]
   unfold ndT; rw [if_pos h2]; rfl
 ·unfold wPart
  cases e : X (16 + i) with
  | some t =>
   obtain ⟨l, h1, _, h3⟩ := v.lf i t hi e
   rw [h1]; exact h3
  | none =>
   have : s.Q i = none := by
    cases e2 : s.Q i with
    | none => rfl
    | some l => have := v.q i l hi e2; rw [e] at this; cases this
   rw [this, Option.getD_none, Option.getD_none]
   unfold ndT; rw [if_neg (by omega), show 16 + i - 16 = i by omega]; rfl
 ·unfold wPart
  cases e : s.Q i with
  | none => exact part_ok v.may v.le i
  | some l =>
   have := v.q i l hi e
   obtain ⟨t, ht⟩ := Option.isSome_iff_exists.1 this
   obtain ⟨m, h1, h2, _⟩ := v.lf i t hi ht
   rw [e] at h1; cases h1
   exact h2
theorem parts_up {P : Nat → List PrR} (hok : ∀ i, i < 16 → PgOk i (P i)) {l : List PrR} (hp : l.Perm ((List.range 16).flatMap P)) (hs : l.Pairwise fun a b => ¬ b.p < a.p) : mayB l = true ∧ ∀ i, i < 16 → partB l i = P i := by
 have hne : ((List.range 16).flatMap P).Pairwise fun a b => a.p ≠ b.p := by
  rw [List.pairwise_flatMap]
  refine ⟨fun i hi => (may_ok (hok i (List.mem_range.1 hi)).1).2.imp fun {a b} h e => by rw [e] at h; exact List.lt_irrefl _ h, ?_⟩
  refine List.Pairwise.imp_of_mem (R := fun a b => a < b) (fun {i j} hi hj hij => ?_) List.pairwise_lt_range
  intro a ha b hb e
  have h1 := (hok i (List.mem_range.1 hi)).2.1 a ha
  have h2 := (hok j (List.mem_range.1 hj)).2.1 b hb
  rw [e, h2] at h1; omega
 have hne2 : l.Pairwise fun a b => a.p ≠ b.p := (hp.pairwise_iff fun {a b} h => fun e => h e.symm).2 hne
 have hup : Up l := (hs.and hne2).imp fun {a b} h => lt_of_not h.1 (fun e => h.2 e.symm)
 have hall : ∀ x ∈ l, okPr x = true := fun x hx => by
  have := hp.mem_iff.1 hx
  obtain ⟨i, hi, hx⟩ := List.mem_flatMap.1 this
  exact (may_ok (hok i (List.mem_range.1 hi)).1).1 x hx
 refine ⟨?_, fun i hi => ?_⟩
 ·simp only [mayB, Bool.and_eq_true, List.all_eq_true, decide_eq_true_eq]
  exact ⟨hall, hup⟩
 ·have h1 : (partB l i).Perm (P i) := by
   have h2 : (partB l i).Perm (partB ((List.range 16).flatMap P) i) := hp.filter _
   refine h2.trans (List.Perm.of_eq ?_)
   unfold partB
   rw [List.filter_flatMap]
   have : ∀ j, j < 16 → (P j).filter (fun x => bkt x.p == i) = if j = i then P i else [] := fun j hj => by
    split
    ·rename_i e; subst e
     exact List.filter_eq_self.2 fun x hx => by simp [(hok j hj).2.1 x hx]
    ·rename_i e
     exact List.filter_eq_nil_iff.2 fun x hx => by simp [(hok j hj).2.1 x hx, e]
   rw [flat_at _ hi]
   have z1 : (List.range i).flatMap (fun j => (P j).filter fun x => bkt x.p == i) = [] := List.flatMap_eq_nil_iff.2 fun j hj => by
    rw [this j (by have := List.mem_range.1 hj; omega), if_neg (by have := List.mem_range.1 hj; omega)]
   have z2 : (List.range' (i + 1) (16 - i - 1)).flatMap (fun j => (P j).filter fun x => bkt x.p == i) = [] := List.flatMap_eq_nil_iff.2 fun j hj => by
    have hj := List.mem_range'_1.1 hj
    rw [this j (by omega), if_neg (by omega)]
   rw [z1, z2, this i hi, if_pos rfl, List.nil_append, List.append_nil]
  have hu := (may_ok (hok i hi).1).2
  refine up_unique hu h1 ?_
  exact (up_part hup i).imp fun {a b} h h2 => List.lt_irrefl _ (List.lt_trans h h2)
theorem VT.root {T : List (List UInt8)} {P : Nat → List PrR} {R : List UInt8} {H TX : Nat → List UInt8} (v : VT T P R H TX) {l : List PrR} (hl : ∀ i, i < 16 → partB l i = P i) : nd l 1 = R := by
 have hall : ∀ m c, 32 - c = m → 1 ≤ c → c < 32 → nd l c = H c := by
  intro m
  induction m using Nat.strongRecOn with
  | ind m ih =>
   intro c hcm c1 c2
   rw [← v.sha c c1 c2]
   by_cases h16 : 16 ≤ c
   ·have := v.lf (c - 16) (by omega)
    rw [show 16 + (c - 16) = c by omega] at this
    rw [this]
    unfold nd
    rw [node_leaf _ h16 c2, leafF, leafT, hl (c - 16) (by omega)]
   ·rw [v.inn c c1 (by omega), ← ih (32 - 2 * c) (by omega) (2 * c) rfl (by omega) (by omega), ← ih (32 - (2 * c + 1)) (by omega) (2 * c + 1) rfl (by omega) (by omega)]
    unfold nd
    rw [node_in _ c1 (by omega)]
 rw [hall 31 1 rfl (by omega) (by omega), v.r]
theorem WInv.wants (v : WInv s W X) {S' : List PrR} {L : List (List UInt8)} (hR : s.R = nd S' 1) (hno : NoColl L L.length) (h1 : ∀ t ∈ s.T, t ∈ L) (h2 : ∀ t ∈ textsT S', t ∈ L) : ∀ c, 1 ≤ c → c < 32 → known X c → W c = nd S' c := by
 have hall : ∀ m c, c = m → 1 ≤ c → c < 32 → known X c → W c = nd S' c := by
  intro m
  induction m using Nat.strongRecOn with
  | ind m ih =>
   intro c hcm c1 c2 hk
   by_cases e : c = 1
   ·subst e; rw [v.r, hR]
   ·rcases hk with hk | hk
    ·exact absurd hk e
    ·obtain ⟨t, ht⟩ := Option.isSome_iff_exists.1 hk
     have hkp : known X (c / 2) := Classical.byContradiction fun h => by rw [(v.un (c / 2) (by omega) (by omega) h).2] at ht; cases ht
     have hp := ih (c / 2) (by omega) (c / 2) rfl (by omega) (by omega) hkp
     obtain ⟨_, _, a3, a4⟩ := v.an (c / 2) t (by omega) (by omega) ht
     rw [← a3, ← ndT_sha S' (show 1 ≤ c / 2 by omega) (by omega)] at hp
     have he := nocoll_mem hno (h1 _ a4) (h2 _ (ndT_mem S' (by omega) (by omega))) hp
     rw [v.inn _ t (by omega) (by omega) ht] at he
     unfold ndT at he
     rw [if_pos (by omega)] at he
     have hkl : known X (2 * (c / 2)) := .inr (by rw [show 2 * (c / 2) / 2 = c / 2 by omega, ht]; rfl)
     obtain ⟨t1, t2⟩ := innT_inj he (by rw [v.wl _ (by omega) (by omega) hkl, nd_len])
     rcases Nat.mod_two_eq_zero_or_one c with h | h
     ·rw [show 2 * (c / 2) = c by omega] at t1; exact t1
     ·rw [show 2 * (c / 2) + 1 = c by omega] at t2; exact t2
 exact fun c => hall c c rfl
def wsz (c : Nat) : Nat := if c = 0 ∨ 32 ≤ c then 0 else 2 ^ (5 - c.log2) - 1
theorem wsz_in : ∀ c, c < 16 → 1 ≤ c → wsz c = wsz (2 * c) + wsz (2 * c + 1) + 1 := by decide +kernel
theorem wsz_pos : ∀ c, c < 32 → 1 ≤ c → 1 ≤ wsz c := by decide +kernel
def wSize (A : Nat → Option (List UInt8)) : Nat := ((List.range 32).map fun c => if (A c).isSome then wsz c else 0).sum
theorem sum_up (f g : Nat → Nat) {m k : Nat} (hk : k < m) (h : ∀ j, j ≠ k → f j = g j) : ((List.range m).map f).sum + g k = ((List.range m).map g).sum + f k := by
 have e : ∀ f : Nat → Nat, ((List.range m).map f).sum = ((List.range k).map f).sum + (f k + ((List.range' (k + 1) (m - k - 1)).map f).sum) := fun f => by
  rw [range_at hk]; simp
 have e1 : (List.range k).map f = (List.range k).map g := List.map_congr_left fun j hj => h j (by have := List.mem_range.1 hj; omega)
 have e2 : (List.range' (k + 1) (m - k - 1)).map f = (List.range' (k + 1) (m - k - 1)).map g := List.map_congr_left fun j hj => h j (by have := List.mem_range'_1.1 hj; omega)
 rw [e f, e g, e1, e2]; omega
theorem wSize_none {A : Nat → Option (List UInt8)} {c : Nat} (hc : c < 32) (h : (A c).isSome = true) : wSize (upF A c none) + wsz c = wSize A := by
 have := sum_up (fun d => if (upF A c none d).isSome then wsz d else 0) (fun d => if (A d).isSome then wsz d else 0) hc (fun j hj => by rw [upF_ne _ _ hj])
 rw [upF_same, h] at this
 simpa [wSize] using this
theorem wSize_ask {S : List PrR} {A : Nat → Option (List UInt8)} {c : Nat} {x : List UInt8} (hc : c < 32) : wSize (wAsk S A c x) ≤ wSize A + wsz c := by
 unfold wAsk
 split
 ·omega
 ·have := sum_up (fun d => if (upF A c (some x) d).isSome then wsz d else 0) (fun d => if (A d).isSome then wsz d else 0) hc (fun j hj => by rw [upF_ne _ _ hj])
  rw [upF_same] at this
  simp only [Option.isSome_some, if_true] at this
  unfold wSize; omega
theorem wSize_new (S : List PrR) (R : List UInt8) : wSize (wNew S R).A ≤ 31 := by
 have := wSize_ask (S := S) (A := fun _ => none) (c := 1) (x := R) (by omega)
 have h0 : wSize (fun _ => none) = 0 := by decide +kernel
 have h1 : wsz 1 = 31 := by decide +kernel
 show wSize (wAsk _ _ _ _) ≤ 31
 omega
theorem wSize_in {c : Nat} {x y z : List UInt8} (h1 : 1 ≤ c) (hc : c < 16) (h : s.A c = some z) : wSize (wIn s c x y).A + 1 ≤ wSize s.A := by
 have e1 := wSize_none (A := s.A) (c := c) (by omega) (by rw [h]; rfl)
 have e2 := wSize_ask (S := s.S) (A := upF s.A c none) (c := 2 * c) (x := x) (by omega)
 have e3 := wSize_ask (S := s.S) (A := wAsk s.S (upF s.A c none) (2 * c) x) (c := 2 * c + 1) (x := y) (by omega)
 have e4 := wsz_in c hc h1
 show wSize (wAsk _ _ _ _) + 1 ≤ _
 omega
theorem wSize_pg {i : Nat} {l : List PrR} {z : List UInt8} (hi : i < 16) (h : s.A (16 + i) = some z) : wSize (wPg s i l).A + 1 ≤ wSize s.A := by
 have e1 := wSize_none (A := s.A) (c := 16 + i) (by omega) (by rw [h]; rfl)
 have e2 := wsz_pos (16 + i) (by omega) (by omega)
 show wSize (upF _ _ _) + 1 ≤ _
 omega
def wList (A : Nat → Option (List UInt8)) : List Nat := (List.range 32).filter fun c => (A c).isSome
theorem wList_nil (hv : WInv s W X) (h : wList s.A = []) : ∀ c, s.A c = none := fun c => by
 by_cases hc : c < 32
 ·have := List.filter_eq_nil_iff.1 h c (List.mem_range.2 hc)
  simpa using this
 ·exact (hv.out c (.inr (by omega))).1
theorem wList_le (A : Nat → Option (List UInt8)) : (wList A).length ≤ 32 := by
 have := List.length_filter_le (fun c => (A c).isSome) (List.range 32)
 simpa [wList] using this
end TL

namespace TL
open Go Go.Proofs Go.RowKit Go.Maps Go.Sort Go.ChangeMaps Go.MapKept Go.WideShapes
section
variable {F : Fence} {n : Nat} {P : Program} (w : World) {ops : Array Oper} {rest : List Oper} {o : Oper} {a : Act} {Q : Exit → Act → World → Prop}
structure ItAt (w : World) (b r : Nat) (es : Array MapEntry) (clock since : Nat) (seen : Array Nat) : Prop where
 m : w.heap[b]? = some (.map es clock)
 it : ∃ c0, w.heap[r]? = some (.mapIter (some b) since seen c0) ∧ since ≤ c0
 sc : since ≤ clock
 old : ∀ x ∈ es.toList, x.born < since
 nd : (es.toList.map (·.born)).Nodup
theorem ItAt.walks {w w' : World} {b r : Nat} {es : Array MapEntry} {clock since : Nat} {seen : Array Nat} (h : ItAt w b r es clock since seen) (hk : KeepsWalks w w') : ItAt w' b r es clock since seen := by
 obtain ⟨c0, h1, h2⟩ := h.it
 exact ⟨hk.same b _ h.m rfl, ⟨c0, hk.same r _ h1 rfl, h2⟩, h.sc, h.old, h.nd⟩
theorem ItAt.left {w : World} {b r : Nat} {es : Array MapEntry} {clock since : Nat} {seen : Array Nat} (h : ItAt w b r es clock since seen) : w.rangeLeft b r = (leftOf es seen).size := by
 obtain ⟨c0, h1, _⟩ := h.it
 simp only [World.rangeLeft, h.m, h1]
theorem wpListIn_range_raw (hg : o.guard = none) (m : Operand) (t : TypeId) (hop : o.op = Op.range t m) (k e : TypeId) (ht : P.underlying t = some (.map k e)) (b : Nat) (es : Array MapEntry) (clock : Nat)
  (hm : a.eval m = .map (some b)) (hb : w.heap[b]? = some (.map es clock)) (hold : ∀ x ∈ es.toList, x.born < clock) (hnd : (es.toList.map (·.born)).Nodup)
  (hK : ∀ w', ItAt w' b w.heap.size es clock clock #[] → w.grownBy w' none → w'.heap.size = w.heap.size + 1 → wpListIn F n P ops Q rest (a.put o.dst (.pointer (some ⟨w.heap.size, 0, none⟩))) w') :
  wpListIn F n P ops Q (o :: rest) a w := by
 refine wpListIn_plain hg fun K' hK' => ?_
 have hrun := run_range_map (P := P) w t k e b es clock ht hb
 have hlt : b < w.heap.size := (Array.getElem?_eq_some_iff.1 hb).1
 unfold Oper.wpIn
 refine ⟨?_, ?_⟩
 ·simp [Oper.about, hop]
 ·rw [Oper.semAt_plain F _ _ (by rw [hop]; intro c hc'; cases hc')]
  simp [execOp, hop, hm, hrun, Result.andThen]
  exact hK' _ _ (hK _ ⟨((MapKept.heap_alloc w _).2 b hlt).trans hb, ⟨clock, (MapKept.heap_alloc w _).1, Nat.le_refl _⟩, Nat.le_refl _, hold, hnd⟩ (World.grownBy_alloc w _ none) (by simp))
theorem wpListIn_next_raw (hg : o.guard = none) (it : Operand) (hop : o.op = Op.next it false) (b r : Nat) (es : Array MapEntry) (clock since : Nat) (seen : Array Nat)
  (hit : a.eval it = .pointer (some ⟨r, 0, none⟩)) (h : ItAt w b r es clock since seen)
  (hDone : (leftOf es seen).size = 0 → wpListIn F n P ops Q rest (a.put o.dst (.tuple #[.bool false])) w)
  (hMore : ∀ (e : MapEntry) (w' : World), e ∈ (leftOf es seen).toList → ItAt w' b r es clock since (seen.push e.born) →
   w.grownBy w' (some r) → w'.heap.size = w.heap.size → (Instr.entry (.pointer (some ⟨r, 0, none⟩))).run P w' = .ok (.tuple #[e.key, e.val]) w' → wpListIn F n P ops Q rest (a.put o.dst (.tuple #[.bool true, e.key, e.val])) w') :
  wpListIn F n P ops Q (o :: rest) a w := by
 refine wpListIn_plain hg fun K' hK' => ?_
 unfold Oper.wpIn
 refine ⟨by simp [Oper.about, hop], ?_⟩
 rw [Oper.semAt_plain F _ _ (by rw [hop]; intro c hc'; cases hc')]
 obtain ⟨c0, hr, hsc⟩ := h.it
 have hne : r ≠ b := fun e => by subst e; rw [h.m] at hr; cases hr
 rcases run_next_at (P := P) w o.type r b since c0 seen es clock hr h.m h.old hsc with ⟨h0, hrun⟩ | ⟨e, he, w1, hal, hrun⟩
 ·simp [execOp, hop, hit, hrun, Result.andThen]
  exact hK' _ _ (hDone h0)
 ·have hr1 : w1.heap[r]? = some (.mapIter (some b) since seen c0) := by rcases hal with rfl | rfl <;> exact hr
  have hb1 : w1.heap[b]? = some (.map es clock) := by rcases hal with rfl | rfl <;> exact h.m
  have hset := heap_set (o' := .mapIter (some b) since (seen.push e.born) clock) hr1
  have hb' : (setBlock w1 r (.mapIter (some b) since (seen.push e.born) clock)).heap[b]? = some (.map es clock) := (hset.2 b (fun e1 => hne e1.symm)).trans hb1
  simp [execOp, hop, hit, hrun, Result.andThen]
  refine hK' _ _ (hMore e _ he ⟨hb', ⟨clock, hset.1, h.sc⟩, h.sc, h.old, h.nd⟩ ?_ ?_ (run_entry_at _ r b since seen es clock e hset.1 hb' (mem_left he).1 h.nd))
  ·rcases hal with rfl | rfl <;> exact ⟨rfl, rfl, rfl, by simp [setBlock], fun i _ hi => hset.2 i (fun e1 => hi (by rw [e1]))⟩
  ·rcases hal with rfl | rfl <;> simp [setBlock]
end
theorem left_push (es : Array MapEntry) (seen : Array Nat) (b : Nat) : (leftOf es (seen.push b)).toList = (leftOf es seen).toList.filter fun e => !(e.born == b) := by
 unfold leftOf
 rw [Array.toList_filter, Array.toList_filter, List.filter_filter]
 apply List.filter_congr
 intro e _
 rw [contains_push]
 cases seen.contains e.born <;> cases (e.born == b) <;> rfl
theorem perm_out {e : MapEntry} : ∀ {l : List MapEntry}, (l.map (·.born)).Nodup → e ∈ l → l.Perm (e :: l.filter fun x => !(x.born == e.born))
 | [], _, h => by cases h
 | a :: l, hn, h => by
  rw [List.map_cons, List.nodup_cons] at hn
  rcases List.mem_cons.1 h with rfl | h
  ·have : l.filter (fun x => !(x.born == e.born)) = l := List.filter_eq_self.2 fun x hx => by
    have : x.born ≠ e.born := fun ee => hn.1 (ee ▸ List.mem_map.2 ⟨x, hx, rfl⟩)
    simp [this]
   rw [List.filter_cons, this]
   simp
  ·have hne : a.born ≠ e.born := fun ee => hn.1 (ee ▸ List.mem_map.2 ⟨e, h, rfl⟩)
   have : (a :: l).filter (fun x => !(x.born == e.born)) = a :: l.filter fun x => !(x.born == e.born) := by
    rw [List.filter_cons]; simp [hne]
   rw [this]
   exact ((perm_out hn.2 h).cons a).trans (List.Perm.swap e a _)
def keyV (x : Int × Int) : Value := .agg #[.int .i64 x.1, .int .i64 x.2]
set_option maxRecDepth 100000 in
set_option maxHeartbeats 1000000 in
theorem keysAsk_in (F : Fence) (n : Nat) (hf : F.fn 151) (hro : F.round = none) (hn : 1 ≤ n) (l Bm b : Nat) (es : Array MapEntry) (clock : Nat) (hkey : ∀ e ∈ es.toList, ∃ x, e.key = keyV x) (hold : ∀ x ∈ es.toList, x.born < clock) (hnd : (es.toList.map (·.born)).Nodup)
  (J : List (Int × Int) → World → Prop)
  (hY : ∀ pre x W, J pre W → pre.length < es.size → YieldAt F (n - 1) Tryz.prog l #[keyV x] W fun e W' => e = .returned (.bool true) ∧ J (pre ++ [x]) W' ∧ KeepsWalks W W')
  (W : World) (hJ : AbidesFrom W.heap.size J) (hm : W.cell? ⟨Bm, 0, none⟩ = some (.map (some b))) (hb : W.heap[b]? = some (.map es clock)) (h0 : J [] W) :
  CallsIn F n Tryz.prog 151 #[.func (.yield l) #[] #[], .pointer (some ⟨Bm, 0, none⟩)] W fun e W' => (∃ v, e = .returned v) ∧ ∃ ss : List (Int × Int), (ss.map keyV).Perm (es.toList.map (·.key)) ∧ J ss W' := by
 refine callsIn_of_wp Tryz.func151 rfl hf ?_ hro
 simp only [Tryz.ntmps151, List.size_toArray, List.length_cons, List.length_nil, Nat.reduceAdd, Nat.reduceSub, Array.replicate_succ, Array.replicate_zero, List.push_toArray, List.append_toArray, List.nil_append, List.cons_append]
 gi_wp2_with (first
  | (gi_at_range; refine wpListIn_range_raw _ rfl _ 184 rfl 79 46 Tryz.underlying184 b es clock rfl hb hold hnd ?_; intro w0 hrg0 hg0 hs0)
  | gi_in)
 go_frame
 gi_loopw [3] (fun _ wr => ∃ (seen : Array Nat) (gs : List MapEntry) (ss : List (Int × Int)), ItAt wr b W.heap.size es clock clock seen ∧ (gs ++ (leftOf es seen).toList).Perm es.toList ∧ ss.map keyV = gs.map (·.key) ∧ J ss wr)
  (fun _ wr => wr.rangeLeft b W.heap.size)
 case atStart =>
  exact ⟨_, [], [], hrg0, (by simp only [leftOf, List.nil_append, Array.toList_filter]; exact List.Perm.of_eq (List.filter_eq_self.2 fun _ _ => by simp)), rfl, hJ [] W w0 none h0 hg0 (fun r e => by cases e)⟩
 case round =>
  obtain ⟨seen, gs, ss, hrg, hpm, hmap, hJs⟩ := hrel
  gi_wp2_with (first
   | (gi_at_next; refine wpListIn_next_raw _ rfl _ rfl b W.heap.size es clock clock seen rfl hrg ?_ ?_)
   | gi_in)
  ·intro hl0
   gi_wp2
   go_end0
   refine ⟨⟨_, rfl⟩, ss, ?_, hJs⟩
   rw [show leftOf es seen = #[] from hl0] at hpm
   rw [hmap]
   have := hpm.map (·.key)
   simpa using this
  ·intro e w2 he hrg2 hg2 hs2 hen
   obtain ⟨⟨p, q⟩, hx⟩ := hkey e (mem_left (Array.mem_toList_iff.2 he)).1
   have hx : e.key = .agg #[.int .i64 p, .int .i64 q] := hx
   rw [hx] at hen
   rw [hx]
   have hlen : ss.length < es.size := by
    have h1 := hpm.length_eq
    have h2 := congrArg List.length hmap
    have h3 := List.length_pos_of_mem (Array.mem_toList_iff.2 he)
    simp only [List.length_append, List.length_map, Array.length_toList] at h1 h2 h3
    omega
   have hJ2 : J ss w2 := hJ ss wr w2 (some W.heap.size) hJs hg2 (fun r e => by
    cases e
    obtain ⟨c0, h1, _⟩ := hrg.it
    exact ⟨Nat.le_refl _, _, h1, rfl⟩)
   have hJ3 : J ss (w2.alloc (.cells #[.int .i64 p, .int .i64 q] 79)) := hJ ss w2 _ none hJ2 (World.grownBy_alloc w2 _ none) (fun r e => by cases e)
   obtain ⟨fn, tmps, assign, body, hy, hR⟩ := hY ss (p, q) _ hJ3 hlen
   have hy : (Instr.yield l #[.agg #[.int .i64 p, .int .i64 q]]).run Tryz.prog (w2.alloc (.cells #[.int .i64 p, .int .i64 q] 79)) = _ := hy
   have hrg3 := hrg2.walks (KeepsWalks.alloc w2 (.cells #[.int .i64 p, .int .i64 q] 79))
   clear hs2
   gi_wp2
   refine hR.mono ?_
   rintro e' W3 ⟨rfl, hJ4, hk4⟩
   gi_wp2
   have hrg4 := hrg3.walks hk4
   go_roundw
   case rel =>
    refine ⟨_, gs ++ [e], ss ++ [(p, q)], hrg4, ?_, ?_, hJ4⟩
    ·rw [left_push, List.append_assoc]
     refine List.Perm.trans (List.Perm.append_left gs ?_) hpm
     exact (perm_out (List.Nodup.sublist ((List.filter_sublist (p := fun e => !seen.contains e.born) (l := es.toList)).map _) hrg.nd |> fun h => by unfold leftOf; rw [Array.toList_filter]; exact h) (Array.mem_toList_iff.2 he)).symm
    ·rw [List.map_append, List.map_append, hmap]
     simp [keyV, hx]
   case measure => rw [hrg4.left, hrg.left]; exact left_shrinks es seen e (Array.mem_toList_iff.2 he)
theorem keysAsk_gives (F : Fence) (n : Nat) (hf : F.fn 151) (hro : F.round = none) (hn : 1 ≤ n) (Bm b : Nat) (es : Array MapEntry) (clock : Nat) (hkey : ∀ e ∈ es.toList, ∃ x, e.key = keyV x) (hold : ∀ x ∈ es.toList, x.born < clock) (hnd : (es.toList.map (·.born)).Nodup)
  (w : World) (hBm : Bm < w.heap.size) (hm : w.cell? ⟨Bm, 0, none⟩ = some (.map (some b))) (hb : w.heap[b]? = some (.map es clock)) :
  SeqGives F n Tryz.prog 151 #[.pointer (some ⟨Bm, 0, none⟩)] keyV (fun ss => (ss.map keyV).Perm (es.toList.map (·.key))) es.size w := fun l J W hW hJ hY h0 =>
 keysAsk_in F n hf hro hn l Bm b es clock hkey hold hnd J hY W hJ ((hW.cell (p := ⟨Bm, 0, none⟩) hBm).trans hm) ((hW.block b (Array.getElem?_eq_some_iff.1 hb).1).trans hb) h0
end TL

namespace TL
open Go Go.Proofs Go.RowKit Go.Maps Go.Sort Go.Shelf
def askC (x : Int × Int) : List Value := [.int .i64 x.1, .int .i64 x.2]
def ask_apAssign : Code := Code.region 2 #[{ dst := some 5, op := Op.alloc 79, type := 0, pos := "iter.go:51", after := #[], guard := none }, { dst := none, op := Op.store 79 (Operand.tmp 5) (Operand.tmp 7), type := 0, pos := "iter.go:51", after := #[{ on := 0, ground := Ground.data }, { on := 0, ground := Ground.phase }], guard := none }] false
def ask_apBody : Code := Code.block 1 (Code.region 3 #[{ dst := some 8, op := Op.load 74 (Operand.tmp 2), type := 74, pos := "iter.go:52", after := #[], guard := none }, { dst := some 9, op := Op.load 79 (Operand.tmp 5), type := 79, pos := "iter.go:52", after := #[], guard := none }, { dst := some 10, op := Op.buildSlice 74 1 #[(0, Operand.tmp 9)], type := 74, pos := "iter.go:52", after := #[{ on := 1, ground := Ground.data }], guard := none }, { dst := some 11, op := Op.call { callee := Callee.builtin Builtin.append, args := #[Operand.tmp 8, Operand.tmp 10], argTypes := #[74, 74] }, type := 74, pos := "iter.go:52", after := #[{ on := 0, ground := Ground.data }, { on := 2, ground := Ground.data }], guard := none }, { dst := none, op := Op.store 74 (Operand.tmp 2) (Operand.tmp 11), type := 0, pos := "iter.go:52", after := #[{ on := 3, ground := Ground.data }, { on := 3, ground := Ground.chain }, { on := 0, ground := Ground.phase }, { on := 1, ground := Ground.phase }, { on := 2, ground := Ground.phase }, { on := 3, ground := Ground.phase }], guard := none }] false)
def ask_apRec (fn : FuncId) (sv : Value) (Bs D : Nat) (st : LoopState) (pend : Option Code) : Loop :=
 { state := st, pending := pend, fn, tmps := #[.slice none 0 0, sv, .pointer (some ⟨Bs, 0, none⟩), undef, .slice none 0 0, undef, sv, undef, undef, undef, undef, undef, undef], params := #[7], assign := ask_apAssign, body := ask_apBody, defers := D }
structure ask_ApAt (w0 : World) (fn : FuncId) (sv : Value) (Bs l D : Nat) (ss : List (Int × Int)) (W : World) : Prop where
 box : ∃ v, W.heap[Bs]? = some (.cells #[v] 74 (0, 0)) ∧ W.ownsRow w0.heap.size 79 2 v ss.length (ss.flatMap askC) ∧ (v = .slice none 0 0 ↔ ss = [])
 L : W.heap[l]? = some (.loop (ask_apRec fn sv Bs D .ready none))
 K : W.heap[D]? = some (.deferred (some []))
 below : Below w0.heap.size w0 W
theorem ask_ap_abides (w0 : World) (fn : FuncId) (sv : Value) (Bs l D B : Nat) (hB : w0.heap.size ≤ B) : AbidesFrom B (ask_ApAt w0 fn sv Bs l D) := fun s W W' row h hg hrow => by
 have hrow' : ∀ r, row = some r → ∃ o : Obj, W.heap[r]? = some o ∧ o.isWalk = true := fun r e => (hrow r e).2
 obtain ⟨v, hv, hr, hn⟩ := h.box
 exact ⟨⟨v, (grownBy_keeps hg hrow' hv rfl).trans hv, ownsRow_abides_a hr hg hrow', hn⟩, (grownBy_keeps hg hrow' h.L rfl).trans h.L, (grownBy_keeps hg hrow' h.K rfl).trans h.K,
  h.below.grown hg h.below.size (fun k e => Nat.le_trans hB (hrow k e).1)⟩
theorem ask_info26 : (Tryz.prog.info? 79).map (fun i => (i.zero, i.size, i.bytes)) = some (some (.agg #[.int .i64 0, .int .i64 0]), 2, 16) := by kernel_rfl
set_option maxRecDepth 100000 in
set_option maxHeartbeats 2000000 in
theorem ask_apYield (F : Fence) (m : Nat) (w0 : World) (fn : FuncId) (hfn : F.fn fn) (sv : Value) (Bs l D : Nat) (hBl : Bs ≠ l) (hDl : D ≠ l) (hDB : D ≠ Bs) (h0B : w0.heap.size ≤ Bs) (h0l : w0.heap.size ≤ l)
    (N : Nat) (hN : N ≤ maxLen) (hNb : N * 16 ≤ 140737488355328) (ss : List (Int × Int)) (x : Int × Int) (W : World) (h : ask_ApAt w0 fn sv Bs l D ss W) (hlen : ss.length < N) :
    YieldAt F m Tryz.prog l #[keyV x] W fun e W' => e = .returned (.bool true) ∧ ask_ApAt w0 fn sv Bs l D (ss ++ [x]) W' ∧ KeepsWalks W W' := by
  obtain ⟨i0, hi, hz0, hz1, hz2⟩ := info_parts ask_info26
  obtain ⟨v, hv, hrow, _⟩ := h.box
  have hx : keyV x = .agg #[.int .i64 x.1, .int .i64 x.2] := rfl
  rw [hx]
  refine ⟨fn, #[.slice none 0 0, sv, .pointer (some ⟨Bs, 0, none⟩), undef, .slice none 0 0, undef, sv, .agg #[.int .i64 x.1, .int .i64 x.2], undef, undef, undef, undef, undef], ask_apAssign, ask_apBody, by simpa [ask_apRec] using run_yield (P := Tryz.prog) (args := #[.agg #[.int .i64 x.1, .int .i64 x.2]]) h.L rfl, roundIn_of_wpIn hfn ?_⟩
  have hl0 : l < W.heap.size := (Array.getElem?_eq_some_iff.1 h.L).1
  have hB0 : Bs < W.heap.size := (Array.getElem?_eq_some_iff.1 hv).1
  have hD0 : D < W.heap.size := (Array.getElem?_eq_some_iff.1 h.K).1
  obtain ⟨W1, hW1⟩ : ∃ W1, W.alloc (.cells #[.int .i64 x.1, .int .i64 x.2] 79) = W1 := ⟨_, rfl⟩
  have hs1 : W1.heap.size = W.heap.size + 1 := by rw [← hW1]; simp
  have hL1 : W1.heap[l]? = some (.loop (ask_apRec fn sv Bs D .ready none)) := by rw [← hW1]; exact (Below.heap_alloc _ _ l hl0).trans h.L
  have hv1 : W1.heap[Bs]? = some (.cells #[v] 74 (0, 0)) := by rw [← hW1]; exact (Below.heap_alloc _ _ Bs hB0).trans hv
  have hK1 : W1.heap[D]? = some (.deferred (some [])) := by rw [← hW1]; exact (Below.heap_alloc _ _ D hD0).trans h.K
  have hn1 : W1.heap[W.heap.size]? = some (.cells #[.int .i64 x.1, .int .i64 x.2] 79 (0, 0)) := by rw [← hW1]; exact World.alloc_heap_new W _
  have hrow1 : W1.ownsRow w0.heap.size 79 2 v ss.length (ss.flatMap askC) := by rw [← hW1]; exact hrow.alloc _
  have hb1 : Below w0.heap.size w0 W1 := by rw [← hW1]; exact h.below.alloc h.below.size _
  have hk1 : KeepsWalks W W1 := by rw [← hW1]; exact KeepsWalks.alloc _ _
  have hl : l < W1.heap.size := by omega
  have hbr := run_beginRound (P := Tryz.prog) hL1 rfl
  obtain ⟨W2, hW2⟩ : ∃ W2, W1.putObj l (.loop { ask_apRec fn sv Bs D .ready none with state := .busy }) = W2 := ⟨_, rfl⟩
  rw [hW2] at hbr
  have hg2 : W1.grownBy W2 (some l) := by rw [← hW2]; exact grownBy_putObj_a _ _ _
  have hk2 : KeepsWalks W W2 := hk1.trans (by rw [← hW2]; exact KeepsWalks.putObj _ hL1 rfl)
  have hs2 : W2.heap.size = W1.heap.size := by rw [← hW2]; simp [World.putObj]
  have hv2 : W2.heap[Bs]? = some (.cells #[v] 74 (0, 0)) := by rw [← hW2]; exact (World.putObj_heap_other hBl).trans hv1
  have hK2 : W2.heap[D]? = some (.deferred (some [])) := by rw [← hW2]; exact (World.putObj_heap_other hDl).trans hK1
  have hn2 : W2.heap[W.heap.size]? = some (.cells #[.int .i64 x.1, .int .i64 x.2] 79 (0, 0)) := by rw [← hW2]; exact (World.putObj_heap_other (by omega)).trans hn1
  have hL2 : W2.heap[l]? = some (.loop { ask_apRec fn sv Bs D .ready none with state := .busy }) := by rw [← hW2]; exact World.putObj_heap_same hl
  have hrow2 : W2.ownsRow w0.heap.size 79 2 v ss.length (ss.flatMap askC) := hrow1.kept hg2 (ownsRow_ne_a hrow1 hL1 (fun cur e => by cases e))
  have hb2 : Below w0.heap.size w0 W2 := hb1.grown hg2 hb1.size (fun k e => by cases e; exact h0l)
  obtain ⟨hc2, hf2⟩ := cell_of_box_a hv2
  have hp2 : W2.cell? ⟨W.heap.size, 0, none⟩ = some (.int .i64 x.1) := by simp [World.cell?, hn2]
  have hq2 : W2.cell? ⟨W.heap.size, 1, none⟩ = some (.int .i64 x.2) := by simp [World.cell?, hn2]
  have hBlt : Bs < W2.heap.size := (Array.getElem?_eq_some_iff.1 hv2).1
  have hl2 : l < W2.heap.size := (Array.getElem?_eq_some_iff.1 hL2).1
  have hDlt : D < W2.heap.size := (Array.getElem?_eq_some_iff.1 hK2).1
  have ne_of : ∀ {j : Nat} {o : Obj}, W2.heap[j]? = some o → (∀ cur, o ≠ .cells cur 79 (0, 0)) → some j ≠ v.ownBlock := fun hj hno => by
    rcases ownsRow_ne_a hrow2 hj hno with e | e
    · rw [e]; simp
    · exact fun e' => e e'.symm
  clear hW2
  unfold ask_apAssign
  gi_wp2_with gi_round_op_a
  clear hW1
  have hn3 : (W2.alloc (.cells #[.int .i64 x.1, .int .i64 x.2] 79)).heap[W.heap.size + 1]? = some (.cells #[.int .i64 x.1, .int .i64 x.2] 79 (0, 0)) := by
    rw [show W.heap.size + 1 = W2.heap.size by omega]; exact World.alloc_heap_new W2 _
  have hcell : ∀ (j : Nat) (u : Value), ([.int .i64 x.1, .int .i64 x.2] : List Value)[j]? = some u → (W2.alloc (.cells #[.int .i64 x.1, .int .i64 x.2] 79)).cell? ((⟨W.heap.size + 1, 0, none⟩ : Addr).add j) = some u := fun j u hu => by
    match j, hu with
    | 0, hu => simp at hu; subst hu; simp [Addr.add, World.cell?, hn3]
    | 1, hu => simp at hu; subst hu; simp [Addr.add, World.cell?, hn3]
    | j + 2, hu => simp at hu
  unfold ask_apBody
  gi_wp2_with (first
    | (gi_at_builtin; refine wpListIn_append_own _ rfl _ _ 74 rfl w0.heap.size 79 i0 (.agg #[.int .i64 0, .int .i64 0]) 2 16 Tryz.underlying74 hi hz0 hz1 hz2 rfl (by decide) _ _ _ rfl (hrow2.alloc _) ⟨W.heap.size + 1, 0, none⟩ 1 1 [.int .i64 x.1, .int .i64 x.2] rfl rfl hcell (by simp [Value.oneCell']) (by omega) (by omega) (by have := hb2.size; simp; omega) ?_; intro v' w3 hown' hg3 hnil3
       have hv3 : w3.heap[Bs]? = some (.cells #[v] 74 (0, 0)) := (hg3.block Bs (by simp; omega) (ne_of hv2 (fun cur e => by cases e))).trans ((Below.heap_alloc _ _ Bs hBlt).trans hv2)
       obtain ⟨hc3, hf3⟩ := cell_of_box_a hv3
       obtain ⟨g', cap', cur', rfl, hbase', hgb', hr1, hr2, hr3, hr4⟩ : ∃ g' cap' cur', v' = .slice (some ⟨g', 0, none⟩) (ss.length + 1) cap' ∧ w0.heap.size ≤ g' ∧ w3.heap[g']? = some (.cells cur' 79 (0, 0)) ∧ ss.length + 1 ≤ cap' ∧ cap' ≤ maxLen ∧ cur'.size = cap' * 2 ∧ cur'.toList.take ((ss.length + 1) * 2) = ss.flatMap askC ++ [.int .i64 x.1, .int .i64 x.2] := by
         rcases hown'.2 with ⟨_, h0⟩ | h'
         · exact absurd h0 (by omega)
         · exact h'
       go_frame)
    | gi_round_op_a)
  have hg3' : (W2.alloc (.cells #[.int .i64 x.1, .int .i64 x.2] 79)).grownBy w3 v.ownBlock := hg3
  have hL3 : w3.heap[l]? = some (.loop { ask_apRec fn sv Bs D .ready none with state := .busy }) := (hg3'.block l (by simp; omega) (ne_of hL2 (fun cur e => by cases e))).trans ((Below.heap_alloc _ _ l hl2).trans hL2)
  have hK3 : w3.heap[D]? = some (.deferred (some [])) := (hg3'.block D (by simp; omega) (ne_of hK2 (fun cur e => by cases e))).trans ((Below.heap_alloc _ _ D hDlt).trans hK2)
  obtain ⟨w4, hw4⟩ : ∃ w4, w3.setCell ⟨Bs, 0, none⟩ (.slice (some ⟨g', 0, none⟩) (ss.length + 1) cap') = w4 := ⟨_, rfl⟩
  rw [hw4]
  have hg4 : w3.grownBy w4 (some Bs) := by rw [← hw4]; exact grownBy_setCell0_a _ _ _
  have hv4 : w4.heap[Bs]? = some (.cells #[.slice (some ⟨g', 0, none⟩) (ss.length + 1) cap'] 74 (0, 0)) := by rw [← hw4]; exact heap_setCell_box_a _ hv3
  have hL4 : w4.heap[l]? = some (.loop { ask_apRec fn sv Bs D .ready none with state := .busy }) := (hg4.block l (Array.getElem?_eq_some_iff.1 hL3).1 (fun e => hBl (by cases e; rfl))).trans hL3
  have hK4 : w4.heap[D]? = some (.deferred (some [])) := (hg4.block D (Array.getElem?_eq_some_iff.1 hK3).1 (fun e => hDB (by cases e; rfl))).trans hK3
  have hrow4 := hown'.kept hg4 (ownsRow_ne_a hown' hv3 (fun cur e => by cases e))
  have hl4 : l < w4.heap.size := (Array.getElem?_eq_some_iff.1 hL4).1
  have hb3 : Below w0.heap.size w0 w3 := (hb2.alloc hb2.size _).grown hg3' (by have := hb2.size; simp; omega) (fun k e => (hrow2.lt k e).1)
  have hb4 : Below w0.heap.size w0 w4 := hb3.grown hg4 hb3.size (fun k e => by cases e; exact h0B)
  have hk4 : KeepsWalks W w4 := ((hk2.trans (KeepsWalks.alloc _ _)).trans (KeepsWalks.of_grownBy hg3' (ownsRow_not_walk_a (hrow2.alloc _)))).trans (by rw [← hw4]; exact KeepsWalks.setCell _ _ _)
  clear hw4
  refine ⟨_, _, run_endRound none hL4, rfl, ⟨⟨_, (World.putObj_heap_other hBl).trans hv4, ?_, by simp⟩, World.putObj_heap_same hl4, (World.putObj_heap_other hDl).trans hK4, hb4.grown (grownBy_putObj_a _ _ _) hb4.size (fun k e => by cases e; exact h0l)⟩, hk4.trans (KeepsWalks.putObj _ hL4 rfl)⟩
  have := hrow4.kept (grownBy_putObj_a w4 l (.loop { { ask_apRec fn sv Bs D .ready none with state := .busy } with state := if (none : Option Code).isNone then .ready else .done, pending := none })) (ownsRow_ne_a hrow4 hL4 (fun cur e => by cases e))
  simpa [askC, List.flatMap_append] using this
set_option maxRecDepth 100000 in
set_option maxHeartbeats 2000000 in
theorem ask_appendSeq_in (F : Fence) (n : Nat) (h11 : F.fn 174) (hro : F.round = none) (hn : 2 ≤ n) (g : Nat) (lb : Array Value) (hFg : F.fn g) (eg : ∀ args w, (callFunc g args).run Tryz.prog w = .ok (.enter g args) w)
    (S : List (Int × Int) → Prop) (N : Nat) (hN : N ≤ maxLen) (hNb : N * 16 ≤ 140737488355328) (w : World) (hseq : SeqGives F (n - 1) Tryz.prog g lb keyV S N w) :
    CallsIn F n Tryz.prog 174 #[.slice none 0 0, .func (.func g) #[] lb] w fun e w' => ∃ (v : Value) (ss : List (Int × Int)), e = .returned v ∧ S ss ∧ w'.ownsRow w.heap.size 79 2 v ss.length (ss.flatMap askC) ∧ (v = .slice none 0 0 ↔ ss = []) ∧ Below w.heap.size w w' := by
  have h1 : 1 ≤ n := by omega
  refine callsIn_of_wp_marks Tryz.func174 rfl h11 ?_ hro
  simp only [Tryz.ntmps174, List.size_toArray, List.length_cons, List.length_nil, Nat.reduceAdd, Nat.reduceSub, Array.replicate_succ, Array.replicate_zero, List.push_toArray, List.append_toArray, List.nil_append, List.cons_append]
  gi_wp2
  refine wpIn_rangeFunc ?_
  intro fn hfn
  rw [hro]
  obtain ⟨W0, hW0⟩ : ∃ W0, w.alloc (.cells #[.slice none 0 0] 74) = W0 := ⟨_, rfl⟩
  have hs0 : W0.heap.size = w.heap.size + 1 := by rw [← hW0]; simp
  have hv0 : W0.heap[w.heap.size]? = some (.cells #[.slice none 0 0] 74 (0, 0)) := by rw [← hW0]; exact World.alloc_heap_new w _
  have hb0 : Below w.heap.size w W0 := by rw [← hW0]; exact (Below.refl _ w).alloc (Nat.le_refl _) _
  rw [hW0]
  obtain ⟨W1, hW1⟩ : ∃ W1, (W0.alloc (.deferred (some []))).alloc (.loop (ask_apRec fn (.func (.func g) #[] lb) w.heap.size W0.heap.size .ready none)) = W1 := ⟨_, rfl⟩
  have hold : ∀ k, k < W0.heap.size → W1.heap[k]? = W0.heap[k]? := fun k hk => by
    rw [← hW1]; exact (Below.heap_alloc _ _ k (by simp; omega)).trans (Below.heap_alloc _ _ k hk)
  have hb1 : Below w.heap.size w W1 := by rw [← hW1]; exact (hb0.alloc hb0.size _).alloc (by have := hb0.size; simp; omega) _
  have hs1 : W1.heap.size = W0.heap.size + 2 := by rw [← hW1]; simp
  have hM : ask_ApAt w fn (.func (.func g) #[] lb) w.heap.size (W0.heap.size + 1) W0.heap.size [] W1 :=
    ⟨⟨_, (hold w.heap.size (by omega)).trans hv0, ⟨rfl, .inl ⟨rfl, rfl⟩⟩, by simp⟩,
     by rw [← hW1]; have := World.alloc_heap_new (W0.alloc (.deferred (some []))) (.loop (ask_apRec fn (.func (.func g) #[] lb) w.heap.size W0.heap.size .ready none)); rwa [World.size_alloc] at this,
     by rw [← hW1]; exact (Below.heap_alloc _ _ _ (by simp)).trans (World.alloc_heap_new W0 _), hb1⟩
  refine ⟨W0.heap.size + 1, [{ target := .collected W0.heap.size, args := #[] }], W1, { target := .fn (.func g) lb, args := #[.func (.yield (W0.heap.size + 1)) #[] #[]] }, W1, g,
    #[.func (.yield (W0.heap.size + 1)) #[] #[]] ++ lb, W1, ?_, ?_, ?_, ?_, fun _ => h1, ?_⟩
  · rw [← hW1]; exact run_enterLoop_outer _ _ _ _ _
  · simp [resolve, go_sem]
  · intro f' hf'; simp [Target.leads] at hf'; subst hf'; exact hFg
  · simp [invoke, go_sem, eg]
  · refine (hseq (W0.heap.size + 1) (ask_ApAt w fn (.func (.func g) #[] lb) w.heap.size (W0.heap.size + 1) W0.heap.size) W1 hb1 (ask_ap_abides _ _ _ _ _ _ _ hb1.size)
      (fun pre x W hJ hl => ask_apYield F (n - 1 - 1) w fn hfn _ w.heap.size (W0.heap.size + 1) W0.heap.size (by omega) (by omega) (by omega) (Nat.le_refl _) (by omega) N hN hNb pre x W hJ hl) hM).mono ?_
    rintro e W2 ⟨⟨v0, rfl⟩, ss, hS, h2⟩
    obtain ⟨v, hv, hrow, hnil⟩ := h2.box
    have hend := run_endLoop (P := Tryz.prog) h2.L (by simp [ask_apRec])
    obtain ⟨W3, hW3⟩ : ∃ W3, W2.putObj (W0.heap.size + 1) (.loop { ask_apRec fn (.func (.func g) #[] lb) w.heap.size W0.heap.size .ready none with state := .exhausted }) = W3 := ⟨_, rfl⟩
    rw [hW3] at hend
    have hg3 : W2.grownBy W3 (some (W0.heap.size + 1)) := by rw [← hW3]; exact grownBy_putObj_a _ _ _
    have hv3 : W3.heap[w.heap.size]? = some (.cells #[v] 74 (0, 0)) := by rw [← hW3]; exact (World.putObj_heap_other (by omega)).trans hv
    have hK3 : W3.heap[W0.heap.size]? = some (.deferred (some [])) := by rw [← hW3]; exact (World.putObj_heap_other (by omega)).trans h2.K
    have hrow3 := hrow.kept hg3 (ownsRow_ne_a hrow h2.L (fun cur e => by cases e))
    have hb3 : Below w.heap.size w W3 := h2.below.grown hg3 h2.below.size (fun k e => by cases e; omega)
    obtain ⟨hc3, hf3⟩ := cell_of_box_a hv3
    clear hW3
    refine ⟨none, W3, hend, ?_⟩
    gi_wp2
    rw [← hs0]
    refine ⟨by simp, .inl ⟨_, _, rfl, run_takeDeferred hK3, ?_⟩⟩
    exact ⟨_, results_tmp rfl _ _ _, v, ss, rfl, hS, hrow3.kept (grownBy_putObj_a _ _ _) (ownsRow_ne_a hrow3 hK3 (fun cur e => by cases e)), hnil, hb3.grown (grownBy_putObj_a _ _ _) hb3.size (fun k e => by cases e; omega)⟩
set_option maxHeartbeats 1000000 in
theorem ask_collect_in (F : Fence) (n : Nat) (h8 : F.fn 149) (h11 : F.fn 174) (hro : F.round = none) (hn : 3 ≤ n) (g : Nat) (lb : Array Value) (hFg : F.fn g) (eg : ∀ args w, (callFunc g args).run Tryz.prog w = .ok (.enter g args) w)
  (S : List (Int × Int) → Prop) (N : Nat) (hN : N ≤ maxLen) (hNb : N * 16 ≤ 140737488355328) (w : World) (hseq : SeqGives F (n - 1 - 1) Tryz.prog g lb keyV S N w) :
  CallsIn F n Tryz.prog 149 #[.func (.func g) #[] lb] w fun e w' => ∃ (v : Value) (ss : List (Int × Int)), e = .returned v ∧ S ss ∧ w'.ownsRow w.heap.size 79 2 v ss.length (ss.flatMap askC) ∧ (v = .slice none 0 0 ↔ ss = []) ∧ Below w.heap.size w w' := by
 have h1 : 1 ≤ n := by omega
 refine callsIn_of_wp Tryz.func149 rfl h8 ?_ hro
 simp only [Tryz.ntmps149, List.size_toArray, List.length_cons, List.length_nil, Nat.reduceAdd, Nat.reduceSub, Array.replicate_succ, Array.replicate_zero, List.push_toArray, List.append_toArray, List.nil_append, List.cons_append]
 gi_wp2_with (gi_at_call 174; refine (ask_appendSeq_in F (n - 1) h11 hro (by omega) g lb hFg eg S N hN hNb _ hseq).mono ?_; rintro e w' ⟨v, ss, rfl, hS, hrow, hnil, hb⟩)
 go_ret
 exact ⟨v, ss, rfl, hS, hrow, hnil, hb⟩
end TL

namespace Go.Proofs
open Go.Shelf
def Tryz.srtB_ren : Go.Shelf.Ren := ⟨fun | 6 => 150 | 15 => 159 | 14 => 175 | 28 => 186 | 29 => 187 | 20 => 202 | 21 => 203 | 22 => 204 | 23 => 205 | 24 => 206 | 25 => 207 | 26 => 208 | 27 => 209 | 46 => 222 | 47 => 211 | 48 => 212 | 49 => 223 | 50 => 224 | 57 => 227 | n => n, fun | 22 => 74 | 24 => 79 | 25 => 194 | 3 => 3 | 39 => 49 | 0 => 0 | 53 => 239 | 55 => 232 | 4 => 4 | 46 => 257 | 45 => 256 | 50 => 157 | 5 => 5 | 9 => 9 | 66 => 280 | 70 => 284 | 76 => 293 | 77 => 294 | n => n, fun | n => n⟩
theorem Tryz.srtB : Go.Proofs.SlLaysF0.n6 Tryz.prog Tryz.srtB_ren := {
 mixed := by kernel_rfl
 f6 := ⟨Tryz.f150.name, by decide, Tryz.func150.trans (congrArg some (by kernel_rfl))⟩
 f14 := ⟨Tryz.f175.name, by decide, Tryz.func175.trans (congrArg some (by kernel_rfl))⟩
 f15 := Tryz.func159.trans (congrArg some (by kernel_rfl))
 f20 := ⟨Tryz.f202.name, by decide, Tryz.func202.trans (congrArg some (by kernel_rfl))⟩
 f21 := ⟨Tryz.f203.name, by decide, Tryz.func203.trans (congrArg some (by kernel_rfl))⟩
 f22 := ⟨Tryz.f204.name, by decide, Tryz.func204.trans (congrArg some (by kernel_rfl))⟩
 f23 := ⟨Tryz.f205.name, by decide, Tryz.func205.trans (congrArg some (by kernel_rfl))⟩
 f24 := ⟨Tryz.f206.name, by decide, Tryz.func206.trans (congrArg some (by kernel_rfl))⟩
 f25 := ⟨Tryz.f207.name, by decide, Tryz.func207.trans (congrArg some (by kernel_rfl))⟩
 f26 := ⟨Tryz.f208.name, by decide, Tryz.func208.trans (congrArg some (by kernel_rfl))⟩
 f27 := ⟨Tryz.f209.name, by decide, Tryz.func209.trans (congrArg some (by kernel_rfl))⟩
 f28 := Tryz.func186.trans (congrArg some (by kernel_rfl))
 f29 := Tryz.func187.trans (congrArg some (by kernel_rfl))
 f46 := ⟨Tryz.f222.name, by decide, Tryz.func222.trans (congrArg some (by kernel_rfl))⟩
 f47 := Tryz.func211.trans (congrArg some (by kernel_rfl))
 f48 := Tryz.func212.trans (congrArg some (by kernel_rfl))
 f49 := ⟨Tryz.f223.name, by decide, Tryz.func223.trans (congrArg some (by kernel_rfl))⟩
 f50 := ⟨Tryz.f224.name, by decide, Tryz.func224.trans (congrArg some (by kernel_rfl))⟩
 f57 := ⟨Tryz.f227.name, by decide, Tryz.func227.trans (congrArg some (by kernel_rfl))⟩
 t0 := Tryz.underlying0
 a0 := Tryz.isAgg0
 z0 := Tryz.sizeOf0
 v0 := Tryz.zeroValue0
 t3 := Tryz.underlying3
 a3 := Tryz.isAgg3
 z3 := Tryz.sizeOf3
 v3 := Tryz.zeroValue3
 t4 := Tryz.underlying4
 a4 := Tryz.isAgg4
 z4 := Tryz.sizeOf4
 v4 := Tryz.zeroValue4
 t5 := Tryz.underlying5
 a5 := Tryz.isAgg5
 z5 := Tryz.sizeOf5
 v5 := Tryz.zeroValue5
 t9 := Tryz.underlying9
 a9 := Tryz.isAgg9
 z9 := Tryz.sizeOf9
 v9 := Tryz.zeroValue9
 t22 := Tryz.underlying74
 a22 := Tryz.isAgg74
 z22 := Tryz.sizeOf74
 v22 := Tryz.zeroValue74
 t25 := Tryz.underlying194
 a25 := Tryz.isAgg194
 z25 := Tryz.sizeOf194
 v25 := Tryz.zeroValue194
 t39 := Tryz.underlying49
 a39 := Tryz.isAgg49
 z39 := Tryz.sizeOf49
 v39 := Tryz.zeroValue49
 t45 := Tryz.underlying256
 a45 := Tryz.isAgg256
 z45 := Tryz.sizeOf256
 v45 := Tryz.zeroValue256
 t46 := Tryz.underlying257
 a46 := Tryz.isAgg257
 z46 := Tryz.sizeOf257
 v46 := Tryz.zeroValue257
 t50 := Tryz.underlying157
 a50 := Tryz.isAgg157
 z50 := Tryz.sizeOf157
 v50 := Tryz.zeroValue157
 t53 := Tryz.underlying239
 a53 := Tryz.isAgg239
 z53 := Tryz.sizeOf239
 v53 := Tryz.zeroValue239
 t55 := Tryz.underlying232
 a55 := Tryz.isAgg232
 z55 := Tryz.sizeOf232
 v55 := Tryz.zeroValue232
 t66 := Tryz.underlying280
 a66 := Tryz.isAgg280
 z66 := Tryz.sizeOf280
 v66 := Tryz.zeroValue280
 t70 := Tryz.underlying284
 a70 := Tryz.isAgg284
 z70 := Tryz.sizeOf284
 v70 := Tryz.zeroValue284
 t76 := Tryz.underlying293
 a76 := Tryz.isAgg293
 z76 := Tryz.sizeOf293
 v76 := Tryz.zeroValue293
 t77 := Tryz.underlying294
 a77 := Tryz.isAgg294
 z77 := Tryz.sizeOf294
 v77 := Tryz.zeroValue294}
end Go.Proofs

namespace TL
open Go Go.Proofs Go.Shelf Go.RowKit Go.Lib Go.Sort
def cmpI (a b : Int) : Int := if a < b then -1 else if a = b then 0 else 1
def orI (a b : Int) : Int := if a = 0 then b else a
def cmpA (x y : Int × Int) : Int := orI (cmpI x.1 y.1) (cmpI x.2 y.2)
set_option maxHeartbeats 1000000 in
set_option maxRecDepth 100000 in
theorem walkCmp (a b : Int) (w : World) : Calls Tryz.prog 118 #[.int .i64 a, .int .i64 b] w fun e w' => e = .returned (.int .i64 (cmpI a b)) ∧ w' = w := by
 unfold cmpI
 go_enter Tryz.func118, Tryz.ntmps118
 go_wp2
 all_goals (go_ret; exact ⟨rfl, rfl⟩)
set_option maxHeartbeats 1000000 in
set_option maxRecDepth 100000 in
theorem walkOr (F : Fence) (n : Nat) (hf : F.fn 117) (hro : F.round = none) (a b : Int) (w : World) (bb : Nat) (h0 : w.cell? ⟨bb, 0, none⟩ = some (.int .i64 a)) (h1 : w.cell? ⟨bb, 1, none⟩ = some (.int .i64 b)) :
  CallsIn F n Tryz.prog 117 #[.slice (some ⟨bb, 0, none⟩) 2 2] w fun e w' => e = .returned (.int .i64 (if a = 0 then b else a)) ∧ w' = w := by
 refine callsIn_of_wp Tryz.func117 rfl hf ?_ hro
 simp only [Tryz.ntmps117, List.size_toArray, List.length_cons, List.length_nil, Nat.reduceAdd, Nat.reduceSub, Array.replicate_succ, Array.replicate_zero, List.push_toArray, List.append_toArray, List.nil_append, List.cons_append]
 gi_wp2
 gi_loopw [8] (fun v wr => wr = w ∧ (v = .int .i64 0 ∨ (v = .int .i64 1 ∧ a = 0) ∨ (v = .int .i64 2 ∧ a = 0 ∧ b = 0))) (fun v _ => match v with
  | .int _ k => (2 - k).toNat
  | _ => 0)
 case atStart => exact ⟨rfl, .inl rfl⟩
 case round =>
  obtain ⟨rfl, rfl | ⟨rfl, rfl⟩ | ⟨rfl, rfl, rfl⟩⟩ := hrel
  ·gi_wp2
   ·simp_all
   ·go_ret
    exact ⟨rfl, rfl⟩
   ·rename_i hq
    exact ⟨⟨trivial, .inr (.inl ⟨rfl, by simpa using hq⟩)⟩, by decide⟩
  ·gi_wp2
   ·go_ret
    exact ⟨rfl, rfl⟩
   ·rename_i hq
    exact ⟨⟨trivial, .inr (.inr ⟨rfl, trivial, by simpa using hq⟩)⟩, by decide⟩
  ·gi_wp2
   go_ret
   exact ⟨rfl, rfl⟩
theorem walkOrC (a b : Int) (w : World) (bb : Nat) (h0 : w.cell? ⟨bb, 0, none⟩ = some (.int .i64 a)) (h1 : w.cell? ⟨bb, 1, none⟩ = some (.int .i64 b)) :
  Calls Tryz.prog 117 #[.slice (some ⟨bb, 0, none⟩) 2 2] w fun e w' => e = .returned (.int .i64 (if a = 0 then b else a)) ∧ w' = w :=
 callsIn_wide.1 (walkOr Fence.wide 3 trivial rfl a b w bb h0 h1)
theorem walkOrN (a b : Int) (W : World) : Calls Tryz.prog 117 #[.slice (some ⟨W.heap.size, 0, none⟩) 2 2] (W.alloc (.cells #[.int .i64 a, .int .i64 b] 3)).drew fun e w' => e = .returned (.int .i64 (orI a b)) ∧ w' = (W.alloc (.cells #[.int .i64 a, .int .i64 b] 3)).drew := by
 have hn : (W.alloc (.cells #[.int .i64 a, .int .i64 b] 3)).drew.heap[W.heap.size]? = some (.cells #[.int .i64 a, .int .i64 b] 3 (0, 0)) := World.alloc_heap_new W _
 generalize (W.alloc (.cells #[.int .i64 a, .int .i64 b] 3)).drew = X at hn ⊢
 exact walkOrC a b _ _ (by simp [World.cell?, hn]) (by simp [World.cell?, hn])
set_option maxHeartbeats 400000 in
set_option maxRecDepth 100000 in
theorem walkAsk (a0 a1 b0 b1 : Int) (w : World) :
  Calls Tryz.prog 116 #[.agg #[.int .i64 a0, .int .i64 a1], .agg #[.int .i64 b0, .int .i64 b1]] w fun e w' => e = .returned (.int .i64 (cmpA (a0, a1) (b0, b1))) ∧ ∃ q os', w' = grow (w.drewN q) os' := by
 unfold cmpA
 dsimp only
 have hc := walkCmp
 generalize cmpI = f at hc ⊢
 have ho := walkOrN
 generalize orI = g at ho ⊢
 go_enter Tryz.func116, Tryz.ntmps116
 go_wp2
 obtain ⟨W0, hW0⟩ : ∃ W0, (w.alloc (.cells #[.int .i64 a0, .int .i64 a1] 79)).alloc (.cells #[.int .i64 b0, .int .i64 b1] 79) = W0 := ⟨_, rfl⟩
 have n1 : W0.heap[w.heap.size]? = some (.cells #[.int .i64 a0, .int .i64 a1] 79 (0, 0)) := by rw [← hW0]; exact (Below.heap_alloc _ _ _ (by simp)).trans (World.alloc_heap_new w _)
 have n2 : W0.heap[w.heap.size + 1]? = some (.cells #[.int .i64 b0, .int .i64 b1] 79 (0, 0)) := by
  rw [← hW0]
  have := World.alloc_heap_new (w.alloc (.cells #[.int .i64 a0, .int .i64 a1] 79)) (.cells #[.int .i64 b0, .int .i64 b1] 79)
  rwa [World.size_alloc] at this
 have q1 : W0.cell? ⟨w.heap.size, 0, none⟩ = some (.int .i64 a0) := by simp [World.cell?, n1]
 have q2 : W0.cell? ⟨w.heap.size, 1, none⟩ = some (.int .i64 a1) := by simp [World.cell?, n1]
 have q3 : W0.cell? ⟨w.heap.size + 1, 0, none⟩ = some (.int .i64 b0) := by simp [World.cell?, n2]
 have q4 : W0.cell? ⟨w.heap.size + 1, 1, none⟩ = some (.int .i64 b1) := by simp [World.cell?, n2]
 rw [hW0]
 have hgr : ∃ os0, W0 = grow w os0 := ⟨_, by rw [← hW0, alloc_eq_grow, alloc_eq_grow, grow_grow]⟩
 clear hW0 n1 n2
 generalize w.heap.size = B at q1 q2 q3 q4
 go_region_held3 (fun w' => w'.cell? ⟨B, 0, none⟩ = some (.int .i64 a0) ∧ w'.cell? ⟨B, 1, none⟩ = some (.int .i64 a1) ∧ w'.cell? ⟨B + 1, 0, none⟩ = some (.int .i64 b0) ∧ w'.cell? ⟨B + 1, 1, none⟩ = some (.int .i64 b1)) (go_keep)
  (first | (go_at_call 118; refine (hc _ _ _).mono ?_; rintro e w' ⟨rfl, rfl⟩) | (go_at_call 117; refine (ho _ _ _).mono ?_; rintro e w' ⟨rfl, rfl⟩))
 go_wp2
 go_ret
 obtain ⟨os0, hgr⟩ := hgr
 refine ⟨rfl, 1, os0 ++ #[.cells #[.int .i64 (f a0 b0), .int .i64 (f a1 b1)] 3], ?_⟩
 rw [hgr, alloc_eq_grow, grow_grow]
 rfl
def EncAsk : Enc (Int × Int) where
 enc := askC
 k := 2
 len _ := rfl
 one o v hv := by
  simp only [askC, List.mem_cons, List.not_mem_nil, or_false] at hv
  rcases hv with rfl | rfl <;> rfl
 pos := by decide
def ltA (x y : Int × Int) : Prop := x.1 < y.1 ∨ (x.1 = y.1 ∧ x.2 < y.2)
instance (x y : Int × Int) : Decidable (ltA x y) := inferInstanceAs (Decidable (_ ∨ _))
theorem cmpI_lt (a b : Int) : cmpI a b < 0 ↔ a < b := by
 unfold cmpI
 split
 ·simp_all
 ·split <;> simp_all
theorem cmpI_eq (a b : Int) : cmpI a b = 0 ↔ a = b := by
 unfold cmpI
 split
 ·simp; omega
 ·split <;> simp_all
theorem cmpA_lt (x y : Int × Int) : ltOf cmpA x y = decide (ltA x y) := by
 unfold ltOf cmpA orI
 rw [decide_eq_decide]
 unfold ltA
 split
 ·rename_i h
  rw [cmpI_eq] at h
  rw [cmpI_lt]; omega
 ·rename_i h
  rw [cmpI_eq] at h
  rw [cmpI_lt]; omega
theorem swoA : SWO (ltOf cmpA) where
 irrefl x := by rw [cmpA_lt]; exact decide_eq_false (by unfold ltA; omega)
 trans x y z h1 h2 := by
  rw [cmpA_lt] at *
  simp only [decide_eq_true_eq] at *
  unfold ltA at *; omega
 ntrans x y z h1 h2 := by
  rw [cmpA_lt] at *
  simp only [decide_eq_false_iff_not] at *
  unfold ltA at *; omega
section
variable {P : Program} {ρ : Ren}
theorem flatA_row (l : List (Int × Int)) : flatK EncAsk.enc 2 l.toArray = (EncAsk.row l).toArray := by
 apply Array.ext
 ·rw [size_flatK]; simp [EncAsk.row_len]; rfl
 ·intro t h1 h2
  have h1' : t < l.length * 2 := by rw [size_flatK] at h1; simpa using h1
  have hg := get_flatK EncAsk.enc 2 l.toArray t (by simpa using h1')
  rw [getElem!_pos _ t h1] at hg
  rw [hg]
  have hi : t / 2 < l.length := by omega
  have hf := EncAsk.row_field (i := t / 2) (f := t % 2) (m := 1) [] hi (by show t % 2 + 1 ≤ 2; omega)
  have ht : t / 2 * EncAsk.k + t % 2 = t := by show t / 2 * 2 + t % 2 = t; omega
  rw [ht, List.append_nil] at hf
  have hl : t < (EncAsk.row l).length := by rw [EncAsk.row_len]; exact h1'
  have hl2 : t % 2 < (EncAsk.enc l[t / 2]).length := by rw [EncAsk.len]; show t % 2 < 2; omega
  rw [take1 hl, take1 hl2] at hf
  have hf : (EncAsk.row l)[t] = (EncAsk.enc l[t / 2])[t % 2] := by simpa using hf
  simp only [List.getElem_toArray]
  rw [hf]
  have e1 : l.toArray[t / 2]! = l[t / 2] := by rw [getElem!_pos _ _ (by simpa using hi)]; simp
  rw [e1]; exact getElem!_pos (EncAsk.enc l[t / 2]) (t % 2) hl2
theorem sortA_frm {h : PH} {w : World} (hi : h.In w) {b : Nat} {l l' : List (Int × Int)} {tail : List Value} {T : TypeId} (hb : h b = some (.cells (EncAsk.row l ++ tail).toArray T (0, 0))) (hl : l'.length = l.length) (m : Nat) (os : Array Obj) :
  Frm h w (h.upd b (.cells (EncAsk.row l' ++ tail).toArray T (0, 0))) (sortWorldK EncAsk.enc 2 w b 0 m l'.toArray os) := by
 have hw := hi _ _ hb
 have hheap : (sortWorldK EncAsk.enc 2 w b 0 m l'.toArray os).heap = w.heap.modify b (onCells (putCells id 0 (flatK EncAsk.enc 2 l'.toArray))) ++ os := rfl
 have hlt := hi.lt hb
 have hcell : (w.heap.modify b (onCells (putCells id 0 (flatK EncAsk.enc 2 l'.toArray))))[b]? = some (.cells (EncAsk.row l' ++ tail).toArray T (0, 0)) := by
  rw [Array.getElem?_modify, if_pos rfl, hw, Option.map_some]
  show some (Obj.cells (putCells id 0 (flatK EncAsk.enc 2 l'.toArray) (EncAsk.row l ++ tail).toArray) T (0, 0)) = _
  rw [flatA_row, putCells_row (by rw [EncAsk.row_len, EncAsk.row_len, hl])]
 have hold : ∀ x, x ≠ b → (w.heap.modify b (onCells (putCells id 0 (flatK EncAsk.enc 2 l'.toArray))))[x]? = w.heap[x]? := fun x hx => by
  rw [Array.getElem?_modify, if_neg (fun e => hx e.symm)]
 have happ : ∀ x, x < w.heap.size → (sortWorldK EncAsk.enc 2 w b 0 m l'.toArray os).heap[x]? = (w.heap.modify b (onCells (putCells id 0 (flatK EncAsk.enc 2 l'.toArray))))[x]? := fun x hx => by
  rw [hheap, Array.getElem?_append_left (by rw [Array.size_modify]; exact hx)]
 refine ⟨fun x o e => ?_, ?_, fun x hx e => ⟨?_, ?_⟩, rfl, rfl⟩
 ·by_cases hxb : x = b
  ·subst hxb
   rw [PH.upd_same] at e; cases e
   rw [happ _ hlt, hcell]
  ·rw [PH.upd_ne _ _ hxb] at e
   rw [happ _ (hi.lt e), hold x hxb, hi _ _ e]
 ·rw [hheap, Array.size_append, Array.size_modify]; omega
 ·rw [PH.upd_ne _ _ (fun hxb => by subst hxb; rw [hb] at e; cases e)]; exact e
 ·rw [happ _ hx, hold x (fun hxb => by subst hxb; rw [hb] at e; cases e)]
theorem holdsA_row {h : PH} {w : World} (hi : h.In w) {b : Nat} {l : List (Int × Int)} {tail : List Value} {T : TypeId} (hb : h b = some (.cells (EncAsk.row l ++ tail).toArray T (0, 0))) : HoldsK EncAsk.enc 2 w b 0 l.toArray := by
 intro j hj
 rw [size_flatK] at hj
 have hw := hi _ _ hb
 have hlen : (EncAsk.row l).length = l.length * 2 := EncAsk.row_len l
 have hj2 : j < (EncAsk.row l).length := by rw [hlen]; simpa using hj
 refine ⟨?_, ?_⟩
 ·rw [flatA_row, getElem!_pos _ j (by simpa using hj2)]
  simp only [World.cell?, hw, Nat.zero_add, id, List.getElem_toArray]
  rw [List.getElem?_toArray, List.getElem?_append_left hj2, List.getElem?_eq_getElem hj2]
  rfl
 ·simp [World.frozen?, hw]
theorem ext_allA {d d' : Array (Int × Int)} (h : PermIn 0 d.size d d') : d'.toList.Perm d.toList ∧ d'.size = d.size := by
 obtain ⟨h1, _, h2⟩ := h
 have e1 : d.extract 0 d.size = d := by simp
 have e2 : d'.extract 0 d.size = d' := by rw [← h1]; simp
 rw [e1, e2] at h2
 exact ⟨h2, h1⟩
theorem cSortA0 (L : SlLaysF0.n6 P ρ) (aE : ∀ w, (isAgg (ρ.t 24)).run P w = .ok true w) (zE : ∀ w, (Go.sizeOf (ρ.t 24)).run P w = .ok 2 w) (g : Nat) (eg : ∀ args w, (callFunc g args).run P w = .ok (.enter g args) w)
  (hless : ∀ (a0 a1 b0 b1 : Int) (w : World), Calls P g #[.agg #[.int .i64 a0, .int .i64 a1], .agg #[.int .i64 b0, .int .i64 b1]] w fun e w' => e = .returned (.int .i64 (cmpA (a0, a1) (b0, b1))) ∧ ∃ q os', w' = grow (w.drewN q) os')
  {B : List Nat} {h : PH} {K : Value → PH → Prop} {a : Option Addr} {n c : Nat} {l : List (Int × Int)} {T : TypeId} (x : Buf EncAsk T B h a n c l) (hn : l.length ≤ 1000000)
  (hk : ∀ l' h', l'.Perm l → (l'.Pairwise fun a b => ¬ ltA b a) → Buf EncAsk T B h' a n c l' → Chg B B h h' → K (.tuple #[]) h') : CallH P (ρ.f 6) [.slice a n c, .func (.func g) #[] #[]] K h := by
 intro w hi
 have hnl := x.1
 by_cases h0 : l = []
 ·subst h0
  have hn0 : n = 0 := hnl
  subst hn0
  refine Calls.mono (AnyF.slices_SortFunc_none L a c (.func (.func g) #[] #[]) w) ?_
  rintro e w' ⟨rfl, rfl⟩
  exact ⟨_, h, rfl, hk [] h (List.Perm.refl _) List.Pairwise.nil x (Chg.refl _ _), Frm.refl hi⟩
 ·have hx := x
  obtain ⟨_, ⟨_, _, e⟩ | ⟨b, tail, rfl, rfl, hb, ht, hle⟩⟩ := x
  ·exact absurd e h0
  have hc : CmpLays P g #[] EncAsk.enc 2 cmpA b 0 l.toArray.size w := fun m os dk _ x y => hless _ _ _ _ _
  have hS := AnyQ.slices_SortFunc L 2 aE zE EncAsk.enc (fun _ => rfl) (fun x v hv => by
   simp only [EncAsk, askC, List.mem_cons, List.not_mem_nil, or_false] at hv
   rcases hv with rfl | rfl <;> rfl) cmpA swoA g #[] b 0 c l.toArray w eg hc (holdsA_row hi hb) (hi.lt hb) (by simp; omega)
  have hsz : l.toArray.size = n := by simp [hnl]
  rw [hsz] at hS
  refine Calls.mono hS ?_
  rintro e w' ⟨rfl, d', m, os, hp, hs, rfl⟩
  rw [← hsz] at hp hs
  obtain ⟨hp1, hp2⟩ := ext_allA hp
  have hl' : d'.toList.length = l.length := by rw [Array.length_toList, hp2]; simp
  have hfrm := sortA_frm hi hb hl' m os
  rw [Array.toArray_toList] at hfrm
  refine ⟨_, _, rfl, hk d'.toList _ (by simpa using hp1) ?_ ⟨by rw [hl']; exact hnl, .inr ⟨b, tail, rfl, rfl, PH.upd_same _ _ _, ht, hle⟩⟩ (Chg.upd _), hfrm⟩
  rw [List.pairwise_iff_getElem]
  intro i j hi' hj' hij
  have := hs i j (Nat.zero_le _) hij (by rw [← hp2]; simpa using hj')
  rw [cmpA_lt, getElem!_pos d' j (by simpa using hj'), getElem!_pos d' i (by simpa using hi')] at this
  simpa using this
end
end TL

namespace TL
open Go Go.Proofs Go.Shelf Go.RowKit Go.Lib Go.Sort Go.Maps
theorem cSortA {B : List Nat} {h : PH} {K : Value → PH → Prop} {a : Option Addr} {n c : Nat} {l : List (Int × Int)} {T : TypeId} (x : Buf EncAsk T B h a n c l) (hn : l.length ≤ 1000000)
  (hk : ∀ l' h', l'.Perm l → (l'.Pairwise fun a b => ¬ ltA b a) → Buf EncAsk T B h' a n c l' → Chg B B h h' → K (.tuple #[]) h') : CallH Tryz.prog 150 [.slice a n c, .func (.func 116) #[] #[]] K h :=
 cSortA0 Tryz.srtB Tryz.isAgg79 Tryz.sizeOf79 116 (enters_of Tryz.func116 (by kernel_rfl) rfl) walkAsk x hn hk
theorem frm_below {h : PH} {w w' : World} (hi : h.In w) (hb : Below w.heap.size w w') : Frm h w h w' :=
 ⟨fun b _ e => (hb.block b (hi.lt e)).trans (hi _ _ e), hb.size, fun b hlt e => ⟨e, hb.block b hlt⟩, hb.os, hb.output⟩
theorem frm_new {h : PH} {w w' : World} (hi : h.In w) (hb : Below w.heap.size w w') {g : Nat} (hg : w.heap.size ≤ g) {o : Obj} (ho : w'.heap[g]? = some o) : Frm h w (h.upd g o) w' ∧ h g = none := by
 have hn : h g = none := by
  cases e : h g with
  | none => rfl
  | some o => have := hi.lt e; omega
 refine ⟨⟨fun b o' e => ?_, hb.size, fun b hlt e => ⟨?_, hb.block b hlt⟩, hb.os, hb.output⟩, hn⟩
 ·by_cases hbg : b = g
  ·subst hbg; rw [PH.upd_same] at e; cases e; exact ho
  ·rw [PH.upd_ne _ _ hbg] at e; exact (hb.block b (hi.lt e)).trans (hi _ _ e)
 ·rw [PH.upd_ne _ _ (by omega)]; exact e
theorem flat_askC (l : List (Int × Int)) : EncAsk.row l = l.flatMap askC := rfl
def SortedIn' (h : PH) (w : World) (ss : List (Int × Int)) (v : Value) (w'' : World) : Prop :=
 ∃ (l : List (Int × Int)) (a' : Option Addr) (c' : Nat) (B' : List Nat) (h' : PH), l.Perm ss ∧ (l.Pairwise fun a b => ¬ ltA b a) ∧ v = .slice a' l.length c' ∧ Buf EncAsk 79 B' h' a' l.length c' l ∧ Chg [] B' h h' ∧ Frm h w h' w''
theorem sortStep {h : PH} {w w' : World} (hi : h.In w) (hb : Below w.heap.size w w') {v : Value} {ss : List (Int × Int)} (hrow : w'.ownsRow w.heap.size 79 2 v ss.length (ss.flatMap askC)) (hn : ss.length ≤ 1000000) (n : Nat) :
  CallsIn Fence.wide n Tryz.prog 150 #[v, .func (.func 116) #[] #[]] w' fun e w'' => e = .returned (.tuple #[]) ∧ SortedIn' h w ss v w'' := by
 refine callsIn_wide.2 ?_
 rcases hrow.2 with ⟨rfl, h0⟩ | ⟨g, cap, cur, rfl, hg, hgb, h1, h2, h3, h4⟩
 ·have h0 : ss = [] := List.length_eq_zero_iff.1 h0
  subst h0
  have hf := frm_below hi hb
  refine Calls.mono (cSortA (K := fun v' h' => v' = .tuple #[] ∧ ∃ l', l'.Perm [] ∧ Buf EncAsk 79 [] h' none 0 0 l' ∧ Chg [] [] h h') (Buf.nil EncAsk 79 h none) (Nat.zero_le _) (fun l' h' hp _ hB hc => ⟨rfl, l', hp, hB, hc⟩) w' hf.inn) ?_
  rintro e w'' ⟨_, h', rfl, ⟨rfl, l', hp, hB, hc⟩, hf2⟩
  have hl : l' = [] := List.Perm.eq_nil hp
  subst hl
  exact ⟨rfl, [], none, 0, [], h', List.Perm.refl _, List.Pairwise.nil, rfl, hB, hc, hf.trans hf2⟩
 ·obtain ⟨hf, hno⟩ := frm_new hi hb hg hgb
  have hcur : cur.toList = ss.flatMap askC ++ cur.toList.drop (ss.length * 2) := by rw [← h4, List.take_append_drop]
  have hB : Buf EncAsk 79 [g] (h.upd g (.cells cur 79 (0, 0))) (some ⟨g, 0, none⟩) ss.length cap ss := by
   refine ⟨rfl, .inr ⟨g, cur.toList.drop (ss.length * 2), rfl, rfl, ?_, ?_, h1⟩⟩
   ·rw [PH.upd_same, flat_askC, ← hcur]
   ·rw [List.length_drop, Array.length_toList, h3, Nat.sub_mul]; rfl
  refine Calls.mono (cSortA (K := fun v' h' => v' = .tuple #[] ∧ ∃ l', l'.Perm ss ∧ (l'.Pairwise fun a b => ¬ ltA b a) ∧ Buf EncAsk 79 [g] h' (some ⟨g, 0, none⟩) ss.length cap l' ∧ Chg [g] [g] (h.upd g (.cells cur 79 (0, 0))) h') hB hn (fun l' h' hp hs hB hc => ⟨rfl, l', hp, hs, hB, hc⟩) w' hf.inn) ?_
  rintro e w'' ⟨_, h', rfl, ⟨rfl, l', hp, hs, hB', hc⟩, hf2⟩
  have hl := hp.length_eq
  exact ⟨rfl, l', _, cap, [g], h', hp, hs, by rw [hl], by rw [hl]; exact hB', (Chg.new _ hno).trans hc, hf.trans hf2⟩
set_option maxRecDepth 100000 in
set_option maxHeartbeats 1000000 in
theorem cSortedA {h : PH} {K : Value → PH → Prop} {bm r c : Nat} {es : List MapEntry} (hbm : h bm = some (.cells #[.map (some r)] 184 (0, 0))) (hr : h r = some (.map es.toArray c)) (hkey : ∀ e ∈ es, ∃ x, e.key = keyV x) (hold : ∀ e ∈ es, e.born < c)
  (hnd : (es.map (·.born)).Nodup) (hn : es.length ≤ 1000)
  (hk : ∀ (l : List (Int × Int)) a' c' B' h', (l.map keyV).Perm (es.map (·.key)) → (l.Pairwise fun a b => ¬ ltA b a) → Buf EncAsk 79 B' h' a' l.length c' l → Chg [] B' h h' → K (.slice a' l.length c') h') :
  CallH Tryz.prog 114 [.func (.func 151) #[] #[.pointer (some ⟨bm, 0, none⟩)], .func (.func 116) #[] #[]] K h := by
 intro w hi
 have hwm := hi _ _ hbm
 have hwr := hi _ _ hr
 have hseq : SeqGives Fence.wide 3 Tryz.prog 151 #[.pointer (some ⟨bm, 0, none⟩)] keyV (fun ss => (ss.map keyV).Perm (es.map (·.key))) es.length w :=
  keysAsk_gives Fence.wide 3 trivial rfl (by omega) bm r es.toArray c hkey hold hnd w (hi.lt hbm) (by simp [World.cell?, hwm]) hwr
 have hmax : es.length ≤ maxLen := by unfold maxLen; omega
 have hf1 : Fence.wide.fn 149 := trivial
 have hf2 : Fence.wide.fn 150 := trivial
 refine (callsIn_wide (n := 6)).1 ?_
 refine callsIn_of_wp Tryz.func114 rfl trivial ?_ rfl
 simp only [Tryz.ntmps114, List.size_toArray, List.length_cons, List.length_nil, Nat.reduceAdd, Nat.reduceSub, Array.replicate_succ, Array.replicate_zero, List.push_toArray, List.append_toArray, List.nil_append, List.cons_append]
 gi_wp2_with (first
  | (gi_at_call 149; refine (ask_collect_in Fence.wide 5 trivial trivial rfl (by omega) 151 _ trivial (enters_of Tryz.func151 (by kernel_rfl) rfl) _ es.length hmax (by omega) _ hseq).mono ?_; rintro e w' ⟨v, ss, rfl, hS, hrow, hnil, hb⟩)
  | (gi_at_call 150; refine (sortStep hi hb hrow (by have := hS.length_eq; simp at this; omega) 5).mono ?_; rintro e w'' ⟨rfl, hpost⟩))
 obtain ⟨l, a', c', B', h', hp, hs, rfl, hB, hc, hf⟩ := hpost
 go_ret
 exact ⟨_, h', rfl, hk l a' c' B' h' ((hp.map keyV).trans hS) hs hB hc, hf⟩
end TL

namespace TL
open Go
variable {P : Program} {f : FuncId} {args : List Value} {K K' : Value → PH → Prop} {g h : PH} {N : List Nat}
theorem CallH.frame {hs : PH} (s : hs.Sub h) (x : CallH P f args K hs) (hk : ∀ v h' H, K v h' → h'.Sub H → (∀ b o, h b = some o → hs b = none → h' b = none ∧ H b = some o) → K' v H) : CallH P f args K' h := by
 intro w hi
 refine Calls.mono (x w fun b o e => hi b o (s b o e)) ?_
 rintro e w' ⟨v, h', rfl, hK, fr⟩
 have hold : ∀ b o, h b = some o → hs b = none → h' b = none ∧ w'.heap[b]? = some o := fun b o e1 e2 => by
  obtain ⟨a1, a2⟩ := fr.old b (hi.lt e1) e2
  exact ⟨a1, a2.trans (hi b o e1)⟩
 refine ⟨v, fun b => match h' b with
  | some o => some o
  | none => if (hs b).isSome then none else h b, rfl, hk v h' _ hK (fun b o e => by simp [e]) (fun b o e1 e2 => ?_), fun b o e1 => ?_, fr.size, fun b hb e1 => ?_, fr.os, fr.out⟩
 ·obtain ⟨a1, _⟩ := hold b o e1 e2
  exact ⟨a1, by simp [a1, e2, e1]⟩
 ·cases e2 : h' b with
  | some o' =>
   simp only [e2] at e1; cases e1
   exact fr.inn b _ e2
  | none =>
   simp only [e2] at e1
   cases e3 : hs b with
   | some o' => simp [e3] at e1
   | none =>
    simp only [e3, Option.isSome_none, Bool.false_eq_true, if_false] at e1
    exact (hold b o e1 e3).2
 ·have e3 : hs b = none := by
   cases e : hs b with
   | none => rfl
   | some o => rw [s b o e] at e1; cases e1
  obtain ⟨a1, a2⟩ := fr.old b hb e3
  exact ⟨by simp [a1, e3, e1], a2⟩
theorem Spl.call (s : Spl g N h) (x : CallH P f args K g) (hk : ∀ v g' H, K v g' → (g.Sub g' → Stp g N h g' N H ∧ ∀ b ∈ N, ∀ o, h b = some o → H b = some o) → K' v H) : CallH P f args K' h := by
 refine x.frame s.sub fun v g' H hK hs ho => hk v g' H hK fun hgg => ⟨?_, fun b hb o e => (ho b o e (s.av b hb)).2⟩
 refine ⟨⟨fun b o _ e => ?_, fun b hb => .inl hb⟩, hgg, fun b _ hh e => ?_, hs, fun b hb => ?_, fun b hb => ?_⟩
 ·cases eg : g b with
  | none => exact (ho b o e eg).2
  | some o' =>
   have := s.sub b o' eg
   rw [this] at e; cases e
   exact hs b _ (hgg b _ eg)
 ·obtain ⟨o, ho'⟩ := hh
  exact (ho b o ho' e).1
 ·obtain ⟨o, ho'⟩ := s.has b hb
  exact (ho b o ho' (s.av b hb)).1
 ·obtain ⟨o, ho'⟩ := s.has b hb
  exact ⟨o, (ho b o ho' (s.av b hb)).2⟩
theorem Spl.chg0 {g0 : PH} (s : Spl g N h) (s0 : g0.Sub g) : Chg [] N g0 h := ⟨fun b o _ e => s.sub b o (s0 b o e), fun b hb => .inr (by
 cases e : g0 b with
 | none => rfl
 | some o => have := s0 b o e; rw [s.av b hb] at this; cases this)⟩
theorem Spl.of0 {g0 : PH} (c : Chg [] N g0 h) (hh : Has N h) : Spl g0 N h := ⟨c.sub0, fun b hb => by
 rcases c.2 b hb with h1 | h1
 ·cases h1
 ·exact h1, hh⟩
theorem Stp.same {g' h' : PH} {N' : List Nat} (x : Stp g N h g' N' h') {b : Nat} {o : Obj} (e : h b = some o) (hb : b ∉ N) : h' b = some o := x.chg.keep e hb
end TL

namespace TL
open Go Go.Proofs
variable {B : List Nat} {h : PH} {K : Value → PH → Prop}
variable {oA : Option Addr} {oC : Nat} {ops : List OpR}
variable {pA : Option Addr} {pC : Nat} {prs : List PrR}
theorem cGreatPairs (hl : SR EncPr h pA prs) (hk : K (.bool (gPrs prs)) h) : CallH Tryz.prog id_law13_GreatPairs [.slice pA prs.length pC] K h := by
 refine F_law13_GreatPairs_ok ⟨fun e => ?_, fun e => ?_⟩
 ·have e : 200 < prs.length := by simp at e; omega
  simpa [gPrs, e] using hk
 ·have e0 : ¬ 200 < prs.length := by simp at e; omega
  refine LoopP.ind (fun (z : Int × Unit) h' => h' = h ∧ (0 ≤ z.1 ∧ z.1 ≤ prs.length) ∧ ∀ j : Nat, (hj : j < prs.length) → (j : Int) < z.1 → (decide (1000 < prs[j].p.length) || decide (1000 < prs[j].v.length)) = false) (fun z _ => (prs.length - z.1).toNat) ?_ ⟨rfl, ⟨by decide, by show (0 : Int) ≤ _; omega⟩, fun j _ hj => by simp only at hj; omega⟩
  rintro ⟨i, u⟩ h1 ⟨rfl, ⟨i0, i1⟩, ha⟩
  dsimp only at i0 i1 ha ⊢
  refine ⟨fun e => ?_, fun e => ?_⟩
  ·have e : i < prs.length := by simpa using e
   have hit : i.toNat < prs.length := by omega
   obtain ⟨b, o, hA, hr⟩ := hl.get hit
   have s1 : (decide (((mk prs[i.toNat].p).size : Int) > (1000 : Int)) || decide (((mk prs[i.toNat].v).size : Int) > (1000 : Int))) = (decide (1000 < prs[i.toNat].p.length) || decide (1000 < prs[i.toNat].v.length)) := by
    rw [size_mk, size_mk]
    congr 1 <;> (rw [decide_eq_decide]; omega)
   refine ⟨b, o, ⟨hA, i0, e⟩, _, hr _ 0 1 rfl (by decide), b, o, fun _ => ⟨hA, i0, e⟩, _, fun _ => hr _ 1 1 rfl (by decide), fun e2 => ?_, fun e2 => ?_⟩
   ·rw [s1] at e2
    have : gPrs prs = true := by
     simp only [gPrs, Bool.or_eq_true, List.any_eq_true]
     exact .inr ⟨_, List.getElem_mem hit, by simpa using e2⟩
    rw [this] at hk; exact hk
   ·rw [s1] at e2
    rw [wrap64 (n := i + 1) (by omega) (by omega)]
    refine ⟨⟨rfl, ⟨by omega, by omega⟩, fun j hj hji => ?_⟩, by omega⟩
    by_cases hji2 : (j : Int) < i
    ·exact ha j hj hji2
    ·have : j = i.toNat := by omega
     subst this; exact e2
  ·have e : i = prs.length := by simp at e; omega
   have : gPrs prs = false := by
    simp only [gPrs, Bool.or_eq_false_iff, List.any_eq_false]
    refine ⟨by simpa using e0, fun o ho => ?_⟩
    obtain ⟨j, hj, rfl⟩ := List.getElem_of_mem ho
    have := ha j hj (by omega)
    simpa using this
   rw [this] at hk; exact hk
variable {rA eA : Option Addr} {rC eN eC : Nat} {rows : List OsR} {i0 i1 : Int}
end TL

namespace TL
open Go Go.Proofs
def F_ship_Ship_Texts (sv : Option Addr) (K : Value → PH → Prop) (h : PH) : Prop :=
 (((Option.isNone sv) = true →
 K (.slice none 0 0) h) ∧
 ((Option.isNone sv) = false →
 ∃ bv ov : Nat, sv = some ⟨bv, ov, none⟩ ∧
 ∃ (tA : Option Addr) (tN tC : Nat), (h.rds bv (ov + 2) 1 = some [.slice tA tN tC]) ∧
 CallH Tryz.prog id_slices_Clone_string_string [.slice tA tN tC] (fun v h1 =>
 ∃ (tA_1 : Option Addr) (tN_1 tC_1 : Nat), v = .slice tA_1 tN_1 tC_1 ∧
 K (.slice tA_1 tN_1 tC_1) h1) h))
theorem F_ship_Ship_Texts_ok {sv : Option Addr}  {K : Value → PH → Prop} {h : PH} (hh : F_ship_Ship_Texts sv K h) : CallH Tryz.prog id_ship_Ship_Texts [.pointer sv] K h :=
 denF_sound' Tryz.func48 (H := ⟨[], [], [], []⟩) (xs := [.v (.pointer sv)]) (by kernel_rfl) (⟨rfl, trivial⟩) (den_of (by kernel_rfl) hh)
end TL

namespace TL
open Go Go.Proofs
variable {B : List Nat} {h : PH} {K : Value → PH → Prop}
variable {oA : Option Addr} {oC : Nat} {ops : List OpR}
variable {pA : Option Addr} {pC : Nat} {prs : List PrR}
variable {rA eA : Option Addr} {rC eN eC : Nat} {rows : List OsR} {i0 i1 : Int}
def EncI : Enc Int where
 enc n := [.int .i64 n]
 k := 1
 len _ := rfl
 one o v hv := by
  simp only [List.mem_cons, List.not_mem_nil, or_false] at hv
  rcases hv with rfl; rfl
 pos := by decide
structure BtR where
 ix : Int
 ep : Int
 a : Option Addr
 c : Nat
 ops : List OpR
def EncBt : Enc BtR where
 enc r := [.int .i64 r.ix, .int .i64 r.ep, .slice r.a r.ops.length r.c]
 k := 3
 len _ := rfl
 one o v hv := by
  simp only [List.mem_cons, List.not_mem_nil, or_false] at hv
  rcases hv with rfl | rfl | rfl <;> rfl
 pos := by decide
variable {pN : Nat} {eps : List Int}
end TL

namespace TL
open Go Go.Proofs
structure MsgA where
 kd : Int
 ep : Int
 at_ : Int
 ae : Int
 ix : Int
 be : Int
 ops : List OpR
 prev : Int
 root : H32
 lv : Int
 ii : Int
 left : H32
 right : H32
 prs : List PrR
 deriving DecidableEq
def zeroH : H32 := ⟨List.replicate 32 0, by simp⟩
def msg0 : MsgA := ⟨0, 0, 0, 0, 0, 0, [], 0, zeroH, 0, 0, zeroH, zeroH, []⟩
structure MsgF where
 m : MsgA
 oA : Option Addr
 oC : Nat
 pA : Option Addr
 pC : Nat
def hv (x : H32) : List Value := (bi x.1).map (Value.int .u8)
theorem hv_len (x : H32) : (hv x).length = 32 := by rw [hv, List.length_map, bi_len, x.2]
theorem hv_one (x : H32) : ∀ v ∈ hv x, one1 v = true := fun v h => by
 obtain ⟨n, _, rfl⟩ := List.mem_map.1 h
 rfl
def encMsg (f : MsgF) : List Value := .int .u8 f.m.kd :: (.int .i64 f.m.ep :: (.int .i64 f.m.at_ :: (.int .i64 f.m.ae :: (.int .i64 f.m.ix :: (.int .i64 f.m.be :: (.slice f.oA f.m.ops.length f.oC :: (.int .i64 f.m.prev :: (hv f.m.root ++ (.int .i64 f.m.lv :: (.int .i64 f.m.ii :: (hv f.m.left ++ (hv f.m.right ++ [.slice f.pA f.m.prs.length f.pC]))))))))))))
def EncMsg : Enc MsgF where
 enc := encMsg
 k := 107
 len f := by simp [encMsg, hv_len]
 one f v h := by
  simp only [encMsg, List.mem_cons, List.mem_append, List.not_mem_nil, or_false] at h
  rcases h with rfl | rfl | rfl | rfl | rfl | rfl | rfl | rfl | h | rfl | rfl | h | h | rfl
  all_goals first | rfl | exact hv_one _ _ h
 pos := by decide
structure VwR where
 ep : Int
 at_ : Int
 ae : Int
 bA : Option Addr
 bC : Nat
 bs : List BtR
 pv : Int
 pA : Option Addr
 pC : Nat
 prs : List PrR
structure VwOk (h : PH) (v : VwR) : Prop where
 bts : SR EncBt h v.bA v.bs
 n : v.bs.length ≤ 1000
 ix : ∀ b ∈ v.bs, 0 ≤ b.ix ∧ b.ix ≤ 1000000
 ops : ∀ b ∈ v.bs, SR EncOp h b.a b.ops ∧ b.ops.length ≤ 1000
 prs : SR EncPr h v.pA v.prs
 pn : v.prs.length ≤ 1000
 pl : ∀ x ∈ v.prs, x.p.length ≤ 1000000
theorem VwOk.sub {h g : PH} {v : VwR} (x : VwOk h v) (s : h.Sub g) : VwOk g v := ⟨x.bts.sub s, x.n, x.ix, fun b hb => ⟨(x.ops b hb).1.sub s, (x.ops b hb).2⟩, x.prs.sub s, x.pn, x.pl⟩
structure ShS where
 ack : Option (Int × Int)
 shot : Option (Int × Int × List PrR)
 texts : List (List UInt8)
def needV (s : ShS) (v : VwR) (a : Int) : Prop := match s.shot with
 | none => True
 | some (x, _, _) => (x ≤ a ∧ x < v.at_) ∨ (x ≤ 9223372036854775743 ∧ v.at_ > x + 64)
instance (s : ShS) (v : VwR) (a : Int) : Decidable (needV s v a) := by
 unfold needV
 cases s.shot with
 | none => exact inferInstanceAs (Decidable True)
 | some q => obtain ⟨x, y, z⟩ := q; exact inferInstanceAs (Decidable (_ ∨ _))
def ackAt (g : PH) (p : Option Addr) (a : Option (Int × Int)) : Prop := match a with
 | none => p = none
 | some (x, y) => ∃ b T fr, p = some ⟨b, 0, none⟩ ∧ g b = some (.cells ([.int .i64 x, .int .i64 y] : List Value).toArray T fr)
def shotAt (g : PH) (p : Option Addr) (a : Option (Int × Int × List PrR)) : Prop := match a with
 | none => p = none
 | some (x, y, S) => ∃ b t T fr, p = some ⟨b, 0, none⟩ ∧ g b = some (.cells ([.int .i64 x, .int .i64 y, .pointer (some ⟨t, 0, none⟩)] : List Value).toArray T fr) ∧ Tr t g S
structure ShipAt (g : PH) (N : List Nat) (h : PH) (sb : Nat) (s : ShS) : Prop where
 mem : ∃ pa ps tA tN tC Bt, N = sb :: Bt ∧ sb ∉ Bt ∧ h sb = some (.cells ([.pointer pa, .pointer ps, .slice tA tN tC] : List Value).toArray T_ship_Ship (0, 0)) ∧ Buf EncS 9 Bt h tA tN tC s.texts ∧ ackAt g pa s.ack ∧ shotAt g ps s.shot
 sh : ∀ x y S, s.shot = some (x, y, S) → -9223372036854775808 ≤ x ∧ x ≤ 9223372036854775807
end TL

namespace TL
open Go
variable {g g' g'' h h' h'' : PH} {N N' N'' M M' B C : List Nat}
theorem Stp.less (x : Stp g N h g' N' h') (hs : ∀ b ∈ M, b ∈ N') : Stp g N h g' M h' :=
 ⟨⟨x.chg.1, fun b hb => x.chg.2 b (hs b hb)⟩, x.gs, x.gn, x.spl.sub, fun b hb => x.spl.av b (hs b hb), fun b hb => x.spl.has b (hs b hb)⟩
theorem Spl.less (x : Spl g N h) (hs : ∀ b ∈ M, b ∈ N) : Spl g M h := ⟨x.sub, fun b hb => x.av b (hs b hb), fun b hb => x.has b (hs b hb)⟩
theorem Spl.freeze (s : Spl g (B ++ N) h) (d : Dj B N) : Stp g (B ++ N) h (PH.plus g h B) N h := by
 refine ⟨⟨fun b o _ e => e, fun b hb => .inl (List.mem_append_right _ hb)⟩, fun b o e => ?_, fun b hb _ e => ?_, fun b o e => ?_, fun b hb => ?_, s.right.has⟩
 ·rw [plus_out (fun hb => by rw [s.left.av b hb] at e; cases e)]; exact e
 ·rw [plus_out (fun h1 => hb (List.mem_append_left _ h1))]; exact e
 ·by_cases hb : b ∈ B
  ·rw [plus_in hb] at e; exact e
  ·rw [plus_out hb] at e; exact s.sub b o e
 ·rw [plus_out (fun h1 => d b h1 hb)]; exact s.right.av b hb
theorem Dj.new (hN : Has N h) (c : Chg [] B h h') : Dj B N := fun b hb hm => by
 obtain ⟨o, ho⟩ := hN b hm
 rcases c.2 b hb with h1 | h1
 ·cases h1
 ·rw [ho] at h1; cases h1
theorem Dj.chg (d : Dj B N) (hN : Has N h) (c : Chg B C h h') : Dj C N := fun b hb hm => by
 rcases c.2 b hb with h1 | h1
 ·exact d b h1 hm
 ·obtain ⟨o, ho⟩ := hN b hm; rw [ho] at h1; cases h1
theorem Dj.app {A B C : List Nat} (x : Dj A C) (y : Dj B C) : Dj (A ++ B) C := fun b hb => by
 rcases List.mem_append.1 hb with hb | hb
 ·exact x b hb
 ·exact y b hb
theorem Dj.l {A B C : List Nat} (x : Dj (A ++ B) C) : Dj A C := fun b hb => x b (List.mem_append_left _ hb)
theorem Dj.r {A B C : List Nat} (x : Dj (A ++ B) C) : Dj B C := fun b hb => x b (List.mem_append_right _ hb)
theorem Has.app {A B : List Nat} (x : Has A h) (y : Has B h) : Has (A ++ B) h := fun b hb => by
 rcases List.mem_append.1 hb with hb | hb
 ·exact x b hb
 ·exact y b hb
theorem Has.sub (x : Has N h) (s : h.Sub h') : Has N h' := fun b hb => by
 obtain ⟨o, ho⟩ := x b hb; exact ⟨o, s b o ho⟩
theorem Spl.part (s : Spl g (B ++ N) h) (d : Dj B N) (c : Chg B C h h') (hh : Has C h') : Stp g (B ++ N) h g (C ++ N) h' :=
 s.chg c.left (hh.app fun b hb => by
  obtain ⟨o, ho⟩ := s.right.has b hb
  exact ⟨o, c.keep ho fun h1 => d b h1 hb⟩)
end TL

namespace TL
open Go Go.Proofs
variable {g h : PH} {N : List Nat} {K : Value → PH → Prop} {sb : Nat} {s : ShS} {v : VwR} {lA : Option Addr} {lC : Nat}
theorem cCloneStr {l : List (List UInt8)} (x : SR EncS h lA l) (hn : l.length ≤ 1000000) (hk : ∀ a' c' B' h', Buf EncS 9 B' h' a' l.length c' l → Chg [] B' h h' → K (.slice a' l.length c') h') : CallH Tryz.prog id_slices_Clone_string_string [.slice lA l.length lC] K h :=
 F_slices_Clone_string_string_ok (CloneF_ok (E := EncS) (sC := lC) (bt := 16) (z := [.string (⟨#[]⟩ : ByteArray)]) x rfl (by omega) hk)
abbrev VwR.val (v : VwR) : Value := .agg #[.int .i64 v.ep, .int .i64 v.at_, .int .i64 v.ae, .slice v.bA v.bs.length v.bC, .int .i64 v.pv, .slice v.pA v.prs.length v.pC]
inductive OpsAt (h : PH) : List Nat → List MsgF → Prop
 | nil : OpsAt h [] []
 | cons {f : MsgF} {Be Bs : List Nat} {L : List MsgF} : Buf EncOp T_api_Op Be h f.oA f.m.ops.length f.oC f.m.ops → Dj Be Bs → OpsAt h Bs L → OpsAt h (Be ++ Bs) (f :: L)
theorem OpsAt.keep {h' : PH} : ∀ {Bs : List Nat} {L : List MsgF}, OpsAt h Bs L → (∀ b ∈ Bs, ∀ o, h b = some o → h' b = some o) → OpsAt h' Bs L
 | _, _, .nil, _ => .nil
 | _, _, .cons e1 e2 e3, hk => .cons (e1.keep fun b hb => hk b (List.mem_append_left _ hb)) e2 (e3.keep fun b hb => hk b (List.mem_append_right _ hb))
theorem OpsAt.has : ∀ {Bs : List Nat} {L : List MsgF}, OpsAt h Bs L → Has Bs h
 | _, _, .nil => fun _ hb => by cases hb
 | _, _, .cons e1 _ e3 => e1.has.app e3.has
theorem OpsAt.all : ∀ {Bs : List Nat} {L : List MsgF}, OpsAt h Bs L → ∀ f ∈ L, SR EncOp h f.oA f.m.ops
 | _, _, .nil => fun _ hf => by cases hf
 | _, _, .cons e1 _ e3 => fun f hf => by
  rcases List.mem_cons.1 hf with rfl | hf
  ·exact e1.sr
  ·exact e3.all f hf
def Msgs (B : List Nat) (h : PH) (a : Option Addr) (c : Nat) (L : List MsgF) : Prop := ∃ B0 Bs, B = B0 ++ Bs ∧ Buf EncMsg T_api_Msg B0 h a L.length c L ∧ OpsAt h Bs L ∧ Dj B0 Bs ∧ ∀ f ∈ L, f.m.prs = [] ∧ f.m.ops.length ≤ 1000
theorem Msgs.has {B : List Nat} {a : Option Addr} {c : Nat} {L : List MsgF} (x : Msgs B h a c L) : Has B h := by
 obtain ⟨B0, Bs, rfl, h1, h2, _⟩ := x
 exact h1.has.app h2.has
theorem hv_zero : hv zeroH = (List.replicate 32 (0 : Int)).map (Value.int .u8) := by simp [hv, zeroH, bi]
def fOf (m : MsgA) (a : Option Addr) (c : Nat) : MsgF := ⟨m, a, c, none, 0⟩
end TL

namespace TL
open Go Go.Proofs
variable {g h : PH} {N : List Nat} {K : Value → PH → Prop} {sb : Nat} {s : ShS} {v : VwR} {lA : Option Addr} {lC : Nat}
abbrev mV (m0 m1 m2 m3 m4 m5 : Int) (m6A : Option Addr) (m6N m6C : Nat) (m7 : Int) (m8 : List Int) (m9 m10 : Int) (m11 m12 : List Int) (m13A : Option Addr) (m13N m13C : Nat) : Value :=
 .agg ((.int .u8 m0 :: (.int .i64 m1 :: (.int .i64 m2 :: (.int .i64 m3 :: (.int .i64 m4 :: (.int .i64 m5 :: (.slice m6A m6N m6C :: (.int .i64 m7 :: (m8.map (Value.int .u8) ++ (.int .i64 m9 :: (.int .i64 m10 :: (m11.map (Value.int .u8) ++ (m12.map (Value.int .u8) ++ ([.slice m13A m13N m13C] : List Value))))))))))))))).toArray
theorem ackAt.sub {g' : PH} {p : Option Addr} {a : Option (Int × Int)} (x : ackAt g p a) (hs : g.Sub g') : ackAt g' p a := by
 unfold ackAt at x ⊢
 split at x
 ·exact x
 ·obtain ⟨b, T, fr, h1, h2⟩ := x
  exact ⟨b, T, fr, h1, hs _ _ h2⟩
theorem shotAt.sub {g' : PH} {p : Option Addr} {a : Option (Int × Int × List PrR)} (x : shotAt g p a) (hs : g.Sub g') : shotAt g' p a := by
 unfold shotAt at x ⊢
 split at x
 ·exact x
 ·obtain ⟨b, t, T, fr, h1, h2, h3⟩ := x
  exact ⟨b, t, T, fr, h1, hs _ _ h2, h3.sub hs⟩
theorem ShipAt.keep {g' h' : PH} (x : ShipAt g N h sb s) (hs : g.Sub g') (hk : ∀ b ∈ N, ∀ o, h b = some o → h' b = some o) : ShipAt g' N h' sb s := by
 obtain ⟨⟨pa, ps, tA, tN, tC, Bt, rfl, nB, hb, hbuf, ha, hsh⟩, hr⟩ := x
 exact ⟨⟨pa, ps, tA, tN, tC, Bt, rfl, nB, hk _ (by simp) _ hb, hbuf.keep fun b hb' => hk b (List.mem_cons_of_mem _ hb'), ha.sub hs, hsh.sub hs⟩, hr⟩
theorem ShipAt.stp {M M' : List Nat} {g' h' : PH} (x : ShipAt g N h sb s) (t : Stp g M h g' M' h') (d : Dj N M) : ShipAt g' N h' sb s :=
 x.keep t.gs fun b hb _ e => t.chg.keep e (d b hb)
theorem has1 {b : Nat} {o : Obj} (e : h b = some o) : Has [b] h := fun x hx => by
 rw [List.mem_singleton] at hx; subst hx; exact ⟨o, e⟩
section
variable {m0 m1 m2 m3 m4 m5 m7 m9 m10 : Int} {m6A m13A : Option Addr} {m6N m6C m13N m13C : Nat} {m8 m11 m12 : List Int}
end
theorem cOf3 {h : PH} {K : Value → PH → Prop} {l : List PrR} (hl : SR EncPr h lA l) (hn : l.length ≤ 1000) (hs : ∀ x ∈ l, x.p.length ≤ 1000000)
  (h1 : mayB l = true ∧ l.length ≤ 48 → ∀ b h', Tr b h' l → h b = none → Chg [] [b] h h' → K (.tuple #[.pointer (some ⟨b, 0, none⟩), .int .i64 (0 : Int)]) h')
  (h2 : ¬ (mayB l = true ∧ l.length ≤ 48) → ∀ e : Int, (e = 1 ∨ e = 6) → (e = 1 ↔ mayB l = false) → K (.tuple #[.pointer none, .int .i64 e]) h) : CallH Tryz.prog id_tree_Of [.slice lA l.length lC] K h := by
 by_cases hm : mayB l = true
 ·by_cases h48 : l.length ≤ 48
  ·exact cOfT hl hm h48 (h1 ⟨hm, h48⟩)
  ·exact F_tree_Of_ok (cMay hl (by omega) hs ⟨_, rfl, fun e => (by rw [hm] at e; cases e), fun _ => ⟨fun _ => h2 (fun hh => h48 hh.2) 6 (.inr rfl) ⟨fun e => (by omega), fun e => (by rw [hm] at e; cases e)⟩, fun e => (by simp at e; omega)⟩⟩)
 ·exact cOfNo hl (by omega) hs (by simpa using hm) (h2 (fun hh => hm hh.1) 1 (.inl rfl) ⟨fun _ => by simpa using hm, fun _ => rfl⟩)
end TL

namespace TL
open Go Go.Proofs
def F_walk_New (baseA : Option Addr) (baseN baseC : Nat) (root : List Int) (K : Value → PH → Prop) (h : PH) : Prop :=
 CallH Tryz.prog id_tree_Of [.slice baseA baseN baseC] (fun v h1 =>
 ∃ t0 : Option Addr, ∃ t1 : Int, v = .tuple #[.pointer t0, .int .i64 t1] ∧
 (((t1 != (0 : Int)) = true →
 K (.tuple #[.pointer none, .int .i64 t1]) h1) ∧
 ((t1 != (0 : Int)) = false →
 JoinP (T := Option Addr × Unit) (fun Jv =>
 (newH h1 (.map #[] 0) fun bv h3 =>
 (newH h3 (.map #[] 0) fun bv_1 h4 =>
 CallH Tryz.prog id_tree_Tree_Texts [.pointer t0] (fun v_1 h5 =>
 ∃ (tA : Option Addr) (tN tC : Nat), v_1 = .slice tA tN tC ∧
 newH h5 (.cells ((.pointer t0 :: (root.map (Value.int .u8) ++ ([.map (some bv), .map (some bv_1), .slice tA tN tC] : List Value)))).toArray T_walk_Walk (0, 0)) fun bv_2 h6 =>
 Jv ((some ⟨bv_2, 0, none⟩), ()) h6) h4) ∧
 (CallH Tryz.prog id_tree_Tree_Texts [.pointer t0] (fun v_2 h7 =>
 ∃ (tA_1 : Option Addr) (tN_1 tC_1 : Nat), v_2 = .slice tA_1 tN_1 tC_1 ∧
 newH h7 (.map #[] 0) fun bv_3 h8 =>
 newH h8 (.cells ((.pointer t0 :: (root.map (Value.int .u8) ++ ([.map (some bv), .map (some bv_3), .slice tA_1 tN_1 tC_1] : List Value)))).toArray T_walk_Walk (0, 0)) fun bv_4 h9 =>
 Jv ((some ⟨bv_4, 0, none⟩), ()) h9) h3)) ∧
 ((newH h1 (.map #[] 0) fun bv_5 h10 =>
 (newH h10 (.map #[] 0) fun bv_6 h11 =>
 CallH Tryz.prog id_tree_Tree_Texts [.pointer t0] (fun v_3 h12 =>
 ∃ (tA_2 : Option Addr) (tN_2 tC_2 : Nat), v_3 = .slice tA_2 tN_2 tC_2 ∧
 newH h12 (.cells ((.pointer t0 :: (root.map (Value.int .u8) ++ ([.map (some bv_6), .map (some bv_5), .slice tA_2 tN_2 tC_2] : List Value)))).toArray T_walk_Walk (0, 0)) fun bv_7 h13 =>
 Jv ((some ⟨bv_7, 0, none⟩), ()) h13) h11) ∧
 (CallH Tryz.prog id_tree_Tree_Texts [.pointer t0] (fun v_4 h14 =>
 ∃ (tA_3 : Option Addr) (tN_3 tC_3 : Nat), v_4 = .slice tA_3 tN_3 tC_3 ∧
 newH h14 (.map #[] 0) fun bv_8 h15 =>
 newH h15 (.cells ((.pointer t0 :: (root.map (Value.int .u8) ++ ([.map (some bv_8), .map (some bv_5), .slice tA_3 tN_3 tC_3] : List Value)))).toArray T_walk_Walk (0, 0)) fun bv_9 h16 =>
 Jv ((some ⟨bv_9, 0, none⟩), ()) h16) h10)) ∧
 (CallH Tryz.prog id_tree_Tree_Texts [.pointer t0] (fun v_5 h17 =>
 ∃ (tA_4 : Option Addr) (tN_4 tC_4 : Nat), v_5 = .slice tA_4 tN_4 tC_4 ∧
 (newH h17 (.map #[] 0) fun bv_10 h18 =>
 newH h18 (.map #[] 0) fun bv_11 h19 =>
 newH h19 (.cells ((.pointer t0 :: (root.map (Value.int .u8) ++ ([.map (some bv_10), .map (some bv_11), .slice tA_4 tN_4 tC_4] : List Value)))).toArray T_walk_Walk (0, 0)) fun bv_12 h20 =>
 Jv ((some ⟨bv_12, 0, none⟩), ()) h20) ∧
 (newH h17 (.map #[] 0) fun bv_13 h21 =>
 newH h21 (.map #[] 0) fun bv_14 h22 =>
 newH h22 (.cells ((.pointer t0 :: (root.map (Value.int .u8) ++ ([.map (some bv_14), .map (some bv_13), .slice tA_4 tN_4 tC_4] : List Value)))).toArray T_walk_Walk (0, 0)) fun bv_15 h23 =>
 Jv ((some ⟨bv_15, 0, none⟩), ()) h23)) h1)))
 (fun st h2 =>
 CallH Tryz.prog id_walk_Walk_ask [.pointer st.1, .agg #[.int .i64 (0 : Int), .int .i64 (0 : Int)], .agg ((root.map (Value.int .u8) ++ [])).toArray] (fun _ h24 =>
 K (.tuple #[.pointer st.1, .int .i64 (0 : Int)]) h24) h2)))) h
theorem F_walk_New_ok {baseA : Option Addr} {baseN baseC : Nat} {root : List Int} (hk0 : root.length = 32) {K : Value → PH → Prop} {h : PH} (hh : F_walk_New baseA baseN baseC root K h) : CallH Tryz.prog id_walk_New [.slice baseA baseN baseC, .agg ((root.map (Value.int .u8) ++ [])).toArray] K h :=
 denF_sound' Tryz.func39 (H := ⟨[3], [(4, .one 0 (.one 1 (.one 4 (.alt 2 (.alt 3 (.of [5, 6, 7, 8]) (.of [5, 3, 6, 7, 8])) (.alt 3 (.alt 2 (.of [5, 6, 7, 8]) (.of [5, 2, 6, 7, 8])) (.one 5 (.alt 2 (.of [3, 6, 7, 8]) (.of [3, 2, 6, 7, 8]))))))))], [], [(12, ⟨[(8, .ptr)], [], []⟩)]⟩) (xs := [.v (.slice baseA baseN baseC), .agg [.ints .u8 32 root]]) (by kernel_rfl) (⟨rfl, ⟨hk0, trivial⟩, trivial⟩) (den_of (by kernel_rfl) hh)
def F_walk_Walk_Want (w : Option Addr) (n : Int) (K : Value → PH → Prop) (h : PH) : Prop :=
 CallH Tryz.prog id_walk_Walk_none [.pointer w] (fun v h1 =>
 ∃ t : Bool, v = .bool t ∧
 (((t || (decide (n < (1 : Int)))) = true →
 K (.slice none 0 0) h1) ∧
 ((t || (decide (n < (1 : Int)))) = false →
 ∃ bv ov : Nat, w = some ⟨bv, ov, none⟩ ∧
 ∃ t_1 : Option Nat, (h1.rds bv (ov + 33) 1 = some [.map t_1]) ∧
 CallH Tryz.prog id_maps_Keys_map_walk_Ask_api_Hash_walk_Ask_api_Hash [.map t_1] (fun v_1 h2 =>
 ∃ t_2 : Value, one1 t_2 = true ∧ v_1 = t_2 ∧
 CallH Tryz.prog id_slices_SortedFunc_walk_Ask [t_2, .func (.func 116) #[] #[]] (fun v_2 h3 =>
 ∃ (lA : Option Addr) (lN lC : Nat), v_2 = .slice lA lN lC ∧
 (0 ≤ (0 : Int) ∧ (0 : Int) ≤ (minV n (lN : Int)) ∧ (minV n (lN : Int)) ≤ (lC : Int) ∧ (lC : Int) ≤ (lC : Nat)) ∧
 K (.slice (slA lA 2 (0 : Int) (lC : Int)) ((minV n (lN : Int)).toNat - (0 : Int).toNat) ((lC : Int).toNat - (0 : Int).toNat)) h3) h2) h1))) h
theorem F_walk_Walk_Want_ok {w : Option Addr} {n : Int}  {K : Value → PH → Prop} {h : PH} (hh : F_walk_Walk_Want w n K h) : CallH Tryz.prog id_walk_Walk_Want [.pointer w, .int .i64 n] K h :=
 denF_sound' Tryz.func40 (H := ⟨[], [], [], []⟩) (xs := [.v (.pointer w), .v (.int .i64 n)]) (by kernel_rfl) (⟨rfl, rfl, trivial⟩) (den_of (by kernel_rfl) hh)
def F_walk_Walk_Node (w : Option Addr) (level i : Int) (leftv rightv : List Int) (K : Value → PH → Prop) (h : PH) : Prop :=
 newH h (.cells ((leftv.map (Value.int .u8) ++ [])).toArray T_api_Hash (0, 0)) fun bv h1 =>
 newH h1 (.cells ((rightv.map (Value.int .u8) ++ [])).toArray T_api_Hash (0, 0)) fun bv_1 h2 =>
 CallH Tryz.prog id_walk_Walk_none [.pointer w] (fun v h3 =>
 ∃ t : Bool, v = .bool t ∧
 ((((t || (decide (level < (0 : Int)))) || (decide (level ≥ (4 : Int)))) = true →
 K (.bool false) h3) ∧
 (((t || (decide (level < (0 : Int)))) || (decide (level ≥ (4 : Int)))) = false →
 ∃ t_1 : List Int, t_1.length = 32 ∧ (h3.rds bv 0 32 = some (t_1.map (Value.int .u8) ++ [])) ∧
 ∃ t_2 : List Int, t_2.length = 32 ∧ (h3.rds bv_1 0 32 = some (t_2.map (Value.int .u8) ++ [])) ∧
 (0 ≤ (0 : Int) ∧ (0 : Int) ≤ ((32 : Nat) : Int) ∧ ((32 : Nat) : Int) ≤ ((32 : Nat) : Int) ∧ ((32 : Nat) : Int) ≤ (32 : Nat)) ∧
 ∃ t_3 : ByteArray, strH h3 (slA (some ⟨bv, 0, none⟩ : Option Addr) 1 (0 : Int) ((32 : Nat) : Int)) (((32 : Nat) : Int).toNat - (0 : Int).toNat) t_3 ∧
 (((ByteArray.size (⟨#[78]⟩ : ByteArray) + ByteArray.size t_3 : Nat) : Int) ≤ 9223372036854775807) ∧
 (0 ≤ (0 : Int) ∧ (0 : Int) ≤ ((32 : Nat) : Int) ∧ ((32 : Nat) : Int) ≤ ((32 : Nat) : Int) ∧ ((32 : Nat) : Int) ≤ (32 : Nat)) ∧
 ∃ t_4 : ByteArray, strH h3 (slA (some ⟨bv_1, 0, none⟩ : Option Addr) 1 (0 : Int) ((32 : Nat) : Int)) (((32 : Nat) : Int).toNat - (0 : Int).toNat) t_4 ∧
 (((ByteArray.size ((⟨#[78]⟩ : ByteArray) ++ t_3) + ByteArray.size t_4 : Nat) : Int) ≤ 9223372036854775807) ∧
 CallH Tryz.prog id_tree_Inner [.agg ((t_1.map (Value.int .u8) ++ [])).toArray, .agg ((t_2.map (Value.int .u8) ++ [])).toArray] (fun v_1 h4 =>
 ∃ t_5 : List Int, t_5.length = 32 ∧ v_1 = .agg ((t_5.map (Value.int .u8) ++ [])).toArray ∧
 (strH h4 (slA (some ⟨bv_1, 0, none⟩ : Option Addr) 1 (0 : Int) ((32 : Nat) : Int)) (((32 : Nat) : Int).toNat - (0 : Int).toNat) t_4) ∧
 (strH h4 (slA (some ⟨bv, 0, none⟩ : Option Addr) 1 (0 : Int) ((32 : Nat) : Int)) (((32 : Nat) : Int).toNat - (0 : Int).toNat) t_3) ∧
 CallH Tryz.prog id_walk_Walk_fits [.pointer w, .agg #[.int .i64 level, .int .i64 i], .agg ((t_5.map (Value.int .u8) ++ [])).toArray, .string (((⟨#[78]⟩ : ByteArray) ++ t_3) ++ t_4)] (fun v_2 h5 =>
 ∃ t_6 : Bool, v_2 = .bool t_6 ∧
 (((!t_6) = true →
 K (.bool false) h5) ∧
 ((!t_6) = false →
 ∃ t_7 : List Int, t_7.length = 32 ∧ (h5.rds bv 0 32 = some (t_7.map (Value.int .u8) ++ [])) ∧
 CallH Tryz.prog id_walk_Walk_ask [.pointer w, .agg #[.int .i64 (IntKind.wrap .i64 (level + (1 : Int))), .int .i64 (IntKind.wrap .i64 ((2 : Int) * i))], .agg ((t_7.map (Value.int .u8) ++ [])).toArray] (fun _ h6 =>
 ∃ t_8 : List Int, t_8.length = 32 ∧ (h6.rds bv_1 0 32 = some (t_8.map (Value.int .u8) ++ [])) ∧
 CallH Tryz.prog id_walk_Walk_ask [.pointer w, .agg #[.int .i64 (IntKind.wrap .i64 (level + (1 : Int))), .int .i64 (IntKind.wrap .i64 ((IntKind.wrap .i64 ((2 : Int) * i)) + (1 : Int)))], .agg ((t_8.map (Value.int .u8) ++ [])).toArray] (fun _ h7 =>
 K (.bool true) h7) h6) h5))) h4) h3))) h2
theorem F_walk_Walk_Node_ok {w : Option Addr} {level i : Int} {leftv rightv : List Int} (hk0 : leftv.length = 32) (hk1 : rightv.length = 32) {K : Value → PH → Prop} {h : PH} (hh : F_walk_Walk_Node w level i leftv rightv K h) : CallH Tryz.prog id_walk_Walk_Node [.pointer w, .int .i64 level, .int .i64 i, .agg ((leftv.map (Value.int .u8) ++ [])).toArray, .agg ((rightv.map (Value.int .u8) ++ [])).toArray] K h :=
 denF_sound' Tryz.func42 (H := ⟨[], [(3, .of [0, 1, 2, 3, 4, 5, 7, 8, 9, 10, 11, 12, 6, 13, 14])], [], []⟩) (xs := [.v (.pointer w), .v (.int .i64 level), .v (.int .i64 i), .agg [.ints .u8 32 leftv], .agg [.ints .u8 32 rightv]]) (by kernel_rfl) (⟨rfl, rfl, rfl, ⟨hk0, trivial⟩, ⟨hk1, trivial⟩, trivial⟩) (den_of (by kernel_rfl) hh)
def F_walk_Walk_Page (w : Option Addr) (i : Int) (lA : Option Addr) (lN lC : Nat) (K : Value → PH → Prop) (h : PH) : Prop :=
 CallH Tryz.prog id_walk_Walk_none [.pointer w] (fun v h1 =>
 ∃ t : Bool, v = .bool t ∧
 ((t = true →
 K (.bool false) h1) ∧
 (t = false →
 CallH Tryz.prog id_bucket_Page [.int .i64 i, .slice lA lN lC] (fun v_1 h2 =>
 ∃ t0 : ByteArray, ∃ t1 : Int, v_1 = .tuple #[.string t0, .int .i64 t1] ∧
 (((t1 != (0 : Int)) = false →
 CallH Tryz.prog id_tree_Leaf [.string t0] (fun v_2 h3 =>
 ∃ t_1 : List Int, t_1.length = 32 ∧ v_2 = .agg ((t_1.map (Value.int .u8) ++ [])).toArray ∧
 (((ByteArray.size (⟨#[76]⟩ : ByteArray) + ByteArray.size t0 : Nat) : Int) ≤ 9223372036854775807) ∧
 CallH Tryz.prog id_walk_Walk_fits [.pointer w, .agg #[.int .i64 (4 : Int), .int .i64 i], .agg ((t_1.map (Value.int .u8) ++ [])).toArray, .string ((⟨#[76]⟩ : ByteArray) ++ t0)] (fun v_3 h4 =>
 ∃ t_2 : Bool, v_3 = .bool t_2 ∧
 (((!t_2) = true →
 K (.bool false) h4) ∧
 ((!t_2) = false →
 ∃ bv ov : Nat, w = some ⟨bv, ov, none⟩ ∧
 ∃ t_3 : Option Nat, (h4.rds bv (ov + 34) 1 = some [.map t_3]) ∧
 CallH Tryz.prog id_slices_Clone_api_Pair_api_Pair [.slice lA lN lC] (fun v_4 h5 =>
 ∃ (tA : Option Addr) (tN tC : Nat), v_4 = .slice tA tN tC ∧
 (h5.rds bv (ov + 34) 1 = some [.map t_3]) ∧
 muH (.int .i64) h5 t_3 (.int .i64 i) (.slice tA tN tC) fun h6 =>
 K (.bool true) h6) h4))) h3) h2) ∧
 ((t1 != (0 : Int)) = true →
 K (.bool false) h2))) h1))) h
theorem F_walk_Walk_Page_ok {w : Option Addr} {i : Int} {lA : Option Addr} {lN lC : Nat}  {K : Value → PH → Prop} {h : PH} (hh : F_walk_Walk_Page w i lA lN lC K h) : CallH Tryz.prog id_walk_Walk_Page [.pointer w, .int .i64 i, .slice lA lN lC] K h :=
 denF_sound' Tryz.func43 (H := ⟨[], [], [], []⟩) (xs := [.v (.pointer w), .v (.int .i64 i), .v (.slice lA lN lC)]) (by kernel_rfl) (⟨rfl, rfl, rfl, trivial⟩) (den_of (by kernel_rfl) hh)
def F_walk_Walk_Done (w : Option Addr) (K : Value → PH → Prop) (h : PH) : Prop :=
 JoinP (T := Unit) (fun Jv =>
 CallH Tryz.prog id_walk_Walk_none [.pointer w] (fun v h2 =>
 ∃ t : Bool, v = .bool t ∧
 ∃ bv ov : Nat, (t = false → w = some ⟨bv, ov, none⟩) ∧
 ∃ t_1 : Option Nat, ((t = false → h2.rds bv (ov + 33) 1 = some [.map t_1])) ∧
 ((t = false →
 ∃ tN : Nat, lenM h2 t_1 tN ∧
 (((decide ((tN : Int) > (0 : Int))) = true →
 K (.tuple #[.slice none 0 0, .bool false]) h2) ∧
 ((decide ((tN : Int) > (0 : Int))) = false →
 Jv (()) h2))) ∧
 (t = true →
 K (.tuple #[.slice none 0 0, .bool false]) h2))) h)
 (fun _ h1 =>
 LoopP (T := (Option Addr × Nat × Nat) × Int × Unit) (fun Jv_1 st_1 h3 =>
 (((decide (st_1.2.1 < (16 : Int))) = true →
 ∃ bv_1 ov_1 : Nat, w = some ⟨bv_1, ov_1, none⟩ ∧
 ∃ t_2 : Option Nat, (h3.rds bv_1 (ov_1 + 34) 1 = some [.map t_2]) ∧
 ∃ (tA : Option Addr) (tN_1 tC : Nat), ∃ ok : Bool, lkH (.int .i64) h3 t_2 (.int .i64 st_1.2.1) (.slice none 0 0) (.slice tA tN_1 tC) ok ∧
 (((!ok) = true →
 ∃ bv_2 ov_2 : Nat, w = some ⟨bv_2, ov_2, none⟩ ∧
 ∃ t_3 : Option Addr, (h3.rds bv_2 ov_2 1 = some [.pointer t_3]) ∧
 CallH Tryz.prog id_tree_Tree_Pairs [.pointer t_3, .int .i64 st_1.2.1] (fun v_1 h4 =>
 ∃ (partA : Option Addr) (partN partC : Nat), v_1 = .slice partA partN partC ∧
 ∃ vs : List Value, srcH h4 partA (partN * 2) vs ∧
 appH T_api_Pair 2 32 [.string (⟨#[]⟩ : ByteArray), .string (⟨#[]⟩ : ByteArray)] st_1.1.1 st_1.1.2.1 st_1.1.2.2 partN vs (fun lA lN lC h5 =>
 Jv_1 ((lA, lN, lC), (IntKind.wrap .i64 (st_1.2.1 + (1 : Int))), ()) h5) h4) h3) ∧
 ((!ok) = false →
 ∃ vs_1 : List Value, srcH h3 tA (tN_1 * 2) vs_1 ∧
 appH T_api_Pair 2 32 [.string (⟨#[]⟩ : ByteArray), .string (⟨#[]⟩ : ByteArray)] st_1.1.1 st_1.1.2.1 st_1.1.2.2 tN_1 vs_1 (fun lA_1 lN_1 lC_1 h6 =>
 Jv_1 ((lA_1, lN_1, lC_1), (IntKind.wrap .i64 (st_1.2.1 + (1 : Int))), ()) h6) h3))) ∧
 ((decide (st_1.2.1 < (16 : Int))) = false →
 (((decide ((st_1.1.2.1 : Int) > (48 : Int))) = true →
 K (.tuple #[.slice none 0 0, .bool false]) h3) ∧
 ((decide ((st_1.1.2.1 : Int) > (48 : Int))) = false →
 CallH Tryz.prog id_slices_SortFunc_api_Pair_api_Pair [.slice st_1.1.1 st_1.1.2.1 st_1.1.2.2, .func (.func 122) #[] #[]] (fun _ h7 =>
 K (.tuple #[.slice st_1.1.1 st_1.1.2.1 st_1.1.2.2, .bool true]) h7) h3))))) ((none, 0, 0), (0 : Int), ()) h1)
theorem F_walk_Walk_Done_ok {w : Option Addr}  {K : Value → PH → Prop} {h : PH} (hh : F_walk_Walk_Done w K h) : CallH Tryz.prog id_walk_Walk_Done [.pointer w] K h :=
 denF_sound' Tryz.func44 (H := ⟨[], [], [(0, ⟨[(4, .slice), (18, .int .i64)], [], []⟩)], [(8, ⟨[], [], []⟩)]⟩) (xs := [.v (.pointer w)]) (by kernel_rfl) (⟨rfl, trivial⟩) (den_of (by kernel_rfl) hh)
def F_walk_Walk_Texts (w : Option Addr) (K : Value → PH → Prop) (h : PH) : Prop :=
 CallH Tryz.prog id_walk_Walk_none [.pointer w] (fun v h1 =>
 ∃ t : Bool, v = .bool t ∧
 ((t = true →
 K (.slice none 0 0) h1) ∧
 (t = false →
 ∃ bv ov : Nat, w = some ⟨bv, ov, none⟩ ∧
 ∃ (tA : Option Addr) (tN tC : Nat), (h1.rds bv (ov + 35) 1 = some [.slice tA tN tC]) ∧
 CallH Tryz.prog id_slices_Clone_string_string [.slice tA tN tC] (fun v_1 h2 =>
 ∃ (tA_1 : Option Addr) (tN_1 tC_1 : Nat), v_1 = .slice tA_1 tN_1 tC_1 ∧
 K (.slice tA_1 tN_1 tC_1) h2) h1))) h
theorem F_walk_Walk_Texts_ok {w : Option Addr}  {K : Value → PH → Prop} {h : PH} (hh : F_walk_Walk_Texts w K h) : CallH Tryz.prog id_walk_Walk_Texts [.pointer w] K h :=
 denF_sound' Tryz.func47 (H := ⟨[], [], [], []⟩) (xs := [.v (.pointer w)]) (by kernel_rfl) (⟨rfl, trivial⟩) (den_of (by kernel_rfl) hh)
def F_walk_Walk_Root (w : Option Addr) (K : Value → PH → Prop) (h : PH) : Prop :=
 CallH Tryz.prog id_walk_Walk_none [.pointer w] (fun v h1 =>
 ∃ t : Bool, v = .bool t ∧
 ((t = true →
 K (.agg (((List.replicate 32 0).map (Value.int .u8) ++ [])).toArray) h1) ∧
 (t = false →
 ∃ bv ov : Nat, w = some ⟨bv, ov, none⟩ ∧
 ∃ t_1 : List Int, t_1.length = 32 ∧ (h1.rds bv (ov + 1) 32 = some (t_1.map (Value.int .u8) ++ [])) ∧
 K (.agg ((t_1.map (Value.int .u8) ++ [])).toArray) h1))) h
theorem F_walk_Walk_Root_ok {w : Option Addr}  {K : Value → PH → Prop} {h : PH} (hh : F_walk_Walk_Root w K h) : CallH Tryz.prog id_walk_Walk_Root [.pointer w] K h :=
 denF_sound' Tryz.func51 (H := ⟨[2], [], [], []⟩) (xs := [.v (.pointer w)]) (by kernel_rfl) (⟨rfl, trivial⟩) (den_of (by kernel_rfl) hh)
def F_walk_Walk_ask (w : Option Addr) (a0 a1 : Int) (hv : List Int) (K : Value → PH → Prop) (h : PH) : Prop :=
 ∃ bv ov : Nat, w = some ⟨bv, ov, none⟩ ∧
 ∃ t : Option Addr, (h.rds bv ov 1 = some [.pointer t]) ∧
 (CallH Tryz.prog id_tree_Tree_Node [.pointer t, .int .i64 a0, .int .i64 a1] (fun v h1 =>
 ∃ t0 : List Int, t0.length = 32 ∧ ∃ t1 : Bool, v = .tuple #[.agg ((t0.map (Value.int .u8) ++ [])).toArray, .bool t1] ∧
 (((!(t0 == hv)) = true →
 ∃ bv_1 ov_1 : Nat, w = some ⟨bv_1, ov_1, none⟩ ∧
 ∃ t_1 : Option Nat, (h1.rds bv_1 (ov_1 + 33) 1 = some [.map t_1]) ∧
 muH (.rec2 .i64 .i64) h1 t_1 (.agg #[.int .i64 a0, .int .i64 a1]) (.agg ((hv.map (Value.int .u8) ++ [])).toArray) fun h2 =>
 K (.tuple #[]) h2) ∧
 ((!(t0 == hv)) = false →
 K (.tuple #[]) h1))) h) ∧
 (CallH Tryz.prog id_tree_Tree_Node [.pointer t, .int .i64 a0, .int .i64 a1] (fun v_1 h3 =>
 ∃ t0_1 : List Int, t0_1.length = 32 ∧ ∃ t1_1 : Bool, v_1 = .tuple #[.agg ((t0_1.map (Value.int .u8) ++ [])).toArray, .bool t1_1] ∧
 (((!(t0_1 == hv)) = true →
 ∃ bv_2 ov_2 : Nat, w = some ⟨bv_2, ov_2, none⟩ ∧
 ∃ t_2 : Option Nat, (h3.rds bv_2 (ov_2 + 33) 1 = some [.map t_2]) ∧
 muH (.rec2 .i64 .i64) h3 t_2 (.agg #[.int .i64 a0, .int .i64 a1]) (.agg ((hv.map (Value.int .u8) ++ [])).toArray) fun h4 =>
 K (.tuple #[]) h4) ∧
 ((!(t0_1 == hv)) = false →
 K (.tuple #[]) h3))) h)
theorem F_walk_Walk_ask_ok {w : Option Addr} {a0 a1 : Int} {hv : List Int} (hk0 : hv.length = 32) {K : Value → PH → Prop} {h : PH} (hh : F_walk_Walk_ask w a0 a1 hv K h) : CallH Tryz.prog id_walk_Walk_ask [.pointer w, .agg #[.int .i64 a0, .int .i64 a1], .agg ((hv.map (Value.int .u8) ++ [])).toArray] K h :=
 denF_sound' Tryz.func112 (H := ⟨[4, 5, 6], [(1, .one 0 (.one 1 (.one 2 (.one 3 (.one 4 (.one 5 (.one 6 (.one 7 (.alt 8 (.of [9, 10, 11, 12, 13, 14]) (.of [12, 8, 9, 10, 11, 13, 14]))))))))))], [], []⟩) (xs := [.v (.pointer w), .agg [.one (.int .i64 a0), .one (.int .i64 a1)], .agg [.ints .u8 32 hv]]) (by kernel_rfl) (⟨rfl, ⟨rfl, rfl, trivial⟩, ⟨hk0, trivial⟩, trivial⟩) (den_of (by kernel_rfl) hh)
def F_walk_Walk_none (w : Option Addr) (K : Value → PH → Prop) (h : PH) : Prop :=
 ∃ bv ov : Nat, ((Option.isNone w) = false → w = some ⟨bv, ov, none⟩) ∧
 ∃ t : Option Addr, (((Option.isNone w) = false → h.rds bv ov 1 = some [.pointer t])) ∧
 K (.bool ((Option.isNone w) || (Option.isNone t))) h
theorem F_walk_Walk_none_ok {w : Option Addr}  {K : Value → PH → Prop} {h : PH} (hh : F_walk_Walk_none w K h) : CallH Tryz.prog id_walk_Walk_none [.pointer w] K h :=
 denF_sound' Tryz.func113 (H := ⟨[], [], [], []⟩) (xs := [.v (.pointer w)]) (by kernel_rfl) (⟨rfl, trivial⟩) (den_of (by kernel_rfl) hh)
def F_maps_Keys_map_walk_Ask_api_Hash_walk_Ask_api_Hash (m : Option Nat) (K : Value → PH → Prop) (h : PH) : Prop :=
 newH h (.cells #[.map m] 184 (0, 0)) fun bv h1 =>
 K (.func (.func 151) #[] #[.pointer (some ⟨bv, 0, none⟩)]) h1
theorem F_maps_Keys_map_walk_Ask_api_Hash_walk_Ask_api_Hash_ok {m : Option Nat}  {K : Value → PH → Prop} {h : PH} (hh : F_maps_Keys_map_walk_Ask_api_Hash_walk_Ask_api_Hash m K h) : CallH Tryz.prog id_maps_Keys_map_walk_Ask_api_Hash_walk_Ask_api_Hash [.map m] K h :=
 denF_sound' Tryz.func115 (H := ⟨[], [], [], []⟩) (xs := [.v (.map m)]) (by kernel_rfl) (⟨rfl, trivial⟩) (den_of (by kernel_rfl) hh)
def F_walk_Walk_fits (w : Option Addr) (a0 a1 : Int) (hv : List Int) (text : ByteArray) (K : Value → PH → Prop) (h : PH) : Prop :=
 ∃ bv ov : Nat, w = some ⟨bv, ov, none⟩ ∧
 ∃ t : Option Nat, (h.rds bv (ov + 33) 1 = some [.map t]) ∧
 ∃ t_1 : List Int, t_1.length = 32 ∧ ∃ ok : Bool, lkH (.rec2 .i64 .i64) h t (.agg #[.int .i64 a0, .int .i64 a1]) (.agg (((List.replicate 32 0).map (Value.int .u8) ++ [])).toArray) (.agg ((t_1.map (Value.int .u8) ++ [])).toArray) ok ∧
 ((((!ok) || (!(t_1 == hv))) = true →
 K (.bool false) h) ∧
 (((!ok) || (!(t_1 == hv))) = false →
 ∃ bv_1 ov_1 : Nat, w = some ⟨bv_1, ov_1, none⟩ ∧
 ∃ t_2 : Option Nat, (h.rds bv_1 (ov_1 + 33) 1 = some [.map t_2]) ∧
 mdH (.rec2 .i64 .i64) h t_2 (.agg #[.int .i64 a0, .int .i64 a1]) fun h1 =>
 ∃ bv_2 ov_2 : Nat, w = some ⟨bv_2, ov_2, none⟩ ∧
 ∃ (tA : Option Addr) (tN tC : Nat), (h1.rds bv_2 (ov_2 + 35) 1 = some [.slice tA tN tC]) ∧
 appH 9 1 16 [.string (⟨#[]⟩ : ByteArray)] tA tN tC 1 [.string text] (fun tA_1 tN_1 tC_1 h2 =>
 ∃ bv_3 ov_3 : Nat, w = some ⟨bv_3, ov_3, none⟩ ∧
 stH h2 bv_3 (ov_3 + 35) [.slice tA_1 tN_1 tC_1] fun h3 =>
 K (.bool true) h3) h1))
theorem F_walk_Walk_fits_ok {w : Option Addr} {a0 a1 : Int} {hv : List Int} {text : ByteArray} (hk0 : hv.length = 32) {K : Value → PH → Prop} {h : PH} (hh : F_walk_Walk_fits w a0 a1 hv text K h) : CallH Tryz.prog id_walk_Walk_fits [.pointer w, .agg #[.int .i64 a0, .int .i64 a1], .agg ((hv.map (Value.int .u8) ++ [])).toArray, .string text] K h :=
 denF_sound' Tryz.func119 (H := ⟨[5, 6, 9, 38], [], [], []⟩) (xs := [.v (.pointer w), .agg [.one (.int .i64 a0), .one (.int .i64 a1)], .agg [.ints .u8 32 hv], .v (.string text)]) (by kernel_rfl) (⟨rfl, ⟨rfl, rfl, trivial⟩, ⟨hk0, trivial⟩, rfl, trivial⟩) (den_of (by kernel_rfl) hh)
end TL

namespace TL
open Go Go.Proofs
def askP (k : Nat) : Int × Int := ((k.log2 : Nat), ((k - 2 ^ k.log2 : Nat) : Int))
theorem askP_inj0 : ∀ a : Nat, a < 32 → ∀ b : Nat, b < 32 → (1 ≤ a ∧ 1 ≤ b ∧ (askP a).1 = (askP b).1 ∧ (askP a).2 = (askP b).2) → a = b := by decide +kernel
theorem askP_inj (a : Nat) (ha : a < 32) (b : Nat) (hb : b < 32) (h1 : 1 ≤ a) (h2 : 1 ≤ b) (e : askP a = askP b) : a = b := askP_inj0 a ha b hb ⟨h1, h2, by rw [e], by rw [e]⟩
theorem askP_lt0 : ∀ a : Nat, a < 32 → ∀ b : Nat, b < 32 → (1 ≤ a ∧ 1 ≤ b) → (ltA (askP a) (askP b) ↔ a < b) := by decide +kernel
theorem askP_lt (a : Nat) (ha : a < 32) (b : Nat) (hb : b < 32) (h1 : 1 ≤ a) (h2 : 1 ≤ b) : ltA (askP a) (askP b) ↔ a < b := askP_lt0 a ha b hb ⟨h1, h2⟩
theorem askP_at0 : ∀ lv : Nat, lv < 5 → ∀ i : Nat, i < 16 → i < 2 ^ lv → (askP (2 ^ lv + i)).1 = (lv : Int) ∧ (askP (2 ^ lv + i)).2 = (i : Int) := by decide +kernel
theorem askP_at (lv : Nat) (h1 : lv < 5) (i : Nat) (h2 : i < 16) (h3 : i < 2 ^ lv) : askP (2 ^ lv + i) = ((lv : Int), (i : Int)) := Prod.ext (askP_at0 lv h1 i h2 h3).1 (askP_at0 lv h1 i h2 h3).2
theorem askP_in : ∀ k, k < 32 → 1 ≤ k → k.log2 ≤ 4 ∧ k - 2 ^ k.log2 < 2 ^ k.log2 ∧ 2 ^ k.log2 + (k - 2 ^ k.log2) = k := by decide +kernel
theorem keyV_inj {x y : Int × Int} (h : keyV x = keyV y) : x = y := by
 unfold keyV at h
 obtain ⟨a, b⟩ := x
 obtain ⟨c, d⟩ := y
 simp only [Value.agg.injEq, Array.mk.injEq, List.cons.injEq, Value.int.injEq, true_and, and_true] at h
 rw [h.1, h.2]
theorem keyV_ok (x : Int × Int) : kOk (.rec2 .i64 .i64) (keyV x) = true := rfl
theorem keyV_keq (x y : Int × Int) : keq (keyV x) (keyV y) = decide (x = y) := by
 rw [Bool.eq_iff_iff, keq_eq (keyV_ok x) (keyV_ok y), decide_eq_true_eq]
 exact ⟨keyV_inj, fun e => by rw [e]⟩
def hashV (x : List UInt8) : Value := .agg (((bi x).map (Value.int .u8) ++ [])).toArray
theorem upM_born (es : List MapEntry) (k v : Value) (c : Nat) (h1 : ∀ e ∈ es, e.born < c) (h2 : (es.map (·.born)).Nodup) : (∀ e ∈ (upM es k v c).1, e.born < (upM es k v c).2) ∧ ((upM es k v c).1.map (·.born)).Nodup := by
 unfold upM
 split
 ·rename_i i p hf
  have hm : (es.modify i fun e => { e with key := k, val := v }).map (·.born) = es.map (·.born) := by
   apply List.ext_getElem
   ·simp
   ·intro j h4 h5
    simp only [List.getElem_map, List.getElem_modify]
    split <;> rfl
  refine ⟨fun e he => ?_, by dsimp only; rw [hm]; exact h2⟩
  dsimp only at he ⊢
  have h3 : e.born ∈ (es.modify i fun e => { e with key := k, val := v }).map (·.born) := List.mem_map.2 ⟨e, he, rfl⟩
  rw [hm] at h3
  obtain ⟨e', he', e3⟩ := List.mem_map.1 h3
  rw [← e3]; exact h1 e' he'
 ·refine ⟨fun e he => ?_, ?_⟩
  ·dsimp only at he ⊢
   rcases List.mem_append.1 he with he | he
   ·exact Nat.lt_succ_of_lt (h1 e he)
   ·rw [List.mem_singleton] at he; subst he; exact Nat.lt_succ_self c
  ·dsimp only
   rw [List.map_append, List.nodup_append]
   refine ⟨h2, by simp, fun a ha b hb => ?_⟩
   obtain ⟨e, he, rfl⟩ := List.mem_map.1 ha
   simp at hb; subst hb
   exact Nat.ne_of_lt (h1 e he)
structure AskMapE (es : List MapEntry) (c : Nat) (A : Nat → Option (List UInt8)) : Prop where
 key : ∀ e ∈ es, ∃ k, 1 ≤ k ∧ k < 32 ∧ e.key = keyV (askP k)
 at_ : ∀ k, 1 ≤ k → k < 32 → va es (keyV (askP k)) = (A k).map hashV
 nd : NdK es
 old : ∀ e ∈ es, e.born < c
 bn : (es.map (·.born)).Nodup
section
variable {es : List MapEntry} {c : Nat} {A : Nat → Option (List UInt8)}
theorem AskMapE.new : AskMapE [] 0 fun _ => none := ⟨fun _ h => (by cases h), fun _ _ _ => rfl, List.Pairwise.nil, fun _ h => (by cases h), List.nodup_nil⟩
theorem AskMapE.kOk (x : AskMapE es c A) : ∀ e ∈ es, kOk (.rec2 .i64 .i64) e.key = true := fun e he => by
 obtain ⟨k, _, _, h⟩ := x.key e he
 rw [h]; rfl
theorem AskMapE.out (x : AskMapE es c A) {p : Int × Int} (hp : ∀ k, 1 ≤ k → k < 32 → askP k ≠ p) : va es (keyV p) = none := va_none.2 fun e he => by
 obtain ⟨k, h1, h2, h⟩ := x.key e he
 rw [h, keyV_keq]
 exact decide_eq_false fun e => hp k h1 h2 e.symm
theorem AskMapE.put (x : AskMapE es c A) {k : Nat} (h1 : 1 ≤ k) (h2 : k < 32) (v : List UInt8) : AskMapE (upM es (keyV (askP k)) (hashV v) c).1 (upM es (keyV (askP k)) (hashV v) c).2 (upF A k (some v)) := by
 obtain ⟨b1, b2⟩ := upM_born es (keyV (askP k)) (hashV v) c x.old x.bn
 refine ⟨fun e he => ?_, fun k' h1' h2' => ?_, x.nd.upM (keyV_ok _) x.kOk, b1, b2⟩
 ·unfold upM at he
  split at he
  ·dsimp only at he
   obtain ⟨i, hi, rfl⟩ := List.getElem_of_mem he
   rw [List.getElem_modify]
   split
   ·exact ⟨k, h1, h2, rfl⟩
   ·exact x.key _ (List.getElem_mem _)
  ·dsimp only at he
   rcases List.mem_append.1 he with he | he
   ·exact x.key e he
   ·rw [List.mem_singleton] at he; subst he; exact ⟨k, h1, h2, rfl⟩
 ·rw [va_upM x.kOk (keyV_ok _) (keyV_ok _), keyV_keq]
  by_cases e : k' = k
  ·subst e; simp [upF]
  ·rw [if_neg (by simp only [decide_eq_true_eq]; exact fun e2 => e (askP_inj k' h2' k h2 h1' h1 e2)), x.at_ k' h1' h2', upF_ne _ _ e]
theorem AskMapE.del (x : AskMapE es c A) {k : Nat} (h1 : 1 ≤ k) (h2 : k < 32) : AskMapE (dlM es (keyV (askP k))) c (upF A k none) := by
 have hs := dlM_sub es (keyV (askP k))
 refine ⟨fun e he => x.key e (hs.subset he), fun k' h1' h2' => ?_, x.nd.dlM _, fun e he => x.old e (hs.subset he), x.bn.sublist (hs.map _)⟩
 rw [va_dlM x.kOk x.nd (keyV_ok _) (keyV_ok _), keyV_keq]
 by_cases e : k' = k
 ·subst e; simp [upF]
 ·rw [if_neg (by simp only [decide_eq_true_eq]; exact fun e2 => e (askP_inj k' h2' k h2 h1' h1 e2)), x.at_ k' h1' h2', upF_ne _ _ e]
end
structure PartMapE (g : PH) (es : List MapEntry) (Q : Nat → Option (List PrR)) : Prop where
 key : ∀ e ∈ es, kOk (.int .i64) e.key = true
 no : ∀ i : Nat, i < 16 → Q i = none → va es (.int .i64 (i : Int)) = none
 yes : ∀ (i : Nat) l, i < 16 → Q i = some l → ∃ a c, va es (.int .i64 (i : Int)) = some (.slice a l.length c) ∧ SR EncPr g a l
theorem PartMapE.new {g : PH} : PartMapE g [] fun _ => none := ⟨fun _ h => (by cases h), fun _ _ _ => rfl, fun _ _ _ h => by cases h⟩
theorem PartMapE.sub {g g' : PH} {es : List MapEntry} {Q : Nat → Option (List PrR)} (x : PartMapE g es Q) (s : g.Sub g') : PartMapE g' es Q := ⟨x.key, x.no, fun i l hi h => by
 obtain ⟨a, c, h1, h2⟩ := x.yes i l hi h
 exact ⟨a, c, h1, h2.sub s⟩⟩
theorem PartMapE.put {g : PH} {es : List MapEntry} {Q : Nat → Option (List PrR)} {c : Nat} (x : PartMapE g es Q) {i : Nat} (_ : i < 16) {l : List PrR} {a : Option Addr} {sc : Nat} (hl : SR EncPr g a l) : PartMapE g (upM es (.int .i64 (i : Int)) (.slice a l.length sc) c).1 (upF Q i (some l)) := by
 have hkq : ∀ j : Nat, keq (.int .i64 (j : Int)) (.int .i64 (i : Int)) = decide (j = i) := fun j => by
  show (((j : Nat) : Int) == ((i : Nat) : Int)) = _
  rw [Bool.eq_iff_iff, beq_iff_eq, decide_eq_true_eq]; omega
 refine ⟨upM_keys rfl x.key, fun j hj hq => ?_, fun j m hj hq => ?_⟩
 ·have e : j ≠ i := fun e => by subst e; rw [upF_same] at hq; cases hq
  rw [upF_ne _ _ e] at hq
  rw [va_upM x.key rfl rfl, hkq, if_neg (by simpa using e)]
  exact x.no j hj hq
 ·rw [va_upM x.key rfl rfl, hkq]
  by_cases e : j = i
  ·subst e
   rw [upF_same] at hq; cases hq
   exact ⟨a, sc, by simp, hl⟩
  ·rw [upF_ne _ _ e] at hq
   obtain ⟨a', c', q1, q2⟩ := x.yes j m hj hq
   exact ⟨a', c', by rw [if_neg (by simpa using e)]; exact q1, q2⟩
def walkC (tb : Nat) (R : List UInt8) (ra rp : Nat) (tA : Option Addr) (tN tC : Nat) : List Value := .pointer (some ⟨tb, 0, none⟩) :: ((bi R).map (Value.int .u8) ++ [.map (some ra), .map (some rp), .slice tA tN tC])
structure WalkAt (g : PH) (N : List Nat) (h : PH) (wb : Nat) (s : WS) : Prop where
 mem : ∃ tb ra rp esA cA esP cP tA tN tC Bt, N = wb :: ra :: rp :: Bt ∧ wb ≠ ra ∧ wb ≠ rp ∧ ra ≠ rp ∧ wb ∉ Bt ∧ ra ∉ Bt ∧ rp ∉ Bt ∧ h wb = some (.cells (walkC tb s.R ra rp tA tN tC).toArray T_walk_Walk (0, 0)) ∧ Tr tb g s.S ∧
  h ra = some (.map (esA : List MapEntry).toArray cA) ∧ AskMapE esA cA s.A ∧ h rp = some (.map (esP : List MapEntry).toArray cP) ∧ PartMapE g esP s.Q ∧ Buf EncS 9 Bt h tA tN tC s.T
 R : s.R.length = 32
 al : ∀ k x, s.A k = some x → x.length = 32
section
variable {g h : PH} {N : List Nat} {K : Value → PH → Prop} {wb : Nat} {s : WS}
theorem WalkAt.keep {g' h' : PH} (x : WalkAt g N h wb s) (hs : g.Sub g') (hk : ∀ b ∈ N, ∀ o, h b = some o → h' b = some o) : WalkAt g' N h' wb s := by
 obtain ⟨⟨tb, ra, rp, esA, cA, esP, cP, tA, tN, tC, Bt, rfl, d1, d2, d3, d4, d5, d6, hw, ht, ha, hA, hp, hP, hB⟩, hR, hL⟩ := x
 exact ⟨⟨tb, ra, rp, esA, cA, esP, cP, tA, tN, tC, Bt, rfl, d1, d2, d3, d4, d5, d6, hk _ (by simp) _ hw, ht.sub hs, hk _ (by simp) _ ha, hA, hk _ (by simp) _ hp, hP.sub hs, hB.keep fun b hb => hk b (by simp [hb])⟩, hR, hL⟩
theorem WalkAt.stp {M M' : List Nat} {g' h' : PH} (x : WalkAt g N h wb s) (t : Stp g M h g' M' h') (d : Dj N M) : WalkAt g' N h' wb s :=
 x.keep t.gs fun b hb _ e => t.chg.keep e (d b hb)
section
variable {tb ra rp : Nat} {R : List UInt8} {tA : Option Addr} {tN tC : Nat} {T : TypeId} {fr : Nat × Nat}
theorem wk_base (hw : h wb = some (.cells (walkC tb R ra rp tA tN tC).toArray T fr)) : h.rds wb 0 1 = some [.pointer (some ⟨tb, 0, none⟩)] := rds_mid' (pre := []) hw rfl rfl rfl
theorem wk_root (hw : h wb = some (.cells (walkC tb R ra rp tA tN tC).toArray T fr)) (hR : R.length = 32) : h.rds wb (0 + 1) 32 = some ((bi R).map (Value.int .u8) ++ []) := by
 rw [List.append_nil]
 exact rds_mid' (pre := [.pointer (some ⟨tb, 0, none⟩)]) (post := [.map (some ra), .map (some rp), .slice tA tN tC]) hw rfl rfl (by rw [List.length_map, bi_len, hR])
theorem wk_ask (hw : h wb = some (.cells (walkC tb R ra rp tA tN tC).toArray T fr)) (hR : R.length = 32) : h.rds wb (0 + 33) 1 = some [.map (some ra)] :=
 rds_mid' (pre := .pointer (some ⟨tb, 0, none⟩) :: (bi R).map (Value.int .u8)) (post := [.map (some rp), .slice tA tN tC]) hw (by simp [walkC]) (by rw [List.length_cons, List.length_map, bi_len, hR]) rfl
theorem wk_part (hw : h wb = some (.cells (walkC tb R ra rp tA tN tC).toArray T fr)) (hR : R.length = 32) : h.rds wb (0 + 34) 1 = some [.map (some rp)] :=
 rds_mid' (pre := .pointer (some ⟨tb, 0, none⟩) :: ((bi R).map (Value.int .u8) ++ [.map (some ra)])) (post := [.slice tA tN tC]) hw (by simp [walkC]) (by simp [bi_len, hR]) rfl
theorem wk_text (hw : h wb = some (.cells (walkC tb R ra rp tA tN tC).toArray T fr)) (hR : R.length = 32) : h.rds wb (0 + 35) 1 = some [.slice tA tN tC] :=
 rds_mid' (pre := .pointer (some ⟨tb, 0, none⟩) :: ((bi R).map (Value.int .u8) ++ [.map (some ra), .map (some rp)])) (post := []) hw (by simp [walkC]) (by simp [bi_len, hR]) rfl
theorem wk_setText (hw : h wb = some (.cells (walkC tb R ra rp tA tN tC).toArray T (0, 0))) (hR : R.length = 32) {a' : Option Addr} {n' c' : Nat} {KK : PH → Prop} (hk : ∀ h', h' wb = some (.cells (walkC tb R ra rp a' n' c').toArray T (0, 0)) → Chg [wb] [wb] h h' → KK h') : stH h wb (0 + 35) [.slice a' n' c'] KK :=
 st_mid' (pre := .pointer (some ⟨tb, 0, none⟩) :: ((bi R).map (Value.int .u8) ++ [.map (some ra), .map (some rp)])) (mid := [.slice tA tN tC]) (post := []) hw (by simp [walkC]) (by simp [walkC]) (by simp [bi_len, hR]) rfl hk
end
theorem cWNone (x : WalkAt g N h wb s) (hk : K (.bool false) h) : CallH Tryz.prog id_walk_Walk_none [.pointer (some ⟨wb, 0, none⟩)] K h := by
 obtain ⟨⟨tb, ra, rp, esA, cA, esP, cP, tA, tN, tC, Bt, rfl, d1, d2, d3, d4, d5, d6, hw, ht, ha, hA, hp, hP, hB⟩, hR, _⟩ := x
 exact F_walk_Walk_none_ok ⟨wb, 0, fun _ => rfl, _, fun _ => wk_base hw, hk⟩
theorem cWAsk (x : WalkAt g N h wb s) (sp : Spl g N h) {lv i : Nat} (hl : lv ≤ 4) (hi : i < 2 ^ lv) {v : List UInt8} (hv : v.length = 32)
  (hk : ∀ h', WalkAt g N h' wb { s with A := wAsk s.S s.A (2 ^ lv + i) v } → Stp g N h g N h' → K (.tuple #[]) h') :
  CallH Tryz.prog id_walk_Walk_ask [.pointer (some ⟨wb, 0, none⟩), .agg #[.int .i64 (lv : Int), .int .i64 (i : Int)], .agg (((bi v).map (Value.int .u8) ++ [])).toArray] K h := by
 have hi16 : i < 16 := Nat.lt_of_lt_of_le hi (Nat.pow_le_pow_right (by decide) hl)
 have hk1 : 1 ≤ 2 ^ lv + i := by have := Nat.one_le_two_pow (n := lv); omega
 have hk2 : 2 ^ lv + i < 32 := by
  have : 2 ^ lv ≤ 2 ^ 4 := Nat.pow_le_pow_right (by decide) hl
  omega
 have hap := askP_at lv (by omega) i hi16 hi
 obtain ⟨⟨tb, ra, rp, esA, cA, esP, cP, tA, tN, tC, Bt, rfl, d1, d2, d3, d4, d5, d6, hw, ht, ha, hA, hp, hP, hB⟩, hR, hL⟩ := id x
 have main : CallH Tryz.prog id_tree_Tree_Node [.pointer (some ⟨tb, 0, none⟩), .int .i64 (lv : Int), .int .i64 (i : Int)] (fun v_1 h1 =>
   ∃ t0 : List Int, t0.length = 32 ∧ ∃ t1 : Bool, v_1 = .tuple #[.agg ((t0.map (Value.int .u8) ++ [])).toArray, .bool t1] ∧
   (((!(t0 == bi v)) = true →
     ∃ bv_1 ov_1 : Nat, (some ⟨wb, 0, none⟩ : Option Addr) = some ⟨bv_1, ov_1, none⟩ ∧
     ∃ t_1 : Option Nat, (h1.rds bv_1 (ov_1 + 33) 1 = some [.map t_1]) ∧
     muH (.rec2 .i64 .i64) h1 t_1 (.agg #[.int .i64 (lv : Int), .int .i64 (i : Int)]) (.agg (((bi v).map (Value.int .u8) ++ [])).toArray) fun h2 =>
     K (.tuple #[]) h2) ∧
    ((!(t0 == bi v)) = false →
     K (.tuple #[]) h1))) h := by
  refine cNode (ht.sub sp.sub) hl hi ⟨bi (nd s.S (2 ^ lv + i)), by rw [bi_len, nd_len], true, rfl, fun e => ?_, fun e => ?_⟩
  ·rw [bi_beq] at e
   have e : nd s.S (2 ^ lv + i) ≠ v := by simpa using e
   have hkey : (.agg #[.int .i64 (lv : Int), .int .i64 (i : Int)] : Value) = keyV (askP (2 ^ lv + i)) := by rw [hap]; rfl
   refine ⟨wb, 0, rfl, _, wk_ask hw hR, ra, esA, cA, rfl, ha, hA.kOk, ?_⟩
   have cc : Chg [ra] [ra] h (h.upd ra (.map (upM esA (keyV (askP (2 ^ lv + i))) (hashV v) cA).1.toArray (upM esA (keyV (askP (2 ^ lv + i))) (hashV v) cA).2)) := Chg.upd _
   rw [hkey]
   refine hk _ ⟨⟨tb, ra, rp, _, _, esP, cP, tA, tN, tC, Bt, rfl, d1, d2, d3, d4, d5, d6, cc.keep hw (by simpa using d1), ht, PH.upd_same _ _ _, ?_, cc.keep hp (by simpa using Ne.symm d3), hP, hB.chg cc fun b hb hm => ?_⟩, hR, fun k y hy => ?_⟩ ?_
   ·have : wAsk s.S s.A (2 ^ lv + i) v = upF s.A (2 ^ lv + i) (some v) := by unfold wAsk; rw [if_neg e]
    show AskMapE _ _ (wAsk s.S s.A (2 ^ lv + i) v)
    rw [this]
    exact hA.put hk1 hk2 v
   ·rw [List.mem_singleton] at hm; subst hm; exact d5 hb
   ·have hy : wAsk s.S s.A (2 ^ lv + i) v k = some y := hy
    by_cases ek : k = 2 ^ lv + i
    ·subst ek
     unfold wAsk at hy
     rw [if_neg e, upF_same] at hy; cases hy; exact hv
    ·rw [wAsk_ne ek] at hy; exact hL k y hy
   ·refine sp.chg (cc.sub (fun b hb => by simp at hb; subst hb; simp) fun b hb => .inr hb) fun b hb => ?_
    by_cases hbr : b = ra
    ·subst hbr; exact ⟨_, PH.upd_same _ _ _⟩
    ·obtain ⟨o, ho⟩ := sp.has b hb
     exact ⟨o, cc.keep ho (by simpa using hbr)⟩
  ·rw [bi_beq] at e
   have e : nd s.S (2 ^ lv + i) = v := by simpa using e
   refine hk h ?_ (Stp.refl sp)
   have : wAsk s.S s.A (2 ^ lv + i) v = s.A := by unfold wAsk; rw [if_pos e]
   rw [this]; exact x
 exact F_walk_Walk_ask_ok (by rw [bi_len]; assumption) ⟨wb, 0, rfl, _, wk_base hw, main, main⟩
end
end TL

namespace TL
open Go Go.Proofs
variable {g h : PH} {N : List Nat} {K : Value → PH → Prop} {wb : Nat} {s : WS}
theorem cWFits (x : WalkAt g N h wb s) (sp : Spl g N h) {a0 a1 : Int} {v t : List UInt8} (hv : v.length = 32) (hT : s.T.length ≤ 100000)
  (hno : (∀ k, 1 ≤ k → k < 32 → askP k = (a0, a1) → s.A k ≠ some v) → K (.bool false) h)
  (hyes : ∀ k N' h', 1 ≤ k → k < 32 → askP k = (a0, a1) → s.A k = some v → WalkAt g N' h' wb { s with A := upF s.A k none, T := s.T ++ [t] } → Stp g N h g N' h' → K (.bool true) h') :
  CallH Tryz.prog id_walk_Walk_fits [.pointer (some ⟨wb, 0, none⟩), .agg #[.int .i64 a0, .int .i64 a1], .agg (((bi v).map (Value.int .u8) ++ [])).toArray, .string (mk t)] K h := by
 obtain ⟨⟨tb, ra, rp, esA, cA, esP, cP, tA, tN, tC, Bt, rfl, d1, d2, d3, d4, d5, d6, hw, ht, ha, hA, hp, hP, hB⟩, hR, hL⟩ := id x
 have hkey : (.agg #[.int .i64 a0, .int .i64 a1] : Value) = keyV (a0, a1) := rfl
 by_cases hk : ∃ k, 1 ≤ k ∧ k < 32 ∧ askP k = (a0, a1)
 ·obtain ⟨k, k1, k2, hka⟩ := hk
  have hva := hA.at_ k k1 k2
  cases hAk : s.A k with
  | none =>
   refine F_walk_Walk_fits_ok (by rw [bi_len]; exact hv) ⟨wb, 0, rfl, _, wk_ask hw hR, List.replicate 32 0, by simp, false, ⟨esA, ⟨⟨cA, ha⟩, hA.kOk⟩, ?_⟩, fun _ => hno fun j j1 j2 hj e => ?_, fun e => by simp at e⟩
   ·rw [lk_va, hkey, ← hka, hva, hAk]; rfl
   ·have : j = k := askP_inj j j2 k k2 j1 k1 (hj.trans hka.symm)
    subst this; rw [hAk] at e; cases e
  | some y =>
   have hy := hL k y hAk
   refine F_walk_Walk_fits_ok (by rw [bi_len]; exact hv) ⟨wb, 0, rfl, _, wk_ask hw hR, bi y, by rw [bi_len]; exact hy, true, ⟨esA, ⟨⟨cA, ha⟩, hA.kOk⟩, ?_⟩, fun e => hno fun j j1 j2 hj e2 => ?_, fun e => ?_⟩
   ·rw [lk_va, hkey, ← hka, hva, hAk]; rfl
   ·have : j = k := askP_inj j j2 k k2 j1 k1 (hj.trans hka.symm)
    subst this; rw [hAk] at e2; cases e2
    simp at e
   ·rw [bi_beq] at e
    have e : y = v := by simpa using e
    subst e
    refine ⟨wb, 0, rfl, _, wk_ask hw hR, ?_⟩
    unfold mdH
    refine ⟨fun e => (by cases e), fun r0 er => ?_⟩
    cases er
    refine ⟨esA, cA, ha, hA.kOk, wb, 0, rfl, ?_⟩
    have c1 : Chg [ra] [ra] h (h.upd ra (.map (dlM esA (.agg #[.int .i64 a0, .int .i64 a1])).toArray cA)) := Chg.upd _
    generalize hh1 : h.upd ra (.map (dlM esA (.agg #[.int .i64 a0, .int .i64 a1])).toArray cA) = h1 at c1 ⊢
    have ha1 : h1 ra = some (.map (dlM esA (.agg #[.int .i64 a0, .int .i64 a1])).toArray cA) := by rw [← hh1]; exact PH.upd_same _ _ _
    have hw1 := c1.keep hw (by simpa using d1)
    have hp1 := c1.keep hp (by simpa using Ne.symm d3)
    have hB1 := hB.chg c1 fun b hb hm => by rw [List.mem_singleton] at hm; subst hm; exact d5 hb
    have htn := hB.1
    refine ⟨_, _, _, wk_text hw1 hR, hB1.append (new := [t]) rfl rfl rfl (by omega) fun a2 n2 B2 h2 hb2 c2 _ => ⟨wb, 0, rfl, ?_⟩⟩
    have hw2 := c2.keep hw1 d4
    have ha2 := c2.keep ha1 d5
    have hp2 := c2.keep hp1 d6
    refine wk_setText hw2 hR fun h3 hw3 c3 => ?_
    have nin : ∀ {b : Nat} {o : Obj}, h1 b = some o → b ∉ Bt → b ∉ B2 := fun hb hn hm => by
     rcases c2.2 _ hm with h4 | h4
     ·exact hn h4
     ·rw [hb] at h4; cases h4
    have n1 := nin hw1 d4
    have n2' := nin ha1 d5
    have n3 := nin hp1 d6
    have ha3 := c3.keep ha2 (by simpa using Ne.symm d1)
    have hp3 := c3.keep hp2 (by simpa using Ne.symm d2)
    have hb3 := hb2.chg c3 fun b hb hm => by rw [List.mem_singleton] at hm; subst hm; exact n1 hb
    refine hyes k (wb :: ra :: rp :: B2) h3 k1 k2 hka hAk ⟨⟨tb, ra, rp, _, _, esP, cP, a2, tN + 1, n2, B2, rfl, d1, d2, d3, n1, n2', n3, hw3, ht, ha3, ?_, hp3, hP, hb3⟩, hR, fun j y hy => ?_⟩ ?_
    ·rw [hkey, ← hka]; exact hA.del k1 k2
    ·have hy : upF s.A k none j = some y := hy
     by_cases ej : j = k
     ·subst ej; rw [upF_same] at hy; cases hy
     ·rw [upF_ne _ _ ej] at hy; exact hL j y hy
    ·have C1 : Chg (wb :: ra :: rp :: Bt) (wb :: ra :: rp :: Bt) h h1 := c1.sub (fun b hb => by simp at hb; subst hb; simp) fun b hb => .inr hb
     have C2 : Chg (wb :: ra :: rp :: Bt) (wb :: ra :: rp :: B2) h1 h2 := c2.right (C := [wb, ra, rp])
     have C3 : Chg (wb :: ra :: rp :: B2) (wb :: ra :: rp :: B2) h2 h3 := c3.sub (fun b hb => by simp at hb; subst hb; simp) fun b hb => .inr hb
     refine sp.chg ((C1.trans C2).trans C3) fun b hb => ?_
     simp only [List.mem_cons] at hb
     rcases hb with rfl | rfl | rfl | hb
     ·exact ⟨_, hw3⟩
     ·exact ⟨_, ha3⟩
     ·exact ⟨_, hp3⟩
     ·exact hb3.has b hb
 ·have hout : va esA (keyV (a0, a1)) = none := hA.out fun k k1 k2 e => hk ⟨k, k1, k2, e⟩
  refine F_walk_Walk_fits_ok (by rw [bi_len]; exact hv) ⟨wb, 0, rfl, _, wk_ask hw hR, List.replicate 32 0, by simp, false, ⟨esA, ⟨⟨cA, ha⟩, hA.kOk⟩, ?_⟩, fun _ => hno fun j j1 j2 hj _ => hk ⟨j, j1, j2, hj⟩, fun e => by simp at e⟩
  rw [lk_va, hkey, hout]
theorem nwM {K : Nat → PH → Prop} (hk : ∀ b h', h b = none → h' b = some (.map #[] 0) → Chg [] [b] h h' → K b h') : newH h (.map #[] 0) K :=
 fun b hb => hk b _ hb (PH.upd_same ..) (Chg.new _ hb)
def wNew0 (S : List PrR) (R : List UInt8) : WS := ⟨S, R, fun _ => none, fun _ => none, textsT S⟩
def NewJ (g : PH) (N : List Nat) (h : PH) (S : List PrR) (R : List UInt8) (st : Option Addr × Unit) (h' : PH) : Prop := ∃ wb N', st.1 = some ⟨wb, 0, none⟩ ∧ WalkAt g N' h' wb (wNew0 S R) ∧ Stp g N h g (N' ++ N) h' ∧ Dj N' N
theorem newFin {M Bt : List Nat} {h5 : PH} {tb ra rp : Nat} {tA : Option Addr} {tN tC : Nat} {S : List PrR} {R : List UInt8} (sp : Spl g N h) (c : Chg [] M h h5) (hM : ∀ b ∈ ra :: rp :: Bt, b ∈ M) (hR : R.length = 32) (ht : Tr tb g S) (ha : h5 ra = some (.map #[] 0)) (hp : h5 rp = some (.map #[] 0))
  (d3 : ra ≠ rp) (d5 : ra ∉ Bt) (d6 : rp ∉ Bt) (hB : Buf EncS 9 Bt h5 tA tN tC (textsT S)) :
  newH h5 (.cells (walkC tb R ra rp tA tN tC).toArray T_walk_Walk (0, 0)) fun bv h6 => NewJ g N h S R (some ⟨bv, 0, none⟩, ()) h6 := by
 refine nwL fun wb h6 hbn hw c6 => ?_
 have n1 : wb ≠ ra := fun e => by subst e; rw [ha] at hbn; cases hbn
 have n2 : wb ≠ rp := fun e => by subst e; rw [hp] at hbn; cases hbn
 have n4 : wb ∉ Bt := fun hm => by
  obtain ⟨o, ho⟩ := hB.has wb hm
  rw [ho] at hbn; cases hbn
 have ha6 := c6.sub0 _ _ ha
 have hp6 := c6.sub0 _ _ hp
 have hB6 := hB.sub c6.sub0
 have hH : Has (wb :: ra :: rp :: Bt) h6 := fun b hb => by
  simp only [List.mem_cons] at hb
  rcases hb with rfl | rfl | rfl | hb
  ·exact ⟨_, hw⟩
  ·exact ⟨_, ha6⟩
  ·exact ⟨_, hp6⟩
  ·exact hB6.has b hb
 have c7 : Chg [] (wb :: ra :: rp :: Bt) h h6 := ⟨fun b o _ e => c6.sub0 _ _ (c.sub0 _ _ e), fun b hb => by
  rcases List.mem_cons.1 hb with rfl | hb
  ·cases e : h b with
   | none => exact .inr rfl
   | some o => rw [c.sub0 _ _ e] at hbn; cases hbn
  ·exact c.2 b (hM b hb)⟩
 exact ⟨wb, wb :: ra :: rp :: Bt, rfl, ⟨⟨tb, ra, rp, [], 0, [], 0, tA, tN, tC, Bt, rfl, n1, n2, d3, n4, d5, d6, hw, ht, ha6, AskMapE.new, hp6, PartMapE.new, hB6⟩, hR, fun _ _ e => by cases e⟩, sp.own c7 hH, Dj.new sp.has c7⟩
end TL

namespace TL
open Go Go.Proofs
variable {g h : PH} {N : List Nat} {K : Value → PH → Prop} {wb : Nat} {s : WS}
theorem Chg.more {M M' : List Nat} {h h' h'' : PH} (c : Chg [] M h h') (c' : Chg [] M' h' h'') : Chg [] (M' ++ M) h h'' := ⟨fun b o _ e => c'.sub0 _ _ (c.sub0 _ _ e), fun b hb => by
 rcases List.mem_append.1 hb with hb | hb
 ·rcases c'.2 b hb with h1 | h1
  ·cases h1
  ·cases e : h b with
   | none => exact .inr rfl
   | some o => rw [c.sub0 _ _ e] at h1; cases h1
 ·exact c.2 b hb⟩
theorem notNew {B : List Nat} {h h' : PH} {b : Nat} {o : Obj} (c : Chg [] B h h') (e : h b = some o) : b ∉ B := fun hm => by
 rcases c.2 b hm with h1 | h1
 ·cases h1
 ·rw [e] at h1; cases h1
theorem ne_new {h : PH} {b b' : Nat} {o : Obj} (e : h b = some o) (n : h b' = none) : b ≠ b' := fun hh => by subst hh; rw [e] at n; cases n
theorem cWNew (sp : Spl g N h) {lA : Option Addr} {lC : Nat} {l : List PrR} (hl : SR EncPr g lA l) (hn : l.length ≤ 1000) (hs : ∀ x ∈ l, x.p.length ≤ 1000000) {R : List UInt8} (hR : R.length = 32)
  (hno : ¬ (mayB l = true ∧ l.length ≤ 48) → ∀ e : Int, (e = 1 ∨ e = 6) → ∀ g' h', Stp g N h g' N h' → (∀ b ∈ N, ∀ o, h b = some o → h' b = some o) → K (.tuple #[.pointer none, .int .i64 e]) h')
  (hyes : mayB l = true → l.length ≤ 48 → ∀ wb N' g' h', WalkAt g' N' h' wb (wNew l R) → Stp g N h g' (N' ++ N) h' → Dj N' N → K (.tuple #[.pointer (some ⟨wb, 0, none⟩), .int .i64 (0 : Int)]) h') :
  CallH Tryz.prog id_walk_New [.slice lA l.length lC, .agg (((bi R).map (Value.int .u8) ++ [])).toArray] K h := by
 refine F_walk_New_ok (by rw [bi_len]; exact hR) (sp.call (K := fun v g' => g.Sub g' ∧ ((mayB l = true ∧ l.length ≤ 48 ∧ ∃ b, Tr b g' l ∧ v = .tuple #[.pointer (some ⟨b, 0, none⟩), .int .i64 (0 : Int)]) ∨ (¬ (mayB l = true ∧ l.length ≤ 48) ∧ ∃ e : Int, (e = 1 ∨ e = 6) ∧ v = .tuple #[.pointer none, .int .i64 e])))
  (cOf3 hl hn hs (fun hok b h' ht _ c => ⟨c.sub0, .inl ⟨hok.1, hok.2, b, ht, rfl⟩⟩) fun hno e he _ => ⟨PH.Sub.rf _, .inr ⟨hno, e, he, rfl⟩⟩) ?_)
 rintro _ g1 h1 ⟨hgs, ⟨hm, h48, tb, ht, rfl⟩ | ⟨hnn, e, he, rfl⟩⟩ st
 ·obtain ⟨st1, _⟩ := st hgs
  have sp1 := st1.spl
  have tr : ∀ {h' : PH}, h1.Sub h' → Tr tb h' l := fun hs => ht.sub (sp1.sub.tr hs)
  refine ⟨_, _, rfl, fun e => by simp at e, fun _ => ⟨NewJ g1 N h1 l R, ⟨nwM fun ra h3 n3 e3 c3 => ⟨nwM fun rp h4 n4 e4 c4 => cTexts (tr (c3.more c4).sub0) fun tA tC Bt h5 hb c5 => ⟨_, _, _, rfl, ?_⟩,
   cTexts (tr c3.sub0) fun tA tC Bt h4 hb c4 => ⟨_, _, _, rfl, nwM fun rp h5 n5 e5 c5 => ?_⟩⟩, nwM fun rp h3 n3 e3 c3 => ⟨nwM fun ra h4 n4 e4 c4 => cTexts (tr (c3.more c4).sub0) fun tA tC Bt h5 hb c5 => ⟨_, _, _, rfl, ?_⟩,
   cTexts (tr c3.sub0) fun tA tC Bt h4 hb c4 => ⟨_, _, _, rfl, nwM fun ra h5 n5 e5 c5 => ?_⟩⟩, cTexts (tr (PH.Sub.rf _)) fun tA tC Bt h3 hb c3 => ⟨_, _, _, rfl, nwM fun ra h4 n4 e4 c4 => nwM fun rp h5 n5 e5 c5 => ?_, nwM fun rp h4 n4 e4 c4 => nwM fun ra h5 n5 e5 c5 => ?_⟩⟩, ?_⟩⟩
  ·exact newFin sp1 ((c3.more c4).more c5) (fun b hb => by simp only [List.mem_cons, List.mem_append, List.not_mem_nil, or_false] at hb ⊢; rcases hb with rfl | rfl | hb <;> simp [*]) hR ht (c5.sub0 _ _ (c4.sub0 _ _ e3)) (c5.sub0 _ _ e4) (ne_new e3 n4) (notNew c5 (c4.sub0 _ _ e3)) (notNew c5 e4) hb
  ·exact newFin sp1 ((c3.more c4).more c5) (fun b hb => by simp only [List.mem_cons, List.mem_append, List.not_mem_nil, or_false] at hb ⊢; rcases hb with rfl | rfl | hb <;> simp [*]) hR ht (c5.sub0 _ _ (c4.sub0 _ _ e3)) e5 (ne_new (c4.sub0 _ _ e3) n5) (notNew c4 e3) (fun hm => by obtain ⟨o, ho⟩ := hb.has _ hm; rw [ho] at n5; cases n5) (hb.sub c5.sub0)
  ·exact newFin sp1 ((c3.more c4).more c5) (fun b hb => by simp only [List.mem_cons, List.mem_append, List.not_mem_nil, or_false] at hb ⊢; rcases hb with rfl | rfl | hb <;> simp [*]) hR ht (c5.sub0 _ _ e4) (c5.sub0 _ _ (c4.sub0 _ _ e3)) (Ne.symm (ne_new e3 n4)) (notNew c5 e4) (notNew c5 (c4.sub0 _ _ e3)) hb
  ·exact newFin sp1 ((c3.more c4).more c5) (fun b hb => by simp only [List.mem_cons, List.mem_append, List.not_mem_nil, or_false] at hb ⊢; rcases hb with rfl | rfl | hb <;> simp [*]) hR ht e5 (c5.sub0 _ _ (c4.sub0 _ _ e3)) (Ne.symm (ne_new (c4.sub0 _ _ e3) n5)) (fun hm => by obtain ⟨o, ho⟩ := hb.has _ hm; rw [ho] at n5; cases n5) (notNew c4 e3) (hb.sub c5.sub0)
  ·exact newFin sp1 ((c3.more c4).more c5) (fun b hb => by simp only [List.mem_cons, List.mem_append, List.not_mem_nil, or_false] at hb ⊢; rcases hb with rfl | rfl | hb <;> simp [*]) hR ht (c5.sub0 _ _ e4) e5 (ne_new e4 n5) (fun hm => by obtain ⟨o, ho⟩ := hb.has _ hm; rw [ho] at n4; cases n4) (fun hm => by obtain ⟨o, ho⟩ := hb.has _ hm; rw [c4.sub0 _ _ ho] at n5; cases n5) ((hb.sub c4.sub0).sub c5.sub0)
  ·exact newFin sp1 ((c3.more c4).more c5) (fun b hb => by simp only [List.mem_cons, List.mem_append, List.not_mem_nil, or_false] at hb ⊢; rcases hb with rfl | rfl | hb <;> simp [*]) hR ht e5 (c5.sub0 _ _ e4) (Ne.symm (ne_new e4 n5)) (fun hm => by obtain ⟨o, ho⟩ := hb.has _ hm; rw [c4.sub0 _ _ ho] at n5; cases n5) (fun hm => by obtain ⟨o, ho⟩ := hb.has _ hm; rw [ho] at n4; cases n4) ((hb.sub c4.sub0).sub c5.sub0)
  ·rintro ⟨w, u⟩ h2 ⟨wb, N', hw, x, st2, d⟩
   dsimp only at hw
   subst hw
   refine cWAsk (lv := 0) (i := 0) x st2.spl.left (by decide) (by decide) hR fun h6 x6 st6 => ?_
   obtain ⟨sf, d6⟩ := st6.frame st2.spl d.symm
   exact hyes hm h48 wb N' g1 h6 x6 (st1.trans (st2.trans sf)) d
 ·obtain ⟨st1, keep1⟩ := st hgs
  refine ⟨_, _, rfl, fun _ => hno hnn e he g1 h1 st1 keep1, fun e2 => ?_⟩
  rcases he with rfl | rfl <;> simp at e2
theorem cWTexts (x : WalkAt g N h wb s) (hn : s.T.length ≤ 1000000) (hk : ∀ a' c' B' h', Buf EncS 9 B' h' a' s.T.length c' s.T → Chg [] B' h h' → K (.slice a' s.T.length c') h') : CallH Tryz.prog id_walk_Walk_Texts [.pointer (some ⟨wb, 0, none⟩)] K h := by
 refine F_walk_Walk_Texts_ok (cWNone x ⟨_, rfl, fun e => (by cases e), fun _ => ?_⟩)
 obtain ⟨⟨tb, ra, rp, esA, cA, esP, cP, tA, tN, tC, Bt, rfl, d1, d2, d3, d4, d5, d6, hw, ht, ha, hA, hp, hP, hB⟩, hR, hL⟩ := x
 have hl := hB.1
 subst hl
 exact ⟨wb, 0, rfl, _, _, _, wk_text hw hR, cCloneStr hB.sr hn fun a' c' B' h' hb' hc' => ⟨_, _, _, rfl, hk a' c' B' h' hb' hc'⟩⟩
theorem cWRoot (x : WalkAt g N h wb s) (hk : K (.agg (((bi s.R).map (Value.int .u8) ++ [])).toArray) h) : CallH Tryz.prog id_walk_Walk_Root [.pointer (some ⟨wb, 0, none⟩)] K h := by
 refine F_walk_Walk_Root_ok (cWNone x ⟨_, rfl, fun e => (by cases e), fun _ => ?_⟩)
 obtain ⟨⟨tb, ra, rp, esA, cA, esP, cP, tA, tN, tC, Bt, rfl, d1, d2, d3, d4, d5, d6, hw, ht, ha, hA, hp, hP, hB⟩, hR, hL⟩ := x
 exact ⟨wb, 0, rfl, bi s.R, by rw [bi_len]; exact hR, wk_root hw hR, hk⟩
end TL

namespace TL
open Go Go.Proofs
variable {g h : PH} {N : List Nat} {K : Value → PH → Prop} {wb : Nat} {s : WS}
theorem askP_16 : ∀ k : Nat, k < 32 → 1 ≤ k → (k < 16 ↔ (askP k).1 < 4) := by decide +kernel
theorem askP_nn : ∀ k : Nat, k < 32 → 1 ≤ k → 0 ≤ (askP k).1 ∧ (askP k).1 ≤ 4 ∧ 0 ≤ (askP k).2 ∧ (askP k).2 < 16 := by decide +kernel
theorem askP_kids : ∀ k : Nat, k < 16 → 1 ≤ k → k.log2 + 1 ≤ 4 ∧ 2 * (k - 2 ^ k.log2) + 1 < 2 ^ (k.log2 + 1) ∧ 2 ^ (k.log2 + 1) + 2 * (k - 2 ^ k.log2) = 2 * k := by decide +kernel
theorem cWNode (x : WalkAt g N h wb s) (sp : Spl g N h) {lv i : Int} {a b : List UInt8} (ha : a.length = 32) (hb : b.length = 32) (hT : s.T.length ≤ 100000)
  (hno : (∀ k, 1 ≤ k → k < 16 → askP k = (lv, i) → s.A k ≠ some (shaN (innT a b))) → ∀ h', WalkAt g N h' wb s → Stp g N h g N h' → K (.bool false) h')
  (hyes : ∀ k N' h', 1 ≤ k → k < 16 → askP k = (lv, i) → s.A k = some (shaN (innT a b)) → WalkAt g N' h' wb (wIn s k a b) → Stp g N h g N' h' → K (.bool true) h') :
  CallH Tryz.prog id_walk_Walk_Node [.pointer (some ⟨wb, 0, none⟩), .int .i64 lv, .int .i64 i, .agg (((bi a).map (Value.int .u8) ++ [])).toArray, .agg (((bi b).map (Value.int .u8) ++ [])).toArray] K h := by
 refine F_walk_Walk_Node_ok (by rw [bi_len, ha]) (by rw [bi_len, hb]) (nwL fun b1 h1 n1 hb1 c1 => nwL fun b2 h2 n2 hb2 c2 => ?_)
 have s2 : h.Sub h2 := c1.sub0.tr c2.sub0
 have hb1 := c2.sub0 _ _ hb1
 have nb1 : b1 ∉ N := fun hm => by obtain ⟨o, ho⟩ := sp.has _ hm; rw [ho] at n1; cases n1
 have nb2 : b2 ∉ N := fun hm => by obtain ⟨o, ho⟩ := sp.has _ hm; rw [c1.sub0 _ _ ho] at n2; cases n2
 have st2 := sp.grow s2
 have x2 : WalkAt g N h2 wb s := x.keep (PH.Sub.rf _) fun q _ o e => s2 q o e
 refine cWNone x2 ⟨_, rfl, fun e => hno (fun k k1 k2 hk _ => ?_) h2 x2 st2, fun e => ?_⟩
 ·have := askP_nn k (by omega) k1
  have h16 := (askP_16 k (by omega) k1).1 k2
  rw [hk] at this h16
  simp only [Bool.false_or, Bool.or_eq_true, decide_eq_true_eq] at e
  dsimp only at this h16
  omega
 ·have str1 : ∀ {h' : PH}, h2.Sub h' → strH h' (slA (some ⟨b1, 0, none⟩ : Option Addr) 1 (0 : Int) ((32 : Nat) : Int)) (((32 : Nat) : Int).toNat - (0 : Int).toNat) (mk a) := fun hs => by
   have := (sr_bi (hs _ _ hb1)).str
   rw [ha] at this; exact this
  have str2 : ∀ {h' : PH}, h2.Sub h' → strH h' (slA (some ⟨b2, 0, none⟩ : Option Addr) 1 (0 : Int) ((32 : Nat) : Int)) (((32 : Nat) : Int).toNat - (0 : Int).toNat) (mk b) := fun hs => by
   have := (sr_bi (hs _ _ hb2)).str
   rw [hb] at this; exact this
  have rd1 : ∀ {h' : PH}, h' b1 = h2 b1 → h'.rds b1 0 32 = some ((bi a).map (Value.int .u8) ++ []) := fun he => by
   rw [hb1] at he
   rw [List.append_nil] at he ⊢
   exact rds_mid' (pre := []) (post := []) he (by simp) rfl (by rw [List.length_map, bi_len, ha])
  have rd2 : ∀ {h' : PH}, h' b2 = h2 b2 → h'.rds b2 0 32 = some ((bi b).map (Value.int .u8) ++ []) := fun he => by
   rw [hb2] at he
   rw [List.append_nil] at he ⊢
   exact rds_mid' (pre := []) (post := []) he (by simp) rfl (by rw [List.length_map, bi_len, hb])
  refine ⟨bi a, by rw [bi_len, ha], rd1 rfl, bi b, by rw [bi_len, hb], rd2 rfl, by decide, mk a, str1 (PH.Sub.rf _), ?_, by decide, mk b, str2 (PH.Sub.rf _), ?_, cInner ha hb fun h4 s4 => ⟨bi (shaN (innT a b)), by rw [bi_len, shaN_len], rfl, str2 s4, str1 s4, ?_⟩⟩
  ·have : (mk a).size = 32 := by rw [size_mk, ha]
   rw [this]; decide
  ·rw [show (⟨#[78]⟩ : ByteArray) = mk [78] from rfl, mk_append, size_mk, size_mk, List.length_append, ha, hb]; decide
  ·rw [show (⟨#[78]⟩ : ByteArray) = mk [78] from rfl, mk_append, mk_append]
   have st4 := st2.trans (st2.spl.grow s4)
   have x4 : WalkAt g N h4 wb s := x2.keep (PH.Sub.rf _) fun q _ o e => s4 q o e
   refine cWFits (t := innT a b) x4 st4.spl (shaN_len _) hT (fun hn => ⟨_, rfl, fun _ => hno (fun k k1 k2 hk => hn k k1 (by omega) hk) h4 x4 st4, fun e => by simp at e⟩) fun k N5 h5 k1 k2 hk hA x5 st5 => ⟨_, rfl, fun e => by simp at e, fun _ => ?_⟩
   have k16 : k < 16 := (askP_16 k k2 k1).2 (by
    rw [hk]
    simp only [Bool.false_or, Bool.or_eq_false_iff, decide_eq_false_iff_not] at e
    dsimp only; omega)
   obtain ⟨q1, q2, q3⟩ := askP_kids k k16 k1
   have hlv : lv = ((k.log2 : Nat) : Int) := (congrArg Prod.fst hk).symm
   have hi : i = ((k - 2 ^ k.log2 : Nat) : Int) := (congrArg Prod.snd hk).symm
   have w1 : IntKind.wrap .i64 (lv + 1) = ((k.log2 + 1 : Nat) : Int) := by rw [hlv, wrap64] <;> omega
   have w2 : IntKind.wrap .i64 ((2 : Int) * i) = ((2 * (k - 2 ^ k.log2) : Nat) : Int) := by rw [hi, wrap64] <;> omega
   have w3 : IntKind.wrap .i64 (((2 * (k - 2 ^ k.log2) : Nat) : Int) + 1) = ((2 * (k - 2 ^ k.log2) + 1 : Nat) : Int) := by rw [wrap64] <;> omega
   rw [w1, w2, w3]
   have e1 : h5 b1 = h2 b1 := by
    have := st5.chg.keep (s4 _ _ hb1) nb1
    rw [hb1]; exact this
   have e2 : h5 b2 = h2 b2 := by
    have := st5.chg.keep (s4 _ _ hb2) nb2
    rw [hb2]; exact this
   have n25 : b2 ∉ N5 := fun hm => by
    rcases st5.chg.2 b2 hm with h6 | h6
    ·exact nb2 h6
    ·rw [s4 _ _ hb2] at h6; cases h6
   refine ⟨bi a, by rw [bi_len, ha], rd1 e1, cWAsk x5 st5.spl q1 (by omega) ha fun h6 x6 st6 => ⟨bi b, by rw [bi_len, hb], rd2 ?_, ?_⟩⟩
   ·have := st6.chg.keep (o := .cells ((bi b).map (Value.int .u8) ++ []).toArray T_api_Hash (0, 0)) (by rw [e2]; exact hb2) n25
    rw [this, hb2]
   ·refine cWAsk x6 st6.spl q1 q2 hb fun h7 x7 st7 => ?_
    have r1 : 2 ^ (k.log2 + 1) + 2 * (k - 2 ^ k.log2) = 2 * k := q3
    have r2 : 2 ^ (k.log2 + 1) + (2 * (k - 2 ^ k.log2) + 1) = 2 * k + 1 := by omega
    rw [r1, r2] at x7
    exact hyes k N5 h7 k1 k16 hk hA x7 (st4.trans (st5.trans (st6.trans st7)))
end TL

namespace TL
open Go Go.Proofs
variable {g h : PH} {N : List Nat} {K : Value → PH → Prop} {wb : Nat} {s : WS}
theorem cPageOut {lA : Option Addr} {lN lC : Nat} {i : Int} (hi : ¬ (0 ≤ i ∧ i < 16)) (hk : K (.tuple #[.string (⟨#[]⟩ : ByteArray), .int .i64 (1 : Int)]) h) : CallH Tryz.prog id_bucket_Page [.int .i64 i, .slice lA lN lC] K h := by
 have hf : (decide (i ≥ (0 : Int)) && decide (i < (16 : Int))) = false := by
  rw [Bool.eq_false_iff]
  intro e
  simp only [Bool.and_eq_true, decide_eq_true_eq] at e
  omega
 refine F_bucket_Page_ok ⟨fun _ _ => False, F_bucket_bucket_ok ⟨_, rfl, fun e => ?_, fun _ => hk⟩, fun _ _ h => h.elim⟩
 rw [hf] at e; cases e
theorem pgOk_iff {i : Nat} {l : List PrR} : (mayB l = true ∧ (partB l i).length = l.length ∧ l.length ≤ 48) ↔ PgOk i l := by
 refine ⟨fun ⟨h1, h2, h3⟩ => ⟨h1, fun x hx => ?_, h3⟩, fun ⟨h1, h2, h3⟩ => ⟨h1, ?_, h3⟩⟩
 ·have h4 : ∀ y ∈ l, (bkt y.p == i) = true := List.length_filter_eq_length_iff.1 h2
  simpa using h4 x hx
 ·exact List.length_filter_eq_length_iff.2 fun y hy => by simp [h2 y hy]
theorem cWPage (x : WalkAt g N h wb s) (sp : Spl g N h) {i : Int} {lA : Option Addr} {lC : Nat} {l : List PrR} (hl : SR EncPr g lA l) (hn : l.length ≤ 1000) (hs : ∀ x ∈ l, x.p.length ≤ 1000000) (hT : s.T.length ≤ 100000)
  (hno : (∀ k : Nat, k < 16 → i = k → PgOk k l → s.A (16 + k) ≠ some (shaN (76 :: pageL l))) → ∀ h', WalkAt g N h' wb s → Stp g N h g N h' → K (.bool false) h')
  (hyes : ∀ (k : Nat) g' N' h', k < 16 → i = k → PgOk k l → s.A (16 + k) = some (shaN (76 :: pageL l)) → WalkAt g' N' h' wb (wPg s k l) → Stp g N h g' N' h' → K (.bool true) h') :
  CallH Tryz.prog id_walk_Walk_Page [.pointer (some ⟨wb, 0, none⟩), .int .i64 i, .slice lA l.length lC] K h := by
 refine F_walk_Walk_Page_ok (cWNone x ⟨_, rfl, fun e => (by cases e), fun _ => ?_⟩)
 by_cases hi : ¬ (0 ≤ i ∧ i < 16)
 ·exact cPageOut hi ⟨_, _, rfl, fun e => by simp at e, fun _ => hno (fun k hk e _ => absurd (show 0 ≤ i ∧ i < 16 by omega) hi) h x (Stp.refl sp)⟩
 have hi : 0 ≤ i ∧ i < 16 := Classical.not_not.1 hi
 obtain ⟨k, rfl⟩ : ∃ k : Nat, i = k := ⟨i.toNat, by omega⟩
 have hk : k < 16 := by omega
 refine cPage hk (hl.sub sp.sub) (by omega) hs fun h2 s2 => ⟨_, _, rfl, fun e => ?_, fun e => ?_⟩
 ·have hok : PgOk k l := by
   refine pgOk_iff.1 ?_
   unfold pageV at e
   split at e
   ·rename_i hh
    split at e
    ·rename_i h48; exact ⟨hh.1, hh.2, h48⟩
    ·simp at e
   ·simp at e
  have hpv := page_ok hok
  rw [hpv]
  dsimp only
  have hpl := page_len hok
  have st2 := sp.grow s2
  have x2 : WalkAt g N h2 wb s := x.keep (PH.Sub.rf _) fun q _ o e => s2 q o e
  refine cLeaf (by omega) fun h3 s3 => ⟨bi (shaN (76 :: pageL l)), by rw [bi_len, shaN_len], rfl, ?_, ?_⟩
  ·rw [size_mk]; show ((1 + (pageL l).length : Nat) : Int) ≤ _; omega
  rw [show (⟨#[76]⟩ : ByteArray) = mk [76] from rfl, mk_append]
  have st3 := st2.trans (st2.spl.grow s3)
  have x3 : WalkAt g N h3 wb s := x2.keep (PH.Sub.rf _) fun q _ o e => s3 q o e
  have hap : askP (2 ^ 4 + k) = (4, (k : Int)) := askP_at 4 (by decide) k hk hk
  refine cWFits (t := 76 :: pageL l) x3 st3.spl (shaN_len _) hT (fun hn => ⟨_, rfl, fun _ => hno (fun j _ ej _ => ?_) h3 x3 st3, fun e => by simp at e⟩) fun j N5 h5 j1 j2 hj hA x5 st5 => ⟨_, rfl, fun e => by simp at e, fun _ => ?_⟩
  ·have : j = k := by omega
   subst this
   exact hn (16 + j) (by omega) (by omega) hap
  have hjk : j = 16 + k := askP_inj j j2 (2 ^ 4 + k) (show 16 + k < 32 by omega) j1 (show 1 ≤ 16 + k by omega) (hj.trans hap.symm)
  subst hjk
  obtain ⟨⟨tb, ra, rp, esA, cA, esP, cP, tA, tN, tC, Bt, rfl, d1, d2, d3, d4, d5, d6, hw, ht, ha, hA5, hp, hP, hB⟩, hR, hL⟩ := x5
  refine ⟨wb, 0, rfl, _, wk_part hw hR, cClonePr (hl.sub st5.spl.sub) hn fun a6 c6 B6 h6 hb6 cc6 => ⟨_, _, _, rfl, wk_part (cc6.sub0 _ _ hw) hR, rp, esP, cP, rfl, cc6.sub0 _ _ hp, hP.key, ?_⟩⟩
  have st6 := st5.spl.new cc6
  have hsr : SR EncPr (PH.plus g h6 B6) a6 l := (hb6.keep fun b hb o e => by rw [plus_in hb]; exact e).sr
  have hw6 := cc6.sub0 _ _ hw
  have ha6 := cc6.sub0 _ _ ha
  have hB6 := hB.sub cc6.sub0
  have cc : Chg [rp] [rp] h6 (h6.upd rp (.map (upM esP (.int .i64 (k : Int)) (.slice a6 l.length c6) cP).1.toArray (upM esP (.int .i64 (k : Int)) (.slice a6 l.length c6) cP).2)) := Chg.upd _
  have hw7 := cc.keep hw6 (by simpa using d2)
  have ha7 := cc.keep ha6 (by simpa using d3)
  have hB7 := hB6.chg cc fun b hb hm => by rw [List.mem_singleton] at hm; subst hm; exact d6 hb
  have st7 := st6.spl.chg (cc.sub (C := wb :: ra :: rp :: Bt) (fun b hb => by simp at hb; subst hb; simp) fun b hb => .inr hb) (fun b hb => by
   simp only [List.mem_cons] at hb
   rcases hb with rfl | rfl | rfl | hb
   ·exact ⟨_, hw7⟩
   ·exact ⟨_, ha7⟩
   ·exact ⟨_, PH.upd_same _ _ _⟩
   ·exact hB7.has b hb)
  exact hyes k _ (wb :: ra :: rp :: Bt) _ hk rfl hok hA ⟨⟨tb, ra, rp, esA, cA, _, _, tA, tN, tC, Bt, rfl, d1, d2, d3, d4, d5, d6, hw7, ht.sub st6.gs, ha7, hA5, PH.upd_same _ _ _, (hP.sub st6.gs).put hk hsr, hB7⟩, hR, hL⟩ (st3.trans (st5.trans (st6.trans st7)))
 ·refine hno (fun j _ ej hj => ?_) h2 (x.keep (PH.Sub.rf _) fun q _ o e => s2 q o e) (sp.grow s2)
  have : j = k := by omega
  subst this
  rw [page_ok hj] at e
  simp at e
end TL

namespace TL
open Go Go.Proofs
variable {g h : PH} {N : List Nat} {K : Value → PH → Prop} {wb : Nat} {s : WS}
theorem ltA_ext : ∀ {l m : List (Int × Int)}, l.Pairwise ltA → m.Pairwise ltA → (∀ x, x ∈ l ↔ x ∈ m) → l = m
 | [], [], _, _, _ => rfl
 | [], b :: m, _, _, h => by have := (h b).2 List.mem_cons_self; cases this
 | a :: l, [], _, _, h => by have := (h a).1 List.mem_cons_self; cases this
 | a :: l, b :: m, h1, h2, h => by
  obtain ⟨h1, h1'⟩ := List.pairwise_cons.1 h1
  obtain ⟨h2, h2'⟩ := List.pairwise_cons.1 h2
  have irr : ∀ x : Int × Int, ¬ ltA x x := fun x => by unfold ltA; omega
  have e : a = b := by
   rcases List.mem_cons.1 ((h a).1 List.mem_cons_self) with e | e
   ·exact e
   ·rcases List.mem_cons.1 ((h b).2 List.mem_cons_self) with e2 | e2
    ·exact e2.symm
    ·have q1 := h2 a e
     have q2 := h1 b e2
     unfold ltA at q1 q2; omega
  subst e
  rw [ltA_ext h1' h2' fun x => ⟨fun hx => ?_, fun hx => ?_⟩]
  ·rcases List.mem_cons.1 ((h x).1 (List.mem_cons_of_mem _ hx)) with e | e
   ·subst e; exact absurd (h1 x hx) (irr x)
   ·exact e
  ·rcases List.mem_cons.1 ((h x).2 (List.mem_cons_of_mem _ hx)) with e | e
   ·subst e; exact absurd (h2 x hx) (irr x)
   ·exact e
theorem wList_mem {A : Nat → Option (List UInt8)} {k : Nat} : k ∈ wList A ↔ k < 32 ∧ (A k).isSome = true := by
 unfold wList
 rw [List.mem_filter, List.mem_range]
theorem wList_sorted {A : Nat → Option (List UInt8)} (h0 : A 0 = none) : ((wList A).map askP).Pairwise ltA := by
 rw [List.pairwise_map]
 refine List.Pairwise.imp_of_mem (R := fun a b => a < b) (fun {a b} ha hb hab => ?_) (List.pairwise_lt_range.sublist List.filter_sublist)
 obtain ⟨a1, a2⟩ := wList_mem.1 ha
 obtain ⟨b1, b2⟩ := wList_mem.1 hb
 have n0 : ∀ k : Nat, (A k).isSome = true → 1 ≤ k := fun k hk => by
  rcases Nat.eq_zero_or_pos k with rfl | h
  ·rw [h0] at hk; cases hk
  ·exact h
 exact (askP_lt a a1 b b1 (n0 a a2) (n0 b b2)).2 hab
theorem asked_row {es : List MapEntry} {c : Nat} {A : Nat → Option (List UInt8)} (x : AskMapE es c A) (h0 : A 0 = none) {l : List (Int × Int)} (hp : (l.map keyV).Perm (es.map (·.key))) (hs : l.Pairwise fun a b => ¬ ltA b a) : l = (wList A).map askP := by
 have hnd : (es.map (·.key)).Nodup := by
  refine List.pairwise_map.2 (List.Pairwise.imp_of_mem (fun {a b} ha hb hab e => ?_) x.nd)
  rw [(keq_eq (x.kOk a ha) (x.kOk b hb)).2 e] at hab; cases hab
 have hln : l.Nodup := by
  have := hp.nodup_iff.2 hnd
  exact List.Pairwise.imp (fun h e => h (by rw [e])) (List.pairwise_map.1 this)
 have hmem : ∀ p : Int × Int, p ∈ l ↔ keyV p ∈ es.map (·.key) := fun p => by
  rw [← hp.mem_iff, List.mem_map]
  exact ⟨fun h => ⟨p, h, rfl⟩, fun ⟨q, hq, e⟩ => keyV_inj e ▸ hq⟩
 refine ltA_ext ?_ (wList_sorted h0) fun p => ?_
 ·refine List.Pairwise.imp (fun {a b} h => ?_) (hs.and hln)
  obtain ⟨h1, h2⟩ := h
  have : ¬ (a.1 = b.1 ∧ a.2 = b.2) := fun e => h2 (Prod.ext e.1 e.2)
  unfold ltA at *; omega
 ·rw [hmem p, List.mem_map]
  refine ⟨fun ⟨e, he, ek⟩ => ?_, fun hk => ?_⟩
  ·obtain ⟨k, k1, k2, hk⟩ := x.key e he
   have hpk : p = askP k := keyV_inj (ek.symm.trans hk)
   subst hpk
   refine List.mem_map.2 ⟨k, wList_mem.2 ⟨k2, ?_⟩, rfl⟩
   cases hA : A k with
   | some y => rfl
   | none =>
    have hv := x.at_ k k1 k2
    rw [hA] at hv
    have := va_none.1 hv e he
    rw [hk, keyV_keq] at this
    simp at this
  ·obtain ⟨k, hkm, rfl⟩ := List.mem_map.1 hk
   obtain ⟨k2, hs⟩ := wList_mem.1 hkm
   have k1 : 1 ≤ k := by
    rcases Nat.eq_zero_or_pos k with rfl | h
    ·rw [h0] at hs; cases hs
    ·exact h
   obtain ⟨y, hy⟩ := Option.isSome_iff_exists.1 hs
   have hv := x.at_ k k1 k2
   rw [hy] at hv
   have hnn : ¬ va es (keyV (askP k)) = none := by rw [hv]; simp
   rw [va_none] at hnn
   obtain ⟨e, he⟩ := Classical.not_forall.1 hnn
   obtain ⟨he, hq⟩ := Classical.not_imp.1 he
   have hq : keq (keyV (askP k)) e.key = true := by simpa using hq
   exact ⟨e, he, ((keq_eq (keyV_ok _) (x.kOk e he)).1 hq).symm⟩
theorem AskMapE.len {es : List MapEntry} {c : Nat} {A : Nat → Option (List UInt8)} (x : AskMapE es c A) : es.length ≤ 32 := by
 have hnd : (es.map (·.key)).Nodup := by
  refine List.pairwise_map.2 (List.Pairwise.imp_of_mem (fun {a b} ha hb hab e => ?_) x.nd)
  rw [(keq_eq (x.kOk a ha) (x.kOk b hb)).2 e] at hab; cases hab
 have := List.Nodup.length_le_of_subset (l₂ := (List.range 32).map fun k => keyV (askP k)) hnd fun v hv => by
  obtain ⟨e, he, rfl⟩ := List.mem_map.1 hv
  obtain ⟨k, _, k2, hk⟩ := x.key e he
  exact List.mem_map.2 ⟨k, List.mem_range.2 k2, hk.symm⟩
 simpa using this
theorem take_min_len {α : Type} (l : List α) (n : Nat) : l.take (min n l.length) = l.take n := by
 rcases Nat.le_total n l.length with h | h
 ·rw [Nat.min_eq_left h]
 ·rw [Nat.min_eq_right h, List.take_length, List.take_of_length_le h]
end TL

namespace TL
open Go Go.Proofs Go.Shelf Go.RowKit Go.Lib Go.Sort
set_option maxHeartbeats 1000000 in
theorem walkLess122 (a0 a1 b0 b1 : ByteArray) (w : World) :
  Calls Tryz.prog 122 #[.agg #[.string a0, .string a1], .agg #[.string b0, .string b1]] w fun e w' => e = .returned (.int .i64 (Lib.compareBytes a0.data.toList b0.data.toList)) ∧ ∃ q os', w' = grow (w.drewN q) os' := by
 have hcon := fun W => walkCompare a0 b0 W
 generalize Lib.compareBytes a0.data.toList b0.data.toList = r at hcon ⊢
 go_enter Tryz.func122, Tryz.ntmps122
 go_wp2_with (go_at_call 123; refine (hcon _).mono ?_; rintro e w' ⟨rfl, rfl⟩)
 go_ret
 exact ⟨rfl, 0, _, by rw [alloc_eq_grow, alloc_eq_grow, grow_grow]; rfl⟩
theorem cSortW {B : List Nat} {h : PH} {K : Value → PH → Prop} {a : Option Addr} {n c : Nat} {l : List PrR} {T : TypeId} (x : Buf EncPr T B h a n c l) (hn : l.length ≤ 1000000)
  (hk : ∀ l' h', l'.Perm l → (l'.Pairwise fun a b => ¬ b.p < a.p) → Buf EncPr T B h' a n c l' → Chg B B h h' → K (.tuple #[]) h') : CallH Tryz.prog 121 [.slice a n c, .func (.func 122) #[] #[]] K h :=
 cSortPr Tryz.srtA Tryz.isAgg101 Tryz.sizeOf101 122 (enters_of Tryz.func122 (by kernel_rfl) rfl) walkLess122 x hn hk
variable {g h : PH} {N : List Nat} {K : Value → PH → Prop} {wb : Nat} {s : WS}
def wDone (s : WS) : List PrR := (List.range 16).flatMap (wPart s)
theorem part_le {s : WS} (hS : s.S.length ≤ 48) (hQ : ∀ i l, s.Q i = some l → l.length ≤ 48) (i : Nat) : (wPart s i).length ≤ 48 := by
 unfold wPart
 cases e : s.Q i with
 | none => exact Nat.le_trans (List.length_filter_le _ _) hS
 | some l => exact hQ i l e
theorem parts_le {s : WS} (hS : s.S.length ≤ 48) (hQ : ∀ i l, s.Q i = some l → l.length ≤ 48) (n : Nat) : ((List.range n).flatMap (wPart s)).length ≤ 48 * n := by
 induction n with
 | zero => simp
 | succ n ih =>
  rw [List.range_succ, List.flatMap_append, List.length_append, List.flatMap_cons, List.flatMap_nil, List.append_nil]
  have := part_le hS hQ n
  omega
theorem parts_succ (s : WS) (n : Nat) : (List.range (n + 1)).flatMap (wPart s) = (List.range n).flatMap (wPart s) ++ wPart s n := by
 rw [List.range_succ, List.flatMap_append, List.flatMap_cons, List.flatMap_nil, List.append_nil]
theorem cWDone (x : WalkAt g N h wb s) (sp : Spl g N h) (hQ : ∀ i l, s.Q i = some l → l.length ≤ 48)
  (hno : (∃ k, 1 ≤ k ∧ k < 32 ∧ (s.A k).isSome = true) ∨ ((∀ k, 1 ≤ k → k < 32 → s.A k = none) ∧ 48 < (wDone s).length) → ∀ h', h.Sub h' → K (.tuple #[.slice none 0 0, .bool false]) h')
  (hyes : (∀ k, 1 ≤ k → k < 32 → s.A k = none) → (wDone s).length ≤ 48 → ∀ l a' c' B' h', l.Perm (wDone s) → (l.Pairwise fun a b => ¬ b.p < a.p) → Buf EncPr T_api_Pair B' h' a' l.length c' l → Chg [] B' h h' → K (.tuple #[.slice a' l.length c', .bool true]) h') :
  CallH Tryz.prog id_walk_Walk_Done [.pointer (some ⟨wb, 0, none⟩)] K h := by
 have hxx := x
 obtain ⟨⟨tb, ra, rp, esA, cA, esP, cP, tA, tN, tC, Bt, rfl, d1, d2, d3, d4, d5, d6, hw, ht, ha, hA, hp, hP, hB⟩, hR, hL⟩ := x
 have hS : s.S.length ≤ 48 := ht.le
 refine F_walk_Walk_Done_ok ⟨fun _ h' => h' = h ∧ ∀ k, 1 ≤ k → k < 32 → s.A k = none, cWNone hxx ⟨_, rfl, wb, 0, fun _ => rfl, some ra, fun _ => wk_ask hw hR, fun _ => ⟨esA.length, ⟨_, cA, ha, by simp⟩, fun e => ?_, fun e => ⟨rfl, fun k k1 k2 => ?_⟩⟩, fun e => by cases e⟩, ?_⟩
 ·have e : 0 < esA.length := by have := of_decide_eq_true e; omega
  refine hno (.inl ?_) h (PH.Sub.rf _)
  have hm := List.getElem_mem e
  obtain ⟨k, k1, k2, hk⟩ := hA.key _ hm
  refine ⟨k, k1, k2, ?_⟩
  cases hAk : s.A k with
  | some y => rfl
  | none =>
   have hv := hA.at_ k k1 k2
   rw [hAk] at hv
   have := va_none.1 hv _ hm
   rw [hk, keyV_keq] at this
   simp at this
 ·have e : esA = [] := List.length_eq_zero_iff.1 (by have := of_decide_eq_false e; omega)
  have hv := hA.at_ k k1 k2
  rw [e] at hv
  cases hAk : s.A k with
  | none => rfl
  | some y => rw [hAk] at hv; cases hv
 rintro _ h1 ⟨rfl, hdone⟩
 refine LoopP.ind (fun (z : (Option Addr × Nat × Nat) × Int × Unit) h' => ∃ (i : Nat) (B' : List Nat), z.2.1 = i ∧ i ≤ 16 ∧ Buf EncPr T_api_Pair B' h' z.1.1 z.1.2.1 z.1.2.2 ((List.range i).flatMap (wPart s)) ∧ Chg [] B' h1 h') (fun z _ => (16 - z.2.1).toNat) ?_
  ⟨0, [], rfl, Nat.zero_le _, Buf.nil _ _ _ _, Chg.refl _ _⟩
 rintro ⟨⟨lA, lN, lC⟩, zi, u⟩ h2 ⟨i, B2, hzi, hi, hb, hc⟩
 dsimp only at hzi hb
 subst hzi
 dsimp only
 have hw2 := hc.sub0 _ _ hw
 have hlen := parts_le hS hQ i
 have hlN := hb.1
 refine ⟨fun e => ?_, fun e => ?_⟩
 ·have e : i < 16 := by have := of_decide_eq_true e; omega
  have hwi : IntKind.wrap .i64 (((i : Nat) : Int) + (1 : Int)) = ((i + 1 : Nat) : Int) := by rw [wrap64] <;> omega
  have hpl := part_le hS hQ i
  rw [hwi]
  cases hq : s.Q i with
  | none =>
   refine ⟨wb, 0, rfl, _, wk_part hw2 hR, none, 0, 0, false, ⟨esP, ⟨⟨cP, hc.sub0 _ _ hp⟩, hP.key⟩, by rw [lk_va, hP.no i e hq]⟩, fun _ => ?_, fun e2 => by simp at e2⟩
   refine ⟨wb, 0, rfl, _, wk_base hw2, cPairs ((ht.sub sp.sub).sub hc.sub0) e fun a3 c3 B3 h3 hb3 hc3 => ⟨_, _, _, rfl, EncPr.row (partB s.S i), hb3.sr.src, ?_⟩⟩
   have hpw : wPart s i = partB s.S i := by unfold wPart; rw [hq]; rfl
   have hpl2 : (partB s.S i).length ≤ 48 := hpw ▸ hpl
   refine (hb.sub hc3.sub0).append (new := partB s.S i) rfl rfl rfl (by omega) fun a4 c4 B4 h4 hb4 hc4 _ => ⟨⟨i + 1, B4, rfl, by omega, ?_, ?_⟩, by omega⟩
   ·rw [parts_succ, hpw]; exact hb4
   ·exact (hc.trans ⟨fun b o hb e => hc3.sub0 b o e, fun b hb => .inl hb⟩).trans hc4
  | some l =>
   obtain ⟨a3, c3, hv, hsr⟩ := hP.yes i l e hq
   have hpw : wPart s i = l := by unfold wPart; rw [hq]; rfl
   have hpl2 : l.length ≤ 48 := hpw ▸ hpl
   refine ⟨wb, 0, rfl, _, wk_part hw2 hR, a3, l.length, c3, true, ⟨esP, ⟨⟨cP, hc.sub0 _ _ hp⟩, hP.key⟩, by rw [lk_va, hv]⟩, fun e2 => by simp at e2, fun _ => ⟨EncPr.row l, ((hsr.sub sp.sub).sub hc.sub0).src, ?_⟩⟩
   refine hb.append (new := l) rfl rfl rfl (by omega) fun a4 c4 B4 h4 hb4 hc4 _ => ⟨⟨i + 1, B4, rfl, by omega, ?_, hc.trans hc4⟩, by omega⟩
   rw [parts_succ, hpw]; exact hb4
 ·have e : i = 16 := by have := of_decide_eq_false e; omega
  subst e
  have hb : Buf EncPr T_api_Pair B2 h2 lA lN lC (wDone s) := hb
  refine ⟨fun e2 => hno (.inr ⟨hdone, ?_⟩) h2 hc.sub0, fun e2 => cSortW hb (by have : (wDone s).length ≤ 48 * 16 := hlen; omega) fun l h3 hp3 hs3 hb3 hc3 => ?_⟩
  ·have := of_decide_eq_true e2
   have hlN : lN = (wDone s).length := hlN
   omega
  ·have := of_decide_eq_false e2
   have hlN : lN = (wDone s).length := hlN
   have hl3 := hp3.length_eq
   have := hyes hdone (by omega) l lA lC B2 h3 hp3 hs3 (by rw [hl3, ← hlN]; exact hb3) (hc.trans hc3)
   rw [hl3, ← hlN] at this; exact this
end TL

namespace TL
open Go Go.Proofs
end TL

namespace TL
open Go Go.Proofs
variable {g h : PH} {N : List Nat} {K : Value → PH → Prop} {wb tb : Nat} {s : WS} {S T : List PrR}
theorem nd_in {c : Nat} (h1 : 1 ≤ c) (h2 : c < 16) : nd S c = shaN (innT (nd S (2 * c)) (nd S (2 * c + 1))) := by
 unfold nd; rw [node_in _ h1 h2]
theorem nd_leaf {i : Nat} (h : i < 16) : nd S (16 + i) = shaN (76 :: pageL (partB S i)) := by
 unfold nd; rw [node_leaf _ (by omega) (by omega), show 16 + i - 16 = i by omega]; rfl
theorem askP_leaf : ∀ c : Nat, c < 32 → 16 ≤ c → (askP c).1 = 4 ∧ (askP c).2 = ((c - 16 : Nat) : Int) := by decide +kernel
def pc : Nat → Nat
 | 0 => 1
 | 1 => 2
 | 2 => 4
 | 3 => 9
 | _ => 19
def onlyA (c : Nat) : Nat → Option (List UInt8) := upF (fun _ => none) c (some (nd sApp c))
theorem wAsk_yes {A : Nat → Option (List UInt8)} {d : Nat} {x : List UInt8} (h : nd S d ≠ x) : wAsk S A d x = upF A d (some x) := by unfold wAsk; rw [if_neg h]
theorem wAsk_not {A : Nat → Option (List UInt8)} {d : Nat} {x : List UInt8} (h : nd S d = x) : wAsk S A d x = A := by unfold wAsk; rw [if_pos h]
theorem on1 : nd [] 1 ≠ nd sApp 1 := by rw [nil4, app4]; decide
theorem on2 : nd [] 2 ≠ nd sApp 2 := by rw [nil3 (by omega) (by omega), app3]; decide
theorem on4 : nd [] 4 ≠ nd sApp 4 := by rw [nil2 (by omega) (by omega), app2]; decide
theorem on9 : nd [] 9 ≠ nd sApp 9 := by rw [nil1 (by omega) (by omega), app1]; decide
theorem on19 : nd [] 19 ≠ nd sApp 19 := by rw [nil0 (by omega) (by omega), app0]; decide
theorem off_app {j : Nat} (hj : j < 32) (ha : ¬ Anc j 19) : nd [] j = nd sApp j := (app_same hj ha).symm
theorem only_off (c : Nat) : upF (onlyA c) c none = fun _ => none := by
 funext d
 by_cases e : d = c
 ·subst e; rw [upF_same]
 ·rw [upF_ne _ _ e]; unfold onlyA; rw [upF_ne _ _ e]
theorem next_ask : ∀ j, j < 4 → wAsk [] (wAsk [] (fun _ => none) (2 * pc j) (nd sApp (2 * pc j))) (2 * pc j + 1) (nd sApp (2 * pc j + 1)) = onlyA (pc (j + 1)) := fun j hj => by
 match j, hj with
 | 0, _ => show wAsk [] (wAsk [] _ 2 (nd sApp 2)) 3 (nd sApp 3) = onlyA 2; rw [wAsk_yes on2, wAsk_not (off_app (j := 3) (by omega) (by unfold Anc; omega))]; rfl
 | 1, _ => show wAsk [] (wAsk [] _ 4 (nd sApp 4)) 5 (nd sApp 5) = onlyA 4; rw [wAsk_yes on4, wAsk_not (off_app (j := 5) (by omega) (by unfold Anc; omega))]; rfl
 | 2, _ => show wAsk [] (wAsk [] _ 8 (nd sApp 8)) 9 (nd sApp 9) = onlyA 9; rw [wAsk_not (off_app (j := 8) (by omega) (by unfold Anc; omega)), wAsk_yes on9]; rfl
 | 3, _ => show wAsk [] (wAsk [] _ 18 (nd sApp 18)) 19 (nd sApp 19) = onlyA 19; rw [wAsk_not (off_app (j := 18) (by omega) (by unfold Anc; omega)), wAsk_yes on19]; rfl
theorem pc_in : ∀ j : Nat, j < 5 → 1 ≤ pc j ∧ pc j < 32 ∧ (j < 4 → pc j < 16) ∧ (j = 4 → pc j = 19) := by decide
theorem onlyA_list {c : Nat} (hc : c < 32) : wList (onlyA c) = [c] := by
 unfold wList
 have : (fun d => (onlyA c d).isSome) = fun d => d == c := by
  funext d
  unfold onlyA
  by_cases e : d = c
  ·subst e; rw [upF_same]; simp
  ·rw [upF_ne _ _ e]; simp [e]
 rw [this, range_at hc, List.filter_append, List.filter_cons]
 have z1 : (List.range c).filter (fun d => d == c) = [] := List.filter_eq_nil_iff.2 fun d hd => by have := List.mem_range.1 hd; simp; omega
 have z2 : (List.range' (c + 1) (32 - c - 1)).filter (fun d => d == c) = [] := List.filter_eq_nil_iff.2 fun d hd => by have := List.mem_range'_1.1 hd; simp; omega
 rw [z1, z2]; simp
theorem app_may : mayB sApp = true := by decide +kernel
theorem app_done {s : WS} (hS : s.S = []) (hQ : s.Q = upF (fun _ => none) 3 (some sApp)) : wDone s = sApp := by
 have h1 : ∀ i, wPart s i = if i = 3 then sApp else [] := fun i => by
  unfold wPart
  rw [hQ, hS]
  by_cases e : i = 3
  ·subst e; rw [upF_same]; rfl
  ·rw [upF_ne _ _ e, if_neg e]; rfl
 unfold wDone
 have : wPart s = fun i => if i = 3 then sApp else [] := funext h1
 rw [this]
 decide +kernel
theorem app_page : partB sApp 3 = sApp := by
 have : bkt pApp = 3 := bkt_app
 simp [sApp, partB, this]
theorem nil_may : mayB ([] : List PrR) = true ∧ ([] : List PrR).length ≤ 48 := by decide
end TL

namespace TL
open Go Go.Proofs
variable {h : PH} {K : Value → PH → Prop}
end TL

namespace TL
open Go Go.Proofs
variable {h : PH} {K : Value → PH → Prop} {p v : List UInt8} {lA : Option Addr} {lC : Nat} {l : List PrR} {b : Nat}
theorem lv_rd {h : PH} {a : Option Addr} {l : List PrR} {j i : Nat} (x : SR EncH h a (lvRow l j (2 ^ j))) (hi : i < 2 ^ j) : ∃ bb ob, a = some ⟨bb, ob, none⟩ ∧ h.rds bb (ob + i * 32) 32 = some ((bi (nd l (2 ^ j + i))).map (Value.int .u8) ++ []) := by
 have hl : i < (lvRow l j (2 ^ j)).length := by rw [lvRow_len]; exact hi
 obtain ⟨bb, ob, hA, hr⟩ := x.get hl
 refine ⟨bb, ob, hA, ?_⟩
 have := hr (ob + i * 32) 0 32 (by show _ = ob + i * 32 + 0; omega) (by decide)
 rw [this, lvRow_get, List.drop_zero, List.append_nil, List.take_of_length_le (by rw [EncH.len]; decide)]; rfl
theorem cRTexts (hl : SR EncPr h lA l) (hm : mayB l = true) (h48 : l.length ≤ 48) (hk : ∀ a' c' B' h', Buf EncS 9 B' h' a' (textsT l).length c' (textsT l) → Chg [] B' h h' → K (.slice a' (textsT l).length c') h') :
  CallH Tryz.prog id_ref15_Texts [.slice lA l.length lC] K h := by
 refine F_ref15_Texts_ok (LoopP.ind (fun (z : (Option Addr × Nat × Nat) × Int × Unit) h' => ∃ (i : Nat) (B' : List Nat), z.2.1 = i ∧ i ≤ 16 ∧ Buf EncS 9 B' h' z.1.1 z.1.2.1 z.1.2.2 ((List.range i).map (leafT l)) ∧ Chg [] B' h h') (fun z _ => (16 - z.2.1).toNat) ?_ ⟨0, [], rfl, by omega, Buf.nil _ _ _ _, Chg.refl _ _⟩)
 rintro ⟨⟨oA, oN, oC⟩, zi, u⟩ h1 ⟨i, B1, hzi, hi, hb, hc⟩
 dsimp only at hzi hb
 subst hzi
 dsimp only
 have hon : oN = i := by rw [hb.1]; simp
 subst hon
 refine ⟨fun e => ?_, fun e => ?_⟩
 ·have e : oN < 16 := by simp at e; omega
  refine cLeafText e (hl.sub hc.sub0) hm h48 fun h2 s2 => ⟨_, rfl, ?_⟩
  refine (hb.sub s2).append (new := [leafT l oN]) rfl rfl rfl (by omega) fun a' c' B' h' hb' hc' _ => ⟨⟨oN + 1, B', by rw [wrap64] <;> omega, by omega, ?_, (hc.onto s2).trans hc'⟩, by rw [wrap64] <;> omega⟩
  rw [List.range_succ, List.map_append]; exact hb'
 ·have e : oN = 16 := by simp at e; omega
  subst e
  refine (Spl.of0 hc hb.has).call (cLevels (K := fun v g => ∃ bv f, LvB g bv f ∧ (∀ j, j < 5 → (f j).n = 2 ^ j ∧ SR EncH g (f j).a (lvRow l j (2 ^ j))) ∧ h.Sub g ∧ v = .slice (some ⟨bv, 0, none⟩) 5 5) hl hm h48 fun bv f g x1 x2 x3 => ⟨bv, f, x1, x2, x3, rfl⟩) ?_
  rintro _ g2 h2 ⟨bv, f, xv, rv, s2, rfl⟩ st
  obtain ⟨st, same⟩ := st s2
  have sp2 := st.spl
  refine ⟨_, _, _, rfl, ?_⟩
  have hb := hb.keep same
  have lvs : ∀ {g : PH}, g2.Sub g → ∀ j, j < 5 → g.rds bv (0 + j * 1) 1 = some [.slice (f j).a (f j).n (f j).c] ∧ (f j).n = 2 ^ j ∧ SR EncH g (f j).a (lvRow l j (2 ^ j)) := fun s j hj => ⟨(xv.sub s).get hj (by omega), (rv j hj).1, (rv j hj).2.sub s⟩
  refine LoopP.ind (fun (z : (Option Addr × Nat × Nat) × Int × Unit) h' => ∃ (m : Nat) (B' : List Nat), z.2.1 = (3 : Int) - m ∧ m ≤ 4 ∧ Buf EncS 9 B' h' z.1.1 z.1.2.1 z.1.2.2 ((List.range 16).map (leafT l) ++ (List.range m).flatMap fun d => inRow l (3 - d)) ∧ Spl g2 B' h') (fun z _ => (z.2.1 + 1).toNat) ?_ ⟨0, B1, rfl, by omega, by simpa using hb, sp2⟩
  rintro ⟨⟨oA, oN, oC⟩, zm, u⟩ h3 ⟨m, B2, hzm, hm4, hb2, s3⟩
  dsimp only at hzm hb2
  subst hzm
  dsimp only
  refine ⟨fun e => ?_, fun e => ?_⟩
  ·have e : m < 4 := by simp at e; omega
   have hlv : ((3 : Int) - (m : Nat)) = ((3 - m : Nat) : Int) := by omega
   rw [hlv]
   generalize hlv2 : 3 - m = lv
   have hlv4 : lv ≤ 3 := by omega
   have h2lv : 2 ^ lv ≤ 8 := Nat.pow_le_pow_right (n := 2) (by decide) (show lv ≤ 3 from hlv4)
   have hp2 : 2 ^ (lv + 1) = 2 * 2 ^ lv := by rw [Nat.pow_succ]; omega
   have hrow : inRow l lv = (List.range (2 ^ lv)).map fun i => inT l (2 ^ lv + i) := rfl
   have hw : IntKind.wrap .i64 (((lv : Nat) : Int) - (1 : Int)) = (3 : Int) - ((m + 1 : Nat) : Int) := by rw [wrap64] <;> omega
   have hw1 : IntKind.wrap .i64 (((lv : Nat) : Int) + (1 : Int)) = ((lv + 1 : Nat) : Int) := by rw [wrap64] <;> omega
   have tn : ((lv : Nat) : Int).toNat = lv := by omega
   have tn1 : ((lv + 1 : Nat) : Int).toNat = lv + 1 := by omega
   rw [hw, hw1, tn, tn1]
   refine LoopP.ind (fun (z : (Option Addr × Nat × Nat) × Int × Unit) h' => ∃ (k : Nat) (B' : List Nat), z.2.1 = k ∧ k ≤ 2 ^ lv ∧ Buf EncS 9 B' h' z.1.1 z.1.2.1 z.1.2.2 ((List.range 16).map (leafT l) ++ ((List.range m).flatMap (fun d => inRow l (3 - d)) ++ (List.range k).map fun i => inT l (2 ^ lv + i))) ∧ Spl g2 B' h') (fun z _ => (((2 ^ lv : Nat) : Int) - z.2.1).toNat) ?_ ⟨0, B2, rfl, Nat.zero_le _, by simpa using hb2, s3⟩
   rintro ⟨⟨oA, oN, oC⟩, zk, u⟩ h4 ⟨k, B3, hzk, hk3, hb3, s4⟩
   dsimp only at hzk hb3
   subst hzk
   dsimp only
   have hon : oN ≤ 100 := by
    rw [hb3.1, List.length_append, List.length_append, List.length_map, List.length_map, List.length_range, List.length_range]
    have := pre_len l m
    omega
   obtain ⟨g0, n0, r0⟩ := lvs s4.sub lv (by omega)
   obtain ⟨g1, n1, r1⟩ := lvs s4.sub (lv + 1) (by omega)
   refine ⟨bv, 0, ⟨rfl, by omega, by omega⟩, _, _, _, g0, ?_⟩
   rw [n0]
   refine ⟨fun e5 => ?_, fun e5 => ?_⟩
   ·have e5 : k < 2 ^ lv := Int.ofNat_lt.1 (of_decide_eq_true e5)
    have w1 : IntKind.wrap .i64 ((2 : Int) * ((k : Nat) : Int)) = ((2 * k : Nat) : Int) := by rw [wrap64] <;> omega
    have w2 : IntKind.wrap .i64 (((2 * k : Nat) : Int) + (1 : Int)) = ((2 * k + 1 : Nat) : Int) := by rw [wrap64] <;> omega
    have w5 : IntKind.wrap .i64 (((k : Nat) : Int) + (1 : Int)) = ((k + 1 : Nat) : Int) := by rw [wrap64] <;> omega
    have t1 : ((2 * k : Nat) : Int).toNat = 2 * k := by omega
    have t2 : ((2 * k + 1 : Nat) : Int).toNat = 2 * k + 1 := by omega
    rw [w1, w2, w5, t1, t2]
    obtain ⟨b1, o1, hA1, hr1⟩ := lv_rd r1 (i := 2 * k) (by omega)
    obtain ⟨b2, o2, hA2, hr2⟩ := lv_rd r1 (i := 2 * k + 1) (by omega)
    refine ⟨bv, 0, ⟨rfl, by omega, by show ((lv + 1 : Nat) : Int) < 5; omega⟩, _, _, _, g1, b1, o1, ⟨hA1, by omega, by rw [n1]; omega⟩, bi (nd l (2 ^ (lv + 1) + 2 * k)), by rw [bi_len, nd_len], hr1, bv, 0, ⟨rfl, by omega, by show ((lv + 1 : Nat) : Int) < 5; omega⟩, _, _, _, g1, b2, o2, ⟨hA2, by omega, by rw [n1]; omega⟩, bi (nd l (2 ^ (lv + 1) + (2 * k + 1))), by rw [bi_len, nd_len], hr2,
     cRInnerText (nd_len _ _) (nd_len _ _) fun h5 s5 => ⟨_, rfl, ?_⟩⟩
    have ht : innT (nd l (2 ^ (lv + 1) + 2 * k)) (nd l (2 ^ (lv + 1) + (2 * k + 1))) = inT l (2 ^ lv + k) := by
     unfold inT
     rw [show 2 ^ (lv + 1) + 2 * k = 2 * (2 ^ lv + k) by omega, show 2 ^ (lv + 1) + (2 * k + 1) = 2 * (2 ^ lv + k) + 1 by omega]
    rw [ht]
    refine (hb3.sub s5).append (new := [inT l (2 ^ lv + k)]) rfl rfl rfl (by omega) fun a' c' B' h' hb' hc' _ => ⟨⟨k + 1, B', rfl, by omega, ?_, ((s4.grow s5).spl.chg hc' hb'.has).spl⟩, by omega⟩
    rw [List.range_succ (n := k), List.map_append, ← List.append_assoc, ← List.append_assoc]
    rw [← List.append_assoc] at hb'
    exact hb'
   ·have e5 : k = 2 ^ lv := by
     rcases Nat.lt_or_ge k (2 ^ lv) with h | h
     ·exact absurd (Int.ofNat_lt.2 h) (of_decide_eq_false e5)
     ·omega
    refine ⟨⟨m + 1, B3, rfl, by omega, ?_, s4⟩, by omega⟩
    rw [e5] at hb3
    have : ((List.range (m + 1)).flatMap fun d => inRow l (3 - d)) = ((List.range m).flatMap fun d => inRow l (3 - d)) ++ (List.range (2 ^ lv)).map fun i => inT l (2 ^ lv + i) := by
     rw [List.range_succ, List.flatMap_append, List.flatMap_cons, List.flatMap_nil, List.append_nil, hlv2, hrow]
    rw [this]; exact hb3
  ·have e : m = 4 := by simp at e; omega
   subst e
   have := hb2.1
   subst this
   exact hk _ _ _ _ hb2 (s3.chg0 s2)
end TL

namespace TL
open Go Go.Proofs
variable {g h : PH} {N : List Nat} {K : Value → PH → Prop} {sb : Nat} {s : ShS} {v : VwR} {lA : Option Addr} {lC : Nat}
end TL

namespace TL
open Go Go.Proofs
variable {g h : PH} {N : List Nat} {K : Value → PH → Prop} {sb : Nat} {s : ShS} {v : VwR} {lA : Option Addr} {lC : Nat}
theorem cShTexts (x : ShipAt g N h sb s) (hn : s.texts.length ≤ 1000000) (hk : ∀ a' c' B' h', Buf EncS 9 B' h' a' s.texts.length c' s.texts → Chg [] B' h h' → K (.slice a' s.texts.length c') h') : CallH Tryz.prog id_ship_Ship_Texts [.pointer (some ⟨sb, 0, none⟩)] K h := by
 obtain ⟨⟨pa, ps, tA, tN, tC, Bt, rfl, nB, hb, hbuf, ha, hsh⟩, hr⟩ := x
 have hl := hbuf.1
 subst hl
 exact F_ship_Ship_Texts_ok ⟨fun e => by simp at e, fun _ => ⟨sb, 0, rfl, _, _, _, rdsL hb rfl rfl, cCloneStr hbuf.sr hn fun a' c' B' h' hb' hc' => ⟨_, _, _, rfl, hk a' c' B' h' hb' hc'⟩⟩⟩
abbrev Z32 : List Int := List.replicate 32 0
section
variable {m0 m1 m2 m3 m4 m5 m7 m9 m10 ep : Int} {m6A m13A : Option Addr} {m6N m6C m13N m13C : Nat} {m8 m11 m12 : List Int}
end
end TL
