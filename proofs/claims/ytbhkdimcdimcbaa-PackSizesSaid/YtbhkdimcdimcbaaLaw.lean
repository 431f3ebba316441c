/-
  The laws of layer pack, on the functions' texts. No condition.
-/
import Derived.Test.YtbhkdimcdimcbaaPack
namespace TL
open Go Go.Proofs
variable {B : List Nat} {h : PH} {x : Option Addr} {K : Value → PH → Prop} {st : IS} {S : List UInt8} {lA : Option Addr} {lC : Nat} {l : List It}

theorem cWrites' (hl : SR EncIt h lA l) (hn : l.length ≤ 1000000) (hk : ∀ h', h.Sub h' → K (.tuple #[]) h') : CallH Try.prog id_law01_writes [.pointer none, .slice lA l.length lC] K h := by
  refine F_law01_writes_ok (LoopP.ind (fun (z : Int × Unit) h' => (0 ≤ z.1 ∧ z.1 ≤ l.length) ∧ h.Sub h') (fun z _ => (l.length - z.1).toNat) ?_ ⟨⟨by decide, by show (0 : Int) ≤ _; omega⟩, fun _ _ e => e⟩)
  rintro ⟨i, u⟩ h1 ⟨⟨i0, i1⟩, s1⟩
  dsimp only at i0 i1 ⊢
  refine ⟨fun e => ?_, fun _ => hk h1 s1⟩
  have e : i < l.length := by simpa using e
  have hit : i.toNat < l.length := by omega
  obtain ⟨b, o, ha, hr⟩ := (hl.sub s1).get hit
  rw [wrap64 (n := i + 1) (by omega) (by omega)]
  have next : ∀ h', h1.Sub h' → ((0 ≤ i + 1 ∧ i + 1 ≤ (l.length : Int)) ∧ h.Sub h') ∧ ((l.length : Int) - (i + 1)).toNat < ((l.length : Int) - i).toNat :=
    fun h' s2 => ⟨⟨⟨by omega, by omega⟩, fun b o e => s2 b o (s1 b o e)⟩, by omega⟩
  refine ⟨b, o, ⟨ha, i0, e⟩, _, hr _ 0 1 rfl (by decide), fun e => ?_, fun e => ⟨fun e1 => ?_, fun e1 => ⟨fun e2 => ?_, fun e2 => ⟨fun e3 => ?_, fun e3 => next _ fun _ _ e => e⟩⟩⟩⟩
  · exact ⟨b, o, ⟨ha, i0, by omega⟩, _, hr _ 1 1 rfl (by decide), cOut_Num' l[i.toNat].hn next⟩
  · exact ⟨b, o, ⟨ha, i0, by omega⟩, _, hr _ 2 1 rfl (by decide), cOut_Int' l[i.toNat].hi.1 l[i.toNat].hi.2 next⟩
  · exact ⟨b, o, ⟨ha, i0, by omega⟩, _, hr _ 3 1 rfl (by decide), cOut_Text' (by have := l[i.toNat].hs; omega) next⟩
  · exact ⟨b, o, ⟨ha, i0, by omega⟩, _, hr _ 4 1 rfl (by decide), cOut_Byte' next⟩
theorem cBytes (hl : SR EncIt h lA l) (hn : 10 * l.length + sumS l ≤ 70368744177664) (hk : ∀ h', h.Sub h' → K (.string (mk (itsB l))) h') : CallH Try.prog id_law01_bytes [.slice lA l.length lC] K h := by
  refine F_law01_bytes_ok (nwL (cs := [.slice none 0 0]) fun b h1 hb0 hb1 hc1 => ?_)
  refine cWrites (OutAt.new hb1) (hl.sub hc1.sub0) (by simp; omega) (fun B' h' hx' hc' => ?_) ?_
  · refine cOut_String hx' ⟨_, rfl, ?_⟩
    refine hk h' ((hc1.trans hc').sub0)
  · intro b' hb' o e
    rw [List.mem_singleton] at hb'; subst hb'
    exact hl.avoid hb0 e
theorem cGreat1 (hl : SR EncIt h lA l) (hk : ∀ b, (b = false → l.length ≤ 200 ∧ sumS l ≤ 30000) → K (.bool b) h) : CallH Try.prog id_law01_Great [.slice lA l.length lC] K h := by
  refine F_law01_Great_ok ⟨fun _ => hk true nofun, fun e => ?_⟩
  have hn : l.length ≤ 200 := by simp at e; omega
  refine LoopP.ind (fun (z : Int × Int × Unit) h' => h' = h ∧ (0 ≤ z.2.1 ∧ z.2.1 ≤ l.length) ∧ z.1 = (sumS (l.take z.2.1.toNat) : Int) ∧ z.1 ≤ 30000 * z.2.1) (fun z _ => (l.length - z.2.1).toNat) ?_ ⟨rfl, ⟨by decide, by show (0 : Int) ≤ _; omega⟩, rfl, by decide⟩
  rintro ⟨n, i, u⟩ h1 ⟨rfl, ⟨i0, i1⟩, hs, hb⟩
  dsimp only at i0 i1 hs hb ⊢
  refine ⟨fun e => ?_, fun e => hk _ fun e2 => ⟨hn, ?_⟩⟩
  · have e : i < l.length := by simpa using e
    have hit : i.toNat < l.length := by omega
    obtain ⟨b, o, ha, hr⟩ := hl.get hit
    refine ⟨b, o, ⟨ha, i0, e⟩, _, hr _ 3 1 rfl (by decide), fun _ => hk true nofun, fun e2 => ⟨b, o, ⟨ha, i0, e⟩, _, hr _ 3 1 rfl (by decide), ?_⟩⟩
    rw [size_mk] at e2 ⊢
    have e2 : (l[i.toNat]).s.length ≤ 30000 := by simp at e2; omega
    rw [wrap64 (n := i + 1) (by omega) (by omega), wrap64 (n := n + _) (by omega) (by omega)]
    refine ⟨⟨rfl, ⟨by omega, by omega⟩, ?_, by omega⟩, by omega⟩
    rw [show (i + 1).toNat = i.toNat + 1 by omega, sumS_take hit, hs]; omega
  · have e : i = l.length := by simp at e; omega
    rw [e] at hs
    simp only [Int.toNat_natCast, List.take_length] at hs
    simp at e2; omega

/-! ### What was written is read -/
theorem take_nil (st : IS) (n e : Nat) (h : e ≠ 0) : st.take n e = ⟨st.s, st.p, e⟩ := by simp [IS.take, h]
theorem d_cases (a : It) : a.d.toNat = 0 ∨ a.d.toNat = 1 ∨ a.d.toNat = 2 ∨ a.d.toNat = 3 ∨ 4 ≤ a.d.toNat := by omega
theorem rd_it {a : It} (h4 : a.d.toNat < 4) (hm : a.m = (a.s.length : Int)) (r : List UInt8) (p : Nat) : rd ⟨itB a ++ r, p, 0⟩ a = (bareV a, ⟨r, p + (itB a).length, 0⟩) := by
  rcases d_cases a with h | h | h | h | h
  · simp only [rd, bareV, itB, h, if_true, iNum]
    rw [next_num a.hn]
    simp [IS.take]
  · have := zig_lt a.hi.1 a.hi.2
    simp only [rd, bareV, itB, h, if_true, iNum, Nat.one_ne_zero, if_false]
    rw [next_num this]
    simp [IS.take, zag_zig]
  · have hs := a.hs
    have hnx := next_num (n := a.s.length) (by omega) (a.s ++ r)
    have hb : boundS (textL a.s ++ r) a.m = ⟨a.s.length, (numL a.s.length).length, 0⟩ := by
      unfold boundS textL
      rw [List.append_assoc, hnx, if_neg (by rw [hm]; simp only; omega)]
    have ht : textE ⟨textL a.s ++ r, p, 0⟩ a.m = 0 := by
      unfold textE
      simp only [hb]
      rw [if_neg]
      simp [textL] <;> omega
    have ei : iText ⟨textL a.s ++ r, p, 0⟩ a.m = (a.s, ⟨r, p + (textL a.s).length, 0⟩) := by
      have e1 : (textL a.s ++ r).drop (numL a.s.length).length = a.s ++ r := by unfold textL; rw [List.append_assoc, List.drop_left]
      have e2 : (textL a.s ++ r).drop ((numL a.s.length).length + a.s.length) = r := by rw [← List.drop_drop, e1, List.drop_left]
      have e3 : (textL a.s).length = (numL a.s.length).length + a.s.length := by unfold textL; rw [List.length_append]
      unfold iText
      rw [if_pos rfl, if_pos ht, hb]
      simp only [IS.take, if_true, e1, e2, e3, List.take_left]
    have eb : itB a = textL a.s := by simp [itB, h]
    have ev : bareV a = ⟨0, 0, a.s, 0⟩ := by simp [bareV, h]
    rw [eb, ev]
    simp [rd, h, ei]
  · simp [rd, bareV, itB, h, iByte]
  · omega
theorem textE_short {S : List UInt8} {p : Nat} {m : Int} (h : nextS S = ⟨0, 0, 7⟩) : textE ⟨S, p, 0⟩ m = 7 := by
  have hb : boundS S m = ⟨0, 0, 7⟩ := by unfold boundS; rw [h, if_neg (by rintro ⟨h, _⟩; cases h)]
  unfold textE; simp [hb]
theorem rd_cut {a : It} (h4 : a.d.toNat < 4) (hm : a.m = (a.s.length : Int)) {j : Nat} (hj : j < (itB a).length) (p : Nat) : rd ⟨(itB a).take j, p, 0⟩ a = (⟨0, 0, [], 0⟩, ⟨(itB a).take j, p, 7⟩) := by
  rcases d_cases a with h | h | h | h | h
  · simp only [itB, h, if_true] at hj ⊢
    simp only [rd, h, if_true, iNum]
    rw [next_cut a.hn hj]
    simp [IS.take]
  · have := zig_lt a.hi.1 a.hi.2
    simp only [itB, h, if_true, Nat.one_ne_zero, if_false] at hj ⊢
    simp only [rd, h, if_true, iNum, Nat.one_ne_zero, if_false]
    rw [next_cut this hj]
    simp [IS.take, zag]
  · have hs := a.hs
    have hi : itB a = textL a.s := by simp [itB, h]
    rw [hi] at hj ⊢
    have ht : textE ⟨(textL a.s).take j, p, 0⟩ a.m = 7 := by
      rcases Nat.lt_or_ge j (numL a.s.length).length with hlt | hge
      · have : (textL a.s).take j = (numL a.s.length).take j := by
          unfold textL; rw [List.take_append_of_le_length (by omega)]
        rw [this]
        exact textE_short (next_cut (by omega) hlt)
      · have htk : (textL a.s).take j = numL a.s.length ++ a.s.take (j - (numL a.s.length).length) := by
          unfold textL; rw [List.take_append, List.take_of_length_le hge]
        have hb : boundS ((textL a.s).take j) a.m = ⟨a.s.length, (numL a.s.length).length, 0⟩ := by
          unfold boundS
          rw [htk, next_num (by omega), if_neg (by rw [hm]; simp only; omega)]
        unfold textE
        simp only [hb]
        rw [if_pos]
        refine ⟨by trivial, ?_⟩
        rw [htk]
        simp only [List.length_append, List.length_take]
        unfold textL at hj; rw [List.length_append] at hj
        omega
    simp only [rd, h, iText, ht]
    simp [IS.take]
  · have hi : itB a = [a.b] := by simp [itB, h]
    rw [hi] at hj ⊢
    have : j = 0 := by simpa using hj
    subst this
    simp [rd, h, iByte]
  · omega
theorem rd_bad {a : It} (h : st.e ≠ 0) : rd st a = (⟨0, 0, [], 0⟩, st) := by
  unfold rd
  simp only [iNum, iText, iByte, iMost, if_neg h]
  split
  · rfl
  split
  · simp [zag]
  split
  · rfl
  split <;> rfl
/-- what was read, as bytes -/
def encR (a : It) (r : RV) : List UInt8 :=
  if a.d.toNat = 0 then numL r.n
  else if a.d.toNat = 1 then numL (zig r.i)
  else if a.d.toNat = 2 then textL r.s
  else if a.d.toNat = 3 then [r.b]
  else numL r.n
theorem next_inv' {l : List UInt8} (h : (nextS l).e = 0) : l = numL (nextS l).v ++ l.drop (nextS l).n := (next_inv (v := (nextS l).v) (n := (nextS l).n) (by rw [← h])).2.2
theorem take_e {st : IS} {n e : Nat} (h : (st.take n e).e = 0) : e = 0 ∧ st.take n e = ⟨st.s.drop n, st.p + n, 0⟩ := by
  unfold IS.take at h ⊢
  split
  · rename_i h0; exact ⟨h0, rfl⟩
  · rename_i h0; rw [if_neg h0] at h; exact absurd h h0
theorem rd_inv {a : It} (h0 : st.e = 0) (h : (rd st a).2.e = 0) : st.s = encR a (rd st a).1 ++ (rd st a).2.s := by
  have num : (iNum st).2.e = 0 → st.s = numL (iNum st).1 ++ (iNum st).2.s := fun h => by
    simp only [iNum, if_pos h0] at h ⊢
    obtain ⟨h1, h2⟩ := take_e h
    rw [h2]; exact next_inv' h1
  rcases d_cases a with hd | hd | hd | hd | hd
  · simp only [rd, encR, hd, if_true] at h ⊢
    exact num h
  · simp only [rd, encR, hd, if_true, Nat.one_ne_zero, if_false] at h ⊢
    rw [zig_zag]; exact num h
  · have e2 : rd st a = (⟨0, 0, (iText st a.m).1, 0⟩, (iText st a.m).2) := by simp [rd, hd]
    have e3 : ∀ r, encR a r = textL r.s := fun r => by simp [encR, hd]
    rw [e2] at h ⊢
    rw [e3]
    simp only [iText, if_pos h0] at h ⊢
    by_cases ht : textE st a.m = 0
    · rw [if_pos ht] at h ⊢
      simp only
      obtain ⟨_, h2⟩ := take_e h
      rw [h2]
      have hbe : (boundS st.s a.m).e = 0 ∧ (boundS st.s a.m).v ≤ st.s.length - (boundS st.s a.m).n := by
        unfold textE at ht; split at ht
        · cases ht
        · rename_i hn; exact ⟨ht, by omega⟩
      obtain ⟨_, hb, _⟩ := (bound_err st.s a.m).resolve_right (by omega)
      rw [hb] at hbe ⊢
      have hi := next_inv' hbe.1
      have hle := (next_le st.s).1
      unfold textL
      rw [List.length_take, List.length_drop, Nat.min_eq_left hbe.2, List.append_assoc]
      simp only
      rw [← List.drop_drop, List.take_append_drop]; exact hi
    · rw [if_neg ht] at h
      simp only at h
      exact absurd (take_e h).1 ht
  · simp only [rd, encR, hd, iByte, if_pos h0] at h ⊢
    cases hs : st.s with
    | nil => simp [hs] at h
    | cons b r => simp
  · have e2 : rd st a = (⟨(iMost st a.m).1, 0, [], 0⟩, (iMost st a.m).2) := by
      unfold rd; rw [if_neg (by omega), if_neg (by omega), if_neg (by omega), if_neg (by omega)]
    have e3 : ∀ r, encR a r = numL r.n := fun r => by unfold encR; rw [if_neg (by omega), if_neg (by omega), if_neg (by omega), if_neg (by omega)]
    rw [e2] at h ⊢
    rw [e3]
    simp only [iMost, if_pos h0] at h ⊢
    obtain ⟨h1, h2⟩ := take_e h
    rw [h2]
    obtain ⟨_, hb, _⟩ := (bound_err st.s a.m).resolve_right (by omega)
    rw [hb] at h1 ⊢
    exact next_inv' h1
end TL

namespace TL
open Go Go.Proofs
variable {B : List Nat} {h : PH} {x : Option Addr} {K : Value → PH → Prop} {st : IS} {S : List UInt8} {lA : Option Addr} {lC : Nat} {l : List It}

theorem SR.slice {α : Type} {E : Enc α} {a : Option Addr} {l : List α} (x : SR E h a l) {lo hi : Nat} {mx L : Int} (hL : L.toNat = lo) (h2 : hi ≤ l.length) (h3 : hi ≤ mx.toNat) : SR E h (slA a E.k L mx) ((l.drop lo).take (hi - lo)) := by
  by_cases h0 : hi - lo = 0
  · left; rw [h0]; rfl
  · rcases x with rfl | ⟨b, o, e, hr⟩
    · simp at h2; omega
    · refine .inr ⟨b, o + lo * E.k, ?_, ?_⟩
      · unfold slA; rw [hL, if_neg (by omega), e, Option.map_some, addr_add]
      · rw [List.length_take, List.length_drop, Nat.min_eq_left (by omega)]
        have hle : lo * E.k + (hi - lo) * E.k ≤ l.length * E.k := by rw [← Nat.add_mul]; exact Nat.mul_le_mul_right _ (by omega)
        rw [rds_to hr (lo * E.k) _ hle, E.row_drop, E.row_take]
theorem SR.at1 {α : Type} {E : Enc α} {a : Option Addr} {l : List α} (x : SR E h a l) {i : Nat} (hi : i < l.length) {mx L : Int} (hL : L.toNat = i) (h3 : l.length ≤ mx.toNat) : SR E h (slA a E.k L mx) [l[i]] := by
  have := x.slice (lo := i) (hi := i + 1) (mx := mx) hL (by omega) (by omega)
  rw [List.drop_eq_getElem_cons hi, show i + 1 - i = 1 by omega] at this
  exact this
def It.fit (a : It) : It := { a with m := (a.s.length : Int), hm := ⟨by omega, by have := a.hs; omega⟩ }
def writtenL (l : List It) : List It := (l.filter fun a => decide (a.d.toNat < 4)).map It.fit
theorem writtenL_take {i : Nat} (hi : i < l.length) : writtenL (l.take (i + 1)) = writtenL (l.take i) ++ (if l[i].d.toNat < 4 then [l[i].fit] else []) := by
  rw [List.take_succ_eq_append_getElem hi]
  unfold writtenL
  rw [List.filter_append, List.map_append]
  congr 1
  by_cases e : l[i].d.toNat < 4 <;> simp [e]
theorem writtenL_len (l : List It) : (writtenL l).length ≤ l.length := by
  unfold writtenL; rw [List.length_map]; exact List.length_filter_le _ _
theorem writtenL_sum : ∀ (l : List It), sumS (writtenL l) ≤ sumS l
  | [] => by simp [writtenL, sumS]
  | a :: r => by
    have := writtenL_sum r
    unfold writtenL sumS at *
    by_cases e : a.d.toNat < 4 <;> simp [e, It.fit] at this ⊢ <;> omega
theorem writtenL_mem {a : It} (h : a ∈ writtenL l) : a.d.toNat < 4 ∧ a.m = (a.s.length : Int) := by
  unfold writtenL at h
  obtain ⟨b, hb, rfl⟩ := List.mem_map.1 h
  have := (List.mem_filter.1 hb).2
  exact ⟨by simpa [It.fit] using this, rfl⟩
theorem cWritten (hl : SR EncIt h lA l) (hn : l.length ≤ 1000000) (hk : ∀ a c B' h', Buf EncIt T_law01_Item B' h' a (writtenL l).length c (writtenL l) → Chg [] B' h h' → K (.slice a (writtenL l).length c) h') : CallH Try.prog id_law01_written [.slice lA l.length lC] K h := by
  refine F_law01_written_ok (LoopP.ind (fun (z : (Option Addr × Nat × Nat) × Int × Unit) h' => (0 ≤ z.2.1 ∧ z.2.1 ≤ l.length) ∧ ∃ B', Buf EncIt T_law01_Item B' h' z.1.1 z.1.2.1 z.1.2.2 (writtenL (l.take z.2.1.toNat)) ∧ Chg [] B' h h') (fun z _ => (l.length - z.2.1).toNat) ?_ ⟨⟨by decide, by show (0 : Int) ≤ _; omega⟩, [], Buf.nil _ _ _ _, Chg.refl _ _⟩)
  rintro ⟨⟨la, ln, lc⟩, i, u⟩ h1 ⟨⟨i0, i1⟩, B1, hb1, hc1⟩
  dsimp only at i0 i1 hb1 ⊢
  refine ⟨fun e => ?_, fun e => ?_⟩
  · have e : i < l.length := by simpa using e
    have hit : i.toNat < l.length := by omega
    obtain ⟨b, o, ha, hr⟩ := (hl.sub hc1.sub0).get hit
    have ht := writtenL_take hit
    have hlen := writtenL_len (l.take i.toNat)
    rw [List.length_take] at hlen
    have hnl := hb1.1
    rw [wrap64 (n := i + 1) (by omega) (by omega)]
    refine ⟨b, o, ⟨ha, i0, e⟩, _, hr _ 0 1 rfl (by decide), fun e2 => ⟨b, o, ⟨ha, i0, e⟩, _, _, _, _, _, _, hr _ 0 6 rfl (by decide), ?_⟩, fun e2 => ?_⟩
    · have e2 : l[i.toNat].d.toNat < 4 := by simp at e2; omega
      rw [if_pos e2] at ht
      rw [size_mk]
      refine hb1.append (new := [l[i.toNat].fit]) rfl rfl rfl (by omega) fun a' c' B' h' hb' hc' _ => ?_
      refine ⟨⟨⟨by omega, by omega⟩, B', ?_, hc1.trans hc'⟩, by omega⟩
      rw [show (i + 1).toNat = i.toNat + 1 by omega, ht]; exact hb'
    · have e2 : ¬ l[i.toNat].d.toNat < 4 := by simp at e2; omega
      rw [if_neg e2, List.append_nil] at ht
      refine ⟨⟨⟨by omega, by omega⟩, B1, ?_, hc1⟩, by omega⟩
      rw [show (i + 1).toNat = i.toNat + 1 by omega, ht]; exact hb1
  · have e : i = l.length := by simp at e; omega
    rw [e] at hb1
    simp only [Int.toNat_natCast, List.take_length] at hb1
    have := hb1.1
    subst this
    exact hk _ _ _ _ hb1 hc1

/-! ### awake -/
theorem eNum {r : Nat} {st' : IS} (e : iNum st = (r, st')) (hx : InAt B h x st) (hk : ∀ h', InAt B h' x st' → Chg B B h h' → K (.int .u64 (r : Int)) h') : CallH Try.prog id_pack_In_Num [.pointer x] K h :=
  cIn_Num hx (by rw [e]; exact hk)
theorem eInt {r : Int} {st' : IS} (e : (zag (iNum st).1, (iNum st).2) = (r, st')) (hx : InAt B h x st) (hk : ∀ h', InAt B h' x st' → Chg B B h h' → K (.int .i64 r) h') : CallH Try.prog id_pack_In_Int [.pointer x] K h :=
  cIn_Int hx (by cases e; exact hk)
theorem eText {m : Int} {r : List UInt8} {st' : IS} (hm : m ≤ 9223372036854775807) (e : iText st m = (r, st')) (hx : InAt B h x st) (hk : ∀ h', InAt B h' x st' → Chg B B h h' → K (.string (mk r)) h') : CallH Try.prog id_pack_In_Text [.pointer x, .int .i64 m] K h :=
  cIn_Text hx hm (by rw [e]; exact hk)
theorem eMost {m : Int} {r : Nat} {st' : IS} (hm : m ≤ 9223372036854775807) (e : iMost st m = (r, st')) (hx : InAt B h x st) (hk : ∀ h', InAt B h' x st' → Chg B B h h' → K (.int .i64 (r : Int)) h') : CallH Try.prog id_pack_In_Most [.pointer x, .int .i64 m] K h :=
  cIn_Most hx hm (by rw [e]; exact hk)
theorem eByte {r : UInt8} {st' : IS} (e : iByte st = (r, st')) (hx : InAt B h x st) (hk : ∀ h', InAt B h' x st' → Chg B B h h' → K (.int .u8 (r.toNat : Int)) h') : CallH Try.prog id_pack_In_Byte [.pointer x] K h :=
  cIn_Byte hx (by rw [e]; exact hk)
theorem eEnd {r : Nat} (e : iEnd st = r) (hx : InAt B h x st) (hk : K (.int .i64 (r : Int)) h) : CallH Try.prog id_pack_In_End [.pointer x] K h :=
  cIn_End hx (by rw [e]; exact hk)
theorem eFault {r : Nat × Nat} (e : iFault st = r) (hx : InAt B h x st) (hk : K (.tuple #[.int .i64 (r.1 : Int), .int .i64 (r.2 : Int)]) h) : CallH Try.prog id_pack_In_Fault [.pointer x] K h :=
  cIn_Fault hx (by rw [e]; exact hk)
theorem OutAt.cast {l m : List UInt8} (hx : OutAt B h x l) (e : l = m) : OutAt B h x m := e ▸ hx
theorem cWakes (hk : ∀ h', h.Sub h' → K (.bool true) h') : CallH Try.prog id_law01_wakes [] K h := by
  refine F_law01_wakes_ok (nwL (cs := [.slice none 0 0]) fun b h1 hb0 hb1 hc1 => ?_)
  refine cOut_Num (n := 128) (OutAt.new hb1) (by decide) (by decide) fun B2 h2 x2 c2 => ?_
  refine cOut_Int (n := -65) (x2.cast (m := [128, 1]) (by kernel_rfl)) (by decide) (by decide) (by decide) fun B3 h3 x3 c3 => ?_
  refine cOut_Text (s := [97, 98]) (x3.cast (m := [128, 1, 129, 1]) (by kernel_rfl)) (by decide) fun B4 h4 x4 c4 => ?_
  have x4 := x4.cast (m := [128, 1, 129, 1, 2, 97, 98]) (by kernel_rfl)
  refine cOut_String x4 ⟨_, rfl, cIn_Of (by decide) fun y By h5 y5 c5 => ⟨_, rfl, ?_⟩⟩
  have x5 := x4.chg c5 (Dj.nil _)
  have d5 : Dj B4 By := c5.dj (Dj.nil _) x4.has
  refine eNum (r := 128) (st' := ⟨[129, 1, 2, 97, 98], 2, 0⟩) (by kernel_rfl) y5 fun h6 y6 c6 => ⟨_, rfl, ?_⟩
  refine eInt (r := -65) (st' := ⟨[2, 97, 98], 4, 0⟩) (by kernel_rfl) y6 fun h7 y7 c7 => ⟨_, rfl, ?_⟩
  refine eText (r := [97, 98]) (st' := ⟨[], 7, 0⟩) (by decide) (by kernel_rfl) y7 fun h8 y8 c8 => ⟨_, rfl, ?_⟩
  have x8 := ((x5.chg c6 d5).chg c7 d5).chg c8 d5
  refine cOut_String x8 ⟨_, rfl, fun _ => eEnd (r := 0) (by kernel_rfl) y8 ⟨_, rfl, ?_⟩, fun e => absurd e (by decide)⟩
  exact hk h8 fun b o e => by
    have e4 := (((hc1.trans c2).trans c3).trans c4).sub0 b o e
    have hn : b ∉ By := c5.fresh e4 (by simp)
    exact c8.keep (c7.keep (c6.keep (c5.sub0 b o e4) hn) hn) hn
end TL

namespace TL
open Go Go.Proofs
variable {B : List Nat} {h : PH} {x : Option Addr} {K : Value → PH → Prop} {st : IS} {S : List UInt8} {lA mA : Option Addr} {lC mC : Nat} {l m : List It}

theorem wk {h1 : PH} (s : h.Sub h1) (hk : ∀ h', h.Sub h' → K (.bool true) h') : CallH Try.prog id_law01_wakes [] (fun v h2 => ∃ t : Bool, v = .bool t ∧ K (.bool t) h2) h1 :=
  cWakes fun h' s' => ⟨_, rfl, hk h' fun b o e => s' b o (s b o e)⟩
theorem itB_split (a : It) : itB a = if a.d.toNat = 0 then numL a.n else if a.d.toNat = 1 then numL (zig a.i) else if a.d.toNat = 2 then textL a.s else if a.d.toNat = 3 then [a.b] else [] := rfl

theorem PackSpells_den (hl : SR EncIt h lA l) (hc : l.length ≤ lC) (hk : ∀ h', h.Sub h' → K (.bool true) h') : CallH Try.prog id_law01_PackSpells [.slice lA l.length lC] K h := by
  refine F_law01_PackSpells_ok (cGreat1 hl fun b hg => ⟨_, rfl, fun _ => wk (fun _ _ e => e) hk, fun e => nwL (cs := [.slice none 0 0]) fun bv h1 hb0 hb1 hc1 => ?_⟩)
  obtain ⟨hn, hs⟩ := hg e
  refine LoopP.ind (fun (z : ByteArray × Int × Unit) h' => (0 ≤ z.2.1 ∧ z.2.1 ≤ l.length) ∧ z.1 = mk (itsB (l.take z.2.1.toNat)) ∧ ∃ B', OutAt B' h' (some ⟨bv, 0, none⟩) (itsB (l.take z.2.1.toNat)) ∧ Chg [] B' h h') (fun z _ => (l.length - z.2.1).toNat) ?_
    ⟨⟨by decide, by show (0 : Int) ≤ _; omega⟩, rfl, [bv], OutAt.new hb1, hc1⟩
  rintro ⟨w, i, u⟩ h2 ⟨⟨i0, i1⟩, hw, B2, x2, c2⟩
  dsimp only at hw i0 i1 x2 ⊢
  subst hw
  refine ⟨fun e => ?_, fun e => ?_⟩
  · have e : i < l.length := by simpa using e
    have hit : i.toNat < l.length := by omega
    have hl2 := hl.sub c2.sub0
    have hsum := sumS_le hit
    have hlen := itsB_len (l.take i.toNat)
    have htl : (l.take i.toNat).length ≤ 200 := by rw [List.length_take]; omega
    have hil := itB_len l[i.toNat]
    rw [wrap64 (n := i + 1) (by omega) (by omega)]
    have hsl : SR EncIt h2 (slA lA 6 i ((lC : Nat) : Int)) [l[i.toNat]] := hl2.at1 hit rfl (by omega)
    have hone : sumS [l[i.toNat]] = l[i.toNat].s.length := by simp [sumS]
    have hav : ∀ b ∈ B2, ∀ o, slA lA 6 i ((lC : Nat) : Int) = some ⟨b, o, none⟩ → [l[i.toNat]] = [] := by
      intro b hb o e2
      rcases hl2 with h | ⟨b2, o2, e3, hr⟩
      · rw [h] at hit; simp at hit
      · have : b = b2 := by
          unfold slA at e2
          split at e2
          · rw [e3] at e2; cases e2; rfl
          · rw [e3, Option.map_some, addr_add] at e2; cases e2; rfl
        subst this
        rcases hl with h | ⟨b3, o3, e4, hr3⟩
        · rw [h] at hit; simp at hit
        · rw [e3] at e4; cases e4
          rcases c2.2 b hb with h5 | h5
          · cases h5
          · unfold PH.rds at hr3; rw [h5] at hr3; cases hr3
    rw [show (i + 1).toNat - i.toNat = 1 by omega]
    refine ⟨⟨i0, by omega, by omega, by omega⟩, cWrites (l := [l[i.toNat]]) x2 hsl (by rw [hone]; simp only [List.length_singleton]; omega) (fun B3 h3 x3 c3 => ⟨⟨i0, by omega, by omega, by omega⟩, ?_⟩) hav⟩
    have c23 := c2.trans c3
    have hl3 := hl.sub c23.sub0
    refine cWrites' (l := [l[i.toNat]]) (hl3.at1 hit rfl (by omega)) (by simp) fun h4 s4 => ?_
    have x4 : OutAt B3 h4 (some ⟨bv, 0, none⟩) (itsB (l.take i.toNat) ++ itsB [l[i.toNat]]) := by
      obtain ⟨bn, a, n, cc, Bw, e1, rfl, hn2, hb, hw⟩ := x3
      exact ⟨bn, a, n, cc, Bw, e1, rfl, hn2, s4 _ _ hb, hw.keep fun b hb o e => s4 b o e⟩
    have c4 : Chg [] B3 h h4 := c23.onto s4
    obtain ⟨b, o, ha, hr⟩ := (hl.sub c4.sub0).get hit
    refine ⟨fun z h' => z.1 = mk (itsB (l.take (i.toNat + 1))) ∧ OutAt B3 h' (some ⟨bv, 0, none⟩) (itsB (l.take (i.toNat + 1))) ∧ Chg [] B3 h h', ?_, ?_⟩
    · have ht := itsB_take hit
      have hx4 : ∀ h', h4.Sub h' → OutAt B3 h' (some ⟨bv, 0, none⟩) (itsB (l.take (i.toNat + 1))) ∧ Chg [] B3 h h' := by
        intro h' s'
        refine ⟨?_, c4.onto s'⟩
        rw [ht]
        have : itsB [l[i.toNat]] = itB l[i.toNat] := by simp [itsB]
        rw [this] at x4
        obtain ⟨bn, a, n, cc, Bw, e1, rfl, hn2, hb, hw⟩ := x4
        exact ⟨bn, a, n, cc, Bw, e1, rfl, hn2, s' _ _ hb, hw.keep fun b hb o e => s' b o e⟩
      have hsz : ∀ q : List UInt8, q.length ≤ 40000 → (((ByteArray.size (mk (itsB (l.take i.toNat))) + ByteArray.size (mk q) : Nat) : Int) ≤ 9223372036854775807) := by
        intro q hq; rw [size_mk, size_mk]; omega
      have fin : ∀ q h', h4.Sub h' → q = itB l[i.toNat] → (mk (itsB (l.take i.toNat)) ++ mk q) = mk (itsB (l.take (i.toNat + 1))) ∧ OutAt B3 h' (some ⟨bv, 0, none⟩) (itsB (l.take (i.toNat + 1))) ∧ Chg [] B3 h h' := by
        intro q h' s' e; subst e
        exact ⟨by rw [mk_append, ← ht], hx4 h' s'⟩
      refine ⟨b, o, ⟨ha, i0, e⟩, _, hr _ 0 1 rfl (by decide), fun e => ?_, fun e => ⟨fun e1 => ?_, fun e1 => ⟨fun e2 => ?_, fun e2 => ⟨fun e3 => ?_, fun e3 => ?_⟩⟩⟩⟩
      · have hq : itB l[i.toNat] = numL l[i.toNat].n := by rw [itB_split, if_pos (by simp at e; omega)]
        refine ⟨b, o, ⟨ha, i0, by omega⟩, _, hr _ 1 1 rfl (by decide), cR_Num l[i.toNat].hn fun h' s' => ⟨_, rfl, hsz _ (by have := numL_le l[i.toNat].hn; omega), fin _ h' s' hq.symm⟩⟩
      · have hq : itB l[i.toNat] = numL (zig l[i.toNat].i) := by rw [itB_split, if_neg (by simp at e; omega), if_pos (by simp at e1; omega)]
        refine ⟨b, o, ⟨ha, i0, by omega⟩, _, hr _ 2 1 rfl (by decide), cR_Zig l[i.toNat].hi.1 l[i.toNat].hi.2 ⟨_, rfl, cR_Num (zig_lt l[i.toNat].hi.1 l[i.toNat].hi.2) fun h' s' => ⟨_, rfl, hsz _ (by have := numL_le (zig_lt l[i.toNat].hi.1 l[i.toNat].hi.2); omega), fin _ h' s' hq.symm⟩⟩⟩
      · have hq : itB l[i.toNat] = textL l[i.toNat].s := by rw [itB_split, if_neg (by simp at e; omega), if_neg (by simp at e1; omega), if_pos (by simp at e2; omega)]
        refine ⟨b, o, ⟨ha, i0, by omega⟩, _, hr _ 3 1 rfl (by decide), cR_Text (by omega) fun h' s' => ⟨_, rfl, hsz _ (by rw [hq] at hil; omega), fin _ h' s' hq.symm⟩⟩
      · have hq : itB l[i.toNat] = [l[i.toNat].b] := by rw [itB_split, if_neg (by simp at e; omega), if_neg (by simp at e1; omega), if_neg (by simp at e2; omega), if_pos (by simp at e3; omega)]
        refine ⟨b, o, ⟨ha, i0, by omega⟩, _, hr _ 4 1 rfl (by decide), nwL (cs := [_]) fun b6 h6 hb0 hb1 hc6 => ⟨mk [l[i.toNat].b], str1 rfl hb1, hsz _ (by simp), fin _ h6 hc6.sub0 hq.symm⟩⟩
      · have hq : itB l[i.toNat] = [] := by rw [itB_split, if_neg (by simp at e; omega), if_neg (by simp at e1; omega), if_neg (by simp at e2; omega), if_neg (by simp at e3; omega)]
        have := fin [] h4 (fun _ _ e => e) hq.symm
        refine ⟨?_, this.2⟩
        rw [← this.1, mk_append, List.append_nil]
    · rintro ⟨_, u⟩ h5 ⟨rfl, x5, c5⟩
      refine cOut_String x5 ⟨_, rfl, fun e => by simp [strEq_self] at e, fun _ => ?_⟩
      refine ⟨⟨⟨by omega, by omega⟩, ?_, B3, ?_, c5⟩, by omega⟩
      · rw [show (i + 1).toNat = i.toNat + 1 by omega]
      · rw [show (i + 1).toNat = i.toNat + 1 by omega]; exact x5
  · exact cOut_String' ⟨_, rfl, fun _ => wk c2.sub0 hk, fun e => absurd e (by decide)⟩

theorem oneIt {b : Nat} {a : It} {T : TypeId} (hb : h b = some (.cells (EncIt.enc a).toArray T (0, 0))) : SR EncIt h (some ⟨b, 0, none⟩) [a] :=
  .inr ⟨b, 0, rfl, by rw [show [a].length * EncIt.k = 6 from rfl, show EncIt.row [a] = EncIt.enc a by rw [EncIt.row_cons]; simp [EncIt.row_nil]]; exact rdsL hb rfl rfl⟩
def it0 (n : Nat) (hn : n < 18446744073709551616) : It := ⟨0, n, 0, [], 0, 0, hn, by decide, by decide, by decide⟩
def it1 (i : Int) (hi : -9223372036854775808 ≤ i ∧ i ≤ 9223372036854775807) : It := ⟨1, 0, i, [], 0, 0, by decide, hi, by decide, by decide⟩
def it2 (s : List UInt8) (hs : s.length ≤ 9223372036854775807) : It := ⟨2, 0, 0, s, 0, 0, by decide, by decide, by decide, hs⟩
theorem cBytes1 {a : It} {KK : Value → PH → Prop} {T : TypeId} {cells : List Value} (he : cells = EncIt.enc a) (hn : a.s.length ≤ 30000) (hk : ∀ h', h.Sub h' → KK (.string (mk (itB a))) h') :
    newH h (.cells cells.toArray T (0, 0)) fun bv h2 => CallH Try.prog id_law01_bytes [.slice (some ⟨bv, 0, none⟩) 1 1] KK h2 := by
  subst he
  refine nwL fun b h1 hb0 hb1 hc1 => ?_
  refine cBytes (l := [a]) (oneIt hb1) (by simp [sumS]; omega) fun h' s' => ?_
  have : itsB [a] = itB a := by simp [itsB]
  rw [this]
  exact hk h' fun b o e => s' b o (hc1.sub0 b o e)
theorem PackSizes_den {n : Nat} {i : Int} {s : List UInt8} (hn : n < 18446744073709551616) (hi : -9223372036854775808 ≤ i ∧ i ≤ 9223372036854775807) (hk : ∀ h', h.Sub h' → K (.bool true) h') : CallH Try.prog id_law01_PackSizes [.int .u64 (n : Int), .int .i64 i, .string (mk s)] K h := by
  refine F_law01_PackSizes_ok ⟨fun _ => wk (fun _ _ e => e) hk, fun e => ?_⟩
  have hs : s.length ≤ 30000 := by rw [size_mk] at e; simp at e; omega
  refine cBytes1 (a := it0 n hn) rfl (by show (0 : Nat) ≤ _; omega) fun h1 s1 => ⟨_, rfl, ?_⟩
  have e0 : itB (it0 n hn) = numL n := rfl
  rw [e0]
  have hle := numL_le hn
  have hpos := numL_pos n
  refine LoopP.ind (fun (z : Int × Unit) h' => h' = h1 ∧ 1 ≤ z.1 ∧ z.1 ≤ 10) (fun z _ => (10 - z.1).toNat) ?_ ⟨rfl, by decide, by decide⟩
  rintro ⟨k, u⟩ h2 ⟨rfl, k0, k1⟩
  dsimp only at k0 k1 ⊢
  refine ⟨fun e => ?_, fun e => ?_⟩
  · have e : k < 10 := by simpa using e
    rw [wrap64 (n := 7 * k) (by omega) (by omega), wrap_u64 (n := 7 * k) (by omega) (by omega), wrap64 (n := k + 1) (by omega) (by omega), size_mk]
    have hcmp : decide (((numL n).length : Int) ≤ k) = decide ((n : Int) < shlV .u64 1 (7 * k)) := by
      obtain ⟨j, rfl⟩ : ∃ j : Nat, k = j := ⟨k.toNat, by omega⟩
      have h1 : shlV .u64 1 (7 * (j : Int)) = ((128 ^ j : Nat) : Int) := by
        unfold shlV
        rw [show min (7 * (j : Int)).toNat (IntKind.bits .u64) = 7 * j by simp [IntKind.bits]; omega, Int.one_mul]
        have h2 : (2 : Int) ^ (7 * j) = ((128 ^ j : Nat) : Int) := by rw [pow128]; push_cast; rfl
        have h3 : 128 ^ j ≤ 128 ^ 9 := Nat.pow_le_pow_right (by decide) (by omega)
        have h4 : (128 : Nat) ^ 9 = 9223372036854775808 := by decide
        rw [h2]
        generalize 128 ^ j = q at *
        rw [wrap_u64 (by omega) (by omega)]
      rw [h1]
      have := numL_len hn (m := j) (by omega)
      simp only [decide_eq_decide]
      rw [show ((numL n).length : Int) ≤ (j : Int) ↔ (numL n).length ≤ j by omega, this]
      omega
    rw [hcmp]
    exact ⟨by omega, fun e => by simp at e, fun _ => ⟨⟨rfl, by omega, by omega⟩, by omega⟩⟩
  · refine cBytes1 (a := it1 i hi) rfl (by show (0 : Nat) ≤ _; omega) fun h3 s3 => ⟨_, rfl, ?_⟩
    rw [wrap64 (n := -1 - i) (by omega) (by omega)]
    refine cBytes1 (a := it1 (-1 - i) ⟨by omega, by omega⟩) rfl (by show (0 : Nat) ≤ _; omega) fun h4 s4 => ⟨_, rfl, ?_⟩
    refine cBytes1 (a := it2 s (by omega)) rfl hs fun h5 s5 => ⟨_, rfl, ?_⟩
    have e1 : itB (it1 i hi) = numL (zig i) := rfl
    have e2 : itB (it1 (-1 - i) ⟨by omega, by omega⟩) = numL (zig (-1 - i)) := rfl
    have e3 : itB (it2 s (by omega)) = textL s := rfl
    have hsub : h.Sub h5 := fun b o e => s5 b o (s4 b o (s3 b o (s1 b o e)))
    have hz : (numL (zig i)).length = (numL (zig (-1 - i))).length := by
      have h1 := zig_lt hi.1 hi.2
      have h2 := zig_lt (n := -1 - i) (by omega) (by omega)
      have key : ∀ m, 0 < m → ((numL (zig i)).length ≤ m ↔ (numL (zig (-1 - i))).length ≤ m) := fun m hm => by
        rw [numL_len h1 hm, numL_len h2 hm]
        have hev : ∃ q, 128 ^ m = 2 * q := by
          cases m with
          | zero => omega
          | succ m => exact ⟨128 ^ m * 64, by rw [Nat.pow_succ]; omega⟩
        obtain ⟨q, hq⟩ := hev
        rw [hq]
        unfold zig
        split <;> split <;> omega
      have p1 := numL_pos (zig i)
      have p2 := numL_pos (zig (-1 - i))
      have := (key _ p2).2 (Nat.le_refl _)
      have := (key _ p1).1 (Nat.le_refl _)
      omega
    rw [e1, e2, e3, size_mk, size_mk, size_mk, size_mk, hz]
    refine ⟨fun _ => ?_, fun e => ?_⟩
    · rw [size_mk, wrap_u64 (by omega) (by omega)]
      refine cBytes1 (a := it0 s.length (by omega)) rfl (by show (0 : Nat) ≤ _; omega) fun h6 s6 => ⟨_, rfl, fun _ => ?_, fun e => ?_⟩
      · exact wk (fun b o e => s6 b o (hsub b o e)) hk
      · have e4 : itB (it0 s.length (by omega)) = numL s.length := rfl
        have := numL_le (n := s.length) (by omega)
        rw [e4, size_mk, wrap64 (by omega) (by omega)] at e
        unfold textL at e
        rw [List.length_append] at e
        simp at e; omega
    · simp only [beq_self_eq_true, Bool.and_true, Bool.and_eq_false_iff, decide_eq_false_iff_not] at e
      omega

theorem rv_cmp (r r' : RV) : (((0 : Int) == 0) && (((r.n : Int) == (r'.n : Int)) && ((r.i == r'.i) && ((strEq (mk r.s) (mk r'.s)) && (((r.b.toNat : Int) == (r'.b.toNat : Int)) && (((0 : Int) == 0) && true)))))) = decide (r = r') := by
  rw [strEq_mk']
  obtain ⟨n, i, s, b⟩ := r
  obtain ⟨n', i', s', b'⟩ := r'
  simp only [RV.mk.injEq]
  have e1 : ((n : Int) == (n' : Int)) = decide (n = n') := by
    by_cases h : n = n'
    · simp [h]
    · simp [h]; omega
  have e2 : ((b.toNat : Int) == (b'.toNat : Int)) = decide (b = b') := by
    by_cases h : b = b'
    · simp [h]
    · have : b.toNat ≠ b'.toNat := fun h' => h (UInt8.toNat_inj.1 h')
      simp [h]; omega
  rw [e1, e2]
  by_cases h1 : n = n' <;> by_cases h2 : i = i' <;> by_cases h3 : s = s' <;> by_cases h4 : b = b' <;> simp [h1, h2, h3, h4]
theorem itsB_drop {i : Nat} (hi : i < l.length) : itsB (l.drop i) = itB l[i] ++ itsB (l.drop (i + 1)) := by
  unfold itsB; rw [List.drop_eq_getElem_cons hi, List.flatMap_cons]
end TL

namespace TL
open Go Go.Proofs
variable {B : List Nat} {h : PH} {x : Option Addr} {K : Value → PH → Prop} {st : IS} {S : List UInt8} {lA mA : Option Addr} {lC mC : Nat} {l m : List It}

theorem Chg.from {B' : List Nat} {h g k : PH} (s : h.Sub g) (c : Chg [] B' g k) : Chg [] B' h k := ⟨fun b o _ e => c.sub0 b o (s b o e), fun b hb => by
  rcases c.2 b hb with h1 | h1
  · cases h1
  · refine .inr ?_
    cases e : h b with
    | none => rfl
    | some o => rw [s b o e] at h1; cases h1⟩
theorem SR.getAt {α : Type} {E : Enc α} {b o : Nat} {l : List α} (x : SR E h (some ⟨b, o, none⟩) l) {i : Nat} (hi : i < l.length) : ∀ o' f m, o' = o + i * E.k + f → f + m ≤ E.k → h.rds b o' m = some (((E.enc l[i]).drop f).take m) := by
  obtain ⟨b', o', e, hr⟩ := x.get hi
  cases e; exact hr
theorem Buf.sub {α : Type} {E : Enc α} {T : TypeId} {a : Option Addr} {n c : Nat} {l : List α} {g : PH} (x : Buf E T B h a n c l) (s : h.Sub g) : Buf E T B g a n c l := x.keep fun b _ o e => s b o e
theorem OutAt.sub {g : PH} {w : List UInt8} (x0 : OutAt B h x w) (s : h.Sub g) : OutAt B g x w := by
  obtain ⟨bn, a, n, cc, Bw, e1, rfl, hn2, hb, hw⟩ := x0
  exact ⟨bn, a, n, cc, Bw, e1, rfl, hn2, s _ _ hb, hw.sub s⟩
theorem eRead {a : It} {r : RV} {st' : IS} (e : rd st a = (r, st')) (hx : InAt B h x st) (hk : ∀ h', InAt B h' x st' → Chg B B h h' → K r.v h') :
    CallH Try.prog id_law01_read [.pointer x, .agg #[.int .u8 (a.d.toNat : Int), .int .u64 (a.n : Int), .int .i64 a.i, .string (mk a.s), .int .u8 (a.b.toNat : Int), .int .i64 a.m]] K h :=
  cRead a hx (by rw [e]; exact hk)
theorem iEnd_zero (h : iEnd st = 0) : st.e = 0 ∧ st.s = [] := by
  unfold iEnd at h
  split at h
  · cases h
  · rename_i hn
    refine ⟨h, ?_⟩
    by_cases e : st.s = []
    · exact e
    · exact absurd ⟨h, e⟩ hn

/-- two readers of two texts that read the same -/
def Alike (s t : List UInt8) (y z : IS) : Prop := (y.e ≠ 0 ∨ z.e ≠ 0) ∨ (y.e = 0 ∧ z.e = 0 ∧ ∃ p, s = p ++ y.s ∧ t = p ++ z.s)
theorem Alike.step {s t : List UInt8} {y z : IS} {a : It} (h : Alike s t y z) (e : (rd y a).1 = (rd z a).1) : Alike s t (rd y a).2 (rd z a).2 := by
  rcases h with (h | h) | ⟨h1, h2, p, h3, h4⟩
  · left; left; rw [rd_bad h]; exact h
  · left; right; rw [rd_bad h]; exact h
  · by_cases h5 : (rd y a).2.e = 0
    · by_cases h6 : (rd z a).2.e = 0
      · right
        have i1 := rd_inv h1 h5
        have i2 := rd_inv h2 h6
        rw [← e] at i2
        refine ⟨h5, h6, p ++ encR a (rd y a).1, ?_, ?_⟩
        · rw [List.append_assoc, ← i1]; exact h3
        · rw [List.append_assoc, ← i2]; exact h4
      · exact .inl (.inr h6)
    · exact .inl (.inl h5)

theorem PackReturns_den {s t : List UInt8} (hl : SR EncIt h lA l) (hk : ∀ h', h.Sub h' → K (.bool true) h') : CallH Try.prog id_law01_PackReturns [.slice lA l.length lC, .string (mk s), .string (mk t)] K h := by
  refine F_law01_PackReturns_ok (cGreat1 hl fun b hg => ⟨_, rfl, fun _ => wk (fun _ _ e => e) hk, fun e => ?_⟩)
  simp only [Bool.or_eq_false_iff, decide_eq_false_iff_not, size_mk] at e
  obtain ⟨⟨eb, hs⟩, ht⟩ := e
  obtain ⟨hn, hsum⟩ := hg eb
  refine cWritten hl (by omega) fun wA wC BW h1 hb1 c1 => ⟨_, _, _, rfl, ?_⟩
  have hwl := writtenL_len l
  have hws := writtenL_sum l
  have hmem : ∀ a ∈ writtenL l, a.d.toNat < 4 ∧ a.m = (a.s.length : Int) := fun a ha => writtenL_mem ha
  generalize writtenL l = w at *
  have hbl := itsB_len w
  refine cBytes hb1.sr (by omega) fun h2 s2 => ⟨_, rfl, cIn_Of (by omega) fun x Bx h3 x3 c3 => ⟨_, rfl, ?_⟩⟩
  have hb2 := hb1.sub s2
  have dW : Dj BW Bx := c3.dj (Dj.nil _) hb2.has
  have s02 : h.Sub h2 := fun b o e => s2 b o (c1.sub0 b o e)
  refine LoopP.ind (fun (z : Int × Unit) h' => (0 ≤ z.1 ∧ z.1 ≤ w.length) ∧ ∃ p, InAt Bx h' x ⟨itsB (w.drop z.1.toNat), p, 0⟩ ∧ Buf EncIt T_law01_Item BW h' wA w.length wC w ∧ Chg [] Bx h h') (fun z _ => (w.length - z.1).toNat) ?_
    ⟨⟨by decide, by show (0 : Int) ≤ _; omega⟩, 0, x3, hb2.sub c3.sub0, c3.from s02⟩
  rintro ⟨i, u⟩ h4 ⟨⟨i0, i1⟩, p, x4, b4, c4⟩
  dsimp only at i0 i1 x4 ⊢
  refine ⟨fun e => ?_, fun e => ?_⟩
  · have e : i < w.length := by simpa using e
    have hit : i.toNat < w.length := by omega
    obtain ⟨b, o, ha, hr⟩ := b4.sr.get hit
    obtain ⟨m1, m2⟩ := hmem _ (List.getElem_mem hit)
    refine ⟨b, o, ⟨ha, i0, e⟩, _, _, _, _, _, _, hr _ 0 6 rfl (by decide), b, o, ⟨ha, i0, e⟩, _, _, _, _, _, _, hr _ 0 6 rfl (by decide), ?_⟩
    have er : rd ⟨itsB (w.drop i.toNat), p, 0⟩ w[i.toNat] = (bareV w[i.toNat], ⟨itsB (w.drop (i.toNat + 1)), p + (itB w[i.toNat]).length, 0⟩) := by rw [itsB_drop hit]; exact rd_it m1 m2 _ _
    refine eRead er x4 fun h5 x5 c5 => ⟨_, _, _, _, _, _, rfl, ?_, ?_⟩
    · have b5 := b4.chg c5 dW
      rw [ha] at b5
      exact b5.sr.getAt hit _ 0 6 rfl (by decide)
    · refine cBare w[i.toNat] ⟨_, _, _, _, _, _, rfl, fun e => ?_, fun _ => ?_⟩
      · rw [rv_cmp] at e; simp at e
      · rw [wrap64 (n := i + 1) (by omega) (by omega)]
        refine ⟨⟨⟨by omega, by omega⟩, p + (itB w[i.toNat]).length, ?_, b4.chg c5 dW, c4.trans c5⟩, by omega⟩
        rw [show (i + 1).toNat = i.toNat + 1 by omega]; exact x5
  · have e : i = w.length := by simp at e; omega
    rw [e] at x4
    simp only [Int.toNat_natCast, List.drop_length] at x4
    refine eEnd (r := 0) (by simp [iEnd, itsB]) x4 ⟨_, rfl, fun e => absurd e (by decide), fun _ => ?_⟩
    refine cIn_Of (by omega) fun y By h5 y5 c5 => ⟨_, rfl, cIn_Of (by omega) fun z Bz h6 z6 c6 => ⟨_, rfl, ?_⟩⟩
    have y6 := y5.chg c6 (Dj.nil _)
    have dyz : Dj By Bz := c6.dj (Dj.nil _) y5.has
    have c06 : Chg [] (By ++ Bz) h h6 := by
      have c5' := (c5.from c4.sub0)
      have c6' := c6.from (fun b o e => c5.sub0 b o (c4.sub0 b o e))
      refine ⟨fun b o _ e => c6'.sub0 b o e, fun b hb => ?_⟩
      rcases List.mem_append.1 hb with hb | hb
      · exact c5'.2 b hb
      · exact c6'.2 b hb
    refine LoopP.ind (fun (q : Int × Unit) h' => (0 ≤ q.1 ∧ q.1 ≤ l.length) ∧ ∃ y' z', InAt By h' y y' ∧ InAt Bz h' z z' ∧ Alike s t y' z' ∧ Chg [] (By ++ Bz) h h') (fun q _ => (l.length - q.1).toNat) ?_
      ⟨⟨by decide, by show (0 : Int) ≤ _; omega⟩, _, _, y6, z6, .inr ⟨rfl, rfl, [], rfl, rfl⟩, c06⟩
    rintro ⟨i, u⟩ h7 ⟨⟨i0, i1⟩, y', z', y7, z7, ha7, c7⟩
    dsimp only at i0 i1 ⊢
    refine ⟨fun e => ?_, fun e => ?_⟩
    · have e : i < l.length := by simpa using e
      have hit : i.toNat < l.length := by omega
      obtain ⟨b, o, ha, hr⟩ := (hl.sub c7.sub0).get hit
      refine ⟨b, o, ⟨ha, i0, e⟩, _, _, _, _, _, _, hr _ 0 6 rfl (by decide), b, o, ⟨ha, i0, e⟩, _, _, _, _, _, _, hr _ 0 6 rfl (by decide), ?_⟩
      refine cRead l[i.toNat] y7 fun h8 y8 c8 => ⟨_, _, _, _, _, _, rfl, ?_, ?_⟩
      · have := hl.sub (c7.trans (c8.left (C := Bz))).sub0
        rw [ha] at this
        exact this.getAt hit _ 0 6 rfl (by decide)
      · have z8 := z7.chg c8 dyz.symm
        refine cRead l[i.toNat] z8 fun h9 z9 c9 => ⟨_, _, _, _, _, _, rfl, fun e => ?_, fun e => ?_⟩
        · exact wk ((c7.trans (c8.left (C := Bz))).trans (c9.right (C := By))).sub0 hk
        · rw [rv_cmp] at e
          have e : (rd y' l[i.toNat]).1 = (rd z' l[i.toNat]).1 := by simpa using e
          rw [wrap64 (n := i + 1) (by omega) (by omega)]
          exact ⟨⟨⟨by omega, by omega⟩, _, _, y8.chg c9 dyz, z9, ha7.step e, (c7.trans (c8.left (C := Bz))).trans (c9.right (C := By))⟩, by omega⟩
    · refine cIn_End y7 ⟨_, rfl, fun e1 => cIn_End z7 ⟨_, rfl, fun _ => wk c7.sub0 hk, fun e2 => ?_⟩, fun _ => wk c7.sub0 hk⟩
      exfalso
      have e1 : iEnd y' = 0 := by simp at e1; omega
      simp only [Bool.or_eq_false_iff] at e2
      obtain ⟨e2, e3⟩ := e2
      have e2 : iEnd z' = 0 := by simp at e2; omega
      obtain ⟨f1, f2⟩ := iEnd_zero e1
      obtain ⟨f3, f4⟩ := iEnd_zero e2
      rcases ha7 with (h | h) | ⟨_, _, q, h3, h4⟩
      · exact h f1
      · exact h f3
      · rw [f2, List.append_nil] at h3
        rw [f4, List.append_nil] at h4
        rw [h3, h4, strEq_self] at e3; cases e3

theorem PackFollows_den (hl : SR EncIt h lA l) (hm : SR EncIt h mA m) (hk : ∀ h', h.Sub h' → K (.bool true) h') : CallH Try.prog id_law01_PackFollows [.slice lA l.length lC, .slice mA m.length mC] K h := by
  refine F_law01_PackFollows_ok (JoinP.here (cGreat1 hl fun b hg => ⟨_, rfl, fun e => cGreat1 hm fun b' hg' => ⟨_, rfl, fun _ => wk (fun _ _ e => e) hk, fun e' => ?_⟩, fun _ => wk (fun _ _ e => e) hk⟩))
  obtain ⟨hn, hsum⟩ := hg e
  obtain ⟨hn', hsum'⟩ := hg' e'
  refine cWritten hl (by omega) fun aA aC Ba h1 a1 c1 => ⟨_, _, _, rfl, cWritten (hm.sub c1.sub0) (by omega) fun bA bC Bb h2 b2 c2 => ⟨_, _, _, rfl, ?_⟩⟩
  have hwl := writtenL_len l
  have hws := writtenL_sum l
  have hmem : ∀ a ∈ writtenL l, a.d.toNat < 4 ∧ a.m = (a.s.length : Int) := fun a ha => writtenL_mem ha
  have hwl' := writtenL_len m
  have hws' := writtenL_sum m
  have hmem' : ∀ a ∈ writtenL m, a.d.toNat < 4 ∧ a.m = (a.s.length : Int) := fun a ha => writtenL_mem ha
  generalize writtenL l = a at *
  generalize writtenL m = b at *
  have hbl := itsB_len a
  have hbl' := itsB_len b
  have s02 : h.Sub h2 := fun q o e => c2.sub0 q o (c1.sub0 q o e)
  have a2 := a1.sub c2.sub0
  refine nwL (cs := [.slice none 0 0]) fun bv h3 hb0 hb3 c3 => ?_
  have a3 := a2.sub c3.sub0
  have b3 := b2.sub c3.sub0
  have da : Dj Ba [bv] := c3.dj (Dj.nil _) a2.has
  have db : Dj Bb [bv] := c3.dj (Dj.nil _) b2.has
  refine cWrites (OutAt.new hb3) a3.sr (by simp; omega) (fun Bo h4 o4 c4 => ?_) (fun q hq o e => a3.avoid (fun hm => da q hm hq) e)
  rw [List.nil_append] at o4
  have da4 := c4.dj da a3.has
  have db4 := c4.dj db b3.has
  have a4 := a3.chg c4 da
  have b4 := b3.chg c4 db
  refine cOut_String o4 ⟨_, rfl, cWrites o4 b4.sr (by omega) (fun Bo h5 o5 c5 => JoinP.here ?_) (fun q hq o e => b4.avoid (fun hm => db4 q hm hq) e)⟩
  have a5 := a4.chg c5 da4
  have b5 := b4.chg c5 db4
  have s05 : h.Sub h5 := fun q o e => ((c3.from s02).trans (c4.trans c5)).sub0 q o e
  refine cBytes a5.sr (by omega) fun h6 s6 => ⟨_, rfl, fun _ => cOut_String (o5.sub s6) ⟨_, rfl, cBytes (b5.sub s6).sr (by omega) fun h7 s7 => ⟨_, rfl, ?_, fun e => ?_, fun _ => ?_⟩⟩, fun e => by simp [strEq_self] at e⟩
  · rw [size_mk, size_mk]; omega
  · rw [mk_append] at e; simp [strEq_self] at e
  have s57 : h5.Sub h7 := fun q o e => s7 q o (s6 q o e)
  have o7 := o5.sub s57
  have a7 := a5.sub s57
  have b7 := b5.sub s57
  refine cOut_String o7 ⟨_, rfl, cIn_Of (by rw [List.length_append]; omega) fun x Bx h8 x8 c8 => ⟨_, rfl, ?_⟩⟩
  have dax : Dj Ba Bx := c8.dj (Dj.nil _) a7.has
  have dbx : Dj Bb Bx := c8.dj (Dj.nil _) b7.has
  refine LoopP.ind (fun (z : Int × Unit) h' => (0 ≤ z.1 ∧ z.1 ≤ a.length) ∧ ∃ p, InAt Bx h' x ⟨itsB (a.drop z.1.toNat) ++ itsB b, p, 0⟩ ∧ Buf EncIt T_law01_Item Ba h' aA a.length aC a ∧ Buf EncIt T_law01_Item Bb h' bA b.length bC b ∧ Chg [] Bx h h') (fun z _ => (a.length - z.1).toNat) ?_
    ⟨⟨by decide, by show (0 : Int) ≤ _; omega⟩, 0, x8, a7.sub c8.sub0, b7.sub c8.sub0, c8.from fun q o e => s57 q o (s05 q o e)⟩
  rintro ⟨i, u⟩ h9 ⟨⟨i0, i1⟩, p, x9, a9, b9, c9⟩
  dsimp only at i0 i1 x9 ⊢
  refine ⟨fun e => ?_, fun e => ?_⟩
  · have e : i < a.length := by simpa using e
    have hit : i.toNat < a.length := by omega
    obtain ⟨q, o, ha, hr⟩ := a9.sr.get hit
    obtain ⟨m1, m2⟩ := hmem _ (List.getElem_mem hit)
    refine ⟨q, o, ⟨ha, i0, e⟩, _, _, _, _, _, _, hr _ 0 6 rfl (by decide), ?_⟩
    have er : rd ⟨itsB (a.drop i.toNat) ++ itsB b, p, 0⟩ a[i.toNat] = (bareV a[i.toNat], ⟨itsB (a.drop (i.toNat + 1)) ++ itsB b, p + (itB a[i.toNat]).length, 0⟩) := by rw [itsB_drop hit, List.append_assoc]; exact rd_it m1 m2 _ _
    refine eRead er x9 fun h10 x10 c10 => ⟨_, _, _, _, _, _, rfl, ?_⟩
    rw [wrap64 (n := i + 1) (by omega) (by omega)]
    refine ⟨⟨⟨by omega, by omega⟩, p + (itB a[i.toNat]).length, ?_, a9.chg c10 dax, b9.chg c10 dbx, c9.trans c10⟩, by omega⟩
    rw [show (i + 1).toNat = i.toNat + 1 by omega]; exact x10
  · have e : i = a.length := by simp at e; omega
    rw [e] at x9
    simp only [Int.toNat_natCast, List.drop_length, itsB, List.flatMap_nil, List.nil_append] at x9
    refine eFault (r := (0, 0)) (by simp [iFault]) x9 ⟨_, _, rfl, JoinP.here ⟨fun _ => cIn_Left x9 ⟨_, rfl, cBytes b9.sr (by omega) fun h10 s10 => ⟨_, rfl, fun e => ?_, fun _ => ?_⟩⟩, fun e => absurd e (by decide)⟩⟩
    · rw [size_mk] at e; simp [itsB] at e
    have x10 := x9.sub s10
    have b10 := b9.sub s10
    have c10 := c9.onto s10
    refine LoopP.ind (fun (z : Int × Unit) h' => (0 ≤ z.1 ∧ z.1 ≤ b.length) ∧ ∃ p, InAt Bx h' x ⟨itsB (b.drop z.1.toNat), p, 0⟩ ∧ Buf EncIt T_law01_Item Bb h' bA b.length bC b ∧ Chg [] Bx h h') (fun z _ => (b.length - z.1).toNat) ?_
      ⟨⟨by decide, by show (0 : Int) ≤ _; omega⟩, p, x10, b10, c10⟩
    clear x10 b10 c10 x9 a9 b9 c9 i0 i1 e
    rintro ⟨i, u⟩ h11 ⟨⟨i0, i1⟩, p, x4, b4, c4⟩
    dsimp only at i0 i1 x4 ⊢
    refine ⟨fun e => ?_, fun e => ?_⟩
    · have e : i < b.length := by simpa using e
      have hit : i.toNat < b.length := by omega
      obtain ⟨q, o, ha, hr⟩ := b4.sr.get hit
      obtain ⟨m1, m2⟩ := hmem' _ (List.getElem_mem hit)
      refine ⟨q, o, ⟨ha, i0, e⟩, _, _, _, _, _, _, hr _ 0 6 rfl (by decide), q, o, ⟨ha, i0, e⟩, _, _, _, _, _, _, hr _ 0 6 rfl (by decide), ?_⟩
      have er : rd ⟨itsB (b.drop i.toNat), p, 0⟩ b[i.toNat] = (bareV b[i.toNat], ⟨itsB (b.drop (i.toNat + 1)), p + (itB b[i.toNat]).length, 0⟩) := by rw [itsB_drop hit]; exact rd_it m1 m2 _ _
      refine eRead er x4 fun h5 x5 c5 => ⟨_, _, _, _, _, _, rfl, ?_, ?_⟩
      · have b5 := b4.chg c5 dbx
        rw [ha] at b5
        exact b5.sr.getAt hit _ 0 6 rfl (by decide)
      · refine cBare b[i.toNat] ⟨_, _, _, _, _, _, rfl, fun e => ?_, fun _ => ?_⟩
        · rw [rv_cmp] at e; simp at e
        · rw [wrap64 (n := i + 1) (by omega) (by omega)]
          refine ⟨⟨⟨by omega, by omega⟩, p + (itB b[i.toNat]).length, ?_, b4.chg c5 dbx, c4.trans c5⟩, by omega⟩
          rw [show (i + 1).toNat = i.toNat + 1 by omega]; exact x5
    · have e : i = b.length := by simp at e; omega
      rw [e] at x4
      simp only [Int.toNat_natCast, List.drop_length] at x4
      exact eEnd (r := 0) (by simp [iEnd, itsB]) x4 ⟨_, rfl, fun _ => wk c4.sub0 hk, fun e => absurd e (by decide)⟩
end TL

namespace TL
open Go Go.Proofs
variable {B : List Nat} {h : PH} {x : Option Addr} {K : Value → PH → Prop} {st : IS} {S : List UInt8} {lA mA : Option Addr} {lC mC : Nat} {l m : List It}

theorem zeroRV : (⟨0, 0, [], 0⟩ : RV).v = .agg #[.int .u8 (0 : Int), .int .u64 (0 : Int), .int .i64 (0 : Int), .string (⟨#[]⟩ : ByteArray), .int .u8 (0 : Int), .int .i64 (0 : Int)] := rfl
theorem PackCuts_den {cut : Int} (hl : SR EncIt h lA l) (hk : ∀ h', h.Sub h' → K (.bool true) h') : CallH Try.prog id_law01_PackCuts [.slice lA l.length lC, .int .i64 cut] K h := by
  refine F_law01_PackCuts_ok (cGreat1 hl fun b hg => ⟨_, rfl, fun _ => wk (fun _ _ e => e) hk, fun e => ?_⟩)
  obtain ⟨hn, hsum⟩ := hg e
  refine cWritten hl (by omega) fun wA wC BW h1 hb1 c1 => ⟨_, _, _, rfl, ?_⟩
  have hwl := writtenL_len l
  have hws := writtenL_sum l
  have hmem : ∀ a ∈ writtenL l, a.d.toNat < 4 ∧ a.m = (a.s.length : Int) := fun a ha => writtenL_mem ha
  generalize writtenL l = w at *
  have hbl := itsB_len w
  refine cBytes hb1.sr (by omega) fun h2 s2 => ⟨_, rfl, ?_⟩
  have b2 := hb1.sub s2
  have s02 : h.Sub h2 := fun b o e => s2 b o (c1.sub0 b o e)
  rw [size_mk, wrap64 (n := ((itsB w).length : Int) + 1) (by omega) (by omega)]
  generalize hN : (itsB w).length = N at *
  have ht1 : -((N : Int) + 1) < cut.tmod ((N : Int) + 1) := by
    have : -(cut.tmod ((N : Int) + 1)) < (N : Int) + 1 := by rw [← Int.neg_tmod]; exact Int.tmod_lt_of_pos _ (by omega)
    omega
  have ht2 : cut.tmod ((N : Int) + 1) < (N : Int) + 1 := Int.tmod_lt_of_pos _ (by omega)
  refine ⟨by omega, fun z h' => h' = h2 ∧ ∃ k : Nat, z.1 = (k : Int) ∧ k ≤ N, ⟨fun e => ?_, fun e => ?_⟩, ?_⟩
  · have e : cut.tmod ((N : Int) + 1) < 0 := by simpa using e
    rw [wrap64 (n := cut.tmod ((N : Int) + 1) + (N : Int)) (by omega) (by omega), wrap64 (by omega) (by omega)]
    exact ⟨rfl, (cut.tmod ((N : Int) + 1) + (N : Int) + 1).toNat, by dsimp only; omega, by omega⟩
  · have e : 0 ≤ cut.tmod ((N : Int) + 1) := by simp at e; omega
    exact ⟨rfl, (cut.tmod ((N : Int) + 1)).toNat, by dsimp only; omega, by omega⟩
  rintro ⟨_, u⟩ h3 ⟨rfl, k, rfl, hkN⟩
  dsimp only
  rw [subS_mk]
  refine ⟨⟨by omega, by omega, by omega⟩, cIn_Of (by rw [List.length_take]; omega) fun x Bx h4 x4 c4 => ⟨_, rfl, ?_⟩⟩
  have dW : Dj BW Bx := c4.dj (Dj.nil _) b2.has
  refine LoopP.ind (fun (z : Int × Int × Unit) h' => (0 ≤ z.2.1 ∧ z.2.1 ≤ w.length) ∧ ∃ p : Nat, z.1 = (p : Int) ∧ p ≤ k ∧ p + (itsB (w.drop z.2.1.toNat)).length = N ∧ InAt Bx h' x ⟨(itsB (w.drop z.2.1.toNat)).take (k - p), p, 0⟩ ∧ Buf EncIt T_law01_Item BW h' wA w.length wC w ∧ Chg [] Bx h h') (fun z _ => (w.length - z.2.1).toNat) ?_
    ⟨⟨by decide, by show (0 : Int) ≤ _; omega⟩, 0, rfl, by omega, by simpa using hN, by simpa using x4, b2.sub c4.sub0, c4.from s02⟩
  rintro ⟨_, i, u⟩ h5 ⟨⟨i0, i1⟩, p, rfl, hp, hpN, x5, b5, c5⟩
  dsimp only at i0 i1 hpN x5 ⊢
  refine ⟨fun e => ?_, fun e => ?_⟩
  · have e : i < w.length := by simpa using e
    have hit : i.toNat < w.length := by omega
    have hcap := b5.le
    obtain ⟨m1, m2⟩ := hmem _ (List.getElem_mem hit)
    have hsum1 := sumS_le hit
    have hdr := itsB_drop hit
    have hlen : (itsB (w.drop i.toNat)).length = (itB w[i.toNat]).length + (itsB (w.drop (i.toNat + 1))).length := by rw [hdr, List.length_append]
    rw [wrap64 (n := i + 1) (by omega) (by omega), show (i + 1).toNat - i.toNat = 1 by omega]
    refine ⟨⟨i0, by omega, by omega, by omega⟩, cBytes (l := [w[i.toNat]]) (b5.sr.at1 hit rfl (by omega)) (by simp [sumS]; omega) fun h6 s6 => ⟨_, rfl, ?_⟩⟩
    have hone : itsB [w[i.toNat]] = itB w[i.toNat] := by simp [itsB]
    rw [hone, size_mk]
    have x6 := x5.sub s6
    have b6 := b5.sub s6
    have c6 := c5.onto s6
    obtain ⟨b, o, ha, hr⟩ := b6.sr.get hit
    refine ⟨b, o, ⟨ha, i0, e⟩, _, _, _, _, _, _, hr _ 0 6 rfl (by decide), ?_⟩
    rw [wrap64 (n := (p : Int) + ((itB w[i.toNat]).length : Int)) (by omega) (by omega)]
    by_cases hfit : p + (itB w[i.toNat]).length ≤ k
    · have er : rd ⟨(itsB (w.drop i.toNat)).take (k - p), p, 0⟩ w[i.toNat] = (bareV w[i.toNat], ⟨(itsB (w.drop (i.toNat + 1))).take (k - (p + (itB w[i.toNat]).length)), p + (itB w[i.toNat]).length, 0⟩) := by
        rw [hdr, List.take_append, List.take_of_length_le (l := itB w[i.toNat]) (by omega), Nat.sub_sub]
        exact rd_it m1 m2 _ _
      refine eRead er x6 fun h7 x7 c7 => ⟨_, _, _, _, _, _, rfl, eFault (r := (0, 0)) (by simp [iFault]) x7 ⟨_, _, rfl, fun _ => ?_, fun e => ?_⟩⟩
      · have b7 := b6.chg c7 dW
        obtain ⟨b', o', ha', hr'⟩ := b7.sr.get hit
        refine ⟨b', o', ⟨ha', i0, by omega⟩, _, _, _, _, _, _, hr' _ 0 6 rfl (by decide), cBare w[i.toNat] ⟨_, _, _, _, _, _, rfl, fun _ => cIn_Left x7 ⟨_, rfl, fun e => ?_, fun _ => ?_⟩, fun e => ?_⟩⟩
        · exfalso
          rw [wrap64 (by omega) (by omega)] at e
          simp only [List.length_take] at e
          simp at e
          omega
        · refine ⟨⟨⟨by omega, by omega⟩, p + (itB w[i.toNat]).length, by omega, hfit, ?_, ?_, b7, c6.trans c7⟩, by omega⟩
          · rw [show (i + 1).toNat = i.toNat + 1 by omega]; omega
          · rw [show (i + 1).toNat = i.toNat + 1 by omega]; exact x7
        · rw [rv_cmp] at e; simp at e
      · simp at e; omega
    · have er : rd ⟨(itsB (w.drop i.toNat)).take (k - p), p, 0⟩ w[i.toNat] = (⟨0, 0, [], 0⟩, ⟨(itB w[i.toNat]).take (k - p), p, 7⟩) := by
        rw [hdr, List.take_append_of_le_length (by omega)]
        exact rd_cut m1 m2 (by omega) _
      have bad : ∀ a, rd ⟨(itB w[i.toNat]).take (k - p), p, 7⟩ a = (⟨0, 0, [], 0⟩, ⟨(itB w[i.toNat]).take (k - p), p, 7⟩) := fun a => rd_bad (by simp)
      refine eRead er x6 fun h7 x7 c7 => ⟨_, _, _, _, _, _, rfl, eFault (r := (7, p)) (by simp [iFault]) x7 ⟨_, _, rfl, fun e => ?_, fun _ => JoinP.here ⟨fun _ => cIn_Left x7 ⟨_, rfl, fun e => ?_, fun _ => ?_⟩, fun e => ?_⟩⟩⟩
      · simp at e; omega
      · exfalso
        rw [wrap64 (by omega) (by omega)] at e
        simp only [List.length_take] at e
        simp at e
        omega
      · have hL : ((((itB w[i.toNat]).take (k - p)).length : Int) == IntKind.wrap .i64 ((k : Int) - (p : Int))) = true := by
          rw [wrap64 (by omega) (by omega), List.length_take]; simp; omega
        refine eNum (r := 0) (st' := ⟨(itB w[i.toNat]).take (k - p), p, 7⟩) (by simp [iNum]) x7 fun h8 x8 c8 => ⟨_, rfl, fun _ => ?_, fun e => absurd e (by decide)⟩
        refine eInt (r := 0) (st' := ⟨(itB w[i.toNat]).take (k - p), p, 7⟩) (by simp [iNum, zag]) x8 fun h9 x9 c9 => ⟨_, rfl, fun _ => ?_, fun e => absurd e (by decide)⟩
        refine eByte (r := 0) (st' := ⟨(itB w[i.toNat]).take (k - p), p, 7⟩) (by simp [iByte]) x9 fun h10 x10 c10 => ⟨_, rfl, fun _ => ?_, fun e => absurd e (by decide)⟩
        refine eText (r := []) (st' := ⟨(itB w[i.toNat]).take (k - p), p, 7⟩) (by decide) (by simp [iText]) x10 fun h11 x11 c11 => ⟨_, rfl, fun _ => ?_, fun e => absurd e (by decide)⟩
        refine eMost (r := 0) (st' := ⟨(itB w[i.toNat]).take (k - p), p, 7⟩) (by decide) (by simp [iMost]) x11 fun h12 x12 c12 => ⟨_, rfl, fun _ => ?_, fun e => absurd e (by decide)⟩
        refine cIn_Left x12 ⟨_, rfl, fun _ => ?_, fun e => by rw [hL] at e; cases e⟩
        refine eEnd (r := 7) (by simp [iEnd]) x12 ⟨_, rfl, fun _ => ?_, fun e => absurd e (by decide)⟩
        exact wk ((((((c6.trans c7).trans c8).trans c9).trans c10).trans c11).trans c12).sub0 hk
      · have e0 : strEq (mk []) (⟨#[]⟩ : ByteArray) = true := by decide
        simp only [e0] at e
        simp at e
  · have e : i = w.length := by simp at e; omega
    rw [e] at x5
    simp only [Int.toNat_natCast, List.drop_length] at x5
    exact eEnd (r := 0) (by simp [iEnd, itsB]) x5 ⟨_, rfl, fun _ => wk c5.sub0 hk, fun e => absurd e (by decide)⟩

theorem PackBounds_den {s : List UInt8} {most : Int} (hm : -9223372036854775808 ≤ most ∧ most ≤ 9223372036854775807) (hk : ∀ h', h.Sub h' → K (.bool true) h') : CallH Try.prog id_law01_PackBounds [.string (mk s), .int .i64 most] K h := by
  refine F_law01_PackBounds_ok ⟨fun _ => wk (fun _ _ e => e) hk, fun e => ?_⟩
  have hs : s.length ≤ 30000 := by rw [size_mk] at e; simp at e; omega
  refine cIn_Of (by omega) fun x Bx h1 x1 c1 => ⟨_, rfl, cIn_Num x1 fun h2 x2 c2 => ⟨_, rfl, cIn_Fault x2 ⟨_, _, rfl, cIn_Of (by omega) fun y By h3 y3 c3 => ⟨_, rfl, cIn_Most y3 hm.2 fun h4 y4 c4 => ⟨_, rfl, cIn_Fault y4 ⟨_, _, rfl, ?_⟩⟩⟩⟩⟩⟩
  have x3 := x2.sub c3.sub0
  have dxy : Dj Bx By := c3.dj (Dj.nil _) x2.has
  have x4 := x3.chg c4 dxy
  have c12 : Chg [] Bx h h2 := c1.trans c2
  have s04 : h.Sub h4 := fun b o e => by
    have e2 := c12.sub0 b o e
    have hb : b ∉ By := c3.fresh e2 (by simp)
    exact c4.keep (c3.sub0 b o e2) hb
  simp only [iNum, iMost, if_true] at x4 y4 ⊢
  have hnx := next_err s
  have hb := bound_err s most
  have hle := next_le s
  -- the error of the number, and of the bound
  have hF1 : (iFault (IS.take ⟨s, 0, 0⟩ (nextS s).n (nextS s).e)).1 = (nextS s).e := by
    unfold iFault IS.take; split
    · rename_i h; rw [h]; rfl
    · rename_i h; simp
  have hF2 : (iFault (IS.take ⟨s, 0, 0⟩ (boundS s most).n (boundS s most).e)).1 = (boundS s most).e := by
    unfold iFault IS.take; split
    · rename_i h; rw [h]; rfl
    · rename_i h; simp
  have hF3 : (iFault (IS.take ⟨s, 0, 0⟩ (boundS s most).n (boundS s most).e)).2 = 0 := by
    unfold iFault IS.take; split
    · rfl
    · rename_i h; simp
  rw [hF1, hF2, hF3]
  refine ⟨fun z h' => h' = h4 ∧ z.1 = ((boundS s most).e : Int), ⟨fun e => ?_, fun e => ?_⟩, ?_⟩
  · have e : (nextS s).e = 0 := by simp at e; omega
    refine ⟨fun e2 => ⟨rfl, ?_⟩, fun e2 => ⟨rfl, ?_⟩⟩
    · have e2 : most < 0 ∨ most < ((nextS s).v : Int) := by
        simp only [Bool.or_eq_true, decide_eq_true_eq] at e2
        rcases e2 with e2 | e2
        · exact .inl e2
        · rcases Int.lt_or_le most 0 with h | h
          · exact .inl h
          · rw [wrap_u64 h (by omega)] at e2; exact .inr e2
      unfold boundS; rw [if_pos ⟨e, e2⟩]; rfl
    · have e2 : ¬ (most < 0 ∨ most < ((nextS s).v : Int)) := by
        simp only [Bool.or_eq_false_iff, decide_eq_false_iff_not] at e2
        obtain ⟨e2, e3⟩ := e2
        rw [wrap_u64 (by omega) (by omega)] at e3; omega
      unfold boundS; rw [if_neg (fun h => e2 h.2)]
  · have e : (nextS s).e ≠ 0 := by simp at e; omega
    refine ⟨rfl, ?_⟩
    unfold boundS; rw [if_neg (fun h => e h.1)]
  rintro ⟨_, u⟩ h5 ⟨rfl, rfl⟩
  dsimp only
  refine ⟨fun e => by simp at e, fun _ => cIn_Of (by omega) fun z Bz h6 z6 c6 => ⟨_, rfl, cIn_Text z6 hm.2 fun h7 z7 c7 => ⟨_, rfl, cIn_Fault z7 ⟨_, _, rfl, ?_⟩⟩⟩⟩
  have dxz : Dj Bx Bz := c6.dj (Dj.nil _) x4.has
  have dyz : Dj By Bz := c6.dj (Dj.nil _) y4.has
  have x7 := (x4.sub c6.sub0).chg c7 dxz
  have y7 := (y4.sub c6.sub0).chg c7 dyz
  have s07 : h.Sub h7 := fun b o e => by
    have e4 := s04 b o e
    have hb : b ∉ Bz := c6.fresh e4 (by simp)
    exact c7.keep (c6.sub0 b o e4) hb
  simp only [iText, if_true] at z7 ⊢
  rcases hb with ⟨hb0, hb1, hb2, hb3⟩ | ⟨hb0, hb1⟩
  · -- there is a number within the bound
    have hne : (nextS s).e = 0 := by rw [← hb1]; exact hb0
    rw [hb0]
    refine ⟨fun e => absurd e (by decide), fun _ => cIn_Left y7 ⟨_, rfl, JoinP.here ⟨fun _ => cIn_Left x7 ⟨_, rfl, fun e => ?_, fun _ => ?_⟩, fun e => ?_⟩⟩⟩
    · exfalso
      rw [hb1, hne, size_mk] at e
      simp only [IS.take, if_true, List.length_drop] at e
      simp at e; omega
    · have hyl : (IS.take ⟨s, 0, 0⟩ (boundS s most).n (boundS s most).e).s.length = s.length - (nextS s).n := by
        rw [hb0, hb1]; simp [IS.take]
      dsimp only
      rw [hyl]
      refine ⟨fun e => ?_, fun e => ?_⟩
      · have e : s.length - (nextS s).n < (boundS s most).v := by simp at e; omega
        have ht : textE ⟨s, 0, 0⟩ most = 7 := by
          unfold textE; rw [if_pos ⟨hb0, by rw [hb1]; rw [hb1] at e; exact e⟩]
        simp only [ht] at z7 ⊢
        refine ⟨fun _ => cIn_Left z7 ⟨_, rfl, fun _ => wk s07 hk, fun e => ?_⟩, fun e => ?_⟩
        · rw [size_mk] at e; simp [IS.take] at e
        · simp [iFault, IS.take] at e
          exact absurd e (by decide)
      · have e : (boundS s most).v ≤ s.length - (nextS s).n := by simp at e; omega
        have efit := e
        have ht : textE ⟨s, 0, 0⟩ most = 0 := by
          unfold textE; rw [if_neg (by rw [hb1]; rw [hb1] at e; simp only; omega)]; exact hb0
        simp only [ht, if_true] at z7 ⊢
        have hw1 : IntKind.wrap .i64 (((mk s).size : Int) - ((s.length - (nextS s).n : Nat) : Int)) = ((nextS s).n : Int) := by
          rw [size_mk, wrap64 (by omega) (by omega)]; omega
        rw [hw1, subS_mk, subS_mk, size_mk, size_mk]
        refine ⟨fun _ => ⟨by omega, by omega, by omega⟩, fun _ => ⟨by decide, by omega, ?_⟩, fun _ => cIn_Left z7 ⟨_, rfl, fun _ => wk s07 hk, fun e => ?_⟩, fun e => ?_⟩
        · rw [List.length_take, List.length_drop]; omega
        · exfalso
          rw [wrap64 (by omega) (by omega)] at e
          simp only [IS.take, if_true, List.length_drop] at e
          rw [hb1] at e
          rw [hb1] at efit
          simp at e; omega
        · exfalso
          have e1 : List.take ((boundS s most).v : Int).toNat (List.drop (0 : Int).toNat (List.take ((s.length : Int).toNat - ((nextS s).n : Int).toNat) (List.drop ((nextS s).n : Int).toNat s))) = List.take (boundS s most).v (List.drop (boundS s most).n s) := by
            rw [hb1]
            simp only [Int.toNat_natCast, Int.toNat_zero, List.drop_zero]
            rw [List.take_of_length_le (l := List.drop (nextS s).n s) (by rw [List.length_drop]; omega)]
          simp only [Int.toNat_zero, Nat.sub_zero] at e e1
          rw [e1] at e
          simp [iFault, IS.take, strEq_self] at e
    · rw [wrap_u64 (by have := hb2; omega) (by rw [hb1]; omega), hb1] at e
      simp at e
  · -- there is none
    have hv : (boundS s most).v = 0 := by rw [hb1]
    have hne : (boundS s most).e ≠ 0 := by omega
    have ht : textE ⟨s, 0, 0⟩ most = (boundS s most).e := by unfold textE; rw [if_neg (fun h => hne h.1)]
    simp only [ht, if_neg hne, hv] at z7 ⊢
    refine ⟨fun _ => ⟨fun _ => cIn_Left y7 ⟨_, rfl, fun _ => cIn_Left z7 ⟨_, rfl, fun _ => wk s07 hk, fun e => ?_⟩, fun e => ?_⟩, fun e => absurd e (by decide)⟩, fun e => ?_⟩
    · rw [size_mk] at e; simp [IS.take, hne] at e
    · exfalso
      have e0 : strEq (mk []) (⟨#[]⟩ : ByteArray) = true := by decide
      rw [size_mk, e0] at e
      simp [IS.take, iFault, hne] at e
    · simp at e; omega
end TL

namespace TL
open Go Go.Proofs
variable {B : List Nat} {h : PH} {x : Option Addr} {K : Value → PH → Prop} {st : IS} {S : List UInt8} {lA mA : Option Addr} {lC mC : Nat} {l m : List It}

theorem fault1 (st : IS) : (iFault st).1 = st.e := by
  unfold iFault; split
  · rename_i h; exact h.symm
  · rfl
theorem PackTells_den {s : List UInt8} {bare : Bool} (hl : SR EncIt h lA l) (hk : ∀ h', h.Sub h' → K (.bool true) h') : CallH Try.prog id_law01_PackTells [.string (mk s), .slice lA l.length lC, .bool bare] K h := by
  refine F_law01_PackTells_ok (cGreat1 hl fun b hg => ⟨_, rfl, fun _ => wk (fun _ _ e => e) hk, fun e => ?_⟩)
  simp only [Bool.or_eq_false_iff, decide_eq_false_iff_not, size_mk] at e
  obtain ⟨eb, hs⟩ := e
  obtain ⟨hn, hsum⟩ := hg eb
  refine cIn_Of (by omega) fun x Bx h1 x1 c1 => ⟨_, rfl, nwL (cs := [.string (mk s), .int .i64 (0 : Int), .int .i64 (0 : Int)]) fun bv h2 hb0 hb2 c2 => ?_⟩
  have x2 := x1.sub c2.sub0
  have d2 : Dj Bx [bv] := c2.dj (Dj.nil _) x1.has
  refine ⟨fun z h' => ∃ Bx S, InAt Bx h' z.1 ⟨S, 0, 0⟩ ∧ RIn [bv] h' (some ⟨bv, 0, none⟩) S ⟨S, 0, 0⟩ ∧ Dj Bx [bv] ∧ Chg [] (Bx ++ [bv]) h h' ∧ S.length ≤ 30000, ⟨fun _ => ?_, fun _ => ?_⟩, ?_⟩
  · refine nwL (cs := [.string (⟨#[]⟩ : ByteArray), .int .i64 (0 : Int), .int .i64 (0 : Int)]) fun b1 h3 hb3 hb3' c3 => ⟨bv, 0, rfl, ?_⟩
    have hbv3 := c3.sub0 _ _ hb2
    have hne : b1 ≠ bv := fun e => by rw [e] at hb3; rw [hb3] at hb2; cases hb2
    refine stL (cs' := [.string (mk []), .int .i64 (0 : Int), .int .i64 (0 : Int)]) hbv3 rfl rfl fun h4 hb4 c4 => ?_
    have hb14 := c4.keep hb3' (by simpa using hne)
    refine ⟨[b1], [], ⟨b1, rfl, rfl, hb14, by simp⟩, ⟨bv, rfl, rfl, hb4, rfl, by simp, by simp⟩, ?_, ?_, by simp⟩
    · intro q hq hm
      rw [List.mem_singleton] at hq hm; rw [hq] at hm; exact hne hm
    · have c02 : Chg [] [bv] h h2 := c2.from c1.sub0
      have c13 : Chg [] [b1] h h3 := c3.from c02.sub0
      refine ⟨fun q o _ e => c4.keep (c13.sub0 q o e) (fun hm => ?_), fun q hq => ?_⟩
      · rw [List.mem_singleton] at hm; subst hm
        rcases c02.2 q (by simp) with h5 | h5
        · cases h5
        · rw [h5] at e; cases e
      · rcases List.mem_append.1 hq with hq | hq
        · exact c13.2 q hq
        · exact c02.2 q hq
  · refine ⟨Bx, s, x2, ⟨bv, rfl, rfl, hb2, rfl, by simp, by show s.length ≤ _; omega⟩, d2, ?_, by omega⟩
    refine ⟨fun q o _ e => c2.sub0 q o (c1.sub0 q o e), fun q hq => ?_⟩
    rcases List.mem_append.1 hq with hq | hq
    · exact c1.2 q hq
    · exact (c2.from c1.sub0).2 q hq
  clear d2 x2 c2 hb2 hb0 x1 c1 hs
  rintro ⟨x', u⟩ h3 ⟨Bx', S, x3, r3, d3, c3, hS⟩
  dsimp only at x3 ⊢
  refine LoopP.ind (fun (z : Int × Unit) h' => (0 ≤ z.1 ∧ z.1 ≤ l.length) ∧ ∃ st, InAt Bx' h' x' st ∧ RIn [bv] h' (some ⟨bv, 0, none⟩) S st ∧ Chg [] (Bx' ++ [bv]) h h') (fun z _ => (l.length - z.1).toNat) ?_
    ⟨⟨by decide, by show (0 : Int) ≤ _; omega⟩, _, x3, r3, c3⟩
  rintro ⟨i, u⟩ h4 ⟨⟨i0, i1⟩, st, x4, r4, c4⟩
  dsimp only at i0 i1 ⊢
  refine ⟨fun e => JoinP.here ?_, fun _ => wk c4.sub0 hk⟩
  have e : i < l.length := by simpa using e
  have hit : i.toNat < l.length := by omega
  obtain ⟨b, o, ha, hr⟩ := (hl.sub c4.sub0).get hit
  refine ⟨b, o, ⟨ha, i0, e⟩, _, _, _, _, _, _, hr _ 0 6 rfl (by decide), b, o, ⟨ha, i0, e⟩, _, _, _, _, _, _, hr _ 0 6 rfl (by decide), ?_⟩
  refine cRead l[i.toNat] x4 fun h5 x5 c5 => ⟨_, _, _, _, _, _, rfl, ?_, ?_⟩
  · have := hl.sub (c4.trans (c5.left (C := [bv]))).sub0
    rw [ha] at this
    exact this.getAt hit _ 0 6 rfl (by decide)
  have r5 := r4.chg c5 d3.symm
  refine cTold l[i.toNat] r5 fun h6 r6 c6 => ⟨_, _, _, _, _, _, rfl, fun e => ?_, fun _ => ?_⟩
  · rw [rv_cmp] at e; simp at e
  have x6 := x5.chg c6 d3
  have c46 := (c4.trans (c5.left (C := [bv]))).trans (c6.right (C := Bx'))
  generalize (rd st l[i.toNat]).2 = q at *
  have r60 := r6
  obtain ⟨bn, hbn, _, hb, hs, hp, hlS⟩ := r6
  cases hbn
  have hql : q.s.length = S.length - q.p := by rw [hs, List.length_drop]
  refine cIn_Fault x6 ⟨_, _, rfl, bv, 0, rfl, _, rdsL hb rfl rfl, fun z h' => h' = h6 ∧ z.1 = (iEnd q : Int), ⟨bv, 0, fun _ => rfl, _, fun _ => rdsL hb rfl rfl, bv, 0, fun _ => rfl, _, fun _ => rdsL hb rfl rfl, fun e => ?_, fun e => ?_⟩, ?_⟩
  · refine ⟨rfl, ?_⟩
    simp only [Bool.and_eq_true, decide_eq_true_eq, beq_iff_eq, size_mk] at e
    obtain ⟨e1, e2⟩ := e
    have hne : q.s ≠ [] := fun h => by rw [h] at hql; simp at hql; omega
    unfold iEnd; rw [if_pos ⟨by omega, hne⟩]; rfl
  · refine ⟨rfl, ?_⟩
    simp only [Bool.and_eq_false_iff, decide_eq_false_iff_not, beq_eq_false_iff_ne, size_mk] at e
    have : ¬ (q.e = 0 ∧ q.s ≠ []) := by
      rintro ⟨h1, h2⟩
      have : 0 < q.s.length := List.length_pos_iff.2 h2
      omega
    unfold iEnd; rw [if_neg this]
  rintro ⟨_, u⟩ h7 ⟨rfl, rfl⟩
  dsimp only
  rw [fault1]
  have hf2 : (iFault q).2 = if q.e = 0 then 0 else q.p := by unfold iFault; split <;> rfl
  rw [hf2]
  refine ⟨bv, 0, rfl, _, rdsL hb rfl rfl, fun _ => ⟨bv, 0, fun _ => rfl, _, fun _ => rdsL hb rfl rfl, fun _ => ⟨bv, 0, fun _ => rfl, _, fun _ => rdsL hb rfl rfl, bv, 0, fun _ => rfl, _, fun _ => rdsL hb rfl rfl, fun _ => ?_, fun e => ?_⟩, fun e => ?_⟩, fun e => ?_⟩
  · refine cIn_Left x6 ⟨_, rfl, fun _ => rdsL hb rfl rfl, fun _ => rdsL hb rfl rfl, fun _ => cIn_End x6 ⟨_, rfl, fun e => by simp at e, fun _ => ?_⟩, fun e => ?_⟩
    · rw [wrap64 (n := i + 1) (by omega) (by omega)]
      exact ⟨⟨⟨by omega, by omega⟩, q, x6, r60, c46⟩, by omega⟩
    · exfalso
      rw [size_mk, wrap64 (by omega) (by omega)] at e
      simp at e; omega
  · exfalso
    simp at e
    obtain ⟨e1, e2⟩ := e
    exact absurd e2 (by simp [e1])
  · exfalso
    simp at e
    obtain ⟨e1, e2⟩ := e
    simp [e1] at e2
  · simp at e
end TL

namespace TL
open Go Go.Proofs
variable {B : List Nat} {h : PH} {x : Option Addr} {K : Value → PH → Prop} {st : IS} {S : List UInt8}

structure Rw where
  a : It
  s : List UInt8
def EncRw : Enc Rw where
  enc r := EncIt.enc r.a ++ [.string (mk r.s)]
  k := 7
  len _ := rfl
  one r v hv := by
    rcases List.mem_append.1 hv with hv | hv
    · exact EncIt.one r.a v hv
    · rw [List.mem_singleton] at hv; rw [hv]; rfl
  pos := by decide
def it3 (b : UInt8) : It := ⟨3, 0, 0, [], b, 0, by decide, by decide, by decide, by decide⟩
def rows13 : List Rw := [⟨it0 0 (by decide), [0]⟩, ⟨it0 127 (by decide), [127]⟩, ⟨it0 128 (by decide), [128, 1]⟩, ⟨it0 16384 (by decide), [128, 128, 1]⟩, ⟨it0 18446744073709551615 (by decide), [255, 255, 255, 255, 255, 255, 255, 255, 255, 1]⟩,
  ⟨it1 0 (by decide), [0]⟩, ⟨it1 (-1) (by decide), [1]⟩, ⟨it1 1 (by decide), [2]⟩, ⟨it1 (-65) (by decide), [129, 1]⟩, ⟨it1 (-9223372036854775808) (by decide), [255, 255, 255, 255, 255, 255, 255, 255, 255, 1]⟩,
  ⟨⟨2, 0, 0, [97, 98], 0, 2, by decide, by decide, by decide, by decide⟩, [2, 97, 98]⟩, ⟨it2 [] (by decide), [0]⟩, ⟨it3 200, [200]⟩]
def chk (r : Rw) : Bool := decide (itB r.a = r.s) && decide ((rd ⟨r.s, 0, 0⟩ r.a).1 = ⟨r.a.n, r.a.i, r.a.s, r.a.b⟩) && decide ((rd ⟨r.s, 0, 0⟩ r.a).2.s = []) && decide ((rd ⟨r.s, 0, 0⟩ r.a).2.e = 0) && decide (r.a.s.length ≤ 30) && decide (r.s.length ≤ 30)
theorem rows_ok : rows13.all chk = true := by kernel_rfl
structure Bd where
  s : List UInt8
  e : Nat
def EncBd : Enc Bd where
  enc r := [.string (mk r.s), .int .i64 (r.e : Int)]
  k := 2
  len _ := rfl
  one r v hv := by
    simp only [List.mem_cons, List.not_mem_nil, or_false] at hv
    rcases hv with rfl | rfl <;> rfl
  pos := by decide
def bad7 : List Bd := [⟨[], 7⟩, ⟨[129], 7⟩, ⟨[129, 0], 8⟩, ⟨[255, 255, 255, 255, 255, 255, 255, 255, 255], 7⟩, ⟨[255, 255, 255, 255, 255, 255, 255, 255, 255, 2], 8⟩, ⟨[255, 255, 255, 255, 255, 255, 255, 255, 255, 129], 8⟩, ⟨[128, 128, 128, 128, 128, 128, 128, 128, 128, 128, 1], 8⟩]
def chkB (r : Bd) : Bool := decide ((nextS r.s).v = 0) && decide ((nextS r.s).e = r.e) && decide (r.e ≠ 0) && decide (r.s.length ≤ 30)
theorem bad_ok : bad7.all chkB = true := by kernel_rfl
theorem newH_eq {o o' : Obj} {K : Nat → PH → Prop} (e : o = o') (hh : newH h o' K) : newH h o K := e ▸ hh

theorem PackKnown_den (hk : ∀ h', h.Sub h' → K (.bool true) h') : CallH Try.prog id_law01_PackKnown [] K h := by
  refine F_law01_PackKnown_ok (newH_eq (o' := .cells (EncRw.row rows13 ++ []).toArray 59 (0, 0)) (by kernel_rfl) (nwL fun bv h1 hb0 hb1 c1 => ?_))
  have hbuf : Buf EncRw 59 [bv] h1 (some ⟨bv, 0, none⟩) 13 13 rows13 := ⟨rfl, .inr ⟨bv, [], rfl, rfl, hb1, rfl, by decide⟩⟩
  clear hb1
  refine LoopP.ind (fun (z : Int × Unit) h' => (0 ≤ z.1 ∧ z.1 ≤ 13) ∧ Buf EncRw 59 [bv] h' (some ⟨bv, 0, none⟩) 13 13 rows13 ∧ h.Sub h') (fun z _ => (13 - z.1).toNat) ?_ ⟨⟨by decide, by decide⟩, hbuf, c1.sub0⟩
  rintro ⟨i, u⟩ h2 ⟨⟨i0, i1⟩, b2, s2⟩
  dsimp only at i0 i1 ⊢
  refine ⟨fun e => ?_, fun _ => ?_⟩
  · have e : i < 13 := by simpa using e
    have hit : i.toNat < rows13.length := by show i.toNat < 13; omega
    have hch := List.all_eq_true.1 rows_ok _ (List.getElem_mem hit)
    have e13 : i < ((13 : Nat) : Int) := e
    have rr : ∀ {h' : PH}, Buf EncRw 59 [bv] h' (some ⟨bv, 0, none⟩) 13 13 rows13 → ∀ o' f m, o' = 0 + i.toNat * 7 + f → f + m ≤ 7 → h'.rds bv o' m = some (((EncRw.enc rows13[i.toNat]).drop f).take m) := fun b => b.sr.getAt hit
    generalize rows13[i.toNat] = r at rr hch
    simp only [chk, Bool.and_eq_true, decide_eq_true_eq] at hch
    obtain ⟨⟨⟨⟨⟨k1, k2⟩, k3⟩, k4⟩, k5⟩, k6⟩ := hch
    refine nwL (cs := [.slice none 0 0]) fun bo h3 hbo hbo3 c3 => ?_
    have b3 := b2.sub c3.sub0
    refine ⟨bv, 0, ⟨rfl, i0, e13⟩, _, _, _, _, _, _, rr b3 _ 0 6 rfl (by decide), ?_⟩
    refine nwL (cs := EncIt.enc r.a) fun bi h4 hbi hbi4 c4 => ?_
    have o4 := (OutAt.new hbo3).sub c4.sub0
    have b4 := b3.sub c4.sub0
    refine cWrites (l := [r.a]) o4 (oneIt hbi4) (by simp [sumS]; omega) (fun Bo h5 o5 c5 => ?_) ?_
    rotate_left
    · intro q hq o e
      rw [List.mem_singleton] at hq; subst hq; cases e
      rw [hbo3] at hbi; cases hbi
    have hnv : bv ∉ [bo] := fun hm => by
      rw [List.mem_singleton] at hm; subst hm
      obtain ⟨o', ho'⟩ := b2.has bv (by simp)
      rw [ho'] at hbo; cases hbo
    have b5 := b4.chg c5 (by intro q hq; rw [List.mem_singleton] at hq; subst hq; exact hnv)
    have d5 : Dj [bv] Bo := c5.dj (by intro q hq; rw [List.mem_singleton] at hq; subst hq; exact hnv) b4.has
    have c05 : Chg [] Bo h h5 := ((c3.from s2).trans ((c4.sub (C := [bo]) (C' := [bo]) (by simp) (by simp)).trans c5))
    have hone : [] ++ itsB [r.a] = r.s := by simp [itsB, k1]
    rw [hone] at o5
    refine ⟨bv, 0, ⟨rfl, i0, e13⟩, _, rr b5 _ 6 1 rfl (by decide), cIn_Of (s := r.s) (by omega) fun x Bx h6 x6 c6 => ⟨_, rfl, ?_⟩⟩
    have b6 := b5.sub c6.sub0
    have dvx : Dj [bv] Bx := c6.dj (Dj.nil _) b5.has
    have dox : Dj Bo Bx := c6.dj (Dj.nil _) o5.has
    refine ⟨bv, 0, ⟨rfl, i0, e13⟩, _, _, _, _, _, _, rr b6 _ 0 6 rfl (by decide), cRead r.a x6 fun h7 x7 c7 => ⟨_, _, _, _, _, _, rfl, ?_⟩⟩
    have b7 := b6.chg c7 dvx
    have o7 := (o5.sub c6.sub0).chg c7 dox
    refine ⟨bv, 0, ⟨rfl, i0, e13⟩, _, rr b7 _ 0 1 rfl (by decide), bv, 0, ⟨rfl, i0, e13⟩, _, rr b7 _ 5 1 rfl (by decide), bv, 0, ⟨rfl, i0, e13⟩, _, rr b7 _ 6 1 rfl (by decide), ?_⟩
    refine cOut_String o7 ⟨_, rfl, rr b7 _ 6 1 rfl (by decide), bv, 0, fun _ => ⟨rfl, i0, e13⟩, _, _, _, _, _, _, fun _ => rr b7 _ 0 6 rfl (by decide), fun _ => ?_, fun e => ?_⟩
    · refine eEnd (r := 0) (by unfold iEnd; rw [if_neg (by rw [k3]; simp)]; exact k4) x7 ⟨_, rfl, fun e => absurd e (by decide), fun _ => ?_⟩
      rw [wrap64 (n := i + 1) (by omega) (by omega)]
      refine ⟨⟨⟨by omega, by omega⟩, b7, fun b o e => ?_⟩, by omega⟩
      have e5 := c05.sub0 b o e
      exact c7.keep (c6.sub0 b o e5) (c6.fresh e5 (by simp))
    · exfalso
      rw [strEq_self, k2] at e
      simp [strEq_self] at e
  refine newH_eq (o' := .cells (EncBd.row bad7 ++ []).toArray 61 (0, 0)) (by kernel_rfl) (nwL fun bb h3 hbb0 hbb c3 => ?_)
  have hbad : Buf EncBd 61 [bb] h3 (some ⟨bb, 0, none⟩) 7 7 bad7 := ⟨rfl, .inr ⟨bb, [], rfl, rfl, hbb, rfl, by decide⟩⟩
  clear hbb
  have s3 : h.Sub h3 := fun b o e => c3.sub0 b o (s2 b o e)
  refine LoopP.ind (fun (z : Int × Unit) h' => (0 ≤ z.1 ∧ z.1 ≤ 7) ∧ Buf EncBd 61 [bb] h' (some ⟨bb, 0, none⟩) 7 7 bad7 ∧ h.Sub h') (fun z _ => (7 - z.1).toNat) ?_ ⟨⟨by decide, by decide⟩, hbad, s3⟩
  clear s3 hbad c3 hbb0 b2 s2 i0 i1 hbuf
  rintro ⟨j, u⟩ h4 ⟨⟨j0, j1⟩, b4, s4⟩
  dsimp only at j0 j1 ⊢
  refine ⟨fun e => ?_, fun _ => ?_⟩
  · have e : j < 7 := by simpa using e
    have hit : j.toNat < bad7.length := by show j.toNat < 7; omega
    have hch := List.all_eq_true.1 bad_ok _ (List.getElem_mem hit)
    have e7 : j < ((7 : Nat) : Int) := e
    have rr : ∀ {h' : PH}, Buf EncBd 61 [bb] h' (some ⟨bb, 0, none⟩) 7 7 bad7 → ∀ o' f m, o' = 0 + j.toNat * 2 + f → f + m ≤ 2 → h'.rds bb o' m = some (((EncBd.enc bad7[j.toNat]).drop f).take m) := fun b => b.sr.getAt hit
    generalize bad7[j.toNat] = r at rr hch
    simp only [chkB, Bool.and_eq_true, decide_eq_true_eq] at hch
    obtain ⟨⟨⟨k1, k2⟩, k3⟩, k4⟩ := hch
    have hne : (nextS r.s).e ≠ 0 := by rw [k2]; exact k3
    refine ⟨bb, 0, ⟨rfl, j0, e7⟩, _, rr b4 _ 0 1 rfl (by decide), cIn_Of (s := r.s) (by omega) fun x Bx h5 x5 c5 => ⟨_, rfl, ?_⟩⟩
    have dvx : Dj [bb] Bx := c5.dj (Dj.nil _) b4.has
    refine eNum (r := 0) (st' := ⟨r.s, 0, r.e⟩) (by simp [iNum, IS.take, k1, k2, k3]) x5 fun h6 x6 c6 => ⟨_, rfl, ?_⟩
    have b6 := (b4.sub c5.sub0).chg c6 dvx
    refine eFault (r := (r.e, 0)) (by simp [iFault, k3]) x6 ⟨_, _, rfl, bb, 0, fun _ => ⟨rfl, j0, e7⟩, _, fun _ => rr b6 _ 1 1 rfl (by decide), bb, 0, fun _ => ⟨rfl, j0, e7⟩, _, fun _ => rr b6 _ 0 1 rfl (by decide), fun _ => ?_, fun e => ?_⟩
    · refine cIn_Left x6 ⟨_, rfl, fun _ => rr b6 _ 0 1 rfl (by decide), fun _ => ?_, fun e => ?_⟩
      · refine eByte (r := 0) (st' := ⟨r.s, 0, r.e⟩) (by simp [iByte, k3]) x6 fun h7 x7 c7 => ⟨_, rfl, fun e => absurd e (by decide), fun _ => ?_⟩
        rw [wrap64 (n := j + 1) (by omega) (by omega)]
        refine ⟨⟨⟨by omega, by omega⟩, b6.chg c7 dvx, fun b o e => ?_⟩, by omega⟩
        have e4 := s4 b o e
        have hn := c5.fresh e4 (by simp)
        exact c7.keep (c6.keep (c5.sub0 b o e4) hn) hn
      · rw [size_mk] at e; simp at e
    · simp at e
  · refine cIn_Of (s := [7, 2, 97]) (by decide) fun y By h5 y5 c5 => ⟨_, rfl, ?_⟩
    refine eNum (r := 7) (st' := ⟨[2, 97], 1, 0⟩) (by kernel_rfl) y5 fun h6 y6 c6 => ⟨_, rfl, ?_⟩
    refine eText (r := []) (st' := ⟨[2, 97], 1, 7⟩) (by decide) (by kernel_rfl) y6 fun h7 y7 c7 => ⟨_, rfl, ?_⟩
    refine eFault (r := (7, 1)) (by kernel_rfl) y7 ⟨_, _, rfl, cIn_Of (s := [7]) (by decide) fun z Bz h8 z8 c8 => ⟨_, rfl, ?_⟩⟩
    have y8 := y7.sub c8.sub0
    have dyz : Dj By Bz := c8.dj (Dj.nil _) y7.has
    refine eMost (r := 0) (st' := ⟨[7], 0, 8⟩) (by decide) (by kernel_rfl) z8 fun h9 z9 c9 => ⟨_, rfl, cIn_Fault' ⟨_, _, rfl, ?_⟩⟩
    have y9 := y8.chg c9 dyz
    have s9 : h.Sub h9 := fun b o e => by
      have e4 := s4 b o e
      have hn := c5.fresh e4 (by simp)
      have e7 := c7.keep (c6.keep (c5.sub0 b o e4) hn) hn
      exact c9.keep (c8.sub0 b o e7) (c8.fresh e7 (by simp))
    refine ⟨fun q h' => q.1 = true ∧ h' = h9, ?_, ?_⟩
    · refine cIn_Num' ⟨_, rfl, fun _ => cIn_Int' ⟨_, rfl, fun _ => cIn_Most' ⟨_, rfl, fun _ => cIn_Text' ⟨_, rfl, fun _ => cIn_Byte' ⟨_, rfl, fun _ => cIn_Left' ⟨_, rfl, fun _ => cIn_End' ⟨_, rfl, rfl, rfl⟩, fun e => absurd e (by decide)⟩, fun e => absurd e (by decide)⟩, fun e => absurd e (by decide)⟩, fun e => absurd e (by decide)⟩, fun e => absurd e (by decide)⟩, fun e => absurd e (by decide)⟩
    · rintro ⟨_, u⟩ h10 ⟨rfl, rfl⟩
      refine ⟨fun _ => cIn_Left y9 ⟨_, rfl, fun _ => eEnd (r := 8) (by kernel_rfl) z9 ⟨_, rfl, fun _ => cIn_Of (s := [120]) (by decide) fun w Bw h11 w11 c11 => ⟨_, rfl, eEnd (r := 8) (by kernel_rfl) w11 ⟨_, rfl, fun _ => ?_, fun e => by simp at e⟩⟩, fun e => absurd e (by decide)⟩, fun e => absurd e (by decide)⟩, fun e => absurd e (by decide)⟩
      exact wk (fun b o e => c11.sub0 b o (s9 b o e)) hk
end TL
