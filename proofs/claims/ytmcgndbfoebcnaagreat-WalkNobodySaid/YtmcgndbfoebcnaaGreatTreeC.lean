/-
  Statement Roots of layer tree. No condition.
-/
import Derived.Test.YtmcgndbfoebcnaaGreatTreeB
namespace TL
open Go Go.Proofs
variable {b : Nat} {h : PH} {K : Value → PH → Prop} {S : List PrR} {p v : List UInt8}

def keyH (x : List UInt8) : Value := .agg (((bi x).map (Value.int .u8) ++ [])).toArray
theorem keyH_ok {x : List UInt8} (hx : x.length = 32) : kOk (.arr .u8 32) (keyH x) = true := by
  simp [keyH, kOk, bi, hx, isIntK, kEq]
theorem keyH_eq (x y : List UInt8) : keq (keyH x) (keyH y) = decide (x = y) := by
  show ((((bi x).map (Value.int .u8) ++ [])).toArray.toList.map intV == (((bi y).map (Value.int .u8) ++ [])).toArray.toList.map intV) = _
  rw [List.append_nil, List.append_nil, List.toList_toArray, List.toList_toArray, intV_map, intV_map, bi_beq]
/-- a map of hashes to numbers -/
def HMap (h : PH) (r : Nat) (F : List UInt8 → Option Int) : Prop := ∃ es c, h r = some (.map (es : List MapEntry).toArray c) ∧ (∀ e ∈ es, kOk (.arr .u8 32) e.key = true) ∧ ∀ x, x.length = 32 → va es (keyH x) = (F x).map (Value.int .i64)
theorem HMap.new {r : Nat} (e : h r = some (.map #[] 0)) : HMap h r fun _ => none := ⟨[], 0, e, fun _ h => (by cases h), fun _ _ => rfl⟩
theorem HMap.sub {g : PH} {r : Nat} {F : List UInt8 → Option Int} (x : HMap h r F) (s : h.Sub g) : HMap g r F := by
  obtain ⟨es, c, h1, h2, h3⟩ := x
  exact ⟨es, c, s _ _ h1, h2, h3⟩
theorem HMap.look {r : Nat} {F : List UInt8 → Option Int} (x : HMap h r F) {y : List UInt8} (hy : y.length = 32) : lkH (.arr .u8 32) h (some r) (keyH y) (.int .i64 0) (.int .i64 ((F y).getD 0)) (F y).isSome := by
  obtain ⟨es, c, h1, h2, h3⟩ := x
  refine ⟨es, ⟨⟨c, h1⟩, h2⟩, ?_⟩
  rw [lk_va, h3 y hy]
  cases F y <;> rfl
theorem HMap.put {r : Nat} {F : List UInt8 → Option Int} (x : HMap h r F) {y : List UInt8} (hy : y.length = 32) (n : Int) {K : PH → Prop} (hk : ∀ h', HMap h' r (fun z => if z = y then some n else F z) → Chg [r] [r] h h' → K h') : muH (.arr .u8 32) h (some r) (keyH y) (.int .i64 n) K := by
  obtain ⟨es, c, h1, h2, h3⟩ := x
  refine ⟨r, es, c, rfl, h1, h2, hk _ ⟨_, _, PH.upd_same _ _ _, upM_keys (keyH_ok hy) h2, fun z hz => ?_⟩ (Chg.upd _)⟩
  rw [va_upM h2 (keyH_ok hy) (keyH_ok hz), h3 z hz, keyH_eq]
  by_cases e : z = y
  · simp [e]
  · simp [e]
/-- no two of the first i texts that are unlike have one hash -/
def NoColl (l : List (List UInt8)) (i : Nat) : Prop := ∀ j k, j < i → k < i → (hj : j < l.length) → (hk : k < l.length) → shaN l[j] = shaN l[k] → l[j] = l[k]
theorem cCollides {lA : Option Addr} {lC : Nat} {l : List (List UInt8)} (hl : SR EncS h lA l) (hn : l.length ≤ 1000000) (hs : ∀ x ∈ l, x.length ≤ 1000000) (hk : ∀ c h', (c = false → NoColl l l.length) → h.Sub h' → K (.bool c) h') :
    CallH Tryz.prog id_ref15_Collides [.slice lA l.length lC] K h := by
  refine F_ref15_Collides_ok fun bm hbm => ?_
  have hb1 : (h.upd bm (.map #[] 0)) bm = _ := PH.upd_same ..
  have c1 := Chg.new (.map #[] 0) hbm
  generalize h.upd bm (.map #[] 0) = h1 at hb1 c1
  have hA : ∀ {h' : PH}, Chg [bm] [bm] h1 h' → SR EncS h' lA l := fun c => hl.sub ((c1.trans c).sub0)
  refine LoopP.ind (fun (z : Int × Unit) h' => ∃ (i : Nat) (F : List UInt8 → Option Int), z.1 = i ∧ i ≤ l.length ∧ HMap h' bm F ∧ Chg [bm] [bm] h1 h' ∧ NoColl l i ∧ (∀ x n, F x = some n → ∃ j : Nat, n = (j : Int) + 1 ∧ j < i ∧ ∃ hj : j < l.length, shaN l[j] = x) ∧ (∀ j, j < i → (hj : j < l.length) → ∃ n, F (shaN l[j]) = some n)) (fun z _ => (l.length - z.1).toNat) ?_ ⟨0, _, rfl, by omega, HMap.new hb1, Chg.refl _ _, fun _ _ h => (by omega), fun _ _ h => (by cases h), fun _ h => (by omega)⟩
  rintro ⟨zi, u⟩ h2 ⟨i, F, hzi, hi, hm, c2, hno, hF1, hF2⟩
  dsimp only at hzi
  subst hzi
  dsimp only
  refine ⟨fun e => ?_, fun e => ?_⟩
  · have e : i < l.length := by simpa using e
    have hit : ((i : Nat) : Int).toNat = i := by omega
    obtain ⟨b0, o0, hA0, hr0⟩ := (hA c2).get e
    have hr0 := hr0 (o0 + i * 1) 0 1 rfl (by decide)
    have hx := hs _ (List.getElem_mem e)
    have hw : IntKind.wrap .i64 (((i : Nat) : Int) + (1 : Int)) = ((i + 1 : Nat) : Int) := by rw [wrap64] <;> omega
    rw [hit, hw]
    refine ⟨b0, o0, ⟨hA0, by omega, by omega⟩, _, hr0, cRSum hx fun h3 s3 => ⟨bi (shaN l[i]), by rw [bi_len, shaN_len], rfl, (F (shaN l[i])).getD 0, (F (shaN l[i])).isSome, (hm.sub s3).look (shaN_len _), ?_⟩⟩
    have hr3 := rds_sub s3 hr0
    have hstep : ∀ h4, Chg [bm] [bm] h3 h4 → HMap h4 bm (fun z => if z = shaN l[i] then some ((i + 1 : Nat) : Int) else F z) → (∀ j, j < i → (hj : j < l.length) → shaN l[j] = shaN l[i] → l[j] = l[i]) →
        (∃ (i1 : Nat) (F : List UInt8 → Option Int), ((i + 1 : Nat) : Int) = i1 ∧ i1 ≤ l.length ∧ HMap h4 bm F ∧ Chg [bm] [bm] h1 h4 ∧ NoColl l i1 ∧ (∀ x n, F x = some n → ∃ j : Nat, n = (j : Int) + 1 ∧ j < i1 ∧ ∃ hj : j < l.length, shaN l[j] = x) ∧ (∀ j, j < i1 → (hj : j < l.length) → ∃ n, F (shaN l[j]) = some n)) := fun h4 c4 hm4 hnew => by
      refine ⟨i + 1, _, rfl, by omega, hm4, c2.trans (chg_pre s3 c4), fun j k hj hk hjl hkl he => ?_, fun x n hx => ?_, fun j hj hjl => ?_⟩
      · by_cases h1 : j = i
        · subst h1
          by_cases h2 : k = j
          · subst h2; rfl
          · exact (hnew k (by omega) hkl he.symm).symm
        · by_cases h2 : k = i
          · subst h2
            exact hnew j (by omega) hjl he
          · exact hno j k (by omega) (by omega) hjl hkl he
      · by_cases hxi : x = shaN l[i]
        · subst hxi
          simp at hx
          exact ⟨i, by omega, by omega, e, rfl⟩
        · simp only [if_neg hxi] at hx
          obtain ⟨j, h1, h2, h3⟩ := hF1 x n hx
          exact ⟨j, h1, by omega, h3⟩
      · by_cases hji : shaN l[j] = shaN l[i]
        · exact ⟨((i + 1 : Nat) : Int), by simp only [if_pos hji]⟩
        · have : j ≠ i := fun h => by subst h; exact hji rfl
          obtain ⟨n, hn⟩ := hF2 j (by omega) hjl
          exact ⟨n, by simp only [if_neg hji]; exact hn⟩
    cases hf : F (shaN l[i]) with
    | none =>
      refine ⟨0, 0, fun e => by simp at e, mk [], fun e => by simp at e, 0, 0, fun e => by simp at e, mk [], fun e => by simp at e, fun e => by simp at e, fun _ => ?_⟩
      refine (hm.sub s3).put (shaN_len _) _ fun h4 hm4 c4 => ⟨hstep h4 c4 hm4 fun j hj hjl he => ?_, by omega⟩
      obtain ⟨n, hn⟩ := hF2 j hj hjl
      rw [he, hf] at hn; cases hn
    | some n =>
      obtain ⟨j, rfl, hji, hjl, hje⟩ := hF1 _ _ hf
      obtain ⟨b2, o2, hA2, hr2⟩ := ((hA c2).sub s3).get hjl
      have hr2 := hr2 (o2 + j * 1) 0 1 rfl (by decide)
      have hjw : IntKind.wrap .i64 (((j : Nat) : Int) + 1 - 1) = (j : Int) := by rw [wrap64] <;> omega
      simp only [Option.getD_some]
      rw [hjw, show ((j : Nat) : Int).toNat = j by omega]
      refine ⟨b2, o2, fun _ => ⟨hA2, by omega, by omega⟩, mk l[j], fun _ => hr2, b0, o0, fun _ => ⟨hA0, by omega, by omega⟩, mk l[i], fun _ => hr3, fun e2 => ?_, fun e2 => ?_⟩
      · exact hk true _ (fun e => by cases e) (((c1.trans c2).sub0).tr s3)
      · rw [strEq_mk'] at e2
        have hij : l[j] = l[i] := by
          have : (decide ((j : Int) + 1 > 0)) = true := decide_eq_true (by omega)
          rw [this] at e2
          simpa using e2
        refine (hm.sub s3).put (shaN_len _) _ fun h4 hm4 c4 => ⟨hstep h4 c4 hm4 fun j2 hj2 hjl2 he => ?_, by omega⟩
        rw [hno j2 j hj2 hji hjl2 hjl (he.trans hje.symm), hij]
  · have e : i = l.length := by simp at e; omega
    subst e
    exact hk false _ (fun _ => hno) ((c1.trans c2).sub0)
end TL

namespace TL
open Go Go.Proofs
variable {b : Nat} {h : PH} {K : Value → PH → Prop} {S S' : List PrR} {p v : List UInt8}

theorem num_inj {n m : Nat} {r r' : List UInt8} (hn : n < 18446744073709551616) (hm : m < 18446744073709551616) (h : numL n ++ r = numL m ++ r') : n = m ∧ r = r' := by
  have h1 := next_num hn r
  have h2 := next_num hm r'
  rw [h, h2] at h1
  have : m = n := by injection h1
  subst this
  exact ⟨rfl, List.append_cancel_left h⟩
theorem text_inj {s s' r r' : List UInt8} (hs : s.length ≤ 1000) (hs' : s'.length ≤ 1000) (h : textL s ++ r = textL s' ++ r') : s = s' ∧ r = r' := by
  unfold textL at h
  rw [List.append_assoc, List.append_assoc] at h
  obtain ⟨e, h⟩ := num_inj (by omega) (by omega) h
  exact List.append_inj h e
theorem prs_inj : ∀ {l m : List PrR}, l.length = m.length → (∀ x ∈ l, okPr x = true) → (∀ x ∈ m, okPr x = true) → l.flatMap prL = m.flatMap prL → l = m
  | [], [], _, _, _, _ => rfl
  | x :: l, y :: m, hlen, hl, hm, h => by
    obtain ⟨x1, x2⟩ := ok_len (hl x List.mem_cons_self)
    obtain ⟨y1, y2⟩ := ok_len (hm y List.mem_cons_self)
    rw [List.flatMap_cons, List.flatMap_cons, prL, prL, List.append_assoc, List.append_assoc] at h
    obtain ⟨e1, h⟩ := text_inj (by omega) (by omega) h
    obtain ⟨e2, h⟩ := text_inj (by omega) (by omega) h
    have := prs_inj (by simpa using hlen) (fun z hz => hl z (List.mem_cons_of_mem _ hz)) (fun z hz => hm z (List.mem_cons_of_mem _ hz)) h
    cases x; cases y
    simp_all
theorem page_inj {l m : List PrR} {i : Nat} (hl : PgOk i l) (hm : PgOk i m) (h : pageL l = pageL m) : l = m := by
  obtain ⟨e, h⟩ := num_inj (by have := hl.2.2; omega) (by have := hm.2.2; omega) h
  exact prs_inj e (may_ok hl.1).1 (may_ok hm.1).1 h
theorem codes_in : ∀ k, k < 16 → 1 ≤ k → 16 + k ∈ codesT := by decide +kernel
theorem codes_leaf : ∀ i, i < 16 → i ∈ codesT := by decide +kernel
theorem mem_in {k : Nat} (h1 : 1 ≤ k) (h2 : k < 16) : inT S k ∈ textsT S := by
  have e : textsT S = codesT.map fun c => if c < 16 then leafT S c else inT S (c - 16) := texts_codes (leafT S) (inT S)
  rw [e]
  refine List.mem_map.2 ⟨16 + k, codes_in k h2 h1, ?_⟩
  rw [if_neg (by omega), show 16 + k - 16 = k by omega]
theorem mem_leaf {i : Nat} (h : i < 16) : leafT S i ∈ textsT S := by
  have e : textsT S = codesT.map fun c => if c < 16 then leafT S c else inT S (c - 16) := texts_codes (leafT S) (inT S)
  rw [e]
  exact List.mem_map.2 ⟨i, codes_leaf i h, by rw [if_pos h]⟩
theorem nocoll_mem {L : List (List UInt8)} (h : NoColl L L.length) {x y : List UInt8} (hx : x ∈ L) (hy : y ∈ L) (he : shaN x = shaN y) : x = y := by
  obtain ⟨i, hi, rfl⟩ := List.getElem_of_mem hx
  obtain ⟨j, hj, rfl⟩ := List.getElem_of_mem hy
  exact h i j hi hj hi hj he
/-- the same root: the same pairs, if no two unlike texts have one hash -/
theorem root_inj (hm : mayB S = true) (hl : S.length ≤ 48) (hm' : mayB S' = true) (hl' : S'.length ≤ 48) (hno : NoColl (textsT S ++ textsT S') (textsT S ++ textsT S').length) (hr : nd S 1 = nd S' 1) : S = S' := by
  have hall : ∀ m k, k = m → 1 ≤ k → k < 32 → nd S k = nd S' k := by
    intro m
    induction m using Nat.strongRecOn with
    | ind m ih =>
      intro k hkm h1 h2
      by_cases e1 : k = 1
      · subst e1; exact hr
      · have hp := ih (k / 2) (by omega) (k / 2) rfl (by omega) (by omega)
        have n1 : nd S (k / 2) = shaN (inT S (k / 2)) := by unfold nd; rw [node_in _ (by omega) (by omega)]; rfl
        have n2 : nd S' (k / 2) = shaN (inT S' (k / 2)) := by unfold nd; rw [node_in _ (by omega) (by omega)]; rfl
        rw [n1, n2] at hp
        have ht := nocoll_mem hno (List.mem_append_left _ (mem_in (by omega) (by omega))) (List.mem_append_right _ (mem_in (by omega) (by omega))) hp
        unfold inT innT at ht
        simp only [List.cons.injEq, true_and] at ht
        obtain ⟨t1, t2⟩ := List.append_inj ht (by rw [nd_len, nd_len])
        rcases Nat.mod_two_eq_zero_or_one k with h | h
        · rw [show 2 * (k / 2) = k by omega] at t1; exact t1
        · rw [show 2 * (k / 2) + 1 = k by omega] at t2; exact t2
  have hpart : ∀ i, i < 16 → partB S i = partB S' i := fun i hi => by
    have := hall (16 + i) (16 + i) rfl (by omega) (by omega)
    unfold nd at this
    rw [node_leaf _ (by omega) (by omega), node_leaf _ (by omega) (by omega), show 16 + i - 16 = i by omega] at this
    have ht := nocoll_mem hno (List.mem_append_left _ (mem_leaf hi)) (List.mem_append_right _ (mem_leaf hi)) this
    unfold leafT at ht
    simp only [List.cons.injEq, true_and] at ht
    exact page_inj (part_ok hm hl i) (part_ok hm' hl' i) ht
  refine Up.ext (may_ok hm).2 (may_ok hm').2 fun q => ?_
  have h1 := look_partB S (bkt q) q
  have h2 := look_partB S' (bkt q) q
  rw [if_pos rfl] at h1 h2
  rw [← h1, ← h2, hpart _ (bkt_lt q)]
variable {lA mA : Option Addr} {lC mC : Nat} {l m : List OpR}
end TL
