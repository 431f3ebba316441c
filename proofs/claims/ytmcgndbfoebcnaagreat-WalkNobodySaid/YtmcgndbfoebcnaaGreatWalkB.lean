/-
  Walks in memory: what is asked for, what is staged; asking, fitting. No condition.
-/
import Derived.Test.YtmcgndbfoebcnaaGreatWalkA
import Derived.Test.YtmcgndbfoebcnaaGreatWText
import Derived.Test.YtmcgndbfoebcnaaGreatTreeA
namespace TL
open Go Go.Proofs
/-- where a node is -/
def askP (k : Nat) : Int × Int := ((k.log2 : Nat), ((k - 2 ^ k.log2 : Nat) : Int))
theorem askP_inj0 : ∀ a : Nat, a < 32 → ∀ b : Nat, b < 32 → (1 ≤ a ∧ 1 ≤ b ∧ (askP a).1 = (askP b).1 ∧ (askP a).2 = (askP b).2) → a = b := by decide +kernel
theorem askP_inj (a : Nat) (ha : a < 32) (b : Nat) (hb : b < 32) (h1 : 1 ≤ a) (h2 : 1 ≤ b) (e : askP a = askP b) : a = b := askP_inj0 a ha b hb ⟨h1, h2, by rw [e], by rw [e]⟩
theorem askP_lt0 : ∀ a : Nat, a < 32 → ∀ b : Nat, b < 32 → (1 ≤ a ∧ 1 ≤ b) → (ltA (askP a) (askP b) ↔ a < b) := by decide +kernel
theorem askP_lt (a : Nat) (ha : a < 32) (b : Nat) (hb : b < 32) (h1 : 1 ≤ a) (h2 : 1 ≤ b) : ltA (askP a) (askP b) ↔ a < b := askP_lt0 a ha b hb ⟨h1, h2⟩
theorem askP_at0 : ∀ lv : Nat, lv < 5 → ∀ i : Nat, i < 16 → i < 2 ^ lv → (askP (2 ^ lv + i)).1 = (lv : Int) ∧ (askP (2 ^ lv + i)).2 = (i : Int) := by decide +kernel
theorem askP_at (lv : Nat) (h1 : lv < 5) (i : Nat) (h2 : i < 16) (h3 : i < 2 ^ lv) : askP (2 ^ lv + i) = ((lv : Int), (i : Int)) := Prod.ext (askP_at0 lv h1 i h2 h3).1 (askP_at0 lv h1 i h2 h3).2
theorem askP_in : ∀ k, k < 32 → 1 ≤ k → k.log2 ≤ 4 ∧ k - 2 ^ k.log2 < 2 ^ k.log2 ∧ 2 ^ k.log2 + (k - 2 ^ k.log2) = k := by decide +kernel
theorem keyV_inj {x y : Int × Int} (h : keyV x = keyV y) : x = y := by
  unfold keyV at h
  obtain ⟨a, b⟩ := x
  obtain ⟨c, d⟩ := y
  simp only [Value.agg.injEq, Array.mk.injEq, List.cons.injEq, Value.int.injEq, true_and, and_true] at h
  rw [h.1, h.2]
theorem keyV_ok (x : Int × Int) : kOk (.rec2 .i64 .i64) (keyV x) = true := rfl
theorem keyV_keq (x y : Int × Int) : keq (keyV x) (keyV y) = decide (x = y) := by
  rw [Bool.eq_iff_iff, keq_eq (keyV_ok x) (keyV_ok y), decide_eq_true_eq]
  exact ⟨keyV_inj, fun e => by rw [e]⟩
def hashV (x : List UInt8) : Value := .agg (((bi x).map (Value.int .u8) ++ [])).toArray
theorem upM_born (es : List MapEntry) (k v : Value) (c : Nat) (h1 : ∀ e ∈ es, e.born < c) (h2 : (es.map (·.born)).Nodup) : (∀ e ∈ (upM es k v c).1, e.born < (upM es k v c).2) ∧ ((upM es k v c).1.map (·.born)).Nodup := by
  unfold upM
  split
  · rename_i i p hf
    have hm : (es.modify i fun e => { e with key := k, val := v }).map (·.born) = es.map (·.born) := by
      apply List.ext_getElem
      · simp
      · intro j h4 h5
        simp only [List.getElem_map, List.getElem_modify]
        split <;> rfl
    refine ⟨fun e he => ?_, by dsimp only; rw [hm]; exact h2⟩
    dsimp only at he ⊢
    have h3 : e.born ∈ (es.modify i fun e => { e with key := k, val := v }).map (·.born) := List.mem_map.2 ⟨e, he, rfl⟩
    rw [hm] at h3
    obtain ⟨e', he', e3⟩ := List.mem_map.1 h3
    rw [← e3]; exact h1 e' he'
  · refine ⟨fun e he => ?_, ?_⟩
    · dsimp only at he ⊢
      rcases List.mem_append.1 he with he | he
      · exact Nat.lt_succ_of_lt (h1 e he)
      · rw [List.mem_singleton] at he; subst he; exact Nat.lt_succ_self c
    · dsimp only
      rw [List.map_append, List.nodup_append]
      refine ⟨h2, by simp, fun a ha b hb => ?_⟩
      obtain ⟨e, he, rfl⟩ := List.mem_map.1 ha
      simp at hb; subst hb
      exact Nat.ne_of_lt (h1 e he)
/-- what is asked for, as a map's entries -/
structure AskMapE (es : List MapEntry) (c : Nat) (A : Nat → Option (List UInt8)) : Prop where
  key : ∀ e ∈ es, ∃ k, 1 ≤ k ∧ k < 32 ∧ e.key = keyV (askP k)
  at_ : ∀ k, 1 ≤ k → k < 32 → va es (keyV (askP k)) = (A k).map hashV
  nd : NdK es
  old : ∀ e ∈ es, e.born < c
  bn : (es.map (·.born)).Nodup
section
variable {es : List MapEntry} {c : Nat} {A : Nat → Option (List UInt8)}
theorem AskMapE.new : AskMapE [] 0 fun _ => none := ⟨fun _ h => (by cases h), fun _ _ _ => rfl, List.Pairwise.nil, fun _ h => (by cases h), List.nodup_nil⟩
theorem AskMapE.kOk (x : AskMapE es c A) : ∀ e ∈ es, kOk (.rec2 .i64 .i64) e.key = true := fun e he => by
  obtain ⟨k, _, _, h⟩ := x.key e he
  rw [h]; rfl
theorem AskMapE.out (x : AskMapE es c A) {p : Int × Int} (hp : ∀ k, 1 ≤ k → k < 32 → askP k ≠ p) : va es (keyV p) = none := va_none.2 fun e he => by
  obtain ⟨k, h1, h2, h⟩ := x.key e he
  rw [h, keyV_keq]
  exact decide_eq_false fun e => hp k h1 h2 e.symm
theorem AskMapE.put (x : AskMapE es c A) {k : Nat} (h1 : 1 ≤ k) (h2 : k < 32) (v : List UInt8) : AskMapE (upM es (keyV (askP k)) (hashV v) c).1 (upM es (keyV (askP k)) (hashV v) c).2 (upF A k (some v)) := by
  obtain ⟨b1, b2⟩ := upM_born es (keyV (askP k)) (hashV v) c x.old x.bn
  refine ⟨fun e he => ?_, fun k' h1' h2' => ?_, x.nd.upM (keyV_ok _) x.kOk, b1, b2⟩
  · unfold upM at he
    split at he
    · dsimp only at he
      obtain ⟨i, hi, rfl⟩ := List.getElem_of_mem he
      rw [List.getElem_modify]
      split
      · exact ⟨k, h1, h2, rfl⟩
      · exact x.key _ (List.getElem_mem _)
    · dsimp only at he
      rcases List.mem_append.1 he with he | he
      · exact x.key e he
      · rw [List.mem_singleton] at he; subst he; exact ⟨k, h1, h2, rfl⟩
  · rw [va_upM x.kOk (keyV_ok _) (keyV_ok _), keyV_keq]
    by_cases e : k' = k
    · subst e; simp [upF]
    · rw [if_neg (by simp only [decide_eq_true_eq]; exact fun e2 => e (askP_inj k' h2' k h2 h1' h1 e2)), x.at_ k' h1' h2', upF_ne _ _ e]
theorem AskMapE.del (x : AskMapE es c A) {k : Nat} (h1 : 1 ≤ k) (h2 : k < 32) : AskMapE (dlM es (keyV (askP k))) c (upF A k none) := by
  have hs := dlM_sub es (keyV (askP k))
  refine ⟨fun e he => x.key e (hs.subset he), fun k' h1' h2' => ?_, x.nd.dlM _, fun e he => x.old e (hs.subset he), x.bn.sublist (hs.map _)⟩
  rw [va_dlM x.kOk x.nd (keyV_ok _) (keyV_ok _), keyV_keq]
  by_cases e : k' = k
  · subst e; simp [upF]
  · rw [if_neg (by simp only [decide_eq_true_eq]; exact fun e2 => e (askP_inj k' h2' k h2 h1' h1 e2)), x.at_ k' h1' h2', upF_ne _ _ e]
end
/-- what is staged, as a map's entries -/
structure PartMapE (g : PH) (es : List MapEntry) (Q : Nat → Option (List PrR)) : Prop where
  key : ∀ e ∈ es, kOk (.int .i64) e.key = true
  no : ∀ i : Nat, i < 16 → Q i = none → va es (.int .i64 (i : Int)) = none
  yes : ∀ (i : Nat) l, i < 16 → Q i = some l → ∃ a c, va es (.int .i64 (i : Int)) = some (.slice a l.length c) ∧ SR EncPr g a l
theorem PartMapE.new {g : PH} : PartMapE g [] fun _ => none := ⟨fun _ h => (by cases h), fun _ _ _ => rfl, fun _ _ _ h => by cases h⟩
theorem PartMapE.sub {g g' : PH} {es : List MapEntry} {Q : Nat → Option (List PrR)} (x : PartMapE g es Q) (s : g.Sub g') : PartMapE g' es Q := ⟨x.key, x.no, fun i l hi h => by
  obtain ⟨a, c, h1, h2⟩ := x.yes i l hi h
  exact ⟨a, c, h1, h2.sub s⟩⟩
theorem PartMapE.put {g : PH} {es : List MapEntry} {Q : Nat → Option (List PrR)} {c : Nat} (x : PartMapE g es Q) {i : Nat} (_ : i < 16) {l : List PrR} {a : Option Addr} {sc : Nat} (hl : SR EncPr g a l) : PartMapE g (upM es (.int .i64 (i : Int)) (.slice a l.length sc) c).1 (upF Q i (some l)) := by
  have hkq : ∀ j : Nat, keq (.int .i64 (j : Int)) (.int .i64 (i : Int)) = decide (j = i) := fun j => by
    show (((j : Nat) : Int) == ((i : Nat) : Int)) = _
    rw [Bool.eq_iff_iff, beq_iff_eq, decide_eq_true_eq]; omega
  refine ⟨upM_keys rfl x.key, fun j hj hq => ?_, fun j m hj hq => ?_⟩
  · have e : j ≠ i := fun e => by subst e; rw [upF_same] at hq; cases hq
    rw [upF_ne _ _ e] at hq
    rw [va_upM x.key rfl rfl, hkq, if_neg (by simpa using e)]
    exact x.no j hj hq
  · rw [va_upM x.key rfl rfl, hkq]
    by_cases e : j = i
    · subst e
      rw [upF_same] at hq; cases hq
      exact ⟨a, sc, by simp, hl⟩
    · rw [upF_ne _ _ e] at hq
      obtain ⟨a', c', q1, q2⟩ := x.yes j m hj hq
      exact ⟨a', c', by rw [if_neg (by simpa using e)]; exact q1, q2⟩
/-- a walk's cells -/
def walkC (tb : Nat) (R : List UInt8) (ra rp : Nat) (tA : Option Addr) (tN tC : Nat) : List Value := .pointer (some ⟨tb, 0, none⟩) :: ((bi R).map (Value.int .u8) ++ [.map (some ra), .map (some rp), .slice tA tN tC])
structure WalkAt (g : PH) (N : List Nat) (h : PH) (wb : Nat) (s : WS) : Prop where
  mem : ∃ tb ra rp esA cA esP cP tA tN tC Bt, N = wb :: ra :: rp :: Bt ∧ wb ≠ ra ∧ wb ≠ rp ∧ ra ≠ rp ∧ wb ∉ Bt ∧ ra ∉ Bt ∧ rp ∉ Bt ∧ h wb = some (.cells (walkC tb s.R ra rp tA tN tC).toArray T_walk_Walk (0, 0)) ∧ Tr tb g s.S ∧
    h ra = some (.map (esA : List MapEntry).toArray cA) ∧ AskMapE esA cA s.A ∧ h rp = some (.map (esP : List MapEntry).toArray cP) ∧ PartMapE g esP s.Q ∧ Buf EncS 9 Bt h tA tN tC s.T
  R : s.R.length = 32
  al : ∀ k x, s.A k = some x → x.length = 32
section
variable {g h : PH} {N : List Nat} {K : Value → PH → Prop} {wb : Nat} {s : WS}
theorem WalkAt.keep {g' h' : PH} (x : WalkAt g N h wb s) (hs : g.Sub g') (hk : ∀ b ∈ N, ∀ o, h b = some o → h' b = some o) : WalkAt g' N h' wb s := by
  obtain ⟨⟨tb, ra, rp, esA, cA, esP, cP, tA, tN, tC, Bt, rfl, d1, d2, d3, d4, d5, d6, hw, ht, ha, hA, hp, hP, hB⟩, hR, hL⟩ := x
  exact ⟨⟨tb, ra, rp, esA, cA, esP, cP, tA, tN, tC, Bt, rfl, d1, d2, d3, d4, d5, d6, hk _ (by simp) _ hw, ht.sub hs, hk _ (by simp) _ ha, hA, hk _ (by simp) _ hp, hP.sub hs, hB.keep fun b hb => hk b (by simp [hb])⟩, hR, hL⟩
theorem WalkAt.stp {M M' : List Nat} {g' h' : PH} (x : WalkAt g N h wb s) (t : Stp g M h g' M' h') (d : Dj N M) : WalkAt g' N h' wb s :=
  x.keep t.gs fun b hb _ e => t.chg.keep e (d b hb)
section
variable {tb ra rp : Nat} {R : List UInt8} {tA : Option Addr} {tN tC : Nat} {T : TypeId} {fr : Nat × Nat}
theorem wk_base (hw : h wb = some (.cells (walkC tb R ra rp tA tN tC).toArray T fr)) : h.rds wb 0 1 = some [.pointer (some ⟨tb, 0, none⟩)] := rds_mid' (pre := []) hw rfl rfl rfl
theorem wk_root (hw : h wb = some (.cells (walkC tb R ra rp tA tN tC).toArray T fr)) (hR : R.length = 32) : h.rds wb (0 + 1) 32 = some ((bi R).map (Value.int .u8) ++ []) := by
  rw [List.append_nil]
  exact rds_mid' (pre := [.pointer (some ⟨tb, 0, none⟩)]) (post := [.map (some ra), .map (some rp), .slice tA tN tC]) hw rfl rfl (by rw [List.length_map, bi_len, hR])
theorem wk_ask (hw : h wb = some (.cells (walkC tb R ra rp tA tN tC).toArray T fr)) (hR : R.length = 32) : h.rds wb (0 + 33) 1 = some [.map (some ra)] :=
  rds_mid' (pre := .pointer (some ⟨tb, 0, none⟩) :: (bi R).map (Value.int .u8)) (post := [.map (some rp), .slice tA tN tC]) hw (by simp [walkC]) (by rw [List.length_cons, List.length_map, bi_len, hR]) rfl
theorem wk_part (hw : h wb = some (.cells (walkC tb R ra rp tA tN tC).toArray T fr)) (hR : R.length = 32) : h.rds wb (0 + 34) 1 = some [.map (some rp)] :=
  rds_mid' (pre := .pointer (some ⟨tb, 0, none⟩) :: ((bi R).map (Value.int .u8) ++ [.map (some ra)])) (post := [.slice tA tN tC]) hw (by simp [walkC]) (by simp [bi_len, hR]) rfl
theorem wk_text (hw : h wb = some (.cells (walkC tb R ra rp tA tN tC).toArray T fr)) (hR : R.length = 32) : h.rds wb (0 + 35) 1 = some [.slice tA tN tC] :=
  rds_mid' (pre := .pointer (some ⟨tb, 0, none⟩) :: ((bi R).map (Value.int .u8) ++ [.map (some ra), .map (some rp)])) (post := []) hw (by simp [walkC]) (by simp [bi_len, hR]) rfl
theorem wk_setText (hw : h wb = some (.cells (walkC tb R ra rp tA tN tC).toArray T (0, 0))) (hR : R.length = 32) {a' : Option Addr} {n' c' : Nat} {KK : PH → Prop} (hk : ∀ h', h' wb = some (.cells (walkC tb R ra rp a' n' c').toArray T (0, 0)) → Chg [wb] [wb] h h' → KK h') : stH h wb (0 + 35) [.slice a' n' c'] KK :=
  st_mid' (pre := .pointer (some ⟨tb, 0, none⟩) :: ((bi R).map (Value.int .u8) ++ [.map (some ra), .map (some rp)])) (mid := [.slice tA tN tC]) (post := []) hw (by simp [walkC]) (by simp [walkC]) (by simp [bi_len, hR]) rfl hk
end
theorem cWNone (x : WalkAt g N h wb s) (hk : K (.bool false) h) : CallH Tryz.prog id_walk_Walk_none [.pointer (some ⟨wb, 0, none⟩)] K h := by
  obtain ⟨⟨tb, ra, rp, esA, cA, esP, cP, tA, tN, tC, Bt, rfl, d1, d2, d3, d4, d5, d6, hw, ht, ha, hA, hp, hP, hB⟩, hR, _⟩ := x
  exact F_walk_Walk_none_ok ⟨wb, 0, fun _ => rfl, _, fun _ => wk_base hw, hk⟩
theorem cWNoneNil (hk : K (.bool true) h) : CallH Tryz.prog id_walk_Walk_none [.pointer none] K h :=
  F_walk_Walk_none_ok ⟨0, 0, fun e => (by cases e), none, fun e => (by cases e), hk⟩
theorem cWAsk (x : WalkAt g N h wb s) (sp : Spl g N h) {lv i : Nat} (hl : lv ≤ 4) (hi : i < 2 ^ lv) {v : List UInt8} (hv : v.length = 32)
    (hk : ∀ h', WalkAt g N h' wb { s with A := wAsk s.S s.A (2 ^ lv + i) v } → Stp g N h g N h' → K (.tuple #[]) h') :
    CallH Tryz.prog id_walk_Walk_ask [.pointer (some ⟨wb, 0, none⟩), .agg #[.int .i64 (lv : Int), .int .i64 (i : Int)], .agg (((bi v).map (Value.int .u8) ++ [])).toArray] K h := by
  have hi16 : i < 16 := Nat.lt_of_lt_of_le hi (Nat.pow_le_pow_right (by decide) hl)
  have hk1 : 1 ≤ 2 ^ lv + i := by have := Nat.one_le_two_pow (n := lv); omega
  have hk2 : 2 ^ lv + i < 32 := by
    have : 2 ^ lv ≤ 2 ^ 4 := Nat.pow_le_pow_right (by decide) hl
    omega
  have hap := askP_at lv (by omega) i hi16 hi
  obtain ⟨⟨tb, ra, rp, esA, cA, esP, cP, tA, tN, tC, Bt, rfl, d1, d2, d3, d4, d5, d6, hw, ht, ha, hA, hp, hP, hB⟩, hR, hL⟩ := id x
  have main : CallH Tryz.prog id_tree_Tree_Node [.pointer (some ⟨tb, 0, none⟩), .int .i64 (lv : Int), .int .i64 (i : Int)] (fun v_1 h1 =>
      ∃ t0 : List Int, t0.length = 32 ∧ ∃ t1 : Bool, v_1 = .tuple #[.agg ((t0.map (Value.int .u8) ++ [])).toArray, .bool t1] ∧
      (((!(t0 == bi v)) = true →
          ∃ bv_1 ov_1 : Nat, (some ⟨wb, 0, none⟩ : Option Addr) = some ⟨bv_1, ov_1, none⟩ ∧
          ∃ t_1 : Option Nat, (h1.rds bv_1 (ov_1 + 33) 1 = some [.map t_1]) ∧
          muH (.rec2 .i64 .i64) h1 t_1 (.agg #[.int .i64 (lv : Int), .int .i64 (i : Int)]) (.agg (((bi v).map (Value.int .u8) ++ [])).toArray) fun h2 =>
          K (.tuple #[]) h2) ∧
        ((!(t0 == bi v)) = false →
          K (.tuple #[]) h1))) h := by
    refine cNode (ht.sub sp.sub) hl hi ⟨bi (nd s.S (2 ^ lv + i)), by rw [bi_len, nd_len], true, rfl, fun e => ?_, fun e => ?_⟩
    · rw [bi_beq] at e
      have e : nd s.S (2 ^ lv + i) ≠ v := by simpa using e
      have hkey : (.agg #[.int .i64 (lv : Int), .int .i64 (i : Int)] : Value) = keyV (askP (2 ^ lv + i)) := by rw [hap]; rfl
      refine ⟨wb, 0, rfl, _, wk_ask hw hR, ra, esA, cA, rfl, ha, hA.kOk, ?_⟩
      have cc : Chg [ra] [ra] h (h.upd ra (.map (upM esA (keyV (askP (2 ^ lv + i))) (hashV v) cA).1.toArray (upM esA (keyV (askP (2 ^ lv + i))) (hashV v) cA).2)) := Chg.upd _
      rw [hkey]
      refine hk _ ⟨⟨tb, ra, rp, _, _, esP, cP, tA, tN, tC, Bt, rfl, d1, d2, d3, d4, d5, d6, cc.keep hw (by simpa using d1), ht, PH.upd_same _ _ _, ?_, cc.keep hp (by simpa using Ne.symm d3), hP, hB.chg cc fun b hb hm => ?_⟩, hR, fun k y hy => ?_⟩ ?_
      · have : wAsk s.S s.A (2 ^ lv + i) v = upF s.A (2 ^ lv + i) (some v) := by unfold wAsk; rw [if_neg e]
        show AskMapE _ _ (wAsk s.S s.A (2 ^ lv + i) v)
        rw [this]
        exact hA.put hk1 hk2 v
      · rw [List.mem_singleton] at hm; subst hm; exact d5 hb
      · have hy : wAsk s.S s.A (2 ^ lv + i) v k = some y := hy
        by_cases ek : k = 2 ^ lv + i
        · subst ek
          unfold wAsk at hy
          rw [if_neg e, upF_same] at hy; cases hy; exact hv
        · rw [wAsk_ne ek] at hy; exact hL k y hy
      · refine sp.chg (cc.sub (fun b hb => by simp at hb; subst hb; simp) fun b hb => .inr hb) fun b hb => ?_
        by_cases hbr : b = ra
        · subst hbr; exact ⟨_, PH.upd_same _ _ _⟩
        · obtain ⟨o, ho⟩ := sp.has b hb
          exact ⟨o, cc.keep ho (by simpa using hbr)⟩
    · rw [bi_beq] at e
      have e : nd s.S (2 ^ lv + i) = v := by simpa using e
      refine hk h ?_ (Stp.refl sp)
      have : wAsk s.S s.A (2 ^ lv + i) v = s.A := by unfold wAsk; rw [if_pos e]
      rw [this]; exact x
  exact F_walk_Walk_ask_ok (by rw [bi_len]; assumption) ⟨wb, 0, rfl, _, wk_base hw, main, main⟩
end
end TL

namespace TL
open Go Go.Proofs
variable {g h : PH} {N : List Nat} {K : Value → PH → Prop} {wb : Nat} {s : WS}
theorem hashV_z : (.agg (((List.replicate 32 (0 : Int)).map (Value.int .u8) ++ [])).toArray : Value) = hashV (List.replicate 32 0) := by
  have : bi (List.replicate 32 (0 : UInt8)) = List.replicate 32 (0 : Int) := by decide
  rw [hashV, this]
theorem cWFits (x : WalkAt g N h wb s) (sp : Spl g N h) {a0 a1 : Int} {v t : List UInt8} (hv : v.length = 32) (hT : s.T.length ≤ 100000)
    (hno : (∀ k, 1 ≤ k → k < 32 → askP k = (a0, a1) → s.A k ≠ some v) → K (.bool false) h)
    (hyes : ∀ k N' h', 1 ≤ k → k < 32 → askP k = (a0, a1) → s.A k = some v → WalkAt g N' h' wb { s with A := upF s.A k none, T := s.T ++ [t] } → Stp g N h g N' h' → K (.bool true) h') :
    CallH Tryz.prog id_walk_Walk_fits [.pointer (some ⟨wb, 0, none⟩), .agg #[.int .i64 a0, .int .i64 a1], .agg (((bi v).map (Value.int .u8) ++ [])).toArray, .string (mk t)] K h := by
  obtain ⟨⟨tb, ra, rp, esA, cA, esP, cP, tA, tN, tC, Bt, rfl, d1, d2, d3, d4, d5, d6, hw, ht, ha, hA, hp, hP, hB⟩, hR, hL⟩ := id x
  have hkey : (.agg #[.int .i64 a0, .int .i64 a1] : Value) = keyV (a0, a1) := rfl
  by_cases hk : ∃ k, 1 ≤ k ∧ k < 32 ∧ askP k = (a0, a1)
  · obtain ⟨k, k1, k2, hka⟩ := hk
    have hva := hA.at_ k k1 k2
    cases hAk : s.A k with
    | none =>
      refine F_walk_Walk_fits_ok (by rw [bi_len]; exact hv) ⟨wb, 0, rfl, _, wk_ask hw hR, List.replicate 32 0, by simp, false, ⟨esA, ⟨⟨cA, ha⟩, hA.kOk⟩, ?_⟩, fun _ => hno fun j j1 j2 hj e => ?_, fun e => by simp at e⟩
      · rw [lk_va, hkey, ← hka, hva, hAk]; rfl
      · have : j = k := askP_inj j j2 k k2 j1 k1 (hj.trans hka.symm)
        subst this; rw [hAk] at e; cases e
    | some y =>
      have hy := hL k y hAk
      refine F_walk_Walk_fits_ok (by rw [bi_len]; exact hv) ⟨wb, 0, rfl, _, wk_ask hw hR, bi y, by rw [bi_len]; exact hy, true, ⟨esA, ⟨⟨cA, ha⟩, hA.kOk⟩, ?_⟩, fun e => hno fun j j1 j2 hj e2 => ?_, fun e => ?_⟩
      · rw [lk_va, hkey, ← hka, hva, hAk]; rfl
      · have : j = k := askP_inj j j2 k k2 j1 k1 (hj.trans hka.symm)
        subst this; rw [hAk] at e2; cases e2
        simp at e
      · rw [bi_beq] at e
        have e : y = v := by simpa using e
        subst e
        refine ⟨wb, 0, rfl, _, wk_ask hw hR, ?_⟩
        unfold mdH
        refine ⟨fun e => (by cases e), fun r0 er => ?_⟩
        cases er
        refine ⟨esA, cA, ha, hA.kOk, wb, 0, rfl, ?_⟩
        have c1 : Chg [ra] [ra] h (h.upd ra (.map (dlM esA (.agg #[.int .i64 a0, .int .i64 a1])).toArray cA)) := Chg.upd _
        generalize hh1 : h.upd ra (.map (dlM esA (.agg #[.int .i64 a0, .int .i64 a1])).toArray cA) = h1 at c1 ⊢
        have ha1 : h1 ra = some (.map (dlM esA (.agg #[.int .i64 a0, .int .i64 a1])).toArray cA) := by rw [← hh1]; exact PH.upd_same _ _ _
        have hw1 := c1.keep hw (by simpa using d1)
        have hp1 := c1.keep hp (by simpa using Ne.symm d3)
        have hB1 := hB.chg c1 fun b hb hm => by rw [List.mem_singleton] at hm; subst hm; exact d5 hb
        have htn := hB.1
        refine ⟨_, _, _, wk_text hw1 hR, hB1.append (new := [t]) rfl rfl rfl (by omega) fun a2 n2 B2 h2 hb2 c2 _ => ⟨wb, 0, rfl, ?_⟩⟩
        have hw2 := c2.keep hw1 d4
        have ha2 := c2.keep ha1 d5
        have hp2 := c2.keep hp1 d6
        refine wk_setText hw2 hR fun h3 hw3 c3 => ?_
        have nin : ∀ {b : Nat} {o : Obj}, h1 b = some o → b ∉ Bt → b ∉ B2 := fun hb hn hm => by
          rcases c2.2 _ hm with h4 | h4
          · exact hn h4
          · rw [hb] at h4; cases h4
        have n1 := nin hw1 d4
        have n2' := nin ha1 d5
        have n3 := nin hp1 d6
        have ha3 := c3.keep ha2 (by simpa using Ne.symm d1)
        have hp3 := c3.keep hp2 (by simpa using Ne.symm d2)
        have hb3 := hb2.chg c3 fun b hb hm => by rw [List.mem_singleton] at hm; subst hm; exact n1 hb
        refine hyes k (wb :: ra :: rp :: B2) h3 k1 k2 hka hAk ⟨⟨tb, ra, rp, _, _, esP, cP, a2, tN + 1, n2, B2, rfl, d1, d2, d3, n1, n2', n3, hw3, ht, ha3, ?_, hp3, hP, hb3⟩, hR, fun j y hy => ?_⟩ ?_
        · rw [hkey, ← hka]; exact hA.del k1 k2
        · have hy : upF s.A k none j = some y := hy
          by_cases ej : j = k
          · subst ej; rw [upF_same] at hy; cases hy
          · rw [upF_ne _ _ ej] at hy; exact hL j y hy
        · have C1 : Chg (wb :: ra :: rp :: Bt) (wb :: ra :: rp :: Bt) h h1 := c1.sub (fun b hb => by simp at hb; subst hb; simp) fun b hb => .inr hb
          have C2 : Chg (wb :: ra :: rp :: Bt) (wb :: ra :: rp :: B2) h1 h2 := c2.right (C := [wb, ra, rp])
          have C3 : Chg (wb :: ra :: rp :: B2) (wb :: ra :: rp :: B2) h2 h3 := c3.sub (fun b hb => by simp at hb; subst hb; simp) fun b hb => .inr hb
          refine sp.chg ((C1.trans C2).trans C3) fun b hb => ?_
          simp only [List.mem_cons] at hb
          rcases hb with rfl | rfl | rfl | hb
          · exact ⟨_, hw3⟩
          · exact ⟨_, ha3⟩
          · exact ⟨_, hp3⟩
          · exact hb3.has b hb
  · have hout : va esA (keyV (a0, a1)) = none := hA.out fun k k1 k2 e => hk ⟨k, k1, k2, e⟩
    refine F_walk_Walk_fits_ok (by rw [bi_len]; exact hv) ⟨wb, 0, rfl, _, wk_ask hw hR, List.replicate 32 0, by simp, false, ⟨esA, ⟨⟨cA, ha⟩, hA.kOk⟩, ?_⟩, fun _ => hno fun j j1 j2 hj _ => hk ⟨j, j1, j2, hj⟩, fun e => by simp at e⟩
    rw [lk_va, hkey, hout]
theorem nwM {K : Nat → PH → Prop} (hk : ∀ b h', h b = none → h' b = some (.map #[] 0) → Chg [] [b] h h' → K b h') : newH h (.map #[] 0) K :=
  fun b hb => hk b _ hb (PH.upd_same ..) (Chg.new _ hb)
/-- a walk's first state, ahead of its first ask -/
def wNew0 (S : List PrR) (R : List UInt8) : WS := ⟨S, R, fun _ => none, fun _ => none, textsT S⟩
def NewJ (g : PH) (N : List Nat) (h : PH) (S : List PrR) (R : List UInt8) (st : Option Addr × Unit) (h' : PH) : Prop := ∃ wb N', st.1 = some ⟨wb, 0, none⟩ ∧ WalkAt g N' h' wb (wNew0 S R) ∧ Stp g N h g (N' ++ N) h' ∧ Dj N' N
theorem newFin {M Bt : List Nat} {h5 : PH} {tb ra rp : Nat} {tA : Option Addr} {tN tC : Nat} {S : List PrR} {R : List UInt8} (sp : Spl g N h) (c : Chg [] M h h5) (hM : ∀ b ∈ ra :: rp :: Bt, b ∈ M) (hR : R.length = 32) (ht : Tr tb g S) (ha : h5 ra = some (.map #[] 0)) (hp : h5 rp = some (.map #[] 0))
    (d3 : ra ≠ rp) (d5 : ra ∉ Bt) (d6 : rp ∉ Bt) (hB : Buf EncS 9 Bt h5 tA tN tC (textsT S)) :
    newH h5 (.cells (walkC tb R ra rp tA tN tC).toArray T_walk_Walk (0, 0)) fun bv h6 => NewJ g N h S R (some ⟨bv, 0, none⟩, ()) h6 := by
  refine nwL fun wb h6 hbn hw c6 => ?_
  have n1 : wb ≠ ra := fun e => by subst e; rw [ha] at hbn; cases hbn
  have n2 : wb ≠ rp := fun e => by subst e; rw [hp] at hbn; cases hbn
  have n4 : wb ∉ Bt := fun hm => by
    obtain ⟨o, ho⟩ := hB.has wb hm
    rw [ho] at hbn; cases hbn
  have ha6 := c6.sub0 _ _ ha
  have hp6 := c6.sub0 _ _ hp
  have hB6 := hB.sub c6.sub0
  have hH : Has (wb :: ra :: rp :: Bt) h6 := fun b hb => by
    simp only [List.mem_cons] at hb
    rcases hb with rfl | rfl | rfl | hb
    · exact ⟨_, hw⟩
    · exact ⟨_, ha6⟩
    · exact ⟨_, hp6⟩
    · exact hB6.has b hb
  have c7 : Chg [] (wb :: ra :: rp :: Bt) h h6 := ⟨fun b o _ e => c6.sub0 _ _ (c.sub0 _ _ e), fun b hb => by
    rcases List.mem_cons.1 hb with rfl | hb
    · cases e : h b with
      | none => exact .inr rfl
      | some o => rw [c.sub0 _ _ e] at hbn; cases hbn
    · exact c.2 b (hM b hb)⟩
  exact ⟨wb, wb :: ra :: rp :: Bt, rfl, ⟨⟨tb, ra, rp, [], 0, [], 0, tA, tN, tC, Bt, rfl, n1, n2, d3, n4, d5, d6, hw, ht, ha6, AskMapE.new, hp6, PartMapE.new, hB6⟩, hR, fun _ _ e => by cases e⟩, sp.own c7 hH, Dj.new sp.has c7⟩
end TL

namespace TL
open Go Go.Proofs
variable {g h : PH} {N : List Nat} {K : Value → PH → Prop} {wb : Nat} {s : WS}
theorem Chg.more {M M' : List Nat} {h h' h'' : PH} (c : Chg [] M h h') (c' : Chg [] M' h' h'') : Chg [] (M' ++ M) h h'' := ⟨fun b o _ e => c'.sub0 _ _ (c.sub0 _ _ e), fun b hb => by
  rcases List.mem_append.1 hb with hb | hb
  · rcases c'.2 b hb with h1 | h1
    · cases h1
    · cases e : h b with
      | none => exact .inr rfl
      | some o => rw [c.sub0 _ _ e] at h1; cases h1
  · exact c.2 b hb⟩
theorem notNew {B : List Nat} {h h' : PH} {b : Nat} {o : Obj} (c : Chg [] B h h') (e : h b = some o) : b ∉ B := fun hm => by
  rcases c.2 b hm with h1 | h1
  · cases h1
  · rw [e] at h1; cases h1
theorem ne_new {h : PH} {b b' : Nat} {o : Obj} (e : h b = some o) (n : h b' = none) : b ≠ b' := fun hh => by subst hh; rw [e] at n; cases n
theorem cWNew (sp : Spl g N h) {lA : Option Addr} {lC : Nat} {l : List PrR} (hl : SR EncPr g lA l) (hn : l.length ≤ 1000) (hs : ∀ x ∈ l, x.p.length ≤ 1000000) {R : List UInt8} (hR : R.length = 32)
    (hno : ¬ (mayB l = true ∧ l.length ≤ 48) → ∀ e : Int, (e = 1 ∨ e = 6) → ∀ g' h', Stp g N h g' N h' → (∀ b ∈ N, ∀ o, h b = some o → h' b = some o) → K (.tuple #[.pointer none, .int .i64 e]) h')
    (hyes : mayB l = true → l.length ≤ 48 → ∀ wb N' g' h', WalkAt g' N' h' wb (wNew l R) → Stp g N h g' (N' ++ N) h' → Dj N' N → K (.tuple #[.pointer (some ⟨wb, 0, none⟩), .int .i64 (0 : Int)]) h') :
    CallH Tryz.prog id_walk_New [.slice lA l.length lC, .agg (((bi R).map (Value.int .u8) ++ [])).toArray] K h := by
  refine F_walk_New_ok (by rw [bi_len]; exact hR) (sp.call (K := fun v g' => g.Sub g' ∧ ((mayB l = true ∧ l.length ≤ 48 ∧ ∃ b, Tr b g' l ∧ v = .tuple #[.pointer (some ⟨b, 0, none⟩), .int .i64 (0 : Int)]) ∨ (¬ (mayB l = true ∧ l.length ≤ 48) ∧ ∃ e : Int, (e = 1 ∨ e = 6) ∧ v = .tuple #[.pointer none, .int .i64 e])))
    (cOf3 hl hn hs (fun hok b h' ht _ c => ⟨c.sub0, .inl ⟨hok.1, hok.2, b, ht, rfl⟩⟩) fun hno e he _ => ⟨PH.Sub.rf _, .inr ⟨hno, e, he, rfl⟩⟩) ?_)
  rintro _ g1 h1 ⟨hgs, ⟨hm, h48, tb, ht, rfl⟩ | ⟨hnn, e, he, rfl⟩⟩ st
  · obtain ⟨st1, _⟩ := st hgs
    have sp1 := st1.spl
    have tr : ∀ {h' : PH}, h1.Sub h' → Tr tb h' l := fun hs => ht.sub (sp1.sub.tr hs)
    refine ⟨_, _, rfl, fun e => by simp at e, fun _ => ⟨NewJ g1 N h1 l R, ⟨nwM fun ra h3 n3 e3 c3 => ⟨nwM fun rp h4 n4 e4 c4 => cTexts (tr (c3.more c4).sub0) fun tA tC Bt h5 hb c5 => ⟨_, _, _, rfl, ?_⟩,
      cTexts (tr c3.sub0) fun tA tC Bt h4 hb c4 => ⟨_, _, _, rfl, nwM fun rp h5 n5 e5 c5 => ?_⟩⟩, nwM fun rp h3 n3 e3 c3 => ⟨nwM fun ra h4 n4 e4 c4 => cTexts (tr (c3.more c4).sub0) fun tA tC Bt h5 hb c5 => ⟨_, _, _, rfl, ?_⟩,
      cTexts (tr c3.sub0) fun tA tC Bt h4 hb c4 => ⟨_, _, _, rfl, nwM fun ra h5 n5 e5 c5 => ?_⟩⟩, cTexts (tr (PH.Sub.rf _)) fun tA tC Bt h3 hb c3 => ⟨_, _, _, rfl, nwM fun ra h4 n4 e4 c4 => nwM fun rp h5 n5 e5 c5 => ?_, nwM fun rp h4 n4 e4 c4 => nwM fun ra h5 n5 e5 c5 => ?_⟩⟩, ?_⟩⟩
    · exact newFin sp1 ((c3.more c4).more c5) (fun b hb => by simp only [List.mem_cons, List.mem_append, List.not_mem_nil, or_false] at hb ⊢; rcases hb with rfl | rfl | hb <;> simp [*]) hR ht (c5.sub0 _ _ (c4.sub0 _ _ e3)) (c5.sub0 _ _ e4) (ne_new e3 n4) (notNew c5 (c4.sub0 _ _ e3)) (notNew c5 e4) hb
    · exact newFin sp1 ((c3.more c4).more c5) (fun b hb => by simp only [List.mem_cons, List.mem_append, List.not_mem_nil, or_false] at hb ⊢; rcases hb with rfl | rfl | hb <;> simp [*]) hR ht (c5.sub0 _ _ (c4.sub0 _ _ e3)) e5 (ne_new (c4.sub0 _ _ e3) n5) (notNew c4 e3) (fun hm => by obtain ⟨o, ho⟩ := hb.has _ hm; rw [ho] at n5; cases n5) (hb.sub c5.sub0)
    · exact newFin sp1 ((c3.more c4).more c5) (fun b hb => by simp only [List.mem_cons, List.mem_append, List.not_mem_nil, or_false] at hb ⊢; rcases hb with rfl | rfl | hb <;> simp [*]) hR ht (c5.sub0 _ _ e4) (c5.sub0 _ _ (c4.sub0 _ _ e3)) (Ne.symm (ne_new e3 n4)) (notNew c5 e4) (notNew c5 (c4.sub0 _ _ e3)) hb
    · exact newFin sp1 ((c3.more c4).more c5) (fun b hb => by simp only [List.mem_cons, List.mem_append, List.not_mem_nil, or_false] at hb ⊢; rcases hb with rfl | rfl | hb <;> simp [*]) hR ht e5 (c5.sub0 _ _ (c4.sub0 _ _ e3)) (Ne.symm (ne_new (c4.sub0 _ _ e3) n5)) (fun hm => by obtain ⟨o, ho⟩ := hb.has _ hm; rw [ho] at n5; cases n5) (notNew c4 e3) (hb.sub c5.sub0)
    · exact newFin sp1 ((c3.more c4).more c5) (fun b hb => by simp only [List.mem_cons, List.mem_append, List.not_mem_nil, or_false] at hb ⊢; rcases hb with rfl | rfl | hb <;> simp [*]) hR ht (c5.sub0 _ _ e4) e5 (ne_new e4 n5) (fun hm => by obtain ⟨o, ho⟩ := hb.has _ hm; rw [ho] at n4; cases n4) (fun hm => by obtain ⟨o, ho⟩ := hb.has _ hm; rw [c4.sub0 _ _ ho] at n5; cases n5) ((hb.sub c4.sub0).sub c5.sub0)
    · exact newFin sp1 ((c3.more c4).more c5) (fun b hb => by simp only [List.mem_cons, List.mem_append, List.not_mem_nil, or_false] at hb ⊢; rcases hb with rfl | rfl | hb <;> simp [*]) hR ht e5 (c5.sub0 _ _ e4) (Ne.symm (ne_new e4 n5)) (fun hm => by obtain ⟨o, ho⟩ := hb.has _ hm; rw [c4.sub0 _ _ ho] at n5; cases n5) (fun hm => by obtain ⟨o, ho⟩ := hb.has _ hm; rw [ho] at n4; cases n4) ((hb.sub c4.sub0).sub c5.sub0)
    · rintro ⟨w, u⟩ h2 ⟨wb, N', hw, x, st2, d⟩
      dsimp only at hw
      subst hw
      refine cWAsk (lv := 0) (i := 0) x st2.spl.left (by decide) (by decide) hR fun h6 x6 st6 => ?_
      obtain ⟨sf, d6⟩ := st6.frame st2.spl d.symm
      exact hyes hm h48 wb N' g1 h6 x6 (st1.trans (st2.trans sf)) d
  · obtain ⟨st1, keep1⟩ := st hgs
    refine ⟨_, _, rfl, fun _ => hno hnn e he g1 h1 st1 keep1, fun e2 => ?_⟩
    rcases he with rfl | rfl <;> simp at e2
theorem cWTexts (x : WalkAt g N h wb s) (hn : s.T.length ≤ 1000000) (hk : ∀ a' c' B' h', Buf EncS 9 B' h' a' s.T.length c' s.T → Chg [] B' h h' → K (.slice a' s.T.length c') h') : CallH Tryz.prog id_walk_Walk_Texts [.pointer (some ⟨wb, 0, none⟩)] K h := by
  refine F_walk_Walk_Texts_ok (cWNone x ⟨_, rfl, fun e => (by cases e), fun _ => ?_⟩)
  obtain ⟨⟨tb, ra, rp, esA, cA, esP, cP, tA, tN, tC, Bt, rfl, d1, d2, d3, d4, d5, d6, hw, ht, ha, hA, hp, hP, hB⟩, hR, hL⟩ := x
  have hl := hB.1
  subst hl
  exact ⟨wb, 0, rfl, _, _, _, wk_text hw hR, cCloneStr hB.sr hn fun a' c' B' h' hb' hc' => ⟨_, _, _, rfl, hk a' c' B' h' hb' hc'⟩⟩
theorem cWRoot (x : WalkAt g N h wb s) (hk : K (.agg (((bi s.R).map (Value.int .u8) ++ [])).toArray) h) : CallH Tryz.prog id_walk_Walk_Root [.pointer (some ⟨wb, 0, none⟩)] K h := by
  refine F_walk_Walk_Root_ok (cWNone x ⟨_, rfl, fun e => (by cases e), fun _ => ?_⟩)
  obtain ⟨⟨tb, ra, rp, esA, cA, esP, cP, tA, tN, tC, Bt, rfl, d1, d2, d3, d4, d5, d6, hw, ht, ha, hA, hp, hP, hB⟩, hR, hL⟩ := x
  exact ⟨wb, 0, rfl, bi s.R, by rw [bi_len]; exact hR, wk_root hw hR, hk⟩
end TL

namespace TL
open Go Go.Proofs
variable {g h : PH} {N : List Nat} {K : Value → PH → Prop} {wb : Nat} {s : WS}
theorem askP_16 : ∀ k : Nat, k < 32 → 1 ≤ k → (k < 16 ↔ (askP k).1 < 4) := by decide +kernel
theorem askP_nn : ∀ k : Nat, k < 32 → 1 ≤ k → 0 ≤ (askP k).1 ∧ (askP k).1 ≤ 4 ∧ 0 ≤ (askP k).2 ∧ (askP k).2 < 16 := by decide +kernel
theorem askP_kids : ∀ k : Nat, k < 16 → 1 ≤ k → k.log2 + 1 ≤ 4 ∧ 2 * (k - 2 ^ k.log2) + 1 < 2 ^ (k.log2 + 1) ∧ 2 ^ (k.log2 + 1) + 2 * (k - 2 ^ k.log2) = 2 * k := by decide +kernel
theorem cWNode (x : WalkAt g N h wb s) (sp : Spl g N h) {lv i : Int} {a b : List UInt8} (ha : a.length = 32) (hb : b.length = 32) (hT : s.T.length ≤ 100000)
    (hno : (∀ k, 1 ≤ k → k < 16 → askP k = (lv, i) → s.A k ≠ some (shaN (innT a b))) → ∀ h', WalkAt g N h' wb s → Stp g N h g N h' → K (.bool false) h')
    (hyes : ∀ k N' h', 1 ≤ k → k < 16 → askP k = (lv, i) → s.A k = some (shaN (innT a b)) → WalkAt g N' h' wb (wIn s k a b) → Stp g N h g N' h' → K (.bool true) h') :
    CallH Tryz.prog id_walk_Walk_Node [.pointer (some ⟨wb, 0, none⟩), .int .i64 lv, .int .i64 i, .agg (((bi a).map (Value.int .u8) ++ [])).toArray, .agg (((bi b).map (Value.int .u8) ++ [])).toArray] K h := by
  refine F_walk_Walk_Node_ok (by rw [bi_len, ha]) (by rw [bi_len, hb]) (nwL fun b1 h1 n1 hb1 c1 => nwL fun b2 h2 n2 hb2 c2 => ?_)
  have s2 : h.Sub h2 := c1.sub0.tr c2.sub0
  have hb1 := c2.sub0 _ _ hb1
  have nb1 : b1 ∉ N := fun hm => by obtain ⟨o, ho⟩ := sp.has _ hm; rw [ho] at n1; cases n1
  have nb2 : b2 ∉ N := fun hm => by obtain ⟨o, ho⟩ := sp.has _ hm; rw [c1.sub0 _ _ ho] at n2; cases n2
  have st2 := sp.grow s2
  have x2 : WalkAt g N h2 wb s := x.keep (PH.Sub.rf _) fun q _ o e => s2 q o e
  refine cWNone x2 ⟨_, rfl, fun e => hno (fun k k1 k2 hk _ => ?_) h2 x2 st2, fun e => ?_⟩
  · have := askP_nn k (by omega) k1
    have h16 := (askP_16 k (by omega) k1).1 k2
    rw [hk] at this h16
    simp only [Bool.false_or, Bool.or_eq_true, decide_eq_true_eq] at e
    dsimp only at this h16
    omega
  · have str1 : ∀ {h' : PH}, h2.Sub h' → strH h' (slA (some ⟨b1, 0, none⟩ : Option Addr) 1 (0 : Int) ((32 : Nat) : Int)) (((32 : Nat) : Int).toNat - (0 : Int).toNat) (mk a) := fun hs => by
      have := (sr_bi (hs _ _ hb1)).str
      rw [ha] at this; exact this
    have str2 : ∀ {h' : PH}, h2.Sub h' → strH h' (slA (some ⟨b2, 0, none⟩ : Option Addr) 1 (0 : Int) ((32 : Nat) : Int)) (((32 : Nat) : Int).toNat - (0 : Int).toNat) (mk b) := fun hs => by
      have := (sr_bi (hs _ _ hb2)).str
      rw [hb] at this; exact this
    have rd1 : ∀ {h' : PH}, h' b1 = h2 b1 → h'.rds b1 0 32 = some ((bi a).map (Value.int .u8) ++ []) := fun he => by
      rw [hb1] at he
      rw [List.append_nil] at he ⊢
      exact rds_mid' (pre := []) (post := []) he (by simp) rfl (by rw [List.length_map, bi_len, ha])
    have rd2 : ∀ {h' : PH}, h' b2 = h2 b2 → h'.rds b2 0 32 = some ((bi b).map (Value.int .u8) ++ []) := fun he => by
      rw [hb2] at he
      rw [List.append_nil] at he ⊢
      exact rds_mid' (pre := []) (post := []) he (by simp) rfl (by rw [List.length_map, bi_len, hb])
    refine ⟨bi a, by rw [bi_len, ha], rd1 rfl, bi b, by rw [bi_len, hb], rd2 rfl, by decide, mk a, str1 (PH.Sub.rf _), ?_, by decide, mk b, str2 (PH.Sub.rf _), ?_, cInner ha hb fun h4 s4 => ⟨bi (shaN (innT a b)), by rw [bi_len, shaN_len], rfl, str2 s4, str1 s4, ?_⟩⟩
    · have : (mk a).size = 32 := by rw [size_mk, ha]
      rw [this]; decide
    · rw [show (⟨#[78]⟩ : ByteArray) = mk [78] from rfl, mk_append, size_mk, size_mk, List.length_append, ha, hb]; decide
    · rw [show (⟨#[78]⟩ : ByteArray) = mk [78] from rfl, mk_append, mk_append]
      have st4 := st2.trans (st2.spl.grow s4)
      have x4 : WalkAt g N h4 wb s := x2.keep (PH.Sub.rf _) fun q _ o e => s4 q o e
      refine cWFits (t := innT a b) x4 st4.spl (shaN_len _) hT (fun hn => ⟨_, rfl, fun _ => hno (fun k k1 k2 hk => hn k k1 (by omega) hk) h4 x4 st4, fun e => by simp at e⟩) fun k N5 h5 k1 k2 hk hA x5 st5 => ⟨_, rfl, fun e => by simp at e, fun _ => ?_⟩
      have k16 : k < 16 := (askP_16 k k2 k1).2 (by
        rw [hk]
        simp only [Bool.false_or, Bool.or_eq_false_iff, decide_eq_false_iff_not] at e
        dsimp only; omega)
      obtain ⟨q1, q2, q3⟩ := askP_kids k k16 k1
      have hlv : lv = ((k.log2 : Nat) : Int) := (congrArg Prod.fst hk).symm
      have hi : i = ((k - 2 ^ k.log2 : Nat) : Int) := (congrArg Prod.snd hk).symm
      have w1 : IntKind.wrap .i64 (lv + 1) = ((k.log2 + 1 : Nat) : Int) := by rw [hlv, wrap64] <;> omega
      have w2 : IntKind.wrap .i64 ((2 : Int) * i) = ((2 * (k - 2 ^ k.log2) : Nat) : Int) := by rw [hi, wrap64] <;> omega
      have w3 : IntKind.wrap .i64 (((2 * (k - 2 ^ k.log2) : Nat) : Int) + 1) = ((2 * (k - 2 ^ k.log2) + 1 : Nat) : Int) := by rw [wrap64] <;> omega
      rw [w1, w2, w3]
      have e1 : h5 b1 = h2 b1 := by
        have := st5.chg.keep (s4 _ _ hb1) nb1
        rw [hb1]; exact this
      have e2 : h5 b2 = h2 b2 := by
        have := st5.chg.keep (s4 _ _ hb2) nb2
        rw [hb2]; exact this
      have n25 : b2 ∉ N5 := fun hm => by
        rcases st5.chg.2 b2 hm with h6 | h6
        · exact nb2 h6
        · rw [s4 _ _ hb2] at h6; cases h6
      refine ⟨bi a, by rw [bi_len, ha], rd1 e1, cWAsk x5 st5.spl q1 (by omega) ha fun h6 x6 st6 => ⟨bi b, by rw [bi_len, hb], rd2 ?_, ?_⟩⟩
      · have := st6.chg.keep (o := .cells ((bi b).map (Value.int .u8) ++ []).toArray T_api_Hash (0, 0)) (by rw [e2]; exact hb2) n25
        rw [this, hb2]
      · refine cWAsk x6 st6.spl q1 q2 hb fun h7 x7 st7 => ?_
        have r1 : 2 ^ (k.log2 + 1) + 2 * (k - 2 ^ k.log2) = 2 * k := q3
        have r2 : 2 ^ (k.log2 + 1) + (2 * (k - 2 ^ k.log2) + 1) = 2 * k + 1 := by omega
        rw [r1, r2] at x7
        exact hyes k N5 h7 k1 k16 hk hA x7 (st4.trans (st5.trans (st6.trans st7)))
end TL

namespace TL
open Go Go.Proofs
variable {g h : PH} {N : List Nat} {K : Value → PH → Prop} {wb : Nat} {s : WS}
theorem cPageOut {lA : Option Addr} {lN lC : Nat} {i : Int} (hi : ¬ (0 ≤ i ∧ i < 16)) (hk : K (.tuple #[.string (⟨#[]⟩ : ByteArray), .int .i64 (1 : Int)]) h) : CallH Tryz.prog id_bucket_Page [.int .i64 i, .slice lA lN lC] K h := by
  have hf : (decide (i ≥ (0 : Int)) && decide (i < (16 : Int))) = false := by
    rw [Bool.eq_false_iff]
    intro e
    simp only [Bool.and_eq_true, decide_eq_true_eq] at e
    omega
  refine F_bucket_Page_ok ⟨fun _ _ => False, F_bucket_bucket_ok ⟨_, rfl, fun e => ?_, fun _ => hk⟩, fun _ _ h => h.elim⟩
  rw [hf] at e; cases e
theorem pgOk_iff {i : Nat} {l : List PrR} : (mayB l = true ∧ (partB l i).length = l.length ∧ l.length ≤ 48) ↔ PgOk i l := by
  refine ⟨fun ⟨h1, h2, h3⟩ => ⟨h1, fun x hx => ?_, h3⟩, fun ⟨h1, h2, h3⟩ => ⟨h1, ?_, h3⟩⟩
  · have h4 : ∀ y ∈ l, (bkt y.p == i) = true := List.length_filter_eq_length_iff.1 h2
    simpa using h4 x hx
  · exact List.length_filter_eq_length_iff.2 fun y hy => by simp [h2 y hy]
theorem cWPage (x : WalkAt g N h wb s) (sp : Spl g N h) {i : Int} {lA : Option Addr} {lC : Nat} {l : List PrR} (hl : SR EncPr g lA l) (hn : l.length ≤ 1000) (hs : ∀ x ∈ l, x.p.length ≤ 1000000) (hT : s.T.length ≤ 100000)
    (hno : (∀ k : Nat, k < 16 → i = k → PgOk k l → s.A (16 + k) ≠ some (shaN (76 :: pageL l))) → ∀ h', WalkAt g N h' wb s → Stp g N h g N h' → K (.bool false) h')
    (hyes : ∀ (k : Nat) g' N' h', k < 16 → i = k → PgOk k l → s.A (16 + k) = some (shaN (76 :: pageL l)) → WalkAt g' N' h' wb (wPg s k l) → Stp g N h g' N' h' → K (.bool true) h') :
    CallH Tryz.prog id_walk_Walk_Page [.pointer (some ⟨wb, 0, none⟩), .int .i64 i, .slice lA l.length lC] K h := by
  refine F_walk_Walk_Page_ok (cWNone x ⟨_, rfl, fun e => (by cases e), fun _ => ?_⟩)
  by_cases hi : ¬ (0 ≤ i ∧ i < 16)
  · exact cPageOut hi ⟨_, _, rfl, fun e => by simp at e, fun _ => hno (fun k hk e _ => absurd (show 0 ≤ i ∧ i < 16 by omega) hi) h x (Stp.refl sp)⟩
  have hi : 0 ≤ i ∧ i < 16 := Classical.not_not.1 hi
  obtain ⟨k, rfl⟩ : ∃ k : Nat, i = k := ⟨i.toNat, by omega⟩
  have hk : k < 16 := by omega
  refine cPage hk (hl.sub sp.sub) (by omega) hs fun h2 s2 => ⟨_, _, rfl, fun e => ?_, fun e => ?_⟩
  · have hok : PgOk k l := by
      refine pgOk_iff.1 ?_
      unfold pageV at e
      split at e
      · rename_i hh
        split at e
        · rename_i h48; exact ⟨hh.1, hh.2, h48⟩
        · simp at e
      · simp at e
    have hpv := page_ok hok
    rw [hpv]
    dsimp only
    have hpl := page_len hok
    have st2 := sp.grow s2
    have x2 : WalkAt g N h2 wb s := x.keep (PH.Sub.rf _) fun q _ o e => s2 q o e
    refine cLeaf (by omega) fun h3 s3 => ⟨bi (shaN (76 :: pageL l)), by rw [bi_len, shaN_len], rfl, ?_, ?_⟩
    · rw [size_mk]; show ((1 + (pageL l).length : Nat) : Int) ≤ _; omega
    rw [show (⟨#[76]⟩ : ByteArray) = mk [76] from rfl, mk_append]
    have st3 := st2.trans (st2.spl.grow s3)
    have x3 : WalkAt g N h3 wb s := x2.keep (PH.Sub.rf _) fun q _ o e => s3 q o e
    have hap : askP (2 ^ 4 + k) = (4, (k : Int)) := askP_at 4 (by decide) k hk hk
    refine cWFits (t := 76 :: pageL l) x3 st3.spl (shaN_len _) hT (fun hn => ⟨_, rfl, fun _ => hno (fun j _ ej _ => ?_) h3 x3 st3, fun e => by simp at e⟩) fun j N5 h5 j1 j2 hj hA x5 st5 => ⟨_, rfl, fun e => by simp at e, fun _ => ?_⟩
    · have : j = k := by omega
      subst this
      exact hn (16 + j) (by omega) (by omega) hap
    have hjk : j = 16 + k := askP_inj j j2 (2 ^ 4 + k) (show 16 + k < 32 by omega) j1 (show 1 ≤ 16 + k by omega) (hj.trans hap.symm)
    subst hjk
    obtain ⟨⟨tb, ra, rp, esA, cA, esP, cP, tA, tN, tC, Bt, rfl, d1, d2, d3, d4, d5, d6, hw, ht, ha, hA5, hp, hP, hB⟩, hR, hL⟩ := x5
    refine ⟨wb, 0, rfl, _, wk_part hw hR, cClonePr (hl.sub st5.spl.sub) hn fun a6 c6 B6 h6 hb6 cc6 => ⟨_, _, _, rfl, wk_part (cc6.sub0 _ _ hw) hR, rp, esP, cP, rfl, cc6.sub0 _ _ hp, hP.key, ?_⟩⟩
    have st6 := st5.spl.new cc6
    have hsr : SR EncPr (PH.plus g h6 B6) a6 l := (hb6.keep fun b hb o e => by rw [plus_in hb]; exact e).sr
    have hw6 := cc6.sub0 _ _ hw
    have ha6 := cc6.sub0 _ _ ha
    have hB6 := hB.sub cc6.sub0
    have cc : Chg [rp] [rp] h6 (h6.upd rp (.map (upM esP (.int .i64 (k : Int)) (.slice a6 l.length c6) cP).1.toArray (upM esP (.int .i64 (k : Int)) (.slice a6 l.length c6) cP).2)) := Chg.upd _
    have hw7 := cc.keep hw6 (by simpa using d2)
    have ha7 := cc.keep ha6 (by simpa using d3)
    have hB7 := hB6.chg cc fun b hb hm => by rw [List.mem_singleton] at hm; subst hm; exact d6 hb
    have st7 := st6.spl.chg (cc.sub (C := wb :: ra :: rp :: Bt) (fun b hb => by simp at hb; subst hb; simp) fun b hb => .inr hb) (fun b hb => by
      simp only [List.mem_cons] at hb
      rcases hb with rfl | rfl | rfl | hb
      · exact ⟨_, hw7⟩
      · exact ⟨_, ha7⟩
      · exact ⟨_, PH.upd_same _ _ _⟩
      · exact hB7.has b hb)
    exact hyes k _ (wb :: ra :: rp :: Bt) _ hk rfl hok hA ⟨⟨tb, ra, rp, esA, cA, _, _, tA, tN, tC, Bt, rfl, d1, d2, d3, d4, d5, d6, hw7, ht.sub st6.gs, ha7, hA5, PH.upd_same _ _ _, (hP.sub st6.gs).put hk hsr, hB7⟩, hR, hL⟩ (st3.trans (st5.trans (st6.trans st7)))
  · refine hno (fun j _ ej hj => ?_) h2 (x.keep (PH.Sub.rf _) fun q _ o e => s2 q o e) (sp.grow s2)
    have : j = k := by omega
    subst this
    rw [page_ok hj] at e
    simp at e
end TL

namespace TL
open Go Go.Proofs
variable {g h : PH} {N : List Nat} {K : Value → PH → Prop} {wb : Nat} {s : WS}
theorem ltA_ext : ∀ {l m : List (Int × Int)}, l.Pairwise ltA → m.Pairwise ltA → (∀ x, x ∈ l ↔ x ∈ m) → l = m
  | [], [], _, _, _ => rfl
  | [], b :: m, _, _, h => by have := (h b).2 List.mem_cons_self; cases this
  | a :: l, [], _, _, h => by have := (h a).1 List.mem_cons_self; cases this
  | a :: l, b :: m, h1, h2, h => by
    obtain ⟨h1, h1'⟩ := List.pairwise_cons.1 h1
    obtain ⟨h2, h2'⟩ := List.pairwise_cons.1 h2
    have irr : ∀ x : Int × Int, ¬ ltA x x := fun x => by unfold ltA; omega
    have e : a = b := by
      rcases List.mem_cons.1 ((h a).1 List.mem_cons_self) with e | e
      · exact e
      · rcases List.mem_cons.1 ((h b).2 List.mem_cons_self) with e2 | e2
        · exact e2.symm
        · have q1 := h2 a e
          have q2 := h1 b e2
          unfold ltA at q1 q2; omega
    subst e
    rw [ltA_ext h1' h2' fun x => ⟨fun hx => ?_, fun hx => ?_⟩]
    · rcases List.mem_cons.1 ((h x).1 (List.mem_cons_of_mem _ hx)) with e | e
      · subst e; exact absurd (h1 x hx) (irr x)
      · exact e
    · rcases List.mem_cons.1 ((h x).2 (List.mem_cons_of_mem _ hx)) with e | e
      · subst e; exact absurd (h2 x hx) (irr x)
      · exact e
theorem wList_mem {A : Nat → Option (List UInt8)} {k : Nat} : k ∈ wList A ↔ k < 32 ∧ (A k).isSome = true := by
  unfold wList
  rw [List.mem_filter, List.mem_range]
theorem wList_sorted {A : Nat → Option (List UInt8)} (h0 : A 0 = none) : ((wList A).map askP).Pairwise ltA := by
  rw [List.pairwise_map]
  refine List.Pairwise.imp_of_mem (R := fun a b => a < b) (fun {a b} ha hb hab => ?_) (List.pairwise_lt_range.sublist List.filter_sublist)
  obtain ⟨a1, a2⟩ := wList_mem.1 ha
  obtain ⟨b1, b2⟩ := wList_mem.1 hb
  have n0 : ∀ k : Nat, (A k).isSome = true → 1 ≤ k := fun k hk => by
    rcases Nat.eq_zero_or_pos k with rfl | h
    · rw [h0] at hk; cases hk
    · exact h
  exact (askP_lt a a1 b b1 (n0 a a2) (n0 b b2)).2 hab
theorem asked_row {es : List MapEntry} {c : Nat} {A : Nat → Option (List UInt8)} (x : AskMapE es c A) (h0 : A 0 = none) {l : List (Int × Int)} (hp : (l.map keyV).Perm (es.map (·.key))) (hs : l.Pairwise fun a b => ¬ ltA b a) : l = (wList A).map askP := by
  have hnd : (es.map (·.key)).Nodup := by
    refine List.pairwise_map.2 (List.Pairwise.imp_of_mem (fun {a b} ha hb hab e => ?_) x.nd)
    rw [(keq_eq (x.kOk a ha) (x.kOk b hb)).2 e] at hab; cases hab
  have hln : l.Nodup := by
    have := hp.nodup_iff.2 hnd
    exact List.Pairwise.imp (fun h e => h (by rw [e])) (List.pairwise_map.1 this)
  have hmem : ∀ p : Int × Int, p ∈ l ↔ keyV p ∈ es.map (·.key) := fun p => by
    rw [← hp.mem_iff, List.mem_map]
    exact ⟨fun h => ⟨p, h, rfl⟩, fun ⟨q, hq, e⟩ => keyV_inj e ▸ hq⟩
  refine ltA_ext ?_ (wList_sorted h0) fun p => ?_
  · refine List.Pairwise.imp (fun {a b} h => ?_) (hs.and hln)
    obtain ⟨h1, h2⟩ := h
    have : ¬ (a.1 = b.1 ∧ a.2 = b.2) := fun e => h2 (Prod.ext e.1 e.2)
    unfold ltA at *; omega
  · rw [hmem p, List.mem_map]
    refine ⟨fun ⟨e, he, ek⟩ => ?_, fun hk => ?_⟩
    · obtain ⟨k, k1, k2, hk⟩ := x.key e he
      have hpk : p = askP k := keyV_inj (ek.symm.trans hk)
      subst hpk
      refine List.mem_map.2 ⟨k, wList_mem.2 ⟨k2, ?_⟩, rfl⟩
      cases hA : A k with
      | some y => rfl
      | none =>
        have hv := x.at_ k k1 k2
        rw [hA] at hv
        have := va_none.1 hv e he
        rw [hk, keyV_keq] at this
        simp at this
    · obtain ⟨k, hkm, rfl⟩ := List.mem_map.1 hk
      obtain ⟨k2, hs⟩ := wList_mem.1 hkm
      have k1 : 1 ≤ k := by
        rcases Nat.eq_zero_or_pos k with rfl | h
        · rw [h0] at hs; cases hs
        · exact h
      obtain ⟨y, hy⟩ := Option.isSome_iff_exists.1 hs
      have hv := x.at_ k k1 k2
      rw [hy] at hv
      have hnn : ¬ va es (keyV (askP k)) = none := by rw [hv]; simp
      rw [va_none] at hnn
      obtain ⟨e, he⟩ := Classical.not_forall.1 hnn
      obtain ⟨he, hq⟩ := Classical.not_imp.1 he
      have hq : keq (keyV (askP k)) e.key = true := by simpa using hq
      exact ⟨e, he, ((keq_eq (keyV_ok _) (x.kOk e he)).1 hq).symm⟩
theorem AskMapE.len {es : List MapEntry} {c : Nat} {A : Nat → Option (List UInt8)} (x : AskMapE es c A) : es.length ≤ 32 := by
  have hnd : (es.map (·.key)).Nodup := by
    refine List.pairwise_map.2 (List.Pairwise.imp_of_mem (fun {a b} ha hb hab e => ?_) x.nd)
    rw [(keq_eq (x.kOk a ha) (x.kOk b hb)).2 e] at hab; cases hab
  have := List.Nodup.length_le_of_subset (l₂ := (List.range 32).map fun k => keyV (askP k)) hnd fun v hv => by
    obtain ⟨e, he, rfl⟩ := List.mem_map.1 hv
    obtain ⟨k, _, k2, hk⟩ := x.key e he
    exact List.mem_map.2 ⟨k, List.mem_range.2 k2, hk.symm⟩
  simpa using this
theorem take_min_len {α : Type} (l : List α) (n : Nat) : l.take (min n l.length) = l.take n := by
  rcases Nat.le_total n l.length with h | h
  · rw [Nat.min_eq_left h]
  · rw [Nat.min_eq_right h, List.take_length, List.take_of_length_le h]
theorem cWWant (x : WalkAt g N h wb s) (h0 : s.A 0 = none) {n : Int} (hk : ∀ a' c' h', h.Sub h' → SR EncAsk h' a' (((wList s.A).map askP).take n.toNat) → K (.slice a' (((wList s.A).map askP).take n.toNat).length c') h') :
    CallH Tryz.prog id_walk_Walk_Want [.pointer (some ⟨wb, 0, none⟩), .int .i64 n] K h := by
  refine F_walk_Walk_Want_ok (cWNone x ⟨_, rfl, fun e => ?_, fun e => ?_⟩)
  · have e : n < 1 := by simpa using e
    have hn : n.toNat = 0 := by omega
    have := hk none 0 h (PH.Sub.rf _) (by rw [hn]; exact .inl rfl)
    rw [hn] at this; exact this
  · have e : ¬ n < 1 := by simpa using e
    obtain ⟨⟨tb, ra, rp, esA, cA, esP, cP, tA, tN, tC, Bt, rfl, d1, d2, d3, d4, d5, d6, hw, ht, ha, hA, hp, hP, hB⟩, hR, hL⟩ := x
    have hlen : esA.length ≤ 1000 := by have := hA.len; omega
    refine ⟨wb, 0, rfl, _, wk_ask hw hR, F_maps_Keys_map_walk_Ask_api_Hash_walk_Ask_api_Hash_ok (nwL fun bm h1 _ hbm c1 => ⟨_, rfl, rfl, cSortedA hbm (c1.sub0 _ _ ha) (fun e he => ?_) hA.old hA.bn hlen fun l a' c' B' h2 hp2 hs2 hB2 cc2 => ⟨_, _, _, rfl, ?_, ?_⟩⟩)⟩
    · obtain ⟨k, _, _, hk⟩ := hA.key e he
      exact ⟨_, hk⟩
    · have := hB2.le
      unfold minV
      split <;> omega
    · have hl := asked_row hA h0 hp2 hs2
      have hle := hB2.le
      rw [← hl] at hk
      have e1 : (minV n ((l.length : Nat) : Int)).toNat = min n.toNat l.length := by unfold minV; split <;> omega
      have e2 : (minV n ((l.length : Nat) : Int)).toNat - (0 : Int).toNat = (l.take n.toNat).length := by rw [e1, List.length_take]; exact Nat.sub_zero _
      rw [e2]
      refine hk _ _ h2 (c1.sub0.tr cc2.sub0) ?_
      have := hB2.sr.slice (L := 0) (lo := 0) (hi := min n.toNat l.length) (mx := (c' : Int)) rfl (Nat.min_le_right _ _) (by omega)
      rw [List.drop_zero, Nat.sub_zero, take_min_len] at this
      exact this
end TL

namespace TL
open Go Go.Proofs Go.Shelf Go.RowKit Go.Lib Go.Sort
set_option maxHeartbeats 1000000 in
theorem walkLess122 (a0 a1 b0 b1 : ByteArray) (w : World) :
    Calls Tryz.prog 122 #[.agg #[.string a0, .string a1], .agg #[.string b0, .string b1]] w fun e w' => e = .returned (.int .i64 (Lib.compareBytes a0.data.toList b0.data.toList)) ∧ ∃ q os', w' = grow (w.drewN q) os' := by
  have hcon := fun W => walkCompare a0 b0 W
  generalize Lib.compareBytes a0.data.toList b0.data.toList = r at hcon ⊢
  go_enter Tryz.func122, Tryz.ntmps122
  go_wp2_with (go_at_call 123; refine (hcon _).mono ?_; rintro e w' ⟨rfl, rfl⟩)
  go_ret
  exact ⟨rfl, 0, _, by rw [alloc_eq_grow, alloc_eq_grow, grow_grow]; rfl⟩
theorem cSortW {B : List Nat} {h : PH} {K : Value → PH → Prop} {a : Option Addr} {n c : Nat} {l : List PrR} {T : TypeId} (x : Buf EncPr T B h a n c l) (hn : l.length ≤ 1000000)
    (hk : ∀ l' h', l'.Perm l → (l'.Pairwise fun a b => ¬ b.p < a.p) → Buf EncPr T B h' a n c l' → Chg B B h h' → K (.tuple #[]) h') : CallH Tryz.prog 121 [.slice a n c, .func (.func 122) #[] #[]] K h :=
  cSortPr Tryz.srtA Tryz.isAgg101 Tryz.sizeOf101 122 (enters_of Tryz.func122 (by kernel_rfl) rfl) walkLess122 x hn hk
variable {g h : PH} {N : List Nat} {K : Value → PH → Prop} {wb : Nat} {s : WS}
/-- all parts of a walk -/
def wDone (s : WS) : List PrR := (List.range 16).flatMap (wPart s)
theorem part_le {s : WS} (hS : s.S.length ≤ 48) (hQ : ∀ i l, s.Q i = some l → l.length ≤ 48) (i : Nat) : (wPart s i).length ≤ 48 := by
  unfold wPart
  cases e : s.Q i with
  | none => exact Nat.le_trans (List.length_filter_le _ _) hS
  | some l => exact hQ i l e
theorem parts_le {s : WS} (hS : s.S.length ≤ 48) (hQ : ∀ i l, s.Q i = some l → l.length ≤ 48) (n : Nat) : ((List.range n).flatMap (wPart s)).length ≤ 48 * n := by
  induction n with
  | zero => simp
  | succ n ih =>
    rw [List.range_succ, List.flatMap_append, List.length_append, List.flatMap_cons, List.flatMap_nil, List.append_nil]
    have := part_le hS hQ n
    omega
theorem parts_succ (s : WS) (n : Nat) : (List.range (n + 1)).flatMap (wPart s) = (List.range n).flatMap (wPart s) ++ wPart s n := by
  rw [List.range_succ, List.flatMap_append, List.flatMap_cons, List.flatMap_nil, List.append_nil]
theorem cWDone (x : WalkAt g N h wb s) (sp : Spl g N h) (hQ : ∀ i l, s.Q i = some l → l.length ≤ 48)
    (hno : (∃ k, 1 ≤ k ∧ k < 32 ∧ (s.A k).isSome = true) ∨ ((∀ k, 1 ≤ k → k < 32 → s.A k = none) ∧ 48 < (wDone s).length) → ∀ h', h.Sub h' → K (.tuple #[.slice none 0 0, .bool false]) h')
    (hyes : (∀ k, 1 ≤ k → k < 32 → s.A k = none) → (wDone s).length ≤ 48 → ∀ l a' c' B' h', l.Perm (wDone s) → (l.Pairwise fun a b => ¬ b.p < a.p) → Buf EncPr T_api_Pair B' h' a' l.length c' l → Chg [] B' h h' → K (.tuple #[.slice a' l.length c', .bool true]) h') :
    CallH Tryz.prog id_walk_Walk_Done [.pointer (some ⟨wb, 0, none⟩)] K h := by
  have hxx := x
  obtain ⟨⟨tb, ra, rp, esA, cA, esP, cP, tA, tN, tC, Bt, rfl, d1, d2, d3, d4, d5, d6, hw, ht, ha, hA, hp, hP, hB⟩, hR, hL⟩ := x
  have hS : s.S.length ≤ 48 := ht.le
  refine F_walk_Walk_Done_ok ⟨fun _ h' => h' = h ∧ ∀ k, 1 ≤ k → k < 32 → s.A k = none, cWNone hxx ⟨_, rfl, wb, 0, fun _ => rfl, some ra, fun _ => wk_ask hw hR, fun _ => ⟨esA.length, ⟨_, cA, ha, by simp⟩, fun e => ?_, fun e => ⟨rfl, fun k k1 k2 => ?_⟩⟩, fun e => by cases e⟩, ?_⟩
  · have e : 0 < esA.length := by have := of_decide_eq_true e; omega
    refine hno (.inl ?_) h (PH.Sub.rf _)
    have hm := List.getElem_mem e
    obtain ⟨k, k1, k2, hk⟩ := hA.key _ hm
    refine ⟨k, k1, k2, ?_⟩
    cases hAk : s.A k with
    | some y => rfl
    | none =>
      have hv := hA.at_ k k1 k2
      rw [hAk] at hv
      have := va_none.1 hv _ hm
      rw [hk, keyV_keq] at this
      simp at this
  · have e : esA = [] := List.length_eq_zero_iff.1 (by have := of_decide_eq_false e; omega)
    have hv := hA.at_ k k1 k2
    rw [e] at hv
    cases hAk : s.A k with
    | none => rfl
    | some y => rw [hAk] at hv; cases hv
  rintro _ h1 ⟨rfl, hdone⟩
  refine LoopP.ind (fun (z : (Option Addr × Nat × Nat) × Int × Unit) h' => ∃ (i : Nat) (B' : List Nat), z.2.1 = i ∧ i ≤ 16 ∧ Buf EncPr T_api_Pair B' h' z.1.1 z.1.2.1 z.1.2.2 ((List.range i).flatMap (wPart s)) ∧ Chg [] B' h1 h') (fun z _ => (16 - z.2.1).toNat) ?_
    ⟨0, [], rfl, Nat.zero_le _, Buf.nil _ _ _ _, Chg.refl _ _⟩
  rintro ⟨⟨lA, lN, lC⟩, zi, u⟩ h2 ⟨i, B2, hzi, hi, hb, hc⟩
  dsimp only at hzi hb
  subst hzi
  dsimp only
  have hw2 := hc.sub0 _ _ hw
  have hlen := parts_le hS hQ i
  have hlN := hb.1
  refine ⟨fun e => ?_, fun e => ?_⟩
  · have e : i < 16 := by have := of_decide_eq_true e; omega
    have hwi : IntKind.wrap .i64 (((i : Nat) : Int) + (1 : Int)) = ((i + 1 : Nat) : Int) := by rw [wrap64] <;> omega
    have hpl := part_le hS hQ i
    rw [hwi]
    cases hq : s.Q i with
    | none =>
      refine ⟨wb, 0, rfl, _, wk_part hw2 hR, none, 0, 0, false, ⟨esP, ⟨⟨cP, hc.sub0 _ _ hp⟩, hP.key⟩, by rw [lk_va, hP.no i e hq]⟩, fun _ => ?_, fun e2 => by simp at e2⟩
      refine ⟨wb, 0, rfl, _, wk_base hw2, cPairs ((ht.sub sp.sub).sub hc.sub0) e fun a3 c3 B3 h3 hb3 hc3 => ⟨_, _, _, rfl, EncPr.row (partB s.S i), hb3.sr.src, ?_⟩⟩
      have hpw : wPart s i = partB s.S i := by unfold wPart; rw [hq]; rfl
      have hpl2 : (partB s.S i).length ≤ 48 := hpw ▸ hpl
      refine (hb.sub hc3.sub0).append (new := partB s.S i) rfl rfl rfl (by omega) fun a4 c4 B4 h4 hb4 hc4 _ => ⟨⟨i + 1, B4, rfl, by omega, ?_, ?_⟩, by omega⟩
      · rw [parts_succ, hpw]; exact hb4
      · exact (hc.trans ⟨fun b o hb e => hc3.sub0 b o e, fun b hb => .inl hb⟩).trans hc4
    | some l =>
      obtain ⟨a3, c3, hv, hsr⟩ := hP.yes i l e hq
      have hpw : wPart s i = l := by unfold wPart; rw [hq]; rfl
      have hpl2 : l.length ≤ 48 := hpw ▸ hpl
      refine ⟨wb, 0, rfl, _, wk_part hw2 hR, a3, l.length, c3, true, ⟨esP, ⟨⟨cP, hc.sub0 _ _ hp⟩, hP.key⟩, by rw [lk_va, hv]⟩, fun e2 => by simp at e2, fun _ => ⟨EncPr.row l, ((hsr.sub sp.sub).sub hc.sub0).src, ?_⟩⟩
      refine hb.append (new := l) rfl rfl rfl (by omega) fun a4 c4 B4 h4 hb4 hc4 _ => ⟨⟨i + 1, B4, rfl, by omega, ?_, hc.trans hc4⟩, by omega⟩
      rw [parts_succ, hpw]; exact hb4
  · have e : i = 16 := by have := of_decide_eq_false e; omega
    subst e
    have hb : Buf EncPr T_api_Pair B2 h2 lA lN lC (wDone s) := hb
    refine ⟨fun e2 => hno (.inr ⟨hdone, ?_⟩) h2 hc.sub0, fun e2 => cSortW hb (by have : (wDone s).length ≤ 48 * 16 := hlen; omega) fun l h3 hp3 hs3 hb3 hc3 => ?_⟩
    · have := of_decide_eq_true e2
      have hlN : lN = (wDone s).length := hlN
      omega
    · have := of_decide_eq_false e2
      have hlN : lN = (wDone s).length := hlN
      have hl3 := hp3.length_eq
      have := hyes hdone (by omega) l lA lC B2 h3 hp3 hs3 (by rw [hl3, ← hlN]; exact hb3) (hc.trans hc3)
      rw [hl3, ← hlN] at this; exact this
end TL

namespace TL
open Go Go.Proofs
variable {g h : PH} {N : List Nat} {K : Value → PH → Prop} {wb tb : Nat} {s : WS} {S T : List PrR}
theorem nd_in {c : Nat} (h1 : 1 ≤ c) (h2 : c < 16) : nd S c = shaN (innT (nd S (2 * c)) (nd S (2 * c + 1))) := by
  unfold nd; rw [node_in _ h1 h2]
theorem nd_leaf {i : Nat} (h : i < 16) : nd S (16 + i) = shaN (76 :: pageL (partB S i)) := by
  unfold nd; rw [node_leaf _ (by omega) (by omega), show 16 + i - 16 = i by omega]; rfl
theorem askP_leaf : ∀ c : Nat, c < 32 → 16 ≤ c → (askP c).1 = 4 ∧ (askP c).2 = ((c - 16 : Nat) : Int) := by decide +kernel
theorem cAnswer (x : WalkAt g N h wb s) (sp : Spl g N h) (ht : Tr tb g T) {c : Nat} (c1 : 1 ≤ c) (c2 : c < 32) (hA : s.A c = some (nd T c)) (hT : s.T.length ≤ 100000)
    (hk : ∀ g' N' h' s', WalkAt g' N' h' wb s' → Stp g N h g' N' h' → (c < 16 → s' = wIn s c (nd T (2 * c)) (nd T (2 * c + 1))) → (16 ≤ c → s' = wPg s (c - 16) (partB T (c - 16))) → K (.bool true) h') :
    CallH Tryz.prog id_law16_answer [.pointer (some ⟨wb, 0, none⟩), .pointer (some ⟨tb, 0, none⟩), .agg #[.int .i64 (askP c).1, .int .i64 (askP c).2]] K h := by
  by_cases h16 : 16 ≤ c
  · obtain ⟨e1, e2⟩ := askP_leaf c c2 h16
    obtain ⟨i, rfl⟩ : ∃ i, c = 16 + i := ⟨c - 16, by omega⟩
    have hi : i < 16 := by omega
    have ei : 16 + i - 16 = i := by omega
    rw [ei] at hk e2
    rw [e1, e2]
    refine F_law16_answer_ok ⟨fun _ => cPairs (ht.sub sp.sub) hi fun a' c' B' h1 hb1 cc1 => ⟨_, _, _, rfl, ?_⟩, fun e => by simp at e⟩
    have st1 := sp.new cc1
    have hsr : SR EncPr (PH.plus g h1 B') a' (partB T i) := (hb1.keep fun b hb o e => by rw [plus_in hb]; exact e).sr
    have x1 : WalkAt (PH.plus g h1 B') N h1 wb s := x.keep st1.gs fun q _ o e => cc1.sub0 q o e
    have hok := part_ok ht.may ht.le i
    have hpl : (partB T i).length ≤ 48 := Nat.le_trans (List.length_filter_le _ _) ht.le
    refine cWPage (l := partB T i) x1 st1.spl hsr (by omega) (fun y hy => ?_) hT (fun hn h2 _ _ => ?_) fun k g' N' h2 k16 ek _ _ x2 st2 => ⟨_, rfl, ?_⟩
    · have := (ok_len ((may_ok hok.1).1 y hy)).1
      omega
    · exact absurd (by rw [hA, nd_leaf hi]) (hn i hi rfl hok)
    · have : k = i := by omega
      subst this
      exact hk g' N' h2 _ x2 (st1.trans st2) (fun e => by omega) fun _ => rfl
  · have c16 : c < 16 := by omega
    obtain ⟨q1, q2, q3⟩ := askP_kids c c16 c1
    have e1 : (askP c).1 = ((c.log2 : Nat) : Int) := rfl
    have e2 : (askP c).2 = ((c - 2 ^ c.log2 : Nat) : Int) := rfl
    have hl4 : ¬ ((c.log2 : Nat) : Int) = 4 := by omega
    have hlt := askP_in c c2 c1
    have w1 : IntKind.wrap .i64 ((askP c).1 + 1) = ((c.log2 + 1 : Nat) : Int) := by rw [e1, wrap64] <;> omega
    have hb16 : c - 2 ^ c.log2 < 32 := by omega
    have w2 : IntKind.wrap .i64 ((2 : Int) * (askP c).2) = ((2 * (c - 2 ^ c.log2) : Nat) : Int) := by rw [e2, wrap64] <;> omega
    have w3 : IntKind.wrap .i64 (((2 * (c - 2 ^ c.log2) : Nat) : Int) + 1) = ((2 * (c - 2 ^ c.log2) + 1 : Nat) : Int) := by rw [wrap64] <;> omega
    refine F_law16_answer_ok ⟨fun e => absurd (by simpa [e1] using e) hl4, fun _ => ?_⟩
    rw [w1, w2, w3]
    refine cNode (ht.sub sp.sub) q1 (by omega) ⟨bi (nd T (2 ^ (c.log2 + 1) + 2 * (c - 2 ^ c.log2))), by rw [bi_len, nd_len], _, rfl, cNode (ht.sub sp.sub) q1 q2 ⟨bi (nd T (2 ^ (c.log2 + 1) + (2 * (c - 2 ^ c.log2) + 1))), by rw [bi_len, nd_len], _, rfl, ?_⟩⟩
    have r2 : 2 ^ (c.log2 + 1) + (2 * (c - 2 ^ c.log2) + 1) = 2 * c + 1 := by omega
    rw [q3, r2]
    refine cWNode x sp (nd_len _ _) (nd_len _ _) hT (fun hn h2 _ _ => ?_) fun k N' h2 k1 k16 ek _ x2 st2 => ⟨_, rfl, ?_⟩
    · exact absurd (by rw [hA, nd_in c1 c16]) (hn c c1 c16 rfl)
    · have : k = c := askP_inj k (by omega) c c2 k1 c1 ek
      subst this
      exact hk g N' h2 _ x2 st2 (fun _ => rfl) fun e => by omega
/-- the way to the one page -/
def pc : Nat → Nat
  | 0 => 1
  | 1 => 2
  | 2 => 4
  | 3 => 9
  | _ => 19
def onlyA (c : Nat) : Nat → Option (List UInt8) := upF (fun _ => none) c (some (nd sApp c))
theorem wAsk_yes {A : Nat → Option (List UInt8)} {d : Nat} {x : List UInt8} (h : nd S d ≠ x) : wAsk S A d x = upF A d (some x) := by unfold wAsk; rw [if_neg h]
theorem wAsk_not {A : Nat → Option (List UInt8)} {d : Nat} {x : List UInt8} (h : nd S d = x) : wAsk S A d x = A := by unfold wAsk; rw [if_pos h]
theorem on1 : nd [] 1 ≠ nd sApp 1 := by rw [nil4, app4]; decide
theorem on2 : nd [] 2 ≠ nd sApp 2 := by rw [nil3 (by omega) (by omega), app3]; decide
theorem on4 : nd [] 4 ≠ nd sApp 4 := by rw [nil2 (by omega) (by omega), app2]; decide
theorem on9 : nd [] 9 ≠ nd sApp 9 := by rw [nil1 (by omega) (by omega), app1]; decide
theorem on19 : nd [] 19 ≠ nd sApp 19 := by rw [nil0 (by omega) (by omega), app0]; decide
theorem off_app {j : Nat} (hj : j < 32) (ha : ¬ Anc j 19) : nd [] j = nd sApp j := (app_same hj ha).symm
theorem only_off (c : Nat) : upF (onlyA c) c none = fun _ => none := by
  funext d
  by_cases e : d = c
  · subst e; rw [upF_same]
  · rw [upF_ne _ _ e]; unfold onlyA; rw [upF_ne _ _ e]
theorem next_ask : ∀ j, j < 4 → wAsk [] (wAsk [] (fun _ => none) (2 * pc j) (nd sApp (2 * pc j))) (2 * pc j + 1) (nd sApp (2 * pc j + 1)) = onlyA (pc (j + 1)) := fun j hj => by
  match j, hj with
  | 0, _ => show wAsk [] (wAsk [] _ 2 (nd sApp 2)) 3 (nd sApp 3) = onlyA 2; rw [wAsk_yes on2, wAsk_not (off_app (j := 3) (by omega) (by unfold Anc; omega))]; rfl
  | 1, _ => show wAsk [] (wAsk [] _ 4 (nd sApp 4)) 5 (nd sApp 5) = onlyA 4; rw [wAsk_yes on4, wAsk_not (off_app (j := 5) (by omega) (by unfold Anc; omega))]; rfl
  | 2, _ => show wAsk [] (wAsk [] _ 8 (nd sApp 8)) 9 (nd sApp 9) = onlyA 9; rw [wAsk_not (off_app (j := 8) (by omega) (by unfold Anc; omega)), wAsk_yes on9]; rfl
  | 3, _ => show wAsk [] (wAsk [] _ 18 (nd sApp 18)) 19 (nd sApp 19) = onlyA 19; rw [wAsk_not (off_app (j := 18) (by omega) (by unfold Anc; omega)), wAsk_yes on19]; rfl
theorem pc_in : ∀ j : Nat, j < 5 → 1 ≤ pc j ∧ pc j < 32 ∧ (j < 4 → pc j < 16) ∧ (j = 4 → pc j = 19) := by decide
theorem onlyA_list {c : Nat} (hc : c < 32) : wList (onlyA c) = [c] := by
  unfold wList
  have : (fun d => (onlyA c d).isSome) = fun d => d == c := by
    funext d
    unfold onlyA
    by_cases e : d = c
    · subst e; rw [upF_same]; simp
    · rw [upF_ne _ _ e]; simp [e]
  rw [this, range_at hc, List.filter_append, List.filter_cons]
  have z1 : (List.range c).filter (fun d => d == c) = [] := List.filter_eq_nil_iff.2 fun d hd => by have := List.mem_range.1 hd; simp; omega
  have z2 : (List.range' (c + 1) (32 - c - 1)).filter (fun d => d == c) = [] := List.filter_eq_nil_iff.2 fun d hd => by have := List.mem_range'_1.1 hd; simp; omega
  rw [z1, z2]; simp
theorem app_may : mayB sApp = true := by decide +kernel
theorem app_done {s : WS} (hS : s.S = []) (hQ : s.Q = upF (fun _ => none) 3 (some sApp)) : wDone s = sApp := by
  have h1 : ∀ i, wPart s i = if i = 3 then sApp else [] := fun i => by
    unfold wPart
    rw [hQ, hS]
    by_cases e : i = 3
    · subst e; rw [upF_same]; rfl
    · rw [upF_ne _ _ e, if_neg e]; rfl
  unfold wDone
  have : wPart s = fun i => if i = 3 then sApp else [] := funext h1
  rw [this]
  decide +kernel
theorem app_page : partB sApp 3 = sApp := by
  have : bkt pApp = 3 := bkt_app
  simp [sApp, partB, this]
theorem nil_may : mayB ([] : List PrR) = true ∧ ([] : List PrR).length ≤ 48 := by decide
structure WkI (g0 : PH) (g : PH) (N : List Nat) (h : PH) (wb : Nat) (s : WS) (j : Nat) : Prop where
  x : WalkAt g N h wb s
  st : Stp g0 [] g0 g N h
  S : s.S = []
  R : s.R = nd sApp 1
  t : s.T.length ≤ 31 + j
  a : (j < 5 ∧ s.Q = (fun _ => none) ∧ s.A = onlyA (pc j)) ∨ (j = 5 ∧ s.A = (fun _ => none) ∧ s.Q = upF (fun _ => none) 3 (some sApp))
theorem wki0 {g0 : PH} (x : WalkAt g N h wb (wNew [] (nd sApp 1))) (st : Stp g0 [] g0 g N h) : WkI g0 g N h wb (wNew [] (nd sApp 1)) 0 := by
  refine { x := x, st := st, S := ?_, R := ?_, t := ?_, a := .inl ⟨Nat.zero_lt_succ 4, ?_, ?_⟩ }
  · unfold wNew; dsimp only
  · unfold wNew; dsimp only
  · exact Nat.le_of_eq (texts_len [])
  · unfold wNew; dsimp only
  · unfold wNew; dsimp only; exact wAsk_yes on1
theorem cWakes16 (hk : ∀ h', h.Sub h' → K (.bool true) h') : CallH Tryz.prog id_law16_wakes [] K h := by
  refine F_law16_wakes_ok (nwL (cs := EncPr.row sApp) fun b0 h1 _ hb0 c1 => ?_)
  have hsr : SR EncPr h1 (some ⟨b0, 0, none⟩) sApp := .inr ⟨b0, 0, rfl, rdsL hb0 rfl rfl⟩
  refine cOfT (l := sApp) hsr app_may (by decide) fun tb h2 ht _ c2 => ⟨_, _, rfl, fun e => by simp at e, fun _ => ?_⟩
  refine cRoot ht ⟨bi (nd sApp 1), by rw [bi_len, nd_len], rfl, ?_⟩
  refine cWNew (Spl.start h2) (l := []) (.inl rfl) (by decide) (fun _ h => by cases h) (R := nd sApp 1) (nd_len _ _) (fun hn => absurd nil_may hn) fun _ _ wb N3 g3 h3 x3 st3 _ => ?_
  refine ⟨some ⟨wb, 0, none⟩, 0, rfl, fun e => ?_, fun _ => ?_⟩
  · simp at e
  rw [List.append_nil] at st3
  refine LoopP.ind (fun (z : Int × Unit) h' => ∃ (j : Nat) (g' : PH) (N' : List Nat) (s : WS), z.1 = j ∧ j ≤ 5 ∧ WkI h2 g' N' h' wb s j) (fun z _ => (5 - z.1).toNat) ?_ ⟨0, g3, N3, wNew [] (nd sApp 1), rfl, Nat.zero_le _, wki0 x3 st3⟩
  rintro ⟨zj, u⟩ h4 ⟨j, g4, N4, s, hzj, hj, I⟩
  dsimp only at hzj
  subst hzj
  dsimp only
  have h0 : s.A 0 = none := by
    rcases I.a with ⟨hj5, _, hA⟩ | ⟨_, hA, _⟩
    · have := (pc_in j hj5).1
      rw [hA]; unfold onlyA; rw [upF_ne _ _ (by omega)]
    · rw [hA]
  refine cWWant I.x h0 fun aA aC h5 s5 hsr5 => ⟨_, _, _, rfl, fun e => ?_, fun e => ?_⟩
  · -- all is there
    have hj5 : j = 5 := by
      rcases I.a with ⟨hj5, _, hA⟩ | ⟨h, _, _⟩
      · exfalso
        rw [hA, onlyA_list (pc_in j hj5).2.1] at e
        simp at e
        omega
      · exact h
    subst hj5
    obtain ⟨_, hA, hQ⟩ : 5 = 5 ∧ s.A = (fun _ => none) ∧ s.Q = upF (fun _ => none) 3 (some sApp) := by
      rcases I.a with ⟨h, _⟩ | h
      · omega
      · exact h
    have hD := app_done I.S hQ
    have x5 : WalkAt g4 N4 h5 wb s := I.x.keep (PH.Sub.rf _) fun q _ o e => s5 q o e
    have st5 := I.st.spl.grow s5
    refine cWDone x5 st5.spl (fun i l hl => ?_) (fun hh => ?_) fun _ _ l a' c' B' h6 hp hs hb hc => ?_
    · rw [hQ] at hl
      by_cases e3 : i = 3
      · subst e3; rw [upF_same] at hl; cases hl; decide
      · rw [upF_ne _ _ e3] at hl; cases hl
    · exfalso
      rcases hh with ⟨k, _, _, hk⟩ | ⟨_, hh⟩
      · rw [hA] at hk; cases hk
      · rw [hD] at hh; exact absurd hh (by decide)
    · rw [hD] at hp
      have hl : l = sApp := List.perm_singleton.1 hp
      subst hl
      obtain ⟨bb, oo, hA6, hr6⟩ := hb.sr.get (i := 0) (by decide)
      refine ⟨_, _, _, _, rfl, bb, oo, fun _ => ⟨hA6, by decide, by decide⟩, mk [49], fun _ => hr6 _ 1 1 rfl (by decide), fun _ => ?_, fun e => by exfalso; revert e; decide⟩
      have x6 : WalkAt g4 N4 h6 wb s := x5.keep (PH.Sub.rf _) fun q _ o e => hc.sub0 q o e
      have s26 : h2.Sub h6 := I.st.gh.tr (s5.tr hc.sub0)
      refine cWRoot x6 ⟨bi s.R, by rw [bi_len, I.R, nd_len], rfl, cRoot (ht.sub s26) ⟨bi (nd sApp 1), by rw [bi_len, nd_len], rfl, ?_⟩⟩
      rw [I.R, beq_self_eq_true]
      exact hk h6 ((c1.sub0.tr c2.sub0).tr s26)
  · -- one more
    have hj5 : j < 5 := by
      rcases I.a with ⟨h, _⟩ | ⟨_, hA, _⟩
      · exact h
      · exfalso
        have : wList s.A = [] := List.filter_eq_nil_iff.2 fun d _ => by rw [hA]; simp
        rw [this] at e
        simp at e
    obtain ⟨_, hQ, hA⟩ : j < 5 ∧ s.Q = (fun _ => none) ∧ s.A = onlyA (pc j) := by
      rcases I.a with h | ⟨h, _⟩
      · exact h
      · omega
    obtain ⟨p1, p2, p3, p4⟩ := pc_in j hj5
    have hrow : ((wList s.A).map askP).take (1 : Int).toNat = [askP (pc j)] := by rw [hA, onlyA_list p2]; rfl
    rw [hrow] at hsr5 ⊢
    obtain ⟨bb, oo, hA5, hr5⟩ := hsr5.get (i := 0) (by simp)
    have x5 : WalkAt g4 N4 h5 wb s := I.x.keep (PH.Sub.rf _) fun q _ o e => s5 q o e
    have st5 := I.st.trans (I.st.spl.grow s5)
    refine ⟨bb, oo, ⟨hA5, by decide, by simp⟩, (askP (pc j)).1, (askP (pc j)).2, hr5 _ 0 2 rfl (by decide), ?_⟩
    have ht' := I.t
    refine cAnswer x5 st5.spl (ht.sub st5.gs) p1 p2 (by rw [hA]; unfold onlyA; rw [upF_same]) (by omega) fun g6 N6 h6 s6 x6 st6 e1 e2 => ⟨_, rfl, ?_⟩
    have hw : IntKind.wrap .i64 (((j : Nat) : Int) + (1 : Int)) = ((j + 1 : Nat) : Int) := by rw [wrap64] <;> omega
    rw [hw]
    refine ⟨⟨j + 1, g6, N6, s6, rfl, by omega, x6, st5.trans st6, ?_, ?_, ?_, ?_⟩, by omega⟩
    all_goals rcases Nat.lt_or_ge (pc j) 16 with h16 | h16
    · rw [e1 h16]; exact I.S
    · rw [e2 h16]; exact I.S
    · rw [e1 h16]; exact I.R
    · rw [e2 h16]; exact I.R
    · rw [e1 h16]; show (s.T ++ [_]).length ≤ _; rw [List.length_append]; simp; omega
    · rw [e2 h16]; show (s.T ++ [_]).length ≤ _; rw [List.length_append]; simp; omega
    · have hj4 : j < 4 := by
        rcases Nat.lt_or_ge j 4 with h | h
        · exact h
        · have := p4 (by omega); omega
      refine .inl ⟨by omega, by rw [e1 h16]; exact hQ, ?_⟩
      rw [e1 h16]
      show wAsk s.S (wAsk s.S (upF s.A (pc j) none) (2 * pc j) (nd sApp (2 * pc j))) (2 * pc j + 1) (nd sApp (2 * pc j + 1)) = _
      rw [I.S, hA, only_off]
      exact next_ask j hj4
    · have hj4 : j = 4 := by
        rcases Nat.lt_or_ge j 4 with h | h
        · have := p3 h; omega
        · omega
      subst hj4
      refine .inr ⟨rfl, ?_, ?_⟩
      · rw [e2 h16]
        show upF s.A (16 + (pc 4 - 16)) none = _
        rw [hA]; exact only_off 19
      · rw [e2 h16]
        show upF s.Q (pc 4 - 16) (some (partB sApp (pc 4 - 16))) = _
        rw [hQ]
        show upF _ 3 (some (partB sApp 3)) = _
        rw [app_page]
end TL
