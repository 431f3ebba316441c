/-
  The laws of layer omap without the document's answer, on the level of the texts. No condition.
-/
import Derived.Test.YtgibhmeaikodjaaOmap
namespace TL
open Go Go.Proofs Go.Shelf
variable {B : List Nat} {h : PH} {K : Value → PH → Prop} {x : Option Addr} {S : List PrR}
variable {rA lA oA : Option Addr} {rC lC oC : Nat} {rows : List OsR} {ms : List Mt} {ops : List OpR}

theorem wk {h1 : PH} (s : h.Sub h1) (hk : ∀ h', h.Sub h' → K (.bool true) h') : CallH Try.prog id_law13_wakes [] (fun v h2 => ∃ t : Bool, v = .bool t ∧ K (.bool t) h2) h1 :=
  cWakes fun h' s' => ⟨_, rfl, hk h' (s.tr s')⟩
theorem wk0 (hk : ∀ h', h.Sub h' → K (.bool true) h') : CallH Try.prog id_law13_wakes [] (fun v h2 => ∃ t : Bool, v = .bool t ∧ K (.bool t) h2) h := wk (fun _ _ e => e) hk
theorem subC (B : List Nat) {h g : PH} (s : h.Sub g) : Chg B B h g := ⟨fun b o _ e => s b o e, fun _ hb => .inl hb⟩
/-- rows' operations -/
theorem rowOps (hg : gRows rows = false) (hs : ∀ r ∈ rows, SR EncOp h r.a r.ops) {i : Nat} (hi : i < rows.length) : SR EncOp h rows[i].a rows[i].ops ∧ rows[i].ops.length ≤ 1000000 ∧ ∀ o ∈ rows[i].ops, o.p.length ≤ 4611686018427387904 := by
  obtain ⟨_, h2⟩ := gRows_no hg
  obtain ⟨h3, h4⟩ := gOps_no (h2 _ (List.getElem_mem hi))
  exact ⟨hs _ (List.getElem_mem hi), by omega, fun o ho => by have := (h4 o ho).1; omega⟩
theorem chgT {B C : List Nat} {h g k : PH} (c : Chg [] B h g) (d : Chg B C g k) : Chg [] C h k := c.trans d

/-! ### OmapNobody -/
theorem cListNil {p : List UInt8} (hk : ∀ h', h.Sub h' → K (.slice none 0 0) h') : CallH Try.prog id_omap_Map_List [.pointer none, .string (mk p)] K h := by
  refine F_omap_Map_List_ok (nwL (cs := [.string (mk p)]) fun bp h1 hb hb1 c1 => cPathsNil ⟨_, _, _, rfl, ?_⟩)
  have := cDeleteFuncS (T := 9) (B := []) (a := none) (c := 0) (l := []) (f := .func (.func 41) #[] #[.pointer (some ⟨bp, 0, none⟩)]) (q := fun x => !(hasPre p x)) (h := h1) (K := ?K) rfl (Buf.nil _ _ _ _) (by decide) (Pk := fun g => g bp = some (.cells [.string (mk p)].toArray 9 (0, 0))) hb1 (fun g g' hg' hc' => hc'.keep hg' (by simp)) (fun g y K' hg' hk' => cListF hg' hk') ?hk
  · exact this
  · intro h' _ c'
    exact ⟨_, _, _, rfl, hk h' (c1.sub0.tr c'.sub0)⟩
theorem cLenNil (hk : K (.int .i64 0) h) : CallH Try.prog id_omap_Map_Len [.pointer none] K h := F_omap_Map_Len_ok (cPathsNil ⟨_, _, _, rfl, hk⟩)
theorem OmapNobody_den {p : List UInt8} (hl : SR EncOp h oA ops) (hk : ∀ h', h.Sub h' → K (.bool true) h') : CallH Try.prog id_law13_OmapNobody [.slice oA ops.length oC, .string (mk p)] K h := by
  refine F_law13_OmapNobody_ok (cGreatOps hl ⟨_, rfl, fun _ => wk0 hk, fun _ => ?_⟩)
  refine F_omap_Map_Get_ok ⟨fun _ => ⟨_, _, rfl, cDoNil ⟨_, rfl, fun _ => ?_, fun e => absurd e (by decide)⟩⟩, nofun⟩
  refine cListNil fun h1 s1 => ⟨_, _, _, rfl, fun _ => cAllNil ⟨_, _, _, rfl, fun _ => cLenNil ⟨_, rfl, fun _ => F_omap_Map_Twin_ok ⟨fun _ => ⟨_, rfl, fun _ => ?_, nofun⟩, nofun⟩, fun e => absurd e (by decide)⟩, fun e => absurd e (by decide)⟩, fun e => absurd e (by decide)⟩
  refine cTwo fun bt h2 ht s2 => ⟨_, _, _, rfl, cFilterNil fun y B3 h3 y3 c3 => ⟨_, rfl, cLen y3 gd0 fun h4 s4 => ⟨_, rfl, fun _ => ?_, fun e => absurd e (by decide)⟩⟩⟩
  refine cNewO fun z B5 h5 z5 c5 => ⟨_, rfl, F_omap_Same_ok (cAllNil ⟨_, _, _, rfl, cAll z5 gd0 fun a c B6 h6 b6 c6 => ⟨_, _, _, rfl, cEqPrs (l := []) (m2 := []) (aC := 0) (.inl rfl) (.inl rfl) (by decide) ⟨_, rfl, ⟨_, rfl, fun _ => ?_, fun e => absurd e (by decide)⟩⟩⟩⟩)⟩
  exact wk ((((s1.tr s2).tr c3.sub0).tr s4).tr (c5.sub0.tr c6.sub0)) hk

/-! ### OmapShips -/
theorem look_ship (ms : List Mt) (S : List PrR) (q : List UInt8) : look (shipS ms S) q = if shipsB ms q = true then look S q else none := by
  induction S with
  | nil => simp [shipS, look]
  | cons x r ih =>
    unfold shipS at ih ⊢
    rw [List.filter_cons]
    split
    · rename_i h
      rw [look, look, ih]
      by_cases e : x.p = q
      · rw [if_pos e, if_pos e, ← e, if_pos h]
      · rw [if_neg e, if_neg e]
    · rename_i h
      rw [ih, look]
      by_cases e : x.p = q
      · rw [← e, if_neg h, if_neg h]
      · rw [if_neg e]
theorem Up.ship (hu : Up S) (ms : List Mt) : Up (shipS ms S) := hu.sublist List.filter_sublist
theorem ship_idem (ms : List Mt) (S : List PrR) : shipS ms (shipS ms S) = shipS ms S := by
  unfold shipS; rw [List.filter_filter]; simp
theorem ship_do (hu : Up S) : ∀ ops : List OpR, doOps (shipS ms S) (ops.filter fun o => shipsB ms o.p) = shipS ms (doOps S ops) := fun ops => by
  unfold doOps
  induction ops generalizing S with
  | nil => rfl
  | cons o r ih =>
    rw [List.filter_cons, List.foldl_cons]
    have hu2 : Up (if o.k = 2 then del S o.p else ins S o.p o.v) := by
      split
      · exact hu.del _
      · exact hu.ins _ _
    rw [← ih hu2]
    split
    · rename_i hs
      rw [List.foldl_cons]
      congr 1
      split
      · refine Up.ext ((hu.ship ms).del _) ((hu.del _).ship ms) fun q => ?_
        rw [look_del, look_ship, look_ship, look_del]
        split <;> split <;> rfl
      · refine Up.ext ((hu.ship ms).ins _ _) ((hu.ins _ _).ship ms) fun q => ?_
        rw [look_ins, look_ship, look_ship, look_ins]
        split
        · rename_i e; rw [← e, if_pos hs]
        · rfl
    · rename_i hs
      congr 1
      refine Up.ext (hu.ship ms) (hu2.ship ms) fun q => ?_
      rw [look_ship, look_ship]
      split
      · rename_i hq
        have hne : ¬ o.p = q := fun e => hs (by rw [e]; exact hq)
        split
        · rw [look_del, if_neg hne]
        · rw [look_ins, if_neg hne]
      · rfl
theorem rightE_filter {ops : List OpR} (q : OpR → Bool) (h : rightE 1 1 ops = 0) : rightE 1 1 (ops.filter q) = 0 := by
  have h1 : ops.length ≤ 4 := (right_zero h).1
  have h2 : ∀ o ∈ ops, oe o = 0 := by
    unfold rightE at h
    rw [if_neg (by omega), if_neg (by omega)] at h
    exact eachE_zero h
  unfold rightE
  rw [if_neg (by omega), if_neg (by have := List.length_filter_le q ops; omega)]
  refine eachE_all fun j hj => h2 _ ?_
  exact (List.mem_filter.1 (List.getElem_mem hj)).1
theorem doE_zero {ops : List OpR} : doE S ops = 0 ↔ rightE 1 1 ops = 0 ∧ (doOps S ops).length ≤ 48 := by
  unfold doE
  split
  · rename_i h; exact ⟨fun e => absurd e h, fun e => absurd e.1 h⟩
  · rename_i h
    have h : rightE 1 1 ops = 0 := Classical.byContradiction h
    split
    · rename_i h2; exact ⟨fun e => (by cases e), fun e => by omega⟩
    · rename_i h2; exact ⟨fun _ => ⟨h, by omega⟩, fun _ => rfl⟩
theorem cShipped (hl : SR EncMt h lA ms) (hn : ms.length ≤ 1000000) (ho : SR EncOp h oA ops) (hon : ops.length ≤ 1000) (hp : ∀ o ∈ ops, o.p.length ≤ 4611686018427387904)
    (hk : ∀ a c B' h', Buf EncOp T_api_Op B' h' a (ops.filter fun o => shipsB ms o.p).length c (ops.filter fun o => shipsB ms o.p) → Chg [] B' h h' → K (.slice a (ops.filter fun o => shipsB ms o.p).length c) h') :
    CallH Try.prog id_law13_shipped [.slice lA ms.length lC, .slice oA ops.length oC] K h := by
  refine F_law13_shipped_ok (LoopP.ind (fun (z : (Option Addr × Nat × Nat) × Int × Unit) h' => ∃ (i : Nat) (aA : Option Addr) (aN aC : Nat) (B' : List Nat), z = ((aA, aN, aC), (i : Int), ()) ∧ i ≤ ops.length ∧ Buf EncOp T_api_Op B' h' aA aN aC ((ops.take i).filter fun o => shipsB ms o.p) ∧ Chg [] B' h h') (fun z _ => (ops.length - z.2.1).toNat) ?_
    ⟨0, none, 0, 0, [], rfl, Nat.zero_le _, Buf.nil _ _ _ _, Chg.refl _ _⟩)
  rintro _ h1 ⟨i, aA, aN, aC, B1, rfl, hi, hb1, c1⟩
  dsimp only
  have hbn := hb1.1
  have hfl : ((ops.take i).filter fun o => shipsB ms o.p).length ≤ i := Nat.le_trans (List.length_filter_le _ _) (by rw [List.length_take]; omega)
  refine ⟨fun e => ?_, fun e => ?_⟩
  · have e : i < ops.length := by simpa using e
    obtain ⟨b, o, hA, hr⟩ := (ho.sub c1.sub0).get e
    have htk : ∀ (q : Bool), shipsB ms ops[i].p = q → (ops.take (i + 1)).filter (fun o => shipsB ms o.p) = (ops.take i).filter (fun o => shipsB ms o.p) ++ if q then [ops[i]] else [] := fun q hq => by
      rw [List.take_succ_eq_append_getElem e, List.filter_append]
      cases q <;> simp [hq]
    refine ⟨b, o, ⟨hA, by omega, by omega⟩, mk ops[i].p, hr _ 1 1 (by simp [EncOp]) (by decide), cShips (hl.sub c1.sub0) hn (hp _ (List.getElem_mem e)) fun h2 s2 => ⟨_, rfl, fun e2 => ?_, fun e2 => ?_⟩⟩
    · obtain ⟨b', o', hA', hr'⟩ := (ho.sub (c1.sub0.tr s2)).get e
      refine ⟨b', o', ⟨hA', by omega, by omega⟩, ops[i].k, mk ops[i].p, mk ops[i].v, hr' _ 0 3 (by simp [EncOp]) (by decide), ?_⟩
      refine (hb1.sub s2).append (new := [ops[i]]) rfl rfl rfl (by omega) fun a' c' B' h' hb' hc' _ => ?_
      rw [wrap64 (n := (i : Int) + 1) (by omega) (by omega)]
      refine ⟨⟨i + 1, a', aN + 1, c', B', rfl, by omega, ?_, c1.trans ((subC B1 s2).trans hc')⟩, by omega⟩
      rw [htk true e2]; exact hb'
    · rw [wrap64 (n := (i : Int) + 1) (by omega) (by omega)]
      refine ⟨⟨i + 1, aA, aN, aC, B1, rfl, by omega, ?_, c1.trans (subC B1 s2)⟩, by omega⟩
      rw [htk false e2]; simpa using hb1.sub s2
  · have e : i = ops.length := by simp at e; omega
    subst e
    rw [List.take_length] at hb1 hbn
    rw [hbn] at hb1 ⊢
    exact hk aA aC B1 h1 hb1 c1
theorem OmapShips_den (hr : SR EncOs h rA rows) (hs : ∀ r ∈ rows, SR EncOp h r.a r.ops) (hl : SR EncMt h lA ms) (hk : ∀ h', h.Sub h' → K (.bool true) h') : CallH Try.prog id_law13_OmapShips [.slice rA rows.length rC, .slice lA ms.length lC] K h := by
  refine F_law13_OmapShips_ok ⟨fun _ h' => h' = h ∧ gRows rows = false ∧ ms.length ≤ 100 ∧ ∀ x ∈ ms, x.s.length ≤ 1000, cGreatO hr hs ⟨_, rfl, fun eg => cGreat1 hl fun b hb => ⟨_, rfl, fun _ => wk0 hk, fun e => ⟨rfl, eg, hb e⟩⟩, fun _ => wk0 hk⟩, ?_⟩
  rintro _ hh ⟨rfl, eg, hm100, hms⟩
  have hrl := (gRows_no eg).1
  refine cNewO fun m B1 h1 m1 c1 => ⟨_, rfl, cNewO fun f B2 h2 f2 c2 => ⟨_, rfl, ?_⟩⟩
  refine LoopP.ind (fun (z : Int × Unit) h' => ∃ (i : Nat) (B1 B2 : List Nat) (S : List PrR), z.1 = (i : Int) ∧ i ≤ rows.length ∧ OmAt B1 h' m S ∧ OmAt B2 h' f (shipS ms S) ∧ Gd S ∧ Dj B1 B2 ∧ Chg [] (B1 ++ B2) hh h') (fun z _ => (rows.length - z.1).toNat) ?_
    ⟨0, B1, B2, [], rfl, Nat.zero_le _, m1.chg c2 (Dj.nil _), f2, gd0, c2.dj (Dj.nil _) m1.has, ⟨fun b o _ e => c2.sub0 b o (c1.sub0 b o e), fun b hb => ?_⟩⟩
  · rintro ⟨_, u⟩ h3 ⟨i, B1, B2, S, rfl, hi, m3, f3, hg, dj, c3⟩
    dsimp only
    have hu := m3.up
    refine ⟨fun e => ?_, fun e => ?_⟩
    · have e : i < rows.length := by simpa using e
      obtain ⟨b, o, hA, hrd⟩ := (hr.sub c3.sub0).get e
      obtain ⟨q1, q2, q3⟩ := rowOps (h := h3) eg (fun r hr => (hs r hr).sub c3.sub0) e
      refine ⟨b, o, ⟨hA, by omega, by omega⟩, rows[i].a, rows[i].ops.length, rows[i].c, hrd _ 0 1 (by simp [EncOs]) (by decide), cDo m3 q1 q2 q3 fun B4 h4 m4 c4 => ⟨_, rfl, fun e2 => ?_, fun e2 => ?_⟩⟩
      · have hE : doE S rows[i].ops ≠ 0 := fun h => by rw [h] at e2; simp at e2
        have hS : doS S rows[i].ops = S := by unfold doS; rw [if_neg hE]
        rw [hS] at m4
        rw [wrap64 (n := (i : Int) + 1) (by omega) (by omega)]
        have dj4 : Dj B2 B4 := c4.dj dj.symm f3.has
        exact ⟨⟨i + 1, B4, B2, S, rfl, by omega, m4, f3.chg c4 dj.symm, hg, dj4.symm, c3.trans c4.left⟩, by omega⟩
      · have hE : doE S rows[i].ops = 0 := by
          have : ((doE S rows[i].ops : Nat) : Int) = 0 := by simpa using e2
          omega
        have dj4 : Dj B2 B4 := c4.dj dj.symm f3.has
        have f4 := f3.chg c4 dj.symm
        have c34 := c3.trans (c4.left (C := B2))
        obtain ⟨z1, z2⟩ := doE_zero.1 hE
        have hS : doS S rows[i].ops = doOps S rows[i].ops := by unfold doS; rw [if_pos hE]
        have hg4 := hg.do rows[i].ops
        obtain ⟨b', o', hA', hrd'⟩ := (hr.sub c34.sub0).get e
        obtain ⟨q1', _, _⟩ := rowOps (h := h4) eg (fun r hr => (hs r hr).sub c34.sub0) e
        refine ⟨b', o', ⟨hA', by omega, by omega⟩, rows[i].a, rows[i].ops.length, rows[i].c, hrd' _ 0 1 (by simp [EncOs]) (by decide), cShipped (hl.sub c34.sub0) (by omega) q1' (by have := (right_zero z1).1; omega) q3 fun a5 k5 B5 h5 b5 c5 => ⟨_, _, _, rfl, ?_⟩⟩
        have f5 := f4.chg c5 (Dj.nil _)
        have m5 := m4.chg c5 (Dj.nil _)
        have hship := ship_do (ms := ms) hu rows[i].ops
        have hFE : doE (shipS ms S) (rows[i].ops.filter fun o => shipsB ms o.p) = 0 := doE_zero.2 ⟨rightE_filter _ z1, by rw [hship]; exact Nat.le_trans (List.length_filter_le _ _) z2⟩
        have hFS : doS (shipS ms S) (rows[i].ops.filter fun o => shipsB ms o.p) = shipS ms (doOps S rows[i].ops) := by unfold doS; rw [if_pos hFE, hship]
        refine cDo f5 b5.sr (by have := List.length_filter_le (fun o => shipsB ms o.p) rows[i].ops; omega) (fun o ho => q3 o (List.mem_filter.1 ho).1) fun B6 h6 f6 c6 => ⟨_, rfl, fun _ => ?_, fun e3 => by rw [hFE] at e3; simp at e3⟩
        rw [hFS] at f6
        rw [hS] at m5 hg4
        have m6 := m5.chg c6 dj4.symm
        have c46 : Chg (B4 ++ B2) (B4 ++ B6) h4 h6 := by
          have c45 : Chg (B4 ++ B2) (B4 ++ B2) h4 h5 := ⟨fun b o _ e => c5.sub0 b o e, fun b hb => .inl hb⟩
          exact c45.trans c6.right
        have c36 := c34.trans c46
        refine cFilterO m6 hg4 (hl.sub c36.sub0) (by omega) fun y B7 h7 y7 c7 => ⟨_, rfl, ?_⟩
        have f7 := f6.chg c7 (Dj.nil _)
        refine cSameO y7 (hg4.ship ms) f7 (hg4.ship ms) fun h8 s8 => ⟨_, rfl, fun e3 => by simp at e3, fun _ => ?_⟩
        rw [wrap64 (n := (i : Int) + 1) (by omega) (by omega)]
        have dj6 : Dj B4 B6 := c6.dj dj4.symm m5.has
        exact ⟨⟨i + 1, B4, B6, _, rfl, by omega, (m6.chg c7 (Dj.nil _)).sub s8, f7.sub s8, hg4, dj6, ⟨fun b o _ e => s8 b o (c7.sub0 b o (c36.sub0 b o e)), c36.2⟩⟩, by omega⟩
    · refine cFilterO f3 (hg.ship ms) (hl.sub c3.sub0) (by omega) fun y B4 h4 y4 c4 => ⟨_, rfl, ?_⟩
      rw [ship_idem] at y4
      refine cSameO y4 (hg.ship ms) (f3.chg c4 (Dj.nil _)) (hg.ship ms) fun h5 s5 => ⟨_, rfl, fun _ => wk (c3.sub0.tr (c4.sub0.tr s5)) hk, fun e => by simp at e⟩
  · rcases List.mem_append.1 hb with hb | hb
    · exact .inr ((c1.2 b hb).resolve_left (by simp))
    · refine .inr ?_
      have := (c2.2 b hb).resolve_left (by simp)
      cases hx : hh b with
      | none => rfl
      | some o => rw [c1.sub0 b o hx] at this; cases this

/-! ### OmapWhole -/
theorem ofL_up : ∀ {r T : List PrR}, Up (T ++ r) → (∀ x ∈ r, cutB x.p ≠ none ∧ x.v.length ≤ 32) → ofL r T = (0, T ++ r)
  | [], T, _, _ => by simp [ofL]
  | x :: r, T, hu, hq => by
    obtain ⟨q1, q2⟩ := hq x List.mem_cons_self
    have hlt : ∀ y ∈ T, y.p < x.p := fun y hy => (List.pairwise_append.1 hu).2.2 y hy x List.mem_cons_self
    have hno : look T x.p = none := look_none.2 fun y hy e => by have := hlt y hy; rw [e] at this; exact List.lt_irrefl _ this
    unfold ofL
    rw [if_neg (by rintro (h | h); exact q1 h; omega), if_neg (by simp [hno]), ins_last hlt]
    have : T ++ x :: r = (T ++ [x]) ++ r := by simp
    rw [this] at hu ⊢
    exact ofL_up hu fun y hy => hq y (List.mem_cons_of_mem _ hy)
theorem ofV_self (hu : Up S) (hg : Gd S) : ofV S = (0, S) := by
  unfold ofV
  rw [if_neg (by have := hg.1; omega)]
  exact ofL_up (T := []) hu hg.2
theorem doRows (hr : SR EncOs h rA rows) (hs : ∀ r ∈ rows, SR EncOp h r.a r.ops) (eg : gRows rows = false) {i : Nat} (e : i < rows.length) {h3 : PH} (s3 : h.Sub h3) (m3 : OmAt B h3 x S)
    (hk : ∀ B' h', OmAt B' h' x (doS S rows[i].ops) → Chg B B' h3 h' → K (.int .i64 (doE S rows[i].ops : Int)) h') : ∃ bv ov : Nat, (rA = some ⟨bv, ov, none⟩ ∧ 0 ≤ (i : Int) ∧ (i : Int) < (rows.length : Nat)) ∧
      ∃ (tA : Option Addr) (tN tC : Nat), (h3.rds bv (ov + (i : Int).toNat * 1) 1 = some [.slice tA tN tC]) ∧ CallH Try.prog id_omap_Map_Do [.pointer x, .slice tA tN tC] K h3 := by
  obtain ⟨b, o, hA, hrd⟩ := (hr.sub s3).get e
  obtain ⟨q1, q2, q3⟩ := rowOps (h := h3) eg (fun r hr => (hs r hr).sub s3) e
  exact ⟨b, o, ⟨hA, by omega, by omega⟩, rows[i].a, rows[i].ops.length, rows[i].c, hrd _ 0 1 (by simp [EncOs]) (by decide), cDo m3 q1 q2 q3 hk⟩
theorem OmapWhole_den (hr : SR EncOs h rA rows) (hs : ∀ r ∈ rows, SR EncOp h r.a r.ops) (hl : SR EncOp h oA ops) (hk : ∀ h', h.Sub h' → K (.bool true) h') : CallH Try.prog id_law13_OmapWhole [.slice rA rows.length rC, .slice oA ops.length oC] K h := by
  refine F_law13_OmapWhole_ok ⟨fun _ h' => h' = h ∧ gRows rows = false ∧ gOps ops = false, cGreatO hr hs ⟨_, rfl, fun eg => cGreatOps hl ⟨_, rfl, fun _ => wk0 hk, fun e => ⟨rfl, eg, e⟩⟩, fun _ => wk0 hk⟩, ?_⟩
  rintro _ hh ⟨rfl, eg, eo⟩
  have hrl := (gRows_no eg).1
  obtain ⟨on, op⟩ := gOps_no eo
  have op : ∀ o ∈ ops, o.p.length ≤ 4611686018427387904 := fun o ho => by have := (op o ho).1; omega
  refine cNewO fun m B1 h1 m1 c1 => ⟨_, rfl, ?_⟩
  refine LoopP.ind (fun (z : Int × Unit) h' => ∃ (i : Nat) (B1 : List Nat) (S : List PrR), z.1 = (i : Int) ∧ i ≤ rows.length ∧ OmAt B1 h' m S ∧ Gd S ∧ Chg [] B1 hh h') (fun z _ => (rows.length - z.1).toNat) ?_ ⟨0, B1, [], rfl, Nat.zero_le _, m1, gd0, c1⟩
  rintro ⟨_, u⟩ h3 ⟨i, B1, S, rfl, hi, m3, hg, c3⟩
  dsimp only
  have hu := m3.up
  refine ⟨fun e => ?_, fun e => ?_⟩
  · have e : i < rows.length := by simpa using e
    refine doRows hr hs eg e c3.sub0 m3 fun B4 h4 m4 c4 => ⟨_, rfl, ?_⟩
    rw [wrap64 (n := (i : Int) + 1) (by omega) (by omega)]
    exact ⟨⟨i + 1, B4, _, rfl, by omega, m4, hg.do _, c3.trans c4⟩, by omega⟩
  · refine cTwin m3 fun t B4 h4 t4 c4 => ⟨_, rfl, cAll (m3.chg c4 (Dj.nil _)) hg fun a5 k5 B5 h5 b5 c5 => ⟨_, _, _, rfl, ?_⟩⟩
    have m4 := m3.chg c4 (Dj.nil _)
    have m5 := m4.chg c5 (Dj.nil _)
    have t5 := t4.chg c5 (Dj.nil _)
    have dj4 : Dj B1 B4 := c4.dj (Dj.nil _) m3.has
    have hof := ofV_self hu hg
    refine cOfO b5.sr (fun x hx => by have := cutB_len (hg.2 x hx).1; omega) (fun _ w B6 h6 w6 c6 => ⟨_, _, rfl, ?_⟩) (fun e2 => by rw [hof] at e2; exact absurd rfl e2)
    rw [hof] at w6
    have m6 := m5.chg c6 (Dj.nil _)
    have t6 := t5.chg c6 (Dj.nil _)
    have d16 : Dj B1 B6 := c6.dj (Dj.nil _) m5.has
    have d46 : Dj B4 B6 := c6.dj (Dj.nil _) t5.has
    refine ⟨fun _ h' => h6.Sub h', ⟨fun _ => cSameO m6 hg w6 hg fun h7 s7 => ⟨_, rfl, fun e2 => by simp at e2, fun _ => s7⟩, fun e2 => by simp at e2⟩, ?_⟩
    intro _ h7 s7
    have m7 := m6.sub s7
    have t7 := t6.sub s7
    have w7 := w6.sub s7
    have s37 : hh.Sub h7 := c3.sub0.tr (c4.sub0.tr (c5.sub0.tr (c6.sub0.tr s7)))
    refine cDo m7 (hl.sub s37) (by omega) op fun B8 h8 m8 c8 => ⟨_, rfl, ?_⟩
    have hnew : ∀ b ∈ B1, hh b = none := fun b hb => (c3.2 b hb).resolve_left (by simp)
    have s38 : hh.Sub h8 := fun b o hb => c8.keep (s37 b o hb) fun hm => by rw [hnew b hm] at hb; cases hb
    have t8 := t7.chg c8 dj4.symm
    have w8 := w7.chg c8 d16.symm
    have hg8 := hg.do ops
    refine ⟨fun _ h' => h8.Sub h', ⟨fun e2 => ?_, fun _ => fun _ _ e => e⟩, ?_⟩
    · have hE : doE S ops ≠ 0 := fun h => by rw [h] at e2; simp at e2
      have hS : doS S ops = S := by unfold doS; rw [if_neg hE]
      refine cSameO m8 hg8 t8 hg fun h9 s9 => ⟨_, rfl, fun e3 => by rw [hS] at e3; simp at e3, fun _ => s9⟩
    · intro _ h9 s9
      refine cDo (w8.sub s9) (hl.sub (s38.tr s9)) (by omega) op fun B10 h10 w10 c10 => ⟨_, rfl, fun _ => ?_, fun e => by simp at e⟩
      have d8 : Dj B6 B8 := c8.dj d16.symm w7.has
      have m10 := (m8.sub s9).chg c10 d8.symm
      have t10 := (t8.sub s9).chg c10 d46
      have s310 : hh.Sub h10 := fun b o hb => c10.keep ((s38.tr s9) b o hb) fun hm => by
        rcases c6.2 b hm with h3 | h3
        · cases h3
        · rw [c5.sub0 b o (c4.sub0 b o (c3.sub0 b o hb))] at h3; cases h3
      refine cSameO m10 hg8 w10 hg8 fun h11 s11 => ⟨_, rfl, fun _ => cLen (t10.sub s11) hg fun h12 s12 => ⟨_, rfl, cAll ((t10.sub s11).sub s12) hg fun a13 k13 B13 h13 b13 c13 => ⟨_, _, _, rfl, fun _ => wk (s310.tr (s11.tr (s12.tr c13.sub0))) hk, fun e => by simp at e⟩⟩, fun e => by simp at e⟩
end TL

namespace TL
open Go Go.Proofs Go.Shelf
variable {B : List Nat} {h : PH} {K : Value → PH → Prop} {x : Option Addr} {S : List PrR}
variable {rA lA oA : Option Addr} {rC lC oC : Nat} {rows : List OsR} {ms : List Mt} {ops : List OpR}

/-! ### OmapLasts -/
def LastOk (S : List PrR) (p val : List UInt8) (there : Bool) : Prop := (look S p).isSome = there ∧ (there = true → look S p = some val)
theorem last_step {p val : List UInt8} {there : Bool} {o : OpR} (hl : LastOk S p val there) (hk : o.k = 1 ∨ o.k = 2) :
    (o.p = p → LastOk (if o.k = 2 then del S o.p else ins S o.p o.v) p o.v (o.k == 1)) ∧ (o.p ≠ p → LastOk (if o.k = 2 then del S o.p else ins S o.p o.v) p val there) := by
  refine ⟨fun e => ?_, fun e => ?_⟩
  · subst e
    rcases hk with hk | hk
    · rw [if_neg (by omega), hk]
      refine ⟨?_, fun _ => ?_⟩ <;> rw [look_ins, if_pos rfl]; rfl
    · rw [if_pos hk, hk]
      refine ⟨?_, fun h => by cases h⟩
      rw [look_del, if_pos rfl]; rfl
  · unfold LastOk at hl ⊢
    split
    · rw [look_del, if_neg e]; exact hl
    · rw [look_ins, if_neg e]; exact hl
theorem doOps_step (S : List PrR) {ops : List OpR} {k : Nat} (hk : k < ops.length) : doOps S (ops.take (k + 1)) = if ops[k].k = 2 then del (doOps S (ops.take k)) ops[k].p else ins (doOps S (ops.take k)) ops[k].p ops[k].v := by
  unfold doOps
  rw [List.take_succ_eq_append_getElem hk, List.foldl_append]; rfl
theorem OmapLasts_den {p : List UInt8} (hr : SR EncOs h rA rows) (hs : ∀ r ∈ rows, SR EncOp h r.a r.ops) (hk : ∀ h', h.Sub h' → K (.bool true) h') : CallH Try.prog id_law13_OmapLasts [.slice rA rows.length rC, .string (mk p)] K h := by
  refine F_law13_OmapLasts_ok (cGreatO hr hs ⟨_, rfl, fun _ => wk0 hk, fun eg => ?_⟩)
  have eg : gRows rows = false := (Bool.or_eq_false_iff.1 eg).1
  have hrl := (gRows_no eg).1
  refine cNewO fun m B1 h1 m1 c1 => ⟨_, rfl, ?_⟩
  refine LoopP.ind (fun (z : ByteArray × Bool × Int × Unit) h' => ∃ (i : Nat) (B1 : List Nat) (S : List PrR) (val : List UInt8) (there : Bool), z = (mk val, there, (i : Int), ()) ∧ i ≤ rows.length ∧ OmAt B1 h' m S ∧ Gd S ∧ Chg [] B1 h h' ∧ LastOk S p val there) (fun z _ => (rows.length - z.2.2.1).toNat) ?_
    ⟨0, B1, [], [], false, rfl, Nat.zero_le _, m1, gd0, c1, rfl, nofun⟩
  rintro _ h3 ⟨i, B1, S, val, there, rfl, hi, m3, hg, c3, hlast⟩
  dsimp only
  have hu := m3.up
  refine ⟨fun e => ?_, fun e => ?_⟩
  · have e : i < rows.length := by simpa using e
    have hops : ∀ {g : PH}, h.Sub g → SR EncOp g rows[i].a rows[i].ops := fun s => (hs _ (List.getElem_mem e)).sub s
    refine doRows hr hs eg e c3.sub0 m3 fun B4 h4 m4 c4 => ⟨_, rfl, fun e2 => ?_, fun e2 => ?_⟩
    · have hE : doE S rows[i].ops ≠ 0 := fun h => by rw [h] at e2; simp at e2
      have hS : doS S rows[i].ops = S := by unfold doS; rw [if_neg hE]
      rw [hS] at m4
      rw [wrap64 (n := (i : Int) + 1) (by omega) (by omega)]
      exact ⟨⟨i + 1, B4, S, val, there, rfl, by omega, m4, hg, c3.trans c4, hlast⟩, by omega⟩
    · have hE : doE S rows[i].ops = 0 := by
        have : ((doE S rows[i].ops : Nat) : Int) = 0 := by simpa using e2
        omega
      obtain ⟨z1, z2⟩ := doE_zero.1 hE
      obtain ⟨n4, hop⟩ := right_zero z1
      have hS : doS S rows[i].ops = doOps S rows[i].ops := by unfold doS; rw [if_pos hE]
      have hg4 := hg.do rows[i].ops
      have c34 := c3.trans c4
      refine LoopP.ind (fun (z : ByteArray × Bool × Int × Unit) h' => ∃ (k : Nat) (val : List UInt8) (there : Bool), z = (mk val, there, (k : Int), ()) ∧ k ≤ rows[i].ops.length ∧ h' = h4 ∧ LastOk (doOps S (rows[i].ops.take k)) p val there) (fun z _ => (rows[i].ops.length - z.2.2.1).toNat) ?_ ⟨0, val, there, rfl, Nat.zero_le _, rfl, hlast⟩
      rintro _ _ ⟨k, val, there, rfl, hk2, rfl, hl2⟩
      dsimp only
      obtain ⟨b, o, hA, hrd⟩ := (hr.sub c34.sub0).get e
      have hrow := hrd (o + i * 1) 0 1 (by simp [EncOs]) (by decide)
      refine ⟨b, o, ⟨hA, by omega, by omega⟩, rows[i].a, rows[i].ops.length, rows[i].c, hrow, fun e3 => ?_, fun e3 => ?_⟩
      · have e3 : k < rows[i].ops.length := by simpa using e3
        obtain ⟨b2, o2, hA2, hr2⟩ := (hops c34.sub0).get e3
        have hstep := last_step hl2 (hop _ (List.getElem_mem e3)).1
        rw [← doOps_step S e3] at hstep
        refine ⟨b, o, ⟨hA, by omega, by omega⟩, rows[i].a, rows[i].ops.length, rows[i].c, hrow, b2, o2, ⟨hA2, by omega, by omega⟩, mk rows[i].ops[k].p, hr2 _ 1 1 (by simp [EncOp]) (by decide), fun e4 => ?_, fun e4 => ?_⟩
        · have e4 : rows[i].ops[k].p = p := by rw [strEq_mk'] at e4; simpa using e4
          refine ⟨b, o, ⟨hA, by omega, by omega⟩, rows[i].a, rows[i].ops.length, rows[i].c, hrow, b2, o2, ⟨hA2, by omega, by omega⟩, mk rows[i].ops[k].v, hr2 _ 2 1 (by simp [EncOp]) (by decide), ?_⟩
          refine ⟨b, o, ⟨hA, by omega, by omega⟩, rows[i].a, rows[i].ops.length, rows[i].c, hrow, b2, o2, ⟨hA2, by omega, by omega⟩, rows[i].ops[k].k, hr2 _ 0 1 (by simp [EncOp]) (by decide), ?_⟩
          rw [wrap64 (n := (k : Int) + 1) (by omega) (by omega)]
          exact ⟨⟨k + 1, _, _, rfl, by omega, rfl, hstep.1 e4⟩, by omega⟩
        · have e4 : rows[i].ops[k].p ≠ p := by rw [strEq_mk'] at e4; simpa using e4
          rw [wrap64 (n := (k : Int) + 1) (by omega) (by omega)]
          exact ⟨⟨k + 1, _, _, rfl, by omega, rfl, hstep.2 e4⟩, by omega⟩
      · have e3 : k = rows[i].ops.length := by simp at e3; omega
        subst e3
        rw [List.take_length] at hl2
        rw [hS] at m4 hg4
        rw [wrap64 (n := (i : Int) + 1) (by omega) (by omega)]
        exact ⟨⟨i + 1, B4, _, val, there, rfl, by omega, m4, hg4, c34, hl2⟩, by omega⟩
  · refine cGet m3 ⟨_, _, rfl, fun _ => ⟨fun e2 => ?_, fun _ => ?_⟩, fun e2 => by rw [hlast.1] at e2; simp at e2⟩
    · exfalso
      rw [strEq_mk'] at e2
      cases ht : there with
      | false => rw [hlast.1, ht] at e2; cases e2
      | true =>
        have := hlast.2 ht
        rw [this] at e2
        simp at e2
    · refine cAll m3 hg fun a5 k5 B5 h5 b5 c5 => ⟨_, _, _, rfl, ?_⟩
      have m5 := m3.chg c5 (Dj.nil _)
      have hl48 := hg.1
      refine LoopP.ind (fun (z : Int × Unit) h' => ∃ i : Nat, z.1 = (i : Int) ∧ i ≤ S.length ∧ h' = h5) (fun z _ => (S.length - z.1).toNat) ?_ ⟨0, rfl, Nat.zero_le _, rfl⟩
      rintro ⟨_, u⟩ _ ⟨j, rfl, hj, rfl⟩
      dsimp only
      refine ⟨fun e2 => ?_, fun e2 => ?_⟩
      · have e2 : j < S.length := by simpa using e2
        obtain ⟨b, o, hA, hrd⟩ := b5.sr.get e2
        have hlk := look_of_mem hu (List.getElem_mem e2)
        refine ⟨b, o, ⟨hA, by omega, by omega⟩, mk S[j].p, hrd _ 0 1 (by simp [EncPr]) (by decide), cGet m5 ?_⟩
        rw [hlk]
        refine ⟨_, _, rfl, b, o, fun _ => ⟨hA, by omega, by omega⟩, mk S[j].v, fun _ => hrd _ 1 1 (by simp [EncPr]) (by decide), fun _ => ?_, fun e3 => by simp [strEq] at e3⟩
        by_cases hj0 : 0 < j
        · have hj1 : j - 1 < S.length := by omega
          obtain ⟨b', o', hA', hrd'⟩ := b5.sr.get hj1
          have hidx : (IntKind.wrap .i64 ((j : Int) - 1)) = ((j - 1 : Nat) : Int) := by rw [wrap64 (by omega) (by omega)]; omega
          refine ⟨b', o', fun _ => ⟨hA', by rw [hidx]; omega, by rw [hidx]; omega⟩, mk S[j - 1].p, fun _ => hrd' _ 0 1 (by rw [hidx]; simp [EncPr]) (by decide), b, o, fun _ => ⟨hA, by omega, by omega⟩, mk S[j].p, fun _ => hrd _ 0 1 (by simp [EncPr]) (by decide), fun e3 => ?_, fun _ => ?_⟩
          · exfalso
            have hlt := List.pairwise_iff_getElem.1 hu (j - 1) j hj1 e2 (by omega)
            rw [strLt_mk] at e3
            simp [hlt] at e3
          · rw [wrap64 (n := (j : Int) + 1) (by omega) (by omega)]
            exact ⟨⟨j + 1, rfl, by omega, rfl⟩, by omega⟩
        · have hj0 : j = 0 := by omega
          subst hj0
          refine ⟨0, 0, fun e => absurd e (by simp), mk [], fun e => absurd e (by simp), 0, 0, fun e => absurd e (by simp), mk [], fun e => absurd e (by simp), fun e3 => absurd e3 (by simp), fun _ => ?_⟩
          exact ⟨⟨1, by decide, by omega, rfl⟩, by
            rw [show IntKind.wrap .i64 (((0 : Nat) : Int) + 1) = 1 by decide]; omega⟩
      · refine cLen m5 hg fun h6 s6 => ⟨_, rfl, fun _ => cLen (m5.sub s6) hg fun h7 s7 => ⟨_, rfl, fun _ => wk (c3.sub0.tr (c5.sub0.tr (s6.tr s7))) hk, fun e3 => by simp at e3; omega⟩, fun e3 => by simp at e3⟩

/-! ### OmapLists -/
theorem filter_at {α : Type} (q : α → Bool) {l : List α} {i : Nat} (hi : i < l.length) (hq : q l[i] = true) : ∃ hk : ((l.take i).filter q).length < (l.filter q).length, (l.filter q)[((l.take i).filter q).length] = l[i] := by
  have h1 : l.filter q = (l.take i).filter q ++ l[i] :: (l.drop (i + 1)).filter q := by
    conv => lhs; rw [← List.take_append_drop i l, List.drop_eq_getElem_cons hi, List.filter_append, List.filter_cons, if_pos hq]
  have hk : ((l.take i).filter q).length < (l.filter q).length := by rw [h1]; simp
  refine ⟨hk, ?_⟩
  have := List.getElem_of_eq h1 hk
  rw [this, List.getElem_append_right (Nat.le_refl _)]
  simp
theorem filter_take {α : Type} (q : α → Bool) {l : List α} {i : Nat} (hi : i < l.length) : (l.take (i + 1)).filter q = (l.take i).filter q ++ if q l[i] = true then [l[i]] else [] := by
  rw [List.take_succ_eq_append_getElem hi, List.filter_append]
  split
  · rename_i h; simp [h]
  · rename_i h; simp [h]
theorem hasPre_nil (p : List UInt8) : hasPre [] p = true := by simp [hasPre]
theorem pre_cut {m p : List UInt8} (hm : (47 : UInt8) ∉ m) (hc : cutB p ≠ none) (hp : hasPre (m ++ [47]) p = true) : (cutV p).2.2 = true ∧ (cutV p).1 = m := by
  cases h : cutB p with
  | none => exact absurd h hc
  | some y =>
    obtain ⟨m', k'⟩ := y
    rw [cut_some h]
    refine ⟨rfl, ?_⟩
    obtain ⟨e1, e2, _⟩ := cut_iff.1 h
    have hm' := named_no e2
    have h2 : p.take (m ++ [47]).length = m ++ [47] := by
      simp only [hasPre, Bool.and_eq_true, decide_eq_true_eq] at hp
      exact hp.2
    have h3 : p = m ++ 47 :: p.drop (m ++ [47]).length := by
      conv => lhs; rw [← List.take_append_drop (m ++ [47]).length p, h2]
      simp
    have t1 := take_of (k := k') hm'
    rw [← e1] at t1
    have t2 := take_of (k := p.drop (m ++ [47]).length) hm
    rw [← h3] at t2
    exact t1.symm.trans t2
theorem OmapLists_den {p : List UInt8} (hr : SR EncOs h rA rows) (hs : ∀ r ∈ rows, SR EncOp h r.a r.ops) (hk : ∀ h', h.Sub h' → K (.bool true) h') : CallH Try.prog id_law13_OmapLists [.slice rA rows.length rC, .string (mk p)] K h := by
  refine F_law13_OmapLists_ok (cGreatO hr hs ⟨_, rfl, fun _ => wk0 hk, fun eg => ?_⟩)
  have hp : p.length ≤ 4611686018427387904 := by
    have := (Bool.or_eq_false_iff.1 eg).2
    rw [size_mk] at this
    simp at this; omega
  have eg : gRows rows = false := (Bool.or_eq_false_iff.1 eg).1
  have hrl := (gRows_no eg).1
  refine cNewO fun m B1 h1 m1 c1 => ⟨_, rfl, ?_⟩
  refine LoopP.ind (fun (z : Int × Unit) h' => ∃ (i : Nat) (B1 : List Nat) (S : List PrR), z.1 = (i : Int) ∧ i ≤ rows.length ∧ OmAt B1 h' m S ∧ Gd S ∧ Chg [] B1 h h') (fun z _ => (rows.length - z.1).toNat) ?_ ⟨0, B1, [], rfl, Nat.zero_le _, m1, gd0, c1⟩
  rintro ⟨_, u⟩ h3 ⟨i, B1, S, rfl, hi, m3, hg, c3⟩
  dsimp only
  refine ⟨fun e => ?_, fun e => ?_⟩
  · have e : i < rows.length := by simpa using e
    refine doRows hr hs eg e c3.sub0 m3 fun B4 h4 m4 c4 => ⟨_, rfl, ?_⟩
    rw [wrap64 (n := (i : Int) + 1) (by omega) (by omega)]
    exact ⟨⟨i + 1, B4, _, rfl, by omega, m4, hg.do _, c3.trans c4⟩, by omega⟩
  · have hl48 := hg.1
    refine cListO (pre := p) m3 hg fun a4 k4 B4 h4 b4 c4 => ⟨_, _, _, rfl, ?_⟩
    have m4 := m3.chg c4 (Dj.nil _)
    refine cListO (pre := []) m4 hg fun a5 k5 B5 h5 b5 c5 => ⟨_, _, _, rfl, ?_⟩
    have m5 := m4.chg c5 (Dj.nil _)
    have b45 := b4.chg c5 (Dj.nil _)
    have hall : (S.map (·.p)).filter (hasPre []) = S.map (·.p) := List.filter_eq_self.2 fun x _ => hasPre_nil x
    rw [hall] at b5 ⊢
    have hpl : (S.map (·.p)).length = S.length := by simp
    have hgp : ∀ y ∈ S.map (·.p), cutB y ≠ none := fun y hy => by
      obtain ⟨z, hz, rfl⟩ := List.mem_map.1 hy
      exact (hg.2 z hz).1
    generalize S.map (·.p) = P at b4 b45 b5 hpl hgp
    refine LoopP.ind (fun (z : Int × Int × Unit) h' => ∃ i : Nat, z = ((((P.take i).filter (hasPre p)).length : Int), (i : Int), ()) ∧ i ≤ P.length ∧ h' = h5) (fun z _ => (P.length - z.2.1).toNat) ?_ ⟨0, by simp, Nat.zero_le _, rfl⟩
    rintro _ h5 ⟨i, rfl, hi, rfl⟩
    dsimp only
    have hfl : ((P.take i).filter (hasPre p)).length ≤ i := Nat.le_trans (List.length_filter_le _ _) (by rw [List.length_take]; omega)
    refine ⟨fun e2 => ?_, fun e2 => ?_⟩
    · have e2 : i < P.length := by simpa using e2
      obtain ⟨b, o, hA, hrd⟩ := b5.sr.get e2
      have hr1 := hrd (o + i * 1) 0 1 (by simp [EncS]) (by decide)
      refine ⟨b, o, ⟨hA, by omega, by omega⟩, mk P[i], by simpa [EncS] using hr1, b, o, fun _ => ⟨hA, by omega, by omega⟩, mk P[i], fun _ => by simpa [EncS] using hr1, fun e3 => ⟨by omega, by omega, by simpa using e3⟩, ?_⟩
      have hq : (decide (((mk P[i]).size : Int) ≥ ((mk p).size : Int)) && strEq (subS (mk P[i]) 0 ((mk p).size : Int)) (mk p)) = hasPre p P[i] := by
        rw [subS_mk, strEq_mk', size_mk, size_mk]
        unfold hasPre
        congr 1
        rw [decide_eq_decide]; omega
      rw [hq]
      refine ⟨fun e3 => ?_, fun e3 => ?_⟩
      · obtain ⟨hk1, hk2⟩ := filter_at (hasPre p) e2 e3
        obtain ⟨b', o', hA', hrd'⟩ := b45.sr.get hk1
        have hr2 := hrd' (o' + ((P.take i).filter (hasPre p)).length * 1) 0 1 (by simp [EncS]) (by decide)
        rw [hk2] at hr2
        refine ⟨b', o', fun _ => ⟨hA', by omega, by omega⟩, mk P[i], fun _ => by simpa [EncS] using hr2, b, o, fun _ => ⟨hA, by omega, by omega⟩, mk P[i], fun _ => by simpa [EncS] using hr1, fun e4 => ?_, fun _ => ?_⟩
        · exfalso
          simp [strEq_self] at e4
          omega
        · rw [wrap64 (n := (i : Int) + 1) (by omega) (by omega), wrap64 (n := (((P.take i).filter (hasPre p)).length : Int) + 1) (by omega) (by omega)]
          refine ⟨⟨i + 1, ?_, by omega, rfl⟩, by omega⟩
          rw [filter_take (hasPre p) e2, if_pos e3, List.length_append]; rfl
      · rw [wrap64 (n := (i : Int) + 1) (by omega) (by omega)]
        refine ⟨⟨i + 1, ?_, by omega, rfl⟩, by omega⟩
        rw [filter_take (hasPre p) e2, if_neg (by rw [e3]; decide)]; simp
    · have e2 : i = P.length := by simp at e2; omega
      subst e2
      rw [List.take_length]
      refine cCut hp ⟨_, _, _, rfl, ?_⟩
      refine ⟨fun _ h' => h5.Sub h', ⟨fun e3 => ?_, fun _ => fun _ _ e => e⟩, ?_⟩
      · have hc : cutB p ≠ none := fun hn => by rw [cut_none hn] at e3; cases e3
        obtain ⟨mm, kk, hc⟩ : ∃ m k, cutB p = some (m, k) := by
          cases hh : cutB p with
          | none => exact absurd hh hc
          | some y => exact ⟨y.1, y.2, rfl⟩
        rw [cut_some hc]
        obtain ⟨_, hn, _⟩ := cut_iff.1 hc
        have hml := named_len hn
        have em : (⟨#[47]⟩ : ByteArray) = mk [47] := rfl
        rw [em, mk_append, size_mk, size_mk]
        refine ⟨by simp; omega, cListO (pre := mm ++ [47]) m5 hg fun a6 k6 B6 h6 b6 c6 => ⟨_, _, _, rfl, ?_⟩⟩
        have hq6 : ∀ y ∈ (S.map (·.p)).filter (hasPre (mm ++ [47])), (cutV y).2.2 = true ∧ (cutV y).1 = mm := fun y hy => by
          obtain ⟨h1, h2⟩ := List.mem_filter.1 hy
          obtain ⟨z, hz, rfl⟩ := List.mem_map.1 h1
          exact pre_cut (named_no hn) (hg.2 z hz).1 h2
        have hl6 : ((S.map (·.p)).filter (hasPre (mm ++ [47]))).length ≤ 48 := Nat.le_trans (List.length_filter_le _ _) (by simp; omega)
        have hc6 : ∀ y ∈ (S.map (·.p)).filter (hasPre (mm ++ [47])), y.length ≤ 4611686018427387904 := fun y hy => by
          obtain ⟨z, hz, rfl⟩ := List.mem_map.1 (List.mem_filter.1 hy).1
          have := cutB_len (hg.2 z hz).1
          omega
        generalize (S.map (·.p)).filter (hasPre (mm ++ [47])) = Q at b6 hq6 hl6 hc6
        refine LoopP.ind (fun (z : Int × Unit) h' => ∃ i : Nat, z.1 = (i : Int) ∧ i ≤ Q.length ∧ h' = h6) (fun z _ => (Q.length - z.1).toNat) ?_ ⟨0, rfl, Nat.zero_le _, rfl⟩
        rintro ⟨_, u⟩ _ ⟨j, rfl, hj, rfl⟩
        dsimp only
        refine ⟨fun e4 => ?_, fun _ => c6.sub0⟩
        have e4 : j < Q.length := by simpa using e4
        obtain ⟨b, o, hA, hrd⟩ := b6.sr.get e4
        have hr1 := hrd (o + j * 1) 0 1 (by simp [EncS]) (by decide)
        obtain ⟨q1, q2⟩ := hq6 _ (List.getElem_mem e4)
        refine ⟨b, o, ⟨hA, by omega, by omega⟩, mk Q[j], by simpa [EncS] using hr1, cCut (hc6 _ (List.getElem_mem e4)) ⟨_, _, _, rfl, fun e5 => ?_, fun _ => ?_⟩⟩
        · rw [q1, q2] at e5
          simp [strEq_self] at e5
        · rw [wrap64 (n := (j : Int) + 1) (by omega) (by omega)]
          exact ⟨⟨j + 1, rfl, by omega, rfl⟩, by omega⟩
      · intro _ h7 s7
        refine ⟨fun _ => cLen (m5.sub s7) hg fun h8 s8 => ⟨_, rfl, fun _ => wk (c3.sub0.tr (c4.sub0.tr (c5.sub0.tr (s7.tr s8)))) hk, fun e3 => ?_⟩, fun e3 => by simp at e3⟩
        simp at e3; omega
end TL
