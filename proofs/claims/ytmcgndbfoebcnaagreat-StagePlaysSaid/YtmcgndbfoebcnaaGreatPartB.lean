/-
  The denotation library, part O: calls, appends, conversions; every operation that writes. No condition.
-/
import Derived.Test.YtmcgndbfoebcnaaGreatPartA
import Derived.Orders
import Derived.Test.YtmcgndbfoebcnaaGreatProg
namespace TL
open Go
theorem builtin_eval {a : Act} {dst : Option Tmp} {type : TypeId} {pos : String} {after : Array Edge} {guard : Option (Nat × Bool)} {b : Builtin} {args : Array Operand} {ts : Array TypeId} :
  execOp a.eval ⟨dst, .call ⟨.builtin b, args, ts⟩, type, pos, after, guard⟩ = builtin b ts type (args.map fun | .const _ => true | _ => false) (args.map a.eval) := rfl
theorem two_args {bs : BS} {x y : E0} {us : List Value} (h : e0sOk bs [x, y] us) : ∃ u v, us = [u, v] ∧ e0Ok bs x u ∧ e0Ok bs y v := by
 match us, h with
 | [u, v], ⟨h1, h2, _⟩ => exact ⟨u, v, rfl, h1, h2⟩
theorem one_arg {bs : BS} {x : E0} {us : List Value} (h : e0sOk bs [x] us) : ∃ u, us = [u] ∧ e0Ok bs x u := by
 match us, h with
 | [u], ⟨h1, _⟩ => exact ⟨u, rfl, h1⟩
theorem bys_len (s : ByteArray) : (bys s).length = s.size := by simp [bys]
theorem byteVs_len (s : ByteArray) : (byteVs s).length = s.size := by simp [byteVs, bys_len]
theorem firstCells_string {P : Program} {s : ByteArray} (g : PH) : ro P (Builtin.firstCells 1 s.size (.string s)) g = some (byteVs s).toArray := by
 show some _ = _
 congr 1
 apply Array.toList_inj.1
 have : (s.extract 0 s.size) = s := by simp
 simp [this, byteVs, bys]
theorem denApp_ok {P : Program} {o : Oper} {ts : Array TypeId} {ty : TypeId} {x y : E0} {us : List Value} {bs : BS} {bx : BX} {h g : PH} {K : KK} (hh : denApp P ts.toList x y bx h K) (hx : e0sOk bs [x, y] us) (i : Inv bs bx h g) (hg : grows o = false) :
  hp P (do pure (Next.value (← Builtin.append_ ts ty us.toArray))) (nx P (EffPost o bs bx h g K)) g := by
 obtain ⟨u, w, rfl, hu, hw⟩ := two_args hx
 have ng : ∀ g' : PH, grows o = true → h.Sub g' := fun g' e => by rw [hg] at e; cases e
 unfold denApp at hh
 split at hh
 ·rename_i t t2 hts
  have hts : ts = #[t, t2] := by apply Array.toList_inj.1; exact hts
  subst hts
  split at hh
  ·rename_i el a n c hut
   obtain ⟨rfl, _⟩ := hu
   split at hh
   ·rename_i hok
    split at hh
    ·rename_i d2 k m hu2
     obtain ⟨b, T, hb, rfl⟩ := hw
     split at hh
     ·rename_i cs hcs
      obtain ⟨b', T', hb', hco, hgb⟩ := i.at hcs
      rw [hb] at hb'; cases hb'
      refine nx_v (hp_append hut hok hu2 (by simp) (m := m) rfl (fun g' hs => ?_) (flat_one1 hco) i hh fun a' n' c' h' g' hk i' => .heap hk i' (.inr ⟨rfl, rfl⟩) (ng _))
      have hl : (flat cs).length = m * sizeT P el := hh.1
      show ro P (loadCells ⟨b, 0, none⟩ (m * sizeT P el)) g' = _
      refine ro_loadCells ?_
      unfold PH.rds
      rw [hs _ _ hgb]
      simp [hl]
      rw [← hl, List.take_length]
     ·exact hh.elim
    ·rename_i d2 a2 m c2 hu2
     obtain ⟨rfl, _⟩ := hw
     obtain ⟨vs, hsrc, hh⟩ := hh
     exact nx_v (hp_append hut hok hu2 (by simp) (m := m) rfl (fun g' hs => srcH_ro hsrc (i.sub.trans hs) (srcH_one hsrc)) hsrc.2.1 i hh fun a' n' c' h' g' hk i' => .heap hk i' (.inr ⟨rfl, rfl⟩) (ng _))
    ·rename_i s hu2
     obtain ⟨rfl, _⟩ := hw
     split at hh
     ·rename_i hsz
      have hh' := hh
      rw [← hsz] at hh'
      exact nx_v (hp_append hut hok hu2 (by simp) (m := s.size) rfl (fun g' hs => by rw [hsz]; exact firstCells_string g') byteVs_one i hh' fun a' n' c' h' g' hk i' => .heap hk i' (.inr ⟨rfl, rfl⟩) (ng _))
     ·exact hh.elim
    ·rename_i k2 m hu2
     obtain ⟨rfl, _⟩ := hw
     exact nx_v (hp_append0 hut hok hu2 hh.1.1 hh.1.2 i hh.2 fun a' n' c' h' g' hk i' => .heap hk i' (.inr ⟨rfl, rfl⟩) (ng _))
    ·exact hh.elim
   ·exact hh.elim
  ·exact hh.elim
 ·exact hh.elim
theorem denCopy_ok {P : Program} {o : Oper} {ts : Array TypeId} {ty : TypeId} {x y : E0} {us : List Value} {bs : BS} {bx : BX} {h g : PH} {K : KK} (hh : denCopy P ts.toList x y bx h K) (hx : e0sOk bs [x, y] us) (i : Inv bs bx h g) (hg : grows o = false) :
  hp P (do pure (Next.value (← Builtin.copy_ ts ty us.toArray))) (nx P (EffPost o bs bx h g K)) g := by
 obtain ⟨u, w, rfl, hu, hw⟩ := two_args hx
 have ng : ∀ g' : PH, grows o = true → h.Sub g' := fun g' e => by rw [hg] at e; cases e
 unfold denCopy at hh
 split at hh
 ·rename_i t t2 hts
  have hts : ts = #[t, t2] := by apply Array.toList_inj.1; exact hts
  subst hts
  split at hh
  ·rename_i el a n c hut
   obtain ⟨rfl, _⟩ := hu
   split at hh
   ·rename_i d2 a2 m c2 sz hu2 hsz
    obtain ⟨rfl, _⟩ := hw
    obtain ⟨vs, hsrc, hz, hnz⟩ := hh
    obtain ⟨inf, hi⟩ := info_of_size hsz
    have hs := sizeT_of hi
    refine nx_v ?_
    unfold Builtin.copy_
    simp only [List.getElem?_toArray, List.getElem?_cons_zero, List.getElem?_cons_succ]
    rw [hp_bind]
    refine ro_hp (by rw [ro_underlying, hut]) ?_
    simp only []
    rw [hp_bind]
    refine ro_hp (show ro P (Builtin.lenOf (.slice a2 m c2)) g = some m from rfl) ?_
    rw [hp_bind]
    refine ro_hp (by rw [ro_sizeOf, hi]; rfl) ?_
    rw [hp_bind]
    have hmin : Nat.min m n = min m n := rfl
    rw [hmin]
    show hp P (Builtin.firstCells inf.size (min m n) (.slice a2 m c2)) _ g
    rw [← hs]
    refine ro_hp (srcH_ro hsrc i.sub (srcH_one hsrc)) ?_
    by_cases h0 : vs.length = 0
    ·have hv : vs = [] := List.eq_nil_of_length_eq_zero h0
     subst hv
     cases a with
     | none => exact .heap (hz h0) i (.inr ⟨rfl, rfl⟩) (ng _)
     | some a => exact .heap (hz h0) i (.inr ⟨rfl, rfl⟩) (ng _)
    ·obtain ⟨b, o', rfl, hst⟩ := hnz h0
     simp only []
     rw [hp_bind]
     exact stH_hp hst i hsrc.2.1 fun h' g' hk i' => .heap hk i' (.inr ⟨rfl, rfl⟩) (ng _)
   ·exact hh.elim
  ·exact hh.elim
 ·exact hh.elim
theorem denClear_ok {P : Program} {o : Oper} {ts : Array TypeId} {ty : TypeId} {x : E0} {us : List Value} {bs : BS} {bx : BX} {h g : PH} {K : KK} (hh : denClear P ts.toList x bx h K) (hx : e0sOk bs [x] us) (i : Inv bs bx h g) (hg : grows o = false) :
  hp P (do pure (Next.value (← Builtin.clear_ ts ty us.toArray))) (nx P (EffPost o bs bx h g K)) g := by
 obtain ⟨u, rfl, hu⟩ := one_arg hx
 have ng : ∀ g' : PH, grows o = true → h.Sub g' := fun g' e => by rw [hg] at e; cases e
 unfold denClear at hh
 split at hh
 ·rename_i t hts
  have hts : ts = #[t] := by apply Array.toList_inj.1; exact hts
  subst hts
  split at hh
  ·rename_i el a n c hut
   obtain ⟨rfl, _⟩ := hu
   split at hh
   ·rename_i hok
    obtain ⟨inf, z, hi, hz, hzc, hzl, hs, hb, hs0, hb0, hz1⟩ := appOk_ok hok
    obtain ⟨hzero, hnz⟩ := hh
    refine nx_v ?_
    unfold Builtin.clear_
    simp only [List.getElem?_toArray, List.getElem?_cons_zero]
    rw [hp_bind]
    refine ro_hp (by rw [ro_underlying, hut]) ?_
    by_cases h0 : n * sizeT P el = 0
    ·have hn : n = 0 := by
      rcases Nat.mul_eq_zero.1 h0 with e | e
      ·exact e
      ·omega
     subst hn
     cases a with
     | none => exact .heap (hzero h0) i (.inl rfl) (ng _)
     | some a => exact .heap (hzero h0) i (.inl rfl) (ng _)
    ·obtain ⟨b, o', rfl, hst⟩ := hnz h0
     obtain ⟨n, rfl⟩ : ∃ m, n = m + 1 := ⟨n - 1, by
      rcases Nat.eq_zero_or_pos n with e | e
      ·subst e; simp at h0
      ·omega⟩
     simp only []
     rw [hp_bind]
     refine ro_hp (ro_zeroValue hi hz) ?_
     rw [hp_bind, hzc, toList_zeroCells]
     refine stH_hp hst i (fun v hv => ?_) fun h' g' hk i' => .heap hk i' (.inl rfl) (ng _)
     obtain ⟨l, hl, hvl⟩ := List.mem_flatten.1 hv
     have := List.eq_of_mem_replicate hl
     subst this
     exact hz1 v hvl
   ·exact hh.elim
  ·exact hh.elim
 ·exact hh.elim
theorem push_all : ∀ (l : List UInt8) (s : ByteArray), (l.foldl (fun s b => s.push b) s).data.toList = s.data.toList ++ l
 | [], s => by simp
 | b :: l, s => by rw [List.foldl_cons, push_all l]; simp [ByteArray.push]
theorem ro_pushes {P : Program} {g : PH} (f : Value → ByteArray → Sem (ForInStep ByteArray)) (hf : ∀ n s, f (.int .u8 n) s = pure (ForInStep.yield (s.push (UInt8.ofNat n.toNat)))) : ∀ (l : List UInt8) (s : ByteArray),
  ro P (forIn (m := Sem) (l.map fun x => Value.int .u8 (x.toNat : Int)) s f) g = some (l.foldl (fun s b => s.push b) s)
 | [], s => rfl
 | b :: l, s => by
  rw [List.map_cons, ro_forIn_cons, hf, ro_pure, Option.bind_some, Int.toNat_natCast, UInt8.ofNat_toNat]
  exact ro_pushes f hf l _
theorem ro_bytes {P : Program} {h g : PH} {a : Option Addr} {n c : Nat} {st : ByteArray} (hs : strH h a n st) (hsub : h.Sub g) : ro P (Conv.bytesToString (.slice a n c)) g = some (.string st) := by
 unfold strH srcH at hs
 rw [byteVs_len] at hs
 obtain ⟨hl, _, hs⟩ := hs
 have fin : st = (bys st).foldl (fun s b => s.push b) ByteArray.empty := by
  have := push_all (bys st) ByteArray.empty
  have e : (ByteArray.empty).data.toList = [] := rfl
  rw [e, List.nil_append] at this
  have h2 : ((bys st).foldl (fun s b => s.push b) ByteArray.empty).data = st.data := Array.toList_inj.1 this
  generalize (bys st).foldl (fun s b => s.push b) ByteArray.empty = q at h2
  cases q; cases st; simp at h2; rw [h2]
 have empty : n = 0 → st = ByteArray.empty := fun h0 => by
  have : bys st = [] := List.eq_nil_of_length_eq_zero (by rw [bys_len]; omega)
  rw [fin, this]; rfl
 cases a with
 | none =>
  have : n = 0 := by
   rcases hs with h0 | ⟨b, o, he, _⟩
   ·exact h0
   ·cases he
  rw [empty this]; rfl
 | some a =>
  have load : ro P (loadCells a n) g = some (byteVs st).toArray := by
   rcases hs with h0 | ⟨b, o, he, hr⟩
   ·rw [empty h0, h0]; rfl
   ·cases he; exact ro_loadCells (rds_sub hsub hr)
  unfold Conv.bytesToString
  rw [ro_bind, load, Option.bind_some, ro_bind]
  rw [← Array.forIn_toList]
  unfold byteVs
  simp only []
  rw [ro_pushes _ (fun n s => rfl) (bys st) ByteArray.empty, Option.bind_some, ← fin]
  rfl
theorem denConv_ok {P : Program} {o : Oper} {s d : TypeId} {x : E0} {u : Value} {bs : BS} {bx : BX} {h g : PH} {K : KK} (hh : denConv P s d x bx h K) (hsc : strConv P s d = false) (hx : e0Ok bs x u) (i : Inv bs bx h g) (hg : grows o = false) :
  hp P (do pure (Next.value (← convert s d u))) (nx P (EffPost o bs bx h g K)) g := by
 have ng : ∀ g' : PH, grows o = true → h.Sub g' := fun g' e => by rw [hg] at e; cases e
 refine nx_v ?_
 unfold denConv at hh
 split at hh
 ·rename_i k1 k2 n h1 h2
  obtain ⟨rfl, _⟩ := hx
  unfold convert
  rw [hp_bind]; refine ro_hp (by rw [ro_underlying, h1]) ?_
  rw [hp_bind]; refine ro_hp (by rw [ro_underlying, h2]) ?_
  exact EffPost.heap hh i (.inr ⟨rfl, rfl⟩) (ng _)
 ·rename_i st h1 h2
  obtain ⟨rfl, _⟩ := hx
  unfold convert
  rw [hp_bind]; refine ro_hp (by rw [ro_underlying, h1]) ?_
  rw [hp_bind]; refine ro_hp (by rw [ro_underlying, h2]) ?_
  exact EffPost.heap hh i (.inr ⟨rfl, rfl⟩) (ng _)
 ·rename_i el st h1 h2
  obtain ⟨rfl, _⟩ := hx
  split at hh
  ·rename_i hel
   unfold convert
   rw [hp_bind]; refine ro_hp (by rw [ro_underlying, h1]) ?_
   rw [hp_bind]; refine ro_hp (by rw [ro_underlying, h2]) ?_
   simp only []
   rw [hp_bind]; refine ro_hp (by rw [ro_underlying, hel]) ?_
   show hp P (Conv.stringToBytes el st) (EffPost o bs bx h g K) g
   unfold Conv.stringToBytes
   rw [hp_bind]
   show hp P (.choose _ _) _ g
   simp only [hp, Question.forced, Bool.false_eq_true, if_false]
   intro tp
   have hcap : st.size ≤ (Question.appendCap st.size 0 el).cut tp := by simp [Question.cut]
   generalize (Question.appendCap st.size 0 el).cut tp = c' at hcap ⊢
   rw [hp_bind]
   refine hp_newRow fun r hr => ?_
   have e : (st.data.map (fun b => Value.int .u8 (b.toNat : Int)) ++ Array.replicate (c' - st.size) (.int .u8 0) : Array Value) = (byteVs st ++ List.replicate (c' - st.size) (Value.int .u8 0)).toArray := by
    apply Array.toList_inj.1; simp [byteVs, bys]
   rw [e, hp_bind]
   unfold markStringish
   rw [hp_bind]
   show hp P (.shape _ _) _ _
   refine ⟨_, PH.upd_same _ _ _, ?_⟩
   simp only [shapeOf]
   show hp P (.freeze _ _ _) _ _
   refine ⟨_, _, _, PH.upd_same _ _ _, by omega, ?_⟩
   have hsz : (byteVs st ++ List.replicate (c' - st.size) (Value.int .u8 0)).toArray.size = c' := by simp [byteVs_len]; omega
   rw [PH.upd_upd, hsz]
   have hr' : h r = none := by
    cases e : h r with
    | none => rfl
    | some o => rw [i.sub _ _ e] at hr; cases hr
   have := hh c' hcap r hr'
   exact EffPost.heap (g := g) this (i.newHeap hr _) (.inr ⟨rfl, rfl⟩) (ng _)
  ·exact hh.elim
 ·rename_i h1 h2
  unfold strConv at hsc
  rw [h1, h2] at hsc; cases hsc
 ·exact hh.elim
theorem tyv {P : Program} {bs : BS} {t : TypeId} {cs : List Ch} {x : E0} {v : Value} (hx : toE P t cs = some x) (hv : val x = some v) (ho : chOk cs) : e0Ok bs x v := by
 obtain ⟨u, hu, _⟩ := toE_ok (bs := bs) hx ho
 rw [val_ok hv hu] at hu; exact hu
theorem rd_ok {P : Program} {N : Nat} {priv : List Nat} {bs : BS} {e : Env} {G : Grd} {a : Act} {o : Oper} {bx : BX} {h g : PH} {K : KK} (hh : denStep P priv o G e bx h K) (hl : isRd P o = true)
  (hf : Fits N bs e a) (hg : GT G a) (hi : Inv bs bx h g) : ∃ r c v, K r (some c) bx h ∧ rsOk bs r v ∧ CG bs bx c g ∧ CR bx h c ∧ ∀ g', CG bs bx c g' → ro P (execOp a.eval o) g' = some (.value v) := by
 obtain ⟨dst, op, type, pos, after, guard⟩ := o
 cases op <;> simp [isRd] at hl
 case load t x => exact load_ok hh rfl hf hg hi
 case lookup t x k ok =>
  simp only [denStep] at hh
  split at hh
  ·split at hh
   ·rename_i p q hp hq
    have hx := opv_ok hp hf hg
    have hk := opv_ok hq hf hg
    unfold denLookup at hh
    split at hh
    ·rename_i kt et r hu
     split at hh
     ·rename_i kd kv z hkd hkv hz
      split at hh
      ·rename_i hko
       obtain ⟨cs, hcs, hh⟩ := exCh_ok hh
       split at hh
       ·rename_i y hy
        split at hh
        ·rename_i v hv
         obtain ⟨b, hlk, hh⟩ := hh
         obtain ⟨hke, hkk⟩ := kOkE_ok hko hk hkv
         have hyv := tyv (bs := bs) hy hv hcs
         have hrun : ∀ g', CG bs bx (.heap fun h' => lkH kd h' r kv z v b) g' → ro P (execOp a.eval ⟨dst, .lookup t x k ok, type, pos, after, guard⟩) g' = some (.value (if ok then .tuple #[v, .bool b] else v)) := by
          rintro g' ⟨h', hs, hlk'⟩
          refine ro_v ?_
          rw [hx.1, hke]
          unfold zeroV at hz
          split at hz
          ·rename_i inf hinf
           exact ro_lookup hu hkd hkk hinf hz hlk' hs
          ·cases hz
         cases ok with
         | true => exact ⟨_, _, _, hh, ⟨[v, .bool b], rfl, hyv, ⟨rfl, rfl⟩, trivial⟩, ⟨h, hi.sub, hlk⟩, hlk, hrun⟩
         | false => exact ⟨_, _, _, hh, hyv, ⟨h, hi.sub, hlk⟩, hlk, hrun⟩
        ·exact hh.elim
       ·exact hh.elim
      ·exact hh.elim
     ·exact hh.elim
    ·exact hh.elim
   ·exact hh.elim
  ·exact hh.elim
 case convert s d x =>
  simp only [denStep] at hh
  have hnp : pureConv P s d = false := by
   unfold strConv at hl; unfold pureConv
   split at hl
   ·rename_i h1 h2; rw [h1, h2]
   ·cases hl
  rw [hnp] at hh
  split at hh
  ·rename_i hx; cases hx
  ·split at hh
   ·rename_i p hp
    have hx := opv_ok hp hf trivial
    unfold denConv at hh
    unfold strConv at hl
    split at hh
    ·rename_i h1 h2; rw [h1, h2] at hl; cases hl
    ·rename_i h1 h2; rw [h1, h2] at hl; cases hl
    ·rename_i h1 h2; rw [h1, h2] at hl; cases hl
    ·rename_i el a' n c h1 h2
     split at hh
     ·rename_i hel
      obtain ⟨st, hst, hh⟩ := hh
      refine ⟨_, _, .string st, hh, ⟨rfl, rfl⟩, ⟨h, hi.sub, hst⟩, hst, ?_⟩
      rintro g' ⟨h', hs, hst'⟩
      refine ro_v ?_
      rw [hx.1]
      unfold convert
      rw [ro_bind, ro_underlying, h1, Option.bind_some, ro_bind, ro_underlying, h2, Option.bind_some]
      have key : ro P (Conv.bytesToString (.slice a' n c)) g' = some (.string st) := ro_bytes hst' hs
      cases a' with
      | none =>
       simp only []
       rw [ro_bind, ro_underlying, hel, Option.bind_some]
       exact key
      | some a' =>
       simp only []
       rw [ro_bind, ro_underlying, hel, Option.bind_some]
       exact key
     ·exact hh.elim
    ·exact hh.elim
   ·exact hh.elim
  ·exact hh.elim
 case call c =>
  obtain ⟨callee, args, ts⟩ := c
  split at hl
  ·rename_i hcal
   simp only at hcal
   subst hcal
   simp only [denStep] at hh
   rw [hl] at hh
   simp only at hh
   split at hh
   ·rename_i x hxs
    obtain ⟨u, hu, hx⟩ := one_arg (opvs_ok hxs hf trivial)
    unfold denLenM at hh
    split at hh
    ·rename_i r
     obtain ⟨n, hn, hh⟩ := hh
     refine ⟨_, _, .int .i64 (n : Int), hh, ⟨rfl, rfl⟩, ⟨h, hi.sub, hn⟩, hn, ?_⟩
     rintro g' ⟨h', hs, hn'⟩
     rw [builtin_eval, map_toList_eval, hu, hx.1]
     refine ro_v ?_
     unfold mapT at hl
     split at hl
     ·rename_i t ht
      split at hl
      ·rename_i kt et hut
       have ht : ts = #[t] := by apply Array.toList_inj.1; exact ht
       rw [ht]
       exact ro_lenM hut hn' hs
      ·cases hl
     ·cases hl
    ·exact hh.elim
   ·exact hh.elim
  ·cases hl
theorem flat_ones' (z : List Value) : ∀ n, flat (catC n (z.map Ch.one)) = (List.replicate n z).flatten
 | 0 => rfl
 | n + 1 => by simp [catC, flat_append, flat_ones, flat_ones' z n, List.replicate_succ]
theorem denMakeS_ok {P : Program} {o : Oper} {t : TypeId} {x y : E0} {u w : Value} {bs : BS} {bx : BX} {h g : PH} {K : KK} (hh : denMakeS P t x y bx h K) (hx : e0Ok bs x u) (hy : e0Ok bs y w) (i : Inv bs bx h g) :
  hp P (do pure (Next.value (← Instr.makeSlice t u w))) (nx P (EffPost o bs bx h g K)) g := by
 refine nx_v ?_
 unfold denMakeS at hh
 split at hh
 ·rename_i el k n k' c hu
  obtain ⟨rfl, _⟩ := hx
  obtain ⟨rfl, _⟩ := hy
  split at hh
  ·rename_i hok
   obtain ⟨inf, z, hi, hz, hzc, hzl, hs, hb, hs0, hb0, hz1⟩ := appOk_ok hok
   obtain ⟨⟨h0, h1, h2⟩, hk⟩ := hh
   have hc0 : 0 ≤ c := Int.le_trans h0 h1
   have hcle : c ≤ 140737488355328 := by
    have : c * 1 ≤ c * (bytesT P el : Int) := Int.mul_le_mul_of_nonneg_left (by omega) hc0
    omega
   have wn : IntKind.i64.wrap n = n := by
    rw [IntKind.wrap]; simp [IntKind.signed, IntKind.bits]; omega
   have wc : IntKind.i64.wrap c = c := by
    rw [IntKind.wrap]; simp [IntKind.signed, IntKind.bits]; omega
   unfold Instr.makeSlice
   rw [hp_bind]
   refine ro_hp (by rw [ro_underlying, hu]) ?_
   simp only []
   rw [hp_bind]
   refine ro_hp (a := n) rfl ?_
   rw [hp_bind]
   refine ro_hp (a := c) rfl ?_
   rw [hp_bind]
   refine ro_hp (by rw [ro_typeInfo, hi]) ?_
   simp only [wn, wc]
   have hmul : (inf.bytes : Int) * c ≤ 140737488355328 := by rw [← hb, Int.mul_comm]; exact h2
   rw [if_neg (by simp; omega)]
   rw [hp_bind]
   have hask : ro P (askRoom (c.toNat * inf.bytes)) g = some () := by unfold askRoom; split <;> rfl
   refine ro_hp hask ?_
   rw [hp_bind]
   refine ro_hp (by rw [ro_sizeOf, hi]; rfl) ?_
   have hr' : ∀ r, g r = none → h r = none := fun r hr => by
    cases e : h r with
    | none => rfl
    | some o => rw [i.sub _ _ e] at hr; cases hr
   have fin : ∀ r, g r = none → EffPost o bs bx h g K (.slice (some ⟨r, 0, none⟩) n.toNat c.toNat) (g.upd r (.cells (List.replicate c.toNat (zeroVs P el)).flatten.toArray el (0, 0))) := fun r hr =>
    .heap (hk r (hr' r hr)) (i.newHeap hr _) (.inr ⟨rfl, rfl⟩) fun _ => (PH.Sub.refl h).new (hr' r hr) _
   have hcc := catC_cells (z := (zeroVs P el).map Ch.one) c.toNat
   rw [flat_ones] at hcc
   have hce := flat_ones' (zeroVs P el) c.toNat
   by_cases hc : c.toNat * inf.size = 0
   ·have hc' : c.toNat = 0 := by
     rcases Nat.mul_eq_zero.1 hc with e | e
     ·exact e
     ·omega
    rw [if_pos hc, hp_bind]
    refine ro_hp (ro_pure _) ?_
    rw [hp_bind]
    refine hp_newRow fun r hr => ?_
    have := fin r hr
    rw [hc'] at this ⊢
    simp at this
    have e : ∀ f : Nat → Value, (Array.range (0 * inf.size)).map f = #[] := fun f => by simp
    show EffPost o bs bx h g K _ _
    rw [e]; exact this
   ·rw [if_neg hc, hp_bind]
    refine ro_hp (ro_zeroValue hi hz) ?_
    rw [hp_bind]
    refine ro_hp (ro_pure _) ?_
    rw [hp_bind]
    refine hp_newRow fun r hr => ?_
    have := fin r hr
    rw [← hce, ← hcc] at this
    rw [hzc]
    rw [hzl] at this
    exact this
  ·exact hh.elim
 ·exact hh.elim
theorem denCall_ok {P : Program} {N : Nat} {e : Env} {a : Act} {dst : Option Tmp} {c : Call} {type : TypeId} {pos : String} {after : Array Edge} {guard : Option (Nat × Bool)} {bs : BS} {bx : BX} {h g : PH} {K : KK}
  (hh : denCall P e c type bx h K) (hf : Fits N bs e a) (i : Inv bs bx h g) :
  hp P (execOp a.eval ⟨dst, .call c, type, pos, after, guard⟩) (nx P (EffPost ⟨dst, .call c, type, pos, after, guard⟩ bs bx h g K)) g := by
 obtain ⟨callee, args, ts⟩ := c
 unfold denCall at hh
 simp only at hh
 have hg : grows ⟨dst, .call ⟨callee, args, ts⟩, type, pos, after, guard⟩ = false := rfl
 have bi : ∀ b xs, callee = .builtin b → opvs e none args.toList = some xs → ∃ us, e0sOk bs xs us ∧ execOp a.eval ⟨dst, .call ⟨callee, args, ts⟩, type, pos, after, guard⟩ = builtin b ts type (args.map fun | .const _ => true | _ => false) us.toArray := fun b xs hb hx => by
  subst hb
  refine ⟨args.toList.map a.eval, opvs_ok hx hf trivial, ?_⟩
  rw [builtin_eval, map_toList_eval]
 split at hh
 ·rename_i f xs hxs
  have ho := opvs_ok hxs hf trivial
  split at hh
  ·rename_i vs n first cap hv hfv
   have hfe := (opv_ok hfv hf trivial).1
   have hva := vals_ok hv ho
   have hex : execOp a.eval ⟨dst, .call ⟨.value f, args, ts⟩, type, pos, after, guard⟩ = callFunc n (first.toList ++ (vs ++ cap.toList)).toArray := by
    show (do let d ← Deferred.ofValue (a.eval f) (args.map a.eval); invoke d.target d.args) = _
    rw [hfe, map_toList_eval, hva]
    show callFunc n (first ++ vs.toArray ++ cap) = _
    congr 1
    apply Array.toList_inj.1; simp
   split at hh
   ·rename_i hbody
    rw [hex]
    exact ro_hp (callF_body hbody) (call_post hg hh i)
   ·obtain ⟨v, hro, hk⟩ := hh
    rw [hex]
    obtain ⟨r, hr, hk⟩ := callK_ok (bs := bs) hk
    exact ro_hp (hro g i.sub) (EffPost.heap (g := g) hk i hr (fun h => by rw [hg] at h; cases h))
  ·rename_i vs fv hv hfv
   have hfe := (opv_ok hfv hf trivial).1
   have hva := vals_ok hv ho
   unfold CallV at hh
   split at hh
   ·rename_i n first cap
    have hex : execOp a.eval ⟨dst, .call ⟨.value f, args, ts⟩, type, pos, after, guard⟩ = callFunc n (first.toList ++ (vs ++ cap.toList)).toArray := by
     show (do let d ← Deferred.ofValue (a.eval f) (args.map a.eval); invoke d.target d.args) = _
     rw [hfe, map_toList_eval, hva]
     show callFunc n (first ++ vs.toArray ++ cap) = _
     congr 1
     apply Array.toList_inj.1; simp
    rw [hex]
    exact ro_hp (callF_body hh.1) (call_post hg hh.2 i)
   ·exact hh.elim
  ·exact hh.elim
 ·rename_i x y hxs
  obtain ⟨us, hus, hex⟩ := bi _ _ rfl hxs
  rw [hex]
  exact denApp_ok hh hus i hg
 ·rename_i x y hxs
  obtain ⟨us, hus, hex⟩ := bi _ _ rfl hxs
  rw [hex]
  exact denCopy_ok hh hus i hg
 ·rename_i x hxs
  obtain ⟨us, hus, hex⟩ := bi _ _ rfl hxs
  rw [hex]
  exact denClear_ok hh hus i hg
 ·rename_i x y hxs
  obtain ⟨us, hus, hex⟩ := bi _ _ rfl hxs
  rw [hex]
  obtain ⟨u, w, rfl, hx, hy⟩ := two_args hus
  unfold denDelete at hh
  split at hh
  ·rename_i mt tr r hts
   have hts : ts = (mt :: tr).toArray := by apply Array.toList_inj.1; exact hts
   split at hh
   ·rename_i kt et kv hu hkv
    split at hh
    ·rename_i kd hkd
     split at hh
     ·rename_i hko
      obtain ⟨hke, hkk⟩ := kOkE_ok hko hy hkv
      refine nx_v ?_
      rw [hx.1, hke, hts]
      exact hp_delete hu hkd hkk hh i fun h' g' v hk i' => EffPost.heap hk i' (.inl rfl) fun e => by cases e
     ·exact hh.elim
    ·exact hh.elim
   ·exact hh.elim
  ·exact hh.elim
 ·exact hh.elim
theorem eff_ok {P : Program} {N : Nat} {priv : List Nat} {e : Env} {a : Act} {o : Oper} {bs : BS} {bx : BX} {h g : PH} {K : KK} (hh : denStep P priv o none e bx h K) (hc : calm P o = false) (hf : Fits N bs e a) (i : Inv bs bx h g) :
  hp P (execOp a.eval o) (nx P (EffPost o bs bx h g K)) g := by
 obtain ⟨dst, op, type, pos, after, guard⟩ := o
 cases op <;> simp only [denStep] at hh <;> try (first | exact hh.elim | (simp [calm, lazyOk] at hc; done))
 case mapUpdate t m k x =>
  split at hh
  ·rename_i p q r hp hq hr
   have hx := opv_ok hp hf trivial
   have hy := opv_ok hq hf trivial
   have hz := opv_ok hr hf trivial
   unfold denUpdate at hh
   split at hh
   ·rename_i kt et r' hu
    split at hh
    ·rename_i kd kv v hkd hkv hv
     split at hh
     ·rename_i hko
      obtain ⟨hke, hkk⟩ := kOkE_ok hko hy hkv
      refine nx_u ?_
      rw [hx.1, hke, val_ok hv hz]
      exact hp_mapUpdate hu hkd hkk hh i fun h' g' hk i' => EffPost.heap hk i' (.inl rfl) fun e => by cases e
     ·exact hh.elim
    ·exact hh.elim
   ·exact hh.elim
  ·exact hh.elim
 case makeMap t n =>
  split at hh
  ·refine nx_v ?_
   show hp P (.new _ _) _ g
   intro r hr
   have hr' : h r = none := by
    cases e : h r with
    | none => rfl
    | some o => rw [i.sub _ _ e] at hr; cases hr
   exact .heap (hh r hr') (i.newHeap hr _) (.inr ⟨rfl, rfl⟩) fun _ => (PH.Sub.refl h).new hr' _
  ·exact hh.elim
 case makeSlice t x y =>
  split at hh
  ·rename_i p q hp hq
   exact denMakeS_ok (o := ⟨dst, .makeSlice t x y, type, pos, after, guard⟩) hh (opv_ok hp hf trivial) (opv_ok hq hf trivial) i
  ·exact hh.elim
 case alloc t =>
  split at hh
  ·rename_i cs hcs
   obtain ⟨inf, z, hi, hz, hzc, hok, _⟩ := zeroE_ok hcs
   refine nx_v ?_
   unfold Instr.alloc
   rw [hp_bind]
   refine ro_hp (ro_zeroValue hi hz) ?_
   show hp P (do pure (Value.pointer (some (← newVar t z)))) _ g
   rw [hp_bind]
   refine hp_newVar fun r hr => ?_
   rw [hzc]
   exact denNew_ok (o := ⟨dst, .alloc t, type, pos, after, guard⟩) hh i hok r hr
  ·exact hh.elim
 case box t x =>
  split at hh
  ·rename_i y hy
   split at hh
   ·rename_i cs hcs
    obtain ⟨hok, hcell⟩ := chsOf_ok hcs (opv_ok hy hf trivial)
    refine nx_v ?_
    unfold Instr.box
    rw [hp_bind]
    refine hp_newVar fun r hr => ?_
    rw [hcell]
    exact denNew_ok (o := ⟨dst, .box t x, type, pos, after, guard⟩) hh i hok r hr
   ·exact hh.elim
  ·exact hh.elim
 case buildSlice t n ps =>
  split at hh
  ·rename_i el hu
   split at hh
   ·rename_i cs hcs
    split at hh
    ·rename_i hle
     obtain ⟨inf, z, zc, hi, hz, hzc, hs, hok, hfill⟩ := buildS_ok hcs hf
     have hle := Nat.le_of_ble_eq_true hle
     rw [sizeT_of hi] at hle
     refine nx_v ?_
     have e : (ps.map fun (i, x) => (i, a.eval x)) = (ps.toList.map fun p => (p.1, a.eval p.2)).toArray := by
      apply Array.toList_inj.1; simp
     rw [e]
     exact hp_buildSlice hu hi hz hzc hs hle hfill fun r hr => denNewSl_ok (o := ⟨dst, .buildSlice t n ps, type, pos, after, guard⟩) hh i hok r hr
    ·exact hh.elim
   ·exact hh.elim
  ·exact hh.elim
 case store t x y =>
  split at hh
  ·rename_i p q hp hq
   exact denStore_ok (o := ⟨dst, .store t x y, type, pos, after, guard⟩) hh (opv_ok hp hf trivial) (opv_ok hq hf trivial) i rfl
  ·exact hh.elim
 case convert s d x =>
  have hs : strConv P s d = false := by
   cases e : strConv P s d with
   | false => rfl
   | true => simp [calm, e] at hc
  have hp : pureConv P s d = false := by simpa [calm, lazyOk, hs] using hc
  rw [hp] at hh
  split at hh
  ·rename_i hx; cases hx
  ·split at hh
   ·rename_i p hp'
    exact denConv_ok (o := ⟨dst, .convert s d x, type, pos, after, guard⟩) hh hs (opv_ok hp' hf trivial) i rfl
   ·exact hh.elim
  ·exact hh.elim
 case call c =>
  split at hh
  ·rename_i hcal; simp [calm, hcal] at hc
  ·rename_i hcal; simp [calm, lazyOk, hcal] at hc
  ·rename_i hcal; simp [calm, lazyOk, hcal] at hc
  ·rename_i hcal; simp [calm, lazyOk, hcal] at hc
  ·exact denCall_ok hh hf i
end TL

namespace TL
open Go
section
variable {P : Program} {e : Env} {G : Grd} {bx : BX} {h : PH}
theorem denInt_any {op : BinOp} {k : IntKind} {a b : Int} {y : Operand} {K : E0 → Prop} (hh : denInt op k a b y G K) : ∃ x, K x := by
 unfold denInt at hh
 (repeat' (split at hh)) <;> first | exact hh.elim | exact ⟨_, hh⟩ | exact ⟨_, hh.2⟩
theorem denShift_any {op : BinOp} {k : IntKind} {a b : Int} {y : Operand} {K : E0 → Prop} (hh : denShift op k a b y G K) : ∃ x, K x := by
 unfold denShift at hh
 (repeat' (split at hh)) <;> first | exact hh.elim | exact ⟨_, hh⟩ | exact ⟨_, hh.2⟩
theorem denStr_any {op : BinOp} {a b : ByteArray} {K : E0 → Prop} (hh : denStr op a b G K) : ∃ x, K x := by
 unfold denStr at hh
 (repeat' (split at hh)) <;> first | exact hh.elim | exact ⟨_, hh⟩ | exact ⟨_, hh.2⟩
theorem denBin_any {op : BinOp} {xt : TypeId} {x y : E0} {yo : Operand} {K : E0 → Prop} (hh : denBin P op xt x y yo G K) : ∃ x, K x := by
 unfold denBin at hh
 (repeat' (split at hh)) <;> first | exact hh.elim | exact denInt_any hh | exact denShift_any hh | exact denStr_any hh | exact ⟨_, hh⟩
theorem denUn_any {op : UnOp} {x : E0} {K : E0 → Prop} (hh : denUn op x K) : ∃ x, K x := by
 unfold denUn at hh
 (repeat' (split at hh)) <;> first | exact hh.elim | exact ⟨_, hh⟩
theorem bnd_any {d : Int} {o : Option Operand} {K : Int → Prop} (hh : bnd G e d o K) : ∃ x, K x := by
 unfold bnd at hh
 (repeat' (split at hh)) <;> first | exact hh.elim | exact ⟨_, hh⟩
theorem denSlice_any {t : TypeId} {x : E0} {lo hi mx : Option Operand} {K : E0 → Prop} (hh : denSlice P e G t x lo hi mx K) : ∃ x, K x := by
 unfold denSlice at hh
 (repeat' (split at hh)) <;> first
  | exact hh.elim
  | (obtain ⟨l, h1⟩ := bnd_any hh; obtain ⟨r, h2⟩ := bnd_any h1; obtain ⟨m, h3⟩ := bnd_any h2; exact ⟨_, h3.2⟩)
  | (obtain ⟨l, h1⟩ := bnd_any hh; obtain ⟨r, h2⟩ := bnd_any h1; exact ⟨_, h2.2⟩)
theorem denFieldAddr_any {t : TypeId} {x : E0} {f : Nat} {K : E0 → Prop} (hh : denFieldAddr P t x f K) : ∃ x, K x := by
 unfold denFieldAddr at hh
 (repeat' (split at hh)) <;> first | exact hh.elim | exact ⟨_, hh⟩
theorem denIndexAddr_any {t : TypeId} {x : E0} {io : Operand} {K : E0 → Prop} (hh : denIndexAddr P e G t x io K) : ∃ x, K x := by
 unfold denIndexAddr at hh
 (repeat' (split at hh)) <;> first | exact hh.elim | exact ⟨_, hh.2⟩ | exact ⟨_, hh⟩ | (obtain ⟨b, o, h1⟩ := hh; exact ⟨_, h1.2⟩)
theorem denIndex_any {t : TypeId} {x : E0} {io : Operand} {K : E0 → Prop} (hh : denIndex P e G t x io K) : ∃ x, K x := by
 unfold denIndex at hh
 (repeat' (split at hh)) <;> first | exact hh.elim | exact ⟨_, hh.2⟩ | exact ⟨_, hh⟩
theorem denField_any {t : TypeId} {x : E0} {f : Nat} {K : E0 → Prop} (hh : denField P t x f K) : ∃ x, K x := by
 unfold denField at hh
 (repeat' (split at hh)) <;> first | exact hh.elim | exact ⟨_, hh⟩
theorem denPick_any {c a b : Operand} {K : KK} (hh : denPick e G c a b bx h K) : ∃ x, K (.one x) none bx h := by
 unfold denPick at hh
 (repeat' (split at hh)) <;> first | exact hh.elim | exact ⟨_, hh⟩
theorem denMove_any {g : Nat × Bool × Bool} {x : Operand} {K : KK} (hh : denMove e (some g) x bx h K) : ∃ x, K (.one x) none bx h := by
 unfold denMove at hh
 (repeat' (split at hh)) <;> first | exact hh.elim | exact ⟨_, hh⟩ | (rename_i hx; cases hx)
theorem denLen_any {t : TypeId} {x : E0} {K : E0 → Prop} (hh : denLen P t x K) : ∃ x, K x := by
 unfold denLen at hh
 (repeat' (split at hh)) <;> first | exact hh.elim | exact ⟨_, hh⟩
theorem denCap_any {t : TypeId} {x : E0} {K : E0 → Prop} (hh : denCap P t x K) : ∃ x, K x := by
 unfold denCap at hh
 (repeat' (split at hh)) <;> first | exact hh.elim | exact ⟨_, hh⟩
theorem denMM_any {f : Int → Int → Int} {xs : List E0} {K : E0 → Prop} (hh : denMM f xs K) : ∃ x, K x := by
 unfold denMM at hh
 (repeat' (split at hh)) <;> first | exact hh.elim | exact ⟨_, hh⟩
theorem denConv_any {s d : TypeId} {x : E0} {K : KK} (hp : pureConv P s d = true) (hh : denConv P s d x bx h K) : ∃ x, K (.one x) none bx h := by
 unfold denConv at hh
 unfold pureConv at hp
 split at hh
 ·exact ⟨_, hh⟩
 ·exact ⟨_, hh⟩
 ·rename_i h1 h2; rw [h1, h2] at hp; simp at hp
 ·rename_i h1 h2; rw [h1, h2] at hp; simp at hp
 ·exact hh.elim
theorem denLoad_any (hok : ∀ k c, nthB bx k = some c → chOk c) {t : TypeId} {x : E0} {K : KK} (hh : denLoad P G t x bx h K) : ∃ x c, K (.one x) (some c) bx h ∧ CR bx h c := by
 unfold denLoad at hh
 split at hh
 ·obtain ⟨cs, hc, hh⟩ := exCh_ok hh
  split at hh
  ·exact ⟨_, _, hh.2, hh.1⟩
  ·exact hh.elim
 ·split at hh
  ·rename_i c hc
   split at hh
   ·rename_i cs hcs
    split at hh
    ·refine ⟨_, _, hh, c, hc, ?_⟩
     exact (chGet_ok hcs (hok _ _ hc)).2.2.2
    ·exact hh.elim
   ·exact hh.elim
  ·exact hh.elim
 ·split at hh
  ·rename_i c kk hc hu
   split at hh
   ·rename_i cs hcs
    split at hh
    ·exact ⟨_, _, hh.2, c, hc, (chGet_ok hcs (hok _ _ hc)).2.2.2⟩
    ·exact hh.elim
   ·exact hh.elim
  ·exact hh.elim
 ·exact hh.elim
end
theorem load_any {P : Program} {priv : List Nat} {e : Env} {G : Grd} {o : Oper} {bx : BX} {h : PH} {K : KK} (hok : ∀ k c, nthB bx k = some c → chOk c) (hh : denStep P priv o G e bx h K) (hl : isLoad o = true) :
  ∃ x c, K (.one x) (some c) bx h ∧ CR bx h c := by
 obtain ⟨dst, op, type, pos, after, guard⟩ := o
 cases op <;> simp [isLoad] at hl
 simp only [denStep] at hh
 split at hh
 ·exact denLoad_any hok hh
 ·exact hh.elim
theorem lazy_any {P : Program} {priv : List Nat} {e : Env} {g : Nat × Bool × Bool} {o : Oper} {bx : BX} {h : PH} {K : KK} (hh : denStep P priv o (some g) e bx h K) (hz : lazyOk P o = true) (hl : isLoad o = false) :
  ∃ x, K (.one x) none bx h := by
 obtain ⟨dst, op, type, pos, after, guard⟩ := o
 cases op <;> simp only [denStep] at hh <;> try (simp [lazyOk] at hz; done)
 case move x => exact denMove_any hh
 case assign x => exact denMove_any hh
 case pick c x y => exact denPick_any hh
 case nilCheck x =>
  split at hh
  ·obtain ⟨b, o, h1⟩ := hh; exact ⟨_, h1.2⟩
  ·exact ⟨_, hh⟩
  ·exact hh.elim
 case binOp => split at hh <;> first | exact hh.elim | (obtain ⟨x, hx⟩ := denBin_any hh; exact ⟨x, hx⟩)
 case unOp => split at hh <;> first | exact hh.elim | (obtain ⟨x, hx⟩ := denUn_any hh; exact ⟨x, hx⟩)
 case fieldAddr => split at hh <;> first | exact hh.elim | (obtain ⟨x, hx⟩ := denFieldAddr_any hh; exact ⟨x, hx⟩)
 case field => split at hh <;> first | exact hh.elim | (obtain ⟨x, hx⟩ := denField_any hh; exact ⟨x, hx⟩)
 case indexAddr => split at hh <;> first | exact hh.elim | (obtain ⟨x, hx⟩ := denIndexAddr_any hh; exact ⟨x, hx⟩)
 case index => split at hh <;> first | exact hh.elim | (obtain ⟨x, hx⟩ := denIndex_any hh; exact ⟨x, hx⟩)
 case slice => split at hh <;> first | exact hh.elim | (obtain ⟨x, hx⟩ := denSlice_any hh; exact ⟨x, hx⟩)
 case extract x i =>
  (repeat' (split at hh)) <;> first | exact hh.elim | exact ⟨_, hh⟩
 case load => simp [isLoad] at hl
 case call c =>
  simp only [lazyOk] at hz
  split at hh
  ·split at hh
   ·exact hh.elim
   ·split at hh
    ·obtain ⟨x, hx⟩ := denLen_any hh; exact ⟨x, hx⟩
    ·exact hh.elim
  ·split at hh
   ·obtain ⟨x, hx⟩ := denCap_any hh; exact ⟨x, hx⟩
   ·exact hh.elim
  ·split at hh
   ·obtain ⟨x, hx⟩ := denMM_any hh; exact ⟨x, hx⟩
   ·exact hh.elim
  ·split at hh
   ·obtain ⟨x, hx⟩ := denMM_any hh; exact ⟨x, hx⟩
   ·exact hh.elim
  ·exact hh.elim
 case convert s d x =>
  simp only [lazyOk] at hz
  split at hh
  ·split at hh
   ·exact denConv_any hz hh
   ·exact hh.elim
  ·exact absurd (by assumption : pureConv P s d = false) (by rw [hz]; simp)
  ·exact hh.elim
end TL

namespace TL
open Go
theorem e0Ok_app {bs : BS} (bs2 : BS) : ∀ {x : E0} {v : Value}, e0Ok bs x v → e0Ok (bs ++ bs2) x v
 | .v _, _, h => h
 | .lit _, _, h => h
 | .fn _, _, h => h
 | .agg _, _, h => h
 | .box _ _, _, ⟨b, T, h, e⟩ => ⟨b, T, by rw [List.getElem?_append_left (bs_lt h)]; exact h, e⟩
 | .boxi _ _ _ _, _, ⟨b, T, h, e⟩ => ⟨b, T, by rw [List.getElem?_append_left (bs_lt h)]; exact h, e⟩
 | .sl _ _, _, ⟨b, T, h, e⟩ => ⟨b, T, by rw [List.getElem?_append_left (bs_lt h)]; exact h, e⟩
theorem e0sOk_app {bs : BS} (bs2 : BS) : ∀ {xs : List E0} {vs : List Value}, e0sOk bs xs vs → e0sOk (bs ++ bs2) xs vs
 | [], [], _ => trivial
 | _ :: _, _ :: _, h => ⟨e0Ok_app bs2 h.1, e0sOk_app bs2 h.2⟩
 | [], _ :: _, h => h.elim
 | _ :: _, [], h => h.elim
theorem evOk_app {tm : Array Value} {bs : BS} (bs2 : BS) : ∀ {x : EV} {v : Value}, evOk tm bs x v → evOk tm (bs ++ bs2) x v
 | .s _, _, h => e0Ok_app bs2 h
 | .tup _, _, ⟨vs, e, h⟩ => ⟨vs, e, e0sOk_app bs2 h⟩
 | .iff _ _ _, _, h => ⟨fun e => e0Ok_app bs2 (h.1 e), h.2⟩
 | .off _ _, _, h => h
theorem Fits.app {N : Nat} {bs : BS} (bs2 : BS) {e : Env} {a : Act} (h : Fits N bs e a) : Fits N (bs ++ bs2) e a := ⟨fun p hp => evOk_app bs2 (h.env p hp), h.size, h.defs⟩
def ST (N : Nat) (h0 : PH) (w0 : World) (bs : BS) (bx : BX) (h : PH) (e : Env) (a : Act) (w : World) : Prop := ∃ g, Inv bs bx h g ∧ Frm h0 w0 g w ∧ Fits N bs e a
def Keep (wb : WB) (bx bx' : BX) : Prop := ∀ k c0, nthB bx k = some c0 → okW wb k = false → nthB bx' k = some c0
def Slots (W : List Nat) (a a' : Act) : Prop := ∀ t, t ∉ W → a'.tmps.getD t undef = a.tmps.getD t undef
theorem Keep.refl (wb : WB) (bx : BX) : Keep wb bx bx := fun _ _ h _ => h
theorem Keep.trans {wb : WB} {a b c : BX} (x : Keep wb a b) (y : Keep wb b c) : Keep wb a c := fun k c0 h e => y k c0 (x k c0 h e) e
theorem Slots.refl (W : List Nat) (a : Act) : Slots W a a := fun _ _ => rfl
theorem Slots.trans {W V : List Nat} {a b c : Act} (x : Slots W a b) (y : Slots V b c) : Slots (W ++ V) a c := fun t h => by
 rw [y t (fun e => h (List.mem_append_right _ e)), x t (fun e => h (List.mem_append_left _ e))]
theorem Slots.sub {W V : List Nat} {a b : Act} (x : Slots W a b) (h : ∀ t ∈ W, t ∈ V) : Slots V a b := fun t ht => x t (fun e => ht (h t e))
def dstL (d : Option Nat) : List Nat := match d with
 | some d => [d]
 | none => []
theorem Slots.put (a : Act) (d : Option Nat) (v : Value) : Slots (dstL d) a (a.put d v) := fun t h => by
 cases d with
 | none => rfl
 | some d => exact getD_set_ne' (fun e => h (by simp [dstL, e]))
theorem yielded_slot {ops : Array Oper} {tm : Array Value} {j s : Nat} (h : slotOf ops j = some s) : yielded ops tm j = match tm.getD s undef with
  | .bool b => some b
  | _ => none := by
 unfold slotOf at h
 unfold yielded
 cases ho : ops[j]? with
 | none => rw [ho] at h; cases h
 | some o =>
  rw [ho] at h
  simp only at h
  simp only [Option.bind_some, h]
  cases hs : tm[s]? with
  | none =>
   have : tm.getD s undef = undef := by simp [hs]
   rw [this]
   rfl
  | some v =>
   have : tm.getD s undef = v := by simp [hs]
   rw [this]
   cases v <;> rfl
theorem wanted_slot {ops : Array Oper} {tm : Array Value} {o : Oper} {j s : Nat} {want b : Bool} (hg : o.guard = some (j, want)) (h : slotOf ops j = some s) (hb : tm.getD s undef = .bool b) :
  Region.wanted o (yielded ops tm) = (b == want) := by
 unfold Region.wanted
 simp only [hg]
 rw [yielded_slot h, hb]
 cases b <;> cases want <;> rfl
theorem wanted_undef {ops : Array Oper} {tm : Array Value} {o : Oper} {j s : Nat} {want : Bool} (hg : o.guard = some (j, want)) (h : slotOf ops j = some s) (hb : tm.getD s undef = undef) :
  Region.wanted o (yielded ops tm) = false := by
 unfold Region.wanted
 simp only [hg]
 rw [yielded_slot h, hb]
 rfl
theorem fits_know {N : Nat} {bs : BS} {e : Env} {a : Act} {s : Nat} {b : Bool} (hf : Fits N bs e a) (h : a.tmps.getD s undef = .bool b) : Fits N bs (know e s b) a := by
 refine ⟨fun p hp => ?_, hf.size, hf.defs⟩
 rcases List.mem_cons.1 hp with rfl | hp
 ·exact h
 ·exact hf.env p hp
theorem fits_cons {N : Nat} {bs : BS} {e : Env} {a : Act} {s : Nat} {x : E0} (hf : Fits N bs e a) (h : e0Ok bs x (a.tmps.getD s undef)) : Fits N bs ((s, .s x) :: e) a := by
 refine ⟨fun p hp => ?_, hf.size, hf.defs⟩
 rcases List.mem_cons.1 hp with rfl | hp
 ·exact h
 ·exact hf.env p hp
def Gone (P : Program) (N : Nat) (priv : List Nat) (wb : WB) (ops : Array Oper) (o : Oper) (bs : BS) (a : Act) (bx : BX) (h : PH) (K : KO) : Prop :=
  ∃ e, Fits N bs e a ∧
    ((Region.wanted o (yielded ops a.tmps) = true ∧ ∃ G, denOp1 P N priv wb o G e bx h K ∧ GT G a ∧ (G = none ∨ lazyOk P o = true)) ∨
     (Region.wanted o (yielded ops a.tmps) = false ∧ denSk N o e bx h K) ∨
     (Region.wanted o (yielded ops a.tmps) = false ∧ lazyOk P o = true ∧ ∃ s b w, denOp1 P N priv wb o (some (s, b, w)) e bx h K ∧ a.tmps.getD s undef = .bool b ∧ b ≠ w))
theorem denG1_ok {P : Program} {N : Nat} {priv : List Nat} {wb : WB} {ops : Array Oper} {o : Oper} {j s : Nat} {x : E0} {want : Bool} {e : Env} {bx : BX} {h : PH} {K : KO} {bs : BS} {a : Act}
  (hh : denG1 P N priv wb o s x want e bx h K) (hg : o.guard = some (j, want)) (hs : slotOf ops j = some s) (hx : e0Ok bs x (a.tmps.getD s undef)) (hf : Fits N bs e a) : Gone P N priv wb ops o bs a bx h K := by
 unfold denG1 at hh
 split at hh
 ·rename_i b
  have hw := wanted_slot hg hs hx
  split at hh
  ·rename_i hb
   exact ⟨e, hf, .inl ⟨by rw [hw, hb], none, hh, trivial, .inl rfl⟩⟩
  ·rename_i hb
   exact ⟨e, hf, .inr (.inl ⟨by rw [hw, hb], hh⟩)⟩
 ·rename_i b
  have hb := hx.1
  have hw := wanted_slot hg hs hb
  split at hh
  ·rename_i hz
   by_cases hbw : b = want
   ·exact ⟨e, hf, .inl ⟨by rw [hw, hbw]; simp, _, hh, ⟨by rw [hb, hbw], hbw⟩, .inr hz⟩⟩
   ·exact ⟨e, hf, .inr (.inr ⟨by rw [hw]; simpa using hbw, hz, s, b, want, hh, hb, hbw⟩)⟩
  ·by_cases hbw : b = want
   ·exact ⟨_, fits_know hf (by rw [hb, hbw]), .inl ⟨by rw [hw, hbw]; simp, none, hh.1 hbw, trivial, .inl rfl⟩⟩
   ·have hbw' : b = !want := by cases b <;> cases want <;> simp at hbw ⊢
    exact ⟨_, fits_know hf (by rw [hb, hbw']), .inr (.inl ⟨by rw [hw]; simpa using hbw, hh.2 hbw'⟩)⟩
 ·exact hh.elim
theorem denGo_ok {P : Program} {N : Nat} {priv : List Nat} {wb : WB} {ops : Array Oper} {o : Oper} {e : Env} {bx : BX} {h : PH} {K : KO} {bs : BS} {a : Act}
  (hh : denGo P N priv wb ops o e bx h K) (hf : Fits N bs e a) : Gone P N priv wb ops o bs a bx h K := by
 unfold denGo at hh
 split at hh
 ·rename_i hg
  exact ⟨e, hf, .inl ⟨by simp [Region.wanted, hg], none, hh, trivial, .inl rfl⟩⟩
 ·rename_i j want hg
  split at hh
  ·exact hh.elim
  ·rename_i s hs
   split at hh
   ·rename_i x hx
    exact denG1_ok hh hg hs (hf.get hx) hf
   ·rename_i s0 w0 x hx
    have hi := hf.get hx
    split at hh
    ·rename_i b0 h0
     have hb := hf.get h0
     split at hh
     ·rename_i hw
      have := beq_iff_eq.1 hw; subst this
      exact denG1_ok hh hg hs (hi.1 hb) (fits_cons hf (hi.1 hb))
     ·rename_i hw
      have hne : b0 ≠ w0 := by simpa using hw
      refine ⟨e, hf, .inr (.inl ⟨wanted_undef hg hs (hi.2 fun e => ?_), hh⟩)⟩
      have hb' : a.tmps.getD s0 undef = .bool b0 := hb
      rw [hb'] at e; cases e; exact hne rfl
    ·rename_i b0 h0
     have hb : a.tmps.getD s0 undef = .bool b0 := (hf.get h0).1
     by_cases hw : b0 = w0
     ·have hb' : a.tmps.getD s0 undef = .bool w0 := by rw [hb, hw]
      exact denG1_ok (hh.1 hw) hg hs (hi.1 hb') (fits_cons (fits_know hf hb') (hi.1 hb'))
     ·have hw' : b0 = !w0 := by cases b0 <;> cases w0 <;> simp at hw ⊢
      refine ⟨_, fits_know hf (by rw [hb, hw']), .inr (.inl ⟨wanted_undef hg hs (hi.2 fun e => ?_), hh.2 hw'⟩)⟩
      rw [hb] at e; cases e; exact hw rfl
    ·exact hh.elim
   ·rename_i hx
    exact ⟨e, hf, .inr (.inl ⟨wanted_undef hg hs (hf.get hx), hh⟩)⟩
   ·exact hh.elim
theorem dstOk_lt {N d : Nat} (h : dstOk N (some d) = true) : d < N := by simpa [dstOk] using h
theorem fits_upd {N : Nat} {bs : BS} {e : Env} {a : Act} {G : Grd} {dst : Option Nat} {r : Rs} {v : Value} (hf : Fits N bs e a) (hd : dstOk N dst = true) (hg : GT G a) (hr : r = .skip ∨ rsOk bs r v) :
  Fits N bs (updE e dst G r) (a.put dst v) := by
 cases dst with
 | none => exact hf
 | some d =>
  have hd := dstOk_lt hd
  have hc := fits_clear hf d v
  unfold updE
  simp only
  split
  ·rcases hr with hr | hr
   ·cases hr
   ·exact fits_put hf hd hr
  ·rename_i x s b w
   split
   ·exact hc
   ·rename_i hs
    have hs := Nat.ne_of_beq_eq_false hs
    have e1 : (a.put (some d) v).tmps.getD s undef = .bool w := by rw [show (a.put (some d) v).tmps.getD s undef = a.tmps.getD s undef from getD_set_ne' hs]; exact hg.1
    rcases hr with hr | hr
    ·cases hr
    ·exact fits_put hf hd ⟨fun _ => hr, fun h => absurd e1 h⟩
  ·rcases hr with hr | hr
   ·cases hr
   ·exact fits_put hf hd hr
  ·exact hc
theorem fits_skip {N : Nat} {bs : BS} {e : Env} {a : Act} {dst : Option Nat} (hf : Fits N bs e a) : Fits N bs (updO e dst) (a.put dst undef) := by
 cases dst with
 | none => exact hf
 | some d =>
  have hc := fits_clear hf d undef
  refine ⟨fun p hp => ?_, hc.size, hc.defs⟩
  rcases List.mem_cons.1 hp with rfl | hp
  ·show (a.put (some d) undef).tmps.getD d undef = undef
   simp only [Act.put, Array.getD_eq_getD_getElem?, Array.getElem?_setIfInBounds]
   by_cases h : d < a.tmps.size <;> simp [h]
  ·exact hc.env p hp
theorem fits_off {N : Nat} {bs : BS} {e : Env} {a : Act} {dst : Option Nat} {s : Nat} {b w : Bool} {x : E0} (hf : Fits N bs e a) (hd : dstOk N dst = true) (hs : a.tmps.getD s undef = .bool b) (hb : b ≠ w) :
  Fits N bs (updE e dst (some (s, b, w)) (.one x)) (a.put dst undef) := by
 cases dst with
 | none => exact hf
 | some d =>
  have hd := dstOk_lt hd
  unfold updE
  simp only
  split
  ·exact fits_clear hf d undef
  ·rename_i hne
   have hne := Nat.ne_of_beq_eq_false hne
   have e1 : (a.put (some d) undef).tmps.getD s undef = .bool b := by rw [show (a.put (some d) undef).tmps.getD s undef = a.tmps.getD s undef from getD_set_ne' hne]; exact hs
   exact fits_put hf hd ⟨fun e => by rw [e1] at e; cases e; exact absurd rfl hb, fun _ => rfl⟩
theorem hp_oper {P : Program} {o : Oper} {a : Act} {g : PH} {w : World} {R : Value → PH → Prop} {K : Act → World → Prop} {Q : Exit → Act → World → Prop} (h : hp P (execOp a.eval o) (nx P R) g) (hi : g.In w)
  (hk : ∀ v g' w', R v g' → Frm g w g' w' → K (a.put o.dst v) w') : o.wp P a w K Q := by
 obtain ⟨n, w', g', hr, hn, hF⟩ := hp_run h hi
 unfold Oper.wp
 rw [hr]
 cases n <;> try exact hn.elim
 case value v => exact hk _ _ _ hn hF
 case skip => exact hk _ _ _ hn hF
 case enter f args =>
  have hc := hn w' hF.inn
  simp only [Array.toArray_toList] at hc
  refine Calls.mono hc ?_
  rintro e w'' ⟨v, h', rfl, hq, hF'⟩
  exact hk _ _ _ hq (hF.trans hF')
theorem lazy_calm {P : Program} {o : Oper} (h : lazyOk P o = true) : calm P o = true := by
 unfold calm
 split
 ·rfl
 ·rfl
 ·rfl
 ·split
  ·rfl
  ·exact h
 ·split
  ·rfl
  ·exact h
 ·exact h
theorem any_ok {P : Program} {N : Nat} {priv : List Nat} {e : Env} {G : Grd} {a : Act} {o : Oper} {bs : BS} {bx : BX} {h g : PH} {K : KK} (hh : denStep P priv o G e bx h K) (hz : G = none ∨ lazyOk P o = true) (hf : Fits N bs e a) (hg : GT G a) (i : Inv bs bx h g) :
  hp P (execOp a.eval o) (nx P (EffPost o bs bx h g K)) g := by
 cases hc : calm P o with
 | false =>
  have hn : G = none := by
   rcases hz with hz | hz
   ·exact hz
   ·rw [lazy_calm hz] at hc; cases hc
  subst hn
  exact eff_ok hh hc hf i
 | true =>
  have ng : grows o = false := by
   obtain ⟨dst, op, type, pos, after, guard⟩ := o
   cases op <;> simp [grows] <;> simp [calm, lazyOk] at hc
  cases hl : isRd P o with
  | false =>
   obtain ⟨r, v, h1, h2, h3⟩ := calm_ok hh hc hl hf hg
   exact ro_hp (h1 g) (EffPost.heap (g := g) h3 i (.inr h2) fun e => by rw [ng] at e; cases e)
  | true =>
   obtain ⟨r, c, v, h1, h2, h3, _, h4⟩ := rd_ok hh hl hf hg i
   refine ro_hp (h4 g h3) ⟨r, some c, [], bx, h, h1, by simpa using i, .inr (by simpa using h2), fun _ _ e _ => e, fun k off n e => ?_, fun e => by rw [ng] at e; cases e⟩
   subst e; exact h2.elim
def OpPost (N : Nat) (h0 : PH) (w0 : World) (wb : WB) (o : Oper) (bs : BS) (bx : BX) (a : Act) (K : KO) (a' : Act) (w' : World) : Prop :=
 ∃ r c e' bs2 bx' h', K r c e' bx' h' ∧ ST N h0 w0 (bs ++ bs2) bx' h' e' a' w' ∧ Keep wb bx bx' ∧ Slots (dstL o.dst) a a'
theorem go_ok {P : Program} {N : Nat} {priv : List Nat} {wb : WB} {ops : Array Oper} {o : Oper} {e : Env} {bx : BX} {h : PH} {K : KO} {bs : BS} {a : Act} {h0 : PH} {w0 w : World} {K' : Act → World → Prop} {Q : Exit → Act → World → Prop}
  (hh : denGo P N priv wb ops o e bx h K) (hs : ST N h0 w0 bs bx h e a w) (hk : ∀ a' w', OpPost N h0 w0 wb o bs bx a K a' w' → K' a' w') :
  if Region.wanted o (yielded ops a.tmps) then o.wp P a w K' Q ∨ (o.asks P a w ∧ LetsOut Q) else K' (a.put o.dst undef) w := by
 obtain ⟨g, i, hF, hf⟩ := hs
 obtain ⟨e, hf, hh⟩ := denGo_ok hh hf
 rcases hh with ⟨hw, G, hd, hg, hz⟩ | ⟨hw, hd⟩ | ⟨hw, hz, s, b, wt, hd, hs, hb⟩
 ·rw [if_pos hw]
  refine .inl ?_
  unfold denOp1 at hd
  split at hd
  ·rename_i hdst
   refine hp_oper (any_ok hd hz hf hg i) hF.inn ?_
   rintro v g' w' ⟨r, c, bs2, bx', h', h1, h2, h3, h4, h5, h6⟩ hF'
   split at h1
   ·rename_i hwok
    refine hk _ _ ⟨r, c, _, bs2, bx', h', h1, ⟨g', h2, hF.trans hF', fits_upd (hf.app bs2) hdst ?_ h3⟩, ?_, Slots.put a o.dst v⟩
    ·exact hg
    ·intro k c0 hk0 hok
     refine h4 k c0 hk0 ?_
     rintro off n ⟨rfl, rfl⟩
     simp only [wOk] at hwok
     rw [hok] at hwok; cases hwok
   ·exact h1.elim
  ·exact hd.elim
 ·rw [if_neg (by simp [hw])]
  unfold denSk at hd
  split at hd
  ·exact hk _ _ ⟨.skip, none, _, [], bx, h, hd, ⟨g, by simpa using i, hF, by simpa using fits_skip hf⟩, Keep.refl _ _, Slots.put a o.dst undef⟩
  ·exact hd.elim
 ·rw [if_neg (by simp [hw])]
  unfold denOp1 at hd
  split at hd
  ·rename_i hdst
   have : ∃ x c, (match wOk wb (.one x) c with
     | true => K (.one x) c (updE e o.dst (some (s, b, wt)) (.one x)) bx h
     | false => False) := by
    cases hl : isLoad o with
    | false => obtain ⟨x, hx⟩ := lazy_any hd hz hl; exact ⟨x, _, hx⟩
    | true =>
     obtain ⟨x, c, hx, _⟩ := load_any (fun k c hc => by obtain ⟨_, _, _, h, _⟩ := i.at hc; exact h) hd hl
     exact ⟨x, _, hx⟩
   obtain ⟨x, c, hx⟩ := this
   rw [show wOk wb (.one x) c = true from by cases c <;> rfl] at hx
   exact hk _ _ ⟨.one x, c, _, [], bx, h, hx, ⟨g, by simpa using i, hF, by simpa using fits_off hf hdst hs hb⟩, Keep.refl _ _, Slots.put a o.dst undef⟩
  ·exact hd.elim
theorem dstL_wr {o : Oper} {r : List Oper} : ∀ t, t ∈ dstL o.dst ++ wrOps r → t ∈ wrOps (o :: r) := fun t h => by
 simp only [wrOps]
 cases hd : o.dst with
 | none => simpa [dstL, hd] using h
 | some d => simpa [dstL, hd] using h
theorem denOps_ok {P : Program} {N : Nat} {priv : List Nat} {wb : WB} {ops : Array Oper} {h0 : PH} {w0 : World} {Q : Exit → Act → World → Prop} : ∀ {l : List Oper} {e : Env} {bx : BX} {h : PH} {K : Env → BX → PH → Prop} {bs : BS} {a : Act} {w : World},
  denOps P N priv wb ops l e bx h K → ST N h0 w0 bs bx h e a w →
  (∀ e' bs2 bx' h' a' w', K e' bx' h' → ST N h0 w0 (bs ++ bs2) bx' h' e' a' w' → Keep wb bx bx' → Slots (wrOps l) a a' → Q .normal a' w') → wpList P ops Q l a w
 | [], e, bx, h, K, bs, a, w, hh, hs, hq => hq e [] bx h a w hh (by simpa using hs) (Keep.refl _ _) (Slots.refl _ _)
 | o :: r, e, bx, h, K, bs, a, w, hh, hs, hq => by
  unfold wpList
  refine go_ok hh hs ?_
  rintro a1 w1 ⟨r1, c1, e1, bs1, bx1, h1, k1, s1, kp1, sl1⟩
  refine denOps_ok k1 s1 ?_
  intro e2 bs2 bx2 h2 a2 w2 k2 s2 kp2 sl2
  exact hq e2 (bs1 ++ bs2) bx2 h2 a2 w2 k2 (by rw [← List.append_assoc]; exact s2) (kp1.trans kp2) ((sl1.trans sl2).sub dstL_wr)
end TL

namespace TL
open Go
abbrev CS := List (Nat × (World → Prop))
def offC (ms : List Nat) (j : Nat) (C : CS) : CS := C.filter fun p => !anc ms j p.1
def wpC (P : Program) (ops : Array Oper) (ms : List Nat) (Q : Exit → Act → World → Prop) : Nat → CS → Array Bool → Act → World → Prop
 | 0, _, listed, a, w => Region.ready .any ops listed = [] ∧ Q .normal a w
 | n + 1, C, listed, a, w => (Region.ready .any ops listed = [] → Q .normal a w) ∧
  ∀ j ∈ Region.ready .any ops listed, wpOp P ops Q j (fun a' w' => (∀ p ∈ offC ms j C, p.2 w') ∧ wpC P ops ms Q n (offC ms j C) (listed.setIfInBounds j true) a' w') a w
section
variable {P : Program} {ops : Array Oper} {ms : List Nat} {Q : Exit → Act → World → Prop}
theorem wpC_any : ∀ {n : Nat} {C : CS} {listed : Array Bool} {a : Act} {w : World}, wpC P ops ms Q n C listed a w → wpAny P .any ops Q n listed a w
 | 0, _, _, _, _, h => h
 | _ + 1, _, _, _, _, h => ⟨h.1, fun j hj => wpOp_mono (fun _ _ x => wpC_any x.2) (h.2 j hj)⟩
theorem offC_sub {C C' : CS} (j : Nat) (h : ∀ p ∈ C', p ∈ C) : ∀ p ∈ offC ms j C', p ∈ offC ms j C := fun p hp => by
 simp only [offC, List.mem_filter] at hp ⊢
 exact ⟨h p hp.1, hp.2⟩
theorem wpC_mono : ∀ {n : Nat} {C C' : CS} {listed : Array Bool} {a : Act} {w : World}, (∀ p ∈ C', p ∈ C) → wpC P ops ms Q n C listed a w → wpC P ops ms Q n C' listed a w
 | 0, _, _, _, _, _, _, h => h
 | _ + 1, _, _, _, _, _, hs, h => ⟨h.1, fun j hj => wpOp_mono (fun _ _ x => ⟨fun p hp => x.1 p (offC_sub j hs p hp), wpC_mono (offC_sub j hs) x.2⟩) (h.2 j hj)⟩
theorem wpC_done {C : CS} {listed : Array Bool} {a : Act} {w : World} (hr : Region.ready .any ops listed = []) (h : Q .normal a w) : ∀ n, wpC P ops ms Q n C listed a w
 | 0 => ⟨hr, h⟩
 | _ + 1 => ⟨fun _ => h, by rw [hr]; simp⟩
def YS (P : Program) (ops : Array Oper) (o : Oper) (S : World → Prop) (v : Value) (a : Act) : Prop :=
 (Region.wanted o (yielded ops a.tmps) = true ∧ ∀ w, S w → (execOp a.eval o).run P w = .ok (.value v) w) ∨
 (Region.wanted o (yielded ops a.tmps) = false ∧ v = undef)
theorem YS.of_same {o : Oper} {S : World → Prop} {v : Value} {a a' : Act} (hy : YS P ops o S v a) (he : execOp a'.eval o = execOp a.eval o)
  (hw : Region.wanted o (yielded ops a'.tmps) = Region.wanted o (yielded ops a.tmps)) : YS P ops o S v a' := by
 unfold YS at *; rw [he, hw]; exact hy
theorem YS.wpOp {i : Nat} {o : Oper} {S : World → Prop} {v : Value} {a : Act} (hi : ops[i]? = some o) (hy : YS P ops o S v a) {K : Act → World → Prop} {w : World} (hs : S w) (h : K (a.put o.dst v) w) : wpOp P ops Q i K a w := by
 unfold Go.wpOp
 simp only [hi]
 rcases hy with ⟨hw, hv⟩ | ⟨hw, rfl⟩
 ·simp only [hw, if_true, Oper.wp, hv w hs, Oper.upon]; exact .inl h
 ·simp only [hw, Bool.false_eq_true, if_false]; exact h
theorem wpOp_behind {j : Nat} {oi oj : Oper} {S : World → Prop} {v : Value} (hj : ops[j]? = some oj) (hap : oi.apart ops oj = true)
  (hsi : ∀ cs b, oi.op ≠ .select cs b) (hsj : ∀ cs b, oj.op ≠ .select cs b) (hQ : ∀ c a w, ¬ Q (.panic c) a w) (hL : ¬ LetsOut Q) {K : Act → World → Prop} {a : Act} {w : World}
  (hy : YS P ops oi S v a) (h : wpOp P ops Q j K (a.put oi.dst v) w) : wpOp P ops Q j (fun a' w' => YS P ops oi S v a' ∧ K (a'.put oi.dst v) w') a w := by
 obtain ⟨h1, h2, h3⟩ := Oper.apart_spec hap
 have keep : ∀ (a : Act), YS P ops oi S v a → ∀ u, YS P ops oi S v (a.put oj.dst u) := fun a hy u =>
  hy.of_same (execOp_put oi hsi a oj.dst u h3) (wanted_put oi a oj.dst u h3)
 unfold Go.wpOp at *
 simp only [hj] at *
 rw [wanted_put oj a oi.dst v h1] at h
 split
 ·rename_i hw
  simp only [hw, if_true] at h
  rcases h with h | ⟨_, hlets⟩
  case inr => exact absurd hlets hL
  refine .inl ?_
  unfold Oper.wp at *
  rw [execOp_put oj hsj a oi.dst v h1] at h
  generalize (execOp a.eval oj).run P w = r at *
  cases r with
  | ok n w' =>
   cases n <;> simp only [Oper.upon] at h ⊢
   case value u => exact ⟨keep a hy u, by rw [← Act.put_comm a v u h2]; exact h⟩
   case skip => exact ⟨keep a hy _, by rw [← Act.put_comm a v undef h2]; exact h⟩
   case defer d =>
    refine ⟨keep _ (hy.of_same (a' := { a with defers := d :: a.defers }) rfl rfl) _, ?_⟩
    rw [← Act.put_comm _ v undef h2, ← Act.put_defers]
    exact h
   case enter f args =>
    refine Calls.mono h fun e w'' he => ?_
    cases e with
    | returned u => exact ⟨keep a hy u, by rw [← Act.put_comm a v u h2]; exact he⟩
    | panicked c => exact absurd he (hQ _ _ _)
    | outgrown => exact he
   case row row args => exact Rows.mono h fun u w'' he => ⟨keep a hy u, by rw [← Act.put_comm a v u h2]; exact he⟩
  | halt x w' =>
   cases x <;> simp only [Oper.upon] at h ⊢
   case panic u => exact absurd h (hQ _ _ _)
 ·rename_i hw
  simp only [hw] at h
  exact ⟨keep a hy _, by rw [← Act.put_comm a v undef h2]; exact h⟩
theorem bit_of {k i : Nat} (h : (1 <<< k).testBit i = true) : k = i := by
 rw [Nat.one_shiftLeft, Nat.testBit_two_pow] at h
 simpa using h
theorem fold_bit {acc : List Nat} {i : Nat} : ∀ {l : List Edge} {m : Nat}, (l.foldl (fun m e => match Region.binds .any e with
      | true => m ||| (1 <<< e.on) ||| acc.getD e.on 0
      | false => m) m).testBit i = true → m.testBit i = true ∨ ∃ e ∈ l, Region.binds .any e = true ∧ (e.on = i ∨ (acc.getD e.on 0).testBit i = true)
  | [], m, h => .inl h
  | e :: l, m, h => by
    simp only [List.foldl_cons] at h
    rcases fold_bit h with h | ⟨e', he, hb, h⟩
    · split at h
      · rename_i hb
        rw [Nat.testBit_or, Nat.testBit_or] at h
        simp only [Bool.or_eq_true] at h
        rcases h with (h | h) | h
        · exact .inl h
        · exact .inr ⟨e, List.mem_cons_self, hb, .inl (bit_of h)⟩
        · exact .inr ⟨e, List.mem_cons_self, hb, .inr h⟩
      · exact .inl h
    · exact .inr ⟨e', List.mem_cons_of_mem _ he, hb, h⟩
theorem getD_app {l : List Nat} {x k : Nat} (h : k < l.length) : (l ++ [x]).getD k 0 = l.getD k 0 := by
 simp only [List.getD]; rw [List.getElem?_append_left h]
theorem masks_pre : ∀ {l : List Oper} {acc : List Nat} {k i : Nat}, (acc.getD k 0).testBit i = true → ((masks l acc).getD k 0).testBit i = true
 | [], _, _, _, h => h
 | o :: l, acc, k, i, h => by
  rw [masks]
  refine masks_pre ?_
  have hk : k < acc.length := by
   rcases Nat.lt_or_ge k acc.length with hk | hk
   ·exact hk
   ·simp [List.getD, hk] at h
  rw [getD_app hk]; exact h
theorem masks_bit : ∀ {l : List Oper} {acc : List Nat} {j i : Nat}, ((masks l acc).getD j 0).testBit i = true → (j < acc.length ∧ (acc.getD j 0).testBit i = true) ∨
  ∃ o, acc.length ≤ j ∧ l[j - acc.length]? = some o ∧ ∃ e ∈ o.after, Region.binds .any e = true ∧ (e.on = i ∨ ((masks l acc).getD e.on 0).testBit i = true)
 | [], acc, j, i, h => by
  refine .inl ⟨?_, h⟩
  simp only [masks] at h
  rcases Nat.lt_or_ge j acc.length with hk | hk
  ·exact hk
  ·simp [List.getD, hk] at h
 | o :: l, acc, j, i, h => by
  rw [masks] at h
  rcases masks_bit h with ⟨h1, h2⟩ | ⟨o', h1, h2, e, he, hb, h3⟩
  ·simp only [List.length_append, List.length_cons, List.length_nil] at h1
   rcases Nat.lt_or_ge j acc.length with hk | hk
   ·refine .inl ⟨hk, ?_⟩
    rw [getD_app hk] at h2; exact h2
   ·have hj : j = acc.length := by omega
    subst hj
    refine .inr ⟨o, Nat.le_refl _, by simp, ?_⟩
    simp only [List.getD, List.getElem?_concat_length, Option.getD_some] at h2
    rcases fold_bit h2 with h2 | ⟨e, he, hb, h2⟩
    ·simp at h2
    ·refine ⟨e, by simpa using he, hb, h2.imp id fun h => ?_⟩
     rw [masks]
     refine masks_pre ?_
     have hk : e.on < acc.length := by
      rcases Nat.lt_or_ge e.on acc.length with hk | hk
      ·exact hk
      ·simp [List.getD, hk] at h
     rw [getD_app hk]; exact h
  ·simp only [List.length_append, List.length_cons, List.length_nil] at h1 h2
   refine .inr ⟨o', by omega, ?_, e, he, hb, ?_⟩
   ·rw [show j - acc.length = (j - (acc.length + (0 + 1))) + 1 by omega]; simpa using h2
   ·rw [masks]; exact h3
theorem anc_edge {j i : Nat} (h : anc (masks ops.toList []) j i = true) : ∃ o, ops[j]? = some o ∧ ∃ e ∈ o.after, Region.binds .any e = true ∧ (e.on = i ∨ anc (masks ops.toList []) e.on i = true) := by
 rcases masks_bit h with ⟨h1, _⟩ | ⟨o, _, h2, h3⟩
 ·simp at h1
 ·exact ⟨o, by simpa using h2, h3⟩
def Closed (ms : List Nat) (listed : Array Bool) : Prop := ∀ j, listed.getD j false = true → ∀ i, anc ms j i = true → listed.getD i false = true
theorem ready_anc {listed : Array Bool} {j i : Nat} (hc : Closed (masks ops.toList []) listed) (hj : j ∈ Region.ready .any ops listed) (ha : anc (masks ops.toList []) j i = true) : listed.getD i false = true := by
 obtain ⟨o, ho, e, he, hb, h⟩ := anc_edge ha
 obtain ⟨_, o', ho', hall⟩ := mem_ready.1 hj
 rw [ho] at ho'; cases ho'
 have := hall e he hb
 rcases h with rfl | h
 ·exact this
 ·exact hc _ this _ h
theorem Closed.set {listed : Array Bool} {j : Nat} (hc : Closed (masks ops.toList []) listed) (hj : j ∈ Region.ready .any ops listed) : Closed (masks ops.toList []) (listed.setIfInBounds j true) := fun k hk i ha => by
 by_cases hjk : j = k
 ·subst hjk; exact getD_set_true (ready_anc hc hj ha)
 ·rw [getD_set_ne false hjk] at hk
  exact getD_set_true (hc k hk i ha)
theorem unlisted {listed : Array Bool} {j : Nat} (hj : j ∈ Region.ready .any ops listed) : listed.getD j false = true → False := fun h => by
 have h0 := (mem_ready.1 hj).1
 rcases Nat.lt_or_ge j listed.size with h' | h'
 ·simp [h'] at h0 h; rw [h0] at h; cases h
 ·simp [Array.getElem?_eq_none h'] at h0
theorem regOk_pair {i j : Nat} (h : regOk P ops ms = true) (hi : i < ops.size) (hj : j < ops.size) (hne : i ≠ j) : pairOk P ops ms i j = true := by
 simp only [regOk, Bool.and_eq_true, List.all_eq_true, List.mem_range] at h
 have := h.2 i hi j hj
 simpa [hne] using this
theorem regOk_sel (h : regOk P ops ms = true) {j : Nat} {o : Oper} (hj : ops[j]? = some o) (cs : Array SelectCase) (b : Bool) : o.op ≠ .select cs b := fun e => by
 simp only [regOk, noSel, Bool.and_eq_true, List.all_eq_true] at h
 have := h.1.2 o (by simpa using Array.mem_of_getElem? hj)
 rw [e] at this; cases this
theorem takeC (hok : regOk P ops (masks ops.toList []) = true) (hQ : ∀ c a w, ¬ Q (.panic c) a w) (hL : ¬ LetsOut Q) {i : Nat} {oi : Oper} {v : Value} {S : World → Prop} (hi : ops[i]? = some oi) :
  ∀ (fuel : Nat) (listed : Array Bool) (C C2 : CS) (a : Act) (w : World), Closed (masks ops.toList []) listed → i ∈ Region.ready .any ops listed → YS P ops oi S v a → S w → (∀ p ∈ C, p.2 w) →
   (∀ p ∈ C, p ∈ C2) → ((∀ w, S w) ∨ (i, S) ∈ C2) → wpC P ops (masks ops.toList []) Q fuel C2 (listed.setIfInBounds i true) (a.put oi.dst v) w → wpC P ops (masks ops.toList []) Q (fuel + 1) C listed a w := by
 intro fuel
 induction fuel with
 | zero =>
  intro listed C C2 a w hcl hr hy hs hC hC2 hS H
  refine ⟨fun h => (by rw [h] at hr; cases hr), fun j hj => ?_⟩
  by_cases hji : j = i
  ·subst hji
   refine hy.wpOp hi hs ⟨fun p hp => hC p ((List.mem_filter.1 hp).1), H⟩
  ·have := ready_mono hj hji
   rw [H.1] at this; cases this
 | succ fuel ih =>
  intro listed C C2 a w hcl hr hy hs hC hC2 hS H
  refine ⟨fun h => (by rw [h] at hr; cases hr), fun j hj => ?_⟩
  by_cases hji : j = i
  ·subst hji
   exact hy.wpOp hi hs ⟨fun p hp => hC p ((List.mem_filter.1 hp).1), wpC_mono (fun p hp => hC2 p ((List.mem_filter.1 hp).1)) H⟩
  ·have h1 := H.2 j (ready_mono hj hji)
   obtain ⟨_, oj, hoj, _⟩ := mem_ready.1 hj
   have nij : anc (masks ops.toList []) i j = false := by
    cases e : anc (masks ops.toList []) i j with
    | false => rfl
    | true => exact (unlisted hj (ready_anc hcl hr e)).elim
   have nji : anc (masks ops.toList []) j i = false := by
    cases e : anc (masks ops.toList []) j i with
    | false => rfl
    | true => exact (unlisted hr (ready_anc hcl hj e)).elim
   have hap : oi.apart ops oj = true := by
    have := regOk_pair hok (Array.getElem?_eq_some_iff.1 hi).1 (Array.getElem?_eq_some_iff.1 hoj).1 (Ne.symm hji)
    simp only [pairOk, hi, hoj, nij, nji, Bool.false_or, Bool.and_eq_true] at this
    exact this.1
   have h2 := wpOp_behind hoj hap (regOk_sel hok hi) (regOk_sel hok hoj) hQ hL hy h1
   refine wpOp_mono ?_ h2
   rintro a' w' ⟨hy', h3, h4⟩
   have hmem : ∀ p ∈ offC (masks ops.toList []) j C, p ∈ offC (masks ops.toList []) j C2 := offC_sub j hC2
   have hCw : ∀ p ∈ offC (masks ops.toList []) j C, p.2 w' := fun p hp => h3 p (hmem p hp)
   refine ⟨hCw, ih (listed.setIfInBounds j true) _ (offC (masks ops.toList []) j C2) a' w' (hcl.set hj) (ready_mono hr (Ne.symm hji)) hy' ?_ hCw hmem ?_ ?_⟩
   ·rcases hS with hS | hS
    ·exact hS w'
    ·exact h3 (i, S) (by simp [offC, hS, nji])
   ·rcases hS with hS | hS
    ·exact .inl hS
    ·exact .inr (by simp [offC, hS, nji])
   ·rw [Array.setIfInBounds_comm _ _ hji]
    exact h4
end
end TL

namespace TL
open Go
def ClOk (bs : BS) (bx : BX) (h : PH) (S : World → Prop) : Cl → Prop
 | .heap p => (∃ hc : PH, hc.Sub h ∧ p hc) ∧ ∀ (w : World) (g hc : PH), g.In w → hc.Sub g → p hc → S w
 | .loc k off n => ∃ (b : Nat) (T : TypeId) (c0 : List Ch), bs[k]? = some (b, T) ∧ nthB bx k = some c0 ∧ off + n ≤ chN c0 ∧
   ∀ (w : World) (g : PH), g.In w → g.rds b off n = some (((flat c0).drop off).take n) → S w
theorem ClOk.holds {bs : BS} {bx : BX} {h g : PH} {S : World → Prop} {c : Cl} {w : World} (hc : ClOk bs bx h S c) (i : Inv bs bx h g) (hi : g.In w) : S w := by
 cases c with
 | heap p =>
  obtain ⟨⟨hc, h1, h2⟩, h3⟩ := hc
  exact h3 w g hc hi (h1.trans i.sub) h2
 | loc k off n =>
  obtain ⟨b, T, c0, h1, h2, h3, h4⟩ := hc
  obtain ⟨b', T', c', e1, e2, e3⟩ := i.rds h2 h3
  rw [h1] at e1; rw [h2] at e2; cases e1; cases e2
  exact h4 w g hi e3
def RelC (bs : BS) (bx : BX) (h : PH) (C : List (Nat × Cl)) (D : CS) : Prop := ∀ p ∈ D, ∃ c, (p.1, c) ∈ C ∧ ClOk bs bx h p.2 c
theorem keepC_mem {ms : List Nat} {i r : Nat} {c : Cl} : ∀ {C : List (Nat × Cl)}, (r, c) ∈ C → anc ms i r = false → (r, c) ∈ keepC ms i C
 | (r', c') :: C, h, ha => by
  simp only [keepC]
  rcases List.mem_cons.1 h with h | h
  ·cases h; rw [ha]; exact List.mem_cons_self
  ·split
   ·exact keepC_mem h ha
   ·exact List.mem_cons_of_mem _ (keepC_mem h ha)
theorem clH_ok {h : PH} {K : Prop} : ∀ {C : List (Nat × Cl)}, clH C h K → K ∧ ∀ r p, (r, Cl.heap p) ∈ C → p h
 | [], hh => ⟨hh, by simp⟩
 | (r, .heap p) :: C, hh => by
  obtain ⟨h1, h2⟩ := clH_ok hh.2
  refine ⟨h1, fun r' p' hm => ?_⟩
  rcases List.mem_cons.1 hm with hm | hm
  ·cases hm; exact hh.1
  ·exact h2 r' p' hm
 | (r, .loc ..) :: C, hh => by
  obtain ⟨h1, h2⟩ := clH_ok (C := C) hh
  refine ⟨h1, fun r' p' hm => ?_⟩
  rcases List.mem_cons.1 hm with hm | hm
  ·cases hm
  ·exact h2 r' p' hm
theorem clL_ok {k off n : Nat} : ∀ {C : List (Nat × Cl)}, clL k off n C = true → ∀ r k' off' n', (r, Cl.loc k' off' n') ∈ C → k ≠ k' ∨ off + n ≤ off' ∨ off' + n' ≤ off
 | [], _ => by simp
 | (r, .heap p) :: C, h => fun r' k' off' n' hm => by
  rcases List.mem_cons.1 hm with hm | hm
  ·cases hm
  ·exact clL_ok (C := C) h r' k' off' n' hm
 | (r, .loc ..) :: C, h => fun r' k' off' n' hm => by
  simp only [clL, Bool.and_eq_true, Bool.or_eq_true, Bool.not_eq_true', Nat.ble_eq] at h
  rcases List.mem_cons.1 hm with hm | hm
  ·cases hm
   rcases h.1 with (h | h) | h
   ·exact .inl (Nat.ne_of_beq_eq_false h)
   ·exact .inr (.inl h)
   ·exact .inr (.inr h)
  ·exact clL_ok (C := C) h.2 r' k' off' n' hm
theorem memL_ok {l : List Nat} {x : Nat} (h : memL l x = true) : x ∈ l := by
 unfold memL at h
 induction l with
 | nil => simp [memN] at h
 | cons y r ih =>
  simp only [memN] at h
  split at h
  ·rename_i hb; rw [Nat.eq_of_beq_eq_true hb]; exact List.mem_cons_self
  ·exact List.mem_cons_of_mem _ (ih h)
theorem subL_ok {l m : List Nat} {x : Nat} (h : subL l m = true) (hx : x ∈ l) : x ∈ m := by
 induction l with
 | nil => cases hx
 | cons y r ih =>
  unfold subL at h
  split at h
  ·rename_i hy
   rcases List.mem_cons.1 hx with rfl | hx
   ·exact memL_ok hy
   ·exact ih h hx
  ·cases h
theorem calm_go {P : Program} {N : Nat} {priv : List Nat} {wb : WB} {ops : Array Oper} {o : Oper} {e : Env} {bx : BX} {h g : PH} {K : KO} {bs : BS} {a : Act} {w : World}
  (hh : denGo P N priv wb ops o e bx h K) (hc : calm P o = true) (i : Inv bs bx h g) (hi : g.In w) (hf : Fits N bs e a) :
  ∃ v S e' r c, K r c e' bx h ∧ YS P ops o S v a ∧ S w ∧ Fits N bs e' (a.put o.dst v) ∧ ((∀ w, S w) ∨ (isRd P o = true ∧ ∃ cl, c = some cl ∧ ClOk bs bx h S cl)) := by
 obtain ⟨e, hf, hh⟩ := denGo_ok hh hf
 rcases hh with ⟨hw, G, hd, hg, hz⟩ | ⟨hw, hd⟩ | ⟨hw, hz, s, b, wt, hd, hs, hb⟩
 ·unfold denOp1 at hd
  split at hd
  ·rename_i hdst
   cases hl : isRd P o with
   | false =>
    obtain ⟨r, v, h1, h2, h3⟩ := calm_ok hd hc hl hf hg
    split at h3
    ·exact ⟨v, fun _ => True, _, r, none, h3, .inl ⟨hw, fun w _ => ro_run (h1 (fun _ => none)) (fun _ _ e => by cases e)⟩, trivial, fits_upd hf hdst hg (.inr h2), .inl fun _ => trivial⟩
    ·exact h3.elim
   | true =>
    obtain ⟨r, c, v, h1, h2, h3, h3', h4⟩ := rd_ok hd hl hf hg i
    split at h1
    ·refine ⟨v, fun w => ∃ g', g'.In w ∧ CG bs bx c g', _, r, some c, h1, .inl ⟨hw, ?_⟩, ⟨g, hi, h3⟩, fits_upd hf hdst hg (.inr h2), .inr ⟨rfl, c, rfl, ?_⟩⟩
     ·rintro w ⟨g', hi', hc'⟩
      exact ro_run (h4 g' hc') hi'
     ·cases c with
      | heap p => exact ⟨⟨h, PH.Sub.refl h, h3'⟩, fun w g hc h1 h2 h3 => ⟨g, h1, hc, h2, h3⟩⟩
      | loc k off n =>
       obtain ⟨c0, h5, h6⟩ := h3'
       obtain ⟨b, T, c1, e1, e2, e3⟩ := h3
       rw [h5] at e2; cases e2
       exact ⟨b, T, c0, e1, h5, h6, fun w g hi hr => ⟨g, hi, b, T, c0, e1, h5, hr⟩⟩
    ·exact h1.elim
  ·exact hd.elim
 ·unfold denSk at hd
  split at hd
  ·exact ⟨undef, fun _ => True, _, .skip, none, hd, .inr ⟨hw, rfl⟩, trivial, fits_skip hf, .inl fun _ => trivial⟩
  ·exact hd.elim
 ·unfold denOp1 at hd
  split at hd
  ·rename_i hdst
   have : ∃ x c, (match wOk wb (.one x) c with
     | true => K (.one x) c (updE e o.dst (some (s, b, wt)) (.one x)) bx h
     | false => False) := by
    cases hl : isLoad o with
    | false => obtain ⟨x, hx⟩ := lazy_any hd hz hl; exact ⟨x, _, hx⟩
    | true =>
     obtain ⟨x, c, hx, _⟩ := load_any (fun k c hc => by obtain ⟨_, _, _, h, _⟩ := i.at hc; exact h) hd hl
     exact ⟨x, _, hx⟩
   obtain ⟨x, c, hx⟩ := this
   rw [show wOk wb (.one x) c = true from by cases c <;> rfl] at hx
   exact ⟨undef, fun _ => True, _, .one x, c, hx, .inr ⟨hw, rfl⟩, trivial, fits_off hf hdst hs hb, .inl fun _ => trivial⟩
  ·exact hd.elim
theorem eff_go {P : Program} {N : Nat} {priv : List Nat} {wb : WB} {ops : Array Oper} {o : Oper} {e : Env} {bx : BX} {h g : PH} {K : KO} {bs : BS} {a : Act} {h0 : PH} {w0 w : World} {K' : Act → World → Prop} {Q : Exit → Act → World → Prop}
  (hh : denGo P N priv wb ops o e bx h K) (hc : calm P o = false) (i : Inv bs bx h g) (hF : Frm h0 w0 g w) (hf : Fits N bs e a)
  (hk : ∀ (a' : Act) (w' : World) (r : Rs) (c : Option Cl) (e' : Env) (bs2 : BS) (bx' : BX) (h' g' : PH), K r c e' bx' h' → Inv (bs ++ bs2) bx' h' g' → Frm h0 w0 g' w' → Fits N (bs ++ bs2) e' a' → Keep wb bx bx' → Slots (dstL o.dst) a a' →
   (∀ k c0, nthB bx k = some c0 → (∀ off n, ¬ (r = .skip ∧ c = some (.loc k off n))) → nthB bx' k = some c0) →
   (∀ k off n, r = .skip → c = some (.loc k off n) → h' = h ∧ ∀ c0, nthB bx k = some c0 → ∃ c1, nthB bx' k = some c1 ∧ chN c1 = chN c0 ∧
    ∀ off' n', (off + n ≤ off' ∨ off' + n' ≤ off) → ((flat c1).drop off').take n' = ((flat c0).drop off').take n') →
   (grows o = true → h.Sub h') → K' a' w') :
  if Region.wanted o (yielded ops a.tmps) then o.wp P a w K' Q ∨ (o.asks P a w ∧ LetsOut Q) else K' (a.put o.dst undef) w := by
 obtain ⟨e, hf, hh⟩ := denGo_ok hh hf
 rcases hh with ⟨hw, G, hd, hg, hz⟩ | ⟨hw, hd⟩ | ⟨hw, hz, s, b, wt, hd, hs, hb⟩
 ·rw [if_pos hw]
  refine .inl ?_
  unfold denOp1 at hd
  split at hd
  ·rename_i hdst
   refine hp_oper (any_ok hd hz hf hg i) hF.inn ?_
   rintro v g' w' ⟨r, c, bs2, bx', h', h1, h2, h3, h4, h5, h6⟩ hF'
   split at h1
   ·rename_i hwok
    refine hk _ _ r c _ bs2 bx' h' g' h1 h2 (hF.trans hF') (fits_upd (hf.app bs2) hdst hg h3) ?_ (Slots.put a o.dst v) h4 h5 h6
    intro k c0 hk0 hok
    refine h4 k c0 hk0 ?_
    rintro off n ⟨rfl, rfl⟩
    simp only [wOk] at hwok
    rw [hok] at hwok; cases hwok
   ·exact h1.elim
  ·exact hd.elim
 ·rw [if_neg (by simp [hw])]
  unfold denSk at hd
  split at hd
  ·exact hk _ _ .skip none _ [] bx h g hd (by simpa using i) hF (by simpa using fits_skip hf) (Keep.refl _ _) (Slots.put a o.dst undef) (fun _ _ e _ => e) (fun _ _ _ _ e => by cases e) fun _ => PH.Sub.refl h
  ·exact hd.elim
 ·rw [lazy_calm hz] at hc; cases hc
theorem offC_anc {ms : List Nat} {i : Nat} {D : CS} {p : Nat × (World → Prop)} (h : p ∈ offC ms i D) : p ∈ D ∧ anc ms i p.1 = false := by
 simpa [offC] using h
theorem bs_app {bs bs2 : BS} {k : Nat} {p : Nat × TypeId} (h : bs[k]? = some p) : (bs ++ bs2)[k]? = some p := by
 rw [List.getElem?_append_left (bs_lt h)]; exact h
theorem wr_mem {ops : Array Oper} {i : Nat} {o : Oper} (h : ops[i]? = some o) : ∀ t ∈ dstL o.dst, t ∈ wrOps ops.toList := fun t ht => by
 have hm : o ∈ ops.toList := by simpa using Array.mem_of_getElem? h
 generalize ops.toList = l at hm
 induction l with
 | nil => cases hm
 | cons x r ih =>
  refine dstL_wr t ?_
  rcases List.mem_cons.1 hm with rfl | hm
  ·exact List.mem_append_left _ ht
  ·exact List.mem_append_right _ (ih hm)
theorem eff_draw {P : Program} {N : Nat} {priv : List Nat} {wb : WB} {ops : Array Oper} {h0 : PH} {w0 : World} {Q : Exit → Act → World → Prop} {listed : Array Bool} {C : List (Nat × Cl)} {e : Env} {bx : BX} {h g : PH} {bs : BS} {a : Act} {w : World} {D : CS} {j n : Nat} {o : Oper}
  {NN : List (Nat × Cl) → Env → BX → PH → Prop} (ho : ops[j]? = some o) (hc : calm P o = false)
  (hh : denGo P N priv wb ops o e bx h (effK (masks ops.toList []) j o C NN)) (i : Inv bs bx h g) (hF : Frm h0 w0 g w) (hf : Fits N bs e a) (hD : RelC bs bx h C D)
  (next : ∀ e' bs2 bx' h' g' a' w', NN (keepC (masks ops.toList []) j C) e' bx' h' → Inv (bs ++ bs2) bx' h' g' → Frm h0 w0 g' w' → Fits N (bs ++ bs2) e' a' → Keep wb bx bx' → Slots (dstL o.dst) a a' →
   RelC (bs ++ bs2) bx' h' (keepC (masks ops.toList []) j C) (offC (masks ops.toList []) j D) → wpC P ops (masks ops.toList []) Q n (offC (masks ops.toList []) j D) (listed.setIfInBounds j true) a' w') :
  wpOp P ops Q j (fun a' w' => (∀ p ∈ offC (masks ops.toList []) j D, p.2 w') ∧ wpC P ops (masks ops.toList []) Q n (offC (masks ops.toList []) j D) (listed.setIfInBounds j true) a' w') a w := by
 unfold wpOp
 rw [ho]
 refine eff_go hh hc i hF hf ?_
 intro a' w' rs c e' bs2 bx' h' g' hK i' hF' hf' kp sl hu hs hg
 have fin : NN (keepC (masks ops.toList []) j C) e' bx' h' →
   (∀ p ∈ D, ∀ c1, (p.1, c1) ∈ C → anc (masks ops.toList []) j p.1 = false → ClOk bs bx h p.2 c1 → ClOk (bs ++ bs2) bx' h' p.2 c1) →
   (∀ p ∈ offC (masks ops.toList []) j D, p.2 w') ∧ wpC P ops (masks ops.toList []) Q n (offC (masks ops.toList []) j D) (listed.setIfInBounds j true) a' w' := fun hden hcl' => by
  have hrel : RelC (bs ++ bs2) bx' h' (keepC (masks ops.toList []) j C) (offC (masks ops.toList []) j D) := fun p hp => by
   obtain ⟨h1, h2⟩ := offC_anc hp
   obtain ⟨c1, h3, h4⟩ := hD p h1
   exact ⟨c1, keepC_mem h3 h2, hcl' p h1 c1 h3 h2 h4⟩
  refine ⟨fun p hp => ?_, next _ _ _ _ _ _ _ hden i' hF' hf' kp sl hrel⟩
  obtain ⟨c1, _, h2⟩ := hrel p hp
  exact h2.holds i' hF'.inn
 unfold effK at hK
 split at hK
 ·rename_i hgr
  refine fin hK fun p _ c1 _ _ hcl1 => ?_
  cases c1 with
  | heap q => obtain ⟨⟨hc0, h1, h2⟩, h3⟩ := hcl1; exact ⟨⟨hc0, h1.trans (hg hgr), h2⟩, h3⟩
  | loc k off n =>
   obtain ⟨b, T, c0, h1, h2, h3, h4⟩ := hcl1
   exact ⟨b, T, c0, bs_app h1, hu k c0 h2 (fun _ _ e => by cases e.2), h3, h4⟩
 ·rename_i k off n
  split at hK
  ·rename_i hcl0
   obtain ⟨rfl, hs2⟩ := hs k off n rfl rfl
   refine fin hK fun p _ c1 hm ha hcl1 => ?_
   cases c1 with
   | heap q => exact hcl1
   | loc k' off' n' =>
    obtain ⟨b, T, c0, h1, h2, h3, h4⟩ := hcl1
    by_cases hkk : k = k'
    ·subst hkk
     obtain ⟨c1, e1, e2, e3⟩ := hs2 c0 h2
     have hd := clL_ok hcl0 _ _ _ _ (keepC_mem hm ha)
     have hd : off + n ≤ off' ∨ off' + n' ≤ off := hd.resolve_left (fun h => h rfl)
     exact ⟨b, T, c1, bs_app h1, e1, by omega, fun w g hi hr => h4 w g hi (by rw [hr, e3 _ _ hd])⟩
    ·exact ⟨b, T, c0, bs_app h1, hu k' c0 h2 (fun _ _ e => by cases e.2; exact hkk rfl), h3, h4⟩
  ·exact hK.elim
 ·rename_i hn2 hn1
  obtain ⟨hden, hcH⟩ := clH_ok hK
  refine fin hden fun p _ c1 hm ha hcl1 => ?_
  cases c1 with
  | heap q => exact ⟨⟨h', PH.Sub.refl _, hcH _ _ (keepC_mem hm ha)⟩, hcl1.2⟩
  | loc k off n =>
   obtain ⟨b, T, c0, h1, h2, h3, h4⟩ := hcl1
   exact ⟨b, T, c0, bs_app h1, hu k c0 h2 (fun off n e => hn2 k off n e.1 e.2), h3, h4⟩
theorem draw_ok {P : Program} {N : Nat} {priv : List Nat} {wb : WB} {ops : Array Oper} {h0 : PH} {w0 : World} {Q : Exit → Act → World → Prop} (hok : regOk P ops (masks ops.toList []) = true)
  (hQ : ∀ c a w, ¬ Q (.panic c) a w) (hL : ¬ LetsOut Q) : ∀ {r : Ord} {seen : List Nat} {listed : Array Bool} {C : List (Nat × Cl)} {e : Env} {bx : BX} {h g : PH} {K : Env → BX → PH → Prop} {bs : BS} {a : Act} {w : World} {D : CS},
  denDraw P N priv wb ops (masks ops.toList []) r seen listed C e bx h K → Inv bs bx h g → Frm h0 w0 g w → Fits N bs e a → Closed (masks ops.toList []) listed → RelC bs bx h C D →
  (∀ e' bs2 bx' h' a' w', K e' bx' h' → ST N h0 w0 (bs ++ bs2) bx' h' e' a' w' → Keep wb bx bx' → Slots (wrOps ops.toList) a a' → Q .normal a' w') → ∀ n, r.dep ≤ n →
  (seen = [] → wpC P ops (masks ops.toList []) Q n D listed a w) ∧ (∀ m, n = m + 1 → ((seen = [] ∧ ∃ i o, (∃ s, r = .one i s) ∧ ops[i]? = some o ∧ calm P o = true) ∨ ∀ j ∈ Region.ready .any ops listed, j ∉ seen →
   wpOp P ops Q j (fun a' w' => (∀ p ∈ offC (masks ops.toList []) j D, p.2 w') ∧ wpC P ops (masks ops.toList []) Q m (offC (masks ops.toList []) j D) (listed.setIfInBounds j true) a' w') a w))
 | .nil, seen, listed, C, e, bx, h, g, K, bs, a, w, D, hh, i, hF, hf, hcl, hD, hq, n, hn => by
  unfold denDraw at hh
  split at hh
  ·rename_i hr
   refine ⟨fun _ => wpC_done hr (hq e [] bx h a w hh ⟨g, by simpa using i, hF, by simpa using hf⟩ (Keep.refl _ _) (Slots.refl _ _)) _, fun m _ => .inr fun j hj => ?_⟩
   rw [hr] at hj; cases hj
  ·exact hh.elim
 | .one j r, seen, listed, C, e, bx, h, g, K, bs, a, w, D, hh, i, hF, hf, hcl, hD, hq, n, hn => by
  unfold denDraw at hh
  split at hh
  ·exact hh.elim
  ·rename_i o ho
   have hwr := wr_mem ho
   obtain ⟨n, rfl⟩ : ∃ m, n = m + 1 := ⟨n - 1, by simp only [Ord.dep] at hn; omega⟩
   have hn' : r.dep ≤ n := by simp only [Ord.dep] at hn; omega
   split at hh
   ·rename_i hc
    split at hh
    ·rename_i hr
     have hr := memL_ok hr
     refine ⟨fun _ => ?_, fun m _ => .inl ⟨rfl, j, o, ⟨r, rfl⟩, ho, hc⟩⟩
     obtain ⟨v, S, e', rs, c, hK, hy, hS, hf', hx⟩ := calm_go hh hc i hF.inn hf
     have hq' : ∀ e' bs2 bx' h' a' w', K e' bx' h' → ST N h0 w0 (bs ++ bs2) bx' h' e' a' w' → Keep wb bx bx' → Slots (wrOps ops.toList) (a.put o.dst v) a' → Q .normal a' w' := fun e2 bs2 bx2 h2 a2 w2 k2 s2 kp sl =>
      hq e2 bs2 bx2 h2 a2 w2 k2 s2 kp (((Slots.put a o.dst v).trans sl).sub fun t ht => by
       rcases List.mem_append.1 ht with ht | ht
       ·exact hwr t ht
       ·exact ht)
     have hDw : ∀ p ∈ D, p.2 w := fun p hp => by
      obtain ⟨c, _, hc⟩ := hD p hp
      exact hc.holds i hF.inn
     have hadd : ∀ q ∈ C, q ∈ addC P j o c C := fun q hq => by
      unfold addC
      split
      ·exact List.mem_cons_of_mem _ hq
      ·exact hq
     rcases hx with hx | ⟨hl, cl, rfl, hx⟩
     ·exact takeC hok hQ hL ho n listed D D a w hcl hr hy hS hDw (fun _ h => h) (.inl hx)
       ((draw_ok hok hQ hL hK i hF hf' (hcl.set hr) (fun p hp => by obtain ⟨c, h1, h2⟩ := hD p hp; exact ⟨c, hadd _ h1, h2⟩) hq' n hn').1 rfl)
     ·refine takeC hok hQ hL ho n listed D ((j, S) :: D) a w hcl hr hy hS hDw (fun _ h => List.mem_cons_of_mem _ h) (.inr List.mem_cons_self)
       ((draw_ok hok hQ hL hK i hF hf' (hcl.set hr) (fun p hp => ?_) hq' n hn').1 rfl)
      rcases List.mem_cons.1 hp with rfl | hp
      ·exact ⟨cl, by simp [addC, hl], hx⟩
      ·obtain ⟨c, h1, h2⟩ := hD p hp; exact ⟨c, hadd _ h1, h2⟩
    ·exact hh.elim
   ·rename_i hc
    split at hh
    ·rename_i hr hsub
     have hr := memL_ok hr
     have step : wpOp P ops Q j (fun a' w' => (∀ p ∈ offC (masks ops.toList []) j D, p.2 w') ∧ wpC P ops (masks ops.toList []) Q n (offC (masks ops.toList []) j D) (listed.setIfInBounds j true) a' w') a w := by
      refine eff_draw ho hc hh i hF hf hD ?_
      intro e' bs2 bx' h' g' a' w' hden i' hF' hf' kp sl hrel
      refine (draw_ok hok hQ hL hden i' hF' hf' (hcl.set hr) hrel (fun e2 bs3 bx2 h2 a2 w2 k2 s2 kp2 sl2 => ?_) n hn').1 rfl
      exact hq e2 (bs2 ++ bs3) bx2 h2 a2 w2 k2 (by rw [← List.append_assoc]; exact s2) (kp.trans kp2) ((sl.trans sl2).sub fun t ht => by
       rcases List.mem_append.1 ht with ht | ht
       ·exact hwr t ht
       ·exact ht)
     have all : ∀ j' ∈ Region.ready .any ops listed, j' ∉ seen → j' = j := fun j' hj' hns => by
      rcases List.mem_cons.1 (subL_ok hsub hj') with h | h
      ·exact h
      ·exact absurd h hns
     refine ⟨fun hs => ⟨fun h => (by rw [h] at hr; cases hr), fun j' hj' => ?_⟩, fun m hm => .inr fun j' hj' hns => ?_⟩
     ·obtain rfl := all j' hj' (by rw [hs]; simp)
      exact step
     ·obtain rfl := all j' hj' hns
      obtain rfl : n = m := by omega
      exact step
    ·exact hh.elim
 | .alt j r s, seen, listed, C, e, bx, h, g, K, bs, a, w, D, hh, i, hF, hf, hcl, hD, hq, n, hn => by
  unfold denDraw at hh
  split at hh
  ·exact hh.elim
  ·rename_i o ho
   have hwr := wr_mem ho
   obtain ⟨n, rfl⟩ : ∃ m, n = m + 1 := ⟨n - 1, by simp only [Ord.dep] at hn; omega⟩
   have hn1 : r.dep ≤ n := by simp only [Ord.dep] at hn; omega
   have hn2 : s.dep ≤ n + 1 := by simp only [Ord.dep] at hn; omega
   split at hh
   ·rename_i hc hr
    have hr := memL_ok hr
    obtain ⟨hh1, hh2⟩ := hh
    have step : wpOp P ops Q j (fun a' w' => (∀ p ∈ offC (masks ops.toList []) j D, p.2 w') ∧ wpC P ops (masks ops.toList []) Q n (offC (masks ops.toList []) j D) (listed.setIfInBounds j true) a' w') a w := by
     refine eff_draw ho hc hh1 i hF hf hD ?_
     intro e' bs2 bx' h' g' a' w' hden i' hF' hf' kp sl hrel
     refine (draw_ok hok hQ hL hden i' hF' hf' (hcl.set hr) hrel (fun e2 bs3 bx2 h2 a2 w2 k2 s2 kp2 sl2 => ?_) n hn1).1 rfl
     exact hq e2 (bs2 ++ bs3) bx2 h2 a2 w2 k2 (by rw [← List.append_assoc]; exact s2) (kp.trans kp2) ((sl.trans sl2).sub fun t ht => by
      rcases List.mem_append.1 ht with ht | ht
      ·exact hwr t ht
      ·exact ht)
    have rest := (draw_ok hok hQ hL hh2 i hF hf hcl hD hq (n + 1) hn2).2 n rfl
    have rest : ∀ j' ∈ Region.ready .any ops listed, j' ∉ j :: seen → _ := rest.resolve_left fun h => by cases h.1
    have all : ∀ j' ∈ Region.ready .any ops listed, j' ∉ seen → wpOp P ops Q j' (fun a' w' => (∀ p ∈ offC (masks ops.toList []) j' D, p.2 w') ∧ wpC P ops (masks ops.toList []) Q n (offC (masks ops.toList []) j' D) (listed.setIfInBounds j' true) a' w') a w := fun j' hj' hns => by
     by_cases hjj : j' = j
     ·subst hjj; exact step
     ·exact rest j' hj' (by simp [hjj, hns])
    refine ⟨fun hs => ⟨fun h => (by rw [h] at hr; cases hr), fun j' hj' => all j' hj' (by rw [hs]; simp)⟩, fun m hm => .inr ?_⟩
    obtain rfl : n = m := by omega
    exact all
   ·exact hh.elim
end TL

namespace TL
open Go
def LW (P : Program) (c : Code) (Q : Exit → Act → World → Prop) (a : Act) (w : World) : Prop :=
 ∀ (b : Frame) (k : List Item) (cs : List Frame), ∃ e a' w', Q e a' w' ∧ Arrives P (lone (b.at a (.code c :: .inLoop c :: k)) cs w) b k cs e a' w'
theorem LW.round {P : Program} {c : Code} {Q : Exit → Act → World → Prop} {a : Act} {w : World} (h : c.wp P (Exit.then (LW P c Q) Q) a w) : LW P c Q a w := by
 intro b k cs
 obtain ⟨e, a₁, w₁, hq, harr⟩ := h b (.inLoop c :: k) cs
 cases e with
 | normal =>
  obtain ⟨e₂, a₂, w₂, hq₂, harr₂⟩ := hq b k cs
  exact ⟨e₂, a₂, w₂, hq₂, .of_steps (Steps.trans harr (.one step_inLoop)) harr₂⟩
 | exit id => exact ⟨_, a₁, w₁, hq, .pass (x := .inLoop c) rfl (fun _ _ => .inl (by simp)) harr⟩
 | goto l => exact ⟨_, a₁, w₁, hq, .pass (x := .inLoop c) rfl (fun _ _ => .inl (by simp)) harr⟩
 | ret => exact ⟨_, a₁, w₁, hq, .pass (x := .inLoop c) rfl (fun _ _ => .inl (by simp)) harr⟩
 | panic ch => exact ⟨_, a₁, w₁, hq, .pass (x := .inLoop c) rfl (fun _ _ => .inl (by simp)) harr⟩
 | outgrown => exact ⟨_, a₁, w₁, hq, .pass (x := .inLoop c) rfl (fun _ _ => .inl (by simp)) harr⟩
theorem LW.loop {P : Program} {c : Code} {Q : Exit → Act → World → Prop} {a : Act} {w : World} (h : LW P c Q a w) : (Code.loop c).wp P Q a w := fun b k cs => by
 obtain ⟨e, a', w', hq, harr⟩ := h b k cs
 exact ⟨e, a', w', hq, .of_steps (.one step_loop) harr⟩
open Classical in
noncomputable def PH.less (g : PH) (bs2 : BS) : PH := fun x => if ∃ (k : Nat) (T : TypeId), bs2[k]? = some (x, T) then none else g x
theorem PH.less_sub {g : PH} {bs2 : BS} {b : Nat} {o : Obj} (h : g.less bs2 b = some o) : g b = some o := by
 unfold PH.less at h; split at h
 ·cases h
 ·exact h
theorem Frm.less {h0 : PH} {w0 w : World} {g : PH} (hF : Frm h0 w0 g w) (bs2 : BS) : Frm h0 w0 (g.less bs2) w :=
 ⟨fun b o h => hF.inn b o (PH.less_sub h), hF.size, fun b hb h => ⟨by
  have := (hF.old b hb h).1
  unfold PH.less; split
  ·rfl
  ·exact this, (hF.old b hb h).2⟩, hF.os, hF.out⟩
theorem Inv.less {bs bs2 : BS} {bx' bx2 : BX} {h g : PH} (i : Inv (bs ++ bs2) bx' h g) (hl : bx2.length = bs.length) (hb : ∀ k c, nthB bx2 k = some c → ∃ c1, nthB bx' k = some c1 ∧ flat c = flat c1 ∧ chOk c) :
  Inv bs bx2 h (g.less bs2) := by
 have keep : ∀ (k b : Nat) (T : TypeId), bs[k]? = some (b, T) → g.less bs2 b = g b := fun k b T hk => by
  unfold PH.less
  rw [if_neg]
  rintro ⟨j, T', hj⟩
  have h1 := i.nd k (bs.length + j) b T b T' (bs_app hk) (by rw [List.getElem?_append_right (by omega)]; simpa using hj) rfl
  have := bs_lt hk
  omega
 refine ⟨hl.symm, fun a b x T y T' h1 h2 => i.nd a b x T y T' (bs_app h1) (bs_app h2), fun k b T hk => i.out k b T (bs_app hk), fun k b T c hk hc => ?_, fun x hx => ?_⟩
 ·obtain ⟨c1, h1, h2, h3⟩ := hb k c hc
  refine ⟨h3, ?_⟩
  rw [keep k b T hk, h2]
  exact (i.box k b T c1 (bs_app hk) h1).2
 ·unfold PH.less
  split
  ·rename_i hex
   obtain ⟨j, T, hj⟩ := hex
   rw [i.out (bs.length + j) x T (by rw [List.getElem?_append_right (by omega)]; simpa using hj)]
  ·rename_i hex
   refine i.off x fun k b T hk e => ?_
   subst e
   rcases Nat.lt_or_ge k bs.length with hlt | hge
   ·exact hx k x T (by rw [List.getElem?_append_left hlt] at hk; exact hk) rfl
   ·exact hex ⟨k - bs.length, T, by rw [List.getElem?_append_right hge] at hk; exact hk⟩
theorem enc_dec : ∀ {l : List TCh} {cs : List Ch} {x : tupT l}, decT l cs = some x → encT l x = cs
 | [], [], _, _ => rfl
 | .one t :: r, .one v :: cs, x, h => by
  simp only [decT] at h
  split at h
  ·rename_i y z h1 h2
   cases h
   simp only [encT]
   rw [enc_dec h2]
   congr 2
   cases t <;> cases v <;> simp only [decY, Option.some.injEq, reduceCtorEq] at h1 <;> first | (subst h1; rfl) | (split at h1 <;> first | (rename_i hk; cases h1; rw [kEq_eq hk]; rfl) | cases h1)
  ·cases h
 | .ints k n :: r, .ints k' n' l :: cs, x, h => by
  simp only [decT] at h
  split at h
  ·rename_i y h1 h2 h3
   cases h
   simp only [encT]
   rw [enc_dec h3, kEq_eq h1, Nat.eq_of_beq_eq_true h2]
  ·cases h
 | .raw n :: r, .raw n' l :: cs, x, h => by
  simp only [decT] at h
  split at h
  ·rename_i y h1 h2
   cases h
   simp only [encT]
   rw [enc_dec h2, Nat.eq_of_beq_eq_true h1]
  ·cases h
theorem slV_ok {N : Nat} {bs : BS} {e : Env} {a : Act} {s : Nat} {v : Value} (h : slV e s = some v) (hf : Fits N bs e a) : a.tmps.getD s undef = v ∧ one1 v = true := by
 unfold slV at h
 split at h
 ·rename_i x hx
  have ho : e0Ok bs x (a.tmps.getD s undef) := hf.get hx
  split at h
  ·cases h; obtain ⟨e, h1⟩ := ho; exact ⟨e, h1⟩
  ·cases h; exact ⟨ho, rfl⟩
  ·cases h; obtain ⟨e, h1⟩ := ho; exact ⟨e, h1⟩
  ·cases h
 ·cases h
theorem slVs_ok {N : Nat} {bs : BS} {e base : Env} {a : Act} (hf : Fits N bs e a) : ∀ {sl : List (Nat × Ty)} {cs b : List Ch}, slVs e sl = some cs →
  cs.length = sl.length ∧ ∀ p ∈ eHead base sl (cs ++ b), p ∈ base ∨ evOk a.tmps bs p.2 (a.tmps.getD p.1 undef)
 | [], cs, b, h => by
  simp [slVs] at h; subst h
  refine ⟨rfl, fun p hp => .inl ?_⟩
  simpa [eHead] using hp
 | (s, t) :: r, cs, b, h => by
  simp only [slVs] at h
  split at h
  ·rename_i v cs' h1 h2
   cases h
   obtain ⟨h3, h4⟩ := slVs_ok (base := base) (b := b) hf h2
   refine ⟨by simp [h3], fun p hp => ?_⟩
   obtain ⟨e1, e2⟩ := slV_ok h1 hf
   simp only [List.cons_append, eHead] at hp
   rcases List.mem_cons.1 hp with rfl | hp
   ·refine .inr ?_
    cases hq : isFn t
    ·exact ⟨e1, e2⟩
    ·exact ⟨e1, e2⟩
   ·exact h4 p hp
  ·cases h
theorem normB_ok : ∀ {ts : List TCh} {c c' : List Ch}, normB ts c = some c' → chOk c → flat c' = flat c ∧ chOk c' ∧ c'.length = ts.length
 | [], [], c', h, _ => by simp [normB] at h; subst h; exact ⟨rfl, trivial, rfl⟩
 | .one _ :: r, .one v :: cs, c', h, ho => by
  simp only [normB] at h
  split at h
  ·rename_i x hx
   cases h
   obtain ⟨h1, h2, h3⟩ := normB_ok hx ho.2
   exact ⟨by simp [flat, h1], ⟨ho.1, h2⟩, by simp [h3]⟩
  ·cases h
 | .ints k n :: r, cs, c', h, ho => by
  simp only [normB] at h
  split at h
  ·rename_i a b hs
   obtain ⟨s1, s2, s3, s4⟩ := chSplit_ok hs ho
   split at h
   ·rename_i l x hl hx
    cases h
    obtain ⟨h1, h2, h3⟩ := normB_ok hx s4
    obtain ⟨r1, r2⟩ := rowOf_ok hl s2 s3
    exact ⟨by simp [flat, h1, s1, r1], ⟨r2, h2⟩, by simp [h3]⟩
   ·cases h
  ·cases h
 | .raw n :: r, .raw m l :: cs, c', h, ho => by
  simp only [normB] at h
  split at h
  ·rename_i x hx
   split at h
   ·cases h
    obtain ⟨h1, h2, h3⟩ := normB_ok hx ho.2.2
    exact ⟨by simp [flat, h1], ⟨ho.1, ho.2.1, h2⟩, by simp [h3]⟩
   ·cases h
  ·cases h
theorem bHead_len : ∀ {l : List (Nat × List TCh)} {bx : BX} {cs : List Ch}, (bHead bx l cs).length = bx.length
 | [], _, _ => rfl
 | (k, ts) :: r, bx, cs => by simp only [bHead]; rw [bHead_len, setB_len]
theorem bHead_keep : ∀ {l : List (Nat × List TCh)} {bx : BX} {cs : List Ch} {k : Nat}, k ∉ l.map (·.1) → nthB (bHead bx l cs) k = nthB bx k
 | [], _, _, _, _ => rfl
 | (k0, ts) :: r, bx, cs, k, h => by
  simp only [List.map_cons, List.mem_cons, not_or] at h
  simp only [bHead]
  rw [bHead_keep h.2, nthB_setB, if_neg (fun e => h.1 e.1)]
theorem bHead_ok {bx' : BX} (hok : ∀ k c, nthB bx' k = some c → chOk c) : ∀ {l : List (Nat × List TCh)} {bx : BX} {cs : List Ch}, boVs bx' l = some cs →
  (∀ k c, nthB bx k = some c → k ∈ l.map (·.1) ∨ ∃ c1, nthB bx' k = some c1 ∧ flat c = flat c1 ∧ chOk c) →
  ∀ k c, nthB (bHead bx l cs) k = some c → ∃ c1, nthB bx' k = some c1 ∧ flat c = flat c1 ∧ chOk c
 | [], bx, cs, _, hb, k, c, hc => (hb k c hc).resolve_left (by simp)
 | (k0, ts) :: r, bx, cs, h, hb, k, c, hc => by
  simp only [boVs] at h
  split at h
  ·rename_i c0 cs' h1 h2
   split at h
   ·rename_i c' hn
    cases h
    obtain ⟨n1, n2, n3⟩ := normB_ok hn (hok _ _ h1)
    simp only [bHead] at hc
    rw [← n3] at hc
    simp only [List.take_left, List.drop_left] at hc
    refine bHead_ok hok h2 ?_ k c hc
    intro k1 c1 hc1
    rw [nthB_setB] at hc1
    split at hc1
    ·rename_i e
     cases hc1
     obtain ⟨rfl, _⟩ := e
     exact .inr ⟨c0, h1, n1, n2⟩
    ·rename_i e
     rcases hb k1 c1 hc1 with h3 | h3
     ·simp only [List.map_cons, List.mem_cons] at h3
      rcases h3 with rfl | h3
      ·exact absurd ⟨rfl, nthB_some_lt hc1⟩ e
      ·exact .inl h3
     ·exact .inr h3
   ·cases h
  ·cases h
theorem memN_iff {l : List Nat} {x : Nat} : memN l x = true ↔ x ∈ l := by
 induction l with
 | nil => simp [memN]
 | cons y r ih =>
  simp only [memN, List.mem_cons]
  split
  ·rename_i hb; simp [Nat.eq_of_beq_eq_true hb]
  ·rename_i hb
   rw [ih]
   exact ⟨.inr, fun h => h.resolve_left fun e => Nat.ne_of_beq_eq_false hb e.symm⟩
theorem memN_not {l : List Nat} {x : Nat} (h : memN l x = false) : x ∉ l := fun hm => by
 rw [memN_iff.2 hm] at h; cases h
theorem eBase_ok {W : List Nat} : ∀ {e : Env} {p : Nat × EV}, p ∈ eBase W e → p ∈ e ∧ p.1 ∉ W ∧ ((∃ y, p.2 = .s y) ∨ ∃ y, p.2 = .tup y)
 | (t, x) :: r, p, h => by
  simp only [eBase] at h
  split at h
  ·rename_i y hm
   rcases List.mem_cons.1 h with rfl | h
   ·exact ⟨List.mem_cons_self, memN_not hm, .inl ⟨_, rfl⟩⟩
   ·obtain ⟨h1, h2, h3⟩ := eBase_ok h; exact ⟨List.mem_cons_of_mem _ h1, h2, h3⟩
  ·rename_i y hm
   rcases List.mem_cons.1 h with rfl | h
   ·exact ⟨List.mem_cons_self, memN_not hm, .inr ⟨_, rfl⟩⟩
   ·obtain ⟨h1, h2, h3⟩ := eBase_ok h; exact ⟨List.mem_cons_of_mem _ h1, h2, h3⟩
  ·obtain ⟨h1, h2, h3⟩ := eBase_ok h; exact ⟨List.mem_cons_of_mem _ h1, h2, h3⟩
theorem agVs_ok {N : Nat} {bs : BS} {e base : Env} {a : Act} (hf : Fits N bs e a) : ∀ {l : List (Nat × List TCh)} {cs b : List Ch}, agVs e l = some cs →
  cs.length = lenA l ∧ ∀ p ∈ eHeadA base l (cs ++ b), p ∈ base ∨ ∃ c, p.2 = .s (.agg c) ∧ chOk c ∧ a.tmps.getD p.1 undef = .agg (flat c).toArray
 | [], cs, b, h => by
  simp [agVs] at h; subst h
  exact ⟨rfl, fun p hp => .inl (by simpa [eHeadA] using hp)⟩
 | (s, ts) :: r, cs, b, h => by
  simp only [agVs] at h
  split at h
  ·rename_i c cs' h1 h2
   split at h
   ·rename_i c' hn
    cases h
    obtain ⟨h3, h4⟩ := hf.get h1
    obtain ⟨n1, n2, n3⟩ := normB_ok hn h3
    obtain ⟨i1, i2⟩ := agVs_ok (base := base) (b := b) hf h2
    refine ⟨by simp [lenA, n3, i1], fun p hp => ?_⟩
    simp only [eHeadA] at hp
    rw [← n3, List.append_assoc, List.take_left, List.drop_left] at hp
    rcases List.mem_cons.1 hp with rfl | hp
    ·exact .inr ⟨c', rfl, n2, by rw [n1]; exact h4⟩
    ·exact i2 p hp
   ·cases h
  ·cases h
def hdWB (d : Hd) (n : Nat) : WB := ⟨d.bo.map (·.1), n⟩
theorem to_head {N : Nat} {h0 : PH} {w0 : World} {d : Hd} {bs bs2 : BS} {e0 e' : Env} {a0 a' : Act} {bx bx' : BX} {h' : PH} {w' : World} {W : List Nat} {x : tupT (hdT d)}
  (hf0 : Fits N bs e0 a0) (hl : bx.length = bs.length) (hb0 : ∀ k c, nthB bx k = some c → chOk c) (hs : ST N h0 w0 (bs ++ bs2) bx' h' e' a' w') (hk : Keep (hdWB d bx.length) bx bx') (hsl : Slots W a0 a') (hx : hdOf d e' bx' = some x) :
  ST N h0 w0 bs (hdB d bx (encT (hdT d) x)) h' (hdE d (eBase W e0) (encT (hdT d) x)) a' w' := by
 obtain ⟨g, i, hF, hf⟩ := hs
 unfold hdOf at hx
 split at hx
 ·rename_i ca cg cb h1 hg1 h2
  have hx := enc_dec hx
  obtain ⟨s1, s2⟩ := slVs_ok (base := eBase W e0) (b := cg ++ cb) hf h1
  obtain ⟨t1, t2⟩ := agVs_ok (base := eBase W e0) (b := cb) hf hg1
  unfold hdE hdB
  rw [hx, ← s1, List.drop_left, ← t1, List.drop_left]
  have hok' : ∀ k c, nthB bx' k = some c → chOk c := fun k c hc => by obtain ⟨_, _, _, h, _⟩ := i.at hc; exact h
  refine ⟨g.less bs2, i.less (by rw [bHead_len, hl]) (bHead_ok hok' h2 ?_), hF.less bs2, fun p hp => ?_, hf.size, hf.defs⟩
  ·intro k c hc
   by_cases hm : k ∈ d.bo.map (·.1)
   ·exact .inl hm
   ·refine .inr ⟨c, hk k c hc ?_, rfl, hb0 k c hc⟩
    unfold okW hdWB
    have h5 : Nat.ble bx.length k = false := by
     have := nthB_some_lt hc
     cases e : Nat.ble bx.length k with
     | false => rfl
     | true => have := Nat.le_of_ble_eq_true e; omega
    simp only [h5]
    cases e : memN (d.bo.map (·.1)) k with
    | false => rfl
    | true => exact absurd (memN_iff.1 e) hm
  ·have base : p ∈ eBase W e0 → evOk a'.tmps bs p.2 (a'.tmps.getD p.1 undef) := fun hp => by
    obtain ⟨m1, m2, m3⟩ := eBase_ok hp
    have := hf0.env p m1
    rw [hsl _ m2]
    rcases m3 with ⟨y, hy⟩ | ⟨y, hy⟩ <;> rw [hy] at this ⊢ <;> exact this
   have : ∀ {base : Env} {sl : List (Nat × Ty)} {cs b : List Ch}, slVs e' sl = some cs → ∀ p ∈ eHead base sl (cs ++ b), p ∈ base ∨ ∃ v, (p.2 = .s (.v v) ∨ p.2 = .s (.fn v)) ∧ a'.tmps.getD p.1 undef = v ∧ one1 v = true := by
    intro base sl
    induction sl with
    | nil => intro cs b h p hp; simp [slVs] at h; subst h; exact .inl (by simpa [eHead] using hp)
    | cons q r ih =>
     obtain ⟨s, t⟩ := q
     intro cs b h p hp
     simp only [slVs] at h
     split at h
     ·rename_i v cs' h3 h4
      cases h
      simp only [List.cons_append, eHead] at hp
      rcases List.mem_cons.1 hp with rfl | hp
      ·refine .inr ⟨v, ?_, slV_ok h3 hf⟩
       cases isFn t
       ·exact .inl rfl
       ·exact .inr rfl
      ·exact ih h4 p hp
     ·cases h
   rcases this h1 p hp with hp | ⟨v, hp, hv⟩
   ·rcases t2 p hp with hp | ⟨cs, hp, hv⟩
    ·exact base hp
    ·rw [hp]; exact hv
   ·rcases hp with hp | hp <;> rw [hp] <;> exact hv
 ·cases hx
end TL

namespace TL
open Go
def exOf : Exit → Option Ex
 | .normal => some .normal
 | .exit i => some (.exit i)
 | .ret => some .ret
 | _ => none
def CPost (N : Nat) (h0 : PH) (w0 : World) (wb : WB) (W : List Nat) (bs : BS) (bx : BX) (a : Act) (K : KX) (x : Exit) (a' : Act) (w' : World) : Prop :=
 ∃ ex e' bs2 bx' h', exOf x = some ex ∧ K ex e' bx' h' ∧ ST N h0 w0 (bs ++ bs2) bx' h' e' a' w' ∧ Keep wb bx bx' ∧ Slots W a a'
section
variable {P : Program} {N : Nat} {h0 : PH} {w0 : World} {wb : WB} {W : List Nat} {bs : BS} {bx : BX} {a : Act} {K : KX}
theorem CPost.panic (c : List PanicEntry) (a' : Act) (w' : World) : ¬ CPost N h0 w0 wb W bs bx a K (.panic c) a' w' := by
 rintro ⟨ex, _, _, _, _, h, _⟩; cases h
theorem CPost.out : ¬ LetsOut (CPost N h0 w0 wb W bs bx a K) := by
 rintro ⟨a', w', ex, _, _, _, _, h, _⟩; cases h
theorem CPost.refl {x : Exit} {ex : Ex} {e : Env} {h : PH} {w : World} (hx : exOf x = some ex) (hk : K ex e bx h) (hs : ST N h0 w0 bs bx h e a w) : CPost N h0 w0 wb W bs bx a K x a w :=
 ⟨ex, e, [], bx, h, hx, hk, by simpa using hs, Keep.refl _ _, Slots.refl _ _⟩
theorem CPost.sub {V : List Nat} {x : Exit} {a' : Act} {w' : World} (h : CPost N h0 w0 wb W bs bx a K x a' w') (hs : ∀ t ∈ W, t ∈ V) : CPost N h0 w0 wb V bs bx a K x a' w' := by
 obtain ⟨ex, e', bs2, bx', h', h1, h2, h3, h4, h5⟩ := h
 exact ⟨ex, e', bs2, bx', h', h1, h2, h3, h4, h5.sub hs⟩
theorem CPost.after {V : List Nat} {bs2 : BS} {bx1 : BX} {a1 : Act} {x : Exit} {a' : Act} {w' : World} (h : CPost N h0 w0 wb V (bs ++ bs2) bx1 a1 K x a' w') (hk : Keep wb bx bx1) (hs : Slots W a a1) :
  CPost N h0 w0 wb (W ++ V) bs bx a K x a' w' := by
 obtain ⟨ex, e', bs3, bx', h', h1, h2, h3, h4, h5⟩ := h
 exact ⟨ex, e', bs2 ++ bs3, bx', h', h1, h2, by rw [← List.append_assoc]; exact h3, hk.trans h4, hs.trans h5⟩
end
theorem allW_ok {wb : WB} : ∀ {l : List (Nat × List TCh)}, allW wb l = true → ∀ k ∈ l.map (·.1), okW wb k = true
 | [], _, k, hk => by cases hk
 | (k0, ts) :: r, h, k, hk => by
  simp only [allW] at h
  split at h
  ·rename_i h0
   simp only [List.map_cons, List.mem_cons] at hk
   rcases hk with rfl | hk
   ·exact h0
   ·exact allW_ok h k hk
  ·cases h
abbrev CodeOk (P : Program) (N : Nat) (H : Hints) (h0 : PH) (w0 : World) (c : Code) : Prop :=
 ∀ ⦃wb : WB⦄ ⦃e : Env⦄ ⦃bx : BX⦄ ⦃h : PH⦄ ⦃K : KX⦄ ⦃bs : BS⦄ ⦃a : Act⦄ ⦃w : World⦄, den P N H c wb e bx h K → ST N h0 w0 bs bx h e a w → c.wp P (CPost N h0 w0 wb (wr c) bs bx a K) a w
theorem loop_ok {P : Program} {N : Nat} {H : Hints} {h0 : PH} {w0 : World} {id : Nat} {c : Code} {d : Hd} {wb : WB} {e : Env} {bx : BX} {h : PH} {K : KX} {bs : BS} {a : Act} {w : World} {x0 : tupT (hdT d)} (ih : CodeOk P N H h0 w0 c)
    (hw : allW wb d.bo = true) (hx0 : hdOf d e bx = some x0)
    (hh : LoopP (fun (J : tupT (hdT d) → PH → Prop) (x : tupT (hdT d)) (h : PH) =>
            den P N H c ⟨d.bo.map (·.1), bx.length⟩ (hdE d (eBase (wr c) e) (encT (hdT d) x)) (hdB d bx (encT (hdT d) x)) h fun ex e' bx' h' => match ex with
              | .normal => match hdOf d e' bx' with
                | some x' => J x' h'
                | none => False
              | .exit i => match Nat.beq i id with
                | true => K .normal e' bx' h'
                | false => K (.exit i) e' bx' h'
              | .ret => K .ret e' bx' h') x0 h)
    (hs : ST N h0 w0 bs bx h e a w) : (Code.block id (.loop c)).wp P (CPost N h0 w0 wb (wr c) bs bx a K) a w := by
  refine wp_block (LW.loop ?_)
  obtain ⟨g, i, hF, hf⟩ := hs
  have hl : bx.length = bs.length := i.len.symm
  have hb0 : ∀ k c, nthB bx k = some c → chOk c := fun k c hc => by obtain ⟨_, _, _, h, _⟩ := i.at hc; exact h
  have key : ∀ (x : tupT (hdT d)) (h1 : PH), LoopP (fun (J : tupT (hdT d) → PH → Prop) (x : tupT (hdT d)) (h : PH) =>
            den P N H c ⟨d.bo.map (·.1), bx.length⟩ (hdE d (eBase (wr c) e) (encT (hdT d) x)) (hdB d bx (encT (hdT d) x)) h fun ex e' bx' h' => match ex with
              | .normal => match hdOf d e' bx' with
                | some x' => J x' h'
                | none => False
              | .exit i => match Nat.beq i id with
                | true => K .normal e' bx' h'
                | false => K (.exit i) e' bx' h'
              | .ret => K .ret e' bx' h') x h1 → ∀ (a1 : Act) (w1 : World), ST N h0 w0 bs (hdB d bx (encT (hdT d) x)) h1 (hdE d (eBase (wr c) e) (encT (hdT d) x)) a1 w1 → Slots (wr c) a a1 →
        LW P c (Exit.inBlock id (CPost N h0 w0 wb (wr c) bs bx a K)) a1 w1 := by
    intro x h1 hL
    induction hL with
    | mk R hR hF' ihR =>
      rename_i x h1
      intro a1 w1 hs1 hsl1
      refine LW.round (Code.wp_mono ?_ (ih hF' hs1))
      rintro e2 a2 w2 ⟨ex, e', bs2, bx', h', hex, hk, hst, hkp, hsl⟩
      have hkp' : Keep (hdWB d bx.length) bx bx' := fun k c0 hk0 hok => by
        refine hkp k c0 ?_ hok
        unfold hdB
        rw [bHead_keep]
        · exact hk0
        · intro hm
          unfold okW hdWB at hok
          simp only at hok
          split at hok
          · cases hok
          · rw [memN_iff.2 hm] at hok; cases hok
      have hsl' : Slots (wr c) a a2 := (hsl1.trans hsl).sub fun t ht => by
        rcases List.mem_append.1 ht with ht | ht <;> exact ht
      have hkp2 : Keep wb bx bx' := fun k c0 hk0 hok => by
        refine hkp' k c0 hk0 ?_
        unfold okW hdWB
        have h5 : Nat.ble bx.length k = false := by
          have := nthB_some_lt hk0
          cases e : Nat.ble bx.length k with
          | false => rfl
          | true => have := Nat.le_of_ble_eq_true e; omega
        simp only [h5]
        cases e : memN (d.bo.map (·.1)) k with
        | false => rfl
        | true => rw [allW_ok hw k (memN_iff.1 e)] at hok; cases hok
      cases e2 with
      | normal =>
        cases hex
        simp only at hk
        split at hk
        · rename_i x' hx'
          exact ihR x' h' hk a2 w2 (to_head hf hl hb0 hst hkp' hsl' hx') hsl'
        · exact hk.elim
      | exit j =>
        cases hex
        simp only [Exit.then, Exit.inBlock]
        simp only at hk
        split at hk
        · rename_i hb
          rw [if_pos (Nat.eq_of_beq_eq_true hb)]
          exact ⟨.normal, e', bs2, bx', h', rfl, hk, hst, hkp2, hsl'⟩
        · rename_i hb
          rw [if_neg (Nat.ne_of_beq_eq_false hb)]
          exact ⟨.exit j, e', bs2, bx', h', rfl, hk, hst, hkp2, hsl'⟩
      | ret =>
        cases hex
        exact ⟨.ret, e', bs2, bx', h', rfl, hk, hst, hkp2, hsl'⟩
      | goto l => cases hex
      | panic c => cases hex
      | outgrown => cases hex
  exact key x0 h hh a w (to_head (bs2 := []) hf hl hb0 ⟨g, by simpa using i, hF, by simpa using hf⟩ (Keep.refl _ _) (Slots.refl _ _) hx0) (Slots.refl _ _)
theorem join_ok {P : Program} {N : Nat} {H : Hints} {h0 : PH} {w0 : World} {x y : Code} {d : Hd} {wb : WB} {e : Env} {bx : BX} {h : PH} {K : KX} {bs : BS} {a : Act} {w : World} (ihx : CodeOk P N H h0 w0 x) (ihy : CodeOk P N H h0 w0 y)
    (hw : allW wb d.bo = true)
    (hh : JoinP (fun (J : tupT (hdT d) → PH → Prop) => den P N H x ⟨d.bo.map (·.1), bx.length⟩ e bx h fun ex e' bx' h' => match ex with
          | .normal => match hdOf d e' bx' with
            | some x' => J x' h'
            | none => False
          | ex => K ex e' bx' h') (fun (z : tupT (hdT d)) (h : PH) => den P N H y wb (hdE d (eBase (wr x) e) (encT (hdT d) z)) (hdB d bx (encT (hdT d) z)) h K))
    (hs : ST N h0 w0 bs bx h e a w) : (Code.seq x y).wp P (CPost N h0 w0 wb (wr (.seq x y)) bs bx a K) a w := by
  obtain ⟨J, h1, h2⟩ := hh
  have hs0 := hs
  obtain ⟨g, i, hF, hf⟩ := hs
  have hl : bx.length = bs.length := i.len.symm
  have hb0 : ∀ k c, nthB bx k = some c → chOk c := fun k c hc => by obtain ⟨_, _, _, h, _⟩ := i.at hc; exact h
  refine wp_seq (Code.wp_mono ?_ (ihx h1 hs0))
  rintro z a2 w2 ⟨ex, e', bs2, bx', h', hex, hk, hst, hkp, hsl⟩
  have hkp2 : Keep wb bx bx' := fun k c0 hk0 hok => by
    refine hkp k c0 hk0 ?_
    unfold okW
    have h5 : Nat.ble bx.length k = false := by
      have := nthB_some_lt hk0
      cases e : Nat.ble bx.length k with
      | false => rfl
      | true => have := Nat.le_of_ble_eq_true e; omega
    simp only [h5]
    cases e : memN (d.bo.map (·.1)) k with
    | false => rfl
    | true => rw [allW_ok hw k (memN_iff.1 e)] at hok; cases hok
  cases z with
  | normal =>
    cases hex
    simp only at hk
    split at hk
    · rename_i x' hx'
      have hst' := to_head hf hl hb0 hst hkp hsl hx'
      have hkp3 : Keep wb bx (hdB d bx (encT (hdT d) x')) := fun k c0 hk0 hok => by
        unfold hdB
        rw [bHead_keep]
        · exact hk0
        · intro hm
          rw [allW_ok hw k hm] at hok; cases hok
      refine Code.wp_mono (fun _ _ _ hq => ?_) (ihy (h2 x' h' hk) hst')
      exact CPost.after (bs2 := []) (by simpa using hq) hkp3 hsl
    · exact hk.elim
  | exit j => cases hex; exact ⟨.exit j, e', bs2, bx', h', rfl, hk, hst, hkp2, hsl.sub fun t ht => List.mem_append_left _ ht⟩
  | ret => cases hex; exact ⟨.ret, e', bs2, bx', h', rfl, hk, hst, hkp2, hsl.sub fun t ht => List.mem_append_left _ ht⟩
  | goto l => cases hex
  | panic c => cases hex
  | outgrown => cases hex
theorem block_ok {P : Program} {N : Nat} {H : Hints} {h0 : PH} {w0 : World} {id : Nat} {c : Code} {wb : WB} {e : Env} {bx : BX} {h : PH} {K : KX} {bs : BS} {a : Act} {w : World} (ih : CodeOk P N H h0 w0 c)
  (hh : den P N H c wb e bx h fun ex e' bx' h' => match ex with
   | .normal => K .normal e' bx' h'
   | .exit i => match Nat.beq i id with
    | true => K .normal e' bx' h'
    | false => K (.exit i) e' bx' h'
   | .ret => K .ret e' bx' h') (hs : ST N h0 w0 bs bx h e a w) : (Code.block id c).wp P (CPost N h0 w0 wb (wr c) bs bx a K) a w := by
 refine wp_block (Code.wp_mono ?_ (ih hh hs))
 rintro x a2 w2 ⟨ex, e', bs2, bx', h', hex, hk, hst, hkp, hsl⟩
 cases x with
 | normal => cases hex; exact ⟨.normal, e', bs2, bx', h', rfl, hk, hst, hkp, hsl⟩
 | exit j =>
  cases hex
  simp only [Exit.inBlock]
  simp only at hk
  split at hk
  ·rename_i hb
   rw [if_pos (Nat.eq_of_beq_eq_true hb)]
   exact ⟨.normal, e', bs2, bx', h', rfl, hk, hst, hkp, hsl⟩
  ·rename_i hb
   rw [if_neg (Nat.ne_of_beq_eq_false hb)]
   exact ⟨.exit j, e', bs2, bx', h', rfl, hk, hst, hkp, hsl⟩
 | ret => cases hex; exact ⟨.ret, e', bs2, bx', h', rfl, hk, hst, hkp, hsl⟩
 | goto l => cases hex
 | panic c => cases hex
 | outgrown => cases hex
theorem code_ok {P : Program} {N : Nat} {H : Hints} {h0 : PH} {w0 : World} : ∀ (c : Code), CodeOk P N H h0 w0 c
 | .skip => fun _ _ _ _ _ _ _ _ hh hs => wp_skip (.refl rfl hh hs)
 | .exit id => fun _ _ _ _ _ _ _ _ hh hs => wp_exit (.refl rfl hh hs)
 | .ret => fun _ _ _ _ _ _ _ _ hh hs => wp_ret (.refl rfl hh hs)
 | .region id ops draw => fun wb e bx h K bs a w hh hs => by
  unfold den at hh
  split at hh
  ·exact wp_region_list (denOps_ok hh hs fun e' bs2 bx' h' a' w' hk hst hkp hsl => ⟨.normal, e', bs2, bx', h', rfl, hk, hst, hkp, hsl⟩)
  ·split at hh
   ·rename_i hok
    simp only [Bool.and_eq_true] at hok
    obtain ⟨hok, hm, hle⟩ := hok
    obtain ⟨g, i, hF, hf⟩ := hs
    refine wp_region_any hm ?_
    have hF2 : Frm h0 w0 g { w with drawn := w.drawn + 1 } := hF.trans ⟨hF.inn, Nat.le_refl _, fun _ _ e => ⟨e, rfl⟩, rfl, rfl⟩
    have := draw_ok (Q := CPost N h0 w0 wb (wr (.region id ops true)) bs bx a K) hok (fun c a w => CPost.panic c a w) CPost.out hh i hF2 hf (fun j hj => by
      rcases Nat.lt_or_ge j ops.size with h | h
      ·simp [h] at hj
      ·simp [Nat.not_lt.2 h] at hj) (D := []) (fun p hp => by cases hp)
     (fun e' bs2 bx' h' a' w' hk hst hkp hsl => ⟨.normal, e', bs2, bx', h', rfl, hk, hst, hkp, hsl⟩) ops.size (Nat.le_of_ble_eq_true hle)
    exact wpC_any (this.1 rfl)
   ·exact hh.elim
 | .seq x y => fun _ _ _ _ _ _ _ _ hh hs => by
  unfold den at hh
  split at hh
  ·rename_i d hd
   split at hh
   ·rename_i hw
    exact join_ok (code_ok x) (code_ok y) hw hh hs
   ·exact hh.elim
  refine wp_seq (Code.wp_mono ?_ (code_ok x hh hs))
  rintro z a2 w2 ⟨ex, e', bs2, bx', h', hex, hk, hst, hkp, hsl⟩
  cases z with
  | normal =>
   cases hex
   exact Code.wp_mono (fun _ _ _ hq => CPost.after hq hkp hsl) (code_ok y hk hst)
  | exit j => cases hex; exact ⟨.exit j, e', bs2, bx', h', rfl, hk, hst, hkp, hsl.sub fun t ht => List.mem_append_left _ ht⟩
  | ret => cases hex; exact ⟨.ret, e', bs2, bx', h', rfl, hk, hst, hkp, hsl.sub fun t ht => List.mem_append_left _ ht⟩
  | goto l => cases hex
  | panic c => cases hex
  | outgrown => cases hex
 | .cond c x y => fun wb e bx h K bs a w hh hs => by
  unfold den at hh
  have left : den P N H x wb e bx h K → x.wp P (CPost N h0 w0 wb (wr (.cond c x y)) bs bx a K) a w := fun hh => Code.wp_mono (fun _ _ _ hq => CPost.sub hq fun t ht => List.mem_append_left _ ht) (code_ok x hh hs)
  have right : den P N H y wb e bx h K → y.wp P (CPost N h0 w0 wb (wr (.cond c x y)) bs bx a K) a w := fun hh => Code.wp_mono (fun _ _ _ hq => CPost.sub hq fun t ht => List.mem_append_right _ ht) (code_ok y hh hs)
  have hf : Fits N bs e a := by obtain ⟨_, _, _, hf⟩ := hs; exact hf
  split at hh
  ·rename_i hc
   exact wp_cond_true (opv_ok hc hf trivial) (left hh)
  ·rename_i hc
   exact wp_cond_false (opv_ok hc hf trivial) (right hh)
  ·rename_i t hc
   exact wp_cond_split (opv_ok hc hf trivial).1 (fun e => left (hh.1 e)) (fun e => right (hh.2 e))
  ·exact hh.elim
 | .block id (.loop c) => fun _ _ _ _ _ _ _ _ hh hs => by
  rw [den] at hh
  split at hh
  ·rename_i d hd hw
   rw [hd] at hw
   split at hh
   ·rename_i x0 hx0
    exact loop_ok (code_ok c) hw hx0 hh hs
   ·exact hh.elim
  ·exact hh.elim
 | .block id .skip => fun _ _ _ _ _ _ _ _ hh hs => block_ok (code_ok .skip) (by rw [den] at hh <;> first | exact hh | (intro c' e; cases e)) hs
 | .block id (.region a b c) => fun _ _ _ _ _ _ _ _ hh hs => block_ok (code_ok (.region a b c)) (by rw [den] at hh <;> first | exact hh | (intro c' e; cases e)) hs
 | .block id (.seq x y) => fun _ _ _ _ _ _ _ _ hh hs => block_ok (code_ok (.seq x y)) (by rw [den] at hh <;> first | exact hh | (intro c' e; cases e)) hs
 | .block id (.cond c x y) => fun _ _ _ _ _ _ _ _ hh hs => block_ok (code_ok (.cond c x y)) (by rw [den] at hh <;> first | exact hh | (intro c' e; cases e)) hs
 | .block id (.block i c) => fun _ _ _ _ _ _ _ _ hh hs => block_ok (code_ok (.block i c)) (by rw [den] at hh <;> first | exact hh | (intro c' e; cases e)) hs
 | .block id (.exit i) => fun _ _ _ _ _ _ _ _ hh hs => block_ok (code_ok (.exit i)) (by rw [den] at hh <;> first | exact hh | (intro c' e; cases e)) hs
 | .block id .ret => fun _ _ _ _ _ _ _ _ hh hs => block_ok (code_ok .ret) (by rw [den] at hh <;> first | exact hh | (intro c' e; cases e)) hs
 | .block id (.rangeFunc a b c d) => fun _ _ _ _ _ _ _ _ hh hs => block_ok (code_ok (.rangeFunc a b c d)) (by rw [den] at hh <;> first | exact hh | (intro c' e; cases e)) hs
 | .block id (.scope c) => fun _ _ _ _ _ _ _ _ hh hs => block_ok (code_ok (.scope c)) (by rw [den] at hh <;> first | exact hh | (intro c' e; cases e)) hs
 | .block id (.label c) => fun _ _ _ _ _ _ _ _ hh hs => block_ok (code_ok (.label c)) (by rw [den] at hh <;> first | exact hh | (intro c' e; cases e)) hs
 | .block id (.goto c) => fun _ _ _ _ _ _ _ _ hh hs => block_ok (code_ok (.goto c)) (by rw [den] at hh <;> first | exact hh | (intro c' e; cases e)) hs
 | .block id (.refuse c) => fun _ _ _ _ _ _ _ _ hh hs => block_ok (code_ok (.refuse c)) (by rw [den] at hh <;> first | exact hh | (intro c' e; cases e)) hs
 | .loop c => fun _ _ _ _ _ _ _ _ hh hs => by simp [den] at hh
 | .rangeFunc a b c d => fun _ _ _ _ _ _ _ _ hh hs => by simp [den] at hh
 | .scope c => fun _ _ _ _ _ _ _ _ hh hs => by simp [den] at hh
 | .label c => fun _ _ _ _ _ _ _ _ hh hs => by simp [den] at hh
 | .goto c => fun _ _ _ _ _ _ _ _ hh hs => by simp [den] at hh
 | .refuse c => fun _ _ _ _ _ _ _ _ hh hs => by simp [den] at hh
end TL

namespace TL
open Go
theorem Sem.bind_pure' {α : Type} (s : Sem α) : s.bind Sem.pure = s := by
 induction s <;> simp only [Sem.bind] <;> first | (congr 1; funext x; rename_i ih; exact ih x) | (rename_i ih; rw [ih]) | rfl
theorem Sem.bind_assoc' {α β γ : Type} (s : Sem α) (f : α → Sem β) (g : β → Sem γ) : (s.bind f).bind g = s.bind fun a => (f a).bind g := by
 induction s <;> simp only [Sem.bind] <;> first | (congr 1; funext x; rename_i ih; exact ih x) | (rename_i ih; rw [ih]) | rfl
theorem semLawful : LawfulMonad Sem := LawfulMonad.mk' Sem (id_map := fun s => Sem.bind_pure' s) (pure_bind := fun _ _ => rfl) (bind_assoc := fun s f g => Sem.bind_assoc' s f g)
def okE0 : E0 → Prop
 | .v x => one1 x = true
 | .lit _ => True
 | .fn x => one1 x = true
 | .agg cs => chOk cs
 | _ => False
def okE0s : List E0 → Prop
 | [] => True
 | x :: r => okE0 x ∧ okE0s r
theorem okE0_ok {x : E0} {v : Value} (h : okE0 x) (hv : val x = some v) : e0Ok [] x v := by
 cases x <;> simp only [val, Option.some.injEq, reduceCtorEq] at hv <;> subst hv
 ·exact ⟨rfl, h⟩
 ·exact rfl
 ·exact ⟨h, rfl⟩
 ·exact ⟨rfl, h⟩
theorem env0_ok : ∀ {xs : List E0} {vs : List Value} (i : Nat) (pre : List Value) (n : Nat), vals xs = some vs → okE0s xs → pre.length = i →
  ∀ p ∈ env0 xs i, evOk ((pre ++ vs).toArray ++ Array.replicate n undef) [] p.2 (((pre ++ vs).toArray ++ Array.replicate n undef).getD p.1 undef)
 | [], _, _, _, _, _, _, _ => by simp [env0]
 | x :: r, vs, i, pre, n, hv, ho, hi => by
  simp only [vals] at hv
  split at hv
  ·rename_i v vs' h1 h2
   cases hv
   intro p hp
   simp only [env0] at hp
   rcases List.mem_cons.1 hp with rfl | hp
   ·have : ((pre ++ v :: vs').toArray ++ Array.replicate n undef).getD i undef = v := by
     rw [← hi, Array.getD_eq_getD_getElem?, Array.getElem?_append_left (by simp)]; simp
    simp only [this]
    exact okE0_ok ho.1 h1
   ·have := env0_ok (i + 1) (pre ++ [v]) n h2 ho.2 (by simp [hi]) p hp
    simpa using this
  ·cases hv
theorem vals_len : ∀ {xs : List E0} {vs : List Value}, vals xs = some vs → vs.length = xs.length
 | [], vs, h => by simp [vals] at h; subst h; rfl
 | x :: r, vs, h => by
  simp only [vals] at h
  split at h
  ·rename_i v vs' h1 h2
   cases h
   simp [vals_len h2]
  ·cases h
def res1 (tmps : Array Value) : ResultVar → Sem Value
 | .tmp t => pure (tmps.getD t undef)
 | .cell a t => do loadVar t (← asAddr (tmps.getD a undef))
theorem results_eq (fn : Func) (tmps : Array Value) : results fn tmps = (fn.results.toList.mapM (res1 tmps) >>= fun vs =>
  pure (if h : vs.length = 1 then vs[0] else .tuple vs.toArray)) := by
 have := semLawful
 unfold results
 have e : (fun x => match x with
  | ResultVar.tmp t => (pure (tmps.getD t undef) : Sem Value)
  | .cell a t => do loadVar t (← asAddr (tmps.getD a undef))) = res1 tmps := by
  funext x; cases x <;> rfl
 rw [← e, Array.mapM_eq_mapM_toList]
 simp only [map_eq_pure_bind, bind_assoc, pure_bind]
 congr 1
theorem denRes1_ok {P : Program} {N : Nat} {bs : BS} {e : Env} {a : Act} {bx : BX} {h g : PH} {r : ResultVar} {K : Value → Prop} (hh : denRes1 P e bx h r K) (hf : Fits N bs e a) (i : Inv bs bx h g) :
  ∃ v, ro P (res1 a.tmps r) g = some v ∧ K v := by
 cases r with
 | tmp t =>
  simp only [denRes1] at hh
  split at hh
  ·rename_i x hx
   split at hh
   ·rename_i v hv
    have := val_ok hv (opv_ok hx hf trivial)
    exact ⟨v, by rw [← this]; rfl, hh⟩
   ·exact hh.elim
  ·exact hh.elim
 | cell t ty =>
  simp only [denRes1] at hh
  split at hh
  ·rename_i x hx
   let o : Oper := { (default : Oper) with op := .load ty (.tmp t) }
   have hst : denStep P [] o none e bx h (fun r _ _ _ => match r with
     | .one y => match val y with
      | some v => K v
      | none => False
     | _ => False) := by
    simp only [denStep, o, hx]; exact hh
   obtain ⟨r, c, v, h1, h2, h3, _, h4⟩ := load_ok hst rfl hf trivial i
   split at h1
   ·rename_i y
    split at h1
    ·rename_i u hu
     have hv : v = u := val_ok hu h2
     subst hv
     have := h4 g h3
     refine ⟨v, ?_, h1⟩
     have e1 : execOp a.eval o = (Instr.loadAt ty (a.eval (.tmp t)) >>= fun v => pure (Next.value v)) := rfl
     have e2 : ∀ v : Value, ∀ b, ro P (Instr.sureAddr v) g = some b → ro P (asAddr v) g = some b := fun v b hb => by
      unfold Instr.sureAddr at hb
      unfold asAddr
      split at hb
      ·exact hb
      ·cases hb
     rw [e1, ro_bind] at this
     have e3 : ro P (Instr.loadAt ty (a.eval (.tmp t))) g = some v := by
      cases hl : ro P (Instr.loadAt ty (a.eval (.tmp t))) g with
      | none => rw [hl] at this; cases this
      | some u =>
       rw [hl] at this
       have h5 : ro P (pure (Next.value u) : Sem Next) g = some (.value u) := rfl
       rw [Option.bind_some, h5] at this
       cases this; rfl
     have e4 : ro P (Instr.sureAddr (a.eval (.tmp t)) >>= loadVar ty) g = some v := e3
     show ro P (asAddr (a.tmps.getD t undef) >>= loadVar ty) g = some v
     rw [ro_bind] at e4 ⊢
     cases hs : ro P (Instr.sureAddr (a.eval (.tmp t))) g with
     | none => rw [hs] at e4; cases e4
     | some b =>
      rw [hs] at e4
      have h6 : ro P (asAddr (a.tmps.getD t undef)) g = some b := e2 _ b hs
      rw [h6]; exact e4
    ·exact h1.elim
   ·exact h1.elim
  ·exact hh.elim
theorem denRess_ok {P : Program} {N : Nat} {bs : BS} {e : Env} {a : Act} {bx : BX} {h g : PH} (hf : Fits N bs e a) (i : Inv bs bx h g) : ∀ {rs : List ResultVar} {K : List Value → Prop}, denRess P e bx h rs K →
  ∃ vs, ro P (rs.mapM (res1 a.tmps)) g = some vs ∧ vs.length = rs.length ∧ K vs
 | [], K, hh => ⟨[], rfl, rfl, hh⟩
 | r :: rs, K, hh => by
  have := semLawful
  obtain ⟨v, h1, h2⟩ := denRes1_ok hh hf i
  obtain ⟨vs, h3, h4, h5⟩ := denRess_ok hf i h2
  refine ⟨v :: vs, ?_, by simp [h4], h5⟩
  rw [List.mapM_cons, ro_bind, h1, Option.bind_some, ro_bind, h3]; rfl
theorem denRet_ok {P : Program} {N : Nat} {bs : BS} {e : Env} {a : Act} {bx : BX} {h g : PH} {fn : Func} {K : Value → PH → Prop} (hh : denRet P fn.results.toList e bx h K) (hf : Fits N bs e a) (i : Inv bs bx h g) :
  ∃ v, ro P (results fn a.tmps) g = some v ∧ K v h := by
 have := semLawful
 rw [results_eq]
 unfold denRet at hh
 split at hh
 ·rename_i hr
  rw [hr]
  exact ⟨_, rfl, hh⟩
 ·rename_i r hr
  obtain ⟨v, h1, h2⟩ := denRes1_ok hh hf i
  refine ⟨v, ?_, h2⟩
  rw [hr, ro_bind, List.mapM_cons, ro_bind, h1, Option.bind_some]; rfl
 ·rename_i rs hn0 hn1
  obtain ⟨vs, h1, h2, h3⟩ := denRess_ok hf i hh
  refine ⟨_, ?_, h3⟩
  rw [ro_bind, h1, Option.bind_some]
  have : vs.length ≠ 1 := by
   rw [h2]
   intro e
   obtain ⟨r, hr⟩ := List.length_eq_one_iff.1 e
   exact hn1 r hr
  rw [dif_neg this]; rfl
theorem denF_sound {P : Program} {f : FuncId} {fn : Func} {H : Hints} {xs : List E0} {vs : List Value} {K : Value → PH → Prop} {h : PH} (hf : P.funcs[f]? = some fn) (hv : vals xs = some vs) (hok : okE0s xs) (hh : denF P fn H xs K h) : CallH P f vs K h := by
 intro w hi
 unfold denF at hh
 split at hh
 ·rename_i c hb hle
  have hle := Nat.le_of_ble_eq_true hle
  have hlen := vals_len hv
  refine calls_of_wp hf hb ?_
  have hfit : Fits fn.ntmps [] (env0 xs 0) { tmps := vs.toArray ++ Array.replicate (fn.ntmps - vs.toArray.size) undef, defers := [] } :=
   ⟨by simpa using env0_ok 0 [] (fn.ntmps - vs.toArray.size) hv hok rfl, by simp; omega, rfl⟩
  have hinv : Inv [] [] h h := ⟨rfl, by simp, by simp, by simp, by simp⟩
  refine Code.wp_mono ?_ (code_ok c hh ⟨h, hinv, Frm.refl hi, hfit⟩)
  rintro x a' w' ⟨ex, e', bs2, bx', h', hex, hk, ⟨g, i, hF, hf'⟩, _, _⟩
  simp only [List.nil_append] at i hf'
  have fin : denRet P fn.results.toList e' bx' h' K → ∃ v, (results fn a'.tmps).run P w' = .ok v w' ∧ ∃ v' h'', Ending.returned v = .returned v' ∧ K v' h'' ∧ Frm h w h'' w' := fun hd => by
   obtain ⟨v, h1, h2⟩ := denRet_ok hd hf' i
   refine ⟨v, ro_run h1 hF.inn, v, h', rfl, h2, ⟨fun b o e => hF.inn b o (i.sub b o e), hF.size, fun b hb e => ?_, hF.os, hF.out⟩⟩
   obtain ⟨e1, e2⟩ := hF.old b hb e
   refine ⟨?_, e2⟩
   cases e3 : h' b with
   | none => rfl
   | some o => rw [i.sub b o e3] at e1; cases e1
  cases x with
  | normal => cases hex; exact ⟨hf'.defs, fin hk⟩
  | ret => cases hex; exact ⟨hf'.defs, fin hk⟩
  | exit j => cases hex; exact hk.elim
  | goto l => cases hex
  | panic c => cases hex
  | outgrown => cases hex
 ·exact hh.elim
structure Den (p : Prop) : Prop where
 ok : p
theorem den_of {A B : Prop} (h : @Eq Prop A B) (a : A) : Den B := ⟨cast h a⟩
theorem denF_sound' {P : Program} {f : FuncId} {fn : Func} {H : Hints} {xs : List E0} {vs : List Value} {K : Value → PH → Prop} {h : PH} (hf : P.funcs[f]? = some fn) (hv : vals xs = some vs) (hok : okE0s xs) (hh : Den (denF P fn H xs K h)) : CallH P f vs K h :=
 denF_sound hf hv hok hh.ok
end TL

namespace TL
open Go Go.Proofs
abbrev id_law22_StagePlays : FuncId := 16
abbrev id_tree_New : FuncId := 20
abbrev id_ref11_Cut : FuncId := 22
abbrev id_tree_Tree_Set : FuncId := 24
abbrev id_law13_GreatPairs : FuncId := 28
abbrev id_tree_Of : FuncId := 29
abbrev id_ref14_May : FuncId := 30
abbrev id_tree_Tree_Node : FuncId := 31
abbrev id_tree_Tree_Root : FuncId := 38
abbrev id_walk_New : FuncId := 39
abbrev id_walk_Walk_Want : FuncId := 40
abbrev id_walk_Walk_Node : FuncId := 42
abbrev id_walk_Walk_Page : FuncId := 43
abbrev id_walk_Walk_Done : FuncId := 44
abbrev id_ref13_Same : FuncId := 45
abbrev id_ref15_Collides : FuncId := 46
abbrev id_walk_Walk_Texts : FuncId := 47
abbrev id_ship_Ship_Texts : FuncId := 48
abbrev id_ref15_Texts : FuncId := 49
abbrev id_walk_Walk_Root : FuncId := 51
abbrev id_law13_SameTexts : FuncId := 55
abbrev id_bucket_Of : FuncId := 56
abbrev id_ref16_New : FuncId := 57
abbrev id_ref16_Walk_Done : FuncId := 59
abbrev id_law22_Great : FuncId := 65
abbrev id_law22_wakes : FuncId := 66
abbrev id_law22_trees : FuncId := 67
abbrev id_stage_New : FuncId := 68
abbrev id_stage_Stage_Root : FuncId := 69
abbrev id_law22_root : FuncId := 70
abbrev id_law22_turn : FuncId := 71
abbrev id_stage_Stage_Asks : FuncId := 72
abbrev id_stage_Stage_Answer : FuncId := 73
abbrev id_law22_Answer : FuncId := 74
abbrev id_stage_Stage_Done : FuncId := 75
abbrev id_stage_Stage_Begun : FuncId := 76
abbrev id_stage_Stage_Forget : FuncId := 77
abbrev id_stage_Stage_Goal : FuncId := 78
abbrev id_stage_Stage_Texts : FuncId := 79
abbrev id_ref22_Stage_Root : FuncId := 80
abbrev id_ref22_Stage_Asks : FuncId := 81
abbrev id_ref22_Stage_Answer : FuncId := 82
abbrev id_ref22_Stage_Forget : FuncId := 83
abbrev id_ref20_SameAll : FuncId := 84
abbrev id_ref22_Stage_All : FuncId := 85
abbrev id_law22_collides : FuncId := 86
abbrev id_tree_Leaf : FuncId := 87
abbrev id_tree_Tree_page : FuncId := 88
abbrev id_tree_Inner : FuncId := 89
abbrev id_ref11_Named : FuncId := 91
abbrev id_ref11_Key : FuncId := 92
abbrev id_path_Cut : FuncId := 93
abbrev id_tree_Tree_find : FuncId := 94
abbrev id_slices_Replace_api_Pair_api_Pair : FuncId := 95
abbrev id_slices_Clone_api_Pair_api_Pair : FuncId := 96
abbrev id_slices_Insert_api_Pair_api_Pair : FuncId := 97
abbrev id_tree_Tree_anew : FuncId := 98
abbrev id_ref15_Levels : FuncId := 100
abbrev id_tree_Tree_Pairs : FuncId := 101
abbrev id_ref14_Part : FuncId := 102
abbrev id_tree_Tree_Texts : FuncId := 103
abbrev id_bucket_May : FuncId := 104
abbrev id_ref11_Less : FuncId := 105
abbrev id_walk_Walk_ask : FuncId := 112
abbrev id_walk_Walk_none : FuncId := 113
abbrev id_slices_SortedFunc_walk_Ask : FuncId := 114
abbrev id_maps_Keys_map_walk_Ask_api_Hash_walk_Ask_api_Hash : FuncId := 115
abbrev id_walk_Walk_fits : FuncId := 119
abbrev id_bucket_Page : FuncId := 120
abbrev id_slices_SortFunc_api_Pair_api_Pair : FuncId := 121
abbrev id_strings_Compare : FuncId := 123
abbrev id_ref02_Sum : FuncId := 124
abbrev id_slices_Clone_string_string : FuncId := 125
abbrev id_ref15_LeafText : FuncId := 126
abbrev id_ref15_InnerText : FuncId := 127
abbrev id_sha_Sum : FuncId := 128
abbrev id_ref16_Walk_ask : FuncId := 129
abbrev id_ref16_Walk_Page : FuncId := 130
abbrev id_ref16_Walk_Node : FuncId := 131
abbrev id_stage_Stage_none : FuncId := 134
abbrev id_slices_Concat_string_string : FuncId := 135
abbrev id_ref20_SameMsg : FuncId := 136
abbrev id_tree_innerText : FuncId := 137
abbrev id_strings_Cut : FuncId := 138
abbrev id_path_named : FuncId := 139
abbrev id_path_key : FuncId := 140
abbrev id_slices_BinarySearchFunc_api_Pair_api_Pair_string : FuncId := 141
abbrev id_tree_Tree_find_1 : FuncId := 142
abbrev id_slices_overlaps_api_Pair : FuncId := 143
abbrev id_slices_rotateRight_api_Pair : FuncId := 144
abbrev id_slices_startIdx_api_Pair : FuncId := 145
abbrev id_tree_Tree_anew_1 : FuncId := 146
abbrev id_ref14_Of : FuncId := 147
abbrev id_bucket_bucket : FuncId := 153
abbrev id_bucket_Part : FuncId := 154
abbrev id_pack_Out_Num : FuncId := 155
abbrev id_pack_Out_Text : FuncId := 156
abbrev id_pack_Out_String : FuncId := 157
abbrev id_internal_bytealg_CompareString : FuncId := 160
abbrev id_ref02_primes : FuncId := 161
abbrev id_ref02_behind : FuncId := 162
abbrev id_ref02_turn : FuncId := 163
abbrev id_ref14_Page : FuncId := 164
abbrev id_sha_New : FuncId := 165
abbrev id_sha_Sha_Write : FuncId := 166
abbrev id_sha_Sha_Sum : FuncId := 167
abbrev id_ref16_Walk_fits : FuncId := 168
abbrev id_slices_Grow_string_string : FuncId := 170
abbrev id_internal_stringslite_Cut : FuncId := 171
abbrev id_strings_IndexByte : FuncId := 172
abbrev id_pack_size : FuncId := 176
abbrev id_pack_Out_put : FuncId := 177
abbrev id_math_bits_Len64 : FuncId := 187
abbrev id_internal_bytealg_abigen_runtime_cmpstring : FuncId := 188
abbrev id_ref02_cube : FuncId := 189
abbrev id_ref02_square : FuncId := 190
abbrev id_ref02_rot : FuncId := 191
abbrev id_ref12_Num : FuncId := 192
abbrev id_ref12_Text : FuncId := 193
abbrev id_sha_begin : FuncId := 194
abbrev id_sha_numbers : FuncId := 195
abbrev id_sha_Sha_none : FuncId := 196
abbrev id_sha_turn : FuncId := 197
abbrev id_sha_putBig : FuncId := 198
abbrev id_internal_stringslite_Index : FuncId := 199
abbrev id_internal_stringslite_IndexByte : FuncId := 200
abbrev id_math_bits_Mul64 : FuncId := 215
abbrev id_sha_getBig : FuncId := 216
abbrev id_math_bits_RotateLeft32 : FuncId := 217
abbrev id_internal_bytealg_IndexString : FuncId := 218
abbrev id_internal_bytealg_Cutover : FuncId := 219
abbrev id_internal_bytealg_IndexRabinKarp_string : FuncId := 220
abbrev id_internal_bytealg_IndexByteString : FuncId := 221
abbrev T_api_Hash : TypeId := 46
abbrev T_api_Msg : TypeId := 67
abbrev T_api_Op : TypeId := 222
abbrev T_api_Pair : TypeId := 101
abbrev T_pack_Out : TypeId := 230
abbrev T_ref16_Node : TypeId := 114
abbrev T_ref16_Walk : TypeId := 112
abbrev T_ref22_Stage : TypeId := 146
abbrev T_sha_Sha : TypeId := 270
abbrev T_ship_Ship : TypeId := 176
abbrev T_stage_Stage : TypeId := 211
abbrev T_stage_goal : TypeId := 213
abbrev T_tree_Tree : TypeId := 153
abbrev T_walk_Walk : TypeId := 187
def F_ref02_Sum (sv : ByteArray) (K : Value → PH → Prop) (h : PH) : Prop :=
 CallH Tryz.prog id_ref02_primes [.int .i64 (64 : Int)] (fun v h1 =>
 ∃ (pA : Option Addr) (pN pC : Nat), v = .slice pA pN pC ∧
 LoopP (T := Int × List Int × List Int × Unit) (fun Jv st h2 =>
 (((decide (st.1 < (64 : Int))) = true →
 ∃ bv ov : Nat, (pA = some ⟨bv, ov, none⟩ ∧ 0 ≤ st.1 ∧ st.1 < (pN : Nat)) ∧
 ∃ t : Int, (h2.rds bv (ov + st.1.toNat * 1) 1 = some [.int .u64 t]) ∧
 CallH Tryz.prog id_ref02_behind [.int .u64 t, .bool true] (fun v_1 h3 =>
 ∃ t_1 : Int, v_1 = .int .u32 t_1 ∧
 (0 ≤ st.1 ∧ st.1 < (64 : Nat)) ∧
 (st.1.toNat * 1) < 64 ∧
 (((decide (st.1 < (8 : Int))) = true →
 ∃ bv_1 ov_1 : Nat, (pA = some ⟨bv_1, ov_1, none⟩ ∧ 0 ≤ st.1 ∧ st.1 < (pN : Nat)) ∧
 ∃ t_2 : Int, (h3.rds bv_1 (ov_1 + st.1.toNat * 1) 1 = some [.int .u64 t_2]) ∧
 CallH Tryz.prog id_ref02_behind [.int .u64 t_2, .bool false] (fun v_2 h4 =>
 ∃ t_3 : Int, v_2 = .int .u32 t_3 ∧
 (0 ≤ st.1 ∧ st.1 < (8 : Nat)) ∧
 (st.1.toNat * 1) < 8 ∧
 Jv ((IntKind.wrap .i64 (st.1 + (1 : Int))), (st.2.1.set (st.1.toNat * 1) t_1), (st.2.2.1.set (st.1.toNat * 1) t_3), ()) h4) h3) ∧
 ((decide (st.1 < (8 : Int))) = false →
 Jv ((IntKind.wrap .i64 (st.1 + (1 : Int))), (st.2.1.set (st.1.toNat * 1) t_1), st.2.2.1, ()) h3))) h2) ∧
 ((decide (st.1 < (64 : Int))) = false →
 ∀ cap : Nat, ByteArray.size sv ≤ cap → newH h2 (.cells (byteVs sv ++ List.replicate (cap - ByteArray.size sv) (Value.int .u8 0)).toArray 5 (cap, cap + 1)) fun bv_2 h5 =>
 appH 5 1 1 [.int .u8 (0 : Int)] (some ⟨bv_2, 0, none⟩) (ByteArray.size sv) cap 1 [.int .u8 (128 : Int)] (fun bA bN bC h6 =>
 LoopP (T := (Option Addr × Nat × Nat) × Unit) (fun Jv_1 st_1 h7 =>
 (((((st_1.1.2.1 : Int).tmod (64 : Int)) != (56 : Int)) = true →
 appH 5 1 1 [.int .u8 (0 : Int)] st_1.1.1 st_1.1.2.1 st_1.1.2.2 1 [.int .u8 (0 : Int)] (fun bA_1 bN_1 bC_1 h8 =>
 Jv_1 ((bA_1, bN_1, bC_1), ()) h8) h7) ∧
 ((((st_1.1.2.1 : Int).tmod (64 : Int)) != (56 : Int)) = false →
 LoopP (T := (Option Addr × Nat × Nat) × Int × Unit) (fun Jv_2 st_2 h9 =>
 (((decide (st_2.2.1 ≥ (0 : Int))) = true →
 (0 ≤ (IntKind.wrap .u64 (IntKind.wrap .i64 ((8 : Int) * st_2.2.1)))) ∧
 appH 5 1 1 [.int .u8 (0 : Int)] st_2.1.1 st_2.1.2.1 st_2.1.2.2 1 [.int .u8 (IntKind.wrap .u8 (shrV .u64 (IntKind.wrap .u64 ((IntKind.wrap .u64 (sv.size : Int)) * (8 : Int))) (IntKind.wrap .u64 (IntKind.wrap .i64 ((8 : Int) * st_2.2.1)))))] (fun bA_2 bN_2 bC_2 h10 =>
 Jv_2 ((bA_2, bN_2, bC_2), (IntKind.wrap .i64 (st_2.2.1 - (1 : Int))), ()) h10) h9) ∧
 ((decide (st_2.2.1 ≥ (0 : Int))) = false →
 LoopP (T := Int × List Int × Unit) (fun Jv_3 st_3 h11 =>
 (((decide (st_3.1 < (st_2.1.2.1 : Int))) = true →
 (0 ≤ st_3.1 ∧ st_3.1 ≤ (IntKind.wrap .i64 (st_3.1 + (64 : Int))) ∧ (IntKind.wrap .i64 (st_3.1 + (64 : Int))) ≤ (st_2.1.2.2 : Int) ∧ (st_2.1.2.2 : Int) ≤ (st_2.1.2.2 : Nat)) ∧
 CallH Tryz.prog id_ref02_turn [.agg ((st_3.2.1.map (Value.int .u32) ++ [])).toArray, .agg ((st.2.1.map (Value.int .u32) ++ [])).toArray, .slice (slA st_2.1.1 1 st_3.1 (st_2.1.2.2 : Int)) ((IntKind.wrap .i64 (st_3.1 + (64 : Int))).toNat - st_3.1.toNat) ((st_2.1.2.2 : Int).toNat - st_3.1.toNat)] (fun v_3 h12 =>
 ∃ hv : List Int, hv.length = 8 ∧ v_3 = .agg ((hv.map (Value.int .u32) ++ [])).toArray ∧
 Jv_3 ((IntKind.wrap .i64 (st_3.1 + (64 : Int))), hv, ()) h12) h11) ∧
 ((decide (st_3.1 < (st_2.1.2.1 : Int))) = false →
 LoopP (T := Int × List Int × Unit) (fun Jv_4 st_4 h13 =>
 (((decide (st_4.1 < (32 : Int))) = true →
 (0 ≤ (IntKind.wrap .i64 (st_4.1.tdiv (4 : Int))) ∧ (IntKind.wrap .i64 (st_4.1.tdiv (4 : Int))) < (8 : Nat)) ∧
 (((IntKind.wrap .i64 (st_4.1.tdiv (4 : Int))).toNat * 1) < 8) ∧
 (0 ≤ (IntKind.wrap .u64 (IntKind.wrap .i64 ((24 : Int) - (IntKind.wrap .i64 ((8 : Int) * (st_4.1.tmod (4 : Int)))))))) ∧
 (0 ≤ st_4.1 ∧ st_4.1 < (32 : Nat)) ∧
 (st_4.1.toNat * 1) < 32 ∧
 Jv_4 ((IntKind.wrap .i64 (st_4.1 + (1 : Int))), (st_4.2.1.set (st_4.1.toNat * 1) (IntKind.wrap .u8 (shrV .u32 (st_3.2.1.getD ((IntKind.wrap .i64 (st_4.1.tdiv (4 : Int))).toNat * 1) 0) (IntKind.wrap .u64 (IntKind.wrap .i64 ((24 : Int) - (IntKind.wrap .i64 ((8 : Int) * (st_4.1.tmod (4 : Int)))))))))), ()) h13) ∧
 ((decide (st_4.1 < (32 : Int))) = false →
 K (.agg ((st_4.2.1.map (Value.int .u8) ++ [])).toArray) h13))) ((0 : Int), (List.replicate 32 0), ()) h11))) ((0 : Int), st.2.2.1, ()) h9))) ((st_1.1.1, st_1.1.2.1, st_1.1.2.2), (7 : Int), ()) h7))) ((bA, bN, bC), ()) h6) h5))) ((0 : Int), (List.replicate 64 0), (List.replicate 8 0), ()) h1) h
theorem F_ref02_Sum_ok {sv : ByteArray}  {K : Value → PH → Prop} {h : PH} (hh : F_ref02_Sum sv K h) : CallH Tryz.prog id_ref02_Sum [.string sv] K h :=
 denF_sound' Tryz.func124 (H := ⟨[2, 4, 5, 11, 36, 43, 60], [], [(0, ⟨[(6, .int .i64)], [], [(1, [.ints .u32 64]), (2, [.ints .u32 8])]⟩), (2, ⟨[(7, .slice)], [], []⟩), (4, ⟨[(7, .slice), (9, .int .i64)], [], []⟩), (6, ⟨[(10, .int .i64)], [], [(2, [.ints .u32 8])]⟩), (8, ⟨[(12, .int .i64)], [], [(4, [.ints .u8 32])]⟩)], []⟩) (xs := [.v (.string sv)]) (by kernel_rfl) (⟨rfl, trivial⟩) (den_of (by kernel_rfl) hh)
def F_sha_Sum (sv : ByteArray) (K : Value → PH → Prop) (h : PH) : Prop :=
 CallH Tryz.prog id_sha_New [] (fun v h1 =>
 ∃ xv : Option Addr, v = .pointer xv ∧
 CallH Tryz.prog id_sha_Sha_Write [.pointer xv, .string sv] (fun v_1 h2 =>
 ∃ t : Int, v_1 = .int .i64 t ∧
 CallH Tryz.prog id_sha_Sha_Sum [.pointer xv] (fun v_2 h3 =>
 ∃ t_1 : List Int, t_1.length = 32 ∧ v_2 = .agg ((t_1.map (Value.int .u8) ++ [])).toArray ∧
 K (.agg ((t_1.map (Value.int .u8) ++ [])).toArray) h3) h2) h1) h
theorem F_sha_Sum_ok {sv : ByteArray}  {K : Value → PH → Prop} {h : PH} (hh : F_sha_Sum sv K h) : CallH Tryz.prog id_sha_Sum [.string sv] K h :=
 denF_sound' Tryz.func128 (H := ⟨[2], [], [], []⟩) (xs := [.v (.string sv)]) (by kernel_rfl) (⟨rfl, trivial⟩) (den_of (by kernel_rfl) hh)
def F_ref02_primes (n : Int) (K : Value → PH → Prop) (h : PH) : Prop :=
 LoopP (T := (Option Addr × Nat × Nat) × Int × Unit) (fun Jv st h1 =>
 (((decide ((st.1.2.1 : Int) < n)) = true →
 LoopP (T := Bool × Int × Unit) (fun Jv_1 st_1 h2 =>
 (((decide (st_1.2.1 < (st.1.2.1 : Int))) = true →
 ∃ bv ov : Nat, (st.1.1 = some ⟨bv, ov, none⟩ ∧ 0 ≤ st_1.2.1 ∧ st_1.2.1 < (st.1.2.1 : Nat)) ∧
 ∃ t : Int, (h2.rds bv (ov + st_1.2.1.toNat * 1) 1 = some [.int .u64 t]) ∧
 (t ≠ 0) ∧
 ((((st.2.1.tmod t) == (0 : Int)) = true →
 Jv_1 (false, (IntKind.wrap .i64 (st_1.2.1 + (1 : Int))), ()) h2) ∧
 (((st.2.1.tmod t) == (0 : Int)) = false →
 Jv_1 (st_1.1, (IntKind.wrap .i64 (st_1.2.1 + (1 : Int))), ()) h2))) ∧
 ((decide (st_1.2.1 < (st.1.2.1 : Int))) = false →
 ((st_1.1 = true →
 appH 232 1 8 [.int .u64 (0 : Int)] st.1.1 st.1.2.1 st.1.2.2 1 [.int .u64 st.2.1] (fun lA lN lC h3 =>
 Jv ((lA, lN, lC), (IntKind.wrap .u64 (st.2.1 + (1 : Int))), ()) h3) h2) ∧
 (st_1.1 = false →
 Jv ((st.1.1, st.1.2.1, st.1.2.2), (IntKind.wrap .u64 (st.2.1 + (1 : Int))), ()) h2))))) (true, (0 : Int), ()) h1) ∧
 ((decide ((st.1.2.1 : Int) < n)) = false →
 K (.slice st.1.1 st.1.2.1 st.1.2.2) h1))) ((none, 0, 0), (2 : Int), ()) h
theorem F_ref02_primes_ok {n : Int}  {K : Value → PH → Prop} {h : PH} (hh : F_ref02_primes n K h) : CallH Tryz.prog id_ref02_primes [.int .i64 n] K h :=
 denF_sound' Tryz.func161 (H := ⟨[29], [], [(0, ⟨[(3, .slice), (4, .int .u64)], [], []⟩), (2, ⟨[(5, .bool), (6, .int .i64)], [], []⟩)], []⟩) (xs := [.v (.int .i64 n)]) (by kernel_rfl) (⟨rfl, trivial⟩) (den_of (by kernel_rfl) hh)
def F_ref02_behind (p : Int) (three : Bool) (K : Value → PH → Prop) (h : PH) : Prop :=
 LoopP (T := Int × Int × Unit) (fun Jv st h1 =>
 (((decide (st.2.1 ≥ (0 : Int))) = true →
 JoinP (T := Int × Unit) (fun Jv_1 =>
 (0 ≤ (IntKind.wrap .u64 st.2.1)) ∧
 (((three && (decide ((IntKind.wrap .u64 (st.1 + (shlV .u64 (1 : Int) (IntKind.wrap .u64 st.2.1)))) < (68719476736 : Int)))) = true →
 CallH Tryz.prog id_ref02_cube [.int .u64 (IntKind.wrap .u64 (st.1 + (shlV .u64 (1 : Int) (IntKind.wrap .u64 st.2.1)))), .int .u64 p] (fun v h3 =>
 ∃ t : Bool, v = .bool t ∧
 ((t = false →
 (((!three) = true →
 CallH Tryz.prog id_ref02_square [.int .u64 (IntKind.wrap .u64 (st.1 + (shlV .u64 (1 : Int) (IntKind.wrap .u64 st.2.1)))), .int .u64 p] (fun v_1 h4 =>
 ∃ t_1 : Bool, v_1 = .bool t_1 ∧
 ((t_1 = true →
 Jv_1 ((IntKind.wrap .u64 (st.1 + (shlV .u64 (1 : Int) (IntKind.wrap .u64 st.2.1)))), ()) h4) ∧
 (t_1 = false →
 Jv_1 (st.1, ()) h4))) h3) ∧
 ((!three) = false →
 Jv_1 (st.1, ()) h3))) ∧
 (t = true →
 Jv_1 ((IntKind.wrap .u64 (st.1 + (shlV .u64 (1 : Int) (IntKind.wrap .u64 st.2.1)))), ()) h3))) h1) ∧
 ((three && (decide ((IntKind.wrap .u64 (st.1 + (shlV .u64 (1 : Int) (IntKind.wrap .u64 st.2.1)))) < (68719476736 : Int)))) = false →
 (((!three) = true →
 CallH Tryz.prog id_ref02_square [.int .u64 (IntKind.wrap .u64 (st.1 + (shlV .u64 (1 : Int) (IntKind.wrap .u64 st.2.1)))), .int .u64 p] (fun v_2 h5 =>
 ∃ t_2 : Bool, v_2 = .bool t_2 ∧
 ((t_2 = true →
 Jv_1 ((IntKind.wrap .u64 (st.1 + (shlV .u64 (1 : Int) (IntKind.wrap .u64 st.2.1)))), ()) h5) ∧
 (t_2 = false →
 Jv_1 (st.1, ()) h5))) h1) ∧
 ((!three) = false →
 Jv_1 (st.1, ()) h1)))))
 (fun st_1 h2 =>
 Jv (st_1.1, (IntKind.wrap .i64 (st.2.1 - (1 : Int))), ()) h2)) ∧
 ((decide (st.2.1 ≥ (0 : Int))) = false →
 K (.int .u32 (IntKind.wrap .u32 (st.1.tmod (4294967296 : Int)))) h1))) ((0 : Int), (36 : Int), ()) h
theorem F_ref02_behind_ok {p : Int} {three : Bool}  {K : Value → PH → Prop} {h : PH} (hh : F_ref02_behind p three K h) : CallH Tryz.prog id_ref02_behind [.int .u64 p, .bool three] K h :=
 denF_sound' Tryz.func162 (H := ⟨[], [], [(0, ⟨[(5, .int .u64), (6, .int .i64)], [], []⟩)], [(10, ⟨[(5, .int .u64)], [], []⟩)]⟩) (xs := [.v (.int .u64 p), .v (.bool three)]) (by kernel_rfl) (⟨rfl, rfl, trivial⟩) (den_of (by kernel_rfl) hh)
def F_ref02_turn (hv k : List Int) (bA : Option Addr) (bN _ : Nat) (K : Value → PH → Prop) (h : PH) : Prop :=
 LoopP (T := Int × List Int × Unit) (fun Jv st h1 =>
 (((decide (st.1 < (16 : Int))) = true →
 ∃ bv ov : Nat, (bA = some ⟨bv, ov, none⟩ ∧ 0 ≤ (IntKind.wrap .i64 ((4 : Int) * st.1)) ∧ (IntKind.wrap .i64 ((4 : Int) * st.1)) < (bN : Nat)) ∧
 ∃ t : Int, (h1.rds bv (ov + (IntKind.wrap .i64 ((4 : Int) * st.1)).toNat * 1) 1 = some [.int .u8 t]) ∧
 ∃ bv_1 ov_1 : Nat, (bA = some ⟨bv_1, ov_1, none⟩ ∧ 0 ≤ (IntKind.wrap .i64 ((IntKind.wrap .i64 ((4 : Int) * st.1)) + (1 : Int))) ∧ (IntKind.wrap .i64 ((IntKind.wrap .i64 ((4 : Int) * st.1)) + (1 : Int))) < (bN : Nat)) ∧
 ∃ t_1 : Int, (h1.rds bv_1 (ov_1 + (IntKind.wrap .i64 ((IntKind.wrap .i64 ((4 : Int) * st.1)) + (1 : Int))).toNat * 1) 1 = some [.int .u8 t_1]) ∧
 ∃ bv_2 ov_2 : Nat, (bA = some ⟨bv_2, ov_2, none⟩ ∧ 0 ≤ (IntKind.wrap .i64 ((IntKind.wrap .i64 ((4 : Int) * st.1)) + (2 : Int))) ∧ (IntKind.wrap .i64 ((IntKind.wrap .i64 ((4 : Int) * st.1)) + (2 : Int))) < (bN : Nat)) ∧
 ∃ t_2 : Int, (h1.rds bv_2 (ov_2 + (IntKind.wrap .i64 ((IntKind.wrap .i64 ((4 : Int) * st.1)) + (2 : Int))).toNat * 1) 1 = some [.int .u8 t_2]) ∧
 ∃ bv_3 ov_3 : Nat, (bA = some ⟨bv_3, ov_3, none⟩ ∧ 0 ≤ (IntKind.wrap .i64 ((IntKind.wrap .i64 ((4 : Int) * st.1)) + (3 : Int))) ∧ (IntKind.wrap .i64 ((IntKind.wrap .i64 ((4 : Int) * st.1)) + (3 : Int))) < (bN : Nat)) ∧
 ∃ t_3 : Int, (h1.rds bv_3 (ov_3 + (IntKind.wrap .i64 ((IntKind.wrap .i64 ((4 : Int) * st.1)) + (3 : Int))).toNat * 1) 1 = some [.int .u8 t_3]) ∧
 (0 ≤ st.1 ∧ st.1 < (64 : Nat)) ∧
 (st.1.toNat * 1) < 64 ∧
 Jv ((IntKind.wrap .i64 (st.1 + (1 : Int))), (st.2.1.set (st.1.toNat * 1) (IntKind.wrap .u32 ((IntKind.wrap .u32 ((IntKind.wrap .u32 ((IntKind.wrap .u32 ((IntKind.wrap .u32 t) * (16777216 : Int))) + (IntKind.wrap .u32 ((IntKind.wrap .u32 t_1) * (65536 : Int))))) + (IntKind.wrap .u32 ((IntKind.wrap .u32 t_2) * (256 : Int))))) + (IntKind.wrap .u32 t_3)))), ()) h1) ∧
 ((decide (st.1 < (16 : Int))) = false →
 LoopP (T := Int × List Int × Unit) (fun Jv_1 st_1 h2 =>
 (((decide (st_1.1 < (64 : Int))) = true →
 (0 ≤ (IntKind.wrap .i64 (st_1.1 - (15 : Int))) ∧ (IntKind.wrap .i64 (st_1.1 - (15 : Int))) < (64 : Nat)) ∧
 (((IntKind.wrap .i64 (st_1.1 - (15 : Int))).toNat * 1) < 64) ∧
 (0 ≤ (IntKind.wrap .i64 (st_1.1 - (2 : Int))) ∧ (IntKind.wrap .i64 (st_1.1 - (2 : Int))) < (64 : Nat)) ∧
 (((IntKind.wrap .i64 (st_1.1 - (2 : Int))).toNat * 1) < 64) ∧
 (0 ≤ (IntKind.wrap .i64 (st_1.1 - (16 : Int))) ∧ (IntKind.wrap .i64 (st_1.1 - (16 : Int))) < (64 : Nat)) ∧
 (((IntKind.wrap .i64 (st_1.1 - (16 : Int))).toNat * 1) < 64) ∧
 (0 ≤ (IntKind.wrap .i64 (st_1.1 - (7 : Int))) ∧ (IntKind.wrap .i64 (st_1.1 - (7 : Int))) < (64 : Nat)) ∧
 (((IntKind.wrap .i64 (st_1.1 - (7 : Int))).toNat * 1) < 64) ∧
 CallH Tryz.prog id_ref02_rot [.int .u32 (st_1.2.1.getD ((IntKind.wrap .i64 (st_1.1 - (15 : Int))).toNat * 1) 0), .int .u64 (7 : Int)] (fun v h3 =>
 ∃ t_4 : Int, v = .int .u32 t_4 ∧
 CallH Tryz.prog id_ref02_rot [.int .u32 (st_1.2.1.getD ((IntKind.wrap .i64 (st_1.1 - (15 : Int))).toNat * 1) 0), .int .u64 (18 : Int)] (fun v_1 h4 =>
 ∃ t_5 : Int, v_1 = .int .u32 t_5 ∧
 CallH Tryz.prog id_ref02_rot [.int .u32 (st_1.2.1.getD ((IntKind.wrap .i64 (st_1.1 - (2 : Int))).toNat * 1) 0), .int .u64 (17 : Int)] (fun v_2 h5 =>
 ∃ t_6 : Int, v_2 = .int .u32 t_6 ∧
 CallH Tryz.prog id_ref02_rot [.int .u32 (st_1.2.1.getD ((IntKind.wrap .i64 (st_1.1 - (2 : Int))).toNat * 1) 0), .int .u64 (19 : Int)] (fun v_3 h6 =>
 ∃ t_7 : Int, v_3 = .int .u32 t_7 ∧
 (0 ≤ st_1.1 ∧ st_1.1 < (64 : Nat)) ∧
 (st_1.1.toNat * 1) < 64 ∧
 Jv_1 ((IntKind.wrap .i64 (st_1.1 + (1 : Int))), (st_1.2.1.set (st_1.1.toNat * 1) (IntKind.wrap .u32 ((IntKind.wrap .u32 ((IntKind.wrap .u32 ((st_1.2.1.getD ((IntKind.wrap .i64 (st_1.1 - (16 : Int))).toNat * 1) 0) + (bitsV .xor .u32 (bitsV .xor .u32 t_4 t_5) (shrV .u32 (st_1.2.1.getD ((IntKind.wrap .i64 (st_1.1 - (15 : Int))).toNat * 1) 0) (3 : Int))))) + (st_1.2.1.getD ((IntKind.wrap .i64 (st_1.1 - (7 : Int))).toNat * 1) 0))) + (bitsV .xor .u32 (bitsV .xor .u32 t_6 t_7) (shrV .u32 (st_1.2.1.getD ((IntKind.wrap .i64 (st_1.1 - (2 : Int))).toNat * 1) 0) (10 : Int)))))), ()) h6) h5) h4) h3) h2) ∧
 ((decide (st_1.1 < (64 : Int))) = false →
 LoopP (T := Int × List Int × Unit) (fun Jv_2 st_2 h7 =>
 (((decide (st_2.1 < (64 : Int))) = true →
 (0 ≤ st_2.1 ∧ st_2.1 < (64 : Nat)) ∧
 ((st_2.1.toNat * 1) < 64) ∧
 (0 ≤ st_2.1 ∧ st_2.1 < (64 : Nat)) ∧
 ((st_2.1.toNat * 1) < 64) ∧
 CallH Tryz.prog id_ref02_rot [.int .u32 (((st_2.2.1.drop 4).take 1).getD 0 0), .int .u64 (6 : Int)] (fun v_4 h8 =>
 ∃ t_8 : Int, v_4 = .int .u32 t_8 ∧
 CallH Tryz.prog id_ref02_rot [.int .u32 (((st_2.2.1.drop 4).take 1).getD 0 0), .int .u64 (11 : Int)] (fun v_5 h9 =>
 ∃ t_9 : Int, v_5 = .int .u32 t_9 ∧
 CallH Tryz.prog id_ref02_rot [.int .u32 (((st_2.2.1.drop 4).take 1).getD 0 0), .int .u64 (25 : Int)] (fun v_6 h10 =>
 ∃ t_10 : Int, v_6 = .int .u32 t_10 ∧
 CallH Tryz.prog id_ref02_rot [.int .u32 ((st_2.2.1.take 1).getD 0 0), .int .u64 (2 : Int)] (fun v_7 h11 =>
 ∃ t_11 : Int, v_7 = .int .u32 t_11 ∧
 CallH Tryz.prog id_ref02_rot [.int .u32 ((st_2.2.1.take 1).getD 0 0), .int .u64 (13 : Int)] (fun v_8 h12 =>
 ∃ t_12 : Int, v_8 = .int .u32 t_12 ∧
 CallH Tryz.prog id_ref02_rot [.int .u32 ((st_2.2.1.take 1).getD 0 0), .int .u64 (22 : Int)] (fun v_9 h13 =>
 ∃ t_13 : Int, v_9 = .int .u32 t_13 ∧
 Jv_2 ((IntKind.wrap .i64 (st_2.1 + (1 : Int))), [(IntKind.wrap .u32 ((IntKind.wrap .u32 ((IntKind.wrap .u32 ((IntKind.wrap .u32 ((IntKind.wrap .u32 (((st_2.2.1.drop 7).getD 0 0) + (bitsV .xor .u32 (bitsV .xor .u32 t_8 t_9) t_10))) + (bitsV .xor .u32 (bitsV .and .u32 (((st_2.2.1.drop 4).take 1).getD 0 0) (((st_2.2.1.drop 5).take 1).getD 0 0)) (bitsV .and .u32 (bitsV .xor .u32 (4294967295 : Int) (((st_2.2.1.drop 4).take 1).getD 0 0)) (((st_2.2.1.drop 6).take 1).getD 0 0))))) + (k.getD (st_2.1.toNat * 1) 0))) + (st_1.2.1.getD (st_2.1.toNat * 1) 0))) + (IntKind.wrap .u32 ((bitsV .xor .u32 (bitsV .xor .u32 t_11 t_12) t_13) + (bitsV .xor .u32 (bitsV .xor .u32 (bitsV .and .u32 ((st_2.2.1.take 1).getD 0 0) (((st_2.2.1.drop 1).take 1).getD 0 0)) (bitsV .and .u32 ((st_2.2.1.take 1).getD 0 0) (((st_2.2.1.drop 2).take 1).getD 0 0))) (bitsV .and .u32 (((st_2.2.1.drop 1).take 1).getD 0 0) (((st_2.2.1.drop 2).take 1).getD 0 0))))))), ((st_2.2.1.take 1).getD 0 0), (((st_2.2.1.drop 1).take 1).getD 0 0), (((st_2.2.1.drop 2).take 1).getD 0 0), (IntKind.wrap .u32 ((((st_2.2.1.drop 3).take 1).getD 0 0) + (IntKind.wrap .u32 ((IntKind.wrap .u32 ((IntKind.wrap .u32 ((IntKind.wrap .u32 (((st_2.2.1.drop 7).getD 0 0) + (bitsV .xor .u32 (bitsV .xor .u32 t_8 t_9) t_10))) + (bitsV .xor .u32 (bitsV .and .u32 (((st_2.2.1.drop 4).take 1).getD 0 0) (((st_2.2.1.drop 5).take 1).getD 0 0)) (bitsV .and .u32 (bitsV .xor .u32 (4294967295 : Int) (((st_2.2.1.drop 4).take 1).getD 0 0)) (((st_2.2.1.drop 6).take 1).getD 0 0))))) + (k.getD (st_2.1.toNat * 1) 0))) + (st_1.2.1.getD (st_2.1.toNat * 1) 0))))), (((st_2.2.1.drop 4).take 1).getD 0 0), (((st_2.2.1.drop 5).take 1).getD 0 0), (((st_2.2.1.drop 6).take 1).getD 0 0)], ()) h13) h12) h11) h10) h9) h8) h7) ∧
 ((decide (st_2.1 < (64 : Int))) = false →
 LoopP (T := Int × List Int × Unit) (fun Jv_3 st_3 h14 =>
 (((decide (st_3.1 < (8 : Int))) = true →
 (0 ≤ st_3.1 ∧ st_3.1 < (8 : Nat)) ∧
 ((st_3.1.toNat * 1) < 8) ∧
 (0 ≤ st_3.1 ∧ st_3.1 < (8 : Nat)) ∧
 ((st_3.1.toNat * 1) < 8) ∧
 (0 ≤ st_3.1 ∧ st_3.1 < (8 : Nat)) ∧
 (st_3.1.toNat * 1) < 8 ∧
 Jv_3 ((IntKind.wrap .i64 (st_3.1 + (1 : Int))), (st_3.2.1.set (st_3.1.toNat * 1) (IntKind.wrap .u32 ((st_3.2.1.getD (st_3.1.toNat * 1) 0) + (hv.getD (st_3.1.toNat * 1) 0)))), ()) h14) ∧
 ((decide (st_3.1 < (8 : Int))) = false →
 K (.agg ((st_3.2.1.map (Value.int .u32) ++ [])).toArray) h14))) ((0 : Int), st_2.2.1, ()) h7))) ((0 : Int), hv, ()) h2))) ((16 : Int), st.2.1, ()) h1))) ((0 : Int), (List.replicate 64 0), ()) h
theorem F_ref02_turn_ok {hv k : List Int} {bA : Option Addr} {bN bC : Nat} (hk0 : hv.length = 8) (hk1 : k.length = 64) {K : Value → PH → Prop} {h : PH} (hh : F_ref02_turn hv k bA bN bC K h) : CallH Tryz.prog id_ref02_turn [.agg ((hv.map (Value.int .u32) ++ [])).toArray, .agg ((k.map (Value.int .u32) ++ [])).toArray, .slice bA bN bC] K h :=
 denF_sound' Tryz.func163 (H := ⟨[3, 4, 6, 7, 12], [(11, .of [0, 1, 2, 3, 4, 5, 7, 10, 11, 14, 15, 16, 17, 19, 21, 24, 25, 6, 8, 9, 12, 13, 18, 20, 22, 23, 26, 27, 28, 29]), (17, .of [0, 1, 2, 4, 7, 11, 12, 13, 14, 15, 16, 17, 18, 20, 21, 22, 24, 25, 26, 3, 5, 6, 8, 9, 10, 19, 23, 27, 28])], [(0, ⟨[(8, .int .i64)], [], [(3, [.ints .u32 64])]⟩), (2, ⟨[(9, .int .i64)], [], [(3, [.ints .u32 64])]⟩), (4, ⟨[(13, .int .i64)], [], [(4, [.ints .u32 8])]⟩), (6, ⟨[(22, .int .i64)], [], [(4, [.ints .u32 8])]⟩)], []⟩) (xs := [.agg [.ints .u32 8 hv], .agg [.ints .u32 64 k], .v (.slice bA bN bC)]) (by kernel_rfl) (⟨⟨hk0, trivial⟩, ⟨hk1, trivial⟩, rfl, trivial⟩) (den_of (by kernel_rfl) hh)
def F_sha_New  (K : Value → PH → Prop) (h : PH) : Prop :=
 CallH Tryz.prog id_sha_begin [] (fun v h1 =>
 ∃ t : List Int, t.length = 8 ∧ v = .agg ((t.map (Value.int .u32) ++ [])).toArray ∧
 CallH Tryz.prog id_sha_numbers [] (fun v_1 h2 =>
 ∃ t_1 : List Int, t_1.length = 64 ∧ v_1 = .agg ((t_1.map (Value.int .u32) ++ [])).toArray ∧
 newH h2 (.cells ((t.map (Value.int .u32) ++ (t_1.map (Value.int .u32) ++ ([.slice none 0 0, .int .i64 (0 : Int), .bool true] : List Value)))).toArray T_sha_Sha (0, 0)) fun bv h3 =>
 K (.pointer (some ⟨bv, 0, none⟩)) h3) h1) h
theorem F_sha_New_ok   {K : Value → PH → Prop} {h : PH} (hh : F_sha_New  K h) : CallH Tryz.prog id_sha_New [] K h :=
 denF_sound' Tryz.func165 (H := ⟨[], [], [], []⟩) (xs := []) (by kernel_rfl) (trivial) (den_of (by kernel_rfl) hh)
def F_sha_Sha_Write (xv : Option Addr) (sv : ByteArray) (K : Value → PH → Prop) (h : PH) : Prop :=
 CallH Tryz.prog id_sha_Sha_none [.pointer xv] (fun v h1 =>
 ∃ t : Bool, v = .bool t ∧
 ((t = true →
 K (.int .i64 (0 : Int)) h1) ∧
 (t = false →
 ∃ bv ov : Nat, xv = some ⟨bv, ov, none⟩ ∧
 ∃ t_1 : Int, (h1.rds bv (ov + 73) 1 = some [.int .i64 t_1]) ∧
 ∃ bv_1 ov_1 : Nat, xv = some ⟨bv_1, ov_1, none⟩ ∧
 stH h1 bv_1 (ov_1 + 73) [.int .i64 (IntKind.wrap .i64 (t_1 + (sv.size : Int)))] fun h2 =>
 ∃ bv_2 ov_2 : Nat, xv = some ⟨bv_2, ov_2, none⟩ ∧
 ∃ (tA : Option Addr) (tN tC : Nat), (h2.rds bv_2 (ov_2 + 72) 1 = some [.slice tA tN tC]) ∧
 appH 5 1 1 [.int .u8 (0 : Int)] tA tN tC (ByteArray.size sv) (byteVs sv) (fun tA_1 tN_1 tC_1 h3 =>
 ∃ bv_3 ov_3 : Nat, xv = some ⟨bv_3, ov_3, none⟩ ∧
 stH h3 bv_3 (ov_3 + 72) [.slice tA_1 tN_1 tC_1] fun h4 =>
 LoopP (T := Unit) (fun Jv _ h5 =>
 ∃ bv_4 ov_4 : Nat, xv = some ⟨bv_4, ov_4, none⟩ ∧
 ∃ (tA_2 : Option Addr) (tN_2 tC_2 : Nat), (h5.rds bv_4 (ov_4 + 72) 1 = some [.slice tA_2 tN_2 tC_2]) ∧
 (((decide ((tN_2 : Int) ≥ (64 : Int))) = true →
 ∃ bv_5 ov_5 : Nat, xv = some ⟨bv_5, ov_5, none⟩ ∧
 ∃ t_2 : List Int, t_2.length = 8 ∧ (h5.rds bv_5 ov_5 8 = some (t_2.map (Value.int .u32) ++ [])) ∧
 ∃ bv_6 ov_6 : Nat, xv = some ⟨bv_6, ov_6, none⟩ ∧
 ∃ t_3 : List Int, t_3.length = 8 ∧ (h5.rds bv_6 ov_6 8 = some (t_3.map (Value.int .u32) ++ [])) ∧
 ∃ bv_7 ov_7 : Nat, xv = some ⟨bv_7, ov_7, none⟩ ∧
 ∃ bv_8 ov_8 : Nat, xv = some ⟨bv_8, ov_8, none⟩ ∧
 ∃ (tA_3 : Option Addr) (tN_3 tC_3 : Nat), (h5.rds bv_8 (ov_8 + 72) 1 = some [.slice tA_3 tN_3 tC_3]) ∧
 (0 ≤ (0 : Int) ∧ (0 : Int) ≤ (64 : Int) ∧ (64 : Int) ≤ (tC_3 : Int) ∧ (tC_3 : Int) ≤ (tC_3 : Nat)) ∧
 CallH Tryz.prog id_sha_turn [.agg ((t_2.map (Value.int .u32) ++ [])).toArray, .agg ((t_3.map (Value.int .u32) ++ [])).toArray, .pointer (some ⟨bv_7, (ov_7 + 8), none⟩), .slice (slA tA_3 1 (0 : Int) (tC_3 : Int)) ((64 : Int).toNat - (0 : Int).toNat) ((tC_3 : Int).toNat - (0 : Int).toNat)] (fun v_1 h6 =>
 ∃ t_4 : List Int, t_4.length = 8 ∧ v_1 = .agg ((t_4.map (Value.int .u32) ++ [])).toArray ∧
 ∃ bv_9 ov_9 : Nat, xv = some ⟨bv_9, ov_9, none⟩ ∧
 stH h6 bv_9 ov_9 (t_4.map (Value.int .u32) ++ []) fun h7 =>
 ∃ bv_10 ov_10 : Nat, xv = some ⟨bv_10, ov_10, none⟩ ∧
 ∃ (tA_4 : Option Addr) (tN_4 tC_4 : Nat), (h7.rds bv_10 (ov_10 + 72) 1 = some [.slice tA_4 tN_4 tC_4]) ∧
 (0 ≤ (64 : Int) ∧ (64 : Int) ≤ (tN_4 : Int) ∧ (tN_4 : Int) ≤ (tC_4 : Int) ∧ (tC_4 : Int) ≤ (tC_4 : Nat)) ∧
 ∃ bv_11 ov_11 : Nat, xv = some ⟨bv_11, ov_11, none⟩ ∧
 stH h7 bv_11 (ov_11 + 72) [.slice (slA tA_4 1 (64 : Int) (tC_4 : Int)) ((tN_4 : Int).toNat - (64 : Int).toNat) ((tC_4 : Int).toNat - (64 : Int).toNat)] fun h8 =>
 Jv (()) h8) h5) ∧
 ((decide ((tN_2 : Int) ≥ (64 : Int))) = false →
 K (.int .i64 (sv.size : Int)) h5))) (()) h4) h2))) h
theorem F_sha_Sha_Write_ok {xv : Option Addr} {sv : ByteArray}  {K : Value → PH → Prop} {h : PH} (hh : F_sha_Sha_Write xv sv K h) : CallH Tryz.prog id_sha_Sha_Write [.pointer xv, .string sv] K h :=
 denF_sound' Tryz.func166 (H := ⟨[], [], [(0, ⟨[], [], []⟩)], []⟩) (xs := [.v (.pointer xv), .v (.string sv)]) (by kernel_rfl) (⟨rfl, rfl, trivial⟩) (den_of (by kernel_rfl) hh)
def F_sha_Sha_Sum (xv : Option Addr) (K : Value → PH → Prop) (h : PH) : Prop :=
 newH h (.cells (((List.replicate 32 0).map (Value.int .u8) ++ [])).toArray T_api_Hash (0, 0)) fun bv h1 =>
 CallH Tryz.prog id_sha_Sha_none [.pointer xv] (fun v h2 =>
 ∃ t : Bool, v = .bool t ∧
 ((t = true →
 CallH Tryz.prog id_sha_Sum [.string (⟨#[]⟩ : ByteArray)] (fun v_1 h3 =>
 ∃ out : List Int, out.length = 32 ∧ v_1 = .agg ((out.map (Value.int .u8) ++ [])).toArray ∧
 stH h3 bv 0 (out.map (Value.int .u8) ++ []) fun h4 =>
 ∃ r : List Int, r.length = 32 ∧ (h4.rds bv 0 32 = some (r.map (Value.int .u8) ++ [])) ∧
 K (.agg ((r.map (Value.int .u8) ++ [])).toArray) h4) h2) ∧
 (t = false →
 newH h2 (.cells #[] 5 (0, 0)) fun bv_1 h5 =>
 ∃ bv_2 ov : Nat, xv = some ⟨bv_2, ov, none⟩ ∧
 ∃ (tA : Option Addr) (tN tC : Nat), (h5.rds bv_2 (ov + 72) 1 = some [.slice tA tN tC]) ∧
 ∃ vs : List Value, srcH h5 tA (tN * 1) vs ∧
 appH 5 1 1 [.int .u8 (0 : Int)] (some ⟨bv_1, 0, none⟩) 0 0 tN vs (fun tA_1 tN_1 tC_1 h6 =>
 appH 5 1 1 [.int .u8 (0 : Int)] tA_1 tN_1 tC_1 1 [.int .u8 (128 : Int)] (fun bA bN bC h7 =>
 LoopP (T := (Option Addr × Nat × Nat) × Unit) (fun Jv st h8 =>
 (((((st.1.2.1 : Int).tmod (64 : Int)) != (56 : Int)) = true →
 appH 5 1 1 [.int .u8 (0 : Int)] st.1.1 st.1.2.1 st.1.2.2 1 [.int .u8 (0 : Int)] (fun bA_1 bN_1 bC_1 h9 =>
 Jv ((bA_1, bN_1, bC_1), ()) h9) h8) ∧
 ((((st.1.2.1 : Int).tmod (64 : Int)) != (56 : Int)) = false →
 ∃ bv_3 ov_1 : Nat, xv = some ⟨bv_3, ov_1, none⟩ ∧
 ∃ t_1 : Int, (h8.rds bv_3 (ov_1 + 73) 1 = some [.int .i64 t_1]) ∧
 CallH Tryz.prog id_sha_putBig [.slice st.1.1 st.1.2.1 st.1.2.2, .int .u64 (IntKind.wrap .u64 ((IntKind.wrap .u64 t_1) * (8 : Int))), .int .i64 (8 : Int)] (fun v_2 h10 =>
 ∃ (bA_2 : Option Addr) (bN_2 bC_2 : Nat), v_2 = .slice bA_2 bN_2 bC_2 ∧
 ∃ bv_4 ov_2 : Nat, xv = some ⟨bv_4, ov_2, none⟩ ∧
 ∃ hv : List Int, hv.length = 8 ∧ (h10.rds bv_4 ov_2 8 = some (hv.map (Value.int .u32) ++ [])) ∧
 LoopP (T := (Option Addr × Nat × Nat) × List Int × Unit) (fun Jv_1 st_1 h11 =>
 (((decide ((st_1.1.2.1 : Int) > (0 : Int))) = true →
 ∃ bv_5 ov_3 : Nat, xv = some ⟨bv_5, ov_3, none⟩ ∧
 (0 ≤ (0 : Int) ∧ (0 : Int) ≤ (64 : Int) ∧ (64 : Int) ≤ (st_1.1.2.2 : Int) ∧ (st_1.1.2.2 : Int) ≤ (st_1.1.2.2 : Nat)) ∧
 CallH Tryz.prog id_sha_turn [.agg ((st_1.2.1.map (Value.int .u32) ++ [])).toArray, .agg ((st_1.2.1.map (Value.int .u32) ++ [])).toArray, .pointer (some ⟨bv_5, (ov_3 + 8), none⟩), .slice (slA st_1.1.1 1 (0 : Int) (st_1.1.2.2 : Int)) ((64 : Int).toNat - (0 : Int).toNat) ((st_1.1.2.2 : Int).toNat - (0 : Int).toNat)] (fun v_3 h12 =>
 ∃ hv_1 : List Int, hv_1.length = 8 ∧ v_3 = .agg ((hv_1.map (Value.int .u32) ++ [])).toArray ∧
 (0 ≤ (64 : Int) ∧ (64 : Int) ≤ (st_1.1.2.1 : Int) ∧ (st_1.1.2.1 : Int) ≤ (st_1.1.2.2 : Int) ∧ (st_1.1.2.2 : Int) ≤ (st_1.1.2.2 : Nat)) ∧
 Jv_1 (((slA st_1.1.1 1 (64 : Int) (st_1.1.2.2 : Int)), ((st_1.1.2.1 : Int).toNat - (64 : Int).toNat), ((st_1.1.2.2 : Int).toNat - (64 : Int).toNat)), hv_1, ()) h12) h11) ∧
 ((decide ((st_1.1.2.1 : Int) > (0 : Int))) = false →
 LoopP (T := Int × Unit) (fun Jv_2 st_2 h13 =>
 (((decide (st_2.1 < (8 : Int))) = true →
 (0 ≤ st_2.1 ∧ st_2.1 < (8 : Nat) ∧ st_2.1 < (8 : Nat)) ∧
 (0 ≤ (IntKind.wrap .i64 ((4 : Int) * st_2.1)) ∧ (IntKind.wrap .i64 ((4 : Int) * st_2.1)) ≤ ((32 : Nat) : Int) ∧ ((32 : Nat) : Int) ≤ ((32 : Nat) : Int) ∧ ((32 : Nat) : Int) ≤ (32 : Nat)) ∧
 CallH Tryz.prog id_sha_putBig [.slice none 0 0, .int .u64 (IntKind.wrap .u64 (st_1.2.1.getD st_2.1.toNat 0)), .int .i64 (4 : Int)] (fun v_4 h14 =>
 ∃ (tA_2 : Option Addr) (tN_2 tC_2 : Nat), v_4 = .slice tA_2 tN_2 tC_2 ∧
 ∃ vs_1 : List Value, srcH h14 tA_2 (min tN_2 (((32 : Nat) : Int).toNat - (IntKind.wrap .i64 ((4 : Int) * st_2.1)).toNat) * 1) vs_1 ∧
 ((vs_1.length = 0 →
 Jv_2 ((IntKind.wrap .i64 (st_2.1 + (1 : Int))), ()) h14) ∧
 (vs_1.length ≠ 0 → ∃ bv_6 ov_4 : Nat, (slA (some ⟨bv, 0, none⟩ : Option Addr) 1 (IntKind.wrap .i64 ((4 : Int) * st_2.1)) ((32 : Nat) : Int)) = some ⟨bv_6, ov_4, none⟩ ∧ stH h14 bv_6 ov_4 vs_1 fun h15 =>
 Jv_2 ((IntKind.wrap .i64 (st_2.1 + (1 : Int))), ()) h15))) h13) ∧
 ((decide (st_2.1 < (8 : Int))) = false →
 ∃ out_1 : List Int, out_1.length = 32 ∧ (h13.rds bv 0 32 = some (out_1.map (Value.int .u8) ++ [])) ∧
 stH h13 bv 0 (out_1.map (Value.int .u8) ++ []) fun h16 =>
 ∃ r_1 : List Int, r_1.length = 32 ∧ (h16.rds bv 0 32 = some (r_1.map (Value.int .u8) ++ [])) ∧
 K (.agg ((r_1.map (Value.int .u8) ++ [])).toArray) h16))) ((0 : Int), ()) h11))) ((bA_2, bN_2, bC_2), hv, ()) h10) h8))) ((bA, bN, bC), ()) h7) h6) h5))) h1
theorem F_sha_Sha_Sum_ok {xv : Option Addr}  {K : Value → PH → Prop} {h : PH} (hh : F_sha_Sha_Sum xv K h) : CallH Tryz.prog id_sha_Sha_Sum [.pointer xv] K h :=
 denF_sound' Tryz.func167 (H := ⟨[4, 16, 23], [], [(0, ⟨[(3, .slice)], [], []⟩), (2, ⟨[(3, .slice)], [], [(1, [.ints .u32 8])]⟩), (4, ⟨[(51, .int .i64)], [], []⟩)], []⟩) (xs := [.v (.pointer xv)]) (by kernel_rfl) (⟨rfl, trivial⟩) (den_of (by kernel_rfl) hh)
def F_math_bits_Len64 (xv : Int) (K : Value → PH → Prop) (h : PH) : Prop :=
 JoinP (T := Int × Int × Unit) (fun Jv =>
 (((decide (xv ≥ (4294967296 : Int))) = true →
 Jv ((shrV .u64 xv (32 : Int)), (32 : Int), ()) h) ∧
 ((decide (xv ≥ (4294967296 : Int))) = false →
 Jv (xv, (0 : Int), ()) h)))
 (fun st h1 =>
 JoinP (T := Int × Int × Unit) (fun Jv_1 =>
 (((decide (st.1 ≥ (65536 : Int))) = true →
 Jv_1 ((shrV .u64 st.1 (16 : Int)), (IntKind.wrap .i64 (st.2.1 + (16 : Int))), ()) h1) ∧
 ((decide (st.1 ≥ (65536 : Int))) = false →
 Jv_1 (st.1, st.2.1, ()) h1)))
 (fun st_1 h2 =>
 (((decide (st_1.1 ≥ (256 : Int))) = true →
 (0 ≤ (IntKind.wrap .u8 (shrV .u64 st_1.1 (8 : Int))) ∧ (IntKind.wrap .u8 (shrV .u64 st_1.1 (8 : Int))) < (ByteArray.size (⟨#[0, 1, 2, 2, 3, 3, 3, 3, 4, 4, 4, 4, 4, 4, 4, 4, 5, 5, 5, 5, 5, 5, 5, 5, 5, 5, 5, 5, 5, 5, 5, 5, 6, 6, 6, 6, 6, 6, 6, 6, 6, 6, 6, 6, 6, 6, 6, 6, 6, 6, 6, 6, 6, 6, 6, 6, 6, 6, 6, 6, 6, 6, 6, 6, 7, 7, 7, 7, 7, 7, 7, 7, 7, 7, 7, 7, 7, 7, 7, 7, 7, 7, 7, 7, 7, 7, 7, 7, 7, 7, 7, 7, 7, 7, 7, 7, 7, 7, 7, 7, 7, 7, 7, 7, 7, 7, 7, 7, 7, 7, 7, 7, 7, 7, 7, 7, 7, 7, 7, 7, 7, 7, 7, 7, 7, 7, 7, 7, 8, 8, 8, 8, 8, 8, 8, 8, 8, 8, 8, 8, 8, 8, 8, 8, 8, 8, 8, 8, 8, 8, 8, 8, 8, 8, 8, 8, 8, 8, 8, 8, 8, 8, 8, 8, 8, 8, 8, 8, 8, 8, 8, 8, 8, 8, 8, 8, 8, 8, 8, 8, 8, 8, 8, 8, 8, 8, 8, 8, 8, 8, 8, 8, 8, 8, 8, 8, 8, 8, 8, 8, 8, 8, 8, 8, 8, 8, 8, 8, 8, 8, 8, 8, 8, 8, 8, 8, 8, 8, 8, 8, 8, 8, 8, 8, 8, 8, 8, 8, 8, 8, 8, 8, 8, 8, 8, 8, 8, 8, 8, 8, 8, 8, 8, 8, 8, 8, 8, 8, 8, 8, 8, 8, 8, 8, 8, 8]⟩ : ByteArray) : Nat)) ∧
 K (.int .i64 (IntKind.wrap .i64 ((IntKind.wrap .i64 (st_1.2.1 + (8 : Int))) + (IntKind.wrap .i64 (byteAt (⟨#[0, 1, 2, 2, 3, 3, 3, 3, 4, 4, 4, 4, 4, 4, 4, 4, 5, 5, 5, 5, 5, 5, 5, 5, 5, 5, 5, 5, 5, 5, 5, 5, 6, 6, 6, 6, 6, 6, 6, 6, 6, 6, 6, 6, 6, 6, 6, 6, 6, 6, 6, 6, 6, 6, 6, 6, 6, 6, 6, 6, 6, 6, 6, 6, 7, 7, 7, 7, 7, 7, 7, 7, 7, 7, 7, 7, 7, 7, 7, 7, 7, 7, 7, 7, 7, 7, 7, 7, 7, 7, 7, 7, 7, 7, 7, 7, 7, 7, 7, 7, 7, 7, 7, 7, 7, 7, 7, 7, 7, 7, 7, 7, 7, 7, 7, 7, 7, 7, 7, 7, 7, 7, 7, 7, 7, 7, 7, 7, 8, 8, 8, 8, 8, 8, 8, 8, 8, 8, 8, 8, 8, 8, 8, 8, 8, 8, 8, 8, 8, 8, 8, 8, 8, 8, 8, 8, 8, 8, 8, 8, 8, 8, 8, 8, 8, 8, 8, 8, 8, 8, 8, 8, 8, 8, 8, 8, 8, 8, 8, 8, 8, 8, 8, 8, 8, 8, 8, 8, 8, 8, 8, 8, 8, 8, 8, 8, 8, 8, 8, 8, 8, 8, 8, 8, 8, 8, 8, 8, 8, 8, 8, 8, 8, 8, 8, 8, 8, 8, 8, 8, 8, 8, 8, 8, 8, 8, 8, 8, 8, 8, 8, 8, 8, 8, 8, 8, 8, 8, 8, 8, 8, 8, 8, 8, 8, 8, 8, 8, 8, 8, 8, 8, 8, 8, 8, 8]⟩ : ByteArray) (IntKind.wrap .u8 (shrV .u64 st_1.1 (8 : Int)))))))) h2) ∧
 ((decide (st_1.1 ≥ (256 : Int))) = false →
 (0 ≤ (IntKind.wrap .u8 st_1.1) ∧ (IntKind.wrap .u8 st_1.1) < (ByteArray.size (⟨#[0, 1, 2, 2, 3, 3, 3, 3, 4, 4, 4, 4, 4, 4, 4, 4, 5, 5, 5, 5, 5, 5, 5, 5, 5, 5, 5, 5, 5, 5, 5, 5, 6, 6, 6, 6, 6, 6, 6, 6, 6, 6, 6, 6, 6, 6, 6, 6, 6, 6, 6, 6, 6, 6, 6, 6, 6, 6, 6, 6, 6, 6, 6, 6, 7, 7, 7, 7, 7, 7, 7, 7, 7, 7, 7, 7, 7, 7, 7, 7, 7, 7, 7, 7, 7, 7, 7, 7, 7, 7, 7, 7, 7, 7, 7, 7, 7, 7, 7, 7, 7, 7, 7, 7, 7, 7, 7, 7, 7, 7, 7, 7, 7, 7, 7, 7, 7, 7, 7, 7, 7, 7, 7, 7, 7, 7, 7, 7, 8, 8, 8, 8, 8, 8, 8, 8, 8, 8, 8, 8, 8, 8, 8, 8, 8, 8, 8, 8, 8, 8, 8, 8, 8, 8, 8, 8, 8, 8, 8, 8, 8, 8, 8, 8, 8, 8, 8, 8, 8, 8, 8, 8, 8, 8, 8, 8, 8, 8, 8, 8, 8, 8, 8, 8, 8, 8, 8, 8, 8, 8, 8, 8, 8, 8, 8, 8, 8, 8, 8, 8, 8, 8, 8, 8, 8, 8, 8, 8, 8, 8, 8, 8, 8, 8, 8, 8, 8, 8, 8, 8, 8, 8, 8, 8, 8, 8, 8, 8, 8, 8, 8, 8, 8, 8, 8, 8, 8, 8, 8, 8, 8, 8, 8, 8, 8, 8, 8, 8, 8, 8, 8, 8, 8, 8, 8, 8]⟩ : ByteArray) : Nat)) ∧
 K (.int .i64 (IntKind.wrap .i64 (st_1.2.1 + (IntKind.wrap .i64 (byteAt (⟨#[0, 1, 2, 2, 3, 3, 3, 3, 4, 4, 4, 4, 4, 4, 4, 4, 5, 5, 5, 5, 5, 5, 5, 5, 5, 5, 5, 5, 5, 5, 5, 5, 6, 6, 6, 6, 6, 6, 6, 6, 6, 6, 6, 6, 6, 6, 6, 6, 6, 6, 6, 6, 6, 6, 6, 6, 6, 6, 6, 6, 6, 6, 6, 6, 7, 7, 7, 7, 7, 7, 7, 7, 7, 7, 7, 7, 7, 7, 7, 7, 7, 7, 7, 7, 7, 7, 7, 7, 7, 7, 7, 7, 7, 7, 7, 7, 7, 7, 7, 7, 7, 7, 7, 7, 7, 7, 7, 7, 7, 7, 7, 7, 7, 7, 7, 7, 7, 7, 7, 7, 7, 7, 7, 7, 7, 7, 7, 7, 8, 8, 8, 8, 8, 8, 8, 8, 8, 8, 8, 8, 8, 8, 8, 8, 8, 8, 8, 8, 8, 8, 8, 8, 8, 8, 8, 8, 8, 8, 8, 8, 8, 8, 8, 8, 8, 8, 8, 8, 8, 8, 8, 8, 8, 8, 8, 8, 8, 8, 8, 8, 8, 8, 8, 8, 8, 8, 8, 8, 8, 8, 8, 8, 8, 8, 8, 8, 8, 8, 8, 8, 8, 8, 8, 8, 8, 8, 8, 8, 8, 8, 8, 8, 8, 8, 8, 8, 8, 8, 8, 8, 8, 8, 8, 8, 8, 8, 8, 8, 8, 8, 8, 8, 8, 8, 8, 8, 8, 8, 8, 8, 8, 8, 8, 8, 8, 8, 8, 8, 8, 8, 8, 8, 8, 8, 8, 8]⟩ : ByteArray) (IntKind.wrap .u8 st_1.1)))))) h2))))
theorem F_math_bits_Len64_ok {xv : Int}  {K : Value → PH → Prop} {h : PH} (hh : F_math_bits_Len64 xv K h) : CallH Tryz.prog id_math_bits_Len64 [.int .u64 xv] K h :=
 denF_sound' Tryz.func187 (H := ⟨[], [], [], [(10, ⟨[(0, .int .u64), (2, .int .i64)], [], []⟩), (16, ⟨[(0, .int .u64), (2, .int .i64)], [], []⟩)]⟩) (xs := [.v (.int .u64 xv)]) (by kernel_rfl) (⟨rfl, trivial⟩) (den_of (by kernel_rfl) hh)
def F_ref02_cube (n p : Int) (K : Value → PH → Prop) (h : PH) : Prop :=
 CallH Tryz.prog id_math_bits_Mul64 [.int .u64 n, .int .u64 n] (fun v h1 =>
 ∃ t0 t1 : Int, v = .tuple #[.int .u64 t0, .int .u64 t1] ∧
 CallH Tryz.prog id_math_bits_Mul64 [.int .u64 t0, .int .u64 n] (fun v_1 h2 =>
 ∃ t0_1 t1_1 : Int, v_1 = .tuple #[.int .u64 t0_1, .int .u64 t1_1] ∧
 CallH Tryz.prog id_math_bits_Mul64 [.int .u64 t1, .int .u64 n] (fun v_2 h3 =>
 ∃ t0_2 t1_2 : Int, v_2 = .tuple #[.int .u64 t0_2, .int .u64 t1_2] ∧
 (((decide ((IntKind.wrap .u64 (t1_1 + t0_2)) < (shlV .u64 p (32 : Int)))) = false →
 K (.bool (((IntKind.wrap .u64 (t1_1 + t0_2)) == (shlV .u64 p (32 : Int))) && (t1_2 == (0 : Int)))) h3) ∧
 ((decide ((IntKind.wrap .u64 (t1_1 + t0_2)) < (shlV .u64 p (32 : Int)))) = true →
 K (.bool true) h3))) h2) h1) h
theorem F_ref02_cube_ok {n p : Int}  {K : Value → PH → Prop} {h : PH} (hh : F_ref02_cube n p K h) : CallH Tryz.prog id_ref02_cube [.int .u64 n, .int .u64 p] K h :=
 denF_sound' Tryz.func189 (H := ⟨[], [], [], []⟩) (xs := [.v (.int .u64 n), .v (.int .u64 p)]) (by kernel_rfl) (⟨rfl, rfl, trivial⟩) (den_of (by kernel_rfl) hh)
def F_ref02_square (n p : Int) (K : Value → PH → Prop) (h : PH) : Prop :=
 CallH Tryz.prog id_math_bits_Mul64 [.int .u64 n, .int .u64 n] (fun v h1 =>
 ∃ t0 t1 : Int, v = .tuple #[.int .u64 t0, .int .u64 t1] ∧
 (((decide (t0 < p)) = false →
 K (.bool ((t0 == p) && (t1 == (0 : Int)))) h1) ∧
 ((decide (t0 < p)) = true →
 K (.bool true) h1))) h
theorem F_ref02_square_ok {n p : Int}  {K : Value → PH → Prop} {h : PH} (hh : F_ref02_square n p K h) : CallH Tryz.prog id_ref02_square [.int .u64 n, .int .u64 p] K h :=
 denF_sound' Tryz.func190 (H := ⟨[], [], [], []⟩) (xs := [.v (.int .u64 n), .v (.int .u64 p)]) (by kernel_rfl) (⟨rfl, rfl, trivial⟩) (den_of (by kernel_rfl) hh)
def F_ref02_rot (r n : Int) (K : Value → PH → Prop) (h : PH) : Prop :=
 (0 ≤ n) ∧
 (0 ≤ (IntKind.wrap .u64 ((32 : Int) - n))) ∧
 K (.int .u32 (bitsV .or .u32 (shrV .u32 r n) (shlV .u32 r (IntKind.wrap .u64 ((32 : Int) - n))))) h
theorem F_ref02_rot_ok {r n : Int}  {K : Value → PH → Prop} {h : PH} (hh : F_ref02_rot r n K h) : CallH Tryz.prog id_ref02_rot [.int .u32 r, .int .u64 n] K h :=
 denF_sound' Tryz.func191 (H := ⟨[], [], [], []⟩) (xs := [.v (.int .u32 r), .v (.int .u64 n)]) (by kernel_rfl) (⟨rfl, rfl, trivial⟩) (den_of (by kernel_rfl) hh)
def F_sha_begin  (K : Value → PH → Prop) (h : PH) : Prop :=
 K (.agg ((([(1779033703 : Int), (3144134277 : Int), (1013904242 : Int), (2773480762 : Int), (1359893119 : Int), (2600822924 : Int), (528734635 : Int), (1541459225 : Int)]).map (Value.int .u32) ++ [])).toArray) h
theorem F_sha_begin_ok   {K : Value → PH → Prop} {h : PH} (hh : F_sha_begin  K h) : CallH Tryz.prog id_sha_begin [] K h :=
 denF_sound' Tryz.func194 (H := ⟨[0], [], [], []⟩) (xs := []) (by kernel_rfl) (trivial) (den_of (by kernel_rfl) hh)
def F_sha_numbers  (K : Value → PH → Prop) (h : PH) : Prop :=
 K (.agg ((([(1116352408 : Int), (1899447441 : Int), (3049323471 : Int), (3921009573 : Int), (961987163 : Int), (1508970993 : Int), (2453635748 : Int), (2870763221 : Int), (3624381080 : Int), (310598401 : Int), (607225278 : Int), (1426881987 : Int), (1925078388 : Int), (2162078206 : Int), (2614888103 : Int), (3248222580 : Int), (3835390401 : Int), (4022224774 : Int), (264347078 : Int), (604807628 : Int), (770255983 : Int), (1249150122 : Int), (1555081692 : Int), (1996064986 : Int), (2554220882 : Int), (2821834349 : Int), (2952996808 : Int), (3210313671 : Int), (3336571891 : Int), (3584528711 : Int), (113926993 : Int), (338241895 : Int), (666307205 : Int), (773529912 : Int), (1294757372 : Int), (1396182291 : Int), (1695183700 : Int), (1986661051 : Int), (2177026350 : Int), (2456956037 : Int), (2730485921 : Int), (2820302411 : Int), (3259730800 : Int), (3345764771 : Int), (3516065817 : Int), (3600352804 : Int), (4094571909 : Int), (275423344 : Int), (430227734 : Int), (506948616 : Int), (659060556 : Int), (883997877 : Int), (958139571 : Int), (1322822218 : Int), (1537002063 : Int), (1747873779 : Int), (1955562222 : Int), (2024104815 : Int), (2227730452 : Int), (2361852424 : Int), (2428436474 : Int), (2756734187 : Int), (3204031479 : Int), (3329325298 : Int)]).map (Value.int .u32) ++ [])).toArray) h
theorem F_sha_numbers_ok   {K : Value → PH → Prop} {h : PH} (hh : F_sha_numbers  K h) : CallH Tryz.prog id_sha_numbers [] K h :=
 denF_sound' Tryz.func195 (H := ⟨[0], [], [], []⟩) (xs := []) (by kernel_rfl) (trivial) (den_of (by kernel_rfl) hh)
def F_sha_Sha_none (xv : Option Addr) (K : Value → PH → Prop) (h : PH) : Prop :=
 ∃ bv ov : Nat, ((Option.isNone xv) = false → xv = some ⟨bv, ov, none⟩) ∧
 ∃ t : Bool, (((Option.isNone xv) = false → h.rds bv (ov + 74) 1 = some [.bool t])) ∧
 K (.bool ((Option.isNone xv) || (!t))) h
theorem F_sha_Sha_none_ok {xv : Option Addr}  {K : Value → PH → Prop} {h : PH} (hh : F_sha_Sha_none xv K h) : CallH Tryz.prog id_sha_Sha_none [.pointer xv] K h :=
 denF_sound' Tryz.func196 (H := ⟨[], [], [], []⟩) (xs := [.v (.pointer xv)]) (by kernel_rfl) (⟨rfl, trivial⟩) (den_of (by kernel_rfl) hh)
def F_sha_turn (hv bv : List Int) (k sA : Option Addr) (_ sC : Nat) (K : Value → PH → Prop) (h : PH) : Prop :=
 LoopP (T := Int × List Int × Unit) (fun Jv st h1 =>
 (((decide (st.1 < (16 : Int))) = true →
 (0 ≤ (IntKind.wrap .i64 ((4 : Int) * st.1)) ∧ (IntKind.wrap .i64 ((4 : Int) * st.1)) ≤ (IntKind.wrap .i64 ((IntKind.wrap .i64 ((4 : Int) * st.1)) + (4 : Int))) ∧ (IntKind.wrap .i64 ((IntKind.wrap .i64 ((4 : Int) * st.1)) + (4 : Int))) ≤ (sC : Int) ∧ (sC : Int) ≤ (sC : Nat)) ∧
 ∃ t : ByteArray, strH h1 (slA sA 1 (IntKind.wrap .i64 ((4 : Int) * st.1)) (sC : Int)) ((IntKind.wrap .i64 ((IntKind.wrap .i64 ((4 : Int) * st.1)) + (4 : Int))).toNat - (IntKind.wrap .i64 ((4 : Int) * st.1)).toNat) t ∧
 CallH Tryz.prog id_sha_getBig [.string t, .int .i64 (4 : Int)] (fun v h2 =>
 ∃ t_1 : Int, v = .int .u64 t_1 ∧
 (0 ≤ st.1 ∧ st.1 < (64 : Nat)) ∧
 (st.1.toNat * 1) < 64 ∧
 Jv ((IntKind.wrap .i64 (st.1 + (1 : Int))), (st.2.1.set (st.1.toNat * 1) (IntKind.wrap .u32 t_1)), ()) h2) h1) ∧
 ((decide (st.1 < (16 : Int))) = false →
 LoopP (T := Int × List Int × Unit) (fun Jv_1 st_1 h3 =>
 (((decide (st_1.1 < (64 : Int))) = true →
 (0 ≤ (IntKind.wrap .i64 (st_1.1 - (15 : Int))) ∧ (IntKind.wrap .i64 (st_1.1 - (15 : Int))) < (64 : Nat)) ∧
 (((IntKind.wrap .i64 (st_1.1 - (15 : Int))).toNat * 1) < 64) ∧
 (0 ≤ (IntKind.wrap .i64 (st_1.1 - (2 : Int))) ∧ (IntKind.wrap .i64 (st_1.1 - (2 : Int))) < (64 : Nat)) ∧
 (((IntKind.wrap .i64 (st_1.1 - (2 : Int))).toNat * 1) < 64) ∧
 CallH Tryz.prog id_math_bits_RotateLeft32 [.int .u32 (st_1.2.1.getD ((IntKind.wrap .i64 (st_1.1 - (15 : Int))).toNat * 1) 0), .int .i64 (-7 : Int)] (fun v_1 h4 =>
 ∃ t_2 : Int, v_1 = .int .u32 t_2 ∧
 CallH Tryz.prog id_math_bits_RotateLeft32 [.int .u32 (st_1.2.1.getD ((IntKind.wrap .i64 (st_1.1 - (15 : Int))).toNat * 1) 0), .int .i64 (-18 : Int)] (fun v_2 h5 =>
 ∃ t_3 : Int, v_2 = .int .u32 t_3 ∧
 CallH Tryz.prog id_math_bits_RotateLeft32 [.int .u32 (st_1.2.1.getD ((IntKind.wrap .i64 (st_1.1 - (2 : Int))).toNat * 1) 0), .int .i64 (-17 : Int)] (fun v_3 h6 =>
 ∃ t_4 : Int, v_3 = .int .u32 t_4 ∧
 CallH Tryz.prog id_math_bits_RotateLeft32 [.int .u32 (st_1.2.1.getD ((IntKind.wrap .i64 (st_1.1 - (2 : Int))).toNat * 1) 0), .int .i64 (-19 : Int)] (fun v_4 h7 =>
 ∃ t_5 : Int, v_4 = .int .u32 t_5 ∧
 (0 ≤ (IntKind.wrap .i64 (st_1.1 - (16 : Int))) ∧ (IntKind.wrap .i64 (st_1.1 - (16 : Int))) < (64 : Nat)) ∧
 (((IntKind.wrap .i64 (st_1.1 - (16 : Int))).toNat * 1) < 64) ∧
 (0 ≤ (IntKind.wrap .i64 (st_1.1 - (7 : Int))) ∧ (IntKind.wrap .i64 (st_1.1 - (7 : Int))) < (64 : Nat)) ∧
 (((IntKind.wrap .i64 (st_1.1 - (7 : Int))).toNat * 1) < 64) ∧
 (0 ≤ st_1.1 ∧ st_1.1 < (64 : Nat)) ∧
 (st_1.1.toNat * 1) < 64 ∧
 Jv_1 ((IntKind.wrap .i64 (st_1.1 + (1 : Int))), (st_1.2.1.set (st_1.1.toNat * 1) (IntKind.wrap .u32 ((IntKind.wrap .u32 ((IntKind.wrap .u32 ((st_1.2.1.getD ((IntKind.wrap .i64 (st_1.1 - (16 : Int))).toNat * 1) 0) + (bitsV .xor .u32 (bitsV .xor .u32 t_2 t_3) (shrV .u32 (st_1.2.1.getD ((IntKind.wrap .i64 (st_1.1 - (15 : Int))).toNat * 1) 0) (3 : Int))))) + (st_1.2.1.getD ((IntKind.wrap .i64 (st_1.1 - (7 : Int))).toNat * 1) 0))) + (bitsV .xor .u32 (bitsV .xor .u32 t_4 t_5) (shrV .u32 (st_1.2.1.getD ((IntKind.wrap .i64 (st_1.1 - (2 : Int))).toNat * 1) 0) (10 : Int)))))), ()) h7) h6) h5) h4) h3) ∧
 ((decide (st_1.1 < (64 : Int))) = false →
 LoopP (T := Int × List Int × Unit) (fun Jv_2 st_2 h8 =>
 (((decide (st_2.1 < (64 : Int))) = true →
 ∃ bv_1 ov : Nat, k = some ⟨bv_1, ov, none⟩ ∧
 (0 ≤ st_2.1 ∧ st_2.1 < (64 : Nat)) ∧
 ∃ t_6 : Int, (h8.rds bv_1 (ov + st_2.1.toNat * 1) 1 = some [.int .u32 t_6]) ∧
 (0 ≤ st_2.1 ∧ st_2.1 < (64 : Nat)) ∧
 ((st_2.1.toNat * 1) < 64) ∧
 CallH Tryz.prog id_math_bits_RotateLeft32 [.int .u32 (((st_2.2.1.drop 4).take 1).getD 0 0), .int .i64 (-6 : Int)] (fun v_5 h9 =>
 ∃ t_7 : Int, v_5 = .int .u32 t_7 ∧
 (h9.rds bv_1 (ov + st_2.1.toNat * 1) 1 = some [.int .u32 t_6]) ∧
 CallH Tryz.prog id_math_bits_RotateLeft32 [.int .u32 (((st_2.2.1.drop 4).take 1).getD 0 0), .int .i64 (-11 : Int)] (fun v_6 h10 =>
 ∃ t_8 : Int, v_6 = .int .u32 t_8 ∧
 (h10.rds bv_1 (ov + st_2.1.toNat * 1) 1 = some [.int .u32 t_6]) ∧
 CallH Tryz.prog id_math_bits_RotateLeft32 [.int .u32 (((st_2.2.1.drop 4).take 1).getD 0 0), .int .i64 (-25 : Int)] (fun v_7 h11 =>
 ∃ t_9 : Int, v_7 = .int .u32 t_9 ∧
 (h11.rds bv_1 (ov + st_2.1.toNat * 1) 1 = some [.int .u32 t_6]) ∧
 CallH Tryz.prog id_math_bits_RotateLeft32 [.int .u32 ((st_2.2.1.take 1).getD 0 0), .int .i64 (-2 : Int)] (fun v_8 h12 =>
 ∃ t_10 : Int, v_8 = .int .u32 t_10 ∧
 CallH Tryz.prog id_math_bits_RotateLeft32 [.int .u32 ((st_2.2.1.take 1).getD 0 0), .int .i64 (-13 : Int)] (fun v_9 h13 =>
 ∃ t_11 : Int, v_9 = .int .u32 t_11 ∧
 CallH Tryz.prog id_math_bits_RotateLeft32 [.int .u32 ((st_2.2.1.take 1).getD 0 0), .int .i64 (-22 : Int)] (fun v_10 h14 =>
 ∃ t_12 : Int, v_10 = .int .u32 t_12 ∧
 Jv_2 ((IntKind.wrap .i64 (st_2.1 + (1 : Int))), [(IntKind.wrap .u32 ((IntKind.wrap .u32 ((IntKind.wrap .u32 ((IntKind.wrap .u32 ((IntKind.wrap .u32 (((st_2.2.1.drop 7).getD 0 0) + (bitsV .xor .u32 (bitsV .xor .u32 t_7 t_8) t_9))) + (bitsV .xor .u32 (bitsV .and .u32 (((st_2.2.1.drop 4).take 1).getD 0 0) (((st_2.2.1.drop 5).take 1).getD 0 0)) (bitsV .and .u32 (bitsV .xor .u32 (IntKind.max .u32) (((st_2.2.1.drop 4).take 1).getD 0 0)) (((st_2.2.1.drop 6).take 1).getD 0 0))))) + t_6)) + (st_1.2.1.getD (st_2.1.toNat * 1) 0))) + (IntKind.wrap .u32 ((bitsV .xor .u32 (bitsV .xor .u32 t_10 t_11) t_12) + (bitsV .xor .u32 (bitsV .xor .u32 (bitsV .and .u32 ((st_2.2.1.take 1).getD 0 0) (((st_2.2.1.drop 1).take 1).getD 0 0)) (bitsV .and .u32 ((st_2.2.1.take 1).getD 0 0) (((st_2.2.1.drop 2).take 1).getD 0 0))) (bitsV .and .u32 (((st_2.2.1.drop 1).take 1).getD 0 0) (((st_2.2.1.drop 2).take 1).getD 0 0))))))), ((st_2.2.1.take 1).getD 0 0), (((st_2.2.1.drop 1).take 1).getD 0 0), (((st_2.2.1.drop 2).take 1).getD 0 0), (IntKind.wrap .u32 ((((st_2.2.1.drop 3).take 1).getD 0 0) + (IntKind.wrap .u32 ((IntKind.wrap .u32 ((IntKind.wrap .u32 ((IntKind.wrap .u32 (((st_2.2.1.drop 7).getD 0 0) + (bitsV .xor .u32 (bitsV .xor .u32 t_7 t_8) t_9))) + (bitsV .xor .u32 (bitsV .and .u32 (((st_2.2.1.drop 4).take 1).getD 0 0) (((st_2.2.1.drop 5).take 1).getD 0 0)) (bitsV .and .u32 (bitsV .xor .u32 (IntKind.max .u32) (((st_2.2.1.drop 4).take 1).getD 0 0)) (((st_2.2.1.drop 6).take 1).getD 0 0))))) + t_6)) + (st_1.2.1.getD (st_2.1.toNat * 1) 0))))), (((st_2.2.1.drop 4).take 1).getD 0 0), (((st_2.2.1.drop 5).take 1).getD 0 0), (((st_2.2.1.drop 6).take 1).getD 0 0)], ()) h14) h13) h12) h11) h10) h9) h8) ∧
 ((decide (st_2.1 < (64 : Int))) = false →
 LoopP (T := Int × List Int × Unit) (fun Jv_3 st_3 h15 =>
 (((decide (st_3.1 < (8 : Int))) = true →
 (0 ≤ st_3.1 ∧ st_3.1 < (8 : Nat)) ∧
 ((st_3.1.toNat * 1) < 8) ∧
 (0 ≤ st_3.1 ∧ st_3.1 < (8 : Nat)) ∧
 ((st_3.1.toNat * 1) < 8) ∧
 (0 ≤ st_3.1 ∧ st_3.1 < (8 : Nat)) ∧
 (st_3.1.toNat * 1) < 8 ∧
 Jv_3 ((IntKind.wrap .i64 (st_3.1 + (1 : Int))), (st_3.2.1.set (st_3.1.toNat * 1) (IntKind.wrap .u32 ((st_3.2.1.getD (st_3.1.toNat * 1) 0) + (st_2.2.1.getD (st_3.1.toNat * 1) 0)))), ()) h15) ∧
 ((decide (st_3.1 < (8 : Int))) = false →
 K (.agg ((st_3.2.1.map (Value.int .u32) ++ [])).toArray) h15))) ((0 : Int), hv, ()) h8))) ((0 : Int), bv, ()) h3))) ((16 : Int), st.2.1, ()) h1))) ((0 : Int), (List.replicate 64 0), ()) h
theorem F_sha_turn_ok {hv bv : List Int} {k sA : Option Addr} {sN sC : Nat} (hk0 : hv.length = 8) (hk1 : bv.length = 8) {K : Value → PH → Prop} {h : PH} (hh : F_sha_turn hv bv k sA sN sC K h) : CallH Tryz.prog id_sha_turn [.agg ((hv.map (Value.int .u32) ++ [])).toArray, .agg ((bv.map (Value.int .u32) ++ [])).toArray, .pointer k, .slice sA sN sC] K h :=
 denF_sound' Tryz.func197 (H := ⟨[4, 5, 8, 9], [(18, .of [0, 1, 2, 4, 7, 11, 12, 13, 14, 15, 16, 17, 18, 19, 20, 22, 23, 24, 25, 26, 28, 29, 30, 3, 5, 6, 8, 9, 10, 21, 27, 31, 32]), (19, .of [0, 2, 5, 8, 9, 10, 11, 12, 13, 14, 15, 16, 17, 18, 19, 20, 21, 22, 1, 3, 4, 6, 7, 23, 24])], [(0, ⟨[(22, .int .i64)], [], [(3, [.ints .u32 64])]⟩), (2, ⟨[(11, .int .i64)], [], [(3, [.ints .u32 64])]⟩), (4, ⟨[(81, .int .i64)], [], [(1, [.ints .u32 8])]⟩), (6, ⟨[(165, .int .i64)], [], [(0, [.ints .u32 8])]⟩)], []⟩) (xs := [.agg [.ints .u32 8 hv], .agg [.ints .u32 8 bv], .v (.pointer k), .v (.slice sA sN sC)]) (by kernel_rfl) (⟨⟨hk0, trivial⟩, ⟨hk1, trivial⟩, rfl, rfl, trivial⟩) (den_of (by kernel_rfl) hh)
def F_sha_putBig (bA : Option Addr) (bN bC : Nat) (xv n : Int) (K : Value → PH → Prop) (h : PH) : Prop :=
 LoopP (T := (Option Addr × Nat × Nat) × Int × Unit) (fun Jv st h1 =>
 (((decide (st.2.1 ≥ (0 : Int))) = true →
 (0 ≤ (IntKind.wrap .i64 ((8 : Int) * st.2.1))) ∧
 appH 5 1 1 [.int .u8 (0 : Int)] st.1.1 st.1.2.1 st.1.2.2 1 [.int .u8 (IntKind.wrap .u8 (shrV .u64 xv (IntKind.wrap .i64 ((8 : Int) * st.2.1))))] (fun bA_1 bN_1 bC_1 h2 =>
 Jv ((bA_1, bN_1, bC_1), (IntKind.wrap .i64 (st.2.1 - (1 : Int))), ()) h2) h1) ∧
 ((decide (st.2.1 ≥ (0 : Int))) = false →
 K (.slice st.1.1 st.1.2.1 st.1.2.2) h1))) ((bA, bN, bC), (IntKind.wrap .i64 (n - (1 : Int))), ()) h
theorem F_sha_putBig_ok {bA : Option Addr} {bN bC : Nat} {xv n : Int}  {K : Value → PH → Prop} {h : PH} (hh : F_sha_putBig bA bN bC xv n K h) : CallH Tryz.prog id_sha_putBig [.slice bA bN bC, .int .u64 xv, .int .i64 n] K h :=
 denF_sound' Tryz.func198 (H := ⟨[20], [], [(0, ⟨[(0, .slice), (7, .int .i64)], [], []⟩)], []⟩) (xs := [.v (.slice bA bN bC), .v (.int .u64 xv), .v (.int .i64 n)]) (by kernel_rfl) (⟨rfl, rfl, rfl, trivial⟩) (den_of (by kernel_rfl) hh)
def F_math_bits_Mul64 (xv y : Int) (K : Value → PH → Prop) (h : PH) : Prop :=
 K (.tuple #[.int .u64 (IntKind.wrap .u64 ((IntKind.wrap .u64 ((IntKind.wrap .u64 ((shrV .u64 xv (32 : Int)) * (shrV .u64 y (32 : Int)))) + (shrV .u64 (IntKind.wrap .u64 ((IntKind.wrap .u64 ((shrV .u64 xv (32 : Int)) * (bitsV .and .u64 y (4294967295 : Int)))) + (shrV .u64 (IntKind.wrap .u64 ((bitsV .and .u64 xv (4294967295 : Int)) * (bitsV .and .u64 y (4294967295 : Int)))) (32 : Int)))) (32 : Int)))) + (shrV .u64 (IntKind.wrap .u64 ((bitsV .and .u64 (IntKind.wrap .u64 ((IntKind.wrap .u64 ((shrV .u64 xv (32 : Int)) * (bitsV .and .u64 y (4294967295 : Int)))) + (shrV .u64 (IntKind.wrap .u64 ((bitsV .and .u64 xv (4294967295 : Int)) * (bitsV .and .u64 y (4294967295 : Int)))) (32 : Int)))) (4294967295 : Int)) + (IntKind.wrap .u64 ((bitsV .and .u64 xv (4294967295 : Int)) * (shrV .u64 y (32 : Int)))))) (32 : Int)))), .int .u64 (IntKind.wrap .u64 (xv * y))]) h
theorem F_math_bits_Mul64_ok {xv y : Int}  {K : Value → PH → Prop} {h : PH} (hh : F_math_bits_Mul64 xv y K h) : CallH Tryz.prog id_math_bits_Mul64 [.int .u64 xv, .int .u64 y] K h :=
 denF_sound' Tryz.func215 (H := ⟨[], [], [], []⟩) (xs := [.v (.int .u64 xv), .v (.int .u64 y)]) (by kernel_rfl) (⟨rfl, rfl, trivial⟩) (den_of (by kernel_rfl) hh)
def F_sha_getBig (sv : ByteArray) (n : Int) (K : Value → PH → Prop) (h : PH) : Prop :=
 LoopP (T := Int × Int × Unit) (fun Jv st h1 =>
 (((decide (st.2.1 < n)) = true →
 (0 ≤ st.2.1 ∧ st.2.1 < (ByteArray.size sv : Nat)) ∧
 Jv ((bitsV .or .u64 (shlV .u64 st.1 (8 : Int)) (IntKind.wrap .u64 (byteAt sv st.2.1))), (IntKind.wrap .i64 (st.2.1 + (1 : Int))), ()) h1) ∧
 ((decide (st.2.1 < n)) = false →
 K (.int .u64 st.1) h1))) ((0 : Int), (0 : Int), ()) h
theorem F_sha_getBig_ok {sv : ByteArray} {n : Int}  {K : Value → PH → Prop} {h : PH} (hh : F_sha_getBig sv n K h) : CallH Tryz.prog id_sha_getBig [.string sv, .int .i64 n] K h :=
 denF_sound' Tryz.func216 (H := ⟨[], [], [(0, ⟨[(4, .int .u64), (7, .int .i64)], [], []⟩)], []⟩) (xs := [.v (.string sv), .v (.int .i64 n)]) (by kernel_rfl) (⟨rfl, rfl, trivial⟩) (den_of (by kernel_rfl) hh)
def F_math_bits_RotateLeft32 (xv k : Int) (K : Value → PH → Prop) (h : PH) : Prop :=
 (0 ≤ (bitsV .and .u64 (IntKind.wrap .u64 k) (31 : Int))) ∧
 (0 ≤ (IntKind.wrap .u64 ((32 : Int) - (bitsV .and .u64 (IntKind.wrap .u64 k) (31 : Int))))) ∧
 K (.int .u32 (bitsV .or .u32 (shlV .u32 xv (bitsV .and .u64 (IntKind.wrap .u64 k) (31 : Int))) (shrV .u32 xv (IntKind.wrap .u64 ((32 : Int) - (bitsV .and .u64 (IntKind.wrap .u64 k) (31 : Int))))))) h
theorem F_math_bits_RotateLeft32_ok {xv k : Int}  {K : Value → PH → Prop} {h : PH} (hh : F_math_bits_RotateLeft32 xv k K h) : CallH Tryz.prog id_math_bits_RotateLeft32 [.int .u32 xv, .int .i64 k] K h :=
 denF_sound' Tryz.func217 (H := ⟨[], [], [], []⟩) (xs := [.v (.int .u32 xv), .v (.int .i64 k)]) (by kernel_rfl) (⟨rfl, rfl, trivial⟩) (den_of (by kernel_rfl) hh)
end TL
