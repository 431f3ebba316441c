/-
  The given statements of layer take. No condition.
-/
import Derived.Test.YtgopbgapkohoeaaTake
import Derived.Test.YtgopbgapkohoeaaLibD
import Derived.Test.YtgopbgapkohoeaaRows
import Derived.WalkKit
import Derived.ProofKit
import Derived.OpenShut
namespace Go.Proofs.Ytgopbgapkohoeaa
open Go.ChangeShapes Go.WideShapes Go.ChangeAt Go.RowKit TL

theorem own : ownKnob Try.prog.godebug = none := by kernel_rfl
section
variable {H : Type} {enc : TypeId × Value → H} {w : World}
theorem hOp (n : Nat) (cs : List Value) (y : DataW H × List MemPlace) (h : DataW.trod enc Try.prog w 0 (fun _ => true) true n 62 cs = some y) : ∃ x, cs = EncOp.enc x ∧ True := by
  have hs := dT_ok 5 (ks := [.int .u8, .str, .str]) (by kernel_rfl) h
  obtain ⟨k, _, rfl, _, hs⟩ := sT_int hs
  obtain ⟨p, _, hb, _, hs⟩ := sT_str hs
  obtain ⟨v, _, hc, _, hs⟩ := sT_str hs
  cases sT_nil hs
  subst hc; subst hb
  obtain ⟨p, rfl⟩ := ex_mk p
  obtain ⟨v, rfl⟩ := ex_mk v
  exact ⟨⟨k, p, v⟩, rfl, trivial⟩
theorem oOps {v : Value} (h : Trd enc Try.prog w 23 v) (h1 : one1 v = true) : ∃ (a : Option Addr) (l : List OpR) (c : Nat), v = .slice a l.length c ∧ SR EncOp (whole w) a l ∧ l.length ≤ c ∧ c ≤ maxLen := by
  obtain ⟨a, l, c, h1, h2, h3, h4, _⟩ := open_rowsQ (E := EncOp) (Q := fun _ => True) (e := 62) (by kernel_rfl) (by kernel_rfl) hOp h h1
  exact ⟨a, l, c, h1, h2, h3, h4⟩
theorem oOps' {v : Value} {d : DataW H} {ps : List MemPlace} {r : Reach} {base : Nat} (h : DataW.Trod enc Try.prog w 0 (fun _ => true) true 23 v d ps) (hv : Value.okWide Try.prog w r base 23 v) :
    ∃ (a : Option Addr) (l : List OpR) (c : Nat), v = .slice a l.length c ∧ SR EncOp (whole w) a l := by
  obtain ⟨a, l, c, h1, h2, _, _⟩ := oOps ⟨d, ps, h⟩ (one_slice (e := 62) (by kernel_rfl) hv)
  exact ⟨a, l, c, h1, h2⟩
def msgT : List DT := [.int .u8, .int .i64, .int .i64, .int .i64, .int .i64, .int .i64, .sl 23, .int .i64, .ints .u8 32, .int .i64, .int .i64, .ints .u8 32, .ints .u8 32, .sl 28]
theorem pairsV {v : Value} (h : Trd enc Try.prog w 28 v) (h1 : one1 v = true) : ∃ (a : Option Addr) (n c : Nat), v = .slice a n c := by
  obtain ⟨d, ps, f, h⟩ := h
  rw [cells_one h1] at h
  rcases DataW.trod_slice (e := 78) (by kernel_rfl) h with ⟨h, _⟩ | ⟨a, n, c, _, _, _, _, h, _⟩
  · exact ⟨none, 0, 0, by simpa using h⟩
  · exact ⟨some a, n, c, by simpa using h⟩
theorem sMsg {r : List DT} {vs : List Value} (hs : shT (Trd enc Try.prog w) (msgT ++ r) vs) : ∃ (m : MsgR) (a : Option Addr) (c : Nat) (ops : List OpR) (vs' : List Value), m.ok ∧ vs = msgC m a ops.length c ++ vs' ∧ SR EncOp (whole w) a ops ∧ shT (Trd enc Try.prog w) r vs' := by
  obtain ⟨k, _, rfl, _, hs1⟩ := sT_int hs
  obtain ⟨i1, _, rfl, _, hs2⟩ := sT_int hs1
  obtain ⟨i2, _, rfl, _, hs3⟩ := sT_int hs2
  obtain ⟨i3, _, rfl, _, hs4⟩ := sT_int hs3
  obtain ⟨i4, _, rfl, _, hs5⟩ := sT_int hs4
  obtain ⟨i5, _, rfl, _, hs6⟩ := sT_int hs5
  obtain ⟨v6, _, rfl, o6, t6, hs7⟩ := sT_sl hs6
  obtain ⟨a, ops, c, rfl, hops, _, _⟩ := oOps t6 o6
  obtain ⟨i7, _, rfl, _, hs8⟩ := sT_int hs7
  obtain ⟨l8, _, rfl, n8, _, hs9⟩ := sT_ints hs8
  obtain ⟨i9, _, rfl, _, hs10⟩ := sT_int hs9
  obtain ⟨i10, _, rfl, _, hs11⟩ := sT_int hs10
  obtain ⟨l11, _, rfl, n11, _, hs12⟩ := sT_ints hs11
  obtain ⟨l12, _, rfl, n12, _, hs13⟩ := sT_ints hs12
  obtain ⟨v13, vs', rfl, o13, t13, hs14⟩ := sT_sl hs13
  obtain ⟨pa, pn, pc, rfl⟩ := pairsV t13 o13
  exact ⟨⟨k, i1, i2, i3, i4, i5, i7, l8, i9, i10, l11, l12, pa, pn, pc⟩, a, c, ops, vs', ⟨n8, n11, n12⟩, by simp [msgC], hops, hs14⟩
theorem oMsg {v : Value} {d : DataW H} {ps : List MemPlace} {r : Reach} {base : Nat} (h : DataW.Trod enc Try.prog w 0 (fun _ => true) true 30 v d ps) (hv : Value.okWide Try.prog w r base 30 v) :
    ∃ (m : MsgR) (a : Option Addr) (c : Nat) (ops : List OpR), m.ok ∧ v = msgV m a ops.length c ∧ SR EncOp (whole w) a ops := by
  obtain ⟨vs, rfl, hs⟩ := open_aggT 6 (ks := msgT ++ []) (by kernel_rfl) (by kernel_rfl) h hv
  obtain ⟨m, a, c, ops, vs', hm, rfl, hops, hs⟩ := sMsg hs
  cases sT_nil hs
  exact ⟨m, a, c, ops, hm, by rw [List.append_nil]; rfl, hops⟩
theorem hAct (n : Nat) (cs : List Value) (y : DataW H × List MemPlace) (h : DataW.trod enc Try.prog w 0 (fun _ => true) true n 37 cs = some y) : ∃ x, cs = EncAct.enc x ∧ SR EncOp (whole w) x.a x.ops := by
  have hs := dT_ok 7 (ks := .int .u8 :: (msgT ++ [])) (by kernel_rfl) h
  obtain ⟨k, _, rfl, _, hs⟩ := sT_int hs
  obtain ⟨m, a, c, ops, vs', hm, rfl, hops, hs⟩ := sMsg hs
  cases sT_nil hs
  exact ⟨⟨k, m, a, c, ops, hm⟩, by simp [EncAct], hops⟩
theorem oActs {v : Value} {d : DataW H} {ps : List MemPlace} {r : Reach} {base : Nat} (h : DataW.Trod enc Try.prog w 0 (fun _ => true) true 22 v d ps) (hv : Value.okWide Try.prog w r base 22 v) :
    ∃ (a : Option Addr) (l : List ActR) (c : Nat), v = .slice a l.length c ∧ SR EncAct (whole w) a l ∧ ∀ x ∈ l, SR EncOp (whole w) x.a x.ops := by
  obtain ⟨a, l, c, h1, h2, _, _, h3⟩ := open_rowsQ (E := EncAct) (e := 37) (by kernel_rfl) (by kernel_rfl) hAct ⟨d, ps, h⟩ (one_slice (e := 37) (by kernel_rfl) hv)
  exact ⟨a, l, c, h1, h2, h3⟩
theorem hInt (n : Nat) (cs : List Value) (y : DataW H × List MemPlace) (h : DataW.trod enc Try.prog w 0 (fun _ => true) true n 3 cs = some y) : ∃ x, cs = EncI.enc x ∧ True := by
  have hs := dT_ok 5 (ks := [.int .i64]) (by kernel_rfl) h
  obtain ⟨k, _, rfl, _, hs⟩ := sT_int hs
  cases sT_nil hs
  exact ⟨k, rfl, trivial⟩
theorem oInts {v : Value} (h : Trd enc Try.prog w 50 v) (h1 : one1 v = true) : ∃ (a : Option Addr) (l : List Int) (c : Nat), v = .slice a l.length c ∧ SR EncI (whole w) a l := by
  obtain ⟨a, l, c, h1, h2, h3, h4, _⟩ := open_rowsQ (E := EncI) (Q := fun _ => True) (e := 3) (by kernel_rfl) (by kernel_rfl) hInt h h1
  exact ⟨a, l, c, h1, h2⟩
theorem oInts' {v : Value} {d : DataW H} {ps : List MemPlace} {r : Reach} {base : Nat} (h : DataW.Trod enc Try.prog w 0 (fun _ => true) true 50 v d ps) (hv : Value.okWide Try.prog w r base 50 v) :
    ∃ (a : Option Addr) (l : List Int) (c : Nat), v = .slice a l.length c ∧ SR EncI (whole w) a l := oInts ⟨d, ps, h⟩ (one_slice (e := 3) (by kernel_rfl) hv)
theorem hOs (n : Nat) (cs : List Value) (y : DataW H × List MemPlace) (h : DataW.trod enc Try.prog w 0 (fun _ => true) true n 23 cs = some y) : ∃ x, cs = EncOs.enc x ∧ SR EncOp (whole w) x.a x.ops := by
  have hs := dT_ok 5 (ks := [.sl 23]) (by kernel_rfl) h
  obtain ⟨v, _, rfl, o1, t1, hs⟩ := sT_sl hs
  cases sT_nil hs
  obtain ⟨a, ops, c, rfl, hops, _, _⟩ := oOps t1 o1
  exact ⟨⟨a, c, ops⟩, rfl, hops⟩
theorem oOss {v : Value} (h : Trd enc Try.prog w 49 v) (h1 : one1 v = true) : ∃ (a : Option Addr) (l : List OsR) (c : Nat), v = .slice a l.length c ∧ SR EncOs (whole w) a l ∧ ∀ x ∈ l, SR EncOp (whole w) x.a x.ops := by
  obtain ⟨a, l, c, h1, h2, _, _, h3⟩ := open_rowsQ (E := EncOs) (e := 23) (by kernel_rfl) (by kernel_rfl) hOs h h1
  exact ⟨a, l, c, h1, h2, h3⟩
theorem hPr (n : Nat) (cs : List Value) (y : DataW H × List MemPlace) (h : DataW.trod enc Try.prog w 0 (fun _ => true) true n 78 cs = some y) : ∃ x, cs = EncPr.enc x ∧ True := by
  have hs := dT_ok 5 (ks := [.str, .str]) (by kernel_rfl) h
  obtain ⟨p, _, rfl, _, hs⟩ := sT_str hs
  obtain ⟨v, _, rfl, _, hs⟩ := sT_str hs
  cases sT_nil hs
  obtain ⟨p, rfl⟩ := ex_mk p
  obtain ⟨v, rfl⟩ := ex_mk v
  exact ⟨⟨p, v⟩, rfl, trivial⟩
theorem oPrs {v : Value} (h : Trd enc Try.prog w 28 v) (h1 : one1 v = true) : ∃ (a : Option Addr) (l : List PrR) (c : Nat), v = .slice a l.length c ∧ SR EncPr (whole w) a l := by
  obtain ⟨a, l, c, h1, h2, h3, h4, _⟩ := open_rowsQ (E := EncPr) (Q := fun _ => True) (e := 78) (by kernel_rfl) (by kernel_rfl) hPr h h1
  exact ⟨a, l, c, h1, h2⟩
theorem oRow {v : Value} {d : DataW H} {ps : List MemPlace} {r : Reach} {base : Nat} (h : DataW.Trod enc Try.prog w 0 (fun _ => true) true 52 v d ps) (hv : Value.okWide Try.prog w r base 52 v) :
    ∃ (r0 r1 : Int) (rA : Option Addr) (rows : List OsR) (rC : Nat) (eA : Option Addr) (eps : List Int) (eC : Nat) (pA : Option Addr) (prs : List PrR) (pC : Nat),
      v = .agg #[.int .i64 r0, .int .i64 r1, .slice rA rows.length rC, .slice eA eps.length eC, .slice pA prs.length pC] ∧ SR EncOs (whole w) rA rows ∧ (∀ x ∈ rows, SR EncOp (whole w) x.a x.ops) ∧ SR EncI (whole w) eA eps ∧ SR EncPr (whole w) pA prs := by
  obtain ⟨vs, rfl, hs⟩ := open_aggT 6 (ks := [.int .i64, .int .i64, .sl 49, .sl 50, .sl 28]) (by kernel_rfl) (by kernel_rfl) h hv
  obtain ⟨r0, _, rfl, _, hs1⟩ := sT_int hs
  obtain ⟨r1, _, rfl, _, hs2⟩ := sT_int hs1
  obtain ⟨v2, _, rfl, o2, t2, hs3⟩ := sT_sl hs2
  obtain ⟨rA, rows, rC, rfl, h2, h2'⟩ := oOss t2 o2
  obtain ⟨v3, _, rfl, o3, t3, hs4⟩ := sT_sl hs3
  obtain ⟨eA, eps, eC, rfl, h3⟩ := oInts t3 o3
  obtain ⟨v4, _, rfl, o4, t4, hs5⟩ := sT_sl hs4
  obtain ⟨pA, prs, pC, rfl, h4⟩ := oPrs t4 o4
  cases sT_nil hs5
  exact ⟨r0, r1, rA, rows, rC, eA, eps, eC, pA, prs, pC, rfl, h2, h2', h3, h4⟩
end
section
variable {W : World} {lA oA : Option Addr} {l : List ActR} {lC oC : Nat} {ops : List OpR} {m : MsgR} {K : Value → PH → Prop}
theorem TakeQuiet_den' {a e : Int} (_ : (Lit.int .i64 a).wf = true) (_ : (Lit.int .i64 e).wf = true) (hl : SR EncAct (whole W) lA l) (hs : ∀ r ∈ l, SR EncOp (whole W) r.a r.ops) (hm : m.ok) (hlo : SR EncOp (whole W) oA ops) (hk : ∀ h', (whole W).Sub h' → K (.bool true) h') :
    CallH Try.prog id_law21_TakeQuiet [.int .i64 a, .int .i64 e, .slice lA l.length lC, msgV m oA ops.length oC] K (whole W) := TakeQuiet_den hl hs hm hlo hk
theorem TakeKnown_den' (hk : ∀ h', (whole W).Sub h' → K (.bool true) h') : CallH Try.prog id_law21_TakeKnown [] K (whole W) := TakeKnown_den hk
theorem TakeOwn_den' (hlo : SR EncOp (whole W) oA ops) (hk : ∀ h', (whole W).Sub h' → K (.bool true) h') : CallH Try.prog id_law21_TakeOwn [.slice oA ops.length oC] K (whole W) := TakeOwn_den hlo hk
theorem TakeRows_den' {rA eA pA oA : Option Addr} {rC eC pC oC : Nat} {rows : List OsR} {eps ord : List Int} {prs : List PrR} {r0 r1 : Int} (hr : SR EncOs (whole W) rA rows) (hs : ∀ r ∈ rows, SR EncOp (whole W) r.a r.ops) (he : SR EncI (whole W) eA eps) (hl : SR EncPr (whole W) pA prs) (hord : SR EncI (whole W) oA ord) (hk : ∀ h', (whole W).Sub h' → K (.bool true) h') :
    CallH Try.prog id_law21_TakeRows [.agg #[.int .i64 r0, .int .i64 r1, .slice rA rows.length rC, .slice eA eps.length eC, .slice pA prs.length pC], .slice oA ord.length oC] K (whole W) := TakeRows_den hr hs he hl hord hk
end
set_option maxRecDepth 100000 in
theorem takeQuiet_lifted (os : Os) (started : os.Started) (H : Type) (enc : TypeId × Value → H) :
    ReturnsInHanded {} Try.checked os 3 .any (Rows.takeQuietSpec.pre6 enc Try.prog Try.f3 Rows.takeQuietRow.domain false) (Rows.takeQuietSpec.post enc Try.prog Try.f3 false true false false) := by
  refine returnsInHanded_of_change (C := Try.checked) own started (by kernel_rfl) Try.func3
    (ChangeSpec.witness6 (enc := enc) (C := Try.checked) false ⟨#[], #[.int .i64 0, .int .i64 0, .slice none 0 0, msgV msgZ none 0 0], []⟩ 8 (by kernel_rfl) (by kernel_rfl) (by kernel_rfl) (by kernel_rfl)) ?_
  intro W base args ds gs before hval0 hW hcnd _
  have hW' := hW
  obtain ⟨p, q, hA0, hV, rfl, hfz, hnd⟩ := hW
  have hA : DataW.TrodAll enc Try.prog W 0 (fun _ => true) true [3, 3, 22, 30] args.toList ds p := hA0
  obtain ⟨v0, v1, v2, v3, d0, d1, d2, d3, p0, p1, p2, p3, rfl, rfl, rfl, t0, t1, t2, t3⟩ := trodAll_four hA
  obtain ⟨rfl, rfl⟩ := trodVars_none hV
  simp only [List.append_nil] at hW'
  obtain ⟨n0, rfl, h0⟩ := open_int (k := .i64) (by kernel_rfl) t0 (hval0 0 3 v0 rfl rfl)
  obtain ⟨n1, rfl, h1⟩ := open_int (k := .i64) (by kernel_rfl) t1 (hval0 1 3 v1 rfl rfl)
  obtain ⟨a2, l2, c2, rfl, h2, q2⟩ := oActs t2 (hval0 2 22 v2 rfl rfl)
  obtain ⟨m3, a3, c3, o3, k3, rfl, h3⟩ := oMsg t3 (hval0 3 30 v3 rfl rfl)
  refine (law_call (f := 3) (TakeQuiet_den' h0 h1 h2 q2 k3 h3 fun h' hs => ⟨rfl, hs⟩)).mono fun e W' ⟨he, hg⟩ => ?_
  subst he
  exact ⟨_, rfl, law_post (pa := _) (pv := []) hW' (fun _ _ _ => (trodAll_cons_mk (shut_bool (t := 4) (by kernel_rfl) _) trodAll_mk0)) (fun sp hsp => all_stays (by kernel_rfl) hg (by decide +kernel) hA (fun x hx => hW'.lt x hx) sp hsp) (fun _ _ => rfl) (by simp)
    hg (ok_one (t := 4) (by kernel_rfl) rfl (okWide_bool_mk (by kernel_rfl) _))⟩
theorem takeQuiet_over : Rows.takeQuietRow.holds Try.pinned (OpenSpec.ofChange Rows.takeQuietSpec) :=
  OpenClaim.holds_of_wide 3 Try.f3 rfl rfl rfl rfl rfl rfl rfl ⟨rfl, rfl, rfl, rfl, rfl⟩ rfl rfl rfl rfl rfl (by kernel_rfl) Try.func3 (by kernel_rfl)
    (of_decide_eq_true (by kernel_rfl)) (by unfold Func.isWrapper; first | (rw [if_pos (by decide +kernel)]; kernel_rfl) | (rw [if_neg (by decide +kernel)]; exact ⟨rfl, rfl⟩))
    (fun os started H enc _ => takeQuiet_lifted os started H enc)
theorem takeQuiet_holds : Rows.TakeQuietSaid := takeQuiet_over
#print axioms takeQuiet_holds
set_option maxRecDepth 100000 in
theorem takeKnown_lifted (os : Os) (started : os.Started) (H : Type) (enc : TypeId × Value → H) :
    ReturnsInHanded {} Try.checked os 4 .any (Rows.takeKnownSpec.pre6 enc Try.prog Try.f4 Rows.takeKnownRow.domain false) (Rows.takeKnownSpec.post enc Try.prog Try.f4 false true false false) := by
  refine returnsInHanded_of_change (C := Try.checked) own started (by kernel_rfl) Try.func4
    (ChangeSpec.witness6 (enc := enc) (C := Try.checked) false ⟨#[], #[], []⟩ 8 (by kernel_rfl) (by kernel_rfl) (by kernel_rfl) (by kernel_rfl)) ?_
  intro W base args ds gs before hval0 hW hcnd _
  have hW' := hW
  obtain ⟨p, q, hA0, hV, rfl, hfz, hnd⟩ := hW
  have hA : DataW.TrodAll enc Try.prog W 0 (fun _ => true) true [] args.toList ds p := hA0
  obtain ⟨rfl, rfl, rfl⟩ := trodAll_none hA
  obtain ⟨rfl, rfl⟩ := trodVars_none hV
  simp only [List.append_nil] at hW'
  refine (law_call (f := 4) (TakeKnown_den'  fun h' hs => ⟨rfl, hs⟩)).mono fun e W' ⟨he, hg⟩ => ?_
  subst he
  exact ⟨_, rfl, law_post (pa := _) (pv := []) hW' (fun _ _ _ => (trodAll_cons_mk (shut_bool (t := 4) (by kernel_rfl) _) trodAll_mk0)) (fun sp hsp => all_stays (by kernel_rfl) hg (by decide +kernel) hA (fun x hx => hW'.lt x hx) sp hsp) (fun _ _ => rfl) (by simp)
    hg (ok_one (t := 4) (by kernel_rfl) rfl (okWide_bool_mk (by kernel_rfl) _))⟩
theorem takeKnown_over : Rows.takeKnownRow.holds Try.pinned (OpenSpec.ofChange Rows.takeKnownSpec) :=
  OpenClaim.holds_of_wide 4 Try.f4 rfl rfl rfl rfl rfl rfl rfl ⟨rfl, rfl, rfl, rfl, rfl⟩ rfl rfl rfl rfl rfl (by kernel_rfl) Try.func4 (by kernel_rfl)
    (of_decide_eq_true (by kernel_rfl)) (by unfold Func.isWrapper; first | (rw [if_pos (by decide +kernel)]; kernel_rfl) | (rw [if_neg (by decide +kernel)]; exact ⟨rfl, rfl⟩))
    (fun os started H enc _ => takeKnown_lifted os started H enc)
theorem takeKnown_holds : Rows.TakeKnownSaid := takeKnown_over
#print axioms takeKnown_holds
set_option maxRecDepth 100000 in
theorem takeOwn_lifted (os : Os) (started : os.Started) (H : Type) (enc : TypeId × Value → H) :
    ReturnsInHanded {} Try.checked os 6 .any (Rows.takeOwnSpec.pre6 enc Try.prog Try.f6 Rows.takeOwnRow.domain false) (Rows.takeOwnSpec.post enc Try.prog Try.f6 false true false false) := by
  refine returnsInHanded_of_change (C := Try.checked) own started (by kernel_rfl) Try.func6
    (ChangeSpec.witness6 (enc := enc) (C := Try.checked) false ⟨#[], #[.slice none 0 0], []⟩ 8 (by kernel_rfl) (by kernel_rfl) (by kernel_rfl) (by kernel_rfl)) ?_
  intro W base args ds gs before hval0 hW hcnd _
  have hW' := hW
  obtain ⟨p, q, hA0, hV, rfl, hfz, hnd⟩ := hW
  have hA : DataW.TrodAll enc Try.prog W 0 (fun _ => true) true [23] args.toList ds p := hA0
  obtain ⟨v0, d0, rfl, rfl, t0⟩ := trodAll_one hA
  obtain ⟨rfl, rfl⟩ := trodVars_none hV
  simp only [List.append_nil] at hW'
  obtain ⟨a0, l0, c0, rfl, h0⟩ := oOps' t0 (hval0 0 23 v0 rfl rfl)
  refine (law_call (f := 6) (TakeOwn_den' h0 fun h' hs => ⟨rfl, hs⟩)).mono fun e W' ⟨he, hg⟩ => ?_
  subst he
  exact ⟨_, rfl, law_post (pa := _) (pv := []) hW' (fun _ _ _ => (trodAll_cons_mk (shut_bool (t := 4) (by kernel_rfl) _) trodAll_mk0)) (fun sp hsp => all_stays (by kernel_rfl) hg (by decide +kernel) hA (fun x hx => hW'.lt x hx) sp hsp) (fun _ _ => rfl) (by simp)
    hg (ok_one (t := 4) (by kernel_rfl) rfl (okWide_bool_mk (by kernel_rfl) _))⟩
theorem takeOwn_over : Rows.takeOwnRow.holds Try.pinned (OpenSpec.ofChange Rows.takeOwnSpec) :=
  OpenClaim.holds_of_wide 6 Try.f6 rfl rfl rfl rfl rfl rfl rfl ⟨rfl, rfl, rfl, rfl, rfl⟩ rfl rfl rfl rfl rfl (by kernel_rfl) Try.func6 (by kernel_rfl)
    (of_decide_eq_true (by kernel_rfl)) (by unfold Func.isWrapper; first | (rw [if_pos (by decide +kernel)]; kernel_rfl) | (rw [if_neg (by decide +kernel)]; exact ⟨rfl, rfl⟩))
    (fun os started H enc _ => takeOwn_lifted os started H enc)
theorem takeOwn_holds : Rows.TakeOwnSaid := takeOwn_over
#print axioms takeOwn_holds
set_option maxRecDepth 100000 in
theorem takeRows_lifted (os : Os) (started : os.Started) (H : Type) (enc : TypeId × Value → H) :
    ReturnsInHanded {} Try.checked os 5 .any (Rows.takeRowsSpec.pre6 enc Try.prog Try.f5 Rows.takeRowsRow.domain false) (Rows.takeRowsSpec.post enc Try.prog Try.f5 false true false false) := by
  refine returnsInHanded_of_change (C := Try.checked) own started (by kernel_rfl) Try.func5
    (ChangeSpec.witness6 (enc := enc) (C := Try.checked) false ⟨#[], #[.agg #[.int .i64 0, .int .i64 0, .slice none 0 0, .slice none 0 0, .slice none 0 0], .slice none 0 0], []⟩ 8 (by kernel_rfl) (by kernel_rfl) (by kernel_rfl) (by kernel_rfl)) ?_
  intro W base args ds gs before hval0 hW hcnd _
  have hW' := hW
  obtain ⟨p, q, hA0, hV, rfl, hfz, hnd⟩ := hW
  have hA : DataW.TrodAll enc Try.prog W 0 (fun _ => true) true [52, 50] args.toList ds p := hA0
  obtain ⟨v0, v1, d0, d1, p0, p1, rfl, rfl, rfl, t0, t1⟩ := trodAll_two hA
  obtain ⟨rfl, rfl⟩ := trodVars_none hV
  simp only [List.append_nil] at hW'
  obtain ⟨r0, r1, rA, rows, rC, eA, eps, eC, pA, prs, pC, rfl, h2, h2b, h3, h4⟩ := oRow t0 (hval0 0 52 v0 rfl rfl)
  obtain ⟨oA, ord, oC, rfl, h5⟩ := oInts' t1 (hval0 1 50 v1 rfl rfl)
  refine (law_call (f := 5) (TakeRows_den' h2 h2b h3 h4 h5 fun h' hs => ⟨rfl, hs⟩)).mono fun e W' ⟨he, hg⟩ => ?_
  subst he
  exact ⟨_, rfl, law_post (pa := _) (pv := []) hW' (fun _ _ _ => (trodAll_cons_mk (shut_bool (t := 4) (by kernel_rfl) _) trodAll_mk0)) (fun sp hsp => all_stays (by kernel_rfl) hg (by decide +kernel) hA (fun x hx => hW'.lt x hx) sp hsp) (fun _ _ => rfl) (by simp)
    hg (ok_one (t := 4) (by kernel_rfl) rfl (okWide_bool_mk (by kernel_rfl) _))⟩
theorem takeRows_over : Rows.takeRowsRow.holds Try.pinned (OpenSpec.ofChange Rows.takeRowsSpec) :=
  OpenClaim.holds_of_wide 5 Try.f5 rfl rfl rfl rfl rfl rfl rfl ⟨rfl, rfl, rfl, rfl, rfl⟩ rfl rfl rfl rfl rfl (by kernel_rfl) Try.func5 (by kernel_rfl)
    (of_decide_eq_true (by kernel_rfl)) (by unfold Func.isWrapper; first | (rw [if_pos (by decide +kernel)]; kernel_rfl) | (rw [if_neg (by decide +kernel)]; exact ⟨rfl, rfl⟩))
    (fun os started H enc _ => takeRows_lifted os started H enc)
theorem takeRows_holds : Rows.TakeRowsSaid := takeRows_over
#print axioms takeRows_holds
end Go.Proofs.Ytgopbgapkohoeaa
