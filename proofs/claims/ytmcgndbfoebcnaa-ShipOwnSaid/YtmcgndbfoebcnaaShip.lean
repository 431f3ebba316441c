/-
  Ships: what they hold, what goes out, what is answered. No condition.
-/
import Derived.Test.YtmcgndbfoebcnaaTreeA
import Derived.Test.YtmcgndbfoebcnaaLibD
import Derived.Test.YtmcgndbfoebcnaaTextB
namespace TL
open Go Go.Proofs

/-- a message, without its memory -/
structure MsgA where
  kd : Int
  ep : Int
  at_ : Int
  ae : Int
  ix : Int
  be : Int
  ops : List OpR
  prev : Int
  root : H32
  lv : Int
  ii : Int
  left : H32
  right : H32
  prs : List PrR
  deriving DecidableEq
def zeroH : H32 := ⟨List.replicate 32 0, by simp⟩
def msg0 : MsgA := ⟨0, 0, 0, 0, 0, 0, [], 0, zeroH, 0, 0, zeroH, zeroH, []⟩
/-- a message in a row -/
structure MsgF where
  m : MsgA
  oA : Option Addr
  oC : Nat
  pA : Option Addr
  pC : Nat
def hv (x : H32) : List Value := (bi x.1).map (Value.int .u8)
theorem hv_len (x : H32) : (hv x).length = 32 := by rw [hv, List.length_map, bi_len, x.2]
theorem hv_one (x : H32) : ∀ v ∈ hv x, one1 v = true := fun v h => by
  obtain ⟨n, _, rfl⟩ := List.mem_map.1 h
  rfl
def encMsg (f : MsgF) : List Value := .int .u8 f.m.kd :: (.int .i64 f.m.ep :: (.int .i64 f.m.at_ :: (.int .i64 f.m.ae :: (.int .i64 f.m.ix :: (.int .i64 f.m.be :: (.slice f.oA f.m.ops.length f.oC :: (.int .i64 f.m.prev :: (hv f.m.root ++ (.int .i64 f.m.lv :: (.int .i64 f.m.ii :: (hv f.m.left ++ (hv f.m.right ++ [.slice f.pA f.m.prs.length f.pC]))))))))))))
def EncMsg : Enc MsgF where
  enc := encMsg
  k := 107
  len f := by simp [encMsg, hv_len]
  one f v h := by
    simp only [encMsg, List.mem_cons, List.mem_append, List.not_mem_nil, or_false] at h
    rcases h with rfl | rfl | rfl | rfl | rfl | rfl | rfl | rfl | h | rfl | rfl | h | h | rfl
    all_goals first | rfl | exact hv_one _ _ h
  pos := by decide
/-- what a view is -/
structure VwR where
  ep : Int
  at_ : Int
  ae : Int
  bA : Option Addr
  bC : Nat
  bs : List BtR
  pv : Int
  pA : Option Addr
  pC : Nat
  prs : List PrR
structure VwOk (h : PH) (v : VwR) : Prop where
  bts : SR EncBt h v.bA v.bs
  n : v.bs.length ≤ 1000
  ix : ∀ b ∈ v.bs, 0 ≤ b.ix ∧ b.ix ≤ 1000000
  ops : ∀ b ∈ v.bs, SR EncOp h b.a b.ops ∧ b.ops.length ≤ 1000
  prs : SR EncPr h v.pA v.prs
  pn : v.prs.length ≤ 1000
  pl : ∀ x ∈ v.prs, x.p.length ≤ 1000000
theorem VwOk.sub {h g : PH} {v : VwR} (x : VwOk h v) (s : h.Sub g) : VwOk g v := ⟨x.bts.sub s, x.n, x.ix, fun b hb => ⟨(x.ops b hb).1.sub s, (x.ops b hb).2⟩, x.prs.sub s, x.pn, x.pl⟩
/-- has a view this place ahead of batch i? -/
def atV (v : VwR) (a e : Int) (i : Nat) : Bool := (match v.bs[i]? with
  | some b => decide (b.ix - 1 = a)
  | none => false) && decide (pe v.pv v.bs i = e)
def nextV (v : VwR) (a e : Int) : Option Nat := if a = v.at_ ∧ e = v.ae then some v.bs.length else (List.range v.bs.length).find? (atV v a e)
theorem nextV_le {v : VwR} {a e : Int} {i : Nat} (h : nextV v a e = some i) : i ≤ v.bs.length := by
  unfold nextV at h
  split at h
  · cases h; exact Nat.le_refl _
  · have := List.mem_range.1 (List.mem_of_find?_eq_some h)
    omega
/-- what a ship holds -/
structure ShS where
  ack : Option (Int × Int)
  shot : Option (Int × Int × List PrR)
  texts : List (List UInt8)
def rootH (S : List PrR) : H32 := nodeH S 1
def helloM (ep : Int) : MsgA := { msg0 with kd := 1, ep := ep }
def rootM (ep a e : Int) (x : H32) : MsgA := { msg0 with kd := 4, ep := ep, at_ := a, ae := e, root := x }
def entM (v : VwR) (j : Nat) : MsgA := match v.bs[j]? with
  | some b => { msg0 with kd := 2, ep := v.ep, ix := b.ix, be := b.ep, ops := b.ops, prev := pe v.pv v.bs j }
  | none => msg0
def entsV (v : VwR) (i : Nat) : List MsgA := (List.range (min 4 (v.bs.length - i))).map fun k => entM v (i + k)
def needV (s : ShS) (v : VwR) (a : Int) : Prop := match s.shot with
  | none => True
  | some (x, _, _) => (x ≤ a ∧ x < v.at_) ∨ (x ≤ 9223372036854775743 ∧ v.at_ > x + 64)
instance (s : ShS) (v : VwR) (a : Int) : Decidable (needV s v a) := by
  unfold needV
  cases s.shot with
  | none => exact inferInstanceAs (Decidable True)
  | some q => obtain ⟨x, y, z⟩ := q; exact inferInstanceAs (Decidable (_ ∨ _))
def tickV (s : ShS) (v : VwR) : List MsgA × ShS := match s.ack with
  | none => ([helloM v.ep], s)
  | some (a, e) =>
    if a = v.at_ ∧ e = v.ae then ([helloM v.ep], { s with shot := none })
    else match nextV v a e with
      | some i => (helloM v.ep :: entsV v i, s)
      | none =>
        if needV s v a then
          if mayB v.prs = true ∧ v.prs.length ≤ 48 then ([helloM v.ep, rootM v.ep v.at_ v.ae (rootH v.prs)], { s with shot := some (v.at_, v.ae, v.prs), texts := s.texts ++ textsT v.prs })
          else ([helloM v.ep], s)
        else match s.shot with
          | some (x, y, S) => ([helloM v.ep, rootM v.ep x y (rootH S)], s)
          | none => ([helloM v.ep], s)
def ackV (s : ShS) (kd a e : Int) : Bool × ShS := if kd ≠ 3 ∨ a < 0 then (false, s) else (true, { s with ack := some (a, e) })
def pageM (ep a ii : Int) (l : List PrR) : MsgA := { msg0 with kd := 7, ep := ep, at_ := a, ii := ii, prs := l }
def nodeM (ep a lv ii : Int) (x y : H32) : MsgA := { msg0 with kd := 6, ep := ep, at_ := a, lv := lv, ii := ii, left := x, right := y }
def askV (s : ShS) (kd a lv ii ep : Int) : Option MsgA := match s.shot with
  | none => none
  | some (x, _, S) => if kd ≠ 5 ∨ a ≠ x ∨ ¬ (0 ≤ lv ∧ lv ≤ 4 ∧ 0 ≤ ii ∧ ii < ((2 ^ lv.toNat : Nat) : Int)) then none
    else if lv = 4 then some (pageM ep a ii (partB S ii.toNat))
    else some (nodeM ep a lv ii (nodeH S (2 ^ (lv.toNat + 1) + 2 * ii.toNat)) (nodeH S (2 ^ (lv.toNat + 1) + (2 * ii.toNat + 1))))
/-! ### In memory -/
def ackAt (g : PH) (p : Option Addr) (a : Option (Int × Int)) : Prop := match a with
  | none => p = none
  | some (x, y) => ∃ b T fr, p = some ⟨b, 0, none⟩ ∧ g b = some (.cells ([.int .i64 x, .int .i64 y] : List Value).toArray T fr)
def shotAt (g : PH) (p : Option Addr) (a : Option (Int × Int × List PrR)) : Prop := match a with
  | none => p = none
  | some (x, y, S) => ∃ b t T fr, p = some ⟨b, 0, none⟩ ∧ g b = some (.cells ([.int .i64 x, .int .i64 y, .pointer (some ⟨t, 0, none⟩)] : List Value).toArray T fr) ∧ Tr t g S
structure ShipAt (g : PH) (N : List Nat) (h : PH) (sb : Nat) (s : ShS) : Prop where
  mem : ∃ pa ps tA tN tC Bt, N = sb :: Bt ∧ sb ∉ Bt ∧ h sb = some (.cells ([.pointer pa, .pointer ps, .slice tA tN tC] : List Value).toArray T_ship_Ship (0, 0)) ∧ Buf EncS 9 Bt h tA tN tC s.texts ∧ ackAt g pa s.ack ∧ shotAt g ps s.shot
  sh : ∀ x y S, s.shot = some (x, y, S) → -9223372036854775808 ≤ x ∧ x ≤ 9223372036854775807
end TL

namespace TL
open Go Go.Proofs
variable {g h : PH} {N : List Nat} {K : Value → PH → Prop} {sb : Nat} {s : ShS} {v : VwR} {lA : Option Addr} {lC : Nat}

theorem cCloneOps {l : List OpR} (x : SR EncOp h lA l) (hn : l.length ≤ 1000) (hk : ∀ a' c' B' h', Buf EncOp T_api_Op B' h' a' l.length c' l → Chg [] B' h h' → K (.slice a' l.length c') h') : CallH Try.prog id_slices_Clone_api_Op_api_Op [.slice lA l.length lC] K h :=
  F_slices_Clone_api_Op_api_Op_ok (CloneF_ok (E := EncOp) (sC := lC) (bt := 40) (z := [.int .u8 (0 : Int), .string (⟨#[]⟩ : ByteArray), .string (⟨#[]⟩ : ByteArray)]) x rfl (by omega) hk)
theorem cCloneStr {l : List (List UInt8)} (x : SR EncS h lA l) (hn : l.length ≤ 1000000) (hk : ∀ a' c' B' h', Buf EncS 9 B' h' a' l.length c' l → Chg [] B' h h' → K (.slice a' l.length c') h') : CallH Try.prog id_slices_Clone_string_string [.slice lA l.length lC] K h :=
  F_slices_Clone_string_string_ok (CloneF_ok (E := EncS) (sC := lC) (bt := 16) (z := [.string (⟨#[]⟩ : ByteArray)]) x rfl (by omega) hk)
theorem find_at {p : Nat → Bool} {n i : Nat} (hi : i < n) (h1 : p i = true) (h2 : ∀ j, j < i → p j = false) : (List.range n).find? p = some i := by
  rw [List.find?_range_eq_some]
  exact ⟨h1, List.mem_range.2 hi, fun j hj => by simp [h2 j hj]⟩
theorem find_no {p : Nat → Bool} {n : Nat} (h2 : ∀ j, j < n → p j = false) : (List.range n).find? p = none := by
  rw [List.find?_eq_none]
  intro j hj
  simp [h2 j (List.mem_range.1 hj)]
abbrev VwR.val (v : VwR) : Value := .agg #[.int .i64 v.ep, .int .i64 v.at_, .int .i64 v.ae, .slice v.bA v.bs.length v.bC, .int .i64 v.pv, .slice v.pA v.prs.length v.pC]
theorem cNext (x : VwOk h v) {a e : Int} (hk : K (.tuple #[.int .i64 ((nextV v a e).getD 0 : Nat), .bool (nextV v a e).isSome]) h) : CallH Try.prog id_ship_next [v.val, .agg #[.int .i64 a, .int .i64 e]] K h := by
  have hn := x.n
  refine F_ship_next_ok ⟨fun e1 => ?_, fun e1 => ?_⟩
  · have e1 : a = v.at_ ∧ e = v.ae := by simpa using e1
    have : nextV v a e = some v.bs.length := by unfold nextV; rw [if_pos e1]
    rw [this] at hk; exact hk
  · have e1 : ¬ (a = v.at_ ∧ e = v.ae) := fun hh => by simp [hh.1, hh.2] at e1
    have hnx : nextV v a e = (List.range v.bs.length).find? (atV v a e) := by unfold nextV; rw [if_neg e1]
    rw [hnx] at hk
    refine LoopP.ind (fun (z : Int × Unit) h' => ∃ i : Nat, z.1 = i ∧ i ≤ v.bs.length ∧ h' = h ∧ ∀ j, j < i → atV v a e j = false) (fun z _ => (v.bs.length - z.1).toNat) ?_ ⟨0, rfl, Nat.zero_le _, rfl, fun _ h => absurd h (Nat.not_lt_zero _)⟩
    rintro ⟨zi, u⟩ h1 ⟨i, hzi, hi, rfl, hb⟩
    dsimp only at hzi
    subst hzi
    dsimp only
    refine ⟨fun e2 => ?_, fun e2 => ?_⟩
    · have e2 : i < v.bs.length := by simpa using e2
      have hit : ((i : Nat) : Int).toNat = i := by omega
      have hw : IntKind.wrap .i64 (((i : Nat) : Int) + (1 : Int)) = ((i + 1 : Nat) : Int) := by rw [wrap64] <;> omega
      obtain ⟨b, o, hA, hr⟩ := x.bts.get e2
      have hix := x.ix _ (List.getElem_mem e2)
      have hw2 : IntKind.wrap .i64 (v.bs[i].ix - (1 : Int)) = v.bs[i].ix - 1 := by rw [wrap64] <;> omega
      have hat : atV v a e i = (decide (v.bs[i].ix - 1 = a) && decide (pe v.pv v.bs i = e)) := by unfold atV; rw [List.getElem?_eq_getElem e2]
      have hq : ∀ p : Int, p = pe v.pv v.bs i → ((a == IntKind.wrap .i64 (v.bs[i].ix - (1 : Int))) && ((e == p) && true)) = atV v a e i := fun p hp => by
        rw [hw2, hat, hp, Bool.and_true, Bool.eq_iff_iff]
        simp only [Bool.and_eq_true, beq_iff_eq, decide_eq_true_eq]
        exact ⟨fun h => ⟨h.1.symm, h.2.symm⟩, fun h => ⟨h.1.symm, h.2.symm⟩⟩
      have yes : atV v a e i = true → K (.tuple #[.int .i64 ((i : Nat) : Int), .bool true]) h1 := fun ht => by
        rw [find_at e2 ht hb] at hk; exact hk
      have no : atV v a e i = false → ((∃ i1 : Nat, ((i + 1 : Nat) : Int) = i1 ∧ i1 ≤ v.bs.length ∧ h1 = h1 ∧ ∀ j, j < i1 → atV v a e j = false) ∧ (v.bs.length - ((i + 1 : Nat) : Int)).toNat < (v.bs.length - ((i : Nat) : Int)).toNat) := fun hf =>
        ⟨⟨i + 1, rfl, by omega, rfl, fun j hj => by
          by_cases hji : j = i
          · subst hji; exact hf
          · exact hb j (by omega)⟩, by omega⟩
      rw [hit, hw]
      refine ⟨b, o, ⟨hA, by omega, by omega⟩, _, _, _, _, _, hr _ 0 3 rfl (by decide), fun e3 => ?_, fun e3 => ?_⟩
      · have e3 : 0 < i := by simp at e3; omega
        have hw1 : IntKind.wrap .i64 (((i : Nat) : Int) - (1 : Int)) = ((i - 1 : Nat) : Int) := by rw [wrap64] <;> omega
        have ht1 : ((i - 1 : Nat) : Int).toNat = i - 1 := by omega
        have hi1 : i - 1 < v.bs.length := by omega
        obtain ⟨b2, o2, hA2, hr2⟩ := x.bts.get hi1
        have hpe := pe_succ v.pv v.bs hi1
        rw [show i - 1 + 1 = i by omega] at hpe
        rw [hw1, ht1]
        refine ⟨b2, o2, ⟨hA2, by omega, by omega⟩, _, hr2 _ 1 1 rfl (by decide), fun e4 => ?_, fun e4 => ?_⟩
        · rw [hq _ hpe.symm] at e4; exact yes e4
        · rw [hq _ hpe.symm] at e4; exact no e4
      · have e3 : i = 0 := by simp at e3; omega
        have hpe : v.pv = pe v.pv v.bs i := by rw [e3]; rfl
        refine ⟨fun e4 => ?_, fun e4 => ?_⟩
        · rw [hq _ hpe] at e4; exact yes e4
        · rw [hq _ hpe] at e4; exact no e4
    · have e2 : i = v.bs.length := by simp at e2; omega
      subst e2
      rw [find_no hb] at hk; exact hk
/-- the operations' memory of a row of messages -/
inductive OpsAt (h : PH) : List Nat → List MsgF → Prop
  | nil : OpsAt h [] []
  | cons {f : MsgF} {Be Bs : List Nat} {L : List MsgF} : Buf EncOp T_api_Op Be h f.oA f.m.ops.length f.oC f.m.ops → Dj Be Bs → OpsAt h Bs L → OpsAt h (Be ++ Bs) (f :: L)
theorem OpsAt.keep {h' : PH} : ∀ {Bs : List Nat} {L : List MsgF}, OpsAt h Bs L → (∀ b ∈ Bs, ∀ o, h b = some o → h' b = some o) → OpsAt h' Bs L
  | _, _, .nil, _ => .nil
  | _, _, .cons e1 e2 e3, hk => .cons (e1.keep fun b hb => hk b (List.mem_append_left _ hb)) e2 (e3.keep fun b hb => hk b (List.mem_append_right _ hb))
theorem OpsAt.has : ∀ {Bs : List Nat} {L : List MsgF}, OpsAt h Bs L → Has Bs h
  | _, _, .nil => fun _ hb => by cases hb
  | _, _, .cons e1 _ e3 => e1.has.app e3.has
theorem OpsAt.snoc {f : MsgF} {Be : List Nat} (x : Buf EncOp T_api_Op Be h f.oA f.m.ops.length f.oC f.m.ops) : ∀ {Bs : List Nat} {L : List MsgF}, OpsAt h Bs L → Dj Be Bs → OpsAt h (Bs ++ Be) (L ++ [f])
  | _, _, .nil, _ => by
    have := OpsAt.cons x (Dj.nil Be) OpsAt.nil
    rw [List.append_nil] at this; exact this
  | _, _, .cons (Be := B1) (Bs := B2) e1 e2 e3, d => by
    have d1 : Dj Be B1 := fun b hb hm => d b hb (List.mem_append_left _ hm)
    have d2 : Dj Be B2 := fun b hb hm => d b hb (List.mem_append_right _ hm)
    rw [List.append_assoc]
    exact .cons e1 (e2.appR d1.symm) (e3.snoc x d2)
theorem OpsAt.all : ∀ {Bs : List Nat} {L : List MsgF}, OpsAt h Bs L → ∀ f ∈ L, SR EncOp h f.oA f.m.ops
  | _, _, .nil => fun _ hf => by cases hf
  | _, _, .cons e1 _ e3 => fun f hf => by
    rcases List.mem_cons.1 hf with rfl | hf
    · exact e1.sr
    · exact e3.all f hf
/-- messages in memory of one's own -/
def Msgs (B : List Nat) (h : PH) (a : Option Addr) (c : Nat) (L : List MsgF) : Prop := ∃ B0 Bs, B = B0 ++ Bs ∧ Buf EncMsg T_api_Msg B0 h a L.length c L ∧ OpsAt h Bs L ∧ Dj B0 Bs ∧ ∀ f ∈ L, f.m.prs = [] ∧ f.m.ops.length ≤ 1000
theorem Msgs.has {B : List Nat} {a : Option Addr} {c : Nat} {L : List MsgF} (x : Msgs B h a c L) : Has B h := by
  obtain ⟨B0, Bs, rfl, h1, h2, _⟩ := x
  exact h1.has.app h2.has
theorem hv_zero : hv zeroH = (List.replicate 32 (0 : Int)).map (Value.int .u8) := by simp [hv, zeroH, bi]
def fOf (m : MsgA) (a : Option Addr) (c : Nat) : MsgF := ⟨m, a, c, none, 0⟩
theorem cEntries (x : VwOk h v) {i : Nat} (hi : i ≤ v.bs.length) (hk : ∀ a' c' L B' h', Msgs B' h' a' c' L → L.map (·.m) = entsV v i → Chg [] B' h h' → K (.slice a' L.length c') h') :
    CallH Try.prog id_ship_entries [v.val, .int .i64 (i : Int)] K h := by
  have hn := x.n
  refine F_ship_entries_ok (LoopP.ind (fun (z : (Option Addr × Nat × Nat) × Int × Unit) h' => ∃ (k : Nat) (L : List MsgF) (B' : List Nat), z.2.1 = ((i + k : Nat) : Int) ∧ z.1.2.1 = k ∧ L.length = k ∧ k ≤ 4 ∧ i + k ≤ v.bs.length ∧ Msgs B' h' z.1.1 z.1.2.2 L ∧ L.map (·.m) = (List.range k).map (fun j => entM v (i + j)) ∧ Chg [] B' h h') (fun z _ => (v.bs.length - z.2.1).toNat) ?_
    ⟨0, [], [], rfl, rfl, rfl, by omega, by omega, ⟨[], [], rfl, Buf.nil _ _ _ _, .nil, Dj.nil _, by simp⟩, rfl, Chg.refl _ _⟩)
  rintro ⟨⟨oA, oN, oC⟩, zi, u⟩ h1 ⟨k, L, B1, hzi, hoN, hL, hk4, hik, hm, hmap, hc⟩
  dsimp only at hzi hoN hm
  subst hzi hoN
  dsimp only
  refine ⟨fun e => ?_, fun e => ?_⟩
  · have e : i + oN < v.bs.length ∧ oN < 4 := by simp at e; omega
    have x1 := x.sub hc.sub0
    have hit : ((i + oN : Nat) : Int).toNat = i + oN := by omega
    have hw : IntKind.wrap .i64 (((i + oN : Nat) : Int) + (1 : Int)) = ((i + (oN + 1) : Nat) : Int) := by rw [wrap64] <;> omega
    rw [hit, hw]
    refine ⟨fun (st : Int × Unit) h' => h' = h1 ∧ st.1 = pe v.pv v.bs (i + oN), ⟨fun e3 => ?_, fun e3 => ?_⟩, ?_⟩
    · have e3 : 0 < i + oN := by simp at e3; omega
      have hw1 : IntKind.wrap .i64 (((i + oN : Nat) : Int) - (1 : Int)) = ((i + oN - 1 : Nat) : Int) := by rw [wrap64] <;> omega
      have ht1 : ((i + oN - 1 : Nat) : Int).toNat = i + oN - 1 := by omega
      have hi1 : i + oN - 1 < v.bs.length := by omega
      obtain ⟨b2, o2, hA2, hr2⟩ := x1.bts.get hi1
      have hpe := pe_succ v.pv v.bs hi1
      rw [show i + oN - 1 + 1 = i + oN by omega] at hpe
      rw [hw1, ht1]
      exact ⟨b2, o2, ⟨hA2, by omega, by omega⟩, _, hr2 _ 1 1 rfl (by decide), rfl, hpe.symm⟩
    · have e3 : i + oN = 0 := by simp at e3; omega
      exact ⟨rfl, by rw [e3]; rfl⟩
    rintro ⟨pv, u⟩ h2 ⟨rfl, hpv⟩
    dsimp only at hpv
    subst hpv
    obtain ⟨b, o, hA, hr⟩ := x1.bts.get e.1
    obtain ⟨hops, hon⟩ := x1.ops _ (List.getElem_mem e.1)
    refine ⟨b, o, ⟨hA, by omega, by omega⟩, _, _, _, _, _, hr _ 0 3 rfl (by decide), cCloneOps hops hon fun a3 c3 B3 h3 hb3 hc3 => ⟨_, _, _, rfl, ?_⟩⟩
    obtain ⟨B0, Bs, rfl, hb, ho, hd, hp⟩ := hm
    have em : entM v (i + oN) = { msg0 with kd := 2, ep := v.ep, ix := v.bs[i + oN].ix, be := v.bs[i + oN].ep, ops := v.bs[i + oN].ops, prev := pe v.pv v.bs (i + oN) } := by
      unfold entM; rw [List.getElem?_eq_getElem e.1]
    rw [hL] at hb
    have h13 := hc3.sub0
    refine (hb.sub h13).append (new := [fOf (entM v (i + oN)) a3 c3]) rfl ?_ rfl (by omega) fun a4 c4 B4 h4 hb4 hc4 _ => ?_
    · rw [em]
      simp only [Enc.row, List.flatMap_cons, List.flatMap_nil, EncMsg, encMsg, fOf, msg0, hv_zero, List.append_nil]
      rfl
    · have d3 : Dj B3 (B0 ++ Bs) := Dj.new (hb.has.app ho.has) hc3
      have d30 : Dj B0 B3 := fun q hq hm => d3 q hm (List.mem_append_left _ hq)
      have d3s : Dj B3 Bs := fun q hq hm => d3 q hq (List.mem_append_right _ hm)
      have hos : Has (Bs ++ B3) h3 := (ho.has.sub h13).app hb3.has
      have dB : Dj B0 (Bs ++ B3) := hd.appR d30
      have k4 : ∀ q ∈ Bs ++ B3, ∀ o, h3 q = some o → h4 q = some o := fun q hq o e => hc4.keep e fun hm => dB q hm hq
      refine ⟨⟨oN + 1, L ++ [fOf (entM v (i + oN)) a3 c3], B4 ++ (Bs ++ B3), rfl, rfl, by simp [hL], by omega, by omega, ⟨B4, Bs ++ B3, rfl, ?_, ?_, dB.chg hos hc4, ?_⟩, ?_, ?_⟩, by omega⟩
      · rw [show (L ++ [fOf (entM v (i + oN)) a3 c3]).length = oN + 1 by simp [hL]]; exact hb4
      · refine OpsAt.snoc (f := fOf (entM v (i + oN)) a3 c3) ?_ (ho.keep fun q hq o e => k4 q (List.mem_append_left _ hq) o (h13 q o e)) d3s
        have : (fOf (entM v (i + oN)) a3 c3).m.ops = v.bs[i + oN].ops := by rw [em]; rfl
        rw [this]
        exact hb3.keep fun q hq o e => k4 q (List.mem_append_right _ hq) o e
      · intro f hf
        rcases List.mem_append.1 hf with hf | hf
        · exact hp f hf
        · rw [List.mem_singleton] at hf; subst hf
          exact ⟨by rw [fOf, em]; rfl, by rw [fOf, em]; exact hon⟩
      · rw [List.map_append, hmap, List.range_succ, List.map_append]; rfl
      · have c1 : Chg [] ((B0 ++ Bs) ++ B3) h h3 := by
          refine hc.trans ⟨fun q o _ e => h13 q o e, fun q hq => ?_⟩
          rcases List.mem_append.1 hq with hq | hq
          · exact .inl hq
          · rcases hc3.2 q hq with h1 | h1
            · cases h1
            · exact .inr h1
        refine c1.trans (hc4.sub (fun q hq => by simp [hq]) fun q hq => ?_)
        rcases List.mem_append.1 hq with hq | hq
        · exact .inl hq
        · right; simp only [List.mem_append] at hq ⊢
          rcases hq with hq | hq
          · exact .inl (.inr hq)
          · exact .inr hq
  · have e : oN = min 4 (v.bs.length - i) := by
      simp only [Bool.and_eq_false_iff, decide_eq_false_iff_not] at e
      omega
    have := hk oA oC L B1 h1 hm (by rw [hmap]; unfold entsV; rw [← e]) hc
    rw [hL] at this; exact this
end TL

namespace TL
open Go Go.Proofs
variable {g h : PH} {N : List Nat} {K : Value → PH → Prop} {sb : Nat} {s : ShS} {v : VwR} {lA : Option Addr} {lC : Nat}

/-- a message by its cells -/
abbrev mV (m0 m1 m2 m3 m4 m5 : Int) (m6A : Option Addr) (m6N m6C : Nat) (m7 : Int) (m8 : List Int) (m9 m10 : Int) (m11 m12 : List Int) (m13A : Option Addr) (m13N m13C : Nat) : Value :=
  .agg ((.int .u8 m0 :: (.int .i64 m1 :: (.int .i64 m2 :: (.int .i64 m3 :: (.int .i64 m4 :: (.int .i64 m5 :: (.slice m6A m6N m6C :: (.int .i64 m7 :: (m8.map (Value.int .u8) ++ (.int .i64 m9 :: (.int .i64 m10 :: (m11.map (Value.int .u8) ++ (m12.map (Value.int .u8) ++ ([.slice m13A m13N m13C] : List Value))))))))))))))).toArray
theorem ackAt.sub {g' : PH} {p : Option Addr} {a : Option (Int × Int)} (x : ackAt g p a) (hs : g.Sub g') : ackAt g' p a := by
  unfold ackAt at x ⊢
  split at x
  · exact x
  · obtain ⟨b, T, fr, h1, h2⟩ := x
    exact ⟨b, T, fr, h1, hs _ _ h2⟩
theorem shotAt.sub {g' : PH} {p : Option Addr} {a : Option (Int × Int × List PrR)} (x : shotAt g p a) (hs : g.Sub g') : shotAt g' p a := by
  unfold shotAt at x ⊢
  split at x
  · exact x
  · obtain ⟨b, t, T, fr, h1, h2, h3⟩ := x
    exact ⟨b, t, T, fr, h1, hs _ _ h2, h3.sub hs⟩
theorem ShipAt.keep {g' h' : PH} (x : ShipAt g N h sb s) (hs : g.Sub g') (hk : ∀ b ∈ N, ∀ o, h b = some o → h' b = some o) : ShipAt g' N h' sb s := by
  obtain ⟨⟨pa, ps, tA, tN, tC, Bt, rfl, nB, hb, hbuf, ha, hsh⟩, hr⟩ := x
  exact ⟨⟨pa, ps, tA, tN, tC, Bt, rfl, nB, hk _ (by simp) _ hb, hbuf.keep fun b hb' => hk b (List.mem_cons_of_mem _ hb'), ha.sub hs, hsh.sub hs⟩, hr⟩
theorem ShipAt.stp {M M' : List Nat} {g' h' : PH} (x : ShipAt g N h sb s) (t : Stp g M h g' M' h') (d : Dj N M) : ShipAt g' N h' sb s :=
  x.keep t.gs fun b hb _ e => t.chg.keep e (d b hb)
theorem has1 {b : Nat} {o : Obj} (e : h b = some o) : Has [b] h := fun x hx => by
  rw [List.mem_singleton] at hx; subst hx; exact ⟨o, e⟩
theorem cShipNew (sp : Spl g N h) (hk : ∀ sb N' h', ShipAt g N' h' sb ⟨none, none, []⟩ → Stp g N h g (N' ++ N) h' → Dj N' N → K (.pointer (some ⟨sb, 0, none⟩)) h') : CallH Try.prog id_ship_New [] K h :=
  F_ship_New_ok (nwL fun b h1 _ hb1 c1 => hk b [b] h1 ⟨⟨none, none, none, 0, 0, [], rfl, by simp, hb1, Buf.nil _ _ _ _, rfl, rfl⟩, fun _ _ _ e => by cases e⟩ (sp.own c1 (has1 hb1)) (Dj.new sp.has c1))
section
variable {m0 m1 m2 m3 m4 m5 m7 m9 m10 : Int} {m6A m13A : Option Addr} {m6N m6C m13N m13C : Nat} {m8 m11 m12 : List Int}
theorem cAck (x : ShipAt g N h sb s) (sp : Spl g N h) (h8 : m8.length = 32) (h11 : m11.length = 32) (h12 : m12.length = 32)
    (hk : ∀ g' h', ShipAt g' N h' sb (ackV s m0 m2 m3).2 → Stp g N h g' N h' → K (.bool (ackV s m0 m2 m3).1) h') :
    CallH Try.prog id_ship_Ship_Ack [.pointer (some ⟨sb, 0, none⟩), mV m0 m1 m2 m3 m4 m5 m6A m6N m6C m7 m8 m9 m10 m11 m12 m13A m13N m13C] K h := by
  refine F_ship_Ship_Ack_ok h8 h11 h12 ⟨fun e => ?_, fun e => ?_⟩
  · have e : m0 ≠ 3 ∨ m2 < 0 := by simpa using e
    have hv : ackV s m0 m2 m3 = (false, s) := by unfold ackV; rw [if_pos e]
    rw [hv] at hk
    exact hk g h x (Stp.refl sp)
  · have e : ¬ (m0 ≠ 3 ∨ m2 < 0) := fun hh => by
      have : (((Option.isNone (some (⟨sb, 0, none⟩ : Addr))) || (m0 != (3 : Int))) || (decide (m2 < (0 : Int)))) = true := by simpa using hh
      rw [this] at e; cases e
    have hv : ackV s m0 m2 m3 = (true, { s with ack := some (m2, m3) }) := by unfold ackV; rw [if_neg e]
    rw [hv] at hk
    obtain ⟨⟨pa, ps, tA, tN, tC, Bt, rfl, nB, hb, hbuf, ha, hsh⟩, hr⟩ := x
    refine nwL (cs := [.int .i64 m2, .int .i64 m3]) fun ba h1 hbn hb1 c1 => ⟨sb, 0, rfl, ?_⟩
    have st1 := sp.new c1
    have nsb : sb ≠ ba := fun e => by subst e; rw [hb] at hbn; cases hbn
    refine stL (c1.keep hb (by simp)) rfl rfl fun h2 hb2 c2 => ?_
    have st2 := st1.spl.chg (c2.head (B := Bt)) (fun b hb' => by
      rcases List.mem_cons.1 hb' with rfl | hb'
      · exact ⟨_, hb2⟩
      · obtain ⟨o, ho⟩ := st1.spl.has b (List.mem_cons_of_mem _ hb')
        exact ⟨o, c2.keep ho (notIn1 nB b hb')⟩)
    refine hk _ h2 ⟨⟨some ⟨ba, 0, none⟩, ps, tA, tN, tC, Bt, rfl, nB, hb2, ?_, ?_, ?_⟩, hr⟩ (st1.trans st2)
    · exact (hbuf.chg c1 (Dj.nil _)).chg c2 (notIn1 nB)
    · exact ⟨ba, _, _, rfl, by rw [plus_in (by simp)]; exact hb1⟩
    · exact hsh.sub st1.gs
end
/-- the block of a ship's new copy -/
def shotBlk (sb : Nat) (v : VwR) (bv : Nat) (K : Value → PH → Prop) (Jv : Unit → PH → Prop) (h3 : PH) : Prop :=
  CallH Try.prog id_tree_Of [.slice v.pA v.prs.length v.pC] (fun v_3 h8 =>
    ∃ t0_3 : Option Addr, ∃ t1_3 : Int, v_3 = .tuple #[.pointer t0_3, .int .i64 t1_3] ∧
    (((t1_3 != (0 : Int)) = true →
        K (.slice (some ⟨bv, 0, none⟩) 1 1) h8) ∧
      ((t1_3 != (0 : Int)) = false →
        newH h8 (.cells #[.int .i64 v.at_, .int .i64 v.ae, .pointer t0_3] T_ship_shot (0, 0)) fun bv_16 h9 =>
        ∃ bv_17 ov_15 : Nat, (some ⟨sb, 0, none⟩ : Option Addr) = some ⟨bv_17, ov_15, none⟩ ∧
        stH h9 bv_17 (ov_15 + 1) [.pointer (some ⟨bv_16, 0, none⟩)] fun h10 =>
        ∃ bv_18 ov_16 : Nat, (some ⟨sb, 0, none⟩ : Option Addr) = some ⟨bv_18, ov_16, none⟩ ∧
        ∃ (tA_2 : Option Addr) (tN_2 tC_2 : Nat), (h10.rds bv_18 (ov_16 + 2) 1 = some [.slice tA_2 tN_2 tC_2]) ∧
        CallH Try.prog id_tree_Tree_Texts [.pointer t0_3] (fun v_4 h11 =>
          ∃ (tA_3 : Option Addr) (tN_3 tC_3 : Nat), v_4 = .slice tA_3 tN_3 tC_3 ∧
          (h11.rds bv_18 (ov_16 + 2) 1 = some [.slice tA_2 tN_2 tC_2]) ∧
          ∃ vs_1 : List Value, srcH h11 tA_3 (tN_3 * 1) vs_1 ∧
          appH 9 1 16 [.string (⟨#[]⟩ : ByteArray)] tA_2 tN_2 tC_2 tN_3 vs_1 (fun tA_4 tN_4 tC_4 h12 =>
            ∃ bv_19 ov_17 : Nat, (some ⟨sb, 0, none⟩ : Option Addr) = some ⟨bv_19, ov_17, none⟩ ∧
            stH h12 bv_19 (ov_17 + 2) [.slice tA_4 tN_4 tC_4] fun h13 =>
            Jv (()) h13) h11) h10))) h3
theorem cOf3 {h : PH} {K : Value → PH → Prop} {l : List PrR} (hl : SR EncPr h lA l) (hn : l.length ≤ 1000) (hs : ∀ x ∈ l, x.p.length ≤ 1000000)
    (h1 : mayB l = true ∧ l.length ≤ 48 → ∀ b h', Tr b h' l → h b = none → Chg [] [b] h h' → K (.tuple #[.pointer (some ⟨b, 0, none⟩), .int .i64 (0 : Int)]) h')
    (h2 : ¬ (mayB l = true ∧ l.length ≤ 48) → ∀ e : Int, (e = 1 ∨ e = 6) → (e = 1 ↔ mayB l = false) → K (.tuple #[.pointer none, .int .i64 e]) h) : CallH Try.prog id_tree_Of [.slice lA l.length lC] K h := by
  by_cases hm : mayB l = true
  · by_cases h48 : l.length ≤ 48
    · exact cOfT hl hm h48 (h1 ⟨hm, h48⟩)
    · exact F_tree_Of_ok (cMay hl (by omega) hs ⟨_, rfl, fun e => (by rw [hm] at e; cases e), fun _ => ⟨fun _ => h2 (fun hh => h48 hh.2) 6 (.inr rfl) ⟨fun e => (by omega), fun e => (by rw [hm] at e; cases e)⟩, fun e => (by simp at e; omega)⟩⟩)
  · exact cOfNo hl (by omega) hs (by simpa using hm) (h2 (fun hh => hm hh.1) 1 (.inl rfl) ⟨fun _ => by simpa using hm, fun _ => rfl⟩)
/-- a new copy, in memory -/
theorem mkShot {bv : Nat} {Jv : Unit → PH → Prop} (x : ShipAt g N h sb s) (sp : Spl g ([bv] ++ N) h) (hd : bv ∉ N) (vw : VwOk g v) (hat : -9223372036854775808 ≤ v.at_ ∧ v.at_ ≤ 9223372036854775807) (htl : s.texts.length ≤ 100000)
    (hno : ¬ (mayB v.prs = true ∧ v.prs.length ≤ 48) → ∀ h', Stp g ([bv] ++ N) h g ([bv] ++ N) h' → (∀ b ∈ [bv] ++ N, ∀ o, h b = some o → h' b = some o) → K (.slice (some ⟨bv, 0, none⟩) 1 1) h')
    (hyes : mayB v.prs = true ∧ v.prs.length ≤ 48 → ∀ g' N' h', ShipAt g' N' h' sb { s with shot := some (v.at_, v.ae, v.prs), texts := s.texts ++ textsT v.prs } → Stp g ([bv] ++ N) h g' ([bv] ++ N') h' → bv ∉ N' → (∀ o, h bv = some o → h' bv = some o) → Jv () h') :
    shotBlk sb v bv K Jv h := by
  obtain ⟨⟨pa, ps, tA, tN, tC, Bt, rfl, nB, hb, hbuf, ha, hsh⟩, hr⟩ := x
  have hbs : bv ≠ sb := fun e => hd (e ▸ List.mem_cons_self)
  have hbB : bv ∉ Bt := fun e => hd (List.mem_cons_of_mem _ e)
  refine sp.call (K := fun v' g' => ((mayB v.prs = true ∧ v.prs.length ≤ 48) ∧ ∃ b, v' = .tuple #[.pointer (some ⟨b, 0, none⟩), .int .i64 (0 : Int)] ∧ Tr b g' v.prs ∧ g.Sub g') ∨ (¬ (mayB v.prs = true ∧ v.prs.length ≤ 48) ∧ (∃ e : Int, (e = 1 ∨ e = 6) ∧ v' = .tuple #[.pointer none, .int .i64 e]) ∧ g' = g))
    (cOf3 vw.prs vw.pn vw.pl (fun hok b g' t hn c => .inl ⟨hok, b, rfl, t, c.sub0⟩) (fun hn e he _ => .inr ⟨hn, ⟨e, he, rfl⟩, rfl⟩)) ?_
  rintro v' g1 h8 (⟨hok, b, rfl, t8, s8⟩ | ⟨hn, ⟨e, he, rfl⟩, rfl⟩) st
  rotate_left
  · obtain ⟨st8, same8⟩ := st (PH.Sub.rf _)
    exact ⟨_, _, rfl, fun _ => hno hn h8 st8 same8, fun e2 => by rcases he with rfl | rfl <;> simp at e2⟩
  obtain ⟨st8, same8⟩ := st s8
  refine ⟨_, _, rfl, fun e => by simp at e, fun _ => nwL (cs := [.int .i64 v.at_, .int .i64 v.ae, .pointer (some ⟨b, 0, none⟩)]) fun bs h9 hsn hb9 c9 => ⟨sb, 0, rfl, ?_⟩⟩
  have st9 := st8.spl.new c9
  have hbs9 := c9.keep (same8 sb (by simp) _ hb) (by simp)
  refine stL hbs9 rfl rfl fun h10 hb10 c10 => ⟨sb, 0, rfl, _, _, _, rdsL hb10 rfl rfl, ?_⟩
  have keepB : ∀ {q : Nat}, q ∈ Bt → q ∉ [sb] := fun {q} hq hm => notIn1 nB q hq hm
  have st10 := st9.spl.chg ((c10.head (B := Bt)).tail (b := bv)) (fun q hq => by
    rcases List.mem_cons.1 hq with rfl | hq
    · obtain ⟨o, ho⟩ := st9.spl.has q (by simp)
      exact ⟨o, c10.keep ho (by simpa using hbs)⟩
    · rcases List.mem_cons.1 hq with rfl | hq
      · exact ⟨_, hb10⟩
      · obtain ⟨o, ho⟩ := st9.spl.has q (by simp [hq])
        exact ⟨o, c10.keep ho (keepB hq)⟩)
  have t9 : Tr b (PH.plus g1 h9 [bs]) v.prs := t8.sub st9.gs
  refine st10.spl.call (K := fun v' g' => ∃ a' c', v' = .slice a' (textsT v.prs).length c' ∧ SR EncS g' a' (textsT v.prs) ∧ (PH.plus g1 h9 [bs]).Sub g') (cTexts t9 fun a' c' B' h' hb' hc' => ⟨a', c', rfl, hb'.sr, hc'.sub0⟩) ?_
  rintro _ g11 h11 ⟨aT, cT, rfl, srT, s11⟩ st
  obtain ⟨st11, same11⟩ := st s11
  have hb11 := same11 sb (by simp) _ hb10
  have hbuf11 : Buf EncS 9 Bt h11 tA tN tC s.texts := (((hbuf.keep fun q hq o e => same8 q (by simp [hq]) o e).chg c9 (Dj.nil _)).chg c10 fun q hq => keepB hq).keep fun q hq o e => same11 q (by simp [hq]) o e
  refine ⟨_, _, _, rfl, rdsL hb11 rfl rfl, EncS.row (textsT v.prs), (srT.sub st11.spl.sub).src, hbuf11.append (new := textsT v.prs) rfl rfl rfl (by rw [hbuf11.1, texts_len]; omega) fun a' c' B2 h12 hb12 c12 _ => ⟨sb, 0, rfl, ?_⟩⟩
  have hsb12 := c12.keep hb11 nB
  have nB2 : sb ∉ B2 := c12.fresh hb11 nB
  obtain ⟨obv, hobv⟩ := st11.spl.has bv (by simp)
  have hbv12 := c12.keep hobv hbB
  have nbv2 : bv ∉ B2 := c12.fresh hobv hbB
  have st12 := st11.spl.chg ((c12.tail (b := sb)).tail (b := bv)) (fun q hq => by
    rcases List.mem_cons.1 hq with rfl | hq
    · exact ⟨_, hbv12⟩
    · rcases List.mem_cons.1 hq with rfl | hq
      · exact ⟨_, hsb12⟩
      · exact hb12.has q hq)
  refine stL hsb12 rfl rfl fun h13 hb13 c13 => ?_
  have hbv13 := c13.keep hbv12 (by simpa using hbs)
  have hb12' := hb12.chg c13 (notIn1 nB2)
  have st13 := st12.spl.chg ((c13.head (B := B2)).tail (b := bv)) (fun q hq => by
    rcases List.mem_cons.1 hq with rfl | hq
    · exact ⟨_, hbv13⟩
    · rcases List.mem_cons.1 hq with rfl | hq
      · exact ⟨_, hb13⟩
      · exact hb12'.has q hq)
  have stAll := ((((st8.trans st9).trans st10).trans st11).trans st12).trans st13
  refine hyes hok g11 (sb :: B2) h13 ⟨⟨pa, some ⟨bs, 0, none⟩, a', _, c', B2, rfl, nB2, hb13, ?_, ha.sub (((st8.gs.tr st9.gs)).tr s11), ?_⟩, fun x y S e => ?_⟩ stAll (fun hm => ?_) (fun o e => ?_)
  · exact hb12'
  · exact ⟨bs, b, _, _, rfl, s11 _ _ (by rw [plus_in (by simp)]; exact hb9), t9.sub s11⟩
  · dsimp only at e; cases e; exact hat
  · rcases List.mem_cons.1 hm with h | h
    · exact hbs h
    · exact nbv2 h
  · have e8 := same8 bv (by simp) _ e
    have e9 := c9.keep e8 (by simp)
    have e10 := c10.keep e9 (by simpa using hbs)
    have e11 := same11 bv (by simp) _ e10
    exact c13.keep (c12.keep e11 hbB) (by simpa using hbs)
end TL

namespace TL
open Go Go.Proofs
variable {g h : PH} {N : List Nat} {K : Value → PH → Prop} {sb : Nat} {s : ShS} {v : VwR} {lA : Option Addr} {lC : Nat}

theorem hello_row (ep : Int) : EncMsg.row [fOf (helloM ep) none 0] ++ [] = (.int .u8 (1 : Int) :: (.int .i64 ep :: (.int .i64 (0 : Int) :: (.int .i64 (0 : Int) :: (.int .i64 (0 : Int) :: (.int .i64 (0 : Int) :: (.slice none 0 0 :: (.int .i64 (0 : Int) :: ((List.replicate 32 0).map (Value.int .u8) ++ (.int .i64 (0 : Int) :: (.int .i64 (0 : Int) :: ((List.replicate 32 0).map (Value.int .u8) ++ ((List.replicate 32 0).map (Value.int .u8) ++ ([.slice none 0 0] : List Value)))))))))))))) := by
  simp only [Enc.row, List.flatMap_cons, List.flatMap_nil, EncMsg, encMsg, fOf, helloM, msg0, hv_zero, List.append_nil]
  rfl
theorem ops_one (h : PH) (m : MsgA) (hm : m.ops = []) : OpsAt h [] [fOf m none 0] := by
  have : OpsAt h ([] ++ []) [fOf m none 0] := OpsAt.cons (Be := []) (Bs := []) (by
    show Buf EncOp T_api_Op [] h none m.ops.length 0 m.ops
    rw [hm]; exact Buf.nil _ _ _ _) (Dj.nil _) .nil
  exact this
theorem cTick (x : ShipAt g N h sb s) (sp : Spl g N h) (vw : VwOk g v) (hat : -9223372036854775808 ≤ v.at_ ∧ v.at_ ≤ 9223372036854775807) (htl : s.texts.length ≤ 100000)
    (hk : ∀ g' N' B' h' a' c' L, ShipAt g' N' h' sb (tickV s v).2 → Msgs B' h' a' c' L → L.map (·.m) = (tickV s v).1 → Stp g N h g' (B' ++ N') h' → Dj B' N' → K (.slice a' L.length c') h') :
    CallH Try.prog id_ship_Ship_Tick [.pointer (some ⟨sb, 0, none⟩), v.val] K h := by
  refine F_ship_Ship_Tick_ok ⟨fun e => by simp at e, fun _ => nwL fun bv h1 hbn hb1 c1 => ⟨sb, 0, rfl, ?_⟩⟩
  have st1 := sp.own c1 (has1 hb1)
  have sp1 := st1.spl
  have hbvN : bv ∉ N := Dj.new sp.has c1 bv (by simp)
  have x1 := x.keep (PH.Sub.rf _) fun b hb o e => c1.keep e (by simp)
  have hbuf0 : Buf EncMsg T_api_Msg [bv] h1 (some ⟨bv, 0, none⟩) 1 1 [fOf (helloM v.ep) none 0] := ⟨rfl, .inr ⟨bv, [], rfl, rfl, by rw [hb1, hello_row], rfl, by decide⟩⟩
  have hbvo : ∃ o, h1 bv = some o := ⟨_, hb1⟩
  clear hb1
  have fin1 : ∀ {g' : PH} {N' : List Nat} {h' : PH}, ShipAt g' N' h' sb (tickV s v).2 → (tickV s v).1 = [helloM v.ep] → Stp g ([bv] ++ N) h1 g' ([bv] ++ N') h' → bv ∉ N' → (∀ o, h1 bv = some o → h' bv = some o) → K (.slice (some ⟨bv, 0, none⟩) 1 1) h' := fun {g' N' h'} hS hT st nN hkp =>
    hk g' N' [bv] h' _ 1 [fOf (helloM v.ep) none 0] hS ⟨[bv], [], rfl, hbuf0.keep fun b hb o e => (by rw [List.mem_singleton] at hb; subst hb; exact hkp o e), ops_one _ _ rfl, Dj.nil _, fun f hf => (by rw [List.mem_singleton] at hf; subst hf; exact ⟨rfl, Nat.zero_le _⟩)⟩ hT.symm (st1.trans st) fun b hb => (by rw [List.mem_singleton] at hb; subst hb; exact nN)
  obtain ⟨⟨pa, ps, tA, tN, tC, Bt, rfl, nB, hb, hbuf, ha, hsh⟩, hr⟩ := id x1
  have hbs : bv ≠ sb := fun e => hbvN (e ▸ List.mem_cons_self)
  refine ⟨pa, rdsL hb rfl rfl, ?_⟩
  cases hack : s.ack with
  | none =>
    rw [hack] at ha
    have hpa : pa = none := ha
    subst hpa
    have ht : tickV s v = ([helloM v.ep], s) := by unfold tickV; simp only [hack]
    exact ⟨fun _ => fin1 (by rw [ht]; exact x1) (by rw [ht]) (Stp.refl sp1) hbvN fun _ e => e, fun e => by simp at e⟩
  | some q =>
    obtain ⟨a, e⟩ := q
    rw [hack] at ha
    obtain ⟨ba, T, fr, hpa, hga⟩ := ha
    subst hpa
    have hra : h1.rds ba 0 2 = some [.int .i64 a, .int .i64 e] := rdsL (sp1.sub _ _ hga) rfl rfl
    have hra1 : h1.rds ba 0 1 = some [.int .i64 a] := rdsL (sp1.sub _ _ hga) rfl rfl
    refine ⟨fun e => by simp at e, fun _ => ⟨sb, 0, rfl, _, rdsL hb rfl rfl, ba, 0, rfl, a, e, hra, fun e1 => ?_, fun e1 => ?_⟩⟩
    · have e1 : a = v.at_ ∧ e = v.ae := by simpa using e1
      have ht : tickV s v = ([helloM v.ep], { s with shot := none }) := by unfold tickV; simp only [hack]; rw [if_pos e1]
      refine ⟨sb, 0, rfl, stL hb rfl rfl fun h2 hb2 c2 => ?_⟩
      have kB : ∀ {q : Nat}, q ∈ Bt → q ∉ [sb] := fun {q} hq hm => notIn1 nB q hq hm
      refine fin1 (g' := g) (N' := sb :: Bt) ?_ (by rw [ht]) (sp1.chg ((c2.head (B := Bt)).tail (b := bv)) fun q hq => ?_) hbvN fun o eo => c2.keep eo (by simpa using hbs)
      · rw [ht]
        exact ⟨⟨some ⟨ba, 0, none⟩, none, tA, tN, tC, Bt, rfl, nB, hb2, hbuf.chg c2 fun q hq => kB hq, (by show ackAt g _ s.ack; rw [hack]; exact ⟨ba, T, fr, rfl, hga⟩), rfl⟩, fun _ _ _ e => by cases e⟩
      · rcases List.mem_cons.1 hq with rfl | hq
        · obtain ⟨o, ho⟩ := hbvo
          exact ⟨o, c2.keep ho (by simpa using hbs)⟩
        · rcases List.mem_cons.1 hq with rfl | hq
          · exact ⟨_, hb2⟩
          · obtain ⟨o, ho⟩ := hbuf.has q hq
            exact ⟨o, c2.keep ho (kB hq)⟩
    · have e1 : ¬ (a = v.at_ ∧ e = v.ae) := fun hh => by simp [hh.1, hh.2] at e1
      refine ⟨sb, 0, rfl, _, rdsL hb rfl rfl, ba, 0, rfl, a, e, hra, cNext (vw.sub sp1.sub) ?_⟩
      cases hn : nextV v a e with
      | some i =>
        have ht : tickV s v = (helloM v.ep :: entsV v i, s) := by unfold tickV; simp only [hack, hn]; rw [if_neg e1]
        refine ⟨_, _, rfl, fun _ => cEntries (vw.sub sp1.sub) (nextV_le hn) fun a4 c4 L B4 h4 hm4 hmap4 hc4 => ⟨_, _, _, rfl, EncMsg.row L, ?_, ?_⟩, fun en => by simp at en⟩
        · obtain ⟨B0, Bs, rfl, q1, _⟩ := hm4
          exact q1.sr.src
        · have hlen : L.length ≤ 4 := by
            have := congrArg List.length hmap4
            unfold entsV at this
            simp only [List.length_map, List.length_range] at this
            omega
          refine (hbuf0.sub hc4.sub0).append (new := L) rfl rfl rfl (by omega) fun a5 c5 B5 h5 hb5 hc5 _ => ?_
          have hB4 : Has B4 h4 := hm4.has
          obtain ⟨B0, Bs, rfl, q1, q2, q3, q4⟩ := hm4
          have dj4 : Dj (B0 ++ Bs) ([bv] ++ (sb :: Bt)) := Dj.new sp1.has hc4
          have st4 := sp1.own hc4 hB4
          have hN4 : Has (sb :: Bt) h4 := fun q hq => st4.spl.has q (List.mem_append_right _ (List.mem_append_right _ hq))
          have dbs : Dj [bv] Bs := fun q hq hm => dj4 q (List.mem_append_right _ hm) (List.mem_append_left _ hq)
          have dbn : Dj [bv] (sb :: Bt) := fun q hq hm => hbvN (by rw [List.mem_singleton] at hq; subst hq; exact hm)
          have d5s : Dj B5 Bs := dbs.chg q2.has hc5
          have d5n : Dj B5 (sb :: Bt) := dbn.chg hN4 hc5
          have dsn : Dj Bs (sb :: Bt) := fun q hq hm => dj4 q (List.mem_append_right _ hq) (List.mem_append_right _ hm)
          have cc5 := (hc5.left (C := sb :: Bt)).right (C := B0 ++ Bs)
          have st5 := st4.spl.chg cc5 (fun q hq => by
            rcases List.mem_append.1 hq with hq | hq
            · obtain ⟨o, ho⟩ := hB4 q hq
              exact ⟨o, hc5.keep ho fun hm => dj4 q hq (List.mem_append_left _ hm)⟩
            · rcases List.mem_append.1 hq with hq | hq
              · exact hb5.has q hq
              · obtain ⟨o, ho⟩ := hN4 q hq
                exact ⟨o, hc5.keep ho fun hm => dbn q hm hq⟩)
          have st := (st1.trans (st4.trans st5)).less (M := (B5 ++ Bs) ++ (sb :: Bt)) (fun q hq => by
            simp only [List.mem_append] at hq ⊢
            rcases hq with (hq | hq) | hq
            · exact .inr (.inl hq)
            · exact .inl (.inr hq)
            · exact .inr (.inr hq))
          have h45 : ∀ q ∈ Bs, ∀ o, h4 q = some o → h5 q = some o := fun q hq o eo => hc5.keep eo fun hm => dbs q hm hq
          have := hk g (sb :: Bt) (B5 ++ Bs) h5 a5 c5 (fOf (helloM v.ep) none 0 :: L) (by
              rw [ht]
              exact x1.keep (PH.Sub.rf _) fun q hq o eo => hc5.keep (hc4.sub0 _ _ eo) fun hm => dbn q hm hq)
            ⟨B5, Bs, rfl, by rw [List.length_cons, Nat.add_comm]; exact hb5, (OpsAt.cons (Be := []) (f := fOf (helloM v.ep) none 0) (Buf.nil _ _ _ _) (fun _ h => by cases h) (q2.keep h45) : OpsAt h5 ([] ++ Bs) _), d5s, fun f hf => by
              rcases List.mem_cons.1 hf with rfl | hf
              · exact ⟨rfl, Nat.zero_le _⟩
              · exact q4 f hf⟩ (by rw [ht, List.map_cons, hmap4]; rfl) st (d5n.app dsn)
          rw [List.length_cons, Nat.add_comm] at this; exact this
      | none =>
        refine ⟨_, _, rfl, fun en => by simp at en, fun _ => ?_⟩
        refine ⟨fun _ h' => ∃ g' N' s' x y S, ShipAt g' N' h' sb s' ∧ s'.shot = some (x, y, S) ∧ tickV s v = ([helloM v.ep, rootM v.ep x y (rootH S)], s') ∧ Stp g ([bv] ++ (sb :: Bt)) h1 g' ([bv] ++ N') h' ∧ bv ∉ N' ∧ ∀ o, h1 bv = some o → h' bv = some o, ?_, ?_⟩
        · -- what there is, or a new copy
          have blk : needV s v a → shotBlk sb v bv K (fun _ h' => ∃ g' N' s' x y S, ShipAt g' N' h' sb s' ∧ s'.shot = some (x, y, S) ∧ tickV s v = ([helloM v.ep, rootM v.ep x y (rootH S)], s') ∧ Stp g ([bv] ++ (sb :: Bt)) h1 g' ([bv] ++ N') h' ∧ bv ∉ N' ∧ ∀ o, h1 bv = some o → h' bv = some o) h1 := fun hneed => by
            refine mkShot x1 sp1 hbvN vw hat htl (fun hno h' st same => ?_) (fun hok g' N' h' hS st nN hkp => ⟨g', N', _, _, _, _, hS, rfl, ?_, st, nN, hkp⟩)
            · have ht : tickV s v = ([helloM v.ep], s) := by unfold tickV; simp only [hack, hn]; rw [if_neg e1, if_pos hneed, if_neg hno]
              exact fin1 (by rw [ht]; exact x1.keep (PH.Sub.rf _) fun q hq o eo => same q (List.mem_append_right _ hq) o eo) (by rw [ht]) st hbvN fun o eo => same bv (by simp) o eo
            · unfold tickV; simp only [hack, hn]; rw [if_neg e1, if_pos hneed, if_pos hok]
          refine ⟨sb, 0, rfl, ps, rdsL hb rfl rfl, sb, 0, fun _ => rfl, ps, fun _ => rdsL hb rfl rfl, ?_⟩
          cases hs : s.shot with
          | none =>
            rw [hs] at hsh
            have hps : ps = none := hsh
            subst hps
            refine ⟨0, 0, fun e => by simp at e, 0, fun e => by simp at e, 0, 0, fun e => by simp at e, none, fun e => by simp at e, 0, 0, fun e => by simp at e, 0, fun e => by simp at e, fun e => by simp at e, fun _ => ?_⟩
            exact blk (by unfold needV; rw [hs]; trivial)
          | some q =>
            obtain ⟨x0, y0, S0⟩ := q
            rw [hs] at hsh
            obtain ⟨bsh, tb, T2, fr2, hps, hgs, htr⟩ := hsh
            subst hps
            have hrx : h1.rds bsh 0 1 = some [.int .i64 x0] := rdsL (sp1.sub _ _ hgs) rfl rfl
            obtain ⟨hx1, hx2⟩ := hr x0 y0 S0 hs
            have hneed : needV s v a ↔ ((x0 ≤ a ∧ x0 < v.at_) ∨ (x0 ≤ 9223372036854775743 ∧ v.at_ > x0 + 64)) := by unfold needV; rw [hs]
            refine ⟨bsh, 0, fun _ => rfl, x0, fun _ => hrx, sb, 0, fun _ => rfl, _, fun _ => rdsL hb rfl rfl, ba, 0, fun _ => rfl, a, fun _ => hra1, fun _ => ⟨sb, 0, fun _ => rfl, _, fun _ => rdsL hb rfl rfl, bsh, 0, fun _ => rfl, x0, fun _ => hrx, sb, 0, fun _ => rfl, _, fun _ => rdsL hb rfl rfl, bsh, 0, fun _ => rfl, x0, fun _ => hrx, fun e2 => ?_, fun e2 => ?_⟩, fun e => by simp at e⟩
            · refine F_ship_above_ok ⟨_, rfl, fun e3 => ?_, fun e3 => ?_⟩
              · refine blk (hneed.2 (.inr ?_))
                simp only [Bool.and_eq_true, decide_eq_true_eq] at e3
                rw [wrap64 (by omega) (by omega)] at e3
                exact e3
              · have hnn : ¬ needV s v a := fun hh => by
                  rcases hneed.1 hh with h | h
                  · simp [h.1, h.2] at e2
                  · have : (decide (x0 ≤ (9223372036854775743 : Int)) && decide (v.at_ > IntKind.wrap .i64 (x0 + (64 : Int)))) = true := by
                      rw [wrap64 (by omega) (by omega)]
                      simp only [Bool.and_eq_true, decide_eq_true_eq]; exact h
                    rw [this] at e3; cases e3
                exact ⟨g, sb :: Bt, s, x0, y0, S0, x1, hs, by unfold tickV; simp only [hack, hn]; rw [if_neg e1, if_neg hnn]; simp only [hs], Stp.refl sp1, hbvN, fun _ e => e⟩
            · refine blk (hneed.2 (.inl ?_))
              simpa using e2
        · rintro u h6 ⟨g6, N6, s6, x6, y6, S6, hS6, hs6, ht6, st6, nN6, hkp6⟩
          obtain ⟨⟨pa6, ps6, tA6, tN6, tC6, Bt6, rfl, nB6, hb6, hbuf6, ha6, hsh6⟩, hr6⟩ := id hS6
          rw [hs6] at hsh6
          obtain ⟨bsh, tb, T2, fr2, hps, hgs, htr⟩ := hsh6
          subst hps
          have hrg := st6.spl.sub _ _ hgs
          have r1 : h6.rds sb (0 + 1) 1 = some [.pointer (some ⟨bsh, 0, none⟩)] := rdsL hb6 rfl rfl
          have r2 : h6.rds bsh 0 1 = some [.int .i64 x6] := rdsL hrg rfl rfl
          have r3 : h6.rds bsh (0 + 1) 1 = some [.int .i64 y6] := rdsL hrg rfl rfl
          have r4 : h6.rds bsh (0 + 2) 1 = some [.pointer (some ⟨tb, 0, none⟩)] := rdsL hrg rfl rfl
          refine ⟨sb, 0, rfl, _, r1, bsh, 0, rfl, x6, r2, sb, 0, rfl, _, r1, bsh, 0, rfl, y6, r3, sb, 0, rfl, _, r1, bsh, 0, rfl, _, r4, cRoot (htr.sub st6.spl.sub) ⟨bi (nd S6 1), by rw [bi_len, nd_len], rfl, r3, r1, r2, r1, ?_⟩⟩
          have hb06 : Buf EncMsg T_api_Msg [bv] h6 (some ⟨bv, 0, none⟩) 1 1 [fOf (helloM v.ep) none 0] := hbuf0.keep fun q hq o eo => by
            rw [List.mem_singleton] at hq; subst hq; exact hkp6 o eo
          refine hb06.append (new := [fOf (rootM v.ep x6 y6 (rootH S6)) none 0]) rfl ?_ rfl (by omega) fun a7 c7 B7 h7 hb7 hc7 _ => ?_
          · simp only [Enc.row, List.flatMap_cons, List.flatMap_nil, EncMsg, encMsg, fOf, rootM, msg0, hv_zero, List.append_nil]
            rfl
          · have d6 : Dj [bv] (sb :: Bt6) := fun q hq hm => nN6 (by rw [List.mem_singleton] at hq; subst hq; exact hm)
            have hN6 : Has (sb :: Bt6) h6 := st6.spl.right.has
            have st7 := st6.spl.part d6 hc7 hb7.has
            refine hk g6 (sb :: Bt6) B7 h7 a7 c7 [fOf (helloM v.ep) none 0, fOf (rootM v.ep x6 y6 (rootH S6)) none 0] ?_ ⟨B7, [], by simp, hb7, (OpsAt.cons (Be := []) (Bs := []) (Buf.nil _ _ _ _) (Dj.nil _) (ops_one _ _ rfl) : OpsAt h7 ([] ++ []) _), Dj.nil _, fun f hf => ?_⟩ (by rw [ht6]; rfl) (st1.trans (st6.trans st7)) (d6.chg hN6 hc7)
            · rw [ht6]
              exact hS6.keep (PH.Sub.rf _) fun q hq o eo => hc7.keep eo fun hm => d6 q hm hq
            · simp only [List.mem_cons, List.not_mem_nil, or_false] at hf
              rcases hf with rfl | rfl <;> exact ⟨rfl, Nat.zero_le _⟩
end TL

namespace TL
open Go Go.Proofs
variable {g h : PH} {N : List Nat} {K : Value → PH → Prop} {sb : Nat} {s : ShS} {v : VwR} {lA : Option Addr} {lC : Nat}

theorem cShTexts (x : ShipAt g N h sb s) (hn : s.texts.length ≤ 1000000) (hk : ∀ a' c' B' h', Buf EncS 9 B' h' a' s.texts.length c' s.texts → Chg [] B' h h' → K (.slice a' s.texts.length c') h') : CallH Try.prog id_ship_Ship_Texts [.pointer (some ⟨sb, 0, none⟩)] K h := by
  obtain ⟨⟨pa, ps, tA, tN, tC, Bt, rfl, nB, hb, hbuf, ha, hsh⟩, hr⟩ := x
  have hl := hbuf.1
  subst hl
  exact F_ship_Ship_Texts_ok ⟨fun e => by simp at e, fun _ => ⟨sb, 0, rfl, _, _, _, rdsL hb rfl rfl, cCloneStr hbuf.sr hn fun a' c' B' h' hb' hc' => ⟨_, _, _, rfl, hk a' c' B' h' hb' hc'⟩⟩⟩
theorem cCopy (x : ShipAt g N h sb s) (sp : Spl g N h) (h0 : s.shot = none → K (.tuple #[.int .i64 (0 : Int), .agg (((List.replicate 32 0).map (Value.int .u8) ++ [])).toArray, .bool false]) h)
    (h1 : ∀ x y S, s.shot = some (x, y, S) → K (.tuple #[.int .i64 x, .agg (((bi (nd S 1)).map (Value.int .u8) ++ [])).toArray, .bool true]) h) : CallH Try.prog id_ship_Ship_Copy [.pointer (some ⟨sb, 0, none⟩)] K h := by
  obtain ⟨⟨pa, ps, tA, tN, tC, Bt, rfl, nB, hb, hbuf, ha, hsh⟩, hr⟩ := x
  have r1 : h.rds sb (0 + 1) 1 = some [.pointer ps] := rdsL hb rfl rfl
  refine F_ship_Ship_Copy_ok ⟨sb, 0, fun _ => rfl, ps, fun _ => r1, ?_⟩
  cases hs : s.shot with
  | none =>
    rw [hs] at hsh
    have hps : ps = none := hsh
    subst hps
    exact ⟨fun _ => h0 hs, fun e => by simp at e⟩
  | some q =>
    obtain ⟨x0, y0, S0⟩ := q
    rw [hs] at hsh
    obtain ⟨bsh, tb, T2, fr2, hps, hgs, htr⟩ := hsh
    subst hps
    have hg := sp.sub _ _ hgs
    have r2 : h.rds bsh 0 1 = some [.int .i64 x0] := rdsL hg rfl rfl
    have r4 : h.rds bsh (0 + 2) 1 = some [.pointer (some ⟨tb, 0, none⟩)] := rdsL hg rfl rfl
    exact ⟨fun e => by simp at e, fun _ => ⟨sb, 0, rfl, _, r1, bsh, 0, rfl, x0, r2, sb, 0, rfl, _, r1, bsh, 0, rfl, _, r4, cRoot (htr.sub sp.sub) ⟨bi (nd S0 1), by rw [bi_len, nd_len], rfl, r2, r1, h1 x0 y0 S0 hs⟩⟩⟩
abbrev Z32 : List Int := List.replicate 32 0
theorem inRange {lv i : Int} (h : 0 ≤ lv ∧ lv ≤ 4 ∧ 0 ≤ i ∧ i < ((2 ^ lv.toNat : Nat) : Int)) : ∃ n m : Nat, lv = n ∧ i = m ∧ n ≤ 4 ∧ m < 2 ^ n := by
  obtain ⟨h1, h2, h3, h4⟩ := h
  refine ⟨lv.toNat, i.toNat, by omega, by omega, by omega, ?_⟩
  exact Int.ofNat_lt.1 (by rw [Int.toNat_of_nonneg h3]; exact h4)
/-- a node that there is not -/
theorem cNodeOut {t : Option Addr} {lv i : Int} (ho : ¬ (0 ≤ lv ∧ lv ≤ 4 ∧ 0 ≤ i ∧ i < ((2 ^ lv.toNat : Nat) : Int))) (hk : K (.tuple #[.agg (((List.replicate 32 (0 : Int)).map (Value.int .u8) ++ [])).toArray, .bool false]) h) :
    CallH Try.prog id_tree_Tree_Node [.pointer t, .int .i64 lv, .int .i64 i] K h := by
  refine cNodeNo (fun e => ?_) ?_ hk
  · simp only [Bool.or_eq_false_iff, decide_eq_false_iff_not] at e; omega
  · by_cases b1 : lv < 0
    · simp [b1]
    · by_cases b2 : 4 < lv
      · simp [b2]
      · by_cases b3 : i < 0
        · simp [b3]
        · obtain ⟨n, rfl⟩ : ∃ n : Nat, lv = n := ⟨lv.toNat, by omega⟩
          rw [shl1 n (by omega)]
          have : ¬ i < ((2 ^ n : Nat) : Int) := fun hh => ho ⟨by omega, by omega, by omega, by rw [Int.toNat_natCast]; exact hh⟩
          simp only [Bool.or_eq_true, decide_eq_true_eq]
          exact .inr (by omega)
section
variable {m0 m1 m2 m3 m4 m5 m7 m9 m10 ep : Int} {m6A m13A : Option Addr} {m6N m6C m13N m13C : Nat} {m8 m11 m12 : List Int}
theorem cAsk (x : ShipAt g N h sb s) (sp : Spl g N h) (h8 : m8.length = 32) (h11 : m11.length = 32) (h12 : m12.length = 32)
    (hno : (∀ x y S, s.shot = some (x, y, S) → ¬ (m0 = 5 ∧ m2 = x ∧ (0 ≤ m9 ∧ m9 ≤ 4 ∧ 0 ≤ m10 ∧ m10 < ((2 ^ m9.toNat : Nat) : Int)))) → K (.tuple #[mV 0 0 0 0 0 0 none 0 0 0 Z32 0 0 Z32 Z32 none 0 0, .bool false]) h)
    (hpage : ∀ x y S, s.shot = some (x, y, S) → m0 = 5 → m2 = x → m9 = 4 → ∀ i : Nat, m10 = i → i < 16 → ∀ a' c' B' h', Buf EncPr T_api_Pair B' h' a' (partB S i).length c' (partB S i) → Chg [] B' h h' → K (.tuple #[mV 7 ep m2 0 0 0 none 0 0 0 Z32 0 m10 Z32 Z32 a' (partB S i).length c', .bool true]) h')
    (hnode : ∀ x y S, s.shot = some (x, y, S) → m0 = 5 → m2 = x → ∀ lv i : Nat, m9 = lv → m10 = i → lv < 4 → i < 2 ^ lv → K (.tuple #[mV 6 ep m2 0 0 0 none 0 0 0 Z32 m9 m10 (bi (nd S (2 ^ (lv + 1) + 2 * i))) (bi (nd S (2 ^ (lv + 1) + (2 * i + 1)))) none 0 0, .bool true]) h) :
    CallH Try.prog id_ship_Ship_Ask [.pointer (some ⟨sb, 0, none⟩), mV m0 m1 m2 m3 m4 m5 m6A m6N m6C m7 m8 m9 m10 m11 m12 m13A m13N m13C, .int .i64 ep] K h := by
  obtain ⟨⟨pa, ps, tA, tN, tC, Bt, rfl, nB, hb, hbuf, ha, hsh⟩, hr⟩ := x
  have r1 : h.rds sb (0 + 1) 1 = some [.pointer ps] := rdsL hb rfl rfl
  refine F_ship_Ship_Ask_ok h8 h11 h12 ⟨sb, 0, fun _ => rfl, ps, fun _ => r1, sb, 0, fun _ => rfl, ps, fun _ => r1, ?_⟩
  cases hs : s.shot with
  | none =>
    rw [hs] at hsh
    have hps : ps = none := hsh
    subst hps
    refine ⟨0, 0, fun e => by simp at e, 0, fun e => by simp at e, fun _ => hno fun x y S e => (by rw [hs] at e; cases e), fun e => by simp at e⟩
  | some q =>
    obtain ⟨x0, y0, S0⟩ := q
    rw [hs] at hsh
    obtain ⟨bsh, tb, T2, fr2, hps, hgs, htr⟩ := hsh
    subst hps
    have hg := sp.sub _ _ hgs
    have htr := htr.sub sp.sub
    have r2 : h.rds bsh 0 1 = some [.int .i64 x0] := rdsL hg rfl rfl
    have r4 : h.rds bsh (0 + 2) 1 = some [.pointer (some ⟨tb, 0, none⟩)] := rdsL hg rfl rfl
    have no : ¬ (m0 = 5 ∧ m2 = x0 ∧ (0 ≤ m9 ∧ m9 ≤ 4 ∧ 0 ≤ m10 ∧ m10 < ((2 ^ m9.toNat : Nat) : Int))) → K (.tuple #[mV 0 0 0 0 0 0 none 0 0 0 Z32 0 0 Z32 Z32 none 0 0, .bool false]) h := fun hn => hno fun x y S e => by
      rw [hs] at e; cases e; exact hn
    refine ⟨bsh, 0, fun _ => rfl, x0, fun _ => r2, fun e => no fun hh => ?_, fun e => ?_⟩
    · simp [hh.1, hh.2.1] at e
    have e : m0 = 5 ∧ m2 = x0 := by simpa using e
    by_cases hin : 0 ≤ m9 ∧ m9 ≤ 4 ∧ 0 ≤ m10 ∧ m10 < ((2 ^ m9.toNat : Nat) : Int)
    · obtain ⟨lv, i, rfl, rfl, hlv, hi⟩ := inRange hin
      refine ⟨fun _ h' => h' = h, ⟨sb, 0, rfl, _, r1, bsh, 0, rfl, _, r4, cNode htr hlv hi ⟨bi _, by rw [bi_len, nd_len], true, rfl, fun e => by simp at e, fun _ => rfl⟩, cNode htr hlv hi ⟨bi _, by rw [bi_len, nd_len], true, rfl, fun e => by simp at e, fun _ => rfl⟩⟩, ?_⟩
      rintro st _ rfl
      refine ⟨fun e4 => ?_, fun e4 => ?_⟩
      · have e4 : lv = 4 := by simp at e4; omega
        subst e4
        exact ⟨sb, 0, rfl, _, r1, bsh, 0, rfl, _, r4, cPairs htr (by simpa using hi) fun a' c' B' h' hb' hc' => ⟨_, _, _, rfl, hpage x0 y0 S0 hs e.1 e.2 rfl i rfl (by simpa using hi) a' c' B' h' hb' hc'⟩⟩
      · have e4 : lv < 4 := by
          have : lv ≠ 4 := fun hh => by subst hh; simp at e4
          omega
        have hp2 : 2 ^ (lv + 1) = 2 * 2 ^ lv := by rw [Nat.pow_succ]; omega
        have hp16 : 2 ^ lv ≤ 16 := Nat.pow_le_pow_right (n := 2) (by decide) (show lv ≤ 4 by omega)
        have w1 : IntKind.wrap .i64 (((lv : Nat) : Int) + (1 : Int)) = ((lv + 1 : Nat) : Int) := by rw [wrap64] <;> omega
        have w2 : IntKind.wrap .i64 ((2 : Int) * ((i : Nat) : Int)) = ((2 * i : Nat) : Int) := by rw [wrap64] <;> omega
        have w3 : IntKind.wrap .i64 (((2 * i : Nat) : Int) + (1 : Int)) = ((2 * i + 1 : Nat) : Int) := by rw [wrap64] <;> omega
        rw [w1, w2, w3]
        have goal := hnode x0 y0 S0 hs e.1 e.2 lv i rfl rfl e4 hi
        refine ⟨sb, 0, rfl, _, r1, bsh, 0, rfl, _, r4, cNode htr (by omega) (by omega) ⟨bi _, by rw [bi_len, nd_len], true, rfl, sb, 0, rfl, _, r1, bsh, 0, rfl, _, r4, cNode htr (by omega) (by omega) ⟨bi _, by rw [bi_len, nd_len], true, rfl, goal⟩, cNode htr (by omega) (by omega) ⟨bi _, by rw [bi_len, nd_len], true, rfl, goal⟩⟩,
          cNode htr (by omega) (by omega) ⟨bi _, by rw [bi_len, nd_len], true, rfl, sb, 0, rfl, _, r1, bsh, 0, rfl, _, r4, cNode htr (by omega) (by omega) ⟨bi _, by rw [bi_len, nd_len], true, rfl, goal⟩, cNode htr (by omega) (by omega) ⟨bi _, by rw [bi_len, nd_len], true, rfl, goal⟩⟩⟩
    · have hkn := no fun hh => hin hh.2.2
      refine ⟨fun _ h' => h' = h ∧ False, ⟨sb, 0, rfl, _, r1, bsh, 0, rfl, _, r4, cNodeOut hin ⟨List.replicate 32 0, by simp, false, rfl, fun _ => hkn, fun e => by simp at e⟩, cNodeOut hin ⟨List.replicate 32 0, by simp, false, rfl, fun _ => hkn, fun e => by simp at e⟩⟩, ?_⟩
      rintro st _ ⟨_, hf⟩
      exact hf.elim
end
end TL

namespace TL
open Go Go.Proofs
variable {g h : PH} {N : List Nat} {K : Value → PH → Prop} {sb : Nat} {s : ShS} {v : VwR} {lA : Option Addr} {lC : Nat}

/-- messages that stay -/
structure MsgsIn (h : PH) (a : Option Addr) (L : List MsgF) : Prop where
  sr : SR EncMsg h a L
  ops : ∀ f ∈ L, SR EncOp h f.oA f.m.ops ∧ f.m.ops.length ≤ 1000
  prs : ∀ f ∈ L, SR EncPr h f.pA f.m.prs ∧ f.m.prs.length ≤ 1000
theorem MsgsIn.sub {g : PH} {a : Option Addr} {L : List MsgF} (x : MsgsIn h a L) (hs : h.Sub g) : MsgsIn g a L := ⟨x.sr.sub hs, fun f hf => ⟨(x.ops f hf).1.sub hs, (x.ops f hf).2⟩, fun f hf => ⟨(x.prs f hf).1.sub hs, (x.prs f hf).2⟩⟩
theorem cTickF (x : ShipAt g N h sb s) (sp : Spl g N h) (vw : VwOk g v) (hat : -9223372036854775808 ≤ v.at_ ∧ v.at_ ≤ 9223372036854775807) (htl : s.texts.length ≤ 100000)
    (hk : ∀ g' N' h' a' c' L, ShipAt g' N' h' sb (tickV s v).2 → MsgsIn g' a' L → L.map (·.m) = (tickV s v).1 → Stp g N h g' N' h' → K (.slice a' L.length c') h') :
    CallH Try.prog id_ship_Ship_Tick [.pointer (some ⟨sb, 0, none⟩), v.val] K h := by
  refine cTick x sp vw hat htl fun g1 N1 B1 h1 a1 c1 L x1 hm hmap st d => ?_
  have sf := st.spl.freeze d
  refine hk _ N1 h1 a1 c1 L (x1.keep sf.gs fun _ _ _ e => e) ?_ hmap (st.trans sf)
  obtain ⟨B0, Bs, rfl, q1, q2, q3, q4⟩ := hm
  have k : ∀ b ∈ B0 ++ Bs, ∀ o, h1 b = some o → (PH.plus g1 h1 (B0 ++ Bs)) b = some o := fun b hb o e => by rw [plus_in hb]; exact e
  refine ⟨(q1.keep fun b hb => k b (List.mem_append_left _ hb)).sr, fun f hf => ⟨(q2.keep fun b hb => k b (List.mem_append_right _ hb)).all f hf, (q4 f hf).2⟩, fun f hf => ⟨?_, ?_⟩⟩
  · exact .inl (q4 f hf).1
  · rw [(q4 f hf).1]; exact Nat.zero_le _
/-- a field of a message -/
theorem MsgsIn.rd {a : Option Addr} {L : List MsgF} (x : MsgsIn h a L) {i : Nat} (hi : i < L.length) : ∃ b o, a = some ⟨b, o, none⟩ ∧ ∀ f m vs, f + m ≤ 107 → ((encMsg L[i]).drop f).take m = vs → ∀ o', o' = o + i * 107 + f → h.rds b o' m = some vs := by
  obtain ⟨b, o, hA, hr⟩ := x.sr.get hi
  exact ⟨b, o, hA, fun f m vs hf hv o' ho => by rw [hr o' f m ho hf]; exact congrArg some hv⟩
def bt3 (ix : Int) : BtR := ⟨ix, 1, none, 0, []⟩
def threeV (a : Option Addr) (c : Nat) : VwR := ⟨2, 3, 1, a, c, [bt3 2, bt3 3], 1, none, 0, []⟩
theorem three_ok {a : Option Addr} {c : Nat} (x : SR EncBt h a [bt3 2, bt3 3]) : VwOk h (threeV a c) := by
  refine ⟨x, by simp [threeV], fun b hb => ?_, fun b hb => ?_, .inl rfl, by simp [threeV], by simp [threeV]⟩
  · simp only [threeV, List.mem_cons, List.not_mem_nil, or_false] at hb
    rcases hb with rfl | rfl <;> simp [bt3]
  · simp only [threeV, List.mem_cons, List.not_mem_nil, or_false] at hb
    rcases hb with rfl | rfl
    · exact ⟨.inl rfl, Nat.zero_le _⟩
    · exact ⟨.inl rfl, Nat.zero_le _⟩
theorem cThree (hk : ∀ a c h', SR EncBt h' a [bt3 2, bt3 3] → h.Sub h' → K (threeV a c).val h') : CallH Try.prog id_law20_three [] K h :=
  F_law20_three_ok (nwL (cs := EncBt.row [bt3 2, bt3 3]) fun b h1 _ hb1 c1 => hk (some ⟨b, 0, none⟩) 2 h1 (.inr ⟨b, 0, rfl, rdsL hb1 rfl rfl⟩) c1.sub0)
abbrev sh0 : ShS := ⟨none, none, []⟩
theorem tk1 (a : Option Addr) (c : Nat) : tickV sh0 (threeV a c) = ([helloM 2], sh0) := rfl
theorem tk2 (a : Option Addr) (c : Nat) : tickV ⟨some (1, 1), none, []⟩ (threeV a c) = ([helloM 2, entM (threeV none 0) 0, entM (threeV none 0) 1], ⟨some (1, 1), none, []⟩) := rfl
theorem tk3 (a : Option Addr) (c : Nat) : tickV ⟨some (0, 0), none, []⟩ (threeV a c) = ([helloM 2, rootM 2 3 1 (rootH [])], ⟨some (0, 0), some (3, 1, []), textsT []⟩) := by
  have h1 : nextV (threeV a c) 0 0 = none := rfl
  have h2 : mayB [] = true ∧ ([] : List PrR).length ≤ 48 := by decide
  unfold tickV
  simp only
  rw [if_neg (by simp [threeV]), h1]
  simp only
  rw [if_pos (by unfold needV; trivial), if_pos (show mayB (threeV a c).prs = true ∧ (threeV a c).prs.length ≤ 48 from h2), List.nil_append]
  rfl
theorem maps1 {L : List MsgF} {a : MsgA} (h : L.map (·.m) = [a]) : ∃ f, L = [f] ∧ f.m = a := by
  cases L with
  | nil => cases h
  | cons f r =>
    rw [List.map_cons] at h
    obtain ⟨h1, h2⟩ := List.cons.inj h
    exact ⟨f, by rw [List.map_eq_nil_iff.1 h2], h1⟩
theorem maps2 {L : List MsgF} {a b : MsgA} (h : L.map (·.m) = [a, b]) : ∃ f1 f2, L = [f1, f2] ∧ f1.m = a ∧ f2.m = b := by
  cases L with
  | nil => cases h
  | cons f r =>
    rw [List.map_cons] at h
    obtain ⟨h1, h2⟩ := List.cons.inj h
    obtain ⟨f2, rfl, h3⟩ := maps1 h2
    exact ⟨f, f2, rfl, h1, h3⟩
theorem maps3 {L : List MsgF} {a b c : MsgA} (h : L.map (·.m) = [a, b, c]) : ∃ f1 f2 f3, L = [f1, f2, f3] ∧ f1.m = a ∧ f2.m = b ∧ f3.m = c := by
  cases L with
  | nil => cases h
  | cons f r =>
    rw [List.map_cons] at h
    obtain ⟨h1, h2⟩ := List.cons.inj h
    obtain ⟨f2, f3, rfl, h3, h4⟩ := maps2 h2
    exact ⟨f, f2, f3, rfl, h1, h3, h4⟩
theorem at3 : (-9223372036854775808 : Int) ≤ 3 ∧ (3 : Int) ≤ 9223372036854775807 := by decide
theorem ak1 : ackV sh0 3 1 1 = (true, ⟨some (1, 1), none, []⟩) := rfl
theorem ak2 : ackV ⟨some (1, 1), none, []⟩ 3 0 0 = (true, ⟨some (0, 0), none, []⟩) := rfl
theorem z32 : (List.replicate 32 (0 : Int)).length = 32 := by simp
theorem cWakes20 (hk : ∀ h', h.Sub h' → K (.bool true) h') : CallH Try.prog id_law20_wakes [] K h := by
  refine F_law20_wakes_ok (cShipNew (Spl.start h) fun sb N1 h1 x1 st1 d1 => ⟨_, rfl, ?_⟩)
  rw [List.append_nil] at st1
  refine st1.spl.call (K := fun v g' => ∃ a c, v = (threeV a c).val ∧ SR EncBt g' a [bt3 2, bt3 3] ∧ h.Sub g') (cThree fun a c h' hb s => ⟨a, c, rfl, hb, s⟩) ?_
  rintro _ g2 h2 ⟨a2, c2, rfl, hb2, s2⟩ st
  obtain ⟨st2, same2⟩ := st s2
  refine ⟨_, _, _, _, _, _, _, _, _, _, rfl, cTickF (v := threeV a2 c2) (x1.keep s2 same2) st2.spl (three_ok hb2) at3 (by decide) fun g3 N3 h3 aA aC LA x3 mA hA st3 => ⟨_, _, _, rfl, ?_⟩⟩
  rw [tk1] at x3 hA
  refine cAck x3 st3.spl z32 z32 z32 fun g4 h4 x4 st4 => ⟨_, rfl, ?_⟩
  rw [ak1] at x4 ⊢
  refine st4.spl.call (K := fun v g' => ∃ a c, v = (threeV a c).val ∧ SR EncBt g' a [bt3 2, bt3 3] ∧ g4.Sub g') (cThree fun a c h' hb s => ⟨a, c, rfl, hb, s⟩) ?_
  rintro _ g5 h5 ⟨a5, c5, rfl, hb5, s5⟩ st
  obtain ⟨st5, same5⟩ := st s5
  refine ⟨_, _, _, _, _, _, _, _, _, _, rfl, cTickF (v := threeV a5 c5) (x4.keep s5 same5) st5.spl (three_ok hb5) at3 (by decide) fun g6 N6 h6 aB cB LB x6 mB hB st6 => ⟨_, _, _, rfl, ?_⟩⟩
  rw [tk2] at x6 hB
  refine cAck x6 st6.spl z32 z32 z32 fun g7 h7 x7 st7 => ⟨_, rfl, ?_⟩
  rw [ak2] at x7
  refine st7.spl.call (K := fun v g' => ∃ a c, v = (threeV a c).val ∧ SR EncBt g' a [bt3 2, bt3 3] ∧ g7.Sub g') (cThree fun a c h' hb s => ⟨a, c, rfl, hb, s⟩) ?_
  rintro _ g8 h8 ⟨a8, c8, rfl, hb8, s8⟩ st
  obtain ⟨st8, same8⟩ := st s8
  refine ⟨_, _, _, _, _, _, _, _, _, _, rfl, cTickF (v := threeV a8 c8) (x7.keep s8 same8) st8.spl (three_ok hb8) at3 (by decide) fun g9 N9 h9 aC9 cC LC x9 mC hC st9 => ⟨_, _, _, rfl, ?_⟩⟩
  rw [tk3] at x9 hC
  refine cCopy x9 st9.spl (fun e => by cases e) fun x y S e => ?_
  cases e
  obtain ⟨f1, rfl, e1⟩ := maps1 hA
  obtain ⟨f2, f3, f4, rfl, e2, e3, e4⟩ := maps3 hB
  obtain ⟨f5, f6, rfl, e5, e6⟩ := maps2 hC
  have s39 : g3.Sub h9 := ((((st4.gs.tr st5.gs).tr st6.gs).tr st7.gs).tr st8.gs).tr st9.gh
  have s69 : g6.Sub h9 := (st7.gs.tr st8.gs).tr st9.gh
  obtain ⟨bA, oA, hAA, rA⟩ := (mA.sub s39).rd (i := 0) (by simp)
  obtain ⟨bB, oB, hAB, rB⟩ := (mB.sub s69).rd (i := 1) (by simp)
  obtain ⟨bB2, oB2, hAB2, rB2⟩ := (mB.sub s69).rd (i := 2) (by simp)
  obtain ⟨bC, oC, hAC, rC⟩ := (mC.sub st9.spl.sub).rd (i := 1) (by simp)
  have w1 := rA 0 1 [.int .u8 1] (by decide) (by simp only [List.getElem_cons_zero]; unfold encMsg; rw [e1]; rfl) (oA + (0 : Int).toNat * 107) rfl
  have w2 := rB 4 1 [.int .i64 2] (by decide) (by simp only [List.getElem_cons_succ, List.getElem_cons_zero]; unfold encMsg; rw [e3]; rfl) ((oB + (1 : Int).toNat * 107) + 4) rfl
  have w3 := rB2 7 1 [.int .i64 1] (by decide) (by simp only [List.getElem_cons_succ, List.getElem_cons_zero]; unfold encMsg; rw [e4]; rfl) ((oB2 + (2 : Int).toNat * 107) + 7) rfl
  have w4 := rC 0 1 [.int .u8 4] (by decide) (by simp only [List.getElem_cons_succ, List.getElem_cons_zero]; unfold encMsg; rw [e6]; rfl) (oC + (1 : Int).toNat * 107) rfl
  refine ⟨_, bi (nd [] 1), by rw [bi_len, nd_len], _, rfl, bA, oA, fun _ => ⟨hAA, by decide, by simp⟩, 1, fun _ => w1, bB, oB, fun _ => ⟨hAB, by decide, by simp⟩, 2, fun _ => w2, bB2, oB2, fun _ => ⟨hAB2, by decide, by simp⟩, 1, fun _ => w3, bC, oC, fun _ => ⟨hAC, by decide, by simp⟩, 4, fun _ => w4, ?_⟩
  exact hk h9 ((((((((st1.gs.tr st2.gs).tr st3.gs).tr st4.gs).tr st5.gs).tr st6.gs).tr st7.gs).tr st8.gs).tr st9.gh)
end TL

namespace TL
open Go Go.Proofs
variable {g h : PH} {N : List Nat} {K : Value → PH → Prop} {aA bA : Option Addr} {aC bC : Nat}

abbrev fV (f : MsgF) : Value := mV f.m.kd f.m.ep f.m.at_ f.m.ae f.m.ix f.m.be f.oA f.m.ops.length f.oC f.m.prev (bi f.m.root.1) f.m.lv f.m.ii (bi f.m.left.1) (bi f.m.right.1) f.pA f.m.prs.length f.pC
theorem take_all {α : Type} {l m : List α} (hl : l.length = m.length) (h : l.take l.length = m.take l.length) : l = m := by
  rw [List.take_length, hl, List.take_length] at h; exact h
theorem take_step {α : Type} {l m : List α} {i : Nat} (h1 : i < l.length) (h2 : i < m.length) (h : l.take i = m.take i) (e : l[i] = m[i]) : l.take (i + 1) = m.take (i + 1) := by
  rw [← List.take_append_getElem h1, ← List.take_append_getElem h2, h, e]
theorem cSameMsg {a b : MsgF} (ha1 : SR EncOp h a.oA a.m.ops ∧ a.m.ops.length ≤ 1000) (ha2 : SR EncPr h a.pA a.m.prs ∧ a.m.prs.length ≤ 1000) (hb1 : SR EncOp h b.oA b.m.ops) (hb2 : SR EncPr h b.pA b.m.prs) (hk : K (.bool (decide (a.m = b.m))) h) :
    CallH Try.prog id_ref20_SameMsg [fV a, fV b] K h := by
  have no : a.m ≠ b.m → K (.bool false) h := fun hn => by rw [decide_eq_false hn] at hk; exact hk
  have hln : ∀ x : H32, (bi x.1).length = 32 := fun x => by rw [bi_len, x.2]
  refine F_ref20_SameMsg_ok (hln _) (hln _) (hln _) (hln _) (hln _) (hln _) ⟨fun e => ?_, fun e => ?_⟩
  · refine no fun hh => ?_
    rw [hh] at e
    simp at e
  · have hl1 : a.m.ops.length = b.m.ops.length := by simp at e; omega
    have hl2 : a.m.prs.length = b.m.prs.length := by simp at e; omega
    refine LoopP.ind (fun (z : Int × Unit) h' => ∃ i : Nat, z.1 = i ∧ i ≤ a.m.ops.length ∧ h' = h ∧ a.m.ops.take i = b.m.ops.take i) (fun z _ => (a.m.ops.length - z.1).toNat) ?_ ⟨0, rfl, Nat.zero_le _, rfl, by simp⟩
    rintro ⟨zi, u⟩ h1 ⟨i, hzi, hi, rfl, ht⟩
    dsimp only at hzi
    subst hzi
    dsimp only
    refine ⟨fun e1 => ?_, fun e1 => ?_⟩
    · have e1 : i < a.m.ops.length := by simpa using e1
      have hit : ((i : Nat) : Int).toNat = i := by omega
      have hw : IntKind.wrap .i64 (((i : Nat) : Int) + (1 : Int)) = ((i + 1 : Nat) : Int) := by
        have := ha1.2
        rw [wrap64] <;> omega
      have e2 : i < b.m.ops.length := by omega
      obtain ⟨p1, o1, hA1, hr1⟩ := ha1.1.get e1
      obtain ⟨p2, o2, hA2, hr2⟩ := hb1.get e2
      have heq : ((a.m.ops[i].k == b.m.ops[i].k) && ((strEq (mk a.m.ops[i].p) (mk b.m.ops[i].p)) && ((strEq (mk a.m.ops[i].v) (mk b.m.ops[i].v)) && true))) = decide (a.m.ops[i] = b.m.ops[i]) := by
        rw [strEq_mk', strEq_mk']
        cases a.m.ops[i]; cases b.m.ops[i]
        simp only [OpR.mk.injEq, Bool.decide_and, Bool.and_true]
        congr 1
      rw [hit, hw]
      refine ⟨p1, o1, ⟨hA1, by omega, by omega⟩, _, _, _, hr1 _ 0 3 rfl (by decide), p2, o2, ⟨hA2, by omega, by omega⟩, _, _, _, hr2 _ 0 3 rfl (by decide), fun e3 => ?_, fun e3 => ?_⟩
      · rw [heq] at e3
        refine no fun hh => ?_
        have : a.m.ops[i] = b.m.ops[i] := by simp only [hh]
        simp [this] at e3
      · rw [heq] at e3
        have e3 : a.m.ops[i] = b.m.ops[i] := by simpa using e3
        exact ⟨⟨i + 1, rfl, by omega, rfl, take_step e1 e2 ht e3⟩, by omega⟩
    · have e1 : i = a.m.ops.length := by simp at e1; omega
      subst e1
      have hops := take_all hl1 ht
      refine LoopP.ind (fun (z : Int × Unit) h' => ∃ i : Nat, z.1 = i ∧ i ≤ a.m.prs.length ∧ h' = h1 ∧ a.m.prs.take i = b.m.prs.take i) (fun z _ => (a.m.prs.length - z.1).toNat) ?_ ⟨0, rfl, Nat.zero_le _, rfl, by simp⟩
      rintro ⟨zi, u⟩ h2 ⟨i, hzi, hi, rfl, ht2⟩
      dsimp only at hzi
      subst hzi
      dsimp only
      refine ⟨fun e1 => ?_, fun e1 => ?_⟩
      · have e1 : i < a.m.prs.length := by simpa using e1
        have hit : ((i : Nat) : Int).toNat = i := by omega
        have hw : IntKind.wrap .i64 (((i : Nat) : Int) + (1 : Int)) = ((i + 1 : Nat) : Int) := by
          have := ha2.2
          rw [wrap64] <;> omega
        have e2 : i < b.m.prs.length := by omega
        obtain ⟨p1, o1, hA1, hr1⟩ := ha2.1.get e1
        obtain ⟨p2, o2, hA2, hr2⟩ := hb2.get e2
        have heq : ((strEq (mk a.m.prs[i].p) (mk b.m.prs[i].p)) && ((strEq (mk a.m.prs[i].v) (mk b.m.prs[i].v)) && true)) = decide (a.m.prs[i] = b.m.prs[i]) := by
          rw [strEq_mk', strEq_mk']
          cases a.m.prs[i]; cases b.m.prs[i]
          simp only [PrR.mk.injEq, Bool.decide_and, Bool.and_true]
        rw [hit, hw]
        refine ⟨p1, o1, ⟨hA1, by omega, by omega⟩, _, _, hr1 _ 0 2 rfl (by decide), p2, o2, ⟨hA2, by omega, by omega⟩, _, _, hr2 _ 0 2 rfl (by decide), fun e3 => ?_, fun e3 => ?_⟩
        · rw [heq] at e3
          refine no fun hh => ?_
          have : a.m.prs[i] = b.m.prs[i] := by simp only [hh]
          simp [this] at e3
        · rw [heq] at e3
          have e3 : a.m.prs[i] = b.m.prs[i] := by simpa using e3
          exact ⟨⟨i + 1, rfl, by omega, rfl, take_step e1 e2 ht2 e3⟩, by omega⟩
      · have e1 : i = a.m.prs.length := by simp at e1; omega
        subst e1
        have hprs := take_all hl2 ht2
        have : ((((((((((((a.m.kd == b.m.kd) && (a.m.ep == b.m.ep)) && (a.m.at_ == b.m.at_)) && (a.m.ae == b.m.ae)) && (a.m.ix == b.m.ix)) && (a.m.be == b.m.be)) && (a.m.prev == b.m.prev)) && (bi a.m.root.1 == bi b.m.root.1)) && (a.m.lv == b.m.lv)) && (a.m.ii == b.m.ii)) && (bi a.m.left.1 == bi b.m.left.1)) && (bi a.m.right.1 == bi b.m.right.1)) = decide (a.m = b.m) := by
          rw [bi_beq, bi_beq, bi_beq]
          revert hops hprs
          cases a.m; cases b.m
          intro hops hprs
          dsimp only at hops hprs
          simp only [MsgA.mk.injEq, hops, hprs, Bool.decide_and, Subtype.ext_iff, decide_true, Bool.and_true, Bool.true_and]
          rw [Bool.eq_iff_iff]
          simp only [Bool.and_eq_true, beq_iff_eq, decide_eq_true_eq]
          constructor
          · rintro ⟨⟨⟨⟨⟨⟨⟨⟨⟨⟨⟨h1, h2⟩, h3⟩, h4⟩, h5⟩, h6⟩, h7⟩, h8⟩, h9⟩, h10⟩, h11⟩, h12⟩
            exact ⟨h1, h2, h3, h4, h5, h6, h7, h8, h9, h10, h11, h12⟩
          · rintro ⟨h1, h2, h3, h4, h5, h6, h7, h8, h9, h10, h11, h12⟩
            exact ⟨⟨⟨⟨⟨⟨⟨⟨⟨⟨⟨h1, h2⟩, h3⟩, h4⟩, h5⟩, h6⟩, h7⟩, h8⟩, h9⟩, h10⟩, h11⟩, h12⟩
        rw [← this] at hk
        exact hk
theorem cSameAll {L M : List MsgF} (x : MsgsIn h aA L) (y : MsgsIn h bA M) (hn : L.length ≤ 1000000) (hk : K (.bool (decide (L.map (·.m) = M.map (·.m)))) h) :
    CallH Try.prog id_ref20_SameAll [.slice aA L.length aC, .slice bA M.length bC] K h := by
  have no : L.map (·.m) ≠ M.map (·.m) → K (.bool false) h := fun hn => by rw [decide_eq_false hn] at hk; exact hk
  refine F_ref20_SameAll_ok ⟨fun e => ?_, fun e => ?_⟩
  · refine no fun hh => ?_
    have := congrArg List.length hh
    simp only [List.length_map] at this
    rw [this] at e; simp at e
  · have hl : L.length = M.length := by simp at e; omega
    refine LoopP.ind (fun (z : Int × Unit) h' => ∃ i : Nat, z.1 = i ∧ i ≤ L.length ∧ h' = h ∧ (L.map (·.m)).take i = (M.map (·.m)).take i) (fun z _ => (L.length - z.1).toNat) ?_ ⟨0, rfl, Nat.zero_le _, rfl, by simp⟩
    rintro ⟨zi, u⟩ h1 ⟨i, hzi, hi, rfl, ht⟩
    dsimp only at hzi
    subst hzi
    dsimp only
    refine ⟨fun e1 => ?_, fun e1 => ?_⟩
    · have e1 : i < L.length := by simpa using e1
      have hit : ((i : Nat) : Int).toNat = i := by omega
      have hw : IntKind.wrap .i64 (((i : Nat) : Int) + (1 : Int)) = ((i + 1 : Nat) : Int) := by rw [wrap64] <;> omega
      have e2 : i < M.length := by omega
      obtain ⟨p1, o1, hA1, hr1⟩ := x.rd e1
      obtain ⟨p2, o2, hA2, hr2⟩ := y.rd e2
      have hln : ∀ x : H32, (bi x.1).length = 32 := fun x => by rw [bi_len, x.2]
      have whole : ∀ f : MsgF, ((encMsg f).drop 0).take 107 = encMsg f := fun f => by
        rw [List.drop_zero, List.take_of_length_le (by rw [show (encMsg f).length = 107 from EncMsg.len f]; decide)]
      rw [hit, hw]
      refine ⟨p1, o1, ⟨hA1, by omega, by omega⟩, _, _, _, _, _, _, _, _, _, _, bi L[i].m.root.1, hln _, _, _, bi L[i].m.left.1, hln _, bi L[i].m.right.1, hln _, _, _, _, hr1 0 107 _ (by decide) (whole _) (o1 + i * 107) rfl,
        p2, o2, ⟨hA2, by omega, by omega⟩, _, _, _, _, _, _, _, _, _, _, bi M[i].m.root.1, hln _, _, _, bi M[i].m.left.1, hln _, bi M[i].m.right.1, hln _, _, _, _, hr2 0 107 _ (by decide) (whole _) (o2 + i * 107) rfl, ?_⟩
      have m1 := List.getElem_mem e1
      have m2 := List.getElem_mem e2
      refine cSameMsg (a := L[i]) (b := M[i]) (x.ops _ m1) (x.prs _ m1) (y.ops _ m2).1 (y.prs _ m2).1 ⟨_, rfl, fun e3 => ?_, fun e3 => ?_⟩
      · have e3 : L[i].m ≠ M[i].m := by simpa using e3
        refine no fun hh => e3 ?_
        have h5 : (L.map (·.m))[i]'(by simpa using e1) = (M.map (·.m))[i]'(by simpa using e2) := by simp only [hh]
        simpa using h5
      · have e3 : L[i].m = M[i].m := by simpa using e3
        exact ⟨⟨i + 1, rfl, by omega, rfl, take_step (by simpa using e1) (by simpa using e2) ht (by simpa using e3)⟩, by omega⟩
    · have e1 : i = L.length := by simp at e1; omega
      subst e1
      have : L.map (·.m) = M.map (·.m) := take_all (by simpa using hl) (by simpa using ht)
      rw [decide_eq_true this] at hk
      exact hk
end TL

namespace TL
open Go Go.Proofs
variable {g h : PH} {N : List Nat} {K : Value → PH → Prop} {sb : Nat} {s : ShS} {v : VwR}
variable {rA eA pA : Option Addr} {rC eC pC : Nat} {rows : List OsR} {eps : List Int} {prs : List PrR} {r0 r1 : Int}

abbrev rowV (r0 r1 : Int) (rA : Option Addr) (rows : List OsR) (rC : Nat) (eA : Option Addr) (eps : List Int) (eC : Nat) (pA : Option Addr) (prs : List PrR) (pC : Nat) : Value := .agg #[.int .i64 r0, .int .i64 r1, .slice rA rows.length rC, .slice eA eps.length eC, .slice pA prs.length pC]
/-- a row, in memory -/
structure RowOk (h : PH) (rA : Option Addr) (rows : List OsR) (eA : Option Addr) (eps : List Int) (pA : Option Addr) (prs : List PrR) : Prop where
  rw : SR EncOs h rA rows
  op : ∀ r ∈ rows, SR EncOp h r.a r.ops
  ep : SR EncI h eA eps
  pr : SR EncPr h pA prs
theorem RowOk.sub {h' : PH} (x : RowOk h rA rows eA eps pA prs) (s : h.Sub h') : RowOk h' rA rows eA eps pA prs := ⟨x.rw.sub s, fun r hr => (x.op r hr).sub s, x.ep.sub s, x.pr.sub s⟩
def madeV (epoch gone prev : Int) (bs : List BtR) (a : Option Addr) (c : Nat) (pA : Option Addr) (pC : Nat) (prs : List PrR) : VwR := ⟨epoch, gone + bs.length, pe prev bs bs.length, a, c, bs, prev, pA, pC, prs⟩
theorem gRow_no {n : Nat} (hg : gRow rows n prs = false) : rows.length ≤ 80 ∧ (∀ r ∈ rows, r.ops.length ≤ 1000 ∧ ∀ o ∈ r.ops, o.p.length ≤ 1000 ∧ o.v.length ≤ 1000) ∧ prs.length ≤ 200 ∧ ∀ x ∈ prs, x.p.length ≤ 1000 := by
  simp only [gRow, Bool.or_eq_false_iff, decide_eq_false_iff_not, List.any_eq_false] at hg
  obtain ⟨h1, h2, h3, h4⟩ := hg
  obtain ⟨p1, p2⟩ := gPrs_no h3
  refine ⟨by omega, fun r hr => ?_, p1, fun x hx => (p2 x hx).1⟩
  have := gOps_no (ops := r.ops) (by have := h4 r hr; simpa using this)
  exact ⟨by omega, this.2⟩
theorem made_pe {gone prev : Int} {bs : List BtR} (hM : MadeOf gone prev rows bs) {i : Nat} (hi : i ≤ bs.length) : 0 ≤ pe prev bs i ∧ pe prev bs i ≤ 4 + i := by
  cases i with
  | zero => have := hM.p0; have := hM.p1; exact ⟨hM.p0, by show prev ≤ _; omega⟩
  | succ i =>
    rw [pe_succ _ _ (by omega)]
    obtain ⟨_, _, _, _, _, _, h6, h7⟩ := hM.bts i (by omega)
    omega
theorem made_ok {epoch gone prev : Int} {bs : List BtR} {a : Option Addr} {c : Nat} (hM : MadeOf gone prev rows bs) (hb : SR EncBt h a bs) (ro : RowOk h rA rows eA eps pA prs) {n : Nat} (hg : gRow rows n prs = false) : VwOk h (madeV epoch gone prev bs a c pA pC prs) := by
  obtain ⟨g1, g2, g3, g4⟩ := gRow_no hg
  have hl := hM.len
  have h0 := hM.g0
  have h1 := hM.g1
  refine ⟨hb, by show bs.length ≤ _; omega, fun b hb => ?_, fun b hb => ?_, ro.pr, by show prs.length ≤ _; omega, fun x hx => by have := g4 x hx; omega⟩
  · obtain ⟨i, hi, rfl⟩ := List.getElem_of_mem hb
    obtain ⟨_, e, _⟩ := hM.bts i hi
    have hi' : i < bs.length := hi
    have e' : bs[i].ix = gone + i + 1 := e
    show 0 ≤ bs[i].ix ∧ bs[i].ix ≤ 1000000
    omega
  · obtain ⟨i, hi, rfl⟩ := List.getElem_of_mem hb
    obtain ⟨hr, _, e2, _, e4, _⟩ := hM.bts i hi
    have hm := List.getElem_mem hr
    have e2 : bs[i].a = rows[i].a := e2
    have e4 : bs[i].ops = rows[i].ops := e4
    show SR EncOp h bs[i].a bs[i].ops ∧ bs[i].ops.length ≤ 1000
    rw [e2, e4]
    exact ⟨ro.op _ hm, (g2 _ hm).1⟩
theorem cMadeS (sp : Spl g N h) (ro : RowOk g rA rows eA eps pA prs) {n : Nat} (hg : gRow rows n prs = false) {epoch : Int}
    (hk : ∀ gone prev bs a c g' h', MadeOf gone prev rows bs → VwOk g' (madeV epoch gone prev bs a c pA pC prs) → Stp g N h g' N h' → (∀ b ∈ N, ∀ o, h b = some o → h' b = some o) → K (madeV epoch gone prev bs a c pA pC prs).val h') :
    CallH Try.prog id_law20_Made [rowV r0 r1 rA rows rC eA eps eC pA prs pC, .int .i64 epoch] K h := by
  refine sp.call (K := fun v g' => ∃ gone prev bs a c, MadeOf gone prev rows bs ∧ VwOk g' (madeV epoch gone prev bs a c pA pC prs) ∧ v = (madeV epoch gone prev bs a c pA pC prs).val ∧ g.Sub g') (cMade ro.rw ro.ep (gRow_no hg).1 fun gone prev bs a c B' h' hM hb hc => ⟨gone, prev, bs, a, c, hM, made_ok hM hb.sr (ro.sub hc.sub0) hg, ?_, hc.sub0⟩) ?_
  · have := hM.len
    unfold madeV VwR.val
    rw [this]
  · rintro _ g' h' ⟨gone, prev, bs, a, c, hM, hv, rfl, hs⟩ st
    obtain ⟨st, same⟩ := st hs
    exact hk gone prev bs a c g' h' hM hv st same
theorem wk20 {h1 : PH} (s : h.Sub h1) (hk : ∀ h', h.Sub h' → K (.bool true) h') : CallH Try.prog id_law20_wakes [] (fun v h2 => ∃ t : Bool, v = .bool t ∧ K (.bool t) h2) h1 :=
  cWakes20 fun h' s' => ⟨true, rfl, hk h' (s.tr s')⟩
/-! ### A nil ship -/
section
variable {m0 m1 m2 m3 m4 m5 m7 m9 m10 ep : Int} {m6A m13A : Option Addr} {m6N m6C m13N m13C : Nat} {m8 m11 m12 : List Int}
theorem nAck (h8 : m8.length = 32) (h11 : m11.length = 32) (h12 : m12.length = 32) (hk : K (.bool false) h) : CallH Try.prog id_ship_Ship_Ack [.pointer none, mV m0 m1 m2 m3 m4 m5 m6A m6N m6C m7 m8 m9 m10 m11 m12 m13A m13N m13C] K h :=
  F_ship_Ship_Ack_ok h8 h11 h12 ⟨fun _ => hk, fun e => by simp at e⟩
theorem nAsk (h8 : m8.length = 32) (h11 : m11.length = 32) (h12 : m12.length = 32) (hk : K (.tuple #[mV 0 0 0 0 0 0 none 0 0 0 Z32 0 0 Z32 Z32 none 0 0, .bool false]) h) : CallH Try.prog id_ship_Ship_Ask [.pointer none, mV m0 m1 m2 m3 m4 m5 m6A m6N m6C m7 m8 m9 m10 m11 m12 m13A m13N m13C, .int .i64 ep] K h :=
  F_ship_Ship_Ask_ok h8 h11 h12 ⟨0, 0, fun e => by simp at e, none, fun e => by simp at e, 0, 0, fun e => by simp at e, none, fun e => by simp at e, 0, 0, fun e => by simp at e, 0, fun e => by simp at e, fun _ => hk, fun e => by simp at e⟩
end
theorem nCopy (hk : K (.tuple #[.int .i64 (0 : Int), .agg (((List.replicate 32 0).map (Value.int .u8) ++ [])).toArray, .bool false]) h) : CallH Try.prog id_ship_Ship_Copy [.pointer none] K h :=
  F_ship_Ship_Copy_ok ⟨0, 0, fun e => by simp at e, none, fun e => by simp at e, fun _ => hk, fun e => by simp at e⟩
theorem nTick (hk : K (.slice none 0 0) h) : CallH Try.prog id_ship_Ship_Tick [.pointer none, v.val] K h := F_ship_Ship_Tick_ok ⟨fun _ => hk, fun e => by simp at e⟩
theorem nTexts (hk : K (.slice none 0 0) h) : CallH Try.prog id_ship_Ship_Texts [.pointer none] K h := F_ship_Ship_Texts_ok ⟨fun _ => hk, fun e => by simp at e⟩
theorem nForget (hk : K (.tuple #[]) h) : CallH Try.prog id_ship_Ship_Forget [.pointer none] K h := F_ship_Ship_Forget_ok ⟨fun e => by simp at e, fun _ => hk⟩
theorem ShipNobody_den {a0 a1 a2 a3 a4 a5 : Int} (ro : RowOk h rA rows eA eps pA prs) (hk : ∀ h', h.Sub h' → K (.bool true) h') :
    CallH Try.prog id_law20_ShipNobody [rowV r0 r1 rA rows rC eA eps eC pA prs pC, .agg #[.int .u8 a0, .int .i64 a1, .int .i64 a2, .int .i64 a3, .int .i64 a4, .int .i64 a5]] K h := by
  refine F_law20_ShipNobody_ok (cGreat20 ro.rw ro.op ro.pr ⟨_, rfl, fun _ => wk20 (PH.Sub.rf _) hk, fun hg => nForget (nAsk z32 z32 z32 ⟨_, _, _, _, _, _, _, _, _, _, Z32, z32, _, _, Z32, z32, Z32, z32, _, _, _, _, rfl, nCopy ⟨_, Z32, z32, _, rfl, nAck z32 z32 z32 ⟨_, rfl, fun _ => ?_, fun e => by simp at e⟩⟩⟩)⟩)
  refine cMadeS (Spl.start h) ro hg fun gone prev bs a c g' h' hM hv st _ => ⟨_, _, _, _, _, _, _, _, _, _, rfl, nTick (v := madeV a2 gone prev bs a c pA pC prs) ⟨_, _, _, rfl, fun _ => ⟨fun _ => nTexts ⟨_, _, _, rfl, fun _ => wk20 st.gh hk, fun e => by simp at e⟩, fun e => by simp [Z32] at e⟩, fun e => by simp at e⟩⟩
end TL

namespace TL
open Go Go.Proofs
variable {g h : PH} {N : List Nat} {K : Value → PH → Prop} {sb : Nat} {s : ShS} {v : VwR}
variable {rA eA pA : Option Addr} {rC eC pC : Nat} {rows : List OsR} {eps : List Int} {prs : List PrR} {r0 r1 : Int}

abbrev okP (l : List PrR) : Prop := mayB l = true ∧ l.length ≤ 48
theorem tick_new {a e : Int} (ha : s.ack = some (a, e)) (h1 : ¬ (a = v.at_ ∧ e = v.ae)) (h2 : nextV v a e = none) (hn : needV s v a) (hok : okP v.prs) :
    tickV s v = ([helloM v.ep, rootM v.ep v.at_ v.ae (rootH v.prs)], { s with shot := some (v.at_, v.ae, v.prs), texts := s.texts ++ textsT v.prs }) := by
  unfold tickV; simp only [ha, h2]; rw [if_neg h1, if_pos hn, if_pos hok]
theorem tick_bad {a e : Int} (ha : s.ack = some (a, e)) (h1 : ¬ (a = v.at_ ∧ e = v.ae)) (h2 : nextV v a e = none) (hn : needV s v a) (hok : ¬ okP v.prs) : tickV s v = ([helloM v.ep], s) := by
  unfold tickV; simp only [ha, h2]; rw [if_neg h1, if_pos hn, if_neg hok]
theorem tick_old {a e x y : Int} {S : List PrR} (ha : s.ack = some (a, e)) (h1 : ¬ (a = v.at_ ∧ e = v.ae)) (h2 : nextV v a e = none) (hn : ¬ needV s v a) (hs : s.shot = some (x, y, S)) : tickV s v = ([helloM v.ep, rootM v.ep x y (rootH S)], s) := by
  unfold tickV; simp only [ha, h2]; rw [if_neg h1, if_neg hn]; simp only [hs]
theorem tick_ents {a e : Int} {i : Nat} (ha : s.ack = some (a, e)) (h1 : ¬ (a = v.at_ ∧ e = v.ae)) (h2 : nextV v a e = some i) : tickV s v = (helloM v.ep :: entsV v i, s) := by
  unfold tickV; simp only [ha, h2]; rw [if_neg h1]
theorem tick_place {a e : Int} (ha : s.ack = some (a, e)) (h1 : a = v.at_ ∧ e = v.ae) : tickV s v = ([helloM v.ep], { s with shot := none }) := by
  unfold tickV; simp only [ha]; rw [if_pos h1]
section
variable {epoch gone prev : Int} {bs : List BtR} {a : Option Addr} {c : Nat}
theorem atV_made (hM : MadeOf gone prev rows bs) {x y : Int} {i : Nat} (hi : i < bs.length) : atV (madeV epoch gone prev bs a c pA pC prs) x y i = (decide (gone + i = x) && decide (pe prev bs i = y)) := by
  unfold atV madeV
  dsimp only
  rw [List.getElem?_eq_getElem hi]
  obtain ⟨_, e, _⟩ := hM.bts i hi
  dsimp only
  rw [e, show gone + (i : Int) + 1 - 1 = gone + i by omega]
theorem next_none (hM : MadeOf gone prev rows bs) {x y : Int} (h : ∀ i, i ≤ bs.length → ¬ (gone + (i : Int) = x ∧ pe prev bs i = y)) : nextV (madeV epoch gone prev bs a c pA pC prs) x y = none ∧ ¬ (x = (madeV epoch gone prev bs a c pA pC prs).at_ ∧ y = (madeV epoch gone prev bs a c pA pC prs).ae) := by
  have h1 : ¬ (x = (madeV epoch gone prev bs a c pA pC prs).at_ ∧ y = (madeV epoch gone prev bs a c pA pC prs).ae) := fun hh => h bs.length (Nat.le_refl _) ⟨hh.1.symm, hh.2.symm⟩
  refine ⟨?_, h1⟩
  unfold nextV
  rw [if_neg h1]
  refine find_no fun j hj => ?_
  have hj : j < bs.length := hj
  rw [atV_made hM hj]
  have := h j (by omega)
  simp only [Bool.and_eq_false_iff, decide_eq_false_iff_not]
  by_cases e : gone + (j : Int) = x
  · exact .inr fun e2 => this ⟨e, e2⟩
  · exact .inl e
theorem next_some (hM : MadeOf gone prev rows bs) {i : Nat} (hi : i ≤ bs.length) : nextV (madeV epoch gone prev bs a c pA pC prs) (gone + i) (pe prev bs i) = some i := by
  by_cases e : i = bs.length
  · subst e
    unfold nextV
    rw [if_pos ⟨rfl, rfl⟩]; rfl
  · have hi2 : i < bs.length := by omega
    unfold nextV
    rw [if_neg (fun hh => by
      have : gone + (i : Int) = gone + bs.length := hh.1
      omega)]
    refine find_at hi2 ?_ fun j hj => ?_
    · rw [atV_made hM hi2]; simp
    · rw [atV_made hM (by omega)]
      simp only [Bool.and_eq_false_iff, decide_eq_false_iff_not]
      exact .inl (by omega)
theorem next_far (hM : MadeOf gone prev rows bs) (n80 : rows.length ≤ 80) {x y : Int} (hy : 100 ≤ y) : nextV (madeV epoch gone prev bs a c pA pC prs) x y = none ∧ ¬ (x = (madeV epoch gone prev bs a c pA pC prs).at_ ∧ y = (madeV epoch gone prev bs a c pA pC prs).ae) :=
  next_none hM fun i hi hh => by
    have := made_pe hM hi
    have := hM.len
    omega
theorem next_zero (hM : MadeOf gone prev rows bs) {y : Int} (hy : y ≠ 0) : nextV (madeV epoch gone prev bs a c pA pC prs) 0 y = none ∧ ¬ (0 = (madeV epoch gone prev bs a c pA pC prs).at_ ∧ y = (madeV epoch gone prev bs a c pA pC prs).ae) :=
  next_none hM fun i hi hh => by
    have h0 := hM.g0
    have hi0 : i = 0 := by omega
    subst hi0
    have := hM.pg.1 (by omega)
    have h2 : prev = y := hh.2
    omega
end
theorem ack_to {kd a e : Int} (h1 : kd = 3) (h2 : 0 ≤ a) : ackV s kd a e = (true, { s with ack := some (a, e) }) := by
  unfold ackV; rw [if_neg (by omega)]
/-- what a ship holds behind the ack 0, 9 and a tick -/
theorem tick09 {epoch gone prev : Int} {bs : List BtR} {a : Option Addr} {c : Nat} (hM : MadeOf gone prev rows bs) : ∃ sh tx, (tickV ⟨some (0, 9), none, []⟩ (madeV epoch gone prev bs a c pA pC prs)).2 = ⟨some (0, 9), sh, tx⟩ ∧ tx.length ≤ 31 ∧ (sh = none ∨ sh = some (gone + bs.length, pe prev bs bs.length, prs)) := by
  obtain ⟨h1, h2⟩ := next_zero (epoch := epoch) (a := a) (c := c) (pA := pA) (pC := pC) (prs := prs) hM (y := 9) (by decide)
  by_cases hok : okP prs
  · rw [tick_new (s := ⟨some (0, 9), none, []⟩) rfl h2 h1 (by unfold needV; trivial) hok]
    exact ⟨_, _, rfl, by rw [List.nil_append, texts_len]; decide, .inr rfl⟩
  · rw [tick_bad (s := ⟨some (0, 9), none, []⟩) rfl h2 h1 (by unfold needV; trivial) hok]
    exact ⟨_, _, rfl, Nat.zero_le _, .inl rfl⟩
theorem ShipAnew_den {qA fA sA : Option Addr} {qC fC sC : Nat} {rows2 : List OsR} {eps2 : List Int} {prs2 : List PrR} {q0 q1 ack : Int} (ro : RowOk h rA rows eA eps pA prs) (ro2 : RowOk h qA rows2 fA eps2 sA prs2) (ha : 0 ≤ ack ∧ ack ≤ 255) (hk : ∀ h', h.Sub h' → K (.bool true) h') :
    CallH Try.prog id_law20_ShipAnew [rowV r0 r1 rA rows rC eA eps eC pA prs pC, rowV q0 q1 qA rows2 qC fA eps2 fC sA prs2 sC, .int .u8 ack] K h := by
  refine F_law20_ShipAnew_ok ⟨fun _ h' => h' = h ∧ gRow rows eps.length prs = false ∧ gRow rows2 eps2.length prs2 = false, cGreat20 ro.rw ro.op ro.pr ⟨_, rfl, fun hg => cGreat20 ro2.rw ro2.op ro2.pr ⟨_, rfl, fun _ => wk20 (PH.Sub.rf _) hk, fun hg2 => ⟨rfl, hg, hg2⟩⟩, fun _ => wk20 (PH.Sub.rf _) hk⟩, ?_⟩
  rintro _ h0 ⟨rfl, hg, hg2⟩
  have ht : IntKind.wrap .i64 (ack.tmod (40 : Int)) = ((ack.toNat % 40 : Nat) : Int) := by
    rw [Int.tmod_eq_emod_of_nonneg ha.1, wrap64 (by omega) (by omega)]; omega
  rw [ht]
  generalize hk40 : ack.toNat % 40 = k
  have hk40 : k < 40 := by omega
  refine cMadeS (Spl.start _) ro hg fun gone prev bs a c g1 h1 hM hv st1 _ => ⟨_, _, _, _, _, _, _, _, _, _, rfl, ?_⟩
  refine cMadeS st1.spl (ro2.sub st1.gs) hg2 fun gone2 prev2 bs2 a2 c2 g2 h2 hM2 hv2 st2 _ => ⟨_, _, _, _, _, _, _, _, _, _, rfl, ?_⟩
  obtain ⟨n80, _, _, _⟩ := gRow_no hg
  obtain ⟨m80, _, _, _⟩ := gRow_no hg2
  have l1 := hM.len
  have l2 := hM2.len
  have z1 := hM.g0
  have z2 := hM.g1
  have z3 := hM2.g0
  have z4 := hM2.g1
  refine cShipNew st2.spl fun sb N3 h3 x3 st3 d3 => ⟨_, rfl, ?_⟩
  rw [List.append_nil] at st3
  refine cAck x3 st3.spl z32 z32 z32 fun g4 h4 x4 st4 => ⟨_, rfl, ?_⟩
  rw [ack_to rfl (by decide)] at x4
  refine cTickF (v := madeV 3 gone prev bs a c pA pC prs) x4 st4.spl ((hv.sub st2.gs).sub (st3.gs.tr st4.gs)) (by show _ ≤ gone + bs.length ∧ gone + bs.length ≤ _; omega) (by decide) fun g5 N5 h5 a5 c5 L5 x5 m5 e5 st5 => ⟨_, _, _, rfl, ?_⟩
  obtain ⟨sh, tx, ht, htx, hsh⟩ := tick09 (epoch := 3) (a := a) (c := c) (pA := pA) (pC := pC) (prs := prs) hM
  rw [ht] at x5
  have w1 : IntKind.wrap .i64 ((madeV 3 gone prev bs a c pA pC prs).at_ + ((k : Nat) : Int)) = gone + bs.length + k := by
    show IntKind.wrap .i64 (gone + bs.length + (k : Int)) = _
    rw [wrap64] <;> omega
  show CallH _ _ [_, mV 3 0 (IntKind.wrap .i64 ((madeV 3 gone prev bs a c pA pC prs).at_ + ((k : Nat) : Int))) 1000 0 0 none 0 0 0 _ 0 0 _ _ none 0 0] _ _
  refine cAck x5 st5.spl z32 z32 z32 fun g6 h6 x6 st6 => ⟨_, rfl, ?_⟩
  rw [w1, ack_to rfl (by omega)] at x6
  refine cTickF (v := madeV 3 gone2 prev2 bs2 a2 c2 sA sC prs2) x6 st6.spl (((hv2.sub (st3.gs.tr st4.gs)).sub st5.gs).sub st6.gs) (by show _ ≤ gone2 + bs2.length ∧ gone2 + bs2.length ≤ _; omega) (by show tx.length ≤ _; omega) fun g7 N7 h7 a7 c7 L7 x7 m7 e7 st7 => ⟨_, _, _, rfl, ?_⟩
  have sub17 : h0.Sub h7 := (((((st1.gs.tr st2.gs).tr st3.gs).tr st4.gs).tr st5.gs).tr st6.gs).tr st7.gh
  obtain ⟨gn1, gn2⟩ := next_far (epoch := 3) (a := a2) (c := c2) (pA := sA) (pC := sC) (prs := prs2) hM2 m80 (x := gone + bs.length + k) (y := 1000) (by decide)
  have pr7 : SR EncPr h7 sA prs2 := ro2.pr.sub sub17
  have hg2p := gRow_no hg2
  refine cOf3 (l := prs2) pr7 (by omega) (fun x hx => by have := hg2p.2.2.2 x hx; omega) (fun hok b h8 t8 hbn c8 => ⟨_, _, rfl, fun e => ?_, fun e => ?_⟩) (fun hno e he _ => ⟨_, _, rfl, fun e => wk20 sub17 hk, fun e => ?_⟩)
  · exact wk20 (sub17.tr c8.sub0) hk
  · have e : ¬ (gone + bs.length + k ≥ gone2 + bs2.length) := by
      rw [w1] at e
      simp only [Bool.or_eq_false_iff, decide_eq_false_iff_not] at e
      exact e.1
    have hneed : needV ⟨some (gone + bs.length + k, 1000), sh, tx⟩ (madeV 3 gone2 prev2 bs2 a2 c2 sA sC prs2) (gone + bs.length + k) := by
      rcases hsh with rfl | rfl
      · unfold needV; trivial
      · unfold needV
        refine .inl ⟨by omega, ?_⟩
        show gone + bs.length < gone2 + bs2.length
        omega
    rw [tick_new (s := ⟨some (gone + bs.length + k, 1000), sh, tx⟩) rfl gn2 gn1 hneed hok] at e7
    obtain ⟨f1, f2, rfl, q1, q2⟩ := maps2 e7
    obtain ⟨b1, o1, hA1, hr1⟩ := (m7.sub (st7.spl.sub.tr c8.sub0)).rd (i := 1) (by simp)
    have w4 := hr1 0 1 [.int .u8 4] (by decide) (by simp only [List.getElem_cons_succ, List.getElem_cons_zero]; unfold encMsg; rw [q2]; rfl) (o1 + (1 : Int).toNat * 107) rfl
    have w5 := hr1 2 1 [.int .i64 (gone2 + bs2.length)] (by decide) (by simp only [List.getElem_cons_succ, List.getElem_cons_zero]; unfold encMsg; rw [q2]; rfl) ((o1 + (1 : Int).toNat * 107) + 2) rfl
    have g0 : (((([f1, f2].length : Nat) : Int) == 2)) = true := by simp
    refine ⟨b1, o1, fun _ => ⟨hA1, by decide, by simp⟩, 4, fun _ => w4, b1, o1, fun _ => ⟨hA1, by decide, by simp⟩, gone2 + bs2.length, fun _ => w5, b1, o1, fun _ => ⟨hA1, by decide, by simp⟩, gone2 + bs2.length, fun _ => w5, fun _ => wk20 (sub17.tr c8.sub0) hk, fun e2 => ?_⟩
    exfalso
    rw [w1] at e2
    have hgt : decide (gone2 + (bs2.length : Int) > gone + bs.length + k) = true := decide_eq_true (by omega)
    rw [g0, hgt] at e2
    simp [madeV] at e2
  · rcases he with rfl | rfl <;> simp at e
end TL

namespace TL
open Go Go.Proofs
variable {g h : PH} {N : List Nat} {K : Value → PH → Prop} {sb : Nat} {s : ShS} {v : VwR}
variable {rA eA pA : Option Addr} {rC eC pC : Nat} {rows : List OsR} {eps : List Int} {prs : List PrR} {r0 r1 : Int}

theorem tick_goes {epoch gone prev : Int} {bs : List BtR} {a : Option Addr} {c : Nat} (hM : MadeOf gone prev rows bs) {j : Nat} (hj : j ≤ bs.length) (ha : s.ack = some (gone + j, pe prev bs j)) (hs : s.shot = none) :
    (tickV s (madeV epoch gone prev bs a c pA pC prs)).1 = helloM epoch :: entsV (madeV epoch gone prev bs a c pA pC prs) j ∧ (tickV s (madeV epoch gone prev bs a c pA pC prs)).2 = s := by
  by_cases e : j = bs.length
  · subst e
    rw [tick_place ha ⟨rfl, rfl⟩]
    refine ⟨?_, ?_⟩
    · show [helloM epoch] = _
      unfold entsV
      rw [show (madeV epoch gone prev bs a c pA pC prs).bs.length - bs.length = 0 from Nat.sub_self _]; rfl
    · cases s
      dsimp only at hs
      subst hs; rfl
  · have h1 : ¬ (gone + (j : Int) = (madeV epoch gone prev bs a c pA pC prs).at_ ∧ pe prev bs j = (madeV epoch gone prev bs a c pA pC prs).ae) := fun hh => by
      have : gone + (j : Int) = gone + bs.length := hh.1
      omega
    rw [tick_ents ha h1 (next_some hM hj)]
    exact ⟨rfl, rfl⟩
theorem ents_len {j : Nat} : (entsV v j).length = min 4 (v.bs.length - j) := by simp [entsV]
theorem ents_get {j m : Nat} (hm : m < (entsV v j).length) : (entsV v j)[m] = entM v (j + m) := by simp [entsV]
theorem cHas (x : VwOk h v) {a e : Int} (hk : K (.bool (nextV v a e).isSome) h) : CallH Try.prog id_ship_Has [v.val, .int .i64 a, .int .i64 e] K h :=
  F_ship_Has_ok (cNext x ⟨_, _, rfl, hk⟩)
theorem ShipGoes_den {fr : Int} (ro : RowOk h rA rows eA eps pA prs) (hk : ∀ h', h.Sub h' → K (.bool true) h') : CallH Try.prog id_law20_ShipGoes [rowV r0 r1 rA rows rC eA eps eC pA prs pC, .int .i64 fr] K h := by
  refine F_law20_ShipGoes_ok (cGreat20 ro.rw ro.op ro.pr ⟨_, rfl, fun _ => wk20 (PH.Sub.rf _) hk, fun hg => ?_⟩)
  refine cMadeS (Spl.start h) ro hg fun gone prev bs a c g1 h1 hM hv st1 _ => ⟨_, _, _, _, _, _, _, _, _, _, rfl, ?_⟩
  obtain ⟨n80, _, _, _⟩ := gRow_no hg
  have l1 := hM.len
  have z1 := hM.g0
  have z2 := hM.g1
  show JoinP _ _
  refine ⟨fun st h' => h' = h1 ∧ ∃ k : Nat, st.1 = k ∧ k ≤ bs.length, ⟨fun e => ?_, fun e => ⟨rfl, 0, rfl, Nat.zero_le _⟩⟩, ?_⟩
  · have e : 0 < bs.length := by
      have : (0 : Int) < bs.length := of_decide_eq_true e
      omega
    have w1 : IntKind.wrap .i64 (((madeV 3 gone prev bs a c pA pC prs).bs.length : Int) + 1) = ((bs.length + 1 : Nat) : Int) := by
      show IntKind.wrap .i64 ((bs.length : Int) + 1) = _
      rw [wrap64] <;> omega
    rw [w1]
    have t1 := Int.tmod_lt_of_pos fr (b := ((bs.length + 1 : Nat) : Int)) (by omega)
    have t2 := Int.lt_tmod_of_pos fr (b := ((bs.length + 1 : Nat) : Int)) (by omega)
    refine ⟨by omega, fun e2 => ⟨rfl, (fr.tmod ((bs.length + 1 : Nat) : Int) + ((bs.length + 1 : Nat) : Int)).toNat, ?_, ?_⟩, fun e2 => ⟨rfl, (fr.tmod ((bs.length + 1 : Nat) : Int)).toNat, ?_, ?_⟩⟩
    · have e2 := of_decide_eq_true e2
      show IntKind.wrap .i64 (IntKind.wrap .i64 (fr.tmod ((bs.length + 1 : Nat) : Int) + (bs.length : Int)) + 1) = _
      rw [wrap64 (n := fr.tmod ((bs.length + 1 : Nat) : Int) + (bs.length : Int)) (by omega) (by omega), wrap64 (by omega) (by omega)]
      omega
    · have e2 := of_decide_eq_true e2
      omega
    · have e2 := of_decide_eq_false e2
      show fr.tmod ((bs.length + 1 : Nat) : Int) = _
      omega
    · omega
  rintro ⟨zk, u⟩ h2 ⟨rfl, k, hzk, hkl⟩
  dsimp only at hzk
  subst hzk
  dsimp only
  refine ⟨fun st h' => h' = h2 ∧ st.1 = pe prev bs k, ⟨fun e => ?_, fun e => ?_⟩, ?_⟩
  · have e : 0 < k := by have : (0 : Int) < k := of_decide_eq_true e; omega
    have w1 : IntKind.wrap .i64 (((k : Nat) : Int) - (1 : Int)) = ((k - 1 : Nat) : Int) := by rw [wrap64] <;> omega
    have t1 : ((k - 1 : Nat) : Int).toNat = k - 1 := by omega
    have hk1 : k - 1 < bs.length := by omega
    obtain ⟨b2, o2, hA2, hr2⟩ := (hv.sub st1.spl.sub).bts.get (i := k - 1) hk1
    have hpe := pe_succ prev bs hk1
    rw [show k - 1 + 1 = k by omega] at hpe
    rw [w1, t1]
    exact ⟨b2, o2, ⟨hA2, by omega, by show ((k - 1 : Nat) : Int) < (bs.length : Nat); omega⟩, _, hr2 _ 1 1 rfl (by decide), rfl, hpe.symm⟩
  · have e : k = 0 := by have : ¬ (0 : Int) < k := of_decide_eq_false e; omega
    subst e
    exact ⟨rfl, rfl⟩
  rintro ⟨zp, u⟩ h3 ⟨rfl, hzp⟩
  dsimp only at hzp
  subst hzp
  dsimp only
  refine cShipNew st1.spl fun sb N4 h4 x4 st4 _ => ⟨_, rfl, ?_⟩
  rw [List.append_nil] at st4
  have hdiv : IntKind.wrap .i64 (IntKind.wrap .i64 ((((madeV 3 gone prev bs a c pA pC prs).bs.length : Nat) : Int).tdiv (4 : Int)) + (1 : Int)) = ((bs.length / 4 + 1 : Nat) : Int) := by
    have : (((madeV 3 gone prev bs a c pA pC prs).bs.length : Nat) : Int).tdiv (4 : Int) = ((bs.length / 4 : Nat) : Int) := by
      show ((bs.length : Nat) : Int).tdiv (4 : Int) = _
      rw [Int.tdiv_eq_ediv_of_nonneg (by omega)]; omega
    rw [this, wrap64 (n := ((bs.length / 4 : Nat) : Int)) (by omega) (by omega), wrap64 (by omega) (by omega)]
    omega
  have hstart : IntKind.wrap .i64 (IntKind.wrap .i64 ((madeV 3 gone prev bs a c pA pC prs).at_ - (((madeV 3 gone prev bs a c pA pC prs).bs.length : Nat) : Int)) + ((k : Nat) : Int)) = gone + k := by
    have : (madeV 3 gone prev bs a c pA pC prs).at_ - (((madeV 3 gone prev bs a c pA pC prs).bs.length : Nat) : Int) = gone := by
      show gone + (bs.length : Int) - (bs.length : Nat) = gone
      omega
    rw [this, wrap64 (n := gone) (by omega) (by omega), wrap64 (by omega) (by omega)]
  rw [hdiv, hstart]
  refine LoopP.ind (fun (z : Int × Int × Int × Unit) h' => ∃ (j n : Nat) (s : ShS) (N' : List Nat) (g' : PH), z.1 = gone + j ∧ z.2.1 = pe prev bs j ∧ z.2.2.1 = n ∧ j ≤ bs.length ∧ n ≤ bs.length / 4 + 2 ∧ (j = bs.length ∨ 4 * n ≤ j) ∧ ShipAt g' N' h' sb s ∧ s.shot = none ∧ s.texts = [] ∧ Stp g1 [] h3 g' N' h') (fun z _ => ((bs.length / 4 + 2 : Nat) - z.2.2.1).toNat) ?_
    ⟨k, 0, _, N4, g1, rfl, rfl, rfl, hkl, Nat.zero_le _, .inr (Nat.zero_le _), x4, rfl, rfl, st4⟩
  rintro ⟨za, ze, zn, u⟩ h5 ⟨j, n, s, N5, g5, hza, hze, hzn, hj, hn, hjn, x5, hs5, ht5, st5⟩
  dsimp only at hza hze hzn
  subst hza hze hzn
  dsimp only
  have hvv : (madeV 3 gone prev bs a c pA pC prs).bs = bs := rfl
  refine ⟨fun e => ?_, fun e => ?_⟩
  · have e : n ≤ bs.length / 4 + 1 := by have := of_decide_eq_true e; omega
    have hpj := made_pe hM hj
    refine ⟨fun _ h' => ∃ g' N', ShipAt g' N' h' sb { s with ack := some (gone + j, pe prev bs j) } ∧ Stp g1 [] h3 g' N' h', ?_, ?_⟩
    · refine cHas (v := madeV 3 gone prev bs a c pA pC prs) (hv.sub st5.gh) ⟨_, rfl, fun _ => ?_, fun e2 => ?_⟩
      · refine cAck x5 st5.spl z32 z32 z32 fun g6 h6 x6 st6 => ⟨_, rfl, fun e2 => ?_, fun _ => ?_⟩
        · rw [ack_to rfl (by omega)] at e2; cases e2
        · rw [ack_to rfl (by omega)] at x6
          exact ⟨g6, N5, x6, st5.trans st6⟩
      · rw [next_some hM hj] at e2; cases e2
    rintro _ h6 ⟨g6, N6, x6, st6⟩
    refine cTickF (v := madeV 3 gone prev bs a c pA pC prs) x6 st6.spl (hv.sub st6.gs) (by show _ ≤ gone + bs.length ∧ gone + bs.length ≤ _; omega) (by show s.texts.length ≤ _; rw [ht5]; decide) fun g7 N7 h7 a7 c7 L x7 m7 e7 st7 => ⟨_, _, _, rfl, ?_⟩
    obtain ⟨tk1, tk2⟩ := tick_goes (s := { s with ack := some (gone + j, pe prev bs j) }) (epoch := 3) (a := a) (c := c) (pA := pA) (pC := pC) (prs := prs) hM hj rfl hs5
    rw [tk1] at e7
    rw [tk2] at x7
    have hlen : L.length = 1 + min 4 (bs.length - j) := by
      have := congrArg List.length e7
      rw [List.length_map, List.length_cons, ents_len, hvv] at this
      omega
    have hm : ∀ i, (hi : i < L.length) → L[i].m = (helloM 3 :: entsV (madeV 3 gone prev bs a c pA pC prs) j)[i]'(by rw [← e7, List.length_map]; exact hi) := fun i hi => by
      have h5 : (L.map (·.m))[i]'(by rw [List.length_map]; exact hi) = (helloM 3 :: entsV (madeV 3 gone prev bs a c pA pC prs) j)[i]'(by rw [← e7, List.length_map]; exact hi) := by simp only [e7]
      rw [← h5, List.getElem_map]
    have m7' := m7.sub st7.spl.sub
    have h0 : 0 < L.length := by omega
    obtain ⟨b0, o0, hA0, hr0⟩ := m7'.rd h0
    have w0 := hr0 0 1 [.int .u8 1] (by decide) (by unfold encMsg; rw [hm 0 h0]; rfl) (o0 + (0 : Int).toNat * 107) rfl
    refine ⟨b0, o0, fun _ => ⟨hA0, by decide, by omega⟩, 1, fun _ => w0, fun e2 => ?_, fun _ => ?_⟩
    · exfalso
      simp only [Bool.or_eq_true, decide_eq_true_eq, beq_iff_eq, bne_self_eq_false, Bool.false_eq_true, or_false] at e2
      omega
    have stA := st6.trans st7
    refine LoopP.ind (fun (z : Int × Int × Int × Unit) h' => ∃ m : Nat, z.1 = gone + ((j + m : Nat) : Int) ∧ z.2.1 = pe prev bs (j + m) ∧ z.2.2.1 = ((m + 1 : Nat) : Int) ∧ m + 1 ≤ L.length ∧ h' = h7) (fun z _ => (L.length - z.2.2.1).toNat) ?_ ⟨0, rfl, rfl, rfl, by omega, rfl⟩
    rintro ⟨ya, ye, yi, u⟩ h8 ⟨m, hya, hye, hyi, hmL, rfl⟩
    dsimp only at hya hye hyi
    subst hya hye hyi
    dsimp only
    refine ⟨fun e2 => ?_, fun e2 => ?_⟩
    · have e2 : m + 1 < L.length := by have := of_decide_eq_true e2; omega
      have hit : ((m + 1 : Nat) : Int).toNat = m + 1 := by omega
      have hjm : j + m < bs.length := by omega
      obtain ⟨b1, o1, hA1, hr1⟩ := m7'.rd e2
      have hmm : L[m + 1].m = entM (madeV 3 gone prev bs a c pA pC prs) (j + m) := by
        rw [hm (m + 1) e2, List.getElem_cons_succ, ents_get]
      have hent : entM (madeV 3 gone prev bs a c pA pC prs) (j + m) = { msg0 with kd := 2, ep := 3, ix := bs[j + m].ix, be := bs[j + m].ep, ops := bs[j + m].ops, prev := pe prev bs (j + m) } := by
        unfold entM
        rw [hvv, List.getElem?_eq_getElem hjm]; rfl
      obtain ⟨_, hix, _⟩ := hM.bts (j + m) hjm
      have r0 := hr1 0 1 [.int .u8 2] (by decide) (by unfold encMsg; rw [hmm, hent]; rfl) (o1 + (m + 1) * 107) rfl
      have r1 := hr1 1 1 [.int .i64 3] (by decide) (by unfold encMsg; rw [hmm, hent]; rfl) ((o1 + (m + 1) * 107) + 1) rfl
      have r7 := hr1 7 1 [.int .i64 (pe prev bs (j + m))] (by decide) (by unfold encMsg; rw [hmm, hent]; rfl) ((o1 + (m + 1) * 107) + 7) rfl
      have r4 := hr1 4 1 [.int .i64 bs[j + m].ix] (by decide) (by unfold encMsg; rw [hmm, hent]; rfl) ((o1 + (m + 1) * 107) + 4) rfl
      have r5 := hr1 5 1 [.int .i64 bs[j + m].ep] (by decide) (by unfold encMsg; rw [hmm, hent]; rfl) (((o1 + (m + 1) * 107) + 4) + 1) rfl
      have hw : IntKind.wrap .i64 (gone + ((j + m : Nat) : Int) + (1 : Int)) = bs[j + m].ix := by rw [hix, wrap64] <;> omega
      have hwi : IntKind.wrap .i64 (((m + 1 : Nat) : Int) + (1 : Int)) = ((m + 1 + 1 : Nat) : Int) := by rw [wrap64] <;> omega
      rw [hit, hw, hwi]
      refine ⟨b1, o1, ⟨hA1, by omega, by omega⟩, 2, r0, b1, o1, fun _ => ⟨hA1, by omega, by omega⟩, 3, fun _ => r1, b1, o1, fun _ => ⟨hA1, by omega, by omega⟩, _, fun _ => r7, b1, o1, fun _ => ⟨hA1, by omega, by omega⟩, _, fun _ => r4, fun e3 => by simp at e3, fun _ => ⟨b1, o1, ⟨hA1, by omega, by omega⟩, _, r4, b1, o1, ⟨hA1, by omega, by omega⟩, _, r5, ⟨m + 1, ?_, ?_, rfl, by omega, rfl⟩, by omega⟩⟩
      · show bs[j + m].ix = _
        rw [hix]; omega
      · show bs[j + m].ep = _
        rw [show j + (m + 1) = j + m + 1 by omega, pe_succ prev bs hjm]
    · have e2 : m + 1 = L.length := by have := of_decide_eq_false e2; omega
      have hwn : IntKind.wrap .i64 (((n : Nat) : Int) + (1 : Int)) = ((n + 1 : Nat) : Int) := by rw [wrap64] <;> omega
      rw [hwn]
      exact ⟨⟨j + m, n + 1, _, N7, g7, rfl, rfl, rfl, by omega, by omega, by omega, x7, hs5, ht5, stA⟩, by omega⟩
  · have e : n = bs.length / 4 + 2 := by have := of_decide_eq_false e; omega
    have hjl : j = bs.length := by omega
    subst hjl
    refine cCopy x5 st5.spl (fun _ => ⟨_, Z32, z32, _, rfl, fun _ => wk20 (st1.gs.tr st5.gh) hk, fun e2 => ?_⟩) fun x y S e2 => by rw [hs5] at e2; cases e2
    exfalso
    have : ((gone + (bs.length : Int) == (madeV 3 gone prev bs a c pA pC prs).at_) && (pe prev bs bs.length == (madeV 3 gone prev bs a c pA pC prs).ae) && !false) = true := by
      show ((gone + (bs.length : Int) == gone + (bs.length : Int)) && (pe prev bs bs.length == pe prev bs bs.length) && !false) = true
      simp
    rw [this] at e2; cases e2
end TL

namespace TL
open Go Go.Proofs
variable {g h : PH} {N : List Nat} {K : Value → PH → Prop} {sb ub : Nat} {s : ShS} {v : VwR}
variable {rA eA pA lA : Option Addr} {rC eC pC lC : Nat} {rows : List OsR} {eps : List Int} {prs : List PrR} {r0 r1 : Int}

theorem and255 (n : Int) : 0 ≤ bitsV .and .i64 n (255 : Int) ∧ bitsV .and .i64 n (255 : Int) ≤ 255 := by
  show 0 ≤ IntKind.wrap .i64 (((BitVec.ofInt 64 n &&& BitVec.ofInt 64 255).toNat : Nat) : Int) ∧ IntKind.wrap .i64 (((BitVec.ofInt 64 n &&& BitVec.ofInt 64 255).toNat : Nat) : Int) ≤ 255
  have h1 : (BitVec.ofInt 64 n &&& BitVec.ofInt 64 255).toNat ≤ 255 := by
    rw [BitVec.toNat_and]
    exact Nat.le_trans Nat.and_le_right (by decide)
  rw [wrap64 (by omega) (by omega)]
  omega
/-- an act on a ship -/
structure AcR where
  d : Int
  x1 : Int
  x2 : Int
  x3 : Int
  x4 : Int
  x5 : Int
def EncAc : Enc AcR where
  enc r := [.int .u8 r.d, .int .i64 r.x1, .int .i64 r.x2, .int .i64 r.x3, .int .i64 r.x4, .int .i64 r.x5]
  k := 6
  len _ := rfl
  one o v hv := by
    simp only [List.mem_cons, List.not_mem_nil, or_false] at hv
    rcases hv with rfl | rfl | rfl | rfl | rfl | rfl <;> rfl
  pos := by decide
theorem tick_texts (s : ShS) (v : VwR) : (tickV s v).2.texts.length ≤ s.texts.length + 31 := by
  unfold tickV
  split
  · exact Nat.le_add_right _ _
  · split
    · exact Nat.le_add_right _ _
    · split
      · exact Nat.le_add_right _ _
      · split
        · split
          · dsimp only; rw [List.length_append, texts_len]; omega
          · exact Nat.le_add_right _ _
        · split <;> exact Nat.le_add_right _ _
section
variable {m0 m1 m2 m3 m4 m5 m7 m9 m10 ep : Int} {m6A m13A : Option Addr} {m6N m6C m13N m13C : Nat} {m8 m11 m12 : List Int}
theorem cAskAny (x : ShipAt g N h sb s) (sp : Spl g N h) (h8 : m8.length = 32) (h11 : m11.length = 32) (h12 : m12.length = 32)
    (hk : ∀ k0 k1 k2 k3 k4 k5 k6A k6N k6C k7 k8 k9 k10 k11 k12 k13A k13N k13C b h', k8.length = 32 → k11.length = 32 → k12.length = 32 → h.Sub h' → K (.tuple #[mV k0 k1 k2 k3 k4 k5 k6A k6N k6C k7 k8 k9 k10 k11 k12 k13A k13N k13C, .bool b]) h') :
    CallH Try.prog id_ship_Ship_Ask [.pointer (some ⟨sb, 0, none⟩), mV m0 m1 m2 m3 m4 m5 m6A m6N m6C m7 m8 m9 m10 m11 m12 m13A m13N m13C, .int .i64 ep] K h :=
  cAsk x sp h8 h11 h12 (fun _ => hk _ _ _ _ _ _ _ _ _ _ _ _ _ _ _ _ _ _ _ _ z32 z32 z32 (PH.Sub.rf _)) (fun _ _ _ _ _ _ _ _ _ _ _ _ _ _ _ hc => hk _ _ _ _ _ _ _ _ _ _ _ _ _ _ _ _ _ _ _ _ z32 z32 z32 hc.sub0)
    (fun _ _ _ _ _ _ _ _ _ _ _ _ => hk _ _ _ _ _ _ _ _ _ _ _ _ _ _ _ _ _ _ _ _ z32 (by rw [bi_len, nd_len]) (by rw [bi_len, nd_len]) (PH.Sub.rf _))
end
theorem cForget (x : ShipAt g N h sb s) (sp : Spl g N h) (hk : ∀ h', ShipAt g N h' sb { s with ack := none, shot := none } → Stp g N h g N h' → K (.tuple #[]) h') : CallH Try.prog id_ship_Ship_Forget [.pointer (some ⟨sb, 0, none⟩)] K h := by
  obtain ⟨⟨pa, ps, tA, tN, tC, Bt, rfl, nB, hb, hbuf, ha, hsh⟩, hr⟩ := x
  refine F_ship_Ship_Forget_ok ⟨fun _ => ⟨sb, 0, rfl, stL hb rfl rfl fun h1 hb1 c1 => ⟨sb, 0, rfl, stL hb1 rfl rfl fun h2 hb2 c2 => ?_⟩⟩, fun e => by simp at e⟩
  have c := c1.trans c2
  have kB : ∀ {q : Nat}, q ∈ Bt → q ∉ [sb] := fun {q} hq hm => notIn1 nB q hq hm
  refine hk h2 ⟨⟨none, none, tA, tN, tC, Bt, rfl, nB, hb2, hbuf.chg c fun q hq => kB hq, rfl, rfl⟩, fun _ _ _ e => by cases e⟩ (sp.chg (c.head (B := Bt)) fun q hq => ?_)
  rcases List.mem_cons.1 hq with rfl | hq
  · exact ⟨_, hb2⟩
  · obtain ⟨o, ho⟩ := hbuf.has q hq
    exact ⟨o, c.keep ho (kB hq)⟩
theorem cShipNew2 (sp : Spl g N h) (hk : ∀ sb N' h', ShipAt g N' h' sb ⟨none, none, []⟩ → Stp g N h g (N' ++ N) h' → Dj N' N → h.Sub h' → K (.pointer (some ⟨sb, 0, none⟩)) h') : CallH Try.prog id_ship_New [] K h :=
  F_ship_New_ok (nwL fun b h1 _ hb1 c1 => hk b [b] h1 ⟨⟨none, none, none, 0, 0, [], rfl, by simp, hb1, Buf.nil _ _ _ _, rfl, rfl⟩, fun _ _ _ e => by cases e⟩ (sp.own c1 (has1 hb1)) (Dj.new sp.has c1) c1.sub0)
theorem tick_nak {x : List (List UInt8)} : tickV ⟨none, none, x⟩ v = ([helloM v.ep], ⟨none, none, x⟩) := rfl
/-- two ships alike -/
def Two (g1 : PH) (h1 : PH) (sb ub : Nat) (g : PH) (h : PH) (st : ShS) (n : Nat) : Prop := ∃ Ns Nu, ShipAt g Ns h sb st ∧ ShipAt g Nu h ub st ∧ Dj Ns Nu ∧ Stp g1 [] h1 g (Ns ++ Nu) h ∧ st.texts.length ≤ 31 * n
theorem ShipQuiet_den {l : List AcR} {kind at_ : Int} (ro : RowOk h rA rows eA eps pA prs) (hl : SR EncAc h lA l) (hk : ∀ h', h.Sub h' → K (.bool true) h') :
    CallH Try.prog id_law20_ShipQuiet [rowV r0 r1 rA rows rC eA eps eC pA prs pC, .slice lA l.length lC, .int .u8 kind, .int .i64 at_] K h := by
  refine F_law20_ShipQuiet_ok (cGreat20 ro.rw ro.op ro.pr ⟨_, rfl, fun _ => wk20 (PH.Sub.rf _) hk, fun hg => ?_⟩)
  simp only [Bool.or_eq_false_iff, decide_eq_false_iff_not] at hg
  obtain ⟨hg, h150⟩ := hg
  refine cMadeS (Spl.start h) ro hg fun gone prev bs a c g1 h1 hM hv st1 _ => ⟨_, _, _, _, _, _, _, _, _, _, rfl, ?_⟩
  have l1 := hM.len
  have z1 := hM.g0
  have z2 := hM.g1
  obtain ⟨n80, _, _, _⟩ := gRow_no hg
  have hat : -9223372036854775808 ≤ (madeV 3 gone prev bs a c pA pC prs).at_ ∧ (madeV 3 gone prev bs a c pA pC prs).at_ ≤ 9223372036854775807 := by
    show _ ≤ gone + bs.length ∧ gone + bs.length ≤ _
    omega
  refine cShipNew2 st1.spl fun sb N2 h2 x2 st2 _ _ => ⟨_, rfl, cShipNew2 st2.spl fun ub N3 h3 y3 st3 d3 s3 => ⟨_, rfl, ?_⟩⟩
  rw [List.append_nil] at st2 st3 d3
  have x3 : ShipAt g1 N2 h3 sb ⟨none, none, []⟩ := x2.keep (PH.Sub.rf _) fun b hb o e => s3 b o e
  have st13 : Stp g1 [] h1 g1 (N2 ++ N3) h3 := (st2.trans st3).less fun b hb => by
    simp only [List.mem_append] at hb ⊢
    exact hb.symm
  refine LoopP.ind (fun (z : Int × Unit) h' => ∃ (i : Nat) (st : ShS) (g' : PH), z.1 = i ∧ i ≤ l.length ∧ Two g1 h1 sb ub g' h' st i) (fun z _ => (l.length - z.1).toNat) ?_ ⟨0, _, g1, rfl, Nat.zero_le _, N2, N3, x3, y3, d3.symm, st13, Nat.zero_le _⟩
  rintro ⟨zi, u⟩ h4 ⟨i, s, g4, hzi, hi, Ns, Nu, xs, xu, dj, st4, htx⟩
  dsimp only at hzi
  subst hzi
  dsimp only
  have sp4 := st4.spl
  have s04 : h.Sub h4 := st1.gs.tr st4.gh
  have hv4 : VwOk g4 (madeV 3 gone prev bs a c pA pC prs) := hv.sub st4.gs
  refine ⟨fun e => ?_, fun e => ?_⟩
  · have e : i < l.length := by simpa using e
    have hit : ((i : Nat) : Int).toNat = i := by omega
    have hw : IntKind.wrap .i64 (((i : Nat) : Int) + (1 : Int)) = ((i + 1 : Nat) : Int) := by rw [wrap64] <;> omega
    have next : ∀ h' g' st', Two g1 h1 sb ub g' h' st' (i + 1) → (∃ (i1 : Nat) (st : ShS) (g' : PH), ((i + 1 : Nat) : Int) = i1 ∧ i1 ≤ l.length ∧ Two g1 h1 sb ub g' h' st i1) ∧ ((l.length : Int) - ((i + 1 : Nat) : Int)).toNat < ((l.length : Int) - ((i : Nat) : Int)).toNat := fun h' g' st' ht => ⟨⟨i + 1, st', g', rfl, by omega, ht⟩, by omega⟩
    have hrd : ∀ {h' : PH}, h.Sub h' → ∃ b o, lA = some ⟨b, o, none⟩ ∧ ∀ f m, f + m ≤ 6 → h'.rds b ((o + i * 6) + f) m = some (((EncAc.enc l[i]).drop f).take m) := fun hs => by
      obtain ⟨b, o, hA, hr⟩ := (hl.sub hs).get e
      exact ⟨b, o, hA, fun f m hf => hr _ f m rfl hf⟩
    obtain ⟨b4, o4, hA4, hr4⟩ := hrd s04
    rw [hit, hw]
    refine ⟨b4, o4, ⟨hA4, by omega, by omega⟩, l[i].d, hr4 0 1 (by decide), fun _ => ?_, fun _ => ⟨fun _ => ?_, fun _ => ?_⟩⟩
    · refine ⟨b4, o4, ⟨hA4, by omega, by omega⟩, l[i].x1, hr4 1 1 (by decide), b4, o4, ⟨hA4, by omega, by omega⟩, l[i].x2, hr4 2 1 (by decide), ?_⟩
      refine cAck xs sp4.left z32 z32 z32 fun g5 h5 x5 st5 => ⟨_, rfl, ?_⟩
      obtain ⟨sf5, d5⟩ := st5.frame sp4 dj.symm
      have xu5 := xu.stp st5 dj.symm
      refine cAck xu5 sf5.spl.right z32 z32 z32 fun g6 h6 y6 st6 => ⟨_, rfl, fun e2 => by simp at e2, fun _ => next _ g6 (ackV s 3 l[i].x1 l[i].x2).2 ?_⟩
      obtain ⟨sf6, d6⟩ := st6.frameR sf5.spl d5.symm
      refine ⟨Ns, Nu, x5.stp st6 d5.symm, y6, d5.symm, st4.trans (sf5.trans sf6), ?_⟩
      have : (ackV s 3 l[i].x1 l[i].x2).2.texts = s.texts := by unfold ackV; split <;> rfl
      rw [this]; omega
    · refine cTickF (v := madeV 3 gone prev bs a c pA pC prs) xs sp4.left hv4 hat (by omega) fun g5 N5 h5 a5 c5 L5 x5 m5 e5 st5 => ⟨_, _, _, rfl, ?_⟩
      obtain ⟨sf5, d5⟩ := st5.frame sp4 dj.symm
      have xu5 := xu.stp st5 dj.symm
      refine cTickF (v := madeV 3 gone prev bs a c pA pC prs) xu5 sf5.spl.right (hv4.sub st5.gs) hat (by omega) fun g6 N6 h6 a6 c6 L6 y6 m6 e6 st6 => ⟨_, _, _, rfl, ?_⟩
      obtain ⟨sf6, d6⟩ := st6.frameR sf5.spl d5.symm
      have hL5 : L5.length ≤ 1000000 := by
        have h1 := congrArg List.length e5
        rw [List.length_map] at h1
        rw [h1]
        unfold tickV
        split
        · simp
        · split
          · simp
          · split
            · unfold entsV; simp; omega
            · split
              · split <;> simp
              · split <;> simp
      refine cSameAll ((m5.sub st6.gs).sub st6.spl.sub) (m6.sub st6.spl.sub) hL5 ⟨_, rfl, fun e2 => ?_, fun _ => next _ g6 _ ⟨N5, N6, x5.stp st6 d5.symm, y6, d6, st4.trans (sf5.trans sf6), ?_⟩⟩
      · rw [e5, e6] at e2; simp at e2
      · have := tick_texts s (madeV 3 gone prev bs a c pA pC prs)
        omega
    · refine ⟨b4, o4, ⟨hA4, by omega, by omega⟩, l[i].x1, hr4 1 1 (by decide), b4, o4, ⟨hA4, by omega, by omega⟩, l[i].x3, hr4 3 1 (by decide), b4, o4, ⟨hA4, by omega, by omega⟩, l[i].x4, hr4 4 1 (by decide), ?_⟩
      refine cAskAny xu sp4.right z32 z32 z32 fun k0 k1 k2 k3 k4 k5 k6A k6N k6C k7 k8 k9 k10 k11 k12 k13A k13N k13C bb h5 q8 q11 q12 s5 => ⟨k0, k1, k2, k3, k4, k5, k6A, k6N, k6C, k7, k8, q8, k9, k10, k11, q11, k12, q12, k13A, k13N, k13C, bb, rfl, ?_⟩
      have st5 := sp4.grow s5
      have xs5 : ShipAt g4 Ns h5 sb s := xs.keep (PH.Sub.rf _) fun q _ o e => s5 q o e
      have xu5 : ShipAt g4 Nu h5 ub s := xu.keep (PH.Sub.rf _) fun q _ o e => s5 q o e
      -- an ack below nought
      have neg : ∀ {g' h' : PH}, ShipAt g' Ns h' sb s → ShipAt g' Nu h' ub s → Stp g1 [] h1 g' (Ns ++ Nu) h' → ∀ {m1 m3 : Int},
          CallH Try.prog id_ship_Ship_Ack [.pointer (some ⟨ub, 0, none⟩), mV 3 m1 (IntKind.wrap .i64 ((-1 : Int) - (bitsV .and .i64 l[i].x4 (255 : Int)))) m3 0 0 none 0 0 0 (List.replicate 32 0) 0 0 (List.replicate 32 0) (List.replicate 32 0) none 0 0]
            (fun v h'' => v = .bool false ∧ ∃ g'', Two g1 h1 sb ub g'' h'' s (i + 1)) h' := fun {g' h'} xs' xu' st' {m1 m3} => by
        have hneg : ackV s 3 (IntKind.wrap .i64 ((-1 : Int) - (bitsV .and .i64 l[i].x4 (255 : Int)))) m3 = (false, s) := by
          have := and255 l[i].x4
          unfold ackV
          rw [wrap64 (by omega) (by omega), if_pos (.inr (by omega))]
        refine cAck xu' st'.spl.right z32 z32 z32 fun g6 h6 y6 st6 => ?_
        rw [hneg] at y6 ⊢
        obtain ⟨sf6, d6⟩ := st6.frameR st'.spl dj
        exact ⟨rfl, g6, Ns, Nu, xs'.stp st6 dj, y6, dj, st'.trans sf6, by omega⟩
      refine ⟨fun ek => ?_, fun ek => ?_⟩
      · have ek : kind ≠ 3 := by simpa using ek
        refine cAck xu5 st5.spl.right z32 z32 z32 fun g6 h6 y6 st6 => ⟨_, rfl, ?_⟩
        have hno : ackV s kind at_ 0 = (false, s) := by unfold ackV; rw [if_pos (.inl ek)]
        rw [hno] at y6 ⊢
        obtain ⟨sf6, d6⟩ := st6.frameR st5.spl dj
        have stA := st4.trans (st5.trans sf6)
        obtain ⟨b6, o6, hA6, hr6⟩ := hrd (st1.gs.tr stA.gh)
        refine ⟨b6, o6, fun _ => ⟨hA6, by omega, by omega⟩, l[i].x4, fun _ => hr6 4 1 (by decide), fun _ => (neg (xs5.stp st6 dj) y6 stA).mono fun v' h' => ?_, fun e2 => by cases e2⟩
        rintro ⟨rfl, g'', ht⟩
        exact ⟨_, rfl, fun e2 => (by cases e2), fun _ => next _ g'' _ ht⟩
      · obtain ⟨b6, o6, hA6, hr6⟩ := hrd (s04.tr s5)
        refine ⟨b6, o6, ⟨hA6, by omega, by omega⟩, l[i].x4, hr6 4 1 (by decide), (neg xs5 xu5 (st4.trans st5)).mono fun v' h' => ?_⟩
        rintro ⟨rfl, g'', ht⟩
        exact ⟨_, rfl, fun e2 => (by cases e2), fun _ => next _ g'' _ ht⟩
  · refine cForget xs sp4.left fun h5 x5 st5 => ?_
    refine cTickF (v := madeV 3 gone prev bs a c pA pC prs) x5 st5.spl hv4 hat (by show s.texts.length ≤ _; omega) fun g6 N6 h6 a6 c6 L6 x6 m6 e6 st6 => ⟨_, _, _, rfl, ?_⟩
    refine cShipNew2 (Spl.start h6) fun wb N7 h7 x7 st7 _ s7 => ⟨_, rfl, ?_⟩
    rw [List.append_nil] at st7
    have s06 : g1.Sub h6 := st4.gs.tr (st5.gs.tr st6.gh)
    refine cTickF (v := madeV 3 gone prev bs a c pA pC prs) x7 st7.spl (hv.sub s06) hat (by decide) fun g8 N8 h8 a8 c8 L8 x8 m8 e8 st8 => ⟨_, _, _, rfl, ?_⟩
    rw [tick_nak] at e6 e8
    obtain ⟨f1, rfl, q1⟩ := maps1 e6
    obtain ⟨f2, rfl, q2⟩ := maps1 e8
    refine cSameAll (((m6.sub st6.spl.sub).sub st8.gs).sub st8.spl.sub) (m8.sub st8.spl.sub) (by simp) ⟨_, rfl, fun _ => wk20 (st1.gs.tr (s06.tr st8.gh)) hk, fun e2 => ?_⟩
    rw [List.map_cons, List.map_cons, q1, q2] at e2
    simp at e2
end TL

namespace TL
open Go Go.Proofs
section
variable {B : List Nat} {h : PH} {K : Value → PH → Prop} {oA : Option Addr} {oC : Nat} {ops : List OpR} {pA : Option Addr} {pC : Nat} {prs : List PrR}
variable {rA eA : Option Addr} {rC eN eC : Nat} {rows : List OsR} {i0 i1 : Int} {pN : Nat} {eps : List Int}
def goneF (r0 : Int) : Int := if r0.tmod 100 < 0 then -(r0.tmod 100) else r0.tmod 100
def qF (r1 : Int) : Int := if r1.tmod 5 < 1 then 1 else r1.tmod 5
def oneF (l : Int) : Int := if l < 1 then 1 else l
def nextE (eps : List Int) (l : Int) (i : Nat) : Int := match eps[i]? with
  | some x => if 0 < x then oneF l + x.tmod 2 else oneF l
  | none => oneF l
def epF (prev : Int) (eps : List Int) : Nat → Int
  | 0 => prev
  | i + 1 => nextE eps (epF prev eps i) i
structure MadeIs (r0 r1 : Int) (eps : List Int) (gone prev : Int) (bs : List BtR) : Prop where
  g : gone = goneF r0
  p : prev = if goneF r0 = 0 then 0 else qF r1
  e : ∀ j, j ≤ bs.length → pe prev bs j = epF prev eps j
theorem cMade2 {r0 r1 epoch : Int} (hr : SR EncOs h rA rows) (he : SR EncI h eA eps) (hn : rows.length ≤ 80)
    (hk : ∀ gone prev bs a' c' B' h', MadeOf gone prev rows bs → MadeIs r0 r1 eps gone prev bs → Buf EncBt T_api_Batch B' h' a' rows.length c' bs → Chg [] B' h h' →
      K (.agg #[.int .i64 epoch, .int .i64 (gone + rows.length), .int .i64 (pe prev bs rows.length), .slice a' rows.length c', .int .i64 prev, .slice pA pN pC]) h') :
    CallH Try.prog id_law20_Made [.agg #[.int .i64 r0, .int .i64 r1, .slice rA rows.length rC, .slice eA eps.length eC, .slice pA pN pC], .int .i64 epoch] K h := by
  have t1 := Int.tmod_lt_of_pos r0 (b := 100) (by decide)
  have t2 := Int.lt_tmod_of_pos r0 (b := 100) (by decide)
  have t3 := Int.tmod_lt_of_pos r1 (b := 5) (by decide)
  have t4 := Int.lt_tmod_of_pos r1 (b := 5) (by decide)
  refine F_law20_Made_ok ⟨fun st h' => h' = h ∧ 0 ≤ st.1 ∧ st.1 < 100 ∧ st.1 = goneF r0, ⟨fun e => ?_, fun e => ?_⟩, ?_⟩
  · have e : r0.tmod 100 < 0 := by simpa using e
    rw [wrap64 (by omega) (by omega)]
    exact ⟨rfl, by dsimp only; omega, by dsimp only; omega, by unfold goneF; rw [if_pos e]; dsimp only; omega⟩
  · have e : ¬ r0.tmod 100 < 0 := by simpa using e
    exact ⟨rfl, by dsimp only; omega, by dsimp only; omega, by unfold goneF; rw [if_neg e]⟩
  rintro ⟨gone, u⟩ h1 ⟨rfl, g0, g1, g2⟩
  dsimp only at g0 g1 g2 ⊢
  refine ⟨fun st h' => h' = h1 ∧ 1 ≤ st.1 ∧ st.1 < 5 ∧ st.1 = qF r1, ⟨fun e => ?_, fun e => ?_⟩, ?_⟩
  · have e : r1.tmod 5 < 1 := by simpa using e
    exact ⟨rfl, by decide, by decide, by unfold qF; rw [if_pos e]⟩
  · have e : ¬ r1.tmod 5 < 1 := by simpa using e
    exact ⟨rfl, by dsimp only; omega, by dsimp only; omega, by unfold qF; rw [if_neg e]⟩
  rintro ⟨q, u⟩ h2 ⟨rfl, q0, q1, q2⟩
  dsimp only at q0 q1 q2 ⊢
  refine ⟨fun st h' => h' = h2 ∧ 0 ≤ st.1 ∧ st.1 < 5 ∧ (gone = 0 ↔ st.1 = 0) ∧ st.1 = (if gone = 0 then 0 else qF r1), ⟨fun e => ?_, fun e => ?_⟩, ?_⟩
  · have e : gone = 0 := by simpa using e
    exact ⟨rfl, by decide, by decide, by simp [e], by rw [if_pos e]⟩
  · have e : ¬ gone = 0 := by simpa using e
    exact ⟨rfl, by dsimp only; omega, by dsimp only; omega, by dsimp only; omega, by rw [if_neg e]; exact q2⟩
  rintro ⟨prev, u⟩ h3 ⟨rfl, p0, p1, pg, p2⟩
  dsimp only at p0 p1 pg p2 ⊢
  refine LoopP.ind (fun z h' => ∃ (i : Nat) (bA : Option Addr) (bN bC : Nat) (bs : List BtR) (B' : List Nat), z = (pe prev bs bs.length, (i : Int), epoch, gone + i, pe prev bs bs.length, (bA, bN, bC), prev, (pA, pN, pC), ()) ∧ bs.length = i ∧ i ≤ rows.length ∧
    Buf EncBt T_api_Batch B' h' bA bN bC bs ∧ Chg [] B' h3 h' ∧ BtsOf gone prev rows bs ∧ 0 ≤ pe prev bs bs.length ∧ pe prev bs bs.length ≤ 4 + i ∧ ∀ j, j ≤ bs.length → pe prev bs j = epF prev eps j) (fun z _ => (rows.length - z.2.1).toNat) ?_
    ⟨0, none, 0, 0, [], [], by simp [pe], rfl, Nat.zero_le _, Buf.nil _ _ _ _, Chg.refl _ _, fun i hi => by simp at hi, p0, by show prev ≤ _; omega, fun j hj => (by
      have hj0 : j = 0 := Nat.le_zero.1 hj
      rw [hj0]; rfl)⟩
  rintro _ h4 ⟨i, bA, bN, bC, bs, B', rfl, hlen, hi, hb, hc, hbt, l0, l1, hep⟩
  dsimp only
  have hbn := hb.1
  refine ⟨fun e => ?_, fun e => ?_⟩
  · have e : i < rows.length := by simp at e; omega
    refine ⟨fun st h' => h' = h4 ∧ 1 ≤ st.1 ∧ st.1 ≤ 4 + i ∧ pe prev bs bs.length ≤ st.1 ∧ st.1 = oneF (pe prev bs bs.length), ⟨fun e => ?_, fun e => ?_⟩, ?_⟩
    · have e : pe prev bs bs.length < 1 := by simpa using e
      exact ⟨rfl, by decide, by dsimp only; omega, by dsimp only; omega, by unfold oneF; rw [if_pos e]⟩
    · have e : ¬ pe prev bs bs.length < 1 := by simpa using e
      exact ⟨rfl, by dsimp only; omega, by dsimp only; omega, Int.le_refl _, by unfold oneF; rw [if_neg e]⟩
    rintro ⟨l, u⟩ h5 ⟨rfl, m0, m1, m2, m3⟩
    dsimp only at m0 m1 m2 m3 ⊢
    refine ⟨fun st h' => h' = h5 ∧ 1 ≤ st.1 ∧ st.1 ≤ 5 + i ∧ pe prev bs bs.length ≤ st.1 ∧ st.1 = nextE eps (pe prev bs bs.length) i, ?_, ?_⟩
    · have done : oneF (pe prev bs bs.length) = nextE eps (pe prev bs bs.length) i → (fun (st : Int × Unit) h' => h' = h5 ∧ 1 ≤ st.1 ∧ st.1 ≤ 5 + i ∧ pe prev bs bs.length ≤ st.1 ∧ st.1 = nextE eps (pe prev bs bs.length) i) (l, ()) h5 := fun hh => ⟨rfl, m0, by dsimp only; omega, m2, m3.trans hh⟩
      by_cases hie : i < eps.length
      · obtain ⟨b, o, hA, hrd⟩ := (he.sub hc.sub0).get hie
        refine ⟨b, o, fun _ => ⟨hA, by omega, by omega⟩, eps[i], fun _ => hrd _ 0 1 (by simp [EncI]) (by decide), fun e2 => ?_, fun e2 => done (by
          have e2 : ¬ 0 < eps[i] := by simp at e2; omega
          unfold nextE; rw [List.getElem?_eq_getElem hie]; dsimp only; rw [if_neg e2])⟩
        refine ⟨b, o, ⟨hA, by omega, by omega⟩, eps[i], hrd _ 0 1 (by simp [EncI]) (by decide), ?_⟩
        have e2 : 0 < eps[i] := by simp at e2; omega
        have t5 := Int.tmod_lt_of_pos eps[i] (b := 2) (by decide)
        have t6 := Int.tmod_nonneg 2 (a := eps[i]) (by omega)
        rw [wrap64 (by omega) (by omega)]
        exact ⟨rfl, by dsimp only; omega, by dsimp only; omega, by dsimp only; omega, by unfold nextE; rw [List.getElem?_eq_getElem hie]; dsimp only; rw [if_pos e2, m3]⟩
      · refine ⟨0, 0, fun e => by simp at e <;> omega, 0, fun e => by simp at e <;> omega, fun e => by simp at e <;> omega, fun _ => done (by unfold nextE; rw [List.getElem?_eq_none (by omega)])⟩
    rintro ⟨l2, u⟩ h6 ⟨rfl, n0, n1, n2, n3⟩
    dsimp only at n0 n1 n2 n3 ⊢
    obtain ⟨b, o, hA, hrd⟩ := (hr.sub hc.sub0).get e
    refine ⟨b, o, ⟨hA, by omega, by omega⟩, rows[i].a, rows[i].ops.length, rows[i].c, hrd _ 0 1 (by simp [EncOs]) (by decide), ?_⟩
    rw [wrap64 (n := gone + i) (by omega) (by omega), wrap64 (n := gone + i + 1) (by omega) (by omega), wrap64 (n := (i : Int) + 1) (by omega) (by omega)]
    refine hb.append (new := [⟨gone + i + 1, l2, rows[i].a, rows[i].c, rows[i].ops⟩]) rfl rfl rfl (by omega) ?_
    intro a' c' B2 h7 hb2 c2 _
    refine ⟨⟨i + 1, a', bN + 1, c', _, B2, ?_, by simp [hlen], by omega, hb2, hc.trans c2, hbt.snoc (by omega) (by simp [hlen]) (by simp [hlen]) (by simp [hlen]) (by simp [hlen]) n2 n0 (by simp [hlen]; omega), ?_, ?_, fun j hj => ?_⟩, ?_⟩
    · rw [show (bs ++ [(⟨gone + i + 1, l2, rows[i].a, rows[i].c, rows[i].ops⟩ : BtR)]).length = bs.length + 1 by simp, pe_last]
      rw [show (((i + 1 : Nat) : Int)) = (i : Int) + 1 by omega, Int.add_assoc]
    · rw [show (bs ++ [(⟨gone + i + 1, l2, rows[i].a, rows[i].c, rows[i].ops⟩ : BtR)]).length = bs.length + 1 by simp, pe_last]; dsimp only; omega
    · rw [show (bs ++ [(⟨gone + i + 1, l2, rows[i].a, rows[i].c, rows[i].ops⟩ : BtR)]).length = bs.length + 1 by simp, pe_last]; dsimp only; omega
    · by_cases hj2 : j ≤ bs.length
      · rw [pe_app _ _ _ hj2]; exact hep j hj2
      · have : j = bs.length + 1 := by simp at hj; omega
        subst this
        rw [pe_last]
        show l2 = nextE eps (epF prev eps bs.length) bs.length
        rw [n3, hep _ (Nat.le_refl _), hlen]
    · omega
  · have e : i = rows.length := by simp at e; omega
    subst e
    have := hk gone prev bs bA bC B' h4 ⟨hlen, g0, g1, p0, p1, pg, hbt⟩ ⟨g2, by rw [p2, g2], hep⟩ (by rw [hbn, hlen] at hb; exact hb) hc
    rw [hbn, hlen]
    exact this


theorem madeIs_eq {r0 r1 g1 g2 p1 p2 : Int} {bs bs2 : List BtR} (m1 : MadeOf g1 p1 rows bs) (i1 : MadeIs r0 r1 eps g1 p1 bs) (m2 : MadeOf g2 p2 rows bs2) (i2 : MadeIs r0 r1 eps g2 p2 bs2) : g1 = g2 ∧ p1 = p2 ∧ bs = bs2 := by
  have hg : g1 = g2 := i1.g.trans i2.g.symm
  have hp : p1 = p2 := i1.p.trans i2.p.symm
  refine ⟨hg, hp, List.ext_getElem (m1.len.trans m2.len.symm) fun i h1 h2 => ?_⟩
  obtain ⟨_, a1, a2, a3, a4, _⟩ := m1.bts i h1
  obtain ⟨_, b1, b2, b3, b4, _⟩ := m2.bts i h2
  have e1 := i1.e (i + 1) h1
  have e2 := i2.e (i + 1) h2
  rw [pe_succ _ _ h1] at e1
  rw [pe_succ _ _ h2] at e2
  have e3 : bs[i].ep = bs2[i].ep := by rw [e1, e2, hp]
  rw [← hg] at b1
  have a1 := a1.trans b1.symm
  have a2 := a2.trans b2.symm
  have a3 := a3.trans b3.symm
  have a4 := a4.trans b4.symm
  generalize bs[i] = x at *
  generalize bs2[i] = y at *
  cases x; cases y
  simp_all
end
variable {g h : PH} {N : List Nat} {K : Value → PH → Prop} {sb : Nat} {s : ShS} {v : VwR}
variable {rA eA pA : Option Addr} {rC eC pC : Nat} {rows : List OsR} {eps : List Int} {prs : List PrR} {r0 r1 : Int}
theorem cMadeS2 (sp : Spl g N h) (ro : RowOk g rA rows eA eps pA prs) {n : Nat} (hg : gRow rows n prs = false) {epoch : Int}
    (hk : ∀ gone prev bs a c g' h', MadeOf gone prev rows bs → MadeIs r0 r1 eps gone prev bs → VwOk g' (madeV epoch gone prev bs a c pA pC prs) → Stp g N h g' N h' → (∀ b ∈ N, ∀ o, h b = some o → h' b = some o) → K (madeV epoch gone prev bs a c pA pC prs).val h') :
    CallH Try.prog id_law20_Made [rowV r0 r1 rA rows rC eA eps eC pA prs pC, .int .i64 epoch] K h := by
  refine sp.call (K := fun v g' => ∃ gone prev bs a c, MadeOf gone prev rows bs ∧ MadeIs r0 r1 eps gone prev bs ∧ VwOk g' (madeV epoch gone prev bs a c pA pC prs) ∧ v = (madeV epoch gone prev bs a c pA pC prs).val ∧ g.Sub g') (cMade2 ro.rw ro.ep (gRow_no hg).1 fun gone prev bs a c B' h' hM hI hb hc => ⟨gone, prev, bs, a, c, hM, hI, made_ok hM hb.sr (ro.sub hc.sub0) hg, ?_, hc.sub0⟩) ?_
  · have := hM.len
    unfold madeV VwR.val
    rw [this]
  · rintro _ g' h' ⟨gone, prev, bs, a, c, hM, hI, hv, rfl, hs⟩ st
    exact hk gone prev bs a c g' h' hM hI hv (st hs).1 (st hs).2
/-- alike but for what the operations say -/
def shp (f : MsgF) : Option Addr × Nat × Nat := (f.oA, f.oC, f.m.ops.length)
theorem OpsAt.put {p : List UInt8} {b o o' : Nat} {K : PH → Prop} : ∀ {Bs : List Nat} {L : List MsgF}, OpsAt h Bs L → ∀ {i j : Nat} (hi : i < L.length), j < L[i].m.ops.length → L[i].oA = some ⟨b, o, none⟩ → o' = o + j * 3 + 1 → (∀ h' L', OpsAt h' Bs L' → L'.map shp = L.map shp → Chg Bs Bs h h' → K h') → stH h b o' [.string (mk p)] K
  | _, _, .nil, _, _, hi, _, _, _, _ => by cases hi
  | _, _, .cons (f := f) (Be := Be) (Bs := Bs) (L := L) e1 e2 e3, i, j, hi, hj, hA, ho, hk => by
    cases i with
    | zero =>
      have hj : j < f.m.ops.length := hj
      refine e1.setAt (i := j) (f := 1) (y := ⟨f.m.ops[j].k, p, f.m.ops[j].v⟩) hj hA ho rfl (Nat.le_of_ble_eq_true rfl) fun h' x c => ?_
      refine hk h' (⟨{ f.m with ops := f.m.ops.set j ⟨f.m.ops[j].k, p, f.m.ops[j].v⟩ }, f.oA, f.oC, f.pA, f.pC⟩ :: L) (OpsAt.cons ?_ e2 (e3.keep fun q hq o eo => c.keep eo fun hm => e2 q hm hq)) ?_ c.left
      · show Buf EncOp T_api_Op Be h' f.oA (f.m.ops.set j _).length f.oC (f.m.ops.set j _)
        rw [List.length_set]; exact x
      · simp [shp]
    | succ i =>
      refine e3.put (i := i) (j := j) (Nat.lt_of_succ_lt_succ hi) hj hA ho fun h' L' x hs c => hk h' (f :: L') (.cons (e1.keep fun q hq o eo => c.keep eo fun hm => e2 q hq hm) e2 x) (by rw [List.map_cons, List.map_cons, hs]) c.right
def overL : List UInt8 := [119, 114, 105, 116, 116, 101, 110, 32, 111, 118, 101, 114]
/-- none is written over -/
def NoOver (rows : List OsR) : Prop := ∀ r ∈ rows, ∀ o ∈ r.ops, o.p ≠ overL
theorem tick_again {v : VwR} (h0 : s.shot = none) : (tickV (tickV s v).2 v).1.length = (tickV s v).1.length := by
  cases ha : s.ack with
  | none =>
    have : tickV s v = ([helloM v.ep], s) := by unfold tickV; simp only [ha]
    rw [this, this]
  | some q =>
    obtain ⟨a, e⟩ := q
    by_cases h1 : a = v.at_ ∧ e = v.ae
    · rw [tick_place ha h1, tick_place (s := { s with shot := none }) ha h1]
    · cases hn : nextV v a e with
      | some i => rw [tick_ents ha h1 hn, tick_ents ha h1 hn]
      | none =>
        have hneed : needV s v a := by unfold needV; rw [h0]; trivial
        by_cases hm : mayB v.prs = true ∧ v.prs.length ≤ 48
        · have ht : tickV s v = ([helloM v.ep, rootM v.ep v.at_ v.ae (rootH v.prs)], { s with shot := some (v.at_, v.ae, v.prs), texts := s.texts ++ textsT v.prs }) := by
            unfold tickV; simp only [ha, hn]; rw [if_neg h1, if_pos hneed, if_pos hm]
          rw [ht]
          have hnn : ¬ needV { s with shot := some (v.at_, v.ae, v.prs), texts := s.texts ++ textsT v.prs } v a := by
            unfold needV; dsimp only; omega
          have : tickV { s with shot := some (v.at_, v.ae, v.prs), texts := s.texts ++ textsT v.prs } v = ([helloM v.ep, rootM v.ep v.at_ v.ae (rootH v.prs)], { s with shot := some (v.at_, v.ae, v.prs), texts := s.texts ++ textsT v.prs }) := by
            rw [ha] at hnn ⊢
            unfold tickV; simp only [hn]; rw [if_neg h1, if_neg hnn]
          rw [this]
        · have ht : tickV s v = ([helloM v.ep], s) := by unfold tickV; simp only [ha, hn]; rw [if_neg h1, if_pos hneed, if_neg hm]
          rw [ht, ht]
theorem cHad (ro : RowOk h rA rows eA eps pA prs) (hn : rows.length ≤ 80) (ho : ∀ r ∈ rows, r.ops.length ≤ 1000) (h1 : K (.bool true) h) (h2 : NoOver rows → K (.bool false) h) : CallH Try.prog id_law20_had [rowV r0 r1 rA rows rC eA eps eC pA prs pC] K h := by
  refine F_law20_had_ok (LoopP.ind (fun (z : Int × Unit) h' => ∃ i : Nat, z.1 = i ∧ i ≤ rows.length ∧ h' = h ∧ ∀ j, (hj : j < rows.length) → j < i → ∀ o ∈ rows[j].ops, o.p ≠ overL) (fun z _ => (rows.length - z.1).toNat) ?_ ⟨0, rfl, Nat.zero_le _, rfl, fun _ _ hj => absurd hj (Nat.not_lt_zero _)⟩)
  rintro ⟨zi, u⟩ h0 ⟨i, hzi, hi, rfl, ha⟩
  dsimp only at hzi
  subst hzi
  dsimp only
  refine ⟨fun e => ?_, fun e => ?_⟩
  · have e : i < rows.length := by have := of_decide_eq_true e; omega
    have hit : ((i : Nat) : Int).toNat = i := by omega
    obtain ⟨b, o, hA, hrd⟩ := ro.rw.get e
    have r1 := hrd (o + i * 1) 0 1 rfl (by decide)
    have hsr := ro.op _ (List.getElem_mem e)
    have hlen := ho _ (List.getElem_mem e)
    have hwi : IntKind.wrap .i64 (((i : Nat) : Int) + (1 : Int)) = ((i + 1 : Nat) : Int) := by rw [wrap64] <;> omega
    rw [hit, hwi]
    refine LoopP.ind (fun (z : Int × Unit) h' => ∃ k : Nat, z.1 = k ∧ k ≤ rows[i].ops.length ∧ h' = h0 ∧ ∀ j, (hj : j < rows[i].ops.length) → j < k → rows[i].ops[j].p ≠ overL) (fun z _ => (rows[i].ops.length - z.1).toNat) ?_ ⟨0, rfl, Nat.zero_le _, rfl, fun _ _ hj => absurd hj (Nat.not_lt_zero _)⟩
    rintro ⟨zk, u⟩ h3 ⟨k, hzk, hk, rfl, hb⟩
    dsimp only at hzk
    subst hzk
    dsimp only
    refine ⟨b, o, ⟨hA, by omega, by omega⟩, _, _, _, r1, fun e2 => ?_, fun e2 => ?_⟩
    · have e2 : k < rows[i].ops.length := by have := of_decide_eq_true e2; omega
      have hkt : ((k : Nat) : Int).toNat = k := by omega
      obtain ⟨b2, o2, hA2, hrd2⟩ := hsr.get e2
      have hwk : IntKind.wrap .i64 (((k : Nat) : Int) + (1 : Int)) = ((k + 1 : Nat) : Int) := by rw [wrap64] <;> omega
      rw [hkt, hwk]
      refine ⟨b, o, ⟨hA, by omega, by omega⟩, _, _, _, r1, b2, o2, ⟨hA2, by omega, by omega⟩, mk rows[i].ops[k].p, hrd2 _ 1 1 rfl (by decide), fun _ => h1, fun e3 => ⟨⟨k + 1, rfl, by omega, rfl, fun j hj hjk => ?_⟩, by omega⟩⟩
      by_cases hjk2 : j = k
      · subst hjk2
        intro ec
        rw [show strEq (mk rows[i].ops[j].p) (⟨#[119, 114, 105, 116, 116, 101, 110, 32, 111, 118, 101, 114]⟩ : ByteArray) = true from (strEq_mk (m := overL)).2 ec] at e3
        cases e3
      · exact hb j hj (by omega)
    · have e2 : k = rows[i].ops.length := by have := of_decide_eq_false e2; omega
      refine ⟨⟨i + 1, rfl, by omega, rfl, fun j hj hji => ?_⟩, by omega⟩
      by_cases hji2 : j = i
      · subst hji2
        intro o ho2
        obtain ⟨m, hm, rfl⟩ := List.getElem_of_mem ho2
        exact hb m hm (by omega)
      · exact ha j hj (by omega)
  · have e : i = rows.length := by have := of_decide_eq_false e; omega
    refine h2 fun r hr => ?_
    obtain ⟨j, hj, rfl⟩ := List.getElem_of_mem hr
    exact ha j hj (by omega)
theorem ack_keep (s : ShS) (kd a e : Int) : (ackV s kd a e).2.shot = s.shot ∧ (ackV s kd a e).2.texts = s.texts := by
  unfold ackV; split <;> exact ⟨rfl, rfl⟩
theorem ShipOwn_den {fr : Int} (ro : RowOk h rA rows eA eps pA prs) (hk : ∀ h', h.Sub h' → K (.bool true) h') : CallH Try.prog id_law20_ShipOwn [rowV r0 r1 rA rows rC eA eps eC pA prs pC, .int .i64 fr] K h := by
  refine F_law20_ShipOwn_ok ⟨fun _ h' => h' = h ∧ gRow rows eps.length prs = false ∧ NoOver rows, cGreat20 ro.rw ro.op ro.pr ⟨_, rfl, fun hg => ?_, fun _ => wk20 (PH.Sub.rf _) hk⟩, ?_⟩
  · obtain ⟨n80, hops, _, _⟩ := gRow_no hg
    exact cHad ro n80 (fun r hr => (hops r hr).1) ⟨_, rfl, fun _ => wk20 (PH.Sub.rf _) hk, fun e => by cases e⟩ fun hno => ⟨_, rfl, fun e => (by cases e), fun _ => ⟨rfl, hg, hno⟩⟩
  rintro _ h0 ⟨rfl, hg, hno⟩
  obtain ⟨n80, hops, _, _⟩ := gRow_no hg
  refine cMadeS2 (Spl.start _) ro hg fun gone prev bs a c g1 h1 hM hI hv st1 _ => ⟨_, _, _, _, _, _, _, _, _, _, rfl, ?_⟩
  have l1 := hM.len
  have z1 := hM.g0
  have z2 := hM.g1
  have hbsl : (madeV 3 gone prev bs a c pA pC prs).bs = bs := rfl
  refine cShipNew st1.spl fun sb N2 h2 x2 st2 _ => ⟨_, rfl, ?_⟩
  rw [List.append_nil] at st2
  refine ⟨fun _ h' => h' = h2, ⟨fun _ => rfl, fun _ => rfl⟩, ?_⟩
  rintro ⟨kk, u⟩ _ rfl
  dsimp only
  refine LoopP.ind (fun (z : Int × Unit) h' => ∃ (i : Nat) (s : ShS) (N' : List Nat) (g' : PH), z.1 = i ∧ i ≤ bs.length ∧ ShipAt g' N' h' sb s ∧ s.shot = none ∧ s.texts = [] ∧ Stp g1 [] h1 g' N' h') (fun z _ => (bs.length - z.1).toNat) ?_ ⟨0, _, N2, g1, rfl, Nat.zero_le _, x2, rfl, rfl, st2⟩
  rintro ⟨zi, u⟩ h3 ⟨i, s, N3, g3, hzi, hi, x3, hs3, ht3, st3⟩
  dsimp only at hzi
  subst hzi
  dsimp only
  rw [hbsl]
  refine ⟨fun e => ?_, fun e => ?_⟩
  · have e : i < bs.length := by have := of_decide_eq_true e; omega
    have hit : ((i : Nat) : Int).toNat = i := by omega
    have hwi : IntKind.wrap .i64 (((i : Nat) : Int) + (1 : Int)) = ((i + 1 : Nat) : Int) := by rw [wrap64] <;> omega
    obtain ⟨b, o, hA, hr⟩ := ((hv.sub st3.gs).sub st3.spl.sub).bts.get (i := i) e
    rw [hit, hwi]
    refine ⟨b, o, ⟨hA, by omega, by omega⟩, _, hr _ 0 1 rfl (by decide), fun _ => ?_, fun _ => ⟨⟨i + 1, s, N3, g3, rfl, by omega, x3, hs3, ht3, st3⟩, by omega⟩⟩
    refine ⟨b, o, ⟨hA, by omega, by omega⟩, _, hr _ 1 1 rfl (by decide), cAck x3 st3.spl z32 z32 z32 fun g4 h4 x4 st4 => ⟨_, rfl, ⟨i + 1, _, N3, g4, rfl, by omega, x4, ?_, ?_, st3.trans st4⟩, by omega⟩⟩
    · rw [(ack_keep _ _ _ _).1]; exact hs3
    · rw [(ack_keep _ _ _ _).2]; exact ht3
  · refine cTick (v := madeV 3 gone prev bs a c pA pC prs) x3 st3.spl (hv.sub st3.gs) (by show _ ≤ gone + bs.length ∧ gone + bs.length ≤ _; omega) (by show s.texts.length ≤ _; rw [ht3]; decide) fun g4 N4 B4 h4 a4 c4 L x4 hm e4 st4 d4 => ⟨_, _, _, rfl, ?_⟩
    obtain ⟨B0, Bs, rfl, hb, hop, hd, hp⟩ := hm
    have hL : L.length ≤ 5 := by
      have h5 := congrArg List.length e4
      rw [List.length_map] at h5
      rw [h5]
      unfold tickV
      split
      · exact Nat.le_of_ble_eq_true rfl
      · split
        · exact Nat.le_of_ble_eq_true rfl
        · split
          · unfold entsV; simp; omega
          · split
            · split <;> exact Nat.le_of_ble_eq_true rfl
            · split <;> exact Nat.le_of_ble_eq_true rfl
    -- what is written over
    refine LoopP.ind (fun (z : Int × Unit) h' => ∃ (i : Nat) (L' : List MsgF), z.1 = i ∧ i ≤ L.length ∧ OpsAt h' Bs L' ∧ L'.map shp = L.map shp ∧ Chg Bs Bs h4 h') (fun z _ => (L.length - z.1).toNat) ?_ ⟨0, L, rfl, Nat.zero_le _, hop, rfl, Chg.refl _ _⟩
    rintro ⟨zi, u⟩ h5 ⟨i, L5, hzi, hi, hop5, hs5, c5⟩
    dsimp only at hzi
    subst hzi
    dsimp only
    refine ⟨fun e2 => ?_, fun e2 => ?_⟩
    · have e2 : i < L.length := by have := of_decide_eq_true e2; omega
      have hit : ((i : Nat) : Int).toNat = i := by omega
      have hwi : IntKind.wrap .i64 (((i : Nat) : Int) + (1 : Int)) = ((i + 1 : Nat) : Int) := by rw [wrap64] <;> omega
      rw [hit, hwi]
      refine LoopP.ind (fun (z : Int × Unit) h' => ∃ (k : Nat) (L' : List MsgF), z.1 = k ∧ k ≤ L[i].m.ops.length ∧ OpsAt h' Bs L' ∧ L'.map shp = L.map shp ∧ Chg Bs Bs h4 h') (fun z _ => (L[i].m.ops.length - z.1).toNat) ?_ ⟨0, L5, rfl, Nat.zero_le _, hop5, hs5, c5⟩
      rintro ⟨zk, u⟩ h6 ⟨k, L6, hzk, hk6, hop6, hs6, c6⟩
      dsimp only at hzk
      subst hzk
      dsimp only
      obtain ⟨b, o, hA, hr⟩ := (hb.keep fun q hq o eo => c6.keep eo (hd q hq)).sr.get e2
      have r1 : h6.rds b (((o + i * 107) + 4) + 2) 1 = some [.slice L[i].oA L[i].m.ops.length L[i].oC] := hr _ 6 1 rfl (by decide)
      have hlen := (hp _ (List.getElem_mem e2)).2
      refine ⟨b, o, ⟨hA, by omega, by omega⟩, _, _, _, r1, fun e3 => ?_, fun e3 => ?_⟩
      · have e3 : k < L[i].m.ops.length := by have := of_decide_eq_true e3; omega
        have hkt : ((k : Nat) : Int).toNat = k := by omega
        have hwk : IntKind.wrap .i64 (((k : Nat) : Int) + (1 : Int)) = ((k + 1 : Nat) : Int) := by rw [wrap64] <;> omega
        rw [hkt, hwk]
        have hl6 : L6.length = L.length := by have := congrArg List.length hs6; simpa using this
        have hi6 : i < L6.length := by omega
        have hsh : shp L6[i] = shp L[i] := by
          have h7 : (L6.map shp)[i]'(by rw [List.length_map]; exact hi6) = (L.map shp)[i]'(by rw [List.length_map]; exact e2) := by simp only [hs6]
          rw [List.getElem_map, List.getElem_map] at h7
          exact h7
        have q1 : L6[i].oA = L[i].oA := congrArg Prod.fst hsh
        have q2 : L6[i].m.ops.length = L[i].m.ops.length := congrArg (fun z => z.2.2) hsh
        have hsr := hop6.all _ (List.getElem_mem hi6)
        obtain ⟨b2, o2, hA2, _⟩ := hsr.get (i := k) (by omega)
        refine ⟨b, o, ⟨hA, by omega, by omega⟩, _, _, _, r1, b2, o2, ⟨q1 ▸ hA2, by omega, by omega⟩, ?_⟩
        exact hop6.put (p := overL) hi6 (by omega) hA2 rfl fun h7 L7 y7 s7 c7 => ⟨⟨k + 1, L7, rfl, by omega, y7, s7.trans hs6, c6.trans c7⟩, by omega⟩
      · exact ⟨⟨i + 1, L6, rfl, by omega, hop6, hs6, c6⟩, by omega⟩
    · -- the same row once more
      have hN4 : Has N4 h4 := st4.spl.right.has
      have stC : Stp g4 ((B0 ++ Bs) ++ N4) h4 g4 ((B0 ++ Bs) ++ N4) h5 := st4.spl.chg (c5.right.left) ((Has.app (fun q hq => by
          obtain ⟨o, ho⟩ := hb.has q hq
          exact ⟨o, c5.keep ho (hd q hq)⟩) hop5.has).app fun q hq => by
          obtain ⟨o, ho⟩ := hN4 q hq
          exact ⟨o, c5.keep ho fun hm => d4 q (List.mem_append_right _ hm) hq⟩)
      have x5 : ShipAt g4 N4 h5 sb _ := x4.keep (PH.Sub.rf _) fun q hq o eo => c5.keep eo fun hm => d4 q (List.mem_append_right _ hm) hq
      have stD := st3.trans (st4.trans stC)
      have sub04 : h0.Sub g4 := st1.gs.tr stD.gs
      refine cMadeS2 stC.spl.right (ro.sub sub04) hg fun gone2 prev2 bs2 a2 c2 g6 h6 hM2 hI2 hv2 st6 keep6 => ⟨_, _, _, _, _, _, _, _, _, _, rfl, ?_⟩
      obtain ⟨rfl, rfl, rfl⟩ := madeIs_eq hM hI hM2 hI2
      have x6 := x5.keep st6.gs keep6
      have htx : (tickV s (madeV 3 gone prev bs a c pA pC prs)).2.texts.length ≤ 31 := by
        have := tick_texts s (madeV 3 gone prev bs a c pA pC prs)
        rw [ht3] at this
        exact this
      refine cTick (v := madeV 3 gone prev bs a2 c2 pA pC prs) x6 st6.spl hv2 (by show _ ≤ gone + bs.length ∧ gone + bs.length ≤ _; omega) (by omega) fun g7 N7 B7 h7 a7 c7 L7 x7 hm7 e7 st7 d7 => ⟨_, _, _, rfl, fun e3 => ?_, fun _ => ?_⟩
      · exfalso
        have q1 := congrArg List.length e4
        have q2 := congrArg List.length e7
        have q3 := tick_again (s := s) (v := madeV 3 gone prev bs a c pA pC prs) hs3
        rw [List.length_map] at q1 q2
        have q4 : L7.length = (tickV (tickV s (madeV 3 gone prev bs a c pA pC prs)).2 (madeV 3 gone prev bs a c pA pC prs)).1.length := q2
        rw [q4, q3, ← q1] at e3
        simp at e3
      have sub07 : h0.Sub h7 := (sub04.tr st6.gs).tr st7.gh
      have ro7 := ro.sub sub07
      refine LoopP.ind (fun (z : Int × Unit) h' => ∃ i : Nat, z.1 = i ∧ i ≤ bs.length ∧ h' = h7) (fun z _ => (bs.length - z.1).toNat) ?_ ⟨0, rfl, Nat.zero_le _, rfl⟩
      rintro ⟨zi, u⟩ h8 ⟨i, hzi, hi, rfl⟩
      dsimp only at hzi
      subst hzi
      dsimp only
      refine ⟨fun e3 => ?_, fun _ => wk20 sub07 hk⟩
      have e3 : i < bs.length ∧ i < rows.length := by simp at e3; omega
      have hit : ((i : Nat) : Int).toNat = i := by omega
      obtain ⟨b, o, hA, hrd⟩ := ro7.rw.get e3.2
      have r1 := hrd (o + i * 1) 0 1 rfl (by decide)
      have hsr := ro7.op _ (List.getElem_mem e3.2)
      have hlen := (hops _ (List.getElem_mem e3.2)).1
      have hwi : IntKind.wrap .i64 (((i : Nat) : Int) + (1 : Int)) = ((i + 1 : Nat) : Int) := by rw [wrap64] <;> omega
      rw [hit, hwi]
      refine LoopP.ind (fun (z : Int × Unit) h' => ∃ k : Nat, z.1 = k ∧ k ≤ rows[i].ops.length ∧ h' = h8) (fun z _ => (rows[i].ops.length - z.1).toNat) ?_ ⟨0, rfl, Nat.zero_le _, rfl⟩
      rintro ⟨zk, u⟩ h9 ⟨k, hzk, hk9, rfl⟩
      dsimp only at hzk
      subst hzk
      dsimp only
      refine ⟨b, o, ⟨hA, by omega, by omega⟩, _, _, _, r1, fun e4 => ?_, fun e4 => ⟨⟨i + 1, rfl, by omega, rfl⟩, by omega⟩⟩
      have e4 : k < rows[i].ops.length := by have := of_decide_eq_true e4; omega
      have hkt : ((k : Nat) : Int).toNat = k := by omega
      obtain ⟨b2, o2, hA2, hrd2⟩ := hsr.get e4
      have hwk : IntKind.wrap .i64 (((k : Nat) : Int) + (1 : Int)) = ((k + 1 : Nat) : Int) := by rw [wrap64] <;> omega
      rw [hkt, hwk]
      refine ⟨b, o, ⟨hA, by omega, by omega⟩, _, _, _, r1, b2, o2, ⟨hA2, by omega, by omega⟩, mk rows[i].ops[k].p, hrd2 _ 1 1 rfl (by decide), fun e5 => ?_, fun _ => ⟨⟨k + 1, rfl, by omega, rfl⟩, by omega⟩⟩
      exact absurd ((strEq_mk (m := overL)).1 e5) (hno _ (List.getElem_mem e3.2) _ (List.getElem_mem e4))
end TL

namespace TL
open Go Go.Proofs
variable {g h : PH} {N : List Nat} {K : Value → PH → Prop} {sb : Nat} {s : ShS} {v : VwR}

theorem cHasV (x : VwOk h v) {a e : Int} {t : Bool} (ht : (nextV v a e).isSome = t) (hk : K (.bool t) h) : CallH Try.prog id_ship_Has [v.val, .int .i64 a, .int .i64 e] K h :=
  cHas x (by rw [ht]; exact hk)
def noV : VwR := ⟨0, 0, 0, none, 0, [], 0, none, 0, []⟩
theorem no_ok : VwOk h noV := ⟨.inl rfl, Nat.zero_le _, fun _ hb => (by cases hb), fun _ hb => (by cases hb), .inl rfl, Nat.zero_le _, fun _ hb => by cases hb⟩
def farV (at_ : Int) (a : Option Addr) (c : Nat) : VwR := { threeV a c with at_ := at_ }
theorem far_ok {at_ : Int} {a : Option Addr} {c : Nat} (x : VwOk h (threeV a c)) : VwOk h (farV at_ a c) := ⟨x.bts, x.n, x.ix, x.ops, x.prs, x.pn, x.pl⟩
theorem may0 : mayB [] = true ∧ ([] : List PrR).length ≤ 48 := by decide
theorem tk67 (a : Option Addr) (c : Nat) : tickV ⟨some (0, 0), some (3, 1, []), textsT []⟩ (farV 67 a c) = ([helloM 2, rootM 2 3 1 (rootH [])], ⟨some (0, 0), some (3, 1, []), textsT []⟩) := by
  have h1 : nextV (farV 67 a c) 0 0 = none := rfl
  unfold tickV
  simp only
  rw [if_neg (by simp [farV, threeV]), h1]
  simp only
  rw [if_neg (by unfold needV; simp [farV])]
  rfl
theorem tk68 (a : Option Addr) (c : Nat) : tickV ⟨some (0, 0), some (3, 1, []), textsT []⟩ (farV 68 a c) = ([helloM 2, rootM 2 68 1 (rootH [])], ⟨some (0, 0), some (68, 1, []), textsT [] ++ textsT []⟩) := by
  have h1 : nextV (farV 68 a c) 0 0 = none := rfl
  unfold tickV
  simp only
  rw [if_neg (by simp [farV, threeV]), h1]
  simp only
  rw [if_pos (by unfold needV; simp [farV]), if_pos (show mayB (farV 68 a c).prs = true ∧ (farV 68 a c).prs.length ≤ 48 from may0)]
  rfl
theorem at67 : (-9223372036854775808 : Int) ≤ 67 ∧ (67 : Int) ≤ 9223372036854775807 := by decide
theorem at68 : (-9223372036854775808 : Int) ≤ 68 ∧ (68 : Int) ≤ 9223372036854775807 := by decide
theorem hv_root (S : List PrR) : hv (rootH S) = (bi (nd S 1)).map (Value.int .u8) := rfl
theorem ShipKnown_den (hk : ∀ h', h.Sub h' → K (.bool true) h') : CallH Try.prog id_law20_ShipKnown [] K h := by
  refine F_law20_ShipKnown_ok (cThree fun a c h1 hb s1 => ⟨_, _, _, _, _, _, _, _, _, _, rfl, ?_⟩)
  have hvw := three_ok (c := c) hb
  refine ⟨fun st h' => h' = h1 ∧ st.1 = true, ?_, ?_⟩
  · refine cHasV (v := threeV a c) (t := true) hvw rfl ⟨_, rfl, fun _ => ?_, fun e => by cases e⟩
    refine cHasV (v := threeV a c) (t := false) hvw rfl ⟨_, rfl, fun _ => ?_, fun e => by simp at e⟩
    refine cHasV (v := threeV a c) (t := false) hvw rfl ⟨_, rfl, fun _ => ?_, fun e => by simp at e⟩
    refine cHasV (v := threeV a c) (t := true) hvw rfl ⟨_, rfl, fun _ => ?_, fun e => by cases e⟩
    refine cHasV (v := threeV a c) (t := true) hvw rfl ⟨_, rfl, fun _ => ?_, fun e => by cases e⟩
    refine cHasV (v := threeV a c) (t := false) hvw rfl ⟨_, rfl, fun _ => ?_, fun e => by simp at e⟩
    exact cHasV (v := noV) (t := true) no_ok rfl ⟨_, rfl, rfl, rfl⟩
  rintro ⟨q0, u⟩ h1' ⟨rfl, hq0⟩
  dsimp only at hq0
  subst hq0
  refine cShipNew (Spl.start _) fun sb N2 h2 x2 st2 _ => ⟨_, rfl, ?_⟩
  rw [List.append_nil] at st2
  refine cTickF (v := threeV a c) x2 st2.spl (hvw.sub st2.gs) at3 (by decide) fun g3 N3 h3 aA aC LA x3 mA hA st3 => ⟨_, _, _, rfl, ?_⟩
  rw [tk1] at x3 hA
  refine cAck x3 st3.spl z32 z32 z32 fun g4 h4 x4 st4 => ⟨_, rfl, ?_⟩
  rw [ak1] at x4 ⊢
  have s14 := (st2.gs.tr st3.gs).tr st4.gs
  refine cTickF (v := threeV a c) x4 st4.spl (hvw.sub s14) at3 (by decide) fun g5 N5 h5 aB cB LB x5 mB hB st5 => ⟨_, _, _, rfl, ?_⟩
  rw [tk2] at x5 hB
  refine cAck x5 st5.spl z32 z32 z32 fun g6 h6 x6 st6 => ⟨_, rfl, ?_⟩
  rw [ack_to rfl (by decide)] at x6
  have s16 := (s14.tr st5.gs).tr st6.gs
  refine cTickF (v := threeV a c) x6 st6.spl (hvw.sub s16) at3 (by decide) fun g7 N7 h7 aD cD LD x7 mD hD st7 => ⟨_, _, _, rfl, ?_⟩
  rw [tick_place (a := 3) (e := 1) rfl ⟨rfl, rfl⟩] at x7 hD
  have s17 := s16.tr st7.gs
  refine ⟨fun st h' => st.1 = false ∧ ∃ g' N', ShipAt g' N' h' sb ⟨some (3, 1), none, []⟩ ∧ Stp g7 N7 h7 g' N' h', ?_, ?_⟩
  · refine cAck x7 st7.spl z32 z32 z32 fun g8 h8 x8 st8 => ⟨_, rfl, fun _ => ?_, fun e => by cases e⟩
    have e8 : ackV ⟨some (3, 1), none, []⟩ 1 0 0 = (false, ⟨some (3, 1), none, []⟩) := rfl
    rw [e8] at x8
    exact cAck x8 st8.spl z32 z32 z32 fun g9 h9 x9 st9 => ⟨_, rfl, rfl, g9, N7, x9, st8.trans st9⟩
  rintro ⟨q1, u⟩ h8 ⟨hq1, g8, N8, x8, st8⟩
  dsimp only at hq1
  subst hq1
  refine cAck x8 st8.spl z32 z32 z32 fun g9 h9 x9 st9 => ⟨_, rfl, ?_⟩
  rw [ack_to rfl (by decide)] at x9
  have s19 := (s17.tr st8.gs).tr st9.gs
  refine cTickF (v := threeV a c) x9 st9.spl (hvw.sub s19) at3 (by decide) fun g10 N10 h10 aF cF LF x10 mF hF st10 => ⟨_, _, _, rfl, ?_⟩
  rw [tk3] at x10 hF
  have s110 := s19.tr st10.gs
  refine cCopy x10 st10.spl (fun e => by cases e) fun x y S e => ?_
  cases e
  refine ⟨_, bi (nd [] 1), by rw [bi_len, nd_len], _, rfl, cNew fun tb h11 _ ht11 c11 => ⟨_, rfl, ?_⟩⟩
  obtain ⟨f1, rfl, e1⟩ := maps1 hA
  obtain ⟨f2, f3, f4, rfl, e2, e3, e4⟩ := maps3 hB
  obtain ⟨f0, rfl, e0⟩ := maps1 hD
  obtain ⟨f5, f6, rfl, e5, e6⟩ := maps2 hF
  refine ⟨fun e => by simp at e, fun _ => ?_⟩
  have s10 := c11.sub0
  have s3 : g3.Sub h11 := ((((((st4.gs.tr st5.gs).tr st6.gs).tr st7.gs).tr st8.gs).tr st9.gs).tr st10.gh).tr s10
  have s5 : g5.Sub h11 := ((((st6.gs.tr st7.gs).tr st8.gs).tr st9.gs).tr st10.gh).tr s10
  obtain ⟨bA, oA, hAA, rA⟩ := (mA.sub s3).rd (i := 0) (by simp)
  obtain ⟨bB, oB, hAB, rB⟩ := (mB.sub s5).rd (i := 1) (by simp)
  obtain ⟨bB2, oB2, hAB2, rB2⟩ := (mB.sub s5).rd (i := 2) (by simp)
  obtain ⟨bF, oF, hAF, rF⟩ := (mF.sub (st10.spl.sub.tr s10)).rd (i := 1) (by simp)
  have w1 := rA 0 1 [.int .u8 1] (by decide) (by simp only [List.getElem_cons_zero]; unfold encMsg; rw [e1]; rfl) (oA + (0 : Int).toNat * 107) rfl
  have w2 := rA 1 1 [.int .i64 2] (by decide) (by simp only [List.getElem_cons_zero]; unfold encMsg; rw [e1]; rfl) ((oA + (0 : Int).toNat * 107) + 1) rfl
  have w3 := rB 0 1 [.int .u8 2] (by decide) (by simp only [List.getElem_cons_succ, List.getElem_cons_zero]; unfold encMsg; rw [e3]; rfl) (oB + (1 : Int).toNat * 107) rfl
  have w4 := rB 4 1 [.int .i64 2] (by decide) (by simp only [List.getElem_cons_succ, List.getElem_cons_zero]; unfold encMsg; rw [e3]; rfl) ((oB + (1 : Int).toNat * 107) + 4) rfl
  have w5 := rB 7 1 [.int .i64 1] (by decide) (by simp only [List.getElem_cons_succ, List.getElem_cons_zero]; unfold encMsg; rw [e3]; rfl) ((oB + (1 : Int).toNat * 107) + 7) rfl
  have w6 := rB2 4 1 [.int .i64 3] (by decide) (by simp only [List.getElem_cons_succ, List.getElem_cons_zero]; unfold encMsg; rw [e4]; rfl) ((oB2 + (2 : Int).toNat * 107) + 4) rfl
  have w7 := rF 0 1 [.int .u8 4] (by decide) (by simp only [List.getElem_cons_succ, List.getElem_cons_zero]; unfold encMsg; rw [e6]; rfl) (oF + (1 : Int).toNat * 107) rfl
  have w8 := rF 2 1 [.int .i64 3] (by decide) (by simp only [List.getElem_cons_succ, List.getElem_cons_zero]; unfold encMsg; rw [e6]; rfl) ((oF + (1 : Int).toNat * 107) + 2) rfl
  have w9 := rF 3 1 [.int .i64 1] (by decide) (by simp only [List.getElem_cons_succ, List.getElem_cons_zero]; unfold encMsg; rw [e6]; rfl) ((oF + (1 : Int).toNat * 107) + 3) rfl
  have w10' : ∀ r : List Value, (hv (rootH []) ++ r).take 32 = hv (rootH []) := fun r => List.take_left' (hv_len _)
  have w10r : hv (rootH []) = (bi (nd [] 1)).map (Value.int .u8) ++ [] := by
    rw [List.append_nil]; exact hv_root []
  have w10 := rF 8 32 (hv (rootH [])) (by decide) (by
    simp only [List.getElem_cons_succ, List.getElem_cons_zero]; unfold encMsg; rw [e6]
    unfold rootM
    dsimp only
    generalize rootH [] = rr at w10' ⊢
    exact w10' _) ((oF + (1 : Int).toNat * 107) + 8) rfl
  rw [w10r] at w10
  have x11 := x10.keep (PH.Sub.rf _) fun q _ o e => s10 q o e
  have st11 := st10.trans (st10.spl.grow s10)
  refine ⟨fun st h' => st.1 = true ∧ h11.Sub h', ?_, ?_⟩
  · refine ⟨bA, oA, ⟨hAA, by decide, by simp⟩, 1, w1, bA, oA, fun _ => ⟨hAA, by decide, by simp⟩, 2, fun _ => w2, bB, oB, fun _ => ⟨hAB, by decide, by simp⟩, 2, fun _ => w3, bB, oB, fun _ => ⟨hAB, by decide, by simp⟩, 2, fun _ => w4, bB, oB, fun _ => ⟨hAB, by decide, by simp⟩, 1, fun _ => w5,
      bB2, oB2, fun _ => ⟨hAB2, by decide, by simp⟩, 3, fun _ => w6, bF, oF, fun _ => ⟨hAF, by decide, by simp⟩, 4, fun _ => w7, bF, oF, fun _ => ⟨hAF, by decide, by simp⟩, 3, fun _ => w8, bF, oF, fun _ => ⟨hAF, by decide, by simp⟩, 1, fun _ => w9, bF, oF, fun _ => ⟨hAF, by decide, by simp⟩, bi (nd [] 1), by rw [bi_len, nd_len], fun _ => w10, fun _ => ?_, fun e => by simp at e⟩
    refine cRoot ht11 ⟨bi (nd [] 1), by rw [bi_len, nd_len], rfl, fun _ => w10, fun _ => ?_, fun e => by simp at e⟩
    refine cRoot ht11 ⟨bi (nd [] 1), by rw [bi_len, nd_len], rfl, fun _ => ?_, fun e => by simp at e⟩
    refine cShTexts x11 (by show (textsT []).length ≤ _; rw [texts_len]; decide) fun a' c' B' h' _ hc => ⟨_, _, _, rfl, ?_, hc.sub0⟩
    show ((((textsT []).length : Nat) : Int) == 31) = true
    rw [texts_len]; rfl
  rintro ⟨q2, u⟩ h12 ⟨hq2, s12⟩
  dsimp only at hq2
  subst hq2
  have x12 := x11.keep (PH.Sub.rf _) fun q _ o e => s12 q o e
  have st12 := st11.trans (st11.spl.grow s12)
  refine cAsk x12 st12.spl z32 z32 z32 (fun hh => (hh 3 1 [] rfl ⟨rfl, rfl, by decide⟩).elim) (fun _ _ _ _ _ _ e => absurd e (by decide)) fun x y S e _ _ lv i hlv hi _ _ => ?_
  cases e
  have hlv : lv = 0 := by omega
  have hi : i = 0 := by omega
  subst hlv hi
  refine ⟨_, _, _, _, _, _, _, _, _, _, Z32, z32, _, _, bi (nd [] (2 ^ (0 + 1) + 2 * 0)), by rw [bi_len, nd_len], bi (nd [] (2 ^ (0 + 1) + (2 * 0 + 1))), by rw [bi_len, nd_len], _, _, _, _, rfl, ?_⟩
  refine cNode (lv := 1) (i := 0) (ht11.sub s12) (by decide) (by decide) ⟨bi (nd [] (2 ^ 1 + 0)), by rw [bi_len, nd_len], _, rfl, ?_⟩
  refine cAsk x12 st12.spl z32 z32 z32 (fun hh => (hh 3 1 [] rfl ⟨rfl, rfl, by decide⟩).elim) (fun x y S e _ _ _ i hi _ a' c' B' h13 _ hc => ?_) fun _ _ _ _ _ _ lv i hlv hi h4 _ => (by omega)
  cases e
  refine ⟨_, _, _, _, _, _, _, _, _, _, Z32, z32, _, _, Z32, z32, Z32, z32, _, _, _, _, rfl, ?_⟩
  have s13 := hc.sub0
  have x13 := x12.keep (PH.Sub.rf _) fun q _ o e => s13 q o e
  have st13 := st12.trans (st12.spl.grow s13)
  refine cAsk x13 st13.spl z32 z32 z32 (fun _ => ?_) (fun x y S e _ e2 => (by cases e; cases e2)) fun x y S e _ e2 => (by cases e; cases e2)
  refine ⟨_, _, _, _, _, _, _, _, _, _, Z32, z32, _, _, Z32, z32, Z32, z32, _, _, _, _, rfl, ?_⟩
  refine cAsk x13 st13.spl z32 z32 z32 (fun _ => ?_) (fun _ _ _ _ _ _ e => absurd e (by decide)) fun _ _ _ _ _ _ lv i hlv hi h4 _ => (by omega)
  refine ⟨_, _, _, _, _, _, _, _, _, _, Z32, z32, _, _, Z32, z32, Z32, z32, _, _, _, _, rfl, ?_⟩
  refine cAsk x13 st13.spl z32 z32 z32 (fun _ => ?_) (fun _ _ _ _ _ _ e => absurd e (by decide)) fun _ _ _ _ _ _ lv i hlv hi h4 h5 => (by
    have hlv : lv = 1 := by omega
    have hi : i = 2 := by omega
    subst hlv hi
    exact absurd h5 (by decide))
  refine ⟨_, _, _, _, _, _, _, _, _, _, Z32, z32, _, _, Z32, z32, Z32, z32, _, _, _, _, rfl, ?_⟩
  have hn31 : (textsT []).length ≤ 100000 := by rw [texts_len]; decide
  refine cTickF (v := farV 67 a c) x13 st13.spl (far_ok (hvw.sub (s110))) at67 hn31 fun g14 N14 h14 aG cG LG x14 _ _ st14 => ⟨_, _, _, rfl, ?_⟩
  rw [tk67] at x14
  refine cCopy x14 st14.spl (fun e => by cases e) fun x y S e => ?_
  cases e
  refine ⟨_, bi (nd [] 1), by rw [bi_len, nd_len], _, rfl, ?_⟩
  refine cTickF (v := farV 68 a c) x14 st14.spl (far_ok (hvw.sub ((s110).tr st14.gs))) at68 hn31 fun g15 N15 h15 aH cH LH x15 _ _ st15 => ⟨_, _, _, rfl, ?_⟩
  rw [tk68] at x15
  refine cCopy x15 st15.spl (fun e => by cases e) fun x y S e => ?_
  cases e
  refine ⟨_, bi (nd [] 1), by rw [bi_len, nd_len], _, rfl, ?_⟩
  refine cAck x15 st15.spl z32 z32 z32 fun g16 h16 x16 st16 => ⟨_, rfl, ?_⟩
  rw [ack_to rfl (by decide)] at x16
  refine cTickF (v := farV 68 a c) x16 st16.spl (far_ok (hvw.sub ((((s110).tr st14.gs).tr st15.gs).tr st16.gs))) at68 (by show (textsT [] ++ textsT []).length ≤ _; rw [List.length_append, texts_len]; decide) fun g17 N17 h17 aI cI LI x17 _ _ st17 => ⟨_, _, _, rfl, ?_⟩
  rw [tick_place (a := 68) (e := 1) rfl ⟨rfl, rfl⟩] at x17
  refine cCopy x17 st17.spl (fun _ => ⟨_, Z32, z32, _, rfl, fun _ => wk20 ?_ hk, fun e => ?_⟩) fun x y S e => by cases e
  · exact s1.tr ((((((s110).tr st14.gs).tr st15.gs).tr st16.gs).tr st17.gh))
  · simp at e
end TL
