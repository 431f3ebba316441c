/-
  The functions of the program as predicates on heap fragments, each tied to its code (a part). No condition.
-/
import Derived.Test.YtmcgndbfoebcnaaGreatTextA
namespace TL
open Go Go.Proofs
/- (twinlock/twinlockref13.Map).Get -/
def F_ref13_Map_Get (mA : Option Addr) (mN mC : Nat) (p : ByteArray) (K : Value → PH → Prop) (h : PH) : Prop :=
  CallH Tryz.prog id_ref13_Map_find [.agg #[.slice mA mN mC], .string p] (fun v h1 =>
    ∃ t0 : Int, ∃ t1 : Bool, v = .tuple #[.int .i64 t0, .bool t1] ∧
    (((!t1) = true →
        K (.tuple #[.string (⟨#[]⟩ : ByteArray), .bool false]) h1) ∧
      ((!t1) = false →
        ∃ bv ov : Nat, (mA = some ⟨bv, ov, none⟩ ∧ 0 ≤ t0 ∧ t0 < (mN : Nat)) ∧
        ∃ t : ByteArray, (h1.rds bv ((ov + t0.toNat * 2) + 1) 1 = some [.string t]) ∧
        K (.tuple #[.string t, .bool true]) h1))) h
theorem F_ref13_Map_Get_eq {mA : Option Addr} {mN mC : Nat} {p : ByteArray} {K : Value → PH → Prop} {h : PH} : @Eq Prop (F_ref13_Map_Get mA mN mC p K h) (denF Tryz.prog Tryz.f21 ⟨[2], [], [], []⟩ [.agg [.one (.slice mA mN mC)], .v (.string p)] K h) := by
  kernel_rfl
theorem F_ref13_Map_Get_ok {mA : Option Addr} {mN mC : Nat} {p : ByteArray}  {K : Value → PH → Prop} {h : PH} (hh : F_ref13_Map_Get mA mN mC p K h) : CallH Tryz.prog id_ref13_Map_Get [.agg #[.slice mA mN mC], .string p] K h :=
  denF_sound' Tryz.func21 (H := ⟨[2], [], [], []⟩) (xs := [.agg [.one (.slice mA mN mC)], .v (.string p)]) (by kernel_rfl) (⟨⟨rfl, trivial⟩, rfl, trivial⟩) (den_of F_ref13_Map_Get_eq hh)

/- twinlock/twinlockref11.Cut -/
def F_ref11_Cut (p : ByteArray) (K : Value → PH → Prop) (h : PH) : Prop :=
  LoopP (T := Int × Unit) (fun Jv st h1 =>
    (((decide (st.1 < (p.size : Int))) = true →
        (0 ≤ st.1 ∧ st.1 < (ByteArray.size p : Nat)) ∧
        ((((byteAt p st.1) == (47 : Int)) = true →
            (0 ≤ (0 : Int) ∧ (0 : Int) ≤ st.1 ∧ st.1 ≤ (ByteArray.size p : Nat)) ∧
            CallH Tryz.prog id_ref11_Named [.string (subS p (0 : Int) st.1)] (fun v h2 =>
              ∃ t : Bool, v = .bool t ∧
              ((t = true → 0 ≤ (IntKind.wrap .i64 (st.1 + (1 : Int))) ∧ (IntKind.wrap .i64 (st.1 + (1 : Int))) ≤ ((ByteArray.size p : Nat) : Int) ∧ ((ByteArray.size p : Nat) : Int) ≤ (ByteArray.size p : Nat))) ∧
              ((t = true →
                  CallH Tryz.prog id_ref11_Key [.string (subS p (IntKind.wrap .i64 (st.1 + (1 : Int))) ((ByteArray.size p : Nat) : Int))] (fun v_1 h3 =>
                    ∃ t_1 : Bool, v_1 = .bool t_1 ∧
                    ((t_1 = true →
                        (0 ≤ (0 : Int) ∧ (0 : Int) ≤ st.1 ∧ st.1 ≤ (ByteArray.size p : Nat)) ∧
                        (0 ≤ (IntKind.wrap .i64 (st.1 + (1 : Int))) ∧ (IntKind.wrap .i64 (st.1 + (1 : Int))) ≤ ((ByteArray.size p : Nat) : Int) ∧ ((ByteArray.size p : Nat) : Int) ≤ (ByteArray.size p : Nat)) ∧
                        K (.tuple #[.string (subS p (0 : Int) st.1), .string (subS p (IntKind.wrap .i64 (st.1 + (1 : Int))) ((ByteArray.size p : Nat) : Int)), .bool true]) h3) ∧
                      (t_1 = false →
                        K (.tuple #[.string (⟨#[]⟩ : ByteArray), .string (⟨#[]⟩ : ByteArray), .bool false]) h3))) h2) ∧
                (t = false →
                  K (.tuple #[.string (⟨#[]⟩ : ByteArray), .string (⟨#[]⟩ : ByteArray), .bool false]) h2))) h1) ∧
          (((byteAt p st.1) == (47 : Int)) = false →
            Jv ((IntKind.wrap .i64 (st.1 + (1 : Int))), ()) h1))) ∧
      ((decide (st.1 < (p.size : Int))) = false →
        K (.tuple #[.string (⟨#[]⟩ : ByteArray), .string (⟨#[]⟩ : ByteArray), .bool false]) h1))) ((0 : Int), ()) h
theorem F_ref11_Cut_eq {p : ByteArray} {K : Value → PH → Prop} {h : PH} : @Eq Prop (F_ref11_Cut p K h) (denF Tryz.prog Tryz.f22 ⟨[], [], [(0, ⟨[(5, .int .i64)], [], []⟩)], []⟩ [.v (.string p)] K h) := by
  kernel_rfl
theorem F_ref11_Cut_ok {p : ByteArray}  {K : Value → PH → Prop} {h : PH} (hh : F_ref11_Cut p K h) : CallH Tryz.prog id_ref11_Cut [.string p] K h :=
  denF_sound' Tryz.func22 (H := ⟨[], [], [(0, ⟨[(5, .int .i64)], [], []⟩)], []⟩) (xs := [.v (.string p)]) (by kernel_rfl) (⟨rfl, trivial⟩) (den_of F_ref11_Cut_eq hh)

/- (twinlock/twinlockref13.Map).With -/
def F_ref13_Map_With (mA : Option Addr) (mN mC : Nat) (p : ByteArray) (v : ByteArray) (K : Value → PH → Prop) (h : PH) : Prop :=
  CallH Tryz.prog id_ref13_Map_find [.agg #[.slice mA mN mC], .string p] (fun v_1 h1 =>
    ∃ t0 : Int, ∃ t1 : Bool, v_1 = .tuple #[.int .i64 t0, .bool t1] ∧
    (0 ≤ (0 : Int) ∧ (0 : Int) ≤ t0 ∧ t0 ≤ ((mC : Nat) : Int) ∧ ((mC : Nat) : Int) ≤ (mC : Nat)) ∧
    ∃ vs : List Value, srcH h1 (slA mA 2 (0 : Int) ((mC : Nat) : Int)) ((t0.toNat - (0 : Int).toNat) * 2) vs ∧
    appH T_api_Pair 2 32 [.string (⟨#[]⟩ : ByteArray), .string (⟨#[]⟩ : ByteArray)] none 0 0 (t0.toNat - (0 : Int).toNat) vs (fun tA tN tC h2 =>
      appH T_api_Pair 2 32 [.string (⟨#[]⟩ : ByteArray), .string (⟨#[]⟩ : ByteArray)] tA tN tC 1 [.string p, .string v] (fun tA_1 tN_1 tC_1 h3 =>
        ((t1 = true →
            (0 ≤ (IntKind.wrap .i64 (t0 + (1 : Int))) ∧ (IntKind.wrap .i64 (t0 + (1 : Int))) ≤ ((mN : Nat) : Int) ∧ ((mN : Nat) : Int) ≤ ((mC : Nat) : Int) ∧ ((mC : Nat) : Int) ≤ (mC : Nat)) ∧
            ∃ vs_1 : List Value, srcH h3 (slA mA 2 (IntKind.wrap .i64 (t0 + (1 : Int))) ((mC : Nat) : Int)) ((((mN : Nat) : Int).toNat - (IntKind.wrap .i64 (t0 + (1 : Int))).toNat) * 2) vs_1 ∧
            appH T_api_Pair 2 32 [.string (⟨#[]⟩ : ByteArray), .string (⟨#[]⟩ : ByteArray)] tA_1 tN_1 tC_1 (((mN : Nat) : Int).toNat - (IntKind.wrap .i64 (t0 + (1 : Int))).toNat) vs_1 (fun tA_2 tN_2 tC_2 h4 =>
              K (.agg #[.slice tA_2 tN_2 tC_2]) h4) h3) ∧
          (t1 = false →
            (0 ≤ t0 ∧ t0 ≤ ((mN : Nat) : Int) ∧ ((mN : Nat) : Int) ≤ ((mC : Nat) : Int) ∧ ((mC : Nat) : Int) ≤ (mC : Nat)) ∧
            ∃ vs_2 : List Value, srcH h3 (slA mA 2 t0 ((mC : Nat) : Int)) ((((mN : Nat) : Int).toNat - t0.toNat) * 2) vs_2 ∧
            appH T_api_Pair 2 32 [.string (⟨#[]⟩ : ByteArray), .string (⟨#[]⟩ : ByteArray)] tA_1 tN_1 tC_1 (((mN : Nat) : Int).toNat - t0.toNat) vs_2 (fun tA_3 tN_3 tC_3 h5 =>
              K (.agg #[.slice tA_3 tN_3 tC_3]) h5) h3))) h2) h1) h
theorem F_ref13_Map_With_eq {mA : Option Addr} {mN mC : Nat} {p : ByteArray} {v : ByteArray} {K : Value → PH → Prop} {h : PH} : @Eq Prop (F_ref13_Map_With mA mN mC p v K h) (denF Tryz.prog Tryz.f23 ⟨[3, 6, 9, 29], [], [], []⟩ [.agg [.one (.slice mA mN mC)], .v (.string p), .v (.string v)] K h) := by
  kernel_rfl
theorem F_ref13_Map_With_ok {mA : Option Addr} {mN mC : Nat} {p : ByteArray} {v : ByteArray}  {K : Value → PH → Prop} {h : PH} (hh : F_ref13_Map_With mA mN mC p v K h) : CallH Tryz.prog id_ref13_Map_With [.agg #[.slice mA mN mC], .string p, .string v] K h :=
  denF_sound' Tryz.func23 (H := ⟨[3, 6, 9, 29], [], [], []⟩) (xs := [.agg [.one (.slice mA mN mC)], .v (.string p), .v (.string v)]) (by kernel_rfl) (⟨⟨rfl, trivial⟩, rfl, rfl, trivial⟩) (den_of F_ref13_Map_With_eq hh)

/- (twinlock/twinlockref13.Map).Without -/
def F_ref13_Map_Without (mA : Option Addr) (mN mC : Nat) (p : ByteArray) (K : Value → PH → Prop) (h : PH) : Prop :=
  CallH Tryz.prog id_ref13_Map_find [.agg #[.slice mA mN mC], .string p] (fun v h1 =>
    ∃ t0 : Int, ∃ t1 : Bool, v = .tuple #[.int .i64 t0, .bool t1] ∧
    (((!t1) = true →
        K (.agg #[.slice mA mN mC]) h1) ∧
      ((!t1) = false →
        (0 ≤ (0 : Int) ∧ (0 : Int) ≤ t0 ∧ t0 ≤ ((mC : Nat) : Int) ∧ ((mC : Nat) : Int) ≤ (mC : Nat)) ∧
        ∃ vs : List Value, srcH h1 (slA mA 2 (0 : Int) ((mC : Nat) : Int)) ((t0.toNat - (0 : Int).toNat) * 2) vs ∧
        appH T_api_Pair 2 32 [.string (⟨#[]⟩ : ByteArray), .string (⟨#[]⟩ : ByteArray)] none 0 0 (t0.toNat - (0 : Int).toNat) vs (fun tA tN tC h2 =>
          (0 ≤ (IntKind.wrap .i64 (t0 + (1 : Int))) ∧ (IntKind.wrap .i64 (t0 + (1 : Int))) ≤ ((mN : Nat) : Int) ∧ ((mN : Nat) : Int) ≤ ((mC : Nat) : Int) ∧ ((mC : Nat) : Int) ≤ (mC : Nat)) ∧
          ∃ vs_1 : List Value, srcH h2 (slA mA 2 (IntKind.wrap .i64 (t0 + (1 : Int))) ((mC : Nat) : Int)) ((((mN : Nat) : Int).toNat - (IntKind.wrap .i64 (t0 + (1 : Int))).toNat) * 2) vs_1 ∧
          appH T_api_Pair 2 32 [.string (⟨#[]⟩ : ByteArray), .string (⟨#[]⟩ : ByteArray)] tA tN tC (((mN : Nat) : Int).toNat - (IntKind.wrap .i64 (t0 + (1 : Int))).toNat) vs_1 (fun tA_1 tN_1 tC_1 h3 =>
            K (.agg #[.slice tA_1 tN_1 tC_1]) h3) h2) h1))) h
theorem F_ref13_Map_Without_eq {mA : Option Addr} {mN mC : Nat} {p : ByteArray} {K : Value → PH → Prop} {h : PH} : @Eq Prop (F_ref13_Map_Without mA mN mC p K h) (denF Tryz.prog Tryz.f26 ⟨[2, 4, 7], [], [], []⟩ [.agg [.one (.slice mA mN mC)], .v (.string p)] K h) := by
  kernel_rfl
theorem F_ref13_Map_Without_ok {mA : Option Addr} {mN mC : Nat} {p : ByteArray}  {K : Value → PH → Prop} {h : PH} (hh : F_ref13_Map_Without mA mN mC p K h) : CallH Tryz.prog id_ref13_Map_Without [.agg #[.slice mA mN mC], .string p] K h :=
  denF_sound' Tryz.func26 (H := ⟨[2, 4, 7], [], [], []⟩) (xs := [.agg [.one (.slice mA mN mC)], .v (.string p)]) (by kernel_rfl) (⟨⟨rfl, trivial⟩, rfl, trivial⟩) (den_of F_ref13_Map_Without_eq hh)

/- twinlock/twinlocklaw13.GreatPairs -/
def F_law13_GreatPairs (lA : Option Addr) (lN _ : Nat) (K : Value → PH → Prop) (h : PH) : Prop :=
  (((decide (((lN : Nat) : Int) > (200 : Int))) = true →
      K (.bool true) h) ∧
    ((decide (((lN : Nat) : Int) > (200 : Int))) = false →
      LoopP (T := Int × Unit) (fun Jv st h1 =>
        (((decide (st.1 < ((lN : Nat) : Int))) = true →
            ∃ bv ov : Nat, (lA = some ⟨bv, ov, none⟩ ∧ 0 ≤ st.1 ∧ st.1 < (lN : Nat)) ∧
            ∃ t : ByteArray, (h1.rds bv (ov + st.1.toNat * 2) 1 = some [.string t]) ∧
            ∃ bv_1 ov_1 : Nat, (((decide ((t.size : Int) > (1000 : Int))) = false → lA = some ⟨bv_1, ov_1, none⟩ ∧ 0 ≤ st.1 ∧ st.1 < (lN : Nat))) ∧
            ∃ t_1 : ByteArray, (((decide ((t.size : Int) > (1000 : Int))) = false → h1.rds bv_1 ((ov_1 + st.1.toNat * 2) + 1) 1 = some [.string t_1])) ∧
            ((((decide ((t.size : Int) > (1000 : Int))) || (decide ((t_1.size : Int) > (1000 : Int)))) = true →
                K (.bool true) h1) ∧
              (((decide ((t.size : Int) > (1000 : Int))) || (decide ((t_1.size : Int) > (1000 : Int)))) = false →
                Jv ((IntKind.wrap .i64 (st.1 + (1 : Int))), ()) h1))) ∧
          ((decide (st.1 < ((lN : Nat) : Int))) = false →
            K (.bool false) h1))) ((0 : Int), ()) h))
theorem F_law13_GreatPairs_eq {lA : Option Addr} {lN lC : Nat} {K : Value → PH → Prop} {h : PH} : @Eq Prop (F_law13_GreatPairs lA lN lC K h) (denF Tryz.prog Tryz.f28 ⟨[], [], [(0, ⟨[(3, .int .i64)], [], []⟩)], []⟩ [.v (.slice lA lN lC)] K h) := by
  kernel_rfl
theorem F_law13_GreatPairs_ok {lA : Option Addr} {lN lC : Nat}  {K : Value → PH → Prop} {h : PH} (hh : F_law13_GreatPairs lA lN lC K h) : CallH Tryz.prog id_law13_GreatPairs [.slice lA lN lC] K h :=
  denF_sound' Tryz.func28 (H := ⟨[], [], [(0, ⟨[(3, .int .i64)], [], []⟩)], []⟩) (xs := [.v (.slice lA lN lC)]) (by kernel_rfl) (⟨rfl, trivial⟩) (den_of F_law13_GreatPairs_eq hh)

/- twinlock/twinlockref14.May -/
def F_ref14_May (lA : Option Addr) (lN _ : Nat) (K : Value → PH → Prop) (h : PH) : Prop :=
  LoopP (T := Int × Unit) (fun Jv st h1 =>
    (((decide (st.1 < ((lN : Nat) : Int))) = true →
        ∃ bv ov : Nat, (lA = some ⟨bv, ov, none⟩ ∧ 0 ≤ st.1 ∧ st.1 < (lN : Nat)) ∧
        ∃ t : ByteArray, (h1.rds bv (ov + st.1.toNat * 2) 1 = some [.string t]) ∧
        CallH Tryz.prog id_ref11_Cut [.string t] (fun v h2 =>
          ∃ t0 : ByteArray, ∃ t1 : ByteArray, ∃ t2 : Bool, v = .tuple #[.string t0, .string t1, .bool t2] ∧
          ∃ bv_1 ov_1 : Nat, (((!t2) = false → lA = some ⟨bv_1, ov_1, none⟩ ∧ 0 ≤ st.1 ∧ st.1 < (lN : Nat))) ∧
          ∃ t_1 : ByteArray, (((!t2) = false → h2.rds bv_1 ((ov_1 + st.1.toNat * 2) + 1) 1 = some [.string t_1])) ∧
          ((((!t2) || (decide ((t_1.size : Int) > (32 : Int)))) = true →
              K (.bool false) h2) ∧
            (((!t2) || (decide ((t_1.size : Int) > (32 : Int)))) = false →
              ∃ bv_2 ov_2 : Nat, (((decide (st.1 > (0 : Int))) = true → lA = some ⟨bv_2, ov_2, none⟩ ∧ 0 ≤ (IntKind.wrap .i64 (st.1 - (1 : Int))) ∧ (IntKind.wrap .i64 (st.1 - (1 : Int))) < (lN : Nat))) ∧
              ∃ t_2 : ByteArray, (((decide (st.1 > (0 : Int))) = true → h2.rds bv_2 (ov_2 + (IntKind.wrap .i64 (st.1 - (1 : Int))).toNat * 2) 1 = some [.string t_2])) ∧
              ∃ bv_3 ov_3 : Nat, (((decide (st.1 > (0 : Int))) = true → lA = some ⟨bv_3, ov_3, none⟩ ∧ 0 ≤ st.1 ∧ st.1 < (lN : Nat))) ∧
              ∃ t_3 : ByteArray, (((decide (st.1 > (0 : Int))) = true → h2.rds bv_3 (ov_3 + st.1.toNat * 2) 1 = some [.string t_3])) ∧
              (((decide (st.1 > (0 : Int))) = true →
                  CallH Tryz.prog id_ref11_Less [.string t_2, .string t_3] (fun v_1 h3 =>
                    ∃ t_4 : Bool, v_1 = .bool t_4 ∧
                    (((!t_4) = true →
                        K (.bool false) h3) ∧
                      ((!t_4) = false →
                        Jv ((IntKind.wrap .i64 (st.1 + (1 : Int))), ()) h3))) h2) ∧
                ((decide (st.1 > (0 : Int))) = false →
                  Jv ((IntKind.wrap .i64 (st.1 + (1 : Int))), ()) h2))))) h1) ∧
      ((decide (st.1 < ((lN : Nat) : Int))) = false →
        K (.bool true) h1))) ((0 : Int), ()) h
theorem F_ref14_May_eq {lA : Option Addr} {lN lC : Nat} {K : Value → PH → Prop} {h : PH} : @Eq Prop (F_ref14_May lA lN lC K h) (denF Tryz.prog Tryz.f30 ⟨[], [], [(0, ⟨[(3, .int .i64)], [], []⟩)], []⟩ [.v (.slice lA lN lC)] K h) := by
  kernel_rfl
theorem F_ref14_May_ok {lA : Option Addr} {lN lC : Nat}  {K : Value → PH → Prop} {h : PH} (hh : F_ref14_May lA lN lC K h) : CallH Tryz.prog id_ref14_May [.slice lA lN lC] K h :=
  denF_sound' Tryz.func30 (H := ⟨[], [], [(0, ⟨[(3, .int .i64)], [], []⟩)], []⟩) (xs := [.v (.slice lA lN lC)]) (by kernel_rfl) (⟨rfl, trivial⟩) (den_of F_ref14_May_eq hh)

/- twinlock/twinlockref13.Same -/
def F_ref13_Same (aA : Option Addr) (aN _ : Nat) (bA : Option Addr) (bN _ : Nat) (K : Value → PH → Prop) (h : PH) : Prop :=
  (((((aN : Nat) : Int) != ((bN : Nat) : Int)) = true →
      K (.bool false) h) ∧
    ((((aN : Nat) : Int) != ((bN : Nat) : Int)) = false →
      LoopP (T := Int × Unit) (fun Jv st h1 =>
        (((decide (st.1 < ((aN : Nat) : Int))) = true →
            ∃ bv ov : Nat, (aA = some ⟨bv, ov, none⟩ ∧ 0 ≤ st.1 ∧ st.1 < (aN : Nat)) ∧
            ∃ t0 : ByteArray, ∃ t1 : ByteArray, (h1.rds bv (ov + st.1.toNat * 2) 2 = some [.string t0, .string t1]) ∧
            ∃ bv_1 ov_1 : Nat, (bA = some ⟨bv_1, ov_1, none⟩ ∧ 0 ≤ st.1 ∧ st.1 < (bN : Nat)) ∧
            ∃ t0_1 : ByteArray, ∃ t1_1 : ByteArray, (h1.rds bv_1 (ov_1 + st.1.toNat * 2) 2 = some [.string t0_1, .string t1_1]) ∧
            (((!((strEq t0 t0_1) && ((strEq t1 t1_1) && true))) = true →
                K (.bool false) h1) ∧
              ((!((strEq t0 t0_1) && ((strEq t1 t1_1) && true))) = false →
                Jv ((IntKind.wrap .i64 (st.1 + (1 : Int))), ()) h1))) ∧
          ((decide (st.1 < ((aN : Nat) : Int))) = false →
            K (.bool true) h1))) ((0 : Int), ()) h))
theorem F_ref13_Same_eq {aA : Option Addr} {aN aC : Nat} {bA : Option Addr} {bN bC : Nat} {K : Value → PH → Prop} {h : PH} : @Eq Prop (F_ref13_Same aA aN aC bA bN bC K h) (denF Tryz.prog Tryz.f45 ⟨[], [], [(0, ⟨[(5, .int .i64)], [], []⟩)], []⟩ [.v (.slice aA aN aC), .v (.slice bA bN bC)] K h) := by
  kernel_rfl
theorem F_ref13_Same_ok {aA : Option Addr} {aN aC : Nat} {bA : Option Addr} {bN bC : Nat}  {K : Value → PH → Prop} {h : PH} (hh : F_ref13_Same aA aN aC bA bN bC K h) : CallH Tryz.prog id_ref13_Same [.slice aA aN aC, .slice bA bN bC] K h :=
  denF_sound' Tryz.func45 (H := ⟨[], [], [(0, ⟨[(5, .int .i64)], [], []⟩)], []⟩) (xs := [.v (.slice aA aN aC), .v (.slice bA bN bC)]) (by kernel_rfl) (⟨rfl, rfl, trivial⟩) (den_of F_ref13_Same_eq hh)

/- twinlock/twinlockref15.Collides -/
def F_ref15_Collides (lA : Option Addr) (lN _ : Nat) (K : Value → PH → Prop) (h : PH) : Prop :=
  newH h (.map #[] 0) fun bv h1 =>
  LoopP (T := Int × Unit) (fun Jv st h2 =>
    (((decide (st.1 < ((lN : Nat) : Int))) = true →
        ∃ bv_1 ov : Nat, (lA = some ⟨bv_1, ov, none⟩ ∧ 0 ≤ st.1 ∧ st.1 < (lN : Nat)) ∧
        ∃ t : ByteArray, (h2.rds bv_1 (ov + st.1.toNat * 1) 1 = some [.string t]) ∧
        CallH Tryz.prog id_ref02_Sum [.string t] (fun v h3 =>
          ∃ hv : List Int, hv.length = 32 ∧ v = .agg ((hv.map (Value.int .u8) ++ [])).toArray ∧
          ∃ k : Int, ∃ ok : Bool, lkH (.arr .u8 32) h3 (some bv) (.agg ((hv.map (Value.int .u8) ++ [])).toArray) (.int .i64 (0 : Int)) (.int .i64 k) ok ∧
          ∃ bv_2 ov_1 : Nat, (((decide (k > (0 : Int))) = true → lA = some ⟨bv_2, ov_1, none⟩ ∧ 0 ≤ (IntKind.wrap .i64 (k - (1 : Int))) ∧ (IntKind.wrap .i64 (k - (1 : Int))) < (lN : Nat))) ∧
          ∃ t_1 : ByteArray, (((decide (k > (0 : Int))) = true → h3.rds bv_2 (ov_1 + (IntKind.wrap .i64 (k - (1 : Int))).toNat * 1) 1 = some [.string t_1])) ∧
          ∃ bv_3 ov_2 : Nat, (((decide (k > (0 : Int))) = true → lA = some ⟨bv_3, ov_2, none⟩ ∧ 0 ≤ st.1 ∧ st.1 < (lN : Nat))) ∧
          ∃ t_2 : ByteArray, (((decide (k > (0 : Int))) = true → h3.rds bv_3 (ov_2 + st.1.toNat * 1) 1 = some [.string t_2])) ∧
          ((((decide (k > (0 : Int))) && (!(strEq t_1 t_2))) = true →
              K (.bool true) h3) ∧
            (((decide (k > (0 : Int))) && (!(strEq t_1 t_2))) = false →
              muH (.arr .u8 32) h3 (some bv) (.agg ((hv.map (Value.int .u8) ++ [])).toArray) (.int .i64 (IntKind.wrap .i64 (st.1 + (1 : Int)))) fun h4 =>
              Jv ((IntKind.wrap .i64 (st.1 + (1 : Int))), ()) h4))) h2) ∧
      ((decide (st.1 < ((lN : Nat) : Int))) = false →
        K (.bool false) h2))) ((0 : Int), ()) h1
theorem F_ref15_Collides_eq {lA : Option Addr} {lN lC : Nat} {K : Value → PH → Prop} {h : PH} : @Eq Prop (F_ref15_Collides lA lN lC K h) (denF Tryz.prog Tryz.f46 ⟨[5], [], [(0, ⟨[(4, .int .i64)], [], []⟩)], []⟩ [.v (.slice lA lN lC)] K h) := by
  kernel_rfl
theorem F_ref15_Collides_ok {lA : Option Addr} {lN lC : Nat}  {K : Value → PH → Prop} {h : PH} (hh : F_ref15_Collides lA lN lC K h) : CallH Tryz.prog id_ref15_Collides [.slice lA lN lC] K h :=
  denF_sound' Tryz.func46 (H := ⟨[5], [], [(0, ⟨[(4, .int .i64)], [], []⟩)], []⟩) (xs := [.v (.slice lA lN lC)]) (by kernel_rfl) (⟨rfl, trivial⟩) (den_of F_ref15_Collides_eq hh)

/- twinlock/twinlockref15.Texts -/
def F_ref15_Texts (lA : Option Addr) (lN lC : Nat) (K : Value → PH → Prop) (h : PH) : Prop :=
  LoopP (T := (Option Addr × Nat × Nat) × Int × Unit) (fun Jv st h1 =>
    (((decide (st.2.1 < (16 : Int))) = true →
        CallH Tryz.prog id_ref15_LeafText [.slice lA lN lC, .int .i64 st.2.1] (fun v h2 =>
          ∃ t : ByteArray, v = .string t ∧
          appH 9 1 16 [.string (⟨#[]⟩ : ByteArray)] st.1.1 st.1.2.1 st.1.2.2 1 [.string t] (fun outA outN outC h3 =>
            Jv ((outA, outN, outC), (IntKind.wrap .i64 (st.2.1 + (1 : Int))), ()) h3) h2) h1) ∧
      ((decide (st.2.1 < (16 : Int))) = false →
        CallH Tryz.prog id_ref15_Levels [.slice lA lN lC] (fun v_1 h4 =>
          ∃ (levelsA : Option Addr) (levelsN levelsC : Nat), v_1 = .slice levelsA levelsN levelsC ∧
          LoopP (T := (Option Addr × Nat × Nat) × Int × Unit) (fun Jv_1 st_1 h5 =>
            (((decide (st_1.2.1 ≥ (0 : Int))) = true →
                LoopP (T := (Option Addr × Nat × Nat) × Int × Unit) (fun Jv_2 st_2 h6 =>
                  ∃ bv ov : Nat, (levelsA = some ⟨bv, ov, none⟩ ∧ 0 ≤ st_1.2.1 ∧ st_1.2.1 < (levelsN : Nat)) ∧
                  ∃ (tA : Option Addr) (tN tC : Nat), (h6.rds bv (ov + st_1.2.1.toNat * 1) 1 = some [.slice tA tN tC]) ∧
                  (((decide (st_2.2.1 < ((tN : Nat) : Int))) = true →
                      ∃ bv_1 ov_1 : Nat, (levelsA = some ⟨bv_1, ov_1, none⟩ ∧ 0 ≤ (IntKind.wrap .i64 (st_1.2.1 + (1 : Int))) ∧ (IntKind.wrap .i64 (st_1.2.1 + (1 : Int))) < (levelsN : Nat)) ∧
                      ∃ (tA_1 : Option Addr) (tN_1 tC_1 : Nat), (h6.rds bv_1 (ov_1 + (IntKind.wrap .i64 (st_1.2.1 + (1 : Int))).toNat * 1) 1 = some [.slice tA_1 tN_1 tC_1]) ∧
                      ∃ bv_2 ov_2 : Nat, (tA_1 = some ⟨bv_2, ov_2, none⟩ ∧ 0 ≤ (IntKind.wrap .i64 ((2 : Int) * st_2.2.1)) ∧ (IntKind.wrap .i64 ((2 : Int) * st_2.2.1)) < (tN_1 : Nat)) ∧
                      ∃ t_1 : List Int, t_1.length = 32 ∧ (h6.rds bv_2 (ov_2 + (IntKind.wrap .i64 ((2 : Int) * st_2.2.1)).toNat * 32) 32 = some (t_1.map (Value.int .u8) ++ [])) ∧
                      ∃ bv_3 ov_3 : Nat, (levelsA = some ⟨bv_3, ov_3, none⟩ ∧ 0 ≤ (IntKind.wrap .i64 (st_1.2.1 + (1 : Int))) ∧ (IntKind.wrap .i64 (st_1.2.1 + (1 : Int))) < (levelsN : Nat)) ∧
                      ∃ (tA_2 : Option Addr) (tN_2 tC_2 : Nat), (h6.rds bv_3 (ov_3 + (IntKind.wrap .i64 (st_1.2.1 + (1 : Int))).toNat * 1) 1 = some [.slice tA_2 tN_2 tC_2]) ∧
                      ∃ bv_4 ov_4 : Nat, (tA_2 = some ⟨bv_4, ov_4, none⟩ ∧ 0 ≤ (IntKind.wrap .i64 ((IntKind.wrap .i64 ((2 : Int) * st_2.2.1)) + (1 : Int))) ∧ (IntKind.wrap .i64 ((IntKind.wrap .i64 ((2 : Int) * st_2.2.1)) + (1 : Int))) < (tN_2 : Nat)) ∧
                      ∃ t_2 : List Int, t_2.length = 32 ∧ (h6.rds bv_4 (ov_4 + (IntKind.wrap .i64 ((IntKind.wrap .i64 ((2 : Int) * st_2.2.1)) + (1 : Int))).toNat * 32) 32 = some (t_2.map (Value.int .u8) ++ [])) ∧
                      CallH Tryz.prog id_ref15_InnerText [.agg ((t_1.map (Value.int .u8) ++ [])).toArray, .agg ((t_2.map (Value.int .u8) ++ [])).toArray] (fun v_2 h7 =>
                        ∃ t_3 : ByteArray, v_2 = .string t_3 ∧
                        appH 9 1 16 [.string (⟨#[]⟩ : ByteArray)] st_2.1.1 st_2.1.2.1 st_2.1.2.2 1 [.string t_3] (fun outA_1 outN_1 outC_1 h8 =>
                          Jv_2 ((outA_1, outN_1, outC_1), (IntKind.wrap .i64 (st_2.2.1 + (1 : Int))), ()) h8) h7) h6) ∧
                    ((decide (st_2.2.1 < ((tN : Nat) : Int))) = false →
                      Jv_1 ((st_2.1.1, st_2.1.2.1, st_2.1.2.2), (IntKind.wrap .i64 (st_1.2.1 - (1 : Int))), ()) h6))) ((st_1.1.1, st_1.1.2.1, st_1.1.2.2), (0 : Int), ()) h5) ∧
              ((decide (st_1.2.1 ≥ (0 : Int))) = false →
                K (.slice st_1.1.1 st_1.1.2.1 st_1.1.2.2) h5))) ((st.1.1, st.1.2.1, st.1.2.2), (3 : Int), ()) h4) h1))) ((none, 0, 0), (0 : Int), ()) h
theorem F_ref15_Texts_eq {lA : Option Addr} {lN lC : Nat} {K : Value → PH → Prop} {h : PH} : @Eq Prop (F_ref15_Texts lA lN lC K h) (denF Tryz.prog Tryz.f49 ⟨[16, 54], [], [(0, ⟨[(3, .slice), (4, .int .i64)], [], []⟩), (2, ⟨[(3, .slice), (6, .int .i64)], [], []⟩), (4, ⟨[(3, .slice), (7, .int .i64)], [], []⟩)], []⟩ [.v (.slice lA lN lC)] K h) := by
  kernel_rfl
theorem F_ref15_Texts_ok {lA : Option Addr} {lN lC : Nat}  {K : Value → PH → Prop} {h : PH} (hh : F_ref15_Texts lA lN lC K h) : CallH Tryz.prog id_ref15_Texts [.slice lA lN lC] K h :=
  denF_sound' Tryz.func49 (H := ⟨[16, 54], [], [(0, ⟨[(3, .slice), (4, .int .i64)], [], []⟩), (2, ⟨[(3, .slice), (6, .int .i64)], [], []⟩), (4, ⟨[(3, .slice), (7, .int .i64)], [], []⟩)], []⟩) (xs := [.v (.slice lA lN lC)]) (by kernel_rfl) (⟨rfl, trivial⟩) (den_of F_ref15_Texts_eq hh)

/- twinlock/twinlocklaw13.SameTexts -/
def F_law13_SameTexts (aA : Option Addr) (aN _ : Nat) (bA : Option Addr) (bN _ : Nat) (K : Value → PH → Prop) (h : PH) : Prop :=
  (((((aN : Nat) : Int) != ((bN : Nat) : Int)) = true →
      K (.bool false) h) ∧
    ((((aN : Nat) : Int) != ((bN : Nat) : Int)) = false →
      LoopP (T := Int × Unit) (fun Jv st h1 =>
        (((decide (st.1 < ((aN : Nat) : Int))) = true →
            ∃ bv ov : Nat, (aA = some ⟨bv, ov, none⟩ ∧ 0 ≤ st.1 ∧ st.1 < (aN : Nat)) ∧
            ∃ t : ByteArray, (h1.rds bv (ov + st.1.toNat * 1) 1 = some [.string t]) ∧
            ∃ bv_1 ov_1 : Nat, (bA = some ⟨bv_1, ov_1, none⟩ ∧ 0 ≤ st.1 ∧ st.1 < (bN : Nat)) ∧
            ∃ t_1 : ByteArray, (h1.rds bv_1 (ov_1 + st.1.toNat * 1) 1 = some [.string t_1]) ∧
            (((!(strEq t t_1)) = true →
                K (.bool false) h1) ∧
              ((!(strEq t t_1)) = false →
                Jv ((IntKind.wrap .i64 (st.1 + (1 : Int))), ()) h1))) ∧
          ((decide (st.1 < ((aN : Nat) : Int))) = false →
            K (.bool true) h1))) ((0 : Int), ()) h))
theorem F_law13_SameTexts_eq {aA : Option Addr} {aN aC : Nat} {bA : Option Addr} {bN bC : Nat} {K : Value → PH → Prop} {h : PH} : @Eq Prop (F_law13_SameTexts aA aN aC bA bN bC K h) (denF Tryz.prog Tryz.f55 ⟨[], [], [(0, ⟨[(5, .int .i64)], [], []⟩)], []⟩ [.v (.slice aA aN aC), .v (.slice bA bN bC)] K h) := by
  kernel_rfl
theorem F_law13_SameTexts_ok {aA : Option Addr} {aN aC : Nat} {bA : Option Addr} {bN bC : Nat}  {K : Value → PH → Prop} {h : PH} (hh : F_law13_SameTexts aA aN aC bA bN bC K h) : CallH Tryz.prog id_law13_SameTexts [.slice aA aN aC, .slice bA bN bC] K h :=
  denF_sound' Tryz.func55 (H := ⟨[], [], [(0, ⟨[(5, .int .i64)], [], []⟩)], []⟩) (xs := [.v (.slice aA aN aC), .v (.slice bA bN bC)]) (by kernel_rfl) (⟨rfl, rfl, trivial⟩) (den_of F_law13_SameTexts_eq hh)

/- twinlock/bucket.Of -/
def F_bucket_Of (p : ByteArray) (K : Value → PH → Prop) (h : PH) : Prop :=
  CallH Tryz.prog id_sha_Sum [.string p] (fun v h1 =>
    ∃ hv : List Int, hv.length = 32 ∧ v = .agg ((hv.map (Value.int .u8) ++ [])).toArray ∧
    K (.int .i64 (IntKind.wrap .i64 (shrV .u8 ((hv.take 1).getD 0 0) (4 : Int)))) h1) h
theorem F_bucket_Of_eq {p : ByteArray} {K : Value → PH → Prop} {h : PH} : @Eq Prop (F_bucket_Of p K h) (denF Tryz.prog Tryz.f56 ⟨[3], [], [], []⟩ [.v (.string p)] K h) := by
  kernel_rfl
theorem F_bucket_Of_ok {p : ByteArray}  {K : Value → PH → Prop} {h : PH} (hh : F_bucket_Of p K h) : CallH Tryz.prog id_bucket_Of [.string p] K h :=
  denF_sound' Tryz.func56 (H := ⟨[3], [], [], []⟩) (xs := [.v (.string p)]) (by kernel_rfl) (⟨rfl, trivial⟩) (den_of F_bucket_Of_eq hh)

/- (twinlock/twinlockref13.Map).find -/
def F_ref13_Map_find (mA : Option Addr) (mN _ : Nat) (p : ByteArray) (K : Value → PH → Prop) (h : PH) : Prop :=
  JoinP (T := Int × Unit) (fun Jv =>
    LoopP (T := Int × Unit) (fun Jv_1 st_1 h2 =>
      ∃ bv ov : Nat, (((decide (st_1.1 < ((mN : Nat) : Int))) = true → mA = some ⟨bv, ov, none⟩ ∧ 0 ≤ st_1.1 ∧ st_1.1 < (mN : Nat))) ∧
      ∃ t : ByteArray, (((decide (st_1.1 < ((mN : Nat) : Int))) = true → h2.rds bv (ov + st_1.1.toNat * 2) 1 = some [.string t])) ∧
      (((decide (st_1.1 < ((mN : Nat) : Int))) = true →
          CallH Tryz.prog id_ref11_Less [.string t, .string p] (fun v h3 =>
            ∃ t_1 : Bool, v = .bool t_1 ∧
            ((t_1 = true →
                Jv_1 ((IntKind.wrap .i64 (st_1.1 + (1 : Int))), ()) h3) ∧
              (t_1 = false →
                Jv (st_1.1, ()) h3))) h2) ∧
        ((decide (st_1.1 < ((mN : Nat) : Int))) = false →
          Jv (st_1.1, ()) h2))) ((0 : Int), ()) h)
  (fun st h1 =>
    ∃ bv_1 ov_1 : Nat, (((decide (st.1 < ((mN : Nat) : Int))) = true → mA = some ⟨bv_1, ov_1, none⟩ ∧ 0 ≤ st.1 ∧ st.1 < (mN : Nat))) ∧
    ∃ t_2 : ByteArray, (((decide (st.1 < ((mN : Nat) : Int))) = true → h1.rds bv_1 (ov_1 + st.1.toNat * 2) 1 = some [.string t_2])) ∧
    K (.tuple #[.int .i64 st.1, .bool ((decide (st.1 < ((mN : Nat) : Int))) && (strEq t_2 p))]) h1)
theorem F_ref13_Map_find_eq {mA : Option Addr} {mN mC : Nat} {p : ByteArray} {K : Value → PH → Prop} {h : PH} : @Eq Prop (F_ref13_Map_find mA mN mC p K h) (denF Tryz.prog Tryz.f90 ⟨[2], [], [(0, ⟨[(6, .int .i64)], [], []⟩)], [(10, ⟨[(6, .int .i64)], [], []⟩)]⟩ [.agg [.one (.slice mA mN mC)], .v (.string p)] K h) := by
  kernel_rfl
theorem F_ref13_Map_find_ok {mA : Option Addr} {mN mC : Nat} {p : ByteArray}  {K : Value → PH → Prop} {h : PH} (hh : F_ref13_Map_find mA mN mC p K h) : CallH Tryz.prog id_ref13_Map_find [.agg #[.slice mA mN mC], .string p] K h :=
  denF_sound' Tryz.func90 (H := ⟨[2], [], [(0, ⟨[(6, .int .i64)], [], []⟩)], [(10, ⟨[(6, .int .i64)], [], []⟩)]⟩) (xs := [.agg [.one (.slice mA mN mC)], .v (.string p)]) (by kernel_rfl) (⟨⟨rfl, trivial⟩, rfl, trivial⟩) (den_of F_ref13_Map_find_eq hh)

/- twinlock/twinlockref11.Named -/
def F_ref11_Named (sv : ByteArray) (K : Value → PH → Prop) (h : PH) : Prop :=
  ((((decide ((sv.size : Int) < (1 : Int))) || (decide ((sv.size : Int) > (8 : Int)))) = true →
      K (.bool false) h) ∧
    (((decide ((sv.size : Int) < (1 : Int))) || (decide ((sv.size : Int) > (8 : Int)))) = false →
      LoopP (T := Int × Unit) (fun Jv st h1 =>
        (((decide (st.1 < (sv.size : Int))) = true →
            (0 ≤ st.1 ∧ st.1 < (ByteArray.size sv : Nat)) ∧
            (((decide ((byteAt sv st.1) < (97 : Int))) = false → 0 ≤ st.1 ∧ st.1 < (ByteArray.size sv : Nat))) ∧
            ((((decide ((byteAt sv st.1) < (97 : Int))) || (decide ((byteAt sv st.1) > (122 : Int)))) = true →
                K (.bool false) h1) ∧
              (((decide ((byteAt sv st.1) < (97 : Int))) || (decide ((byteAt sv st.1) > (122 : Int)))) = false →
                Jv ((IntKind.wrap .i64 (st.1 + (1 : Int))), ()) h1))) ∧
          ((decide (st.1 < (sv.size : Int))) = false →
            K (.bool true) h1))) ((0 : Int), ()) h))
theorem F_ref11_Named_eq {sv : ByteArray} {K : Value → PH → Prop} {h : PH} : @Eq Prop (F_ref11_Named sv K h) (denF Tryz.prog Tryz.f91 ⟨[], [], [(0, ⟨[(3, .int .i64)], [], []⟩)], []⟩ [.v (.string sv)] K h) := by
  kernel_rfl
theorem F_ref11_Named_ok {sv : ByteArray}  {K : Value → PH → Prop} {h : PH} (hh : F_ref11_Named sv K h) : CallH Tryz.prog id_ref11_Named [.string sv] K h :=
  denF_sound' Tryz.func91 (H := ⟨[], [], [(0, ⟨[(3, .int .i64)], [], []⟩)], []⟩) (xs := [.v (.string sv)]) (by kernel_rfl) (⟨rfl, trivial⟩) (den_of F_ref11_Named_eq hh)

/- twinlock/twinlockref11.Key -/
def F_ref11_Key (sv : ByteArray) (K : Value → PH → Prop) (h : PH) : Prop :=
  ((((decide ((sv.size : Int) < (1 : Int))) || (decide ((sv.size : Int) > (24 : Int)))) = true →
      K (.bool false) h) ∧
    (((decide ((sv.size : Int) < (1 : Int))) || (decide ((sv.size : Int) > (24 : Int)))) = false →
      LoopP (T := Int × Unit) (fun Jv st h1 =>
        (((decide (st.1 < (sv.size : Int))) = true →
            (0 ≤ st.1 ∧ st.1 < (ByteArray.size sv : Nat)) ∧
            ((((byteAt sv st.1) == (0 : Int)) = false → 0 ≤ st.1 ∧ st.1 < (ByteArray.size sv : Nat))) ∧
            (((((byteAt sv st.1) == (0 : Int)) || ((byteAt sv st.1) == (47 : Int))) = true →
                K (.bool false) h1) ∧
              ((((byteAt sv st.1) == (0 : Int)) || ((byteAt sv st.1) == (47 : Int))) = false →
                Jv ((IntKind.wrap .i64 (st.1 + (1 : Int))), ()) h1))) ∧
          ((decide (st.1 < (sv.size : Int))) = false →
            K (.bool true) h1))) ((0 : Int), ()) h))
theorem F_ref11_Key_eq {sv : ByteArray} {K : Value → PH → Prop} {h : PH} : @Eq Prop (F_ref11_Key sv K h) (denF Tryz.prog Tryz.f92 ⟨[], [], [(0, ⟨[(3, .int .i64)], [], []⟩)], []⟩ [.v (.string sv)] K h) := by
  kernel_rfl
theorem F_ref11_Key_ok {sv : ByteArray}  {K : Value → PH → Prop} {h : PH} (hh : F_ref11_Key sv K h) : CallH Tryz.prog id_ref11_Key [.string sv] K h :=
  denF_sound' Tryz.func92 (H := ⟨[], [], [(0, ⟨[(3, .int .i64)], [], []⟩)], []⟩) (xs := [.v (.string sv)]) (by kernel_rfl) (⟨rfl, trivial⟩) (den_of F_ref11_Key_eq hh)

/- twinlock/path.Cut -/
def F_path_Cut (p : ByteArray) (K : Value → PH → Prop) (h : PH) : Prop :=
  CallH Tryz.prog id_strings_Cut [.string p, .string (⟨#[47]⟩ : ByteArray)] (fun v h1 =>
    ∃ t0 : ByteArray, ∃ t1 : ByteArray, ∃ t2 : Bool, v = .tuple #[.string t0, .string t1, .bool t2] ∧
    (((!t2) = false →
        CallH Tryz.prog id_path_named [.string t0] (fun v_1 h2 =>
          ∃ t : Bool, v_1 = .bool t ∧
          (((!t) = false →
              CallH Tryz.prog id_path_key [.string t1] (fun v_2 h3 =>
                ∃ t_1 : Bool, v_2 = .bool t_1 ∧
                (((!t_1) = true →
                    K (.tuple #[.string (⟨#[]⟩ : ByteArray), .string (⟨#[]⟩ : ByteArray), .bool false]) h3) ∧
                  ((!t_1) = false →
                    K (.tuple #[.string t0, .string t1, .bool true]) h3))) h2) ∧
            ((!t) = true →
              K (.tuple #[.string (⟨#[]⟩ : ByteArray), .string (⟨#[]⟩ : ByteArray), .bool false]) h2))) h1) ∧
      ((!t2) = true →
        K (.tuple #[.string (⟨#[]⟩ : ByteArray), .string (⟨#[]⟩ : ByteArray), .bool false]) h1))) h
theorem F_path_Cut_eq {p : ByteArray} {K : Value → PH → Prop} {h : PH} : @Eq Prop (F_path_Cut p K h) (denF Tryz.prog Tryz.f93 ⟨[], [], [], []⟩ [.v (.string p)] K h) := by
  kernel_rfl
theorem F_path_Cut_ok {p : ByteArray}  {K : Value → PH → Prop} {h : PH} (hh : F_path_Cut p K h) : CallH Tryz.prog id_path_Cut [.string p] K h :=
  denF_sound' Tryz.func93 (H := ⟨[], [], [], []⟩) (xs := [.v (.string p)]) (by kernel_rfl) (⟨rfl, trivial⟩) (den_of F_path_Cut_eq hh)

/- slices.Replace[[]twinlock/api.Pair,twinlock/api.Pair] -/
set_option maxRecDepth 100000 in
def F_slices_Replace_api_Pair_api_Pair (sA : Option Addr) (sN sC : Nat) (i : Int) (j : Int) (vA : Option Addr) (vN vC : Nat) (K : Value → PH → Prop) (h : PH) : Prop :=
  (0 ≤ i ∧ i ≤ j ∧ j ≤ ((sC : Nat) : Int) ∧ ((sC : Nat) : Int) ≤ (sC : Nat)) ∧
  (((i == j) = true →
      CallH Tryz.prog id_slices_Insert_api_Pair_api_Pair [.slice sA sN sC, .int .i64 i, .slice vA vN vC] (fun v h1 =>
        ∃ (tA : Option Addr) (tN tC : Nat), v = .slice tA tN tC ∧
        K (.slice tA tN tC) h1) h) ∧
    ((i == j) = false →
      (((j == ((sN : Nat) : Int)) = true →
          (0 ≤ (0 : Int) ∧ (0 : Int) ≤ i ∧ i ≤ ((sC : Nat) : Int) ∧ ((sC : Nat) : Int) ≤ (sC : Nat)) ∧
          ∃ vs : List Value, srcH h vA (vN * 2) vs ∧
          appH T_api_Pair 2 32 [.string (⟨#[]⟩ : ByteArray), .string (⟨#[]⟩ : ByteArray)] (slA sA 2 (0 : Int) ((sC : Nat) : Int)) (i.toNat - (0 : Int).toNat) (((sC : Nat) : Int).toNat - (0 : Int).toNat) vN vs (fun s2A s2N s2C h2 =>
            (((decide (((s2N : Nat) : Int) < ((sN : Nat) : Int))) = true →
                (0 ≤ ((s2N : Nat) : Int) ∧ ((s2N : Nat) : Int) ≤ ((sN : Nat) : Int) ∧ ((sN : Nat) : Int) ≤ ((sC : Nat) : Int) ∧ ((sC : Nat) : Int) ≤ (sC : Nat)) ∧
                (((((sN : Nat) : Int).toNat - ((s2N : Nat) : Int).toNat) * 2 = 0 →
                    K (.slice s2A s2N s2C) h2) ∧
                  ((((sN : Nat) : Int).toNat - ((s2N : Nat) : Int).toNat) * 2 ≠ 0 → ∃ bv ov : Nat, (slA sA 2 ((s2N : Nat) : Int) ((sC : Nat) : Int)) = some ⟨bv, ov, none⟩ ∧ stH h2 bv ov (List.replicate (((sN : Nat) : Int).toNat - ((s2N : Nat) : Int).toNat) [.string (⟨#[]⟩ : ByteArray), .string (⟨#[]⟩ : ByteArray)]).flatten fun h3 =>
                    K (.slice s2A s2N s2C) h3))) ∧
              ((decide (((s2N : Nat) : Int) < ((sN : Nat) : Int))) = false →
                K (.slice s2A s2N s2C) h2))) h) ∧
        ((j == ((sN : Nat) : Int)) = false →
          (0 ≤ (0 : Int) ∧ (0 : Int) ≤ i ∧ i ≤ ((sC : Nat) : Int) ∧ ((sC : Nat) : Int) ≤ (sC : Nat)) ∧
          (0 ≤ j ∧ j ≤ ((sN : Nat) : Int) ∧ ((sN : Nat) : Int) ≤ ((sC : Nat) : Int) ∧ ((sC : Nat) : Int) ≤ (sC : Nat)) ∧
          (((decide ((IntKind.wrap .i64 ((IntKind.wrap .i64 ((((i.toNat - (0 : Int).toNat) : Nat) : Int) + ((vN : Nat) : Int))) + (((((sN : Nat) : Int).toNat - j.toNat) : Nat) : Int))) > ((sC : Nat) : Int))) = true →
              (0 ≤ (0 : Int) ∧ (0 : Int) ≤ i ∧ i ≤ ((sC : Nat) : Int) ∧ ((sC : Nat) : Int) ≤ (sC : Nat)) ∧
              (0 ≤ (IntKind.wrap .i64 ((IntKind.wrap .i64 ((IntKind.wrap .i64 ((((i.toNat - (0 : Int).toNat) : Nat) : Int) + ((vN : Nat) : Int))) + (((((sN : Nat) : Int).toNat - j.toNat) : Nat) : Int))) - i)) ∧ (IntKind.wrap .i64 ((IntKind.wrap .i64 ((IntKind.wrap .i64 ((((i.toNat - (0 : Int).toNat) : Nat) : Int) + ((vN : Nat) : Int))) + (((((sN : Nat) : Int).toNat - j.toNat) : Nat) : Int))) - i)) * (32 : Nat) ≤ 140737488355328) ∧
              appH T_api_Pair 2 32 [.string (⟨#[]⟩ : ByteArray), .string (⟨#[]⟩ : ByteArray)] (slA sA 2 (0 : Int) ((sC : Nat) : Int)) (i.toNat - (0 : Int).toNat) (((sC : Nat) : Int).toNat - (0 : Int).toNat) ((IntKind.wrap .i64 ((IntKind.wrap .i64 ((IntKind.wrap .i64 ((((i.toNat - (0 : Int).toNat) : Nat) : Int) + ((vN : Nat) : Int))) + (((((sN : Nat) : Int).toNat - j.toNat) : Nat) : Int))) - i))).toNat (List.replicate ((IntKind.wrap .i64 ((IntKind.wrap .i64 ((IntKind.wrap .i64 ((((i.toNat - (0 : Int).toNat) : Nat) : Int) + ((vN : Nat) : Int))) + (((((sN : Nat) : Int).toNat - j.toNat) : Nat) : Int))) - i))).toNat [.string (⟨#[]⟩ : ByteArray), .string (⟨#[]⟩ : ByteArray)]).flatten (fun s2A_1 s2N_1 s2C_1 h4 =>
                (0 ≤ i ∧ i ≤ ((s2N_1 : Nat) : Int) ∧ ((s2N_1 : Nat) : Int) ≤ ((s2C_1 : Nat) : Int) ∧ ((s2C_1 : Nat) : Int) ≤ (s2C_1 : Nat)) ∧
                ∃ vs_1 : List Value, srcH h4 vA (min vN (((s2N_1 : Nat) : Int).toNat - i.toNat) * 2) vs_1 ∧
                ((vs_1.length = 0 →
                    (0 ≤ (IntKind.wrap .i64 (i + ((vN : Nat) : Int))) ∧ (IntKind.wrap .i64 (i + ((vN : Nat) : Int))) ≤ ((s2N_1 : Nat) : Int) ∧ ((s2N_1 : Nat) : Int) ≤ ((s2C_1 : Nat) : Int) ∧ ((s2C_1 : Nat) : Int) ≤ (s2C_1 : Nat)) ∧
                    (0 ≤ j ∧ j ≤ ((sN : Nat) : Int) ∧ ((sN : Nat) : Int) ≤ ((sC : Nat) : Int) ∧ ((sC : Nat) : Int) ≤ (sC : Nat)) ∧
                    ∃ vs_2 : List Value, srcH h4 (slA sA 2 j ((sC : Nat) : Int)) (min (((sN : Nat) : Int).toNat - j.toNat) (((s2N_1 : Nat) : Int).toNat - (IntKind.wrap .i64 (i + ((vN : Nat) : Int))).toNat) * 2) vs_2 ∧
                    ((vs_2.length = 0 →
                        K (.slice s2A_1 s2N_1 s2C_1) h4) ∧
                      (vs_2.length ≠ 0 → ∃ bv_2 ov_2 : Nat, (slA s2A_1 2 (IntKind.wrap .i64 (i + ((vN : Nat) : Int))) ((s2C_1 : Nat) : Int)) = some ⟨bv_2, ov_2, none⟩ ∧ stH h4 bv_2 ov_2 vs_2 fun h6 =>
                        K (.slice s2A_1 s2N_1 s2C_1) h6))) ∧
                  (vs_1.length ≠ 0 → ∃ bv_1 ov_1 : Nat, (slA s2A_1 2 i ((s2C_1 : Nat) : Int)) = some ⟨bv_1, ov_1, none⟩ ∧ stH h4 bv_1 ov_1 vs_1 fun h5 =>
                    (0 ≤ (IntKind.wrap .i64 (i + ((vN : Nat) : Int))) ∧ (IntKind.wrap .i64 (i + ((vN : Nat) : Int))) ≤ ((s2N_1 : Nat) : Int) ∧ ((s2N_1 : Nat) : Int) ≤ ((s2C_1 : Nat) : Int) ∧ ((s2C_1 : Nat) : Int) ≤ (s2C_1 : Nat)) ∧
                    (0 ≤ j ∧ j ≤ ((sN : Nat) : Int) ∧ ((sN : Nat) : Int) ≤ ((sC : Nat) : Int) ∧ ((sC : Nat) : Int) ≤ (sC : Nat)) ∧
                    ∃ vs_3 : List Value, srcH h5 (slA sA 2 j ((sC : Nat) : Int)) (min (((sN : Nat) : Int).toNat - j.toNat) (((s2N_1 : Nat) : Int).toNat - (IntKind.wrap .i64 (i + ((vN : Nat) : Int))).toNat) * 2) vs_3 ∧
                    ((vs_3.length = 0 →
                        K (.slice s2A_1 s2N_1 s2C_1) h5) ∧
                      (vs_3.length ≠ 0 → ∃ bv_3 ov_3 : Nat, (slA s2A_1 2 (IntKind.wrap .i64 (i + ((vN : Nat) : Int))) ((s2C_1 : Nat) : Int)) = some ⟨bv_3, ov_3, none⟩ ∧ stH h5 bv_3 ov_3 vs_3 fun h7 =>
                        K (.slice s2A_1 s2N_1 s2C_1) h7))))) h) ∧
            ((decide ((IntKind.wrap .i64 ((IntKind.wrap .i64 ((((i.toNat - (0 : Int).toNat) : Nat) : Int) + ((vN : Nat) : Int))) + (((((sN : Nat) : Int).toNat - j.toNat) : Nat) : Int))) > ((sC : Nat) : Int))) = false →
              (0 ≤ (0 : Int) ∧ (0 : Int) ≤ (IntKind.wrap .i64 ((IntKind.wrap .i64 ((((i.toNat - (0 : Int).toNat) : Nat) : Int) + ((vN : Nat) : Int))) + (((((sN : Nat) : Int).toNat - j.toNat) : Nat) : Int))) ∧ (IntKind.wrap .i64 ((IntKind.wrap .i64 ((((i.toNat - (0 : Int).toNat) : Nat) : Int) + ((vN : Nat) : Int))) + (((((sN : Nat) : Int).toNat - j.toNat) : Nat) : Int))) ≤ ((sC : Nat) : Int) ∧ ((sC : Nat) : Int) ≤ (sC : Nat)) ∧
              (((decide ((IntKind.wrap .i64 (i + ((vN : Nat) : Int))) ≤ j)) = true →
                  (0 ≤ i ∧ i ≤ ((((IntKind.wrap .i64 ((IntKind.wrap .i64 ((((i.toNat - (0 : Int).toNat) : Nat) : Int) + ((vN : Nat) : Int))) + (((((sN : Nat) : Int).toNat - j.toNat) : Nat) : Int))).toNat - (0 : Int).toNat) : Nat) : Int) ∧ ((((IntKind.wrap .i64 ((IntKind.wrap .i64 ((((i.toNat - (0 : Int).toNat) : Nat) : Int) + ((vN : Nat) : Int))) + (((((sN : Nat) : Int).toNat - j.toNat) : Nat) : Int))).toNat - (0 : Int).toNat) : Nat) : Int) ≤ (((((sC : Nat) : Int).toNat - (0 : Int).toNat) : Nat) : Int) ∧ (((((sC : Nat) : Int).toNat - (0 : Int).toNat) : Nat) : Int) ≤ ((((sC : Nat) : Int).toNat - (0 : Int).toNat) : Nat)) ∧
                  ∃ vs_4 : List Value, srcH h vA (min vN (((((IntKind.wrap .i64 ((IntKind.wrap .i64 ((((i.toNat - (0 : Int).toNat) : Nat) : Int) + ((vN : Nat) : Int))) + (((((sN : Nat) : Int).toNat - j.toNat) : Nat) : Int))).toNat - (0 : Int).toNat) : Nat) : Int).toNat - i.toNat) * 2) vs_4 ∧
                  ((vs_4.length = 0 →
                      (0 ≤ (IntKind.wrap .i64 (i + ((vN : Nat) : Int))) ∧ (IntKind.wrap .i64 (i + ((vN : Nat) : Int))) ≤ ((((IntKind.wrap .i64 ((IntKind.wrap .i64 ((((i.toNat - (0 : Int).toNat) : Nat) : Int) + ((vN : Nat) : Int))) + (((((sN : Nat) : Int).toNat - j.toNat) : Nat) : Int))).toNat - (0 : Int).toNat) : Nat) : Int) ∧ ((((IntKind.wrap .i64 ((IntKind.wrap .i64 ((((i.toNat - (0 : Int).toNat) : Nat) : Int) + ((vN : Nat) : Int))) + (((((sN : Nat) : Int).toNat - j.toNat) : Nat) : Int))).toNat - (0 : Int).toNat) : Nat) : Int) ≤ (((((sC : Nat) : Int).toNat - (0 : Int).toNat) : Nat) : Int) ∧ (((((sC : Nat) : Int).toNat - (0 : Int).toNat) : Nat) : Int) ≤ ((((sC : Nat) : Int).toNat - (0 : Int).toNat) : Nat)) ∧
                      (0 ≤ j ∧ j ≤ ((sN : Nat) : Int) ∧ ((sN : Nat) : Int) ≤ ((sC : Nat) : Int) ∧ ((sC : Nat) : Int) ≤ (sC : Nat)) ∧
                      ∃ vs_5 : List Value, srcH h (slA sA 2 j ((sC : Nat) : Int)) (min (((sN : Nat) : Int).toNat - j.toNat) (((((IntKind.wrap .i64 ((IntKind.wrap .i64 ((((i.toNat - (0 : Int).toNat) : Nat) : Int) + ((vN : Nat) : Int))) + (((((sN : Nat) : Int).toNat - j.toNat) : Nat) : Int))).toNat - (0 : Int).toNat) : Nat) : Int).toNat - (IntKind.wrap .i64 (i + ((vN : Nat) : Int))).toNat) * 2) vs_5 ∧
                      ((vs_5.length = 0 →
                          (0 ≤ (IntKind.wrap .i64 ((IntKind.wrap .i64 ((((i.toNat - (0 : Int).toNat) : Nat) : Int) + ((vN : Nat) : Int))) + (((((sN : Nat) : Int).toNat - j.toNat) : Nat) : Int))) ∧ (IntKind.wrap .i64 ((IntKind.wrap .i64 ((((i.toNat - (0 : Int).toNat) : Nat) : Int) + ((vN : Nat) : Int))) + (((((sN : Nat) : Int).toNat - j.toNat) : Nat) : Int))) ≤ ((sN : Nat) : Int) ∧ ((sN : Nat) : Int) ≤ ((sC : Nat) : Int) ∧ ((sC : Nat) : Int) ≤ (sC : Nat)) ∧
                          (((((sN : Nat) : Int).toNat - (IntKind.wrap .i64 ((IntKind.wrap .i64 ((((i.toNat - (0 : Int).toNat) : Nat) : Int) + ((vN : Nat) : Int))) + (((((sN : Nat) : Int).toNat - j.toNat) : Nat) : Int))).toNat) * 2 = 0 →
                              K (.slice (slA sA 2 (0 : Int) ((sC : Nat) : Int)) ((IntKind.wrap .i64 ((IntKind.wrap .i64 ((((i.toNat - (0 : Int).toNat) : Nat) : Int) + ((vN : Nat) : Int))) + (((((sN : Nat) : Int).toNat - j.toNat) : Nat) : Int))).toNat - (0 : Int).toNat) (((sC : Nat) : Int).toNat - (0 : Int).toNat)) h) ∧
                            ((((sN : Nat) : Int).toNat - (IntKind.wrap .i64 ((IntKind.wrap .i64 ((((i.toNat - (0 : Int).toNat) : Nat) : Int) + ((vN : Nat) : Int))) + (((((sN : Nat) : Int).toNat - j.toNat) : Nat) : Int))).toNat) * 2 ≠ 0 → ∃ bv_6 ov_6 : Nat, (slA sA 2 (IntKind.wrap .i64 ((IntKind.wrap .i64 ((((i.toNat - (0 : Int).toNat) : Nat) : Int) + ((vN : Nat) : Int))) + (((((sN : Nat) : Int).toNat - j.toNat) : Nat) : Int))) ((sC : Nat) : Int)) = some ⟨bv_6, ov_6, none⟩ ∧ stH h bv_6 ov_6 (List.replicate (((sN : Nat) : Int).toNat - (IntKind.wrap .i64 ((IntKind.wrap .i64 ((((i.toNat - (0 : Int).toNat) : Nat) : Int) + ((vN : Nat) : Int))) + (((((sN : Nat) : Int).toNat - j.toNat) : Nat) : Int))).toNat) [.string (⟨#[]⟩ : ByteArray), .string (⟨#[]⟩ : ByteArray)]).flatten fun h10 =>
                              K (.slice (slA sA 2 (0 : Int) ((sC : Nat) : Int)) ((IntKind.wrap .i64 ((IntKind.wrap .i64 ((((i.toNat - (0 : Int).toNat) : Nat) : Int) + ((vN : Nat) : Int))) + (((((sN : Nat) : Int).toNat - j.toNat) : Nat) : Int))).toNat - (0 : Int).toNat) (((sC : Nat) : Int).toNat - (0 : Int).toNat)) h10))) ∧
                        (vs_5.length ≠ 0 → ∃ bv_5 ov_5 : Nat, (slA (slA sA 2 (0 : Int) ((sC : Nat) : Int)) 2 (IntKind.wrap .i64 (i + ((vN : Nat) : Int))) (((((sC : Nat) : Int).toNat - (0 : Int).toNat) : Nat) : Int)) = some ⟨bv_5, ov_5, none⟩ ∧ stH h bv_5 ov_5 vs_5 fun h9 =>
                          (0 ≤ (IntKind.wrap .i64 ((IntKind.wrap .i64 ((((i.toNat - (0 : Int).toNat) : Nat) : Int) + ((vN : Nat) : Int))) + (((((sN : Nat) : Int).toNat - j.toNat) : Nat) : Int))) ∧ (IntKind.wrap .i64 ((IntKind.wrap .i64 ((((i.toNat - (0 : Int).toNat) : Nat) : Int) + ((vN : Nat) : Int))) + (((((sN : Nat) : Int).toNat - j.toNat) : Nat) : Int))) ≤ ((sN : Nat) : Int) ∧ ((sN : Nat) : Int) ≤ ((sC : Nat) : Int) ∧ ((sC : Nat) : Int) ≤ (sC : Nat)) ∧
                          (((((sN : Nat) : Int).toNat - (IntKind.wrap .i64 ((IntKind.wrap .i64 ((((i.toNat - (0 : Int).toNat) : Nat) : Int) + ((vN : Nat) : Int))) + (((((sN : Nat) : Int).toNat - j.toNat) : Nat) : Int))).toNat) * 2 = 0 →
                              K (.slice (slA sA 2 (0 : Int) ((sC : Nat) : Int)) ((IntKind.wrap .i64 ((IntKind.wrap .i64 ((((i.toNat - (0 : Int).toNat) : Nat) : Int) + ((vN : Nat) : Int))) + (((((sN : Nat) : Int).toNat - j.toNat) : Nat) : Int))).toNat - (0 : Int).toNat) (((sC : Nat) : Int).toNat - (0 : Int).toNat)) h9) ∧
                            ((((sN : Nat) : Int).toNat - (IntKind.wrap .i64 ((IntKind.wrap .i64 ((((i.toNat - (0 : Int).toNat) : Nat) : Int) + ((vN : Nat) : Int))) + (((((sN : Nat) : Int).toNat - j.toNat) : Nat) : Int))).toNat) * 2 ≠ 0 → ∃ bv_7 ov_7 : Nat, (slA sA 2 (IntKind.wrap .i64 ((IntKind.wrap .i64 ((((i.toNat - (0 : Int).toNat) : Nat) : Int) + ((vN : Nat) : Int))) + (((((sN : Nat) : Int).toNat - j.toNat) : Nat) : Int))) ((sC : Nat) : Int)) = some ⟨bv_7, ov_7, none⟩ ∧ stH h9 bv_7 ov_7 (List.replicate (((sN : Nat) : Int).toNat - (IntKind.wrap .i64 ((IntKind.wrap .i64 ((((i.toNat - (0 : Int).toNat) : Nat) : Int) + ((vN : Nat) : Int))) + (((((sN : Nat) : Int).toNat - j.toNat) : Nat) : Int))).toNat) [.string (⟨#[]⟩ : ByteArray), .string (⟨#[]⟩ : ByteArray)]).flatten fun h11 =>
                              K (.slice (slA sA 2 (0 : Int) ((sC : Nat) : Int)) ((IntKind.wrap .i64 ((IntKind.wrap .i64 ((((i.toNat - (0 : Int).toNat) : Nat) : Int) + ((vN : Nat) : Int))) + (((((sN : Nat) : Int).toNat - j.toNat) : Nat) : Int))).toNat - (0 : Int).toNat) (((sC : Nat) : Int).toNat - (0 : Int).toNat)) h11))))) ∧
                    (vs_4.length ≠ 0 → ∃ bv_4 ov_4 : Nat, (slA (slA sA 2 (0 : Int) ((sC : Nat) : Int)) 2 i (((((sC : Nat) : Int).toNat - (0 : Int).toNat) : Nat) : Int)) = some ⟨bv_4, ov_4, none⟩ ∧ stH h bv_4 ov_4 vs_4 fun h8 =>
                      (0 ≤ (IntKind.wrap .i64 (i + ((vN : Nat) : Int))) ∧ (IntKind.wrap .i64 (i + ((vN : Nat) : Int))) ≤ ((((IntKind.wrap .i64 ((IntKind.wrap .i64 ((((i.toNat - (0 : Int).toNat) : Nat) : Int) + ((vN : Nat) : Int))) + (((((sN : Nat) : Int).toNat - j.toNat) : Nat) : Int))).toNat - (0 : Int).toNat) : Nat) : Int) ∧ ((((IntKind.wrap .i64 ((IntKind.wrap .i64 ((((i.toNat - (0 : Int).toNat) : Nat) : Int) + ((vN : Nat) : Int))) + (((((sN : Nat) : Int).toNat - j.toNat) : Nat) : Int))).toNat - (0 : Int).toNat) : Nat) : Int) ≤ (((((sC : Nat) : Int).toNat - (0 : Int).toNat) : Nat) : Int) ∧ (((((sC : Nat) : Int).toNat - (0 : Int).toNat) : Nat) : Int) ≤ ((((sC : Nat) : Int).toNat - (0 : Int).toNat) : Nat)) ∧
                      (0 ≤ j ∧ j ≤ ((sN : Nat) : Int) ∧ ((sN : Nat) : Int) ≤ ((sC : Nat) : Int) ∧ ((sC : Nat) : Int) ≤ (sC : Nat)) ∧
                      ∃ vs_6 : List Value, srcH h8 (slA sA 2 j ((sC : Nat) : Int)) (min (((sN : Nat) : Int).toNat - j.toNat) (((((IntKind.wrap .i64 ((IntKind.wrap .i64 ((((i.toNat - (0 : Int).toNat) : Nat) : Int) + ((vN : Nat) : Int))) + (((((sN : Nat) : Int).toNat - j.toNat) : Nat) : Int))).toNat - (0 : Int).toNat) : Nat) : Int).toNat - (IntKind.wrap .i64 (i + ((vN : Nat) : Int))).toNat) * 2) vs_6 ∧
                      ((vs_6.length = 0 →
                          (0 ≤ (IntKind.wrap .i64 ((IntKind.wrap .i64 ((((i.toNat - (0 : Int).toNat) : Nat) : Int) + ((vN : Nat) : Int))) + (((((sN : Nat) : Int).toNat - j.toNat) : Nat) : Int))) ∧ (IntKind.wrap .i64 ((IntKind.wrap .i64 ((((i.toNat - (0 : Int).toNat) : Nat) : Int) + ((vN : Nat) : Int))) + (((((sN : Nat) : Int).toNat - j.toNat) : Nat) : Int))) ≤ ((sN : Nat) : Int) ∧ ((sN : Nat) : Int) ≤ ((sC : Nat) : Int) ∧ ((sC : Nat) : Int) ≤ (sC : Nat)) ∧
                          (((((sN : Nat) : Int).toNat - (IntKind.wrap .i64 ((IntKind.wrap .i64 ((((i.toNat - (0 : Int).toNat) : Nat) : Int) + ((vN : Nat) : Int))) + (((((sN : Nat) : Int).toNat - j.toNat) : Nat) : Int))).toNat) * 2 = 0 →
                              K (.slice (slA sA 2 (0 : Int) ((sC : Nat) : Int)) ((IntKind.wrap .i64 ((IntKind.wrap .i64 ((((i.toNat - (0 : Int).toNat) : Nat) : Int) + ((vN : Nat) : Int))) + (((((sN : Nat) : Int).toNat - j.toNat) : Nat) : Int))).toNat - (0 : Int).toNat) (((sC : Nat) : Int).toNat - (0 : Int).toNat)) h8) ∧
                            ((((sN : Nat) : Int).toNat - (IntKind.wrap .i64 ((IntKind.wrap .i64 ((((i.toNat - (0 : Int).toNat) : Nat) : Int) + ((vN : Nat) : Int))) + (((((sN : Nat) : Int).toNat - j.toNat) : Nat) : Int))).toNat) * 2 ≠ 0 → ∃ bv_9 ov_9 : Nat, (slA sA 2 (IntKind.wrap .i64 ((IntKind.wrap .i64 ((((i.toNat - (0 : Int).toNat) : Nat) : Int) + ((vN : Nat) : Int))) + (((((sN : Nat) : Int).toNat - j.toNat) : Nat) : Int))) ((sC : Nat) : Int)) = some ⟨bv_9, ov_9, none⟩ ∧ stH h8 bv_9 ov_9 (List.replicate (((sN : Nat) : Int).toNat - (IntKind.wrap .i64 ((IntKind.wrap .i64 ((((i.toNat - (0 : Int).toNat) : Nat) : Int) + ((vN : Nat) : Int))) + (((((sN : Nat) : Int).toNat - j.toNat) : Nat) : Int))).toNat) [.string (⟨#[]⟩ : ByteArray), .string (⟨#[]⟩ : ByteArray)]).flatten fun h13 =>
                              K (.slice (slA sA 2 (0 : Int) ((sC : Nat) : Int)) ((IntKind.wrap .i64 ((IntKind.wrap .i64 ((((i.toNat - (0 : Int).toNat) : Nat) : Int) + ((vN : Nat) : Int))) + (((((sN : Nat) : Int).toNat - j.toNat) : Nat) : Int))).toNat - (0 : Int).toNat) (((sC : Nat) : Int).toNat - (0 : Int).toNat)) h13))) ∧
                        (vs_6.length ≠ 0 → ∃ bv_8 ov_8 : Nat, (slA (slA sA 2 (0 : Int) ((sC : Nat) : Int)) 2 (IntKind.wrap .i64 (i + ((vN : Nat) : Int))) (((((sC : Nat) : Int).toNat - (0 : Int).toNat) : Nat) : Int)) = some ⟨bv_8, ov_8, none⟩ ∧ stH h8 bv_8 ov_8 vs_6 fun h12 =>
                          (0 ≤ (IntKind.wrap .i64 ((IntKind.wrap .i64 ((((i.toNat - (0 : Int).toNat) : Nat) : Int) + ((vN : Nat) : Int))) + (((((sN : Nat) : Int).toNat - j.toNat) : Nat) : Int))) ∧ (IntKind.wrap .i64 ((IntKind.wrap .i64 ((((i.toNat - (0 : Int).toNat) : Nat) : Int) + ((vN : Nat) : Int))) + (((((sN : Nat) : Int).toNat - j.toNat) : Nat) : Int))) ≤ ((sN : Nat) : Int) ∧ ((sN : Nat) : Int) ≤ ((sC : Nat) : Int) ∧ ((sC : Nat) : Int) ≤ (sC : Nat)) ∧
                          (((((sN : Nat) : Int).toNat - (IntKind.wrap .i64 ((IntKind.wrap .i64 ((((i.toNat - (0 : Int).toNat) : Nat) : Int) + ((vN : Nat) : Int))) + (((((sN : Nat) : Int).toNat - j.toNat) : Nat) : Int))).toNat) * 2 = 0 →
                              K (.slice (slA sA 2 (0 : Int) ((sC : Nat) : Int)) ((IntKind.wrap .i64 ((IntKind.wrap .i64 ((((i.toNat - (0 : Int).toNat) : Nat) : Int) + ((vN : Nat) : Int))) + (((((sN : Nat) : Int).toNat - j.toNat) : Nat) : Int))).toNat - (0 : Int).toNat) (((sC : Nat) : Int).toNat - (0 : Int).toNat)) h12) ∧
                            ((((sN : Nat) : Int).toNat - (IntKind.wrap .i64 ((IntKind.wrap .i64 ((((i.toNat - (0 : Int).toNat) : Nat) : Int) + ((vN : Nat) : Int))) + (((((sN : Nat) : Int).toNat - j.toNat) : Nat) : Int))).toNat) * 2 ≠ 0 → ∃ bv_10 ov_10 : Nat, (slA sA 2 (IntKind.wrap .i64 ((IntKind.wrap .i64 ((((i.toNat - (0 : Int).toNat) : Nat) : Int) + ((vN : Nat) : Int))) + (((((sN : Nat) : Int).toNat - j.toNat) : Nat) : Int))) ((sC : Nat) : Int)) = some ⟨bv_10, ov_10, none⟩ ∧ stH h12 bv_10 ov_10 (List.replicate (((sN : Nat) : Int).toNat - (IntKind.wrap .i64 ((IntKind.wrap .i64 ((((i.toNat - (0 : Int).toNat) : Nat) : Int) + ((vN : Nat) : Int))) + (((((sN : Nat) : Int).toNat - j.toNat) : Nat) : Int))).toNat) [.string (⟨#[]⟩ : ByteArray), .string (⟨#[]⟩ : ByteArray)]).flatten fun h14 =>
                              K (.slice (slA sA 2 (0 : Int) ((sC : Nat) : Int)) ((IntKind.wrap .i64 ((IntKind.wrap .i64 ((((i.toNat - (0 : Int).toNat) : Nat) : Int) + ((vN : Nat) : Int))) + (((((sN : Nat) : Int).toNat - j.toNat) : Nat) : Int))).toNat - (0 : Int).toNat) (((sC : Nat) : Int).toNat - (0 : Int).toNat)) h14))))))) ∧
                ((decide ((IntKind.wrap .i64 (i + ((vN : Nat) : Int))) ≤ j)) = false →
                  (0 ≤ (IntKind.wrap .i64 (i + ((vN : Nat) : Int))) ∧ (IntKind.wrap .i64 (i + ((vN : Nat) : Int))) ≤ ((((IntKind.wrap .i64 ((IntKind.wrap .i64 ((((i.toNat - (0 : Int).toNat) : Nat) : Int) + ((vN : Nat) : Int))) + (((((sN : Nat) : Int).toNat - j.toNat) : Nat) : Int))).toNat - (0 : Int).toNat) : Nat) : Int) ∧ ((((IntKind.wrap .i64 ((IntKind.wrap .i64 ((((i.toNat - (0 : Int).toNat) : Nat) : Int) + ((vN : Nat) : Int))) + (((((sN : Nat) : Int).toNat - j.toNat) : Nat) : Int))).toNat - (0 : Int).toNat) : Nat) : Int) ≤ (((((sC : Nat) : Int).toNat - (0 : Int).toNat) : Nat) : Int) ∧ (((((sC : Nat) : Int).toNat - (0 : Int).toNat) : Nat) : Int) ≤ ((((sC : Nat) : Int).toNat - (0 : Int).toNat) : Nat)) ∧
                  ExtH Tryz.prog id_slices_overlaps_api_Pair [.slice (slA (slA sA 2 (0 : Int) ((sC : Nat) : Int)) 2 (IntKind.wrap .i64 (i + ((vN : Nat) : Int))) (((((sC : Nat) : Int).toNat - (0 : Int).toNat) : Nat) : Int)) (((((IntKind.wrap .i64 ((IntKind.wrap .i64 ((((i.toNat - (0 : Int).toNat) : Nat) : Int) + ((vN : Nat) : Int))) + (((((sN : Nat) : Int).toNat - j.toNat) : Nat) : Int))).toNat - (0 : Int).toNat) : Nat) : Int).toNat - (IntKind.wrap .i64 (i + ((vN : Nat) : Int))).toNat) ((((((sC : Nat) : Int).toNat - (0 : Int).toNat) : Nat) : Int).toNat - (IntKind.wrap .i64 (i + ((vN : Nat) : Int))).toNat), .slice vA vN vC] (fun v_1 h15 =>
                    ∃ t : Bool, v_1 = .bool t ∧
                    (((!t) = true →
                        (0 ≤ (IntKind.wrap .i64 (i + ((vN : Nat) : Int))) ∧ (IntKind.wrap .i64 (i + ((vN : Nat) : Int))) ≤ ((((IntKind.wrap .i64 ((IntKind.wrap .i64 ((((i.toNat - (0 : Int).toNat) : Nat) : Int) + ((vN : Nat) : Int))) + (((((sN : Nat) : Int).toNat - j.toNat) : Nat) : Int))).toNat - (0 : Int).toNat) : Nat) : Int) ∧ ((((IntKind.wrap .i64 ((IntKind.wrap .i64 ((((i.toNat - (0 : Int).toNat) : Nat) : Int) + ((vN : Nat) : Int))) + (((((sN : Nat) : Int).toNat - j.toNat) : Nat) : Int))).toNat - (0 : Int).toNat) : Nat) : Int) ≤ (((((sC : Nat) : Int).toNat - (0 : Int).toNat) : Nat) : Int) ∧ (((((sC : Nat) : Int).toNat - (0 : Int).toNat) : Nat) : Int) ≤ ((((sC : Nat) : Int).toNat - (0 : Int).toNat) : Nat)) ∧
                        (0 ≤ j ∧ j ≤ ((sN : Nat) : Int) ∧ ((sN : Nat) : Int) ≤ ((sC : Nat) : Int) ∧ ((sC : Nat) : Int) ≤ (sC : Nat)) ∧
                        ∃ vs_7 : List Value, srcH h15 (slA sA 2 j ((sC : Nat) : Int)) (min (((sN : Nat) : Int).toNat - j.toNat) (((((IntKind.wrap .i64 ((IntKind.wrap .i64 ((((i.toNat - (0 : Int).toNat) : Nat) : Int) + ((vN : Nat) : Int))) + (((((sN : Nat) : Int).toNat - j.toNat) : Nat) : Int))).toNat - (0 : Int).toNat) : Nat) : Int).toNat - (IntKind.wrap .i64 (i + ((vN : Nat) : Int))).toNat) * 2) vs_7 ∧
                        ((vs_7.length = 0 →
                            (0 ≤ i ∧ i ≤ ((((IntKind.wrap .i64 ((IntKind.wrap .i64 ((((i.toNat - (0 : Int).toNat) : Nat) : Int) + ((vN : Nat) : Int))) + (((((sN : Nat) : Int).toNat - j.toNat) : Nat) : Int))).toNat - (0 : Int).toNat) : Nat) : Int) ∧ ((((IntKind.wrap .i64 ((IntKind.wrap .i64 ((((i.toNat - (0 : Int).toNat) : Nat) : Int) + ((vN : Nat) : Int))) + (((((sN : Nat) : Int).toNat - j.toNat) : Nat) : Int))).toNat - (0 : Int).toNat) : Nat) : Int) ≤ (((((sC : Nat) : Int).toNat - (0 : Int).toNat) : Nat) : Int) ∧ (((((sC : Nat) : Int).toNat - (0 : Int).toNat) : Nat) : Int) ≤ ((((sC : Nat) : Int).toNat - (0 : Int).toNat) : Nat)) ∧
                            ∃ vs_8 : List Value, srcH h15 vA (min vN (((((IntKind.wrap .i64 ((IntKind.wrap .i64 ((((i.toNat - (0 : Int).toNat) : Nat) : Int) + ((vN : Nat) : Int))) + (((((sN : Nat) : Int).toNat - j.toNat) : Nat) : Int))).toNat - (0 : Int).toNat) : Nat) : Int).toNat - i.toNat) * 2) vs_8 ∧
                            ((vs_8.length = 0 →
                                K (.slice (slA sA 2 (0 : Int) ((sC : Nat) : Int)) ((IntKind.wrap .i64 ((IntKind.wrap .i64 ((((i.toNat - (0 : Int).toNat) : Nat) : Int) + ((vN : Nat) : Int))) + (((((sN : Nat) : Int).toNat - j.toNat) : Nat) : Int))).toNat - (0 : Int).toNat) (((sC : Nat) : Int).toNat - (0 : Int).toNat)) h15) ∧
                              (vs_8.length ≠ 0 → ∃ bv_12 ov_12 : Nat, (slA (slA sA 2 (0 : Int) ((sC : Nat) : Int)) 2 i (((((sC : Nat) : Int).toNat - (0 : Int).toNat) : Nat) : Int)) = some ⟨bv_12, ov_12, none⟩ ∧ stH h15 bv_12 ov_12 vs_8 fun h17 =>
                                K (.slice (slA sA 2 (0 : Int) ((sC : Nat) : Int)) ((IntKind.wrap .i64 ((IntKind.wrap .i64 ((((i.toNat - (0 : Int).toNat) : Nat) : Int) + ((vN : Nat) : Int))) + (((((sN : Nat) : Int).toNat - j.toNat) : Nat) : Int))).toNat - (0 : Int).toNat) (((sC : Nat) : Int).toNat - (0 : Int).toNat)) h17))) ∧
                          (vs_7.length ≠ 0 → ∃ bv_11 ov_11 : Nat, (slA (slA sA 2 (0 : Int) ((sC : Nat) : Int)) 2 (IntKind.wrap .i64 (i + ((vN : Nat) : Int))) (((((sC : Nat) : Int).toNat - (0 : Int).toNat) : Nat) : Int)) = some ⟨bv_11, ov_11, none⟩ ∧ stH h15 bv_11 ov_11 vs_7 fun h16 =>
                            (0 ≤ i ∧ i ≤ ((((IntKind.wrap .i64 ((IntKind.wrap .i64 ((((i.toNat - (0 : Int).toNat) : Nat) : Int) + ((vN : Nat) : Int))) + (((((sN : Nat) : Int).toNat - j.toNat) : Nat) : Int))).toNat - (0 : Int).toNat) : Nat) : Int) ∧ ((((IntKind.wrap .i64 ((IntKind.wrap .i64 ((((i.toNat - (0 : Int).toNat) : Nat) : Int) + ((vN : Nat) : Int))) + (((((sN : Nat) : Int).toNat - j.toNat) : Nat) : Int))).toNat - (0 : Int).toNat) : Nat) : Int) ≤ (((((sC : Nat) : Int).toNat - (0 : Int).toNat) : Nat) : Int) ∧ (((((sC : Nat) : Int).toNat - (0 : Int).toNat) : Nat) : Int) ≤ ((((sC : Nat) : Int).toNat - (0 : Int).toNat) : Nat)) ∧
                            ∃ vs_9 : List Value, srcH h16 vA (min vN (((((IntKind.wrap .i64 ((IntKind.wrap .i64 ((((i.toNat - (0 : Int).toNat) : Nat) : Int) + ((vN : Nat) : Int))) + (((((sN : Nat) : Int).toNat - j.toNat) : Nat) : Int))).toNat - (0 : Int).toNat) : Nat) : Int).toNat - i.toNat) * 2) vs_9 ∧
                            ((vs_9.length = 0 →
                                K (.slice (slA sA 2 (0 : Int) ((sC : Nat) : Int)) ((IntKind.wrap .i64 ((IntKind.wrap .i64 ((((i.toNat - (0 : Int).toNat) : Nat) : Int) + ((vN : Nat) : Int))) + (((((sN : Nat) : Int).toNat - j.toNat) : Nat) : Int))).toNat - (0 : Int).toNat) (((sC : Nat) : Int).toNat - (0 : Int).toNat)) h16) ∧
                              (vs_9.length ≠ 0 → ∃ bv_13 ov_13 : Nat, (slA (slA sA 2 (0 : Int) ((sC : Nat) : Int)) 2 i (((((sC : Nat) : Int).toNat - (0 : Int).toNat) : Nat) : Int)) = some ⟨bv_13, ov_13, none⟩ ∧ stH h16 bv_13 ov_13 vs_9 fun h18 =>
                                K (.slice (slA sA 2 (0 : Int) ((sC : Nat) : Int)) ((IntKind.wrap .i64 ((IntKind.wrap .i64 ((((i.toNat - (0 : Int).toNat) : Nat) : Int) + ((vN : Nat) : Int))) + (((((sN : Nat) : Int).toNat - j.toNat) : Nat) : Int))).toNat - (0 : Int).toNat) (((sC : Nat) : Int).toNat - (0 : Int).toNat)) h18))))) ∧
                      ((!t) = false →
                        (0 ≤ i ∧ i ≤ j ∧ j ≤ (((((sC : Nat) : Int).toNat - (0 : Int).toNat) : Nat) : Int) ∧ (((((sC : Nat) : Int).toNat - (0 : Int).toNat) : Nat) : Int) ≤ ((((sC : Nat) : Int).toNat - (0 : Int).toNat) : Nat)) ∧
                        ExtH Tryz.prog id_slices_overlaps_api_Pair [.slice (slA (slA sA 2 (0 : Int) ((sC : Nat) : Int)) 2 i (((((sC : Nat) : Int).toNat - (0 : Int).toNat) : Nat) : Int)) (j.toNat - i.toNat) ((((((sC : Nat) : Int).toNat - (0 : Int).toNat) : Nat) : Int).toNat - i.toNat), .slice vA vN vC] (fun v_2 h19 =>
                          ∃ t_1 : Bool, v_2 = .bool t_1 ∧
                          (((!t_1) = true →
                              (0 ≤ i ∧ i ≤ j ∧ j ≤ (((((sC : Nat) : Int).toNat - (0 : Int).toNat) : Nat) : Int) ∧ (((((sC : Nat) : Int).toNat - (0 : Int).toNat) : Nat) : Int) ≤ ((((sC : Nat) : Int).toNat - (0 : Int).toNat) : Nat)) ∧
                              (0 ≤ (IntKind.wrap .i64 (((vN : Nat) : Int) - (IntKind.wrap .i64 (j - i)))) ∧ (IntKind.wrap .i64 (((vN : Nat) : Int) - (IntKind.wrap .i64 (j - i)))) ≤ ((vN : Nat) : Int) ∧ ((vN : Nat) : Int) ≤ ((vC : Nat) : Int) ∧ ((vC : Nat) : Int) ≤ (vC : Nat)) ∧
                              ∃ vs_10 : List Value, srcH h19 (slA vA 2 (IntKind.wrap .i64 (((vN : Nat) : Int) - (IntKind.wrap .i64 (j - i)))) ((vC : Nat) : Int)) (min (((vN : Nat) : Int).toNat - (IntKind.wrap .i64 (((vN : Nat) : Int) - (IntKind.wrap .i64 (j - i)))).toNat) (j.toNat - i.toNat) * 2) vs_10 ∧
                              ((vs_10.length = 0 →
                                  (0 ≤ ((sN : Nat) : Int) ∧ ((sN : Nat) : Int) ≤ ((((IntKind.wrap .i64 ((IntKind.wrap .i64 ((((i.toNat - (0 : Int).toNat) : Nat) : Int) + ((vN : Nat) : Int))) + (((((sN : Nat) : Int).toNat - j.toNat) : Nat) : Int))).toNat - (0 : Int).toNat) : Nat) : Int) ∧ ((((IntKind.wrap .i64 ((IntKind.wrap .i64 ((((i.toNat - (0 : Int).toNat) : Nat) : Int) + ((vN : Nat) : Int))) + (((((sN : Nat) : Int).toNat - j.toNat) : Nat) : Int))).toNat - (0 : Int).toNat) : Nat) : Int) ≤ (((((sC : Nat) : Int).toNat - (0 : Int).toNat) : Nat) : Int) ∧ (((((sC : Nat) : Int).toNat - (0 : Int).toNat) : Nat) : Int) ≤ ((((sC : Nat) : Int).toNat - (0 : Int).toNat) : Nat)) ∧
                                  (0 ≤ (0 : Int) ∧ (0 : Int) ≤ (IntKind.wrap .i64 (((vN : Nat) : Int) - (IntKind.wrap .i64 (j - i)))) ∧ (IntKind.wrap .i64 (((vN : Nat) : Int) - (IntKind.wrap .i64 (j - i)))) ≤ ((vC : Nat) : Int) ∧ ((vC : Nat) : Int) ≤ (vC : Nat)) ∧
                                  ∃ vs_11 : List Value, srcH h19 (slA vA 2 (0 : Int) ((vC : Nat) : Int)) (min ((IntKind.wrap .i64 (((vN : Nat) : Int) - (IntKind.wrap .i64 (j - i)))).toNat - (0 : Int).toNat) (((((IntKind.wrap .i64 ((IntKind.wrap .i64 ((((i.toNat - (0 : Int).toNat) : Nat) : Int) + ((vN : Nat) : Int))) + (((((sN : Nat) : Int).toNat - j.toNat) : Nat) : Int))).toNat - (0 : Int).toNat) : Nat) : Int).toNat - ((sN : Nat) : Int).toNat) * 2) vs_11 ∧
                                  ((vs_11.length = 0 →
                                      (0 ≤ i ∧ i ≤ ((((IntKind.wrap .i64 ((IntKind.wrap .i64 ((((i.toNat - (0 : Int).toNat) : Nat) : Int) + ((vN : Nat) : Int))) + (((((sN : Nat) : Int).toNat - j.toNat) : Nat) : Int))).toNat - (0 : Int).toNat) : Nat) : Int) ∧ ((((IntKind.wrap .i64 ((IntKind.wrap .i64 ((((i.toNat - (0 : Int).toNat) : Nat) : Int) + ((vN : Nat) : Int))) + (((((sN : Nat) : Int).toNat - j.toNat) : Nat) : Int))).toNat - (0 : Int).toNat) : Nat) : Int) ≤ (((((sC : Nat) : Int).toNat - (0 : Int).toNat) : Nat) : Int) ∧ (((((sC : Nat) : Int).toNat - (0 : Int).toNat) : Nat) : Int) ≤ ((((sC : Nat) : Int).toNat - (0 : Int).toNat) : Nat)) ∧
                                      CallH Tryz.prog id_slices_rotateRight_api_Pair [.slice (slA (slA sA 2 (0 : Int) ((sC : Nat) : Int)) 2 i (((((sC : Nat) : Int).toNat - (0 : Int).toNat) : Nat) : Int)) (((((IntKind.wrap .i64 ((IntKind.wrap .i64 ((((i.toNat - (0 : Int).toNat) : Nat) : Int) + ((vN : Nat) : Int))) + (((((sN : Nat) : Int).toNat - j.toNat) : Nat) : Int))).toNat - (0 : Int).toNat) : Nat) : Int).toNat - i.toNat) ((((((sC : Nat) : Int).toNat - (0 : Int).toNat) : Nat) : Int).toNat - i.toNat), .int .i64 (IntKind.wrap .i64 (((vN : Nat) : Int) - (IntKind.wrap .i64 (j - i))))] (fun _ h22 =>
                                        K (.slice (slA sA 2 (0 : Int) ((sC : Nat) : Int)) ((IntKind.wrap .i64 ((IntKind.wrap .i64 ((((i.toNat - (0 : Int).toNat) : Nat) : Int) + ((vN : Nat) : Int))) + (((((sN : Nat) : Int).toNat - j.toNat) : Nat) : Int))).toNat - (0 : Int).toNat) (((sC : Nat) : Int).toNat - (0 : Int).toNat)) h22) h19) ∧
                                    (vs_11.length ≠ 0 → ∃ bv_15 ov_15 : Nat, (slA (slA sA 2 (0 : Int) ((sC : Nat) : Int)) 2 ((sN : Nat) : Int) (((((sC : Nat) : Int).toNat - (0 : Int).toNat) : Nat) : Int)) = some ⟨bv_15, ov_15, none⟩ ∧ stH h19 bv_15 ov_15 vs_11 fun h21 =>
                                      (0 ≤ i ∧ i ≤ ((((IntKind.wrap .i64 ((IntKind.wrap .i64 ((((i.toNat - (0 : Int).toNat) : Nat) : Int) + ((vN : Nat) : Int))) + (((((sN : Nat) : Int).toNat - j.toNat) : Nat) : Int))).toNat - (0 : Int).toNat) : Nat) : Int) ∧ ((((IntKind.wrap .i64 ((IntKind.wrap .i64 ((((i.toNat - (0 : Int).toNat) : Nat) : Int) + ((vN : Nat) : Int))) + (((((sN : Nat) : Int).toNat - j.toNat) : Nat) : Int))).toNat - (0 : Int).toNat) : Nat) : Int) ≤ (((((sC : Nat) : Int).toNat - (0 : Int).toNat) : Nat) : Int) ∧ (((((sC : Nat) : Int).toNat - (0 : Int).toNat) : Nat) : Int) ≤ ((((sC : Nat) : Int).toNat - (0 : Int).toNat) : Nat)) ∧
                                      CallH Tryz.prog id_slices_rotateRight_api_Pair [.slice (slA (slA sA 2 (0 : Int) ((sC : Nat) : Int)) 2 i (((((sC : Nat) : Int).toNat - (0 : Int).toNat) : Nat) : Int)) (((((IntKind.wrap .i64 ((IntKind.wrap .i64 ((((i.toNat - (0 : Int).toNat) : Nat) : Int) + ((vN : Nat) : Int))) + (((((sN : Nat) : Int).toNat - j.toNat) : Nat) : Int))).toNat - (0 : Int).toNat) : Nat) : Int).toNat - i.toNat) ((((((sC : Nat) : Int).toNat - (0 : Int).toNat) : Nat) : Int).toNat - i.toNat), .int .i64 (IntKind.wrap .i64 (((vN : Nat) : Int) - (IntKind.wrap .i64 (j - i))))] (fun _ h23 =>
                                        K (.slice (slA sA 2 (0 : Int) ((sC : Nat) : Int)) ((IntKind.wrap .i64 ((IntKind.wrap .i64 ((((i.toNat - (0 : Int).toNat) : Nat) : Int) + ((vN : Nat) : Int))) + (((((sN : Nat) : Int).toNat - j.toNat) : Nat) : Int))).toNat - (0 : Int).toNat) (((sC : Nat) : Int).toNat - (0 : Int).toNat)) h23) h21))) ∧
                                (vs_10.length ≠ 0 → ∃ bv_14 ov_14 : Nat, (slA (slA sA 2 (0 : Int) ((sC : Nat) : Int)) 2 i (((((sC : Nat) : Int).toNat - (0 : Int).toNat) : Nat) : Int)) = some ⟨bv_14, ov_14, none⟩ ∧ stH h19 bv_14 ov_14 vs_10 fun h20 =>
                                  (0 ≤ ((sN : Nat) : Int) ∧ ((sN : Nat) : Int) ≤ ((((IntKind.wrap .i64 ((IntKind.wrap .i64 ((((i.toNat - (0 : Int).toNat) : Nat) : Int) + ((vN : Nat) : Int))) + (((((sN : Nat) : Int).toNat - j.toNat) : Nat) : Int))).toNat - (0 : Int).toNat) : Nat) : Int) ∧ ((((IntKind.wrap .i64 ((IntKind.wrap .i64 ((((i.toNat - (0 : Int).toNat) : Nat) : Int) + ((vN : Nat) : Int))) + (((((sN : Nat) : Int).toNat - j.toNat) : Nat) : Int))).toNat - (0 : Int).toNat) : Nat) : Int) ≤ (((((sC : Nat) : Int).toNat - (0 : Int).toNat) : Nat) : Int) ∧ (((((sC : Nat) : Int).toNat - (0 : Int).toNat) : Nat) : Int) ≤ ((((sC : Nat) : Int).toNat - (0 : Int).toNat) : Nat)) ∧
                                  (0 ≤ (0 : Int) ∧ (0 : Int) ≤ (IntKind.wrap .i64 (((vN : Nat) : Int) - (IntKind.wrap .i64 (j - i)))) ∧ (IntKind.wrap .i64 (((vN : Nat) : Int) - (IntKind.wrap .i64 (j - i)))) ≤ ((vC : Nat) : Int) ∧ ((vC : Nat) : Int) ≤ (vC : Nat)) ∧
                                  ∃ vs_12 : List Value, srcH h20 (slA vA 2 (0 : Int) ((vC : Nat) : Int)) (min ((IntKind.wrap .i64 (((vN : Nat) : Int) - (IntKind.wrap .i64 (j - i)))).toNat - (0 : Int).toNat) (((((IntKind.wrap .i64 ((IntKind.wrap .i64 ((((i.toNat - (0 : Int).toNat) : Nat) : Int) + ((vN : Nat) : Int))) + (((((sN : Nat) : Int).toNat - j.toNat) : Nat) : Int))).toNat - (0 : Int).toNat) : Nat) : Int).toNat - ((sN : Nat) : Int).toNat) * 2) vs_12 ∧
                                  ((vs_12.length = 0 →
                                      (0 ≤ i ∧ i ≤ ((((IntKind.wrap .i64 ((IntKind.wrap .i64 ((((i.toNat - (0 : Int).toNat) : Nat) : Int) + ((vN : Nat) : Int))) + (((((sN : Nat) : Int).toNat - j.toNat) : Nat) : Int))).toNat - (0 : Int).toNat) : Nat) : Int) ∧ ((((IntKind.wrap .i64 ((IntKind.wrap .i64 ((((i.toNat - (0 : Int).toNat) : Nat) : Int) + ((vN : Nat) : Int))) + (((((sN : Nat) : Int).toNat - j.toNat) : Nat) : Int))).toNat - (0 : Int).toNat) : Nat) : Int) ≤ (((((sC : Nat) : Int).toNat - (0 : Int).toNat) : Nat) : Int) ∧ (((((sC : Nat) : Int).toNat - (0 : Int).toNat) : Nat) : Int) ≤ ((((sC : Nat) : Int).toNat - (0 : Int).toNat) : Nat)) ∧
                                      CallH Tryz.prog id_slices_rotateRight_api_Pair [.slice (slA (slA sA 2 (0 : Int) ((sC : Nat) : Int)) 2 i (((((sC : Nat) : Int).toNat - (0 : Int).toNat) : Nat) : Int)) (((((IntKind.wrap .i64 ((IntKind.wrap .i64 ((((i.toNat - (0 : Int).toNat) : Nat) : Int) + ((vN : Nat) : Int))) + (((((sN : Nat) : Int).toNat - j.toNat) : Nat) : Int))).toNat - (0 : Int).toNat) : Nat) : Int).toNat - i.toNat) ((((((sC : Nat) : Int).toNat - (0 : Int).toNat) : Nat) : Int).toNat - i.toNat), .int .i64 (IntKind.wrap .i64 (((vN : Nat) : Int) - (IntKind.wrap .i64 (j - i))))] (fun _ h25 =>
                                        K (.slice (slA sA 2 (0 : Int) ((sC : Nat) : Int)) ((IntKind.wrap .i64 ((IntKind.wrap .i64 ((((i.toNat - (0 : Int).toNat) : Nat) : Int) + ((vN : Nat) : Int))) + (((((sN : Nat) : Int).toNat - j.toNat) : Nat) : Int))).toNat - (0 : Int).toNat) (((sC : Nat) : Int).toNat - (0 : Int).toNat)) h25) h20) ∧
                                    (vs_12.length ≠ 0 → ∃ bv_16 ov_16 : Nat, (slA (slA sA 2 (0 : Int) ((sC : Nat) : Int)) 2 ((sN : Nat) : Int) (((((sC : Nat) : Int).toNat - (0 : Int).toNat) : Nat) : Int)) = some ⟨bv_16, ov_16, none⟩ ∧ stH h20 bv_16 ov_16 vs_12 fun h24 =>
                                      (0 ≤ i ∧ i ≤ ((((IntKind.wrap .i64 ((IntKind.wrap .i64 ((((i.toNat - (0 : Int).toNat) : Nat) : Int) + ((vN : Nat) : Int))) + (((((sN : Nat) : Int).toNat - j.toNat) : Nat) : Int))).toNat - (0 : Int).toNat) : Nat) : Int) ∧ ((((IntKind.wrap .i64 ((IntKind.wrap .i64 ((((i.toNat - (0 : Int).toNat) : Nat) : Int) + ((vN : Nat) : Int))) + (((((sN : Nat) : Int).toNat - j.toNat) : Nat) : Int))).toNat - (0 : Int).toNat) : Nat) : Int) ≤ (((((sC : Nat) : Int).toNat - (0 : Int).toNat) : Nat) : Int) ∧ (((((sC : Nat) : Int).toNat - (0 : Int).toNat) : Nat) : Int) ≤ ((((sC : Nat) : Int).toNat - (0 : Int).toNat) : Nat)) ∧
                                      CallH Tryz.prog id_slices_rotateRight_api_Pair [.slice (slA (slA sA 2 (0 : Int) ((sC : Nat) : Int)) 2 i (((((sC : Nat) : Int).toNat - (0 : Int).toNat) : Nat) : Int)) (((((IntKind.wrap .i64 ((IntKind.wrap .i64 ((((i.toNat - (0 : Int).toNat) : Nat) : Int) + ((vN : Nat) : Int))) + (((((sN : Nat) : Int).toNat - j.toNat) : Nat) : Int))).toNat - (0 : Int).toNat) : Nat) : Int).toNat - i.toNat) ((((((sC : Nat) : Int).toNat - (0 : Int).toNat) : Nat) : Int).toNat - i.toNat), .int .i64 (IntKind.wrap .i64 (((vN : Nat) : Int) - (IntKind.wrap .i64 (j - i))))] (fun _ h26 =>
                                        K (.slice (slA sA 2 (0 : Int) ((sC : Nat) : Int)) ((IntKind.wrap .i64 ((IntKind.wrap .i64 ((((i.toNat - (0 : Int).toNat) : Nat) : Int) + ((vN : Nat) : Int))) + (((((sN : Nat) : Int).toNat - j.toNat) : Nat) : Int))).toNat - (0 : Int).toNat) (((sC : Nat) : Int).toNat - (0 : Int).toNat)) h26) h24))))) ∧
                            ((!t_1) = false →
                              (0 ≤ ((sN : Nat) : Int) ∧ ((sN : Nat) : Int) ≤ ((((IntKind.wrap .i64 ((IntKind.wrap .i64 ((((i.toNat - (0 : Int).toNat) : Nat) : Int) + ((vN : Nat) : Int))) + (((((sN : Nat) : Int).toNat - j.toNat) : Nat) : Int))).toNat - (0 : Int).toNat) : Nat) : Int) ∧ ((((IntKind.wrap .i64 ((IntKind.wrap .i64 ((((i.toNat - (0 : Int).toNat) : Nat) : Int) + ((vN : Nat) : Int))) + (((((sN : Nat) : Int).toNat - j.toNat) : Nat) : Int))).toNat - (0 : Int).toNat) : Nat) : Int) ≤ (((((sC : Nat) : Int).toNat - (0 : Int).toNat) : Nat) : Int) ∧ (((((sC : Nat) : Int).toNat - (0 : Int).toNat) : Nat) : Int) ≤ ((((sC : Nat) : Int).toNat - (0 : Int).toNat) : Nat)) ∧
                              ExtH Tryz.prog id_slices_overlaps_api_Pair [.slice (slA (slA sA 2 (0 : Int) ((sC : Nat) : Int)) 2 ((sN : Nat) : Int) (((((sC : Nat) : Int).toNat - (0 : Int).toNat) : Nat) : Int)) (((((IntKind.wrap .i64 ((IntKind.wrap .i64 ((((i.toNat - (0 : Int).toNat) : Nat) : Int) + ((vN : Nat) : Int))) + (((((sN : Nat) : Int).toNat - j.toNat) : Nat) : Int))).toNat - (0 : Int).toNat) : Nat) : Int).toNat - ((sN : Nat) : Int).toNat) ((((((sC : Nat) : Int).toNat - (0 : Int).toNat) : Nat) : Int).toNat - ((sN : Nat) : Int).toNat), .slice vA vN vC] (fun v_7 h27 =>
                                ∃ t_2 : Bool, v_7 = .bool t_2 ∧
                                (((!t_2) = true →
                                    (0 ≤ ((sN : Nat) : Int) ∧ ((sN : Nat) : Int) ≤ ((((IntKind.wrap .i64 ((IntKind.wrap .i64 ((((i.toNat - (0 : Int).toNat) : Nat) : Int) + ((vN : Nat) : Int))) + (((((sN : Nat) : Int).toNat - j.toNat) : Nat) : Int))).toNat - (0 : Int).toNat) : Nat) : Int) ∧ ((((IntKind.wrap .i64 ((IntKind.wrap .i64 ((((i.toNat - (0 : Int).toNat) : Nat) : Int) + ((vN : Nat) : Int))) + (((((sN : Nat) : Int).toNat - j.toNat) : Nat) : Int))).toNat - (0 : Int).toNat) : Nat) : Int) ≤ (((((sC : Nat) : Int).toNat - (0 : Int).toNat) : Nat) : Int) ∧ (((((sC : Nat) : Int).toNat - (0 : Int).toNat) : Nat) : Int) ≤ ((((sC : Nat) : Int).toNat - (0 : Int).toNat) : Nat)) ∧
                                    (0 ≤ (0 : Int) ∧ (0 : Int) ≤ (IntKind.wrap .i64 (((vN : Nat) : Int) - (IntKind.wrap .i64 (j - i)))) ∧ (IntKind.wrap .i64 (((vN : Nat) : Int) - (IntKind.wrap .i64 (j - i)))) ≤ ((vC : Nat) : Int) ∧ ((vC : Nat) : Int) ≤ (vC : Nat)) ∧
                                    ∃ vs_13 : List Value, srcH h27 (slA vA 2 (0 : Int) ((vC : Nat) : Int)) (min ((IntKind.wrap .i64 (((vN : Nat) : Int) - (IntKind.wrap .i64 (j - i)))).toNat - (0 : Int).toNat) (((((IntKind.wrap .i64 ((IntKind.wrap .i64 ((((i.toNat - (0 : Int).toNat) : Nat) : Int) + ((vN : Nat) : Int))) + (((((sN : Nat) : Int).toNat - j.toNat) : Nat) : Int))).toNat - (0 : Int).toNat) : Nat) : Int).toNat - ((sN : Nat) : Int).toNat) * 2) vs_13 ∧
                                    ((vs_13.length = 0 →
                                        (0 ≤ i ∧ i ≤ j ∧ j ≤ (((((sC : Nat) : Int).toNat - (0 : Int).toNat) : Nat) : Int) ∧ (((((sC : Nat) : Int).toNat - (0 : Int).toNat) : Nat) : Int) ≤ ((((sC : Nat) : Int).toNat - (0 : Int).toNat) : Nat)) ∧
                                        (0 ≤ (IntKind.wrap .i64 (((vN : Nat) : Int) - (IntKind.wrap .i64 (j - i)))) ∧ (IntKind.wrap .i64 (((vN : Nat) : Int) - (IntKind.wrap .i64 (j - i)))) ≤ ((vN : Nat) : Int) ∧ ((vN : Nat) : Int) ≤ ((vC : Nat) : Int) ∧ ((vC : Nat) : Int) ≤ (vC : Nat)) ∧
                                        ∃ vs_14 : List Value, srcH h27 (slA vA 2 (IntKind.wrap .i64 (((vN : Nat) : Int) - (IntKind.wrap .i64 (j - i)))) ((vC : Nat) : Int)) (min (((vN : Nat) : Int).toNat - (IntKind.wrap .i64 (((vN : Nat) : Int) - (IntKind.wrap .i64 (j - i)))).toNat) (j.toNat - i.toNat) * 2) vs_14 ∧
                                        ((vs_14.length = 0 →
                                            (0 ≤ i ∧ i ≤ ((((IntKind.wrap .i64 ((IntKind.wrap .i64 ((((i.toNat - (0 : Int).toNat) : Nat) : Int) + ((vN : Nat) : Int))) + (((((sN : Nat) : Int).toNat - j.toNat) : Nat) : Int))).toNat - (0 : Int).toNat) : Nat) : Int) ∧ ((((IntKind.wrap .i64 ((IntKind.wrap .i64 ((((i.toNat - (0 : Int).toNat) : Nat) : Int) + ((vN : Nat) : Int))) + (((((sN : Nat) : Int).toNat - j.toNat) : Nat) : Int))).toNat - (0 : Int).toNat) : Nat) : Int) ≤ (((((sC : Nat) : Int).toNat - (0 : Int).toNat) : Nat) : Int) ∧ (((((sC : Nat) : Int).toNat - (0 : Int).toNat) : Nat) : Int) ≤ ((((sC : Nat) : Int).toNat - (0 : Int).toNat) : Nat)) ∧
                                            CallH Tryz.prog id_slices_rotateRight_api_Pair [.slice (slA (slA sA 2 (0 : Int) ((sC : Nat) : Int)) 2 i (((((sC : Nat) : Int).toNat - (0 : Int).toNat) : Nat) : Int)) (((((IntKind.wrap .i64 ((IntKind.wrap .i64 ((((i.toNat - (0 : Int).toNat) : Nat) : Int) + ((vN : Nat) : Int))) + (((((sN : Nat) : Int).toNat - j.toNat) : Nat) : Int))).toNat - (0 : Int).toNat) : Nat) : Int).toNat - i.toNat) ((((((sC : Nat) : Int).toNat - (0 : Int).toNat) : Nat) : Int).toNat - i.toNat), .int .i64 (IntKind.wrap .i64 (((vN : Nat) : Int) - (IntKind.wrap .i64 (j - i))))] (fun _ h30 =>
                                              K (.slice (slA sA 2 (0 : Int) ((sC : Nat) : Int)) ((IntKind.wrap .i64 ((IntKind.wrap .i64 ((((i.toNat - (0 : Int).toNat) : Nat) : Int) + ((vN : Nat) : Int))) + (((((sN : Nat) : Int).toNat - j.toNat) : Nat) : Int))).toNat - (0 : Int).toNat) (((sC : Nat) : Int).toNat - (0 : Int).toNat)) h30) h27) ∧
                                          (vs_14.length ≠ 0 → ∃ bv_18 ov_18 : Nat, (slA (slA sA 2 (0 : Int) ((sC : Nat) : Int)) 2 i (((((sC : Nat) : Int).toNat - (0 : Int).toNat) : Nat) : Int)) = some ⟨bv_18, ov_18, none⟩ ∧ stH h27 bv_18 ov_18 vs_14 fun h29 =>
                                            (0 ≤ i ∧ i ≤ ((((IntKind.wrap .i64 ((IntKind.wrap .i64 ((((i.toNat - (0 : Int).toNat) : Nat) : Int) + ((vN : Nat) : Int))) + (((((sN : Nat) : Int).toNat - j.toNat) : Nat) : Int))).toNat - (0 : Int).toNat) : Nat) : Int) ∧ ((((IntKind.wrap .i64 ((IntKind.wrap .i64 ((((i.toNat - (0 : Int).toNat) : Nat) : Int) + ((vN : Nat) : Int))) + (((((sN : Nat) : Int).toNat - j.toNat) : Nat) : Int))).toNat - (0 : Int).toNat) : Nat) : Int) ≤ (((((sC : Nat) : Int).toNat - (0 : Int).toNat) : Nat) : Int) ∧ (((((sC : Nat) : Int).toNat - (0 : Int).toNat) : Nat) : Int) ≤ ((((sC : Nat) : Int).toNat - (0 : Int).toNat) : Nat)) ∧
                                            CallH Tryz.prog id_slices_rotateRight_api_Pair [.slice (slA (slA sA 2 (0 : Int) ((sC : Nat) : Int)) 2 i (((((sC : Nat) : Int).toNat - (0 : Int).toNat) : Nat) : Int)) (((((IntKind.wrap .i64 ((IntKind.wrap .i64 ((((i.toNat - (0 : Int).toNat) : Nat) : Int) + ((vN : Nat) : Int))) + (((((sN : Nat) : Int).toNat - j.toNat) : Nat) : Int))).toNat - (0 : Int).toNat) : Nat) : Int).toNat - i.toNat) ((((((sC : Nat) : Int).toNat - (0 : Int).toNat) : Nat) : Int).toNat - i.toNat), .int .i64 (IntKind.wrap .i64 (((vN : Nat) : Int) - (IntKind.wrap .i64 (j - i))))] (fun _ h31 =>
                                              K (.slice (slA sA 2 (0 : Int) ((sC : Nat) : Int)) ((IntKind.wrap .i64 ((IntKind.wrap .i64 ((((i.toNat - (0 : Int).toNat) : Nat) : Int) + ((vN : Nat) : Int))) + (((((sN : Nat) : Int).toNat - j.toNat) : Nat) : Int))).toNat - (0 : Int).toNat) (((sC : Nat) : Int).toNat - (0 : Int).toNat)) h31) h29))) ∧
                                      (vs_13.length ≠ 0 → ∃ bv_17 ov_17 : Nat, (slA (slA sA 2 (0 : Int) ((sC : Nat) : Int)) 2 ((sN : Nat) : Int) (((((sC : Nat) : Int).toNat - (0 : Int).toNat) : Nat) : Int)) = some ⟨bv_17, ov_17, none⟩ ∧ stH h27 bv_17 ov_17 vs_13 fun h28 =>
                                        (0 ≤ i ∧ i ≤ j ∧ j ≤ (((((sC : Nat) : Int).toNat - (0 : Int).toNat) : Nat) : Int) ∧ (((((sC : Nat) : Int).toNat - (0 : Int).toNat) : Nat) : Int) ≤ ((((sC : Nat) : Int).toNat - (0 : Int).toNat) : Nat)) ∧
                                        (0 ≤ (IntKind.wrap .i64 (((vN : Nat) : Int) - (IntKind.wrap .i64 (j - i)))) ∧ (IntKind.wrap .i64 (((vN : Nat) : Int) - (IntKind.wrap .i64 (j - i)))) ≤ ((vN : Nat) : Int) ∧ ((vN : Nat) : Int) ≤ ((vC : Nat) : Int) ∧ ((vC : Nat) : Int) ≤ (vC : Nat)) ∧
                                        ∃ vs_15 : List Value, srcH h28 (slA vA 2 (IntKind.wrap .i64 (((vN : Nat) : Int) - (IntKind.wrap .i64 (j - i)))) ((vC : Nat) : Int)) (min (((vN : Nat) : Int).toNat - (IntKind.wrap .i64 (((vN : Nat) : Int) - (IntKind.wrap .i64 (j - i)))).toNat) (j.toNat - i.toNat) * 2) vs_15 ∧
                                        ((vs_15.length = 0 →
                                            (0 ≤ i ∧ i ≤ ((((IntKind.wrap .i64 ((IntKind.wrap .i64 ((((i.toNat - (0 : Int).toNat) : Nat) : Int) + ((vN : Nat) : Int))) + (((((sN : Nat) : Int).toNat - j.toNat) : Nat) : Int))).toNat - (0 : Int).toNat) : Nat) : Int) ∧ ((((IntKind.wrap .i64 ((IntKind.wrap .i64 ((((i.toNat - (0 : Int).toNat) : Nat) : Int) + ((vN : Nat) : Int))) + (((((sN : Nat) : Int).toNat - j.toNat) : Nat) : Int))).toNat - (0 : Int).toNat) : Nat) : Int) ≤ (((((sC : Nat) : Int).toNat - (0 : Int).toNat) : Nat) : Int) ∧ (((((sC : Nat) : Int).toNat - (0 : Int).toNat) : Nat) : Int) ≤ ((((sC : Nat) : Int).toNat - (0 : Int).toNat) : Nat)) ∧
                                            CallH Tryz.prog id_slices_rotateRight_api_Pair [.slice (slA (slA sA 2 (0 : Int) ((sC : Nat) : Int)) 2 i (((((sC : Nat) : Int).toNat - (0 : Int).toNat) : Nat) : Int)) (((((IntKind.wrap .i64 ((IntKind.wrap .i64 ((((i.toNat - (0 : Int).toNat) : Nat) : Int) + ((vN : Nat) : Int))) + (((((sN : Nat) : Int).toNat - j.toNat) : Nat) : Int))).toNat - (0 : Int).toNat) : Nat) : Int).toNat - i.toNat) ((((((sC : Nat) : Int).toNat - (0 : Int).toNat) : Nat) : Int).toNat - i.toNat), .int .i64 (IntKind.wrap .i64 (((vN : Nat) : Int) - (IntKind.wrap .i64 (j - i))))] (fun _ h33 =>
                                              K (.slice (slA sA 2 (0 : Int) ((sC : Nat) : Int)) ((IntKind.wrap .i64 ((IntKind.wrap .i64 ((((i.toNat - (0 : Int).toNat) : Nat) : Int) + ((vN : Nat) : Int))) + (((((sN : Nat) : Int).toNat - j.toNat) : Nat) : Int))).toNat - (0 : Int).toNat) (((sC : Nat) : Int).toNat - (0 : Int).toNat)) h33) h28) ∧
                                          (vs_15.length ≠ 0 → ∃ bv_19 ov_19 : Nat, (slA (slA sA 2 (0 : Int) ((sC : Nat) : Int)) 2 i (((((sC : Nat) : Int).toNat - (0 : Int).toNat) : Nat) : Int)) = some ⟨bv_19, ov_19, none⟩ ∧ stH h28 bv_19 ov_19 vs_15 fun h32 =>
                                            (0 ≤ i ∧ i ≤ ((((IntKind.wrap .i64 ((IntKind.wrap .i64 ((((i.toNat - (0 : Int).toNat) : Nat) : Int) + ((vN : Nat) : Int))) + (((((sN : Nat) : Int).toNat - j.toNat) : Nat) : Int))).toNat - (0 : Int).toNat) : Nat) : Int) ∧ ((((IntKind.wrap .i64 ((IntKind.wrap .i64 ((((i.toNat - (0 : Int).toNat) : Nat) : Int) + ((vN : Nat) : Int))) + (((((sN : Nat) : Int).toNat - j.toNat) : Nat) : Int))).toNat - (0 : Int).toNat) : Nat) : Int) ≤ (((((sC : Nat) : Int).toNat - (0 : Int).toNat) : Nat) : Int) ∧ (((((sC : Nat) : Int).toNat - (0 : Int).toNat) : Nat) : Int) ≤ ((((sC : Nat) : Int).toNat - (0 : Int).toNat) : Nat)) ∧
                                            CallH Tryz.prog id_slices_rotateRight_api_Pair [.slice (slA (slA sA 2 (0 : Int) ((sC : Nat) : Int)) 2 i (((((sC : Nat) : Int).toNat - (0 : Int).toNat) : Nat) : Int)) (((((IntKind.wrap .i64 ((IntKind.wrap .i64 ((((i.toNat - (0 : Int).toNat) : Nat) : Int) + ((vN : Nat) : Int))) + (((((sN : Nat) : Int).toNat - j.toNat) : Nat) : Int))).toNat - (0 : Int).toNat) : Nat) : Int).toNat - i.toNat) ((((((sC : Nat) : Int).toNat - (0 : Int).toNat) : Nat) : Int).toNat - i.toNat), .int .i64 (IntKind.wrap .i64 (((vN : Nat) : Int) - (IntKind.wrap .i64 (j - i))))] (fun _ h34 =>
                                              K (.slice (slA sA 2 (0 : Int) ((sC : Nat) : Int)) ((IntKind.wrap .i64 ((IntKind.wrap .i64 ((((i.toNat - (0 : Int).toNat) : Nat) : Int) + ((vN : Nat) : Int))) + (((((sN : Nat) : Int).toNat - j.toNat) : Nat) : Int))).toNat - (0 : Int).toNat) (((sC : Nat) : Int).toNat - (0 : Int).toNat)) h34) h32))))) ∧
                                  ((!t_2) = false →
                                    (0 ≤ j ∧ j ≤ ((sN : Nat) : Int) ∧ ((sN : Nat) : Int) ≤ ((sC : Nat) : Int) ∧ ((sC : Nat) : Int) ≤ (sC : Nat)) ∧
                                    CallH Tryz.prog id_slices_startIdx_api_Pair [.slice vA vN vC, .slice (slA sA 2 j ((sC : Nat) : Int)) (((sN : Nat) : Int).toNat - j.toNat) (((sC : Nat) : Int).toNat - j.toNat)] (fun v_12 h35 =>
                                      ∃ k : Int, v_12 = .int .i64 k ∧
                                      (0 ≤ i ∧ i ≤ ((((IntKind.wrap .i64 ((IntKind.wrap .i64 ((((i.toNat - (0 : Int).toNat) : Nat) : Int) + ((vN : Nat) : Int))) + (((((sN : Nat) : Int).toNat - j.toNat) : Nat) : Int))).toNat - (0 : Int).toNat) : Nat) : Int) ∧ ((((IntKind.wrap .i64 ((IntKind.wrap .i64 ((((i.toNat - (0 : Int).toNat) : Nat) : Int) + ((vN : Nat) : Int))) + (((((sN : Nat) : Int).toNat - j.toNat) : Nat) : Int))).toNat - (0 : Int).toNat) : Nat) : Int) ≤ (((((sC : Nat) : Int).toNat - (0 : Int).toNat) : Nat) : Int) ∧ (((((sC : Nat) : Int).toNat - (0 : Int).toNat) : Nat) : Int) ≤ ((((sC : Nat) : Int).toNat - (0 : Int).toNat) : Nat)) ∧
                                      ∃ vs_16 : List Value, srcH h35 vA (min vN (((((IntKind.wrap .i64 ((IntKind.wrap .i64 ((((i.toNat - (0 : Int).toNat) : Nat) : Int) + ((vN : Nat) : Int))) + (((((sN : Nat) : Int).toNat - j.toNat) : Nat) : Int))).toNat - (0 : Int).toNat) : Nat) : Int).toNat - i.toNat) * 2) vs_16 ∧
                                      ((vs_16.length = 0 →
                                          (0 ≤ (IntKind.wrap .i64 (i + ((vN : Nat) : Int))) ∧ (IntKind.wrap .i64 (i + ((vN : Nat) : Int))) ≤ ((((IntKind.wrap .i64 ((IntKind.wrap .i64 ((((i.toNat - (0 : Int).toNat) : Nat) : Int) + ((vN : Nat) : Int))) + (((((sN : Nat) : Int).toNat - j.toNat) : Nat) : Int))).toNat - (0 : Int).toNat) : Nat) : Int) ∧ ((((IntKind.wrap .i64 ((IntKind.wrap .i64 ((((i.toNat - (0 : Int).toNat) : Nat) : Int) + ((vN : Nat) : Int))) + (((((sN : Nat) : Int).toNat - j.toNat) : Nat) : Int))).toNat - (0 : Int).toNat) : Nat) : Int) ≤ (((((sC : Nat) : Int).toNat - (0 : Int).toNat) : Nat) : Int) ∧ (((((sC : Nat) : Int).toNat - (0 : Int).toNat) : Nat) : Int) ≤ ((((sC : Nat) : Int).toNat - (0 : Int).toNat) : Nat)) ∧
                                          (0 ≤ (IntKind.wrap .i64 (i + k)) ∧ (IntKind.wrap .i64 (i + k)) ≤ ((((IntKind.wrap .i64 ((IntKind.wrap .i64 ((((i.toNat - (0 : Int).toNat) : Nat) : Int) + ((vN : Nat) : Int))) + (((((sN : Nat) : Int).toNat - j.toNat) : Nat) : Int))).toNat - (0 : Int).toNat) : Nat) : Int) ∧ ((((IntKind.wrap .i64 ((IntKind.wrap .i64 ((((i.toNat - (0 : Int).toNat) : Nat) : Int) + ((vN : Nat) : Int))) + (((((sN : Nat) : Int).toNat - j.toNat) : Nat) : Int))).toNat - (0 : Int).toNat) : Nat) : Int) ≤ (((((sC : Nat) : Int).toNat - (0 : Int).toNat) : Nat) : Int) ∧ (((((sC : Nat) : Int).toNat - (0 : Int).toNat) : Nat) : Int) ≤ ((((sC : Nat) : Int).toNat - (0 : Int).toNat) : Nat)) ∧
                                          ∃ vs_17 : List Value, srcH h35 (slA (slA sA 2 (0 : Int) ((sC : Nat) : Int)) 2 (IntKind.wrap .i64 (i + k)) (((((sC : Nat) : Int).toNat - (0 : Int).toNat) : Nat) : Int)) (min (((((IntKind.wrap .i64 ((IntKind.wrap .i64 ((((i.toNat - (0 : Int).toNat) : Nat) : Int) + ((vN : Nat) : Int))) + (((((sN : Nat) : Int).toNat - j.toNat) : Nat) : Int))).toNat - (0 : Int).toNat) : Nat) : Int).toNat - (IntKind.wrap .i64 (i + k)).toNat) (((((IntKind.wrap .i64 ((IntKind.wrap .i64 ((((i.toNat - (0 : Int).toNat) : Nat) : Int) + ((vN : Nat) : Int))) + (((((sN : Nat) : Int).toNat - j.toNat) : Nat) : Int))).toNat - (0 : Int).toNat) : Nat) : Int).toNat - (IntKind.wrap .i64 (i + ((vN : Nat) : Int))).toNat) * 2) vs_17 ∧
                                          ((vs_17.length = 0 →
                                              K (.slice (slA sA 2 (0 : Int) ((sC : Nat) : Int)) ((IntKind.wrap .i64 ((IntKind.wrap .i64 ((((i.toNat - (0 : Int).toNat) : Nat) : Int) + ((vN : Nat) : Int))) + (((((sN : Nat) : Int).toNat - j.toNat) : Nat) : Int))).toNat - (0 : Int).toNat) (((sC : Nat) : Int).toNat - (0 : Int).toNat)) h35) ∧
                                            (vs_17.length ≠ 0 → ∃ bv_21 ov_21 : Nat, (slA (slA sA 2 (0 : Int) ((sC : Nat) : Int)) 2 (IntKind.wrap .i64 (i + ((vN : Nat) : Int))) (((((sC : Nat) : Int).toNat - (0 : Int).toNat) : Nat) : Int)) = some ⟨bv_21, ov_21, none⟩ ∧ stH h35 bv_21 ov_21 vs_17 fun h37 =>
                                              K (.slice (slA sA 2 (0 : Int) ((sC : Nat) : Int)) ((IntKind.wrap .i64 ((IntKind.wrap .i64 ((((i.toNat - (0 : Int).toNat) : Nat) : Int) + ((vN : Nat) : Int))) + (((((sN : Nat) : Int).toNat - j.toNat) : Nat) : Int))).toNat - (0 : Int).toNat) (((sC : Nat) : Int).toNat - (0 : Int).toNat)) h37))) ∧
                                        (vs_16.length ≠ 0 → ∃ bv_20 ov_20 : Nat, (slA (slA sA 2 (0 : Int) ((sC : Nat) : Int)) 2 i (((((sC : Nat) : Int).toNat - (0 : Int).toNat) : Nat) : Int)) = some ⟨bv_20, ov_20, none⟩ ∧ stH h35 bv_20 ov_20 vs_16 fun h36 =>
                                          (0 ≤ (IntKind.wrap .i64 (i + ((vN : Nat) : Int))) ∧ (IntKind.wrap .i64 (i + ((vN : Nat) : Int))) ≤ ((((IntKind.wrap .i64 ((IntKind.wrap .i64 ((((i.toNat - (0 : Int).toNat) : Nat) : Int) + ((vN : Nat) : Int))) + (((((sN : Nat) : Int).toNat - j.toNat) : Nat) : Int))).toNat - (0 : Int).toNat) : Nat) : Int) ∧ ((((IntKind.wrap .i64 ((IntKind.wrap .i64 ((((i.toNat - (0 : Int).toNat) : Nat) : Int) + ((vN : Nat) : Int))) + (((((sN : Nat) : Int).toNat - j.toNat) : Nat) : Int))).toNat - (0 : Int).toNat) : Nat) : Int) ≤ (((((sC : Nat) : Int).toNat - (0 : Int).toNat) : Nat) : Int) ∧ (((((sC : Nat) : Int).toNat - (0 : Int).toNat) : Nat) : Int) ≤ ((((sC : Nat) : Int).toNat - (0 : Int).toNat) : Nat)) ∧
                                          (0 ≤ (IntKind.wrap .i64 (i + k)) ∧ (IntKind.wrap .i64 (i + k)) ≤ ((((IntKind.wrap .i64 ((IntKind.wrap .i64 ((((i.toNat - (0 : Int).toNat) : Nat) : Int) + ((vN : Nat) : Int))) + (((((sN : Nat) : Int).toNat - j.toNat) : Nat) : Int))).toNat - (0 : Int).toNat) : Nat) : Int) ∧ ((((IntKind.wrap .i64 ((IntKind.wrap .i64 ((((i.toNat - (0 : Int).toNat) : Nat) : Int) + ((vN : Nat) : Int))) + (((((sN : Nat) : Int).toNat - j.toNat) : Nat) : Int))).toNat - (0 : Int).toNat) : Nat) : Int) ≤ (((((sC : Nat) : Int).toNat - (0 : Int).toNat) : Nat) : Int) ∧ (((((sC : Nat) : Int).toNat - (0 : Int).toNat) : Nat) : Int) ≤ ((((sC : Nat) : Int).toNat - (0 : Int).toNat) : Nat)) ∧
                                          ∃ vs_18 : List Value, srcH h36 (slA (slA sA 2 (0 : Int) ((sC : Nat) : Int)) 2 (IntKind.wrap .i64 (i + k)) (((((sC : Nat) : Int).toNat - (0 : Int).toNat) : Nat) : Int)) (min (((((IntKind.wrap .i64 ((IntKind.wrap .i64 ((((i.toNat - (0 : Int).toNat) : Nat) : Int) + ((vN : Nat) : Int))) + (((((sN : Nat) : Int).toNat - j.toNat) : Nat) : Int))).toNat - (0 : Int).toNat) : Nat) : Int).toNat - (IntKind.wrap .i64 (i + k)).toNat) (((((IntKind.wrap .i64 ((IntKind.wrap .i64 ((((i.toNat - (0 : Int).toNat) : Nat) : Int) + ((vN : Nat) : Int))) + (((((sN : Nat) : Int).toNat - j.toNat) : Nat) : Int))).toNat - (0 : Int).toNat) : Nat) : Int).toNat - (IntKind.wrap .i64 (i + ((vN : Nat) : Int))).toNat) * 2) vs_18 ∧
                                          ((vs_18.length = 0 →
                                              K (.slice (slA sA 2 (0 : Int) ((sC : Nat) : Int)) ((IntKind.wrap .i64 ((IntKind.wrap .i64 ((((i.toNat - (0 : Int).toNat) : Nat) : Int) + ((vN : Nat) : Int))) + (((((sN : Nat) : Int).toNat - j.toNat) : Nat) : Int))).toNat - (0 : Int).toNat) (((sC : Nat) : Int).toNat - (0 : Int).toNat)) h36) ∧
                                            (vs_18.length ≠ 0 → ∃ bv_22 ov_22 : Nat, (slA (slA sA 2 (0 : Int) ((sC : Nat) : Int)) 2 (IntKind.wrap .i64 (i + ((vN : Nat) : Int))) (((((sC : Nat) : Int).toNat - (0 : Int).toNat) : Nat) : Int)) = some ⟨bv_22, ov_22, none⟩ ∧ stH h36 bv_22 ov_22 vs_18 fun h38 =>
                                              K (.slice (slA sA 2 (0 : Int) ((sC : Nat) : Int)) ((IntKind.wrap .i64 ((IntKind.wrap .i64 ((((i.toNat - (0 : Int).toNat) : Nat) : Int) + ((vN : Nat) : Int))) + (((((sN : Nat) : Int).toNat - j.toNat) : Nat) : Int))).toNat - (0 : Int).toNat) (((sC : Nat) : Int).toNat - (0 : Int).toNat)) h38))))) h27))) h19))) h15))) h))))))))
set_option maxRecDepth 100000 in
theorem F_slices_Replace_api_Pair_api_Pair_eq {sA : Option Addr} {sN sC : Nat} {i : Int} {j : Int} {vA : Option Addr} {vN vC : Nat} {K : Value → PH → Prop} {h : PH} : @Eq Prop (F_slices_Replace_api_Pair_api_Pair sA sN sC i j vA vN vC K h) (denF Tryz.prog Tryz.f95 ⟨[], [], [], []⟩ [.v (.slice sA sN sC), .v (.int .i64 i), .v (.int .i64 j), .v (.slice vA vN vC)] K h) := by
  kernel_rfl
theorem F_slices_Replace_api_Pair_api_Pair_ok {sA : Option Addr} {sN sC : Nat} {i : Int} {j : Int} {vA : Option Addr} {vN vC : Nat}  {K : Value → PH → Prop} {h : PH} (hh : F_slices_Replace_api_Pair_api_Pair sA sN sC i j vA vN vC K h) : CallH Tryz.prog id_slices_Replace_api_Pair_api_Pair [.slice sA sN sC, .int .i64 i, .int .i64 j, .slice vA vN vC] K h :=
  denF_sound' Tryz.func95 (H := ⟨[], [], [], []⟩) (xs := [.v (.slice sA sN sC), .v (.int .i64 i), .v (.int .i64 j), .v (.slice vA vN vC)]) (by kernel_rfl) (⟨rfl, rfl, rfl, rfl, trivial⟩) (den_of F_slices_Replace_api_Pair_api_Pair_eq hh)

/- slices.Clone[[]twinlock/api.Pair,twinlock/api.Pair] -/
def F_slices_Clone_api_Pair_api_Pair (sA : Option Addr) (sN _ : Nat) (K : Value → PH → Prop) (h : PH) : Prop :=
  (((Option.isNone sA) = true →
      K (.slice none 0 0) h) ∧
    ((Option.isNone sA) = false →
      newH h (.cells #[] T_api_Pair (0, 0)) fun bv h1 =>
      ∃ vs : List Value, srcH h1 sA (sN * 2) vs ∧
      appH T_api_Pair 2 32 [.string (⟨#[]⟩ : ByteArray), .string (⟨#[]⟩ : ByteArray)] (some ⟨bv, 0, none⟩) 0 0 sN vs (fun tA tN tC h2 =>
        K (.slice tA tN tC) h2) h1))
theorem F_slices_Clone_api_Pair_api_Pair_eq {sA : Option Addr} {sN sC : Nat} {K : Value → PH → Prop} {h : PH} : @Eq Prop (F_slices_Clone_api_Pair_api_Pair sA sN sC K h) (denF Tryz.prog Tryz.f96 ⟨[], [], [], []⟩ [.v (.slice sA sN sC)] K h) := by
  kernel_rfl
theorem F_slices_Clone_api_Pair_api_Pair_ok {sA : Option Addr} {sN sC : Nat}  {K : Value → PH → Prop} {h : PH} (hh : F_slices_Clone_api_Pair_api_Pair sA sN sC K h) : CallH Tryz.prog id_slices_Clone_api_Pair_api_Pair [.slice sA sN sC] K h :=
  denF_sound' Tryz.func96 (H := ⟨[], [], [], []⟩) (xs := [.v (.slice sA sN sC)]) (by kernel_rfl) (⟨rfl, trivial⟩) (den_of F_slices_Clone_api_Pair_api_Pair_eq hh)

/- slices.Insert[[]twinlock/api.Pair,twinlock/api.Pair] -/
def F_slices_Insert_api_Pair_api_Pair (sA : Option Addr) (sN sC : Nat) (i : Int) (vA : Option Addr) (vN vC : Nat) (K : Value → PH → Prop) (h : PH) : Prop :=
  (0 ≤ i ∧ i ≤ ((sN : Nat) : Int) ∧ ((sN : Nat) : Int) ≤ ((sC : Nat) : Int) ∧ ((sC : Nat) : Int) ≤ (sC : Nat)) ∧
  (((((vN : Nat) : Int) == (0 : Int)) = true →
      K (.slice sA sN sC) h) ∧
    ((((vN : Nat) : Int) == (0 : Int)) = false →
      (((i == ((sN : Nat) : Int)) = true →
          ∃ vs : List Value, srcH h vA (vN * 2) vs ∧
          appH T_api_Pair 2 32 [.string (⟨#[]⟩ : ByteArray), .string (⟨#[]⟩ : ByteArray)] sA sN sC vN vs (fun tA tN tC h1 =>
            K (.slice tA tN tC) h1) h) ∧
        ((i == ((sN : Nat) : Int)) = false →
          (((decide ((IntKind.wrap .i64 (((sN : Nat) : Int) + ((vN : Nat) : Int))) > ((sC : Nat) : Int))) = true →
              (0 ≤ (0 : Int) ∧ (0 : Int) ≤ i ∧ i ≤ ((sC : Nat) : Int) ∧ ((sC : Nat) : Int) ≤ (sC : Nat)) ∧
              (0 ≤ (IntKind.wrap .i64 ((IntKind.wrap .i64 (((sN : Nat) : Int) + ((vN : Nat) : Int))) - i)) ∧ (IntKind.wrap .i64 ((IntKind.wrap .i64 (((sN : Nat) : Int) + ((vN : Nat) : Int))) - i)) * (32 : Nat) ≤ 140737488355328) ∧
              appH T_api_Pair 2 32 [.string (⟨#[]⟩ : ByteArray), .string (⟨#[]⟩ : ByteArray)] (slA sA 2 (0 : Int) ((sC : Nat) : Int)) (i.toNat - (0 : Int).toNat) (((sC : Nat) : Int).toNat - (0 : Int).toNat) ((IntKind.wrap .i64 ((IntKind.wrap .i64 (((sN : Nat) : Int) + ((vN : Nat) : Int))) - i))).toNat (List.replicate ((IntKind.wrap .i64 ((IntKind.wrap .i64 (((sN : Nat) : Int) + ((vN : Nat) : Int))) - i))).toNat [.string (⟨#[]⟩ : ByteArray), .string (⟨#[]⟩ : ByteArray)]).flatten (fun s2A s2N s2C h2 =>
                (0 ≤ i ∧ i ≤ ((s2N : Nat) : Int) ∧ ((s2N : Nat) : Int) ≤ ((s2C : Nat) : Int) ∧ ((s2C : Nat) : Int) ≤ (s2C : Nat)) ∧
                ∃ vs_1 : List Value, srcH h2 vA (min vN (((s2N : Nat) : Int).toNat - i.toNat) * 2) vs_1 ∧
                ((vs_1.length = 0 →
                    (0 ≤ (IntKind.wrap .i64 (i + ((vN : Nat) : Int))) ∧ (IntKind.wrap .i64 (i + ((vN : Nat) : Int))) ≤ ((s2N : Nat) : Int) ∧ ((s2N : Nat) : Int) ≤ ((s2C : Nat) : Int) ∧ ((s2C : Nat) : Int) ≤ (s2C : Nat)) ∧
                    (0 ≤ i ∧ i ≤ ((sN : Nat) : Int) ∧ ((sN : Nat) : Int) ≤ ((sC : Nat) : Int) ∧ ((sC : Nat) : Int) ≤ (sC : Nat)) ∧
                    ∃ vs_2 : List Value, srcH h2 (slA sA 2 i ((sC : Nat) : Int)) (min (((sN : Nat) : Int).toNat - i.toNat) (((s2N : Nat) : Int).toNat - (IntKind.wrap .i64 (i + ((vN : Nat) : Int))).toNat) * 2) vs_2 ∧
                    ((vs_2.length = 0 →
                        K (.slice s2A s2N s2C) h2) ∧
                      (vs_2.length ≠ 0 → ∃ bv_1 ov_1 : Nat, (slA s2A 2 (IntKind.wrap .i64 (i + ((vN : Nat) : Int))) ((s2C : Nat) : Int)) = some ⟨bv_1, ov_1, none⟩ ∧ stH h2 bv_1 ov_1 vs_2 fun h4 =>
                        K (.slice s2A s2N s2C) h4))) ∧
                  (vs_1.length ≠ 0 → ∃ bv ov : Nat, (slA s2A 2 i ((s2C : Nat) : Int)) = some ⟨bv, ov, none⟩ ∧ stH h2 bv ov vs_1 fun h3 =>
                    (0 ≤ (IntKind.wrap .i64 (i + ((vN : Nat) : Int))) ∧ (IntKind.wrap .i64 (i + ((vN : Nat) : Int))) ≤ ((s2N : Nat) : Int) ∧ ((s2N : Nat) : Int) ≤ ((s2C : Nat) : Int) ∧ ((s2C : Nat) : Int) ≤ (s2C : Nat)) ∧
                    (0 ≤ i ∧ i ≤ ((sN : Nat) : Int) ∧ ((sN : Nat) : Int) ≤ ((sC : Nat) : Int) ∧ ((sC : Nat) : Int) ≤ (sC : Nat)) ∧
                    ∃ vs_3 : List Value, srcH h3 (slA sA 2 i ((sC : Nat) : Int)) (min (((sN : Nat) : Int).toNat - i.toNat) (((s2N : Nat) : Int).toNat - (IntKind.wrap .i64 (i + ((vN : Nat) : Int))).toNat) * 2) vs_3 ∧
                    ((vs_3.length = 0 →
                        K (.slice s2A s2N s2C) h3) ∧
                      (vs_3.length ≠ 0 → ∃ bv_2 ov_2 : Nat, (slA s2A 2 (IntKind.wrap .i64 (i + ((vN : Nat) : Int))) ((s2C : Nat) : Int)) = some ⟨bv_2, ov_2, none⟩ ∧ stH h3 bv_2 ov_2 vs_3 fun h5 =>
                        K (.slice s2A s2N s2C) h5))))) h) ∧
            ((decide ((IntKind.wrap .i64 (((sN : Nat) : Int) + ((vN : Nat) : Int))) > ((sC : Nat) : Int))) = false →
              (0 ≤ (0 : Int) ∧ (0 : Int) ≤ (IntKind.wrap .i64 (((sN : Nat) : Int) + ((vN : Nat) : Int))) ∧ (IntKind.wrap .i64 (((sN : Nat) : Int) + ((vN : Nat) : Int))) ≤ ((sC : Nat) : Int) ∧ ((sC : Nat) : Int) ≤ (sC : Nat)) ∧
              (0 ≤ (IntKind.wrap .i64 (i + ((vN : Nat) : Int))) ∧ (IntKind.wrap .i64 (i + ((vN : Nat) : Int))) ≤ ((((IntKind.wrap .i64 (((sN : Nat) : Int) + ((vN : Nat) : Int))).toNat - (0 : Int).toNat) : Nat) : Int) ∧ ((((IntKind.wrap .i64 (((sN : Nat) : Int) + ((vN : Nat) : Int))).toNat - (0 : Int).toNat) : Nat) : Int) ≤ (((((sC : Nat) : Int).toNat - (0 : Int).toNat) : Nat) : Int) ∧ (((((sC : Nat) : Int).toNat - (0 : Int).toNat) : Nat) : Int) ≤ ((((sC : Nat) : Int).toNat - (0 : Int).toNat) : Nat)) ∧
              ExtH Tryz.prog id_slices_overlaps_api_Pair [.slice vA vN vC, .slice (slA (slA sA 2 (0 : Int) ((sC : Nat) : Int)) 2 (IntKind.wrap .i64 (i + ((vN : Nat) : Int))) (((((sC : Nat) : Int).toNat - (0 : Int).toNat) : Nat) : Int)) (((((IntKind.wrap .i64 (((sN : Nat) : Int) + ((vN : Nat) : Int))).toNat - (0 : Int).toNat) : Nat) : Int).toNat - (IntKind.wrap .i64 (i + ((vN : Nat) : Int))).toNat) ((((((sC : Nat) : Int).toNat - (0 : Int).toNat) : Nat) : Int).toNat - (IntKind.wrap .i64 (i + ((vN : Nat) : Int))).toNat)] (fun v h6 =>
                ∃ t : Bool, v = .bool t ∧
                (((!t) = true →
                    (0 ≤ (IntKind.wrap .i64 (i + ((vN : Nat) : Int))) ∧ (IntKind.wrap .i64 (i + ((vN : Nat) : Int))) ≤ ((((IntKind.wrap .i64 (((sN : Nat) : Int) + ((vN : Nat) : Int))).toNat - (0 : Int).toNat) : Nat) : Int) ∧ ((((IntKind.wrap .i64 (((sN : Nat) : Int) + ((vN : Nat) : Int))).toNat - (0 : Int).toNat) : Nat) : Int) ≤ (((((sC : Nat) : Int).toNat - (0 : Int).toNat) : Nat) : Int) ∧ (((((sC : Nat) : Int).toNat - (0 : Int).toNat) : Nat) : Int) ≤ ((((sC : Nat) : Int).toNat - (0 : Int).toNat) : Nat)) ∧
                    (0 ≤ i ∧ i ≤ ((((IntKind.wrap .i64 (((sN : Nat) : Int) + ((vN : Nat) : Int))).toNat - (0 : Int).toNat) : Nat) : Int) ∧ ((((IntKind.wrap .i64 (((sN : Nat) : Int) + ((vN : Nat) : Int))).toNat - (0 : Int).toNat) : Nat) : Int) ≤ (((((sC : Nat) : Int).toNat - (0 : Int).toNat) : Nat) : Int) ∧ (((((sC : Nat) : Int).toNat - (0 : Int).toNat) : Nat) : Int) ≤ ((((sC : Nat) : Int).toNat - (0 : Int).toNat) : Nat)) ∧
                    ∃ vs_4 : List Value, srcH h6 (slA (slA sA 2 (0 : Int) ((sC : Nat) : Int)) 2 i (((((sC : Nat) : Int).toNat - (0 : Int).toNat) : Nat) : Int)) (min (((((IntKind.wrap .i64 (((sN : Nat) : Int) + ((vN : Nat) : Int))).toNat - (0 : Int).toNat) : Nat) : Int).toNat - i.toNat) (((((IntKind.wrap .i64 (((sN : Nat) : Int) + ((vN : Nat) : Int))).toNat - (0 : Int).toNat) : Nat) : Int).toNat - (IntKind.wrap .i64 (i + ((vN : Nat) : Int))).toNat) * 2) vs_4 ∧
                    ((vs_4.length = 0 →
                        (0 ≤ i ∧ i ≤ ((((IntKind.wrap .i64 (((sN : Nat) : Int) + ((vN : Nat) : Int))).toNat - (0 : Int).toNat) : Nat) : Int) ∧ ((((IntKind.wrap .i64 (((sN : Nat) : Int) + ((vN : Nat) : Int))).toNat - (0 : Int).toNat) : Nat) : Int) ≤ (((((sC : Nat) : Int).toNat - (0 : Int).toNat) : Nat) : Int) ∧ (((((sC : Nat) : Int).toNat - (0 : Int).toNat) : Nat) : Int) ≤ ((((sC : Nat) : Int).toNat - (0 : Int).toNat) : Nat)) ∧
                        ∃ vs_5 : List Value, srcH h6 vA (min vN (((((IntKind.wrap .i64 (((sN : Nat) : Int) + ((vN : Nat) : Int))).toNat - (0 : Int).toNat) : Nat) : Int).toNat - i.toNat) * 2) vs_5 ∧
                        ((vs_5.length = 0 →
                            K (.slice (slA sA 2 (0 : Int) ((sC : Nat) : Int)) ((IntKind.wrap .i64 (((sN : Nat) : Int) + ((vN : Nat) : Int))).toNat - (0 : Int).toNat) (((sC : Nat) : Int).toNat - (0 : Int).toNat)) h6) ∧
                          (vs_5.length ≠ 0 → ∃ bv_4 ov_4 : Nat, (slA (slA sA 2 (0 : Int) ((sC : Nat) : Int)) 2 i (((((sC : Nat) : Int).toNat - (0 : Int).toNat) : Nat) : Int)) = some ⟨bv_4, ov_4, none⟩ ∧ stH h6 bv_4 ov_4 vs_5 fun h8 =>
                            K (.slice (slA sA 2 (0 : Int) ((sC : Nat) : Int)) ((IntKind.wrap .i64 (((sN : Nat) : Int) + ((vN : Nat) : Int))).toNat - (0 : Int).toNat) (((sC : Nat) : Int).toNat - (0 : Int).toNat)) h8))) ∧
                      (vs_4.length ≠ 0 → ∃ bv_3 ov_3 : Nat, (slA (slA sA 2 (0 : Int) ((sC : Nat) : Int)) 2 (IntKind.wrap .i64 (i + ((vN : Nat) : Int))) (((((sC : Nat) : Int).toNat - (0 : Int).toNat) : Nat) : Int)) = some ⟨bv_3, ov_3, none⟩ ∧ stH h6 bv_3 ov_3 vs_4 fun h7 =>
                        (0 ≤ i ∧ i ≤ ((((IntKind.wrap .i64 (((sN : Nat) : Int) + ((vN : Nat) : Int))).toNat - (0 : Int).toNat) : Nat) : Int) ∧ ((((IntKind.wrap .i64 (((sN : Nat) : Int) + ((vN : Nat) : Int))).toNat - (0 : Int).toNat) : Nat) : Int) ≤ (((((sC : Nat) : Int).toNat - (0 : Int).toNat) : Nat) : Int) ∧ (((((sC : Nat) : Int).toNat - (0 : Int).toNat) : Nat) : Int) ≤ ((((sC : Nat) : Int).toNat - (0 : Int).toNat) : Nat)) ∧
                        ∃ vs_6 : List Value, srcH h7 vA (min vN (((((IntKind.wrap .i64 (((sN : Nat) : Int) + ((vN : Nat) : Int))).toNat - (0 : Int).toNat) : Nat) : Int).toNat - i.toNat) * 2) vs_6 ∧
                        ((vs_6.length = 0 →
                            K (.slice (slA sA 2 (0 : Int) ((sC : Nat) : Int)) ((IntKind.wrap .i64 (((sN : Nat) : Int) + ((vN : Nat) : Int))).toNat - (0 : Int).toNat) (((sC : Nat) : Int).toNat - (0 : Int).toNat)) h7) ∧
                          (vs_6.length ≠ 0 → ∃ bv_5 ov_5 : Nat, (slA (slA sA 2 (0 : Int) ((sC : Nat) : Int)) 2 i (((((sC : Nat) : Int).toNat - (0 : Int).toNat) : Nat) : Int)) = some ⟨bv_5, ov_5, none⟩ ∧ stH h7 bv_5 ov_5 vs_6 fun h9 =>
                            K (.slice (slA sA 2 (0 : Int) ((sC : Nat) : Int)) ((IntKind.wrap .i64 (((sN : Nat) : Int) + ((vN : Nat) : Int))).toNat - (0 : Int).toNat) (((sC : Nat) : Int).toNat - (0 : Int).toNat)) h9))))) ∧
                  ((!t) = false →
                    (0 ≤ ((sN : Nat) : Int) ∧ ((sN : Nat) : Int) ≤ ((((IntKind.wrap .i64 (((sN : Nat) : Int) + ((vN : Nat) : Int))).toNat - (0 : Int).toNat) : Nat) : Int) ∧ ((((IntKind.wrap .i64 (((sN : Nat) : Int) + ((vN : Nat) : Int))).toNat - (0 : Int).toNat) : Nat) : Int) ≤ (((((sC : Nat) : Int).toNat - (0 : Int).toNat) : Nat) : Int) ∧ (((((sC : Nat) : Int).toNat - (0 : Int).toNat) : Nat) : Int) ≤ ((((sC : Nat) : Int).toNat - (0 : Int).toNat) : Nat)) ∧
                    ∃ vs_7 : List Value, srcH h6 vA (min vN (((((IntKind.wrap .i64 (((sN : Nat) : Int) + ((vN : Nat) : Int))).toNat - (0 : Int).toNat) : Nat) : Int).toNat - ((sN : Nat) : Int).toNat) * 2) vs_7 ∧
                    ((vs_7.length = 0 →
                        (0 ≤ i ∧ i ≤ ((((IntKind.wrap .i64 (((sN : Nat) : Int) + ((vN : Nat) : Int))).toNat - (0 : Int).toNat) : Nat) : Int) ∧ ((((IntKind.wrap .i64 (((sN : Nat) : Int) + ((vN : Nat) : Int))).toNat - (0 : Int).toNat) : Nat) : Int) ≤ (((((sC : Nat) : Int).toNat - (0 : Int).toNat) : Nat) : Int) ∧ (((((sC : Nat) : Int).toNat - (0 : Int).toNat) : Nat) : Int) ≤ ((((sC : Nat) : Int).toNat - (0 : Int).toNat) : Nat)) ∧
                        CallH Tryz.prog id_slices_rotateRight_api_Pair [.slice (slA (slA sA 2 (0 : Int) ((sC : Nat) : Int)) 2 i (((((sC : Nat) : Int).toNat - (0 : Int).toNat) : Nat) : Int)) (((((IntKind.wrap .i64 (((sN : Nat) : Int) + ((vN : Nat) : Int))).toNat - (0 : Int).toNat) : Nat) : Int).toNat - i.toNat) ((((((sC : Nat) : Int).toNat - (0 : Int).toNat) : Nat) : Int).toNat - i.toNat), .int .i64 ((vN : Nat) : Int)] (fun _ h11 =>
                          K (.slice (slA sA 2 (0 : Int) ((sC : Nat) : Int)) ((IntKind.wrap .i64 (((sN : Nat) : Int) + ((vN : Nat) : Int))).toNat - (0 : Int).toNat) (((sC : Nat) : Int).toNat - (0 : Int).toNat)) h11) h6) ∧
                      (vs_7.length ≠ 0 → ∃ bv_6 ov_6 : Nat, (slA (slA sA 2 (0 : Int) ((sC : Nat) : Int)) 2 ((sN : Nat) : Int) (((((sC : Nat) : Int).toNat - (0 : Int).toNat) : Nat) : Int)) = some ⟨bv_6, ov_6, none⟩ ∧ stH h6 bv_6 ov_6 vs_7 fun h10 =>
                        (0 ≤ i ∧ i ≤ ((((IntKind.wrap .i64 (((sN : Nat) : Int) + ((vN : Nat) : Int))).toNat - (0 : Int).toNat) : Nat) : Int) ∧ ((((IntKind.wrap .i64 (((sN : Nat) : Int) + ((vN : Nat) : Int))).toNat - (0 : Int).toNat) : Nat) : Int) ≤ (((((sC : Nat) : Int).toNat - (0 : Int).toNat) : Nat) : Int) ∧ (((((sC : Nat) : Int).toNat - (0 : Int).toNat) : Nat) : Int) ≤ ((((sC : Nat) : Int).toNat - (0 : Int).toNat) : Nat)) ∧
                        CallH Tryz.prog id_slices_rotateRight_api_Pair [.slice (slA (slA sA 2 (0 : Int) ((sC : Nat) : Int)) 2 i (((((sC : Nat) : Int).toNat - (0 : Int).toNat) : Nat) : Int)) (((((IntKind.wrap .i64 (((sN : Nat) : Int) + ((vN : Nat) : Int))).toNat - (0 : Int).toNat) : Nat) : Int).toNat - i.toNat) ((((((sC : Nat) : Int).toNat - (0 : Int).toNat) : Nat) : Int).toNat - i.toNat), .int .i64 ((vN : Nat) : Int)] (fun _ h12 =>
                          K (.slice (slA sA 2 (0 : Int) ((sC : Nat) : Int)) ((IntKind.wrap .i64 (((sN : Nat) : Int) + ((vN : Nat) : Int))).toNat - (0 : Int).toNat) (((sC : Nat) : Int).toNat - (0 : Int).toNat)) h12) h10))))) h))))))
theorem F_slices_Insert_api_Pair_api_Pair_eq {sA : Option Addr} {sN sC : Nat} {i : Int} {vA : Option Addr} {vN vC : Nat} {K : Value → PH → Prop} {h : PH} : @Eq Prop (F_slices_Insert_api_Pair_api_Pair sA sN sC i vA vN vC K h) (denF Tryz.prog Tryz.f97 ⟨[], [], [], []⟩ [.v (.slice sA sN sC), .v (.int .i64 i), .v (.slice vA vN vC)] K h) := by
  kernel_rfl
theorem F_slices_Insert_api_Pair_api_Pair_ok {sA : Option Addr} {sN sC : Nat} {i : Int} {vA : Option Addr} {vN vC : Nat}  {K : Value → PH → Prop} {h : PH} (hh : F_slices_Insert_api_Pair_api_Pair sA sN sC i vA vN vC K h) : CallH Tryz.prog id_slices_Insert_api_Pair_api_Pair [.slice sA sN sC, .int .i64 i, .slice vA vN vC] K h :=
  denF_sound' Tryz.func97 (H := ⟨[], [], [], []⟩) (xs := [.v (.slice sA sN sC), .v (.int .i64 i), .v (.slice vA vN vC)]) (by kernel_rfl) (⟨rfl, rfl, rfl, trivial⟩) (den_of F_slices_Insert_api_Pair_api_Pair_eq hh)

/- slices.Delete[[]twinlock/api.Pair,twinlock/api.Pair] -/
def F_slices_Delete_api_Pair_api_Pair (sA : Option Addr) (sN sC : Nat) (i : Int) (j : Int) (K : Value → PH → Prop) (h : PH) : Prop :=
  (0 ≤ i ∧ i ≤ j ∧ j ≤ ((sN : Nat) : Int) ∧ ((sN : Nat) : Int) ≤ (sC : Nat)) ∧
  (((i == j) = true →
      K (.slice sA sN sC) h) ∧
    ((i == j) = false →
      (0 ≤ (0 : Int) ∧ (0 : Int) ≤ i ∧ i ≤ ((sC : Nat) : Int) ∧ ((sC : Nat) : Int) ≤ (sC : Nat)) ∧
      (0 ≤ j ∧ j ≤ ((sN : Nat) : Int) ∧ ((sN : Nat) : Int) ≤ ((sC : Nat) : Int) ∧ ((sC : Nat) : Int) ≤ (sC : Nat)) ∧
      ∃ vs : List Value, srcH h (slA sA 2 j ((sC : Nat) : Int)) ((((sN : Nat) : Int).toNat - j.toNat) * 2) vs ∧
      appH T_api_Pair 2 32 [.string (⟨#[]⟩ : ByteArray), .string (⟨#[]⟩ : ByteArray)] (slA sA 2 (0 : Int) ((sC : Nat) : Int)) (i.toNat - (0 : Int).toNat) (((sC : Nat) : Int).toNat - (0 : Int).toNat) (((sN : Nat) : Int).toNat - j.toNat) vs (fun sA_1 sN_1 sC_1 h1 =>
        (0 ≤ ((sN_1 : Nat) : Int) ∧ ((sN_1 : Nat) : Int) ≤ ((sN : Nat) : Int) ∧ ((sN : Nat) : Int) ≤ ((sC_1 : Nat) : Int) ∧ ((sC_1 : Nat) : Int) ≤ (sC_1 : Nat)) ∧
        (((((sN : Nat) : Int).toNat - ((sN_1 : Nat) : Int).toNat) * 2 = 0 →
            K (.slice sA_1 sN_1 sC_1) h1) ∧
          ((((sN : Nat) : Int).toNat - ((sN_1 : Nat) : Int).toNat) * 2 ≠ 0 → ∃ bv ov : Nat, (slA sA_1 2 ((sN_1 : Nat) : Int) ((sC_1 : Nat) : Int)) = some ⟨bv, ov, none⟩ ∧ stH h1 bv ov (List.replicate (((sN : Nat) : Int).toNat - ((sN_1 : Nat) : Int).toNat) [.string (⟨#[]⟩ : ByteArray), .string (⟨#[]⟩ : ByteArray)]).flatten fun h2 =>
            K (.slice sA_1 sN_1 sC_1) h2))) h))
theorem F_slices_Delete_api_Pair_api_Pair_eq {sA : Option Addr} {sN sC : Nat} {i : Int} {j : Int} {K : Value → PH → Prop} {h : PH} : @Eq Prop (F_slices_Delete_api_Pair_api_Pair sA sN sC i j K h) (denF Tryz.prog Tryz.f99 ⟨[], [], [], []⟩ [.v (.slice sA sN sC), .v (.int .i64 i), .v (.int .i64 j)] K h) := by
  kernel_rfl
theorem F_slices_Delete_api_Pair_api_Pair_ok {sA : Option Addr} {sN sC : Nat} {i : Int} {j : Int}  {K : Value → PH → Prop} {h : PH} (hh : F_slices_Delete_api_Pair_api_Pair sA sN sC i j K h) : CallH Tryz.prog id_slices_Delete_api_Pair_api_Pair [.slice sA sN sC, .int .i64 i, .int .i64 j] K h :=
  denF_sound' Tryz.func99 (H := ⟨[], [], [], []⟩) (xs := [.v (.slice sA sN sC), .v (.int .i64 i), .v (.int .i64 j)]) (by kernel_rfl) (⟨rfl, rfl, rfl, trivial⟩) (den_of F_slices_Delete_api_Pair_api_Pair_eq hh)

/- twinlock/twinlockref15.Levels -/
def F_ref15_Levels (lA : Option Addr) (lN lC : Nat) (K : Value → PH → Prop) (h : PH) : Prop :=
  (0 ≤ (5 : Int) ∧ (5 : Int) ≤ (5 : Int) ∧ (5 : Int) * (24 : Nat) ≤ 140737488355328) ∧
  newH h (.cells (List.replicate (5 : Int).toNat [.slice none 0 0]).flatten.toArray 167 (0, 0)) fun bv h1 =>
  LoopP (T := Int × Unit) (fun Jv st h2 =>
    (((decide (st.1 < (16 : Int))) = true →
        ∃ bv_1 ov : Nat, ((some ⟨bv, 0, none⟩ : Option Addr) = some ⟨bv_1, ov, none⟩ ∧ 0 ≤ (4 : Int) ∧ (4 : Int) < ((5 : Int).toNat : Nat)) ∧
        ∃ (tA : Option Addr) (tN tC : Nat), (h2.rds bv_1 (ov + (4 : Int).toNat * 1) 1 = some [.slice tA tN tC]) ∧
        CallH Tryz.prog id_ref15_LeafText [.slice lA lN lC, .int .i64 st.1] (fun v h3 =>
          ∃ t : ByteArray, v = .string t ∧
          (h3.rds bv_1 (ov + (4 : Int).toNat * 1) 1 = some [.slice tA tN tC]) ∧
          CallH Tryz.prog id_ref02_Sum [.string t] (fun v_1 h4 =>
            ∃ t_1 : List Int, t_1.length = 32 ∧ v_1 = .agg ((t_1.map (Value.int .u8) ++ [])).toArray ∧
            (h4.rds bv_1 (ov + (4 : Int).toNat * 1) 1 = some [.slice tA tN tC]) ∧
            appH T_api_Hash 32 32 [.int .u8 (0 : Int), .int .u8 (0 : Int), .int .u8 (0 : Int), .int .u8 (0 : Int), .int .u8 (0 : Int), .int .u8 (0 : Int), .int .u8 (0 : Int), .int .u8 (0 : Int), .int .u8 (0 : Int), .int .u8 (0 : Int), .int .u8 (0 : Int), .int .u8 (0 : Int), .int .u8 (0 : Int), .int .u8 (0 : Int), .int .u8 (0 : Int), .int .u8 (0 : Int), .int .u8 (0 : Int), .int .u8 (0 : Int), .int .u8 (0 : Int), .int .u8 (0 : Int), .int .u8 (0 : Int), .int .u8 (0 : Int), .int .u8 (0 : Int), .int .u8 (0 : Int), .int .u8 (0 : Int), .int .u8 (0 : Int), .int .u8 (0 : Int), .int .u8 (0 : Int), .int .u8 (0 : Int), .int .u8 (0 : Int), .int .u8 (0 : Int), .int .u8 (0 : Int)] tA tN tC 1 (t_1.map (Value.int .u8) ++ []) (fun tA_1 tN_1 tC_1 h5 =>
              ∃ bv_2 ov_1 : Nat, ((some ⟨bv, 0, none⟩ : Option Addr) = some ⟨bv_2, ov_1, none⟩ ∧ 0 ≤ (4 : Int) ∧ (4 : Int) < ((5 : Int).toNat : Nat)) ∧
              stH h5 bv_2 (ov_1 + (4 : Int).toNat * 1) [.slice tA_1 tN_1 tC_1] fun h6 =>
              Jv ((IntKind.wrap .i64 (st.1 + (1 : Int))), ()) h6) h4) h3) h2) ∧
      ((decide (st.1 < (16 : Int))) = false →
        LoopP (T := Int × Unit) (fun Jv_1 st_1 h7 =>
          (((decide (st_1.1 ≥ (0 : Int))) = true →
              LoopP (T := Int × Unit) (fun Jv_2 st_2 h8 =>
                ∃ bv_3 ov_2 : Nat, ((some ⟨bv, 0, none⟩ : Option Addr) = some ⟨bv_3, ov_2, none⟩ ∧ 0 ≤ (IntKind.wrap .i64 (st_1.1 + (1 : Int))) ∧ (IntKind.wrap .i64 (st_1.1 + (1 : Int))) < ((5 : Int).toNat : Nat)) ∧
                ∃ (tA_2 : Option Addr) (tN_2 tC_2 : Nat), (h8.rds bv_3 (ov_2 + (IntKind.wrap .i64 (st_1.1 + (1 : Int))).toNat * 1) 1 = some [.slice tA_2 tN_2 tC_2]) ∧
                (((decide (st_2.1 < (IntKind.wrap .i64 (((tN_2 : Nat) : Int).tdiv (2 : Int))))) = true →
                    ∃ bv_4 ov_3 : Nat, ((some ⟨bv, 0, none⟩ : Option Addr) = some ⟨bv_4, ov_3, none⟩ ∧ 0 ≤ st_1.1 ∧ st_1.1 < ((5 : Int).toNat : Nat)) ∧
                    ∃ (tA_3 : Option Addr) (tN_3 tC_3 : Nat), (h8.rds bv_4 (ov_3 + st_1.1.toNat * 1) 1 = some [.slice tA_3 tN_3 tC_3]) ∧
                    ∃ bv_5 ov_4 : Nat, ((some ⟨bv, 0, none⟩ : Option Addr) = some ⟨bv_5, ov_4, none⟩ ∧ 0 ≤ (IntKind.wrap .i64 (st_1.1 + (1 : Int))) ∧ (IntKind.wrap .i64 (st_1.1 + (1 : Int))) < ((5 : Int).toNat : Nat)) ∧
                    ∃ (tA_4 : Option Addr) (tN_4 tC_4 : Nat), (h8.rds bv_5 (ov_4 + (IntKind.wrap .i64 (st_1.1 + (1 : Int))).toNat * 1) 1 = some [.slice tA_4 tN_4 tC_4]) ∧
                    ∃ bv_6 ov_5 : Nat, (tA_4 = some ⟨bv_6, ov_5, none⟩ ∧ 0 ≤ (IntKind.wrap .i64 ((2 : Int) * st_2.1)) ∧ (IntKind.wrap .i64 ((2 : Int) * st_2.1)) < (tN_4 : Nat)) ∧
                    ∃ t_2 : List Int, t_2.length = 32 ∧ (h8.rds bv_6 (ov_5 + (IntKind.wrap .i64 ((2 : Int) * st_2.1)).toNat * 32) 32 = some (t_2.map (Value.int .u8) ++ [])) ∧
                    ∃ bv_7 ov_6 : Nat, ((some ⟨bv, 0, none⟩ : Option Addr) = some ⟨bv_7, ov_6, none⟩ ∧ 0 ≤ (IntKind.wrap .i64 (st_1.1 + (1 : Int))) ∧ (IntKind.wrap .i64 (st_1.1 + (1 : Int))) < ((5 : Int).toNat : Nat)) ∧
                    ∃ (tA_5 : Option Addr) (tN_5 tC_5 : Nat), (h8.rds bv_7 (ov_6 + (IntKind.wrap .i64 (st_1.1 + (1 : Int))).toNat * 1) 1 = some [.slice tA_5 tN_5 tC_5]) ∧
                    ∃ bv_8 ov_7 : Nat, (tA_5 = some ⟨bv_8, ov_7, none⟩ ∧ 0 ≤ (IntKind.wrap .i64 ((IntKind.wrap .i64 ((2 : Int) * st_2.1)) + (1 : Int))) ∧ (IntKind.wrap .i64 ((IntKind.wrap .i64 ((2 : Int) * st_2.1)) + (1 : Int))) < (tN_5 : Nat)) ∧
                    ∃ t_3 : List Int, t_3.length = 32 ∧ (h8.rds bv_8 (ov_7 + (IntKind.wrap .i64 ((IntKind.wrap .i64 ((2 : Int) * st_2.1)) + (1 : Int))).toNat * 32) 32 = some (t_3.map (Value.int .u8) ++ [])) ∧
                    CallH Tryz.prog id_ref15_InnerText [.agg ((t_2.map (Value.int .u8) ++ [])).toArray, .agg ((t_3.map (Value.int .u8) ++ [])).toArray] (fun v_2 h9 =>
                      ∃ t_4 : ByteArray, v_2 = .string t_4 ∧
                      (h9.rds bv_4 (ov_3 + st_1.1.toNat * 1) 1 = some [.slice tA_3 tN_3 tC_3]) ∧
                      CallH Tryz.prog id_ref02_Sum [.string t_4] (fun v_3 h10 =>
                        ∃ t_5 : List Int, t_5.length = 32 ∧ v_3 = .agg ((t_5.map (Value.int .u8) ++ [])).toArray ∧
                        (h10.rds bv_4 (ov_3 + st_1.1.toNat * 1) 1 = some [.slice tA_3 tN_3 tC_3]) ∧
                        appH T_api_Hash 32 32 [.int .u8 (0 : Int), .int .u8 (0 : Int), .int .u8 (0 : Int), .int .u8 (0 : Int), .int .u8 (0 : Int), .int .u8 (0 : Int), .int .u8 (0 : Int), .int .u8 (0 : Int), .int .u8 (0 : Int), .int .u8 (0 : Int), .int .u8 (0 : Int), .int .u8 (0 : Int), .int .u8 (0 : Int), .int .u8 (0 : Int), .int .u8 (0 : Int), .int .u8 (0 : Int), .int .u8 (0 : Int), .int .u8 (0 : Int), .int .u8 (0 : Int), .int .u8 (0 : Int), .int .u8 (0 : Int), .int .u8 (0 : Int), .int .u8 (0 : Int), .int .u8 (0 : Int), .int .u8 (0 : Int), .int .u8 (0 : Int), .int .u8 (0 : Int), .int .u8 (0 : Int), .int .u8 (0 : Int), .int .u8 (0 : Int), .int .u8 (0 : Int), .int .u8 (0 : Int)] tA_3 tN_3 tC_3 1 (t_5.map (Value.int .u8) ++ []) (fun tA_6 tN_6 tC_6 h11 =>
                          ∃ bv_9 ov_8 : Nat, ((some ⟨bv, 0, none⟩ : Option Addr) = some ⟨bv_9, ov_8, none⟩ ∧ 0 ≤ st_1.1 ∧ st_1.1 < ((5 : Int).toNat : Nat)) ∧
                          stH h11 bv_9 (ov_8 + st_1.1.toNat * 1) [.slice tA_6 tN_6 tC_6] fun h12 =>
                          Jv_2 ((IntKind.wrap .i64 (st_2.1 + (1 : Int))), ()) h12) h10) h9) h8) ∧
                  ((decide (st_2.1 < (IntKind.wrap .i64 (((tN_2 : Nat) : Int).tdiv (2 : Int))))) = false →
                    Jv_1 ((IntKind.wrap .i64 (st_1.1 - (1 : Int))), ()) h8))) ((0 : Int), ()) h7) ∧
            ((decide (st_1.1 ≥ (0 : Int))) = false →
              K (.slice (some ⟨bv, 0, none⟩) (5 : Int).toNat (5 : Int).toNat) h7))) ((3 : Int), ()) h2))) ((0 : Int), ()) h1
theorem F_ref15_Levels_eq {lA : Option Addr} {lN lC : Nat} {K : Value → PH → Prop} {h : PH} : @Eq Prop (F_ref15_Levels lA lN lC K h) (denF Tryz.prog Tryz.f100 ⟨[20, 65], [], [(0, ⟨[(4, .int .i64)], [], []⟩), (2, ⟨[(5, .int .i64)], [], []⟩), (4, ⟨[(6, .int .i64)], [], []⟩)], []⟩ [.v (.slice lA lN lC)] K h) := by
  kernel_rfl
theorem F_ref15_Levels_ok {lA : Option Addr} {lN lC : Nat}  {K : Value → PH → Prop} {h : PH} (hh : F_ref15_Levels lA lN lC K h) : CallH Tryz.prog id_ref15_Levels [.slice lA lN lC] K h :=
  denF_sound' Tryz.func100 (H := ⟨[20, 65], [], [(0, ⟨[(4, .int .i64)], [], []⟩), (2, ⟨[(5, .int .i64)], [], []⟩), (4, ⟨[(6, .int .i64)], [], []⟩)], []⟩) (xs := [.v (.slice lA lN lC)]) (by kernel_rfl) (⟨rfl, trivial⟩) (den_of F_ref15_Levels_eq hh)

/- twinlock/twinlockref14.Part -/
def F_ref14_Part (lA : Option Addr) (lN _ : Nat) (i : Int) (K : Value → PH → Prop) (h : PH) : Prop :=
  LoopP (T := (Option Addr × Nat × Nat) × Int × Unit) (fun Jv st h1 =>
    (((decide (st.2.1 < ((lN : Nat) : Int))) = true →
        ∃ bv ov : Nat, (lA = some ⟨bv, ov, none⟩ ∧ 0 ≤ st.2.1 ∧ st.2.1 < (lN : Nat)) ∧
        ∃ t : ByteArray, (h1.rds bv (ov + st.2.1.toNat * 2) 1 = some [.string t]) ∧
        CallH Tryz.prog id_ref14_Of [.string t] (fun v h2 =>
          ∃ t_1 : Int, v = .int .i64 t_1 ∧
          (((t_1 == i) = true →
              ∃ bv_1 ov_1 : Nat, (lA = some ⟨bv_1, ov_1, none⟩ ∧ 0 ≤ st.2.1 ∧ st.2.1 < (lN : Nat)) ∧
              ∃ t0 : ByteArray, ∃ t1 : ByteArray, (h2.rds bv_1 (ov_1 + st.2.1.toNat * 2) 2 = some [.string t0, .string t1]) ∧
              appH T_api_Pair 2 32 [.string (⟨#[]⟩ : ByteArray), .string (⟨#[]⟩ : ByteArray)] st.1.1 st.1.2.1 st.1.2.2 1 [.string t0, .string t1] (fun outA outN outC h3 =>
                Jv ((outA, outN, outC), (IntKind.wrap .i64 (st.2.1 + (1 : Int))), ()) h3) h2) ∧
            ((t_1 == i) = false →
              Jv ((st.1.1, st.1.2.1, st.1.2.2), (IntKind.wrap .i64 (st.2.1 + (1 : Int))), ()) h2))) h1) ∧
      ((decide (st.2.1 < ((lN : Nat) : Int))) = false →
        K (.slice st.1.1 st.1.2.1 st.1.2.2) h1))) ((none, 0, 0), (0 : Int), ()) h
theorem F_ref14_Part_eq {lA : Option Addr} {lN lC : Nat} {i : Int} {K : Value → PH → Prop} {h : PH} : @Eq Prop (F_ref14_Part lA lN lC i K h) (denF Tryz.prog Tryz.f102 ⟨[26], [], [(0, ⟨[(5, .slice), (6, .int .i64)], [], []⟩)], []⟩ [.v (.slice lA lN lC), .v (.int .i64 i)] K h) := by
  kernel_rfl
theorem F_ref14_Part_ok {lA : Option Addr} {lN lC : Nat} {i : Int}  {K : Value → PH → Prop} {h : PH} (hh : F_ref14_Part lA lN lC i K h) : CallH Tryz.prog id_ref14_Part [.slice lA lN lC, .int .i64 i] K h :=
  denF_sound' Tryz.func102 (H := ⟨[26], [], [(0, ⟨[(5, .slice), (6, .int .i64)], [], []⟩)], []⟩) (xs := [.v (.slice lA lN lC), .v (.int .i64 i)]) (by kernel_rfl) (⟨rfl, rfl, trivial⟩) (den_of F_ref14_Part_eq hh)

/- twinlock/bucket.May -/
def F_bucket_May (lA : Option Addr) (lN _ : Nat) (K : Value → PH → Prop) (h : PH) : Prop :=
  LoopP (T := Int × Unit) (fun Jv st h1 =>
    (((decide (st.1 < ((lN : Nat) : Int))) = true →
        ∃ bv ov : Nat, (lA = some ⟨bv, ov, none⟩ ∧ 0 ≤ st.1 ∧ st.1 < (lN : Nat)) ∧
        ∃ x0 : ByteArray, ∃ x1 : ByteArray, (h1.rds bv (ov + st.1.toNat * 2) 2 = some [.string x0, .string x1]) ∧
        CallH Tryz.prog id_path_Cut [.string x0] (fun v h2 =>
          ∃ t0 : ByteArray, ∃ t1 : ByteArray, ∃ t2 : Bool, v = .tuple #[.string t0, .string t1, .bool t2] ∧
          ((((!t2) || (decide ((x1.size : Int) > (32 : Int)))) = false →
              ∃ bv_1 ov_1 : Nat, (((decide (st.1 > (0 : Int))) = true → lA = some ⟨bv_1, ov_1, none⟩ ∧ 0 ≤ (IntKind.wrap .i64 (st.1 - (1 : Int))) ∧ (IntKind.wrap .i64 (st.1 - (1 : Int))) < (lN : Nat))) ∧
              ∃ t : ByteArray, (((decide (st.1 > (0 : Int))) = true → h2.rds bv_1 (ov_1 + (IntKind.wrap .i64 (st.1 - (1 : Int))).toNat * 2) 1 = some [.string t])) ∧
              ((((decide (st.1 > (0 : Int))) && (!(strLt t x0))) = true →
                  K (.bool false) h2) ∧
                (((decide (st.1 > (0 : Int))) && (!(strLt t x0))) = false →
                  Jv ((IntKind.wrap .i64 (st.1 + (1 : Int))), ()) h2))) ∧
            (((!t2) || (decide ((x1.size : Int) > (32 : Int)))) = true →
              K (.bool false) h2))) h1) ∧
      ((decide (st.1 < ((lN : Nat) : Int))) = false →
        K (.bool true) h1))) ((0 : Int), ()) h
theorem F_bucket_May_eq {lA : Option Addr} {lN lC : Nat} {K : Value → PH → Prop} {h : PH} : @Eq Prop (F_bucket_May lA lN lC K h) (denF Tryz.prog Tryz.f104 ⟨[4], [], [(0, ⟨[(10, .int .i64)], [], []⟩)], []⟩ [.v (.slice lA lN lC)] K h) := by
  kernel_rfl
theorem F_bucket_May_ok {lA : Option Addr} {lN lC : Nat}  {K : Value → PH → Prop} {h : PH} (hh : F_bucket_May lA lN lC K h) : CallH Tryz.prog id_bucket_May [.slice lA lN lC] K h :=
  denF_sound' Tryz.func104 (H := ⟨[4], [], [(0, ⟨[(10, .int .i64)], [], []⟩)], []⟩) (xs := [.v (.slice lA lN lC)]) (by kernel_rfl) (⟨rfl, trivial⟩) (den_of F_bucket_May_eq hh)

/- twinlock/twinlockref11.Less -/
def F_ref11_Less (a : ByteArray) (bv : ByteArray) (K : Value → PH → Prop) (h : PH) : Prop :=
  LoopP (T := Int × Unit) (fun Jv st h1 =>
    ((((decide (st.1 < (a.size : Int))) && (decide (st.1 < (bv.size : Int)))) = true →
        (0 ≤ st.1 ∧ st.1 < (ByteArray.size a : Nat)) ∧
        (0 ≤ st.1 ∧ st.1 < (ByteArray.size bv : Nat)) ∧
        ((((byteAt a st.1) != (byteAt bv st.1)) = true →
            (0 ≤ st.1 ∧ st.1 < (ByteArray.size a : Nat)) ∧
            (0 ≤ st.1 ∧ st.1 < (ByteArray.size bv : Nat)) ∧
            K (.bool (decide ((byteAt a st.1) < (byteAt bv st.1)))) h1) ∧
          (((byteAt a st.1) != (byteAt bv st.1)) = false →
            Jv ((IntKind.wrap .i64 (st.1 + (1 : Int))), ()) h1))) ∧
      (((decide (st.1 < (a.size : Int))) && (decide (st.1 < (bv.size : Int)))) = false →
        K (.bool (decide ((a.size : Int) < (bv.size : Int)))) h1))) ((0 : Int), ()) h
theorem F_ref11_Less_eq {a : ByteArray} {bv : ByteArray} {K : Value → PH → Prop} {h : PH} : @Eq Prop (F_ref11_Less a bv K h) (denF Tryz.prog Tryz.f105 ⟨[], [], [(0, ⟨[(5, .int .i64)], [], []⟩)], []⟩ [.v (.string a), .v (.string bv)] K h) := by
  kernel_rfl
theorem F_ref11_Less_ok {a : ByteArray} {bv : ByteArray}  {K : Value → PH → Prop} {h : PH} (hh : F_ref11_Less a bv K h) : CallH Tryz.prog id_ref11_Less [.string a, .string bv] K h :=
  denF_sound' Tryz.func105 (H := ⟨[], [], [(0, ⟨[(5, .int .i64)], [], []⟩)], []⟩) (xs := [.v (.string a), .v (.string bv)]) (by kernel_rfl) (⟨rfl, rfl, trivial⟩) (den_of F_ref11_Less_eq hh)

/- cmp.Or[int] -/
def F_cmp_Or_int (valsA : Option Addr) (valsN _ : Nat) (K : Value → PH → Prop) (h : PH) : Prop :=
  LoopP (T := Int × Unit) (fun Jv st h1 =>
    (((decide (st.1 < ((valsN : Nat) : Int))) = true →
        ∃ bv ov : Nat, (valsA = some ⟨bv, ov, none⟩ ∧ 0 ≤ st.1 ∧ st.1 < (valsN : Nat)) ∧
        ∃ val : Int, (h1.rds bv (ov + st.1.toNat * 1) 1 = some [.int .i64 val]) ∧
        (((val != (0 : Int)) = true →
            K (.int .i64 val) h1) ∧
          ((val != (0 : Int)) = false →
            Jv ((IntKind.wrap .i64 (st.1 + (1 : Int))), ()) h1))) ∧
      ((decide (st.1 < ((valsN : Nat) : Int))) = false →
        K (.int .i64 (0 : Int)) h1))) ((0 : Int), ()) h
theorem F_cmp_Or_int_eq {valsA : Option Addr} {valsN valsC : Nat} {K : Value → PH → Prop} {h : PH} : @Eq Prop (F_cmp_Or_int valsA valsN valsC K h) (denF Tryz.prog Tryz.f117 ⟨[], [], [(0, ⟨[(8, .int .i64)], [], []⟩)], []⟩ [.v (.slice valsA valsN valsC)] K h) := by
  kernel_rfl
theorem F_cmp_Or_int_ok {valsA : Option Addr} {valsN valsC : Nat}  {K : Value → PH → Prop} {h : PH} (hh : F_cmp_Or_int valsA valsN valsC K h) : CallH Tryz.prog id_cmp_Or_int [.slice valsA valsN valsC] K h :=
  denF_sound' Tryz.func117 (H := ⟨[], [], [(0, ⟨[(8, .int .i64)], [], []⟩)], []⟩) (xs := [.v (.slice valsA valsN valsC)]) (by kernel_rfl) (⟨rfl, trivial⟩) (den_of F_cmp_Or_int_eq hh)

/- cmp.Compare[int] -/
def F_cmp_Compare_int (xv : Int) (y : Int) (K : Value → PH → Prop) (h : PH) : Prop :=
  CallH Tryz.prog id_cmp_isNaN_int [.int .i64 xv] (fun v h1 =>
    ∃ xNaN : Bool, v = .bool xNaN ∧
    CallH Tryz.prog id_cmp_isNaN_int [.int .i64 y] (fun v_1 h2 =>
      ∃ yNaN : Bool, v_1 = .bool yNaN ∧
      ((xNaN = true →
          ((yNaN = true →
              K (.int .i64 (0 : Int)) h2) ∧
            (yNaN = false →
              K (.int .i64 (-1 : Int)) h2))) ∧
        (xNaN = false →
          ((yNaN = true →
              K (.int .i64 (1 : Int)) h2) ∧
            (yNaN = false →
              (((decide (xv < y)) = true →
                  K (.int .i64 (-1 : Int)) h2) ∧
                ((decide (xv < y)) = false →
                  (((decide (xv > y)) = true →
                      K (.int .i64 (1 : Int)) h2) ∧
                    ((decide (xv > y)) = false →
                      K (.int .i64 (0 : Int)) h2))))))))) h1) h
theorem F_cmp_Compare_int_eq {xv : Int} {y : Int} {K : Value → PH → Prop} {h : PH} : @Eq Prop (F_cmp_Compare_int xv y K h) (denF Tryz.prog Tryz.f118 ⟨[], [], [], []⟩ [.v (.int .i64 xv), .v (.int .i64 y)] K h) := by
  kernel_rfl
theorem F_cmp_Compare_int_ok {xv : Int} {y : Int}  {K : Value → PH → Prop} {h : PH} (hh : F_cmp_Compare_int xv y K h) : CallH Tryz.prog id_cmp_Compare_int [.int .i64 xv, .int .i64 y] K h :=
  denF_sound' Tryz.func118 (H := ⟨[], [], [], []⟩) (xs := [.v (.int .i64 xv), .v (.int .i64 y)]) (by kernel_rfl) (⟨rfl, rfl, trivial⟩) (den_of F_cmp_Compare_int_eq hh)

/- twinlock/bucket.Page -/
def F_bucket_Page (i : Int) (lA : Option Addr) (lN lC : Nat) (K : Value → PH → Prop) (h : PH) : Prop :=
  JoinP (T := Unit) (fun Jv =>
    CallH Tryz.prog id_bucket_bucket [.int .i64 i] (fun v h2 =>
      ∃ t : Bool, v = .bool t ∧
      (((!t) = false →
          CallH Tryz.prog id_bucket_May [.slice lA lN lC] (fun v_1 h3 =>
            ∃ t_1 : Bool, v_1 = .bool t_1 ∧
            (((!t_1) = false →
                CallH Tryz.prog id_bucket_Part [.slice lA lN lC, .int .i64 i] (fun v_2 h4 =>
                  ∃ (tA : Option Addr) (tN tC : Nat), v_2 = .slice tA tN tC ∧
                  (((((tN : Nat) : Int) != ((lN : Nat) : Int)) = true →
                      K (.tuple #[.string (⟨#[]⟩ : ByteArray), .int .i64 (1 : Int)]) h4) ∧
                    ((((tN : Nat) : Int) != ((lN : Nat) : Int)) = false →
                      (((decide (((lN : Nat) : Int) > (48 : Int))) = true →
                          K (.tuple #[.string (⟨#[]⟩ : ByteArray), .int .i64 (3 : Int)]) h4) ∧
                        ((decide (((lN : Nat) : Int) > (48 : Int))) = false →
                          Jv (()) h4))))) h3) ∧
              ((!t_1) = true →
                K (.tuple #[.string (⟨#[]⟩ : ByteArray), .int .i64 (1 : Int)]) h3))) h2) ∧
        ((!t) = true →
          K (.tuple #[.string (⟨#[]⟩ : ByteArray), .int .i64 (1 : Int)]) h2))) h)
  (fun _ h1 =>
    newH h1 (.cells #[.slice none 0 0] T_pack_Out (0, 0)) fun bv h5 =>
    CallH Tryz.prog id_pack_Out_Num [.pointer (some ⟨bv, 0, none⟩), .int .u64 (IntKind.wrap .u64 ((lN : Nat) : Int))] (fun _ h6 =>
      LoopP (T := Int × Unit) (fun Jv_1 st_1 h7 =>
        (((decide (st_1.1 < ((lN : Nat) : Int))) = true →
            ∃ bv_1 ov : Nat, (lA = some ⟨bv_1, ov, none⟩ ∧ 0 ≤ st_1.1 ∧ st_1.1 < (lN : Nat)) ∧
            ∃ x0 : ByteArray, ∃ x1 : ByteArray, (h7.rds bv_1 (ov + st_1.1.toNat * 2) 2 = some [.string x0, .string x1]) ∧
            CallH Tryz.prog id_pack_Out_Text [.pointer (some ⟨bv, 0, none⟩), .string x0] (fun _ h8 =>
              CallH Tryz.prog id_pack_Out_Text [.pointer (some ⟨bv, 0, none⟩), .string x1] (fun _ h9 =>
                Jv_1 ((IntKind.wrap .i64 (st_1.1 + (1 : Int))), ()) h9) h8) h7) ∧
          ((decide (st_1.1 < ((lN : Nat) : Int))) = false →
            CallH Tryz.prog id_pack_Out_String [.pointer (some ⟨bv, 0, none⟩)] (fun v_6 h10 =>
              ∃ t_2 : ByteArray, v_6 = .string t_2 ∧
              K (.tuple #[.string t_2, .int .i64 (0 : Int)]) h10) h7))) ((0 : Int), ()) h6) h5)
theorem F_bucket_Page_eq {i : Int} {lA : Option Addr} {lN lC : Nat} {K : Value → PH → Prop} {h : PH} : @Eq Prop (F_bucket_Page i lA lN lC K h) (denF Tryz.prog Tryz.f120 ⟨[8], [], [(1, ⟨[(40, .int .i64)], [], []⟩)], [(12, ⟨[], [], []⟩)]⟩ [.v (.int .i64 i), .v (.slice lA lN lC)] K h) := by
  kernel_rfl
theorem F_bucket_Page_ok {i : Int} {lA : Option Addr} {lN lC : Nat}  {K : Value → PH → Prop} {h : PH} (hh : F_bucket_Page i lA lN lC K h) : CallH Tryz.prog id_bucket_Page [.int .i64 i, .slice lA lN lC] K h :=
  denF_sound' Tryz.func120 (H := ⟨[8], [], [(1, ⟨[(40, .int .i64)], [], []⟩)], [(12, ⟨[], [], []⟩)]⟩) (xs := [.v (.int .i64 i), .v (.slice lA lN lC)]) (by kernel_rfl) (⟨rfl, rfl, trivial⟩) (den_of F_bucket_Page_eq hh)

/- strings.Compare -/
def F_strings_Compare (a : ByteArray) (bv : ByteArray) (K : Value → PH → Prop) (h : PH) : Prop :=
  CallH Tryz.prog id_internal_bytealg_CompareString [.string a, .string bv] (fun v h1 =>
    ∃ t : Int, v = .int .i64 t ∧
    K (.int .i64 t) h1) h
theorem F_strings_Compare_eq {a : ByteArray} {bv : ByteArray} {K : Value → PH → Prop} {h : PH} : @Eq Prop (F_strings_Compare a bv K h) (denF Tryz.prog Tryz.f123 ⟨[], [], [], []⟩ [.v (.string a), .v (.string bv)] K h) := by
  kernel_rfl
theorem F_strings_Compare_ok {a : ByteArray} {bv : ByteArray}  {K : Value → PH → Prop} {h : PH} (hh : F_strings_Compare a bv K h) : CallH Tryz.prog id_strings_Compare [.string a, .string bv] K h :=
  denF_sound' Tryz.func123 (H := ⟨[], [], [], []⟩) (xs := [.v (.string a), .v (.string bv)]) (by kernel_rfl) (⟨rfl, rfl, trivial⟩) (den_of F_strings_Compare_eq hh)

/- slices.Clone[[]string,string] -/
def F_slices_Clone_string_string (sA : Option Addr) (sN _ : Nat) (K : Value → PH → Prop) (h : PH) : Prop :=
  (((Option.isNone sA) = true →
      K (.slice none 0 0) h) ∧
    ((Option.isNone sA) = false →
      newH h (.cells #[] 9 (0, 0)) fun bv h1 =>
      ∃ vs : List Value, srcH h1 sA (sN * 1) vs ∧
      appH 9 1 16 [.string (⟨#[]⟩ : ByteArray)] (some ⟨bv, 0, none⟩) 0 0 sN vs (fun tA tN tC h2 =>
        K (.slice tA tN tC) h2) h1))
theorem F_slices_Clone_string_string_eq {sA : Option Addr} {sN sC : Nat} {K : Value → PH → Prop} {h : PH} : @Eq Prop (F_slices_Clone_string_string sA sN sC K h) (denF Tryz.prog Tryz.f125 ⟨[], [], [], []⟩ [.v (.slice sA sN sC)] K h) := by
  kernel_rfl
theorem F_slices_Clone_string_string_ok {sA : Option Addr} {sN sC : Nat}  {K : Value → PH → Prop} {h : PH} (hh : F_slices_Clone_string_string sA sN sC K h) : CallH Tryz.prog id_slices_Clone_string_string [.slice sA sN sC] K h :=
  denF_sound' Tryz.func125 (H := ⟨[], [], [], []⟩) (xs := [.v (.slice sA sN sC)]) (by kernel_rfl) (⟨rfl, trivial⟩) (den_of F_slices_Clone_string_string_eq hh)

/- twinlock/twinlockref15.LeafText -/
def F_ref15_LeafText (lA : Option Addr) (lN lC : Nat) (i : Int) (K : Value → PH → Prop) (h : PH) : Prop :=
  CallH Tryz.prog id_ref14_Part [.slice lA lN lC, .int .i64 i] (fun v h1 =>
    ∃ (tA : Option Addr) (tN tC : Nat), v = .slice tA tN tC ∧
    CallH Tryz.prog id_ref14_Page [.int .i64 i, .slice tA tN tC] (fun v_1 h2 =>
      ∃ t0 : ByteArray, ∃ t1 : Int, v_1 = .tuple #[.string t0, .int .i64 t1] ∧
      (((ByteArray.size (⟨#[76]⟩ : ByteArray) + ByteArray.size t0 : Nat) : Int) ≤ 9223372036854775807) ∧
      K (.string ((⟨#[76]⟩ : ByteArray) ++ t0)) h2) h1) h
theorem F_ref15_LeafText_eq {lA : Option Addr} {lN lC : Nat} {i : Int} {K : Value → PH → Prop} {h : PH} : @Eq Prop (F_ref15_LeafText lA lN lC i K h) (denF Tryz.prog Tryz.f126 ⟨[], [], [], []⟩ [.v (.slice lA lN lC), .v (.int .i64 i)] K h) := by
  kernel_rfl
theorem F_ref15_LeafText_ok {lA : Option Addr} {lN lC : Nat} {i : Int}  {K : Value → PH → Prop} {h : PH} (hh : F_ref15_LeafText lA lN lC i K h) : CallH Tryz.prog id_ref15_LeafText [.slice lA lN lC, .int .i64 i] K h :=
  denF_sound' Tryz.func126 (H := ⟨[], [], [], []⟩) (xs := [.v (.slice lA lN lC), .v (.int .i64 i)]) (by kernel_rfl) (⟨rfl, rfl, trivial⟩) (den_of F_ref15_LeafText_eq hh)

/- twinlock/twinlockref15.InnerText -/
def F_ref15_InnerText (leftv : List Int) (rightv : List Int) (K : Value → PH → Prop) (h : PH) : Prop :=
  LoopP (T := ByteArray × Int × Unit) (fun Jv st h1 =>
    (((decide (st.2.1 < (32 : Int))) = true →
        (0 ≤ st.2.1 ∧ st.2.1 < (32 : Nat)) ∧
        ((st.2.1.toNat * 1) < 32) ∧
        newH h1 (.cells #[.int .u8 (leftv.getD (st.2.1.toNat * 1) 0)] 5 (0, 0)) fun bv h2 =>
        ∃ t : ByteArray, strH h2 (some ⟨bv, 0, none⟩ : Option Addr) 1 t ∧
        (((ByteArray.size st.1 + ByteArray.size t : Nat) : Int) ≤ 9223372036854775807) ∧
        Jv ((st.1 ++ t), (IntKind.wrap .i64 (st.2.1 + (1 : Int))), ()) h2) ∧
      ((decide (st.2.1 < (32 : Int))) = false →
        LoopP (T := ByteArray × Int × Unit) (fun Jv_1 st_1 h3 =>
          (((decide (st_1.2.1 < (32 : Int))) = true →
              (0 ≤ st_1.2.1 ∧ st_1.2.1 < (32 : Nat)) ∧
              ((st_1.2.1.toNat * 1) < 32) ∧
              newH h3 (.cells #[.int .u8 (rightv.getD (st_1.2.1.toNat * 1) 0)] 5 (0, 0)) fun bv_1 h4 =>
              ∃ t_1 : ByteArray, strH h4 (some ⟨bv_1, 0, none⟩ : Option Addr) 1 t_1 ∧
              (((ByteArray.size st_1.1 + ByteArray.size t_1 : Nat) : Int) ≤ 9223372036854775807) ∧
              Jv_1 ((st_1.1 ++ t_1), (IntKind.wrap .i64 (st_1.2.1 + (1 : Int))), ()) h4) ∧
            ((decide (st_1.2.1 < (32 : Int))) = false →
              K (.string st_1.1) h3))) (st.1, (0 : Int), ()) h1))) ((⟨#[78]⟩ : ByteArray), (0 : Int), ()) h
theorem F_ref15_InnerText_eq {leftv : List Int} {rightv : List Int} {K : Value → PH → Prop} {h : PH} : @Eq Prop (F_ref15_InnerText leftv rightv K h) (denF Tryz.prog Tryz.f127 ⟨[2, 3], [], [(0, ⟨[(5, .str), (6, .int .i64)], [], []⟩), (2, ⟨[(5, .str), (7, .int .i64)], [], []⟩)], []⟩ [.agg [.ints .u8 32 leftv], .agg [.ints .u8 32 rightv]] K h) := by
  kernel_rfl
theorem F_ref15_InnerText_ok {leftv : List Int} {rightv : List Int} (hk0 : leftv.length = 32) (hk1 : rightv.length = 32) {K : Value → PH → Prop} {h : PH} (hh : F_ref15_InnerText leftv rightv K h) : CallH Tryz.prog id_ref15_InnerText [.agg ((leftv.map (Value.int .u8) ++ [])).toArray, .agg ((rightv.map (Value.int .u8) ++ [])).toArray] K h :=
  denF_sound' Tryz.func127 (H := ⟨[2, 3], [], [(0, ⟨[(5, .str), (6, .int .i64)], [], []⟩), (2, ⟨[(5, .str), (7, .int .i64)], [], []⟩)], []⟩) (xs := [.agg [.ints .u8 32 leftv], .agg [.ints .u8 32 rightv]]) (by kernel_rfl) (⟨⟨hk0, trivial⟩, ⟨hk1, trivial⟩, trivial⟩) (den_of F_ref15_InnerText_eq hh)

/- slices.Concat[[]twinlock/api.Pair,twinlock/api.Pair] -/
def F_slices_Concat_api_Pair_api_Pair (slicesA : Option Addr) (slicesN _ : Nat) (K : Value → PH → Prop) (h : PH) : Prop :=
  LoopP (T := Int × Int × Unit) (fun Jv st h1 =>
    (((decide (st.2.1 < ((slicesN : Nat) : Int))) = true →
        ∃ bv ov : Nat, (slicesA = some ⟨bv, ov, none⟩ ∧ 0 ≤ st.2.1 ∧ st.2.1 < (slicesN : Nat)) ∧
        ∃ (sA : Option Addr) (sN sC : Nat), (h1.rds bv (ov + st.2.1.toNat * 1) 1 = some [.slice sA sN sC]) ∧
        (((decide ((IntKind.wrap .i64 (st.1 + ((sN : Nat) : Int))) < (0 : Int))) = true →
            False) ∧
          ((decide ((IntKind.wrap .i64 (st.1 + ((sN : Nat) : Int))) < (0 : Int))) = false →
            Jv ((IntKind.wrap .i64 (st.1 + ((sN : Nat) : Int))), (IntKind.wrap .i64 (st.2.1 + (1 : Int))), ()) h1))) ∧
      ((decide (st.2.1 < ((slicesN : Nat) : Int))) = false →
        CallH Tryz.prog id_slices_Grow_api_Pair_api_Pair [.slice none 0 0, .int .i64 st.1] (fun v h2 =>
          ∃ (newsliceA : Option Addr) (newsliceN newsliceC : Nat), v = .slice newsliceA newsliceN newsliceC ∧
          LoopP (T := (Option Addr × Nat × Nat) × Int × Unit) (fun Jv_1 st_1 h3 =>
            (((decide (st_1.2.1 < ((slicesN : Nat) : Int))) = true →
                ∃ bv_1 ov_1 : Nat, (slicesA = some ⟨bv_1, ov_1, none⟩ ∧ 0 ≤ st_1.2.1 ∧ st_1.2.1 < (slicesN : Nat)) ∧
                ∃ (sA_1 : Option Addr) (sN_1 sC_1 : Nat), (h3.rds bv_1 (ov_1 + st_1.2.1.toNat * 1) 1 = some [.slice sA_1 sN_1 sC_1]) ∧
                ∃ vs : List Value, srcH h3 sA_1 (sN_1 * 2) vs ∧
                appH T_api_Pair 2 32 [.string (⟨#[]⟩ : ByteArray), .string (⟨#[]⟩ : ByteArray)] st_1.1.1 st_1.1.2.1 st_1.1.2.2 sN_1 vs (fun newsliceA_1 newsliceN_1 newsliceC_1 h4 =>
                  Jv_1 ((newsliceA_1, newsliceN_1, newsliceC_1), (IntKind.wrap .i64 (st_1.2.1 + (1 : Int))), ()) h4) h3) ∧
              ((decide (st_1.2.1 < ((slicesN : Nat) : Int))) = false →
                K (.slice st_1.1.1 st_1.1.2.1 st_1.1.2.2) h3))) ((newsliceA, newsliceN, newsliceC), (0 : Int), ()) h2) h1))) ((0 : Int), (0 : Int), ()) h
theorem F_slices_Concat_api_Pair_api_Pair_eq {slicesA : Option Addr} {slicesN slicesC : Nat} {K : Value → PH → Prop} {h : PH} : @Eq Prop (F_slices_Concat_api_Pair_api_Pair slicesA slicesN slicesC K h) (denF Tryz.prog Tryz.f132 ⟨[], [], [(0, ⟨[(3, .int .i64), (11, .int .i64)], [], []⟩), (2, ⟨[(6, .slice), (27, .int .i64)], [], []⟩)], []⟩ [.v (.slice slicesA slicesN slicesC)] K h) := by
  kernel_rfl
theorem F_slices_Concat_api_Pair_api_Pair_ok {slicesA : Option Addr} {slicesN slicesC : Nat}  {K : Value → PH → Prop} {h : PH} (hh : F_slices_Concat_api_Pair_api_Pair slicesA slicesN slicesC K h) : CallH Tryz.prog id_slices_Concat_api_Pair_api_Pair [.slice slicesA slicesN slicesC] K h :=
  denF_sound' Tryz.func132 (H := ⟨[], [], [(0, ⟨[(3, .int .i64), (11, .int .i64)], [], []⟩), (2, ⟨[(6, .slice), (27, .int .i64)], [], []⟩)], []⟩) (xs := [.v (.slice slicesA slicesN slicesC)]) (by kernel_rfl) (⟨rfl, trivial⟩) (den_of F_slices_Concat_api_Pair_api_Pair_eq hh)

/- slices.Concat[[]string,string] -/
def F_slices_Concat_string_string (slicesA : Option Addr) (slicesN _ : Nat) (K : Value → PH → Prop) (h : PH) : Prop :=
  LoopP (T := Int × Int × Unit) (fun Jv st h1 =>
    (((decide (st.2.1 < ((slicesN : Nat) : Int))) = true →
        ∃ bv ov : Nat, (slicesA = some ⟨bv, ov, none⟩ ∧ 0 ≤ st.2.1 ∧ st.2.1 < (slicesN : Nat)) ∧
        ∃ (sA : Option Addr) (sN sC : Nat), (h1.rds bv (ov + st.2.1.toNat * 1) 1 = some [.slice sA sN sC]) ∧
        (((decide ((IntKind.wrap .i64 (st.1 + ((sN : Nat) : Int))) < (0 : Int))) = true →
            False) ∧
          ((decide ((IntKind.wrap .i64 (st.1 + ((sN : Nat) : Int))) < (0 : Int))) = false →
            Jv ((IntKind.wrap .i64 (st.1 + ((sN : Nat) : Int))), (IntKind.wrap .i64 (st.2.1 + (1 : Int))), ()) h1))) ∧
      ((decide (st.2.1 < ((slicesN : Nat) : Int))) = false →
        CallH Tryz.prog id_slices_Grow_string_string [.slice none 0 0, .int .i64 st.1] (fun v h2 =>
          ∃ (newsliceA : Option Addr) (newsliceN newsliceC : Nat), v = .slice newsliceA newsliceN newsliceC ∧
          LoopP (T := (Option Addr × Nat × Nat) × Int × Unit) (fun Jv_1 st_1 h3 =>
            (((decide (st_1.2.1 < ((slicesN : Nat) : Int))) = true →
                ∃ bv_1 ov_1 : Nat, (slicesA = some ⟨bv_1, ov_1, none⟩ ∧ 0 ≤ st_1.2.1 ∧ st_1.2.1 < (slicesN : Nat)) ∧
                ∃ (sA_1 : Option Addr) (sN_1 sC_1 : Nat), (h3.rds bv_1 (ov_1 + st_1.2.1.toNat * 1) 1 = some [.slice sA_1 sN_1 sC_1]) ∧
                ∃ vs : List Value, srcH h3 sA_1 (sN_1 * 1) vs ∧
                appH 9 1 16 [.string (⟨#[]⟩ : ByteArray)] st_1.1.1 st_1.1.2.1 st_1.1.2.2 sN_1 vs (fun newsliceA_1 newsliceN_1 newsliceC_1 h4 =>
                  Jv_1 ((newsliceA_1, newsliceN_1, newsliceC_1), (IntKind.wrap .i64 (st_1.2.1 + (1 : Int))), ()) h4) h3) ∧
              ((decide (st_1.2.1 < ((slicesN : Nat) : Int))) = false →
                K (.slice st_1.1.1 st_1.1.2.1 st_1.1.2.2) h3))) ((newsliceA, newsliceN, newsliceC), (0 : Int), ()) h2) h1))) ((0 : Int), (0 : Int), ()) h
theorem F_slices_Concat_string_string_eq {slicesA : Option Addr} {slicesN slicesC : Nat} {K : Value → PH → Prop} {h : PH} : @Eq Prop (F_slices_Concat_string_string slicesA slicesN slicesC K h) (denF Tryz.prog Tryz.f135 ⟨[], [], [(0, ⟨[(3, .int .i64), (11, .int .i64)], [], []⟩), (2, ⟨[(6, .slice), (27, .int .i64)], [], []⟩)], []⟩ [.v (.slice slicesA slicesN slicesC)] K h) := by
  kernel_rfl
theorem F_slices_Concat_string_string_ok {slicesA : Option Addr} {slicesN slicesC : Nat}  {K : Value → PH → Prop} {h : PH} (hh : F_slices_Concat_string_string slicesA slicesN slicesC K h) : CallH Tryz.prog id_slices_Concat_string_string [.slice slicesA slicesN slicesC] K h :=
  denF_sound' Tryz.func135 (H := ⟨[], [], [(0, ⟨[(3, .int .i64), (11, .int .i64)], [], []⟩), (2, ⟨[(6, .slice), (27, .int .i64)], [], []⟩)], []⟩) (xs := [.v (.slice slicesA slicesN slicesC)]) (by kernel_rfl) (⟨rfl, trivial⟩) (den_of F_slices_Concat_string_string_eq hh)

/- strings.Cut -/
def F_strings_Cut (sv : ByteArray) (sep : ByteArray) (K : Value → PH → Prop) (h : PH) : Prop :=
  CallH Tryz.prog id_internal_stringslite_Cut [.string sv, .string sep] (fun v h1 =>
    ∃ t0 : ByteArray, ∃ t1 : ByteArray, ∃ t2 : Bool, v = .tuple #[.string t0, .string t1, .bool t2] ∧
    K (.tuple #[.string t0, .string t1, .bool t2]) h1) h
theorem F_strings_Cut_eq {sv : ByteArray} {sep : ByteArray} {K : Value → PH → Prop} {h : PH} : @Eq Prop (F_strings_Cut sv sep K h) (denF Tryz.prog Tryz.f138 ⟨[], [], [], []⟩ [.v (.string sv), .v (.string sep)] K h) := by
  kernel_rfl
theorem F_strings_Cut_ok {sv : ByteArray} {sep : ByteArray}  {K : Value → PH → Prop} {h : PH} (hh : F_strings_Cut sv sep K h) : CallH Tryz.prog id_strings_Cut [.string sv, .string sep] K h :=
  denF_sound' Tryz.func138 (H := ⟨[], [], [], []⟩) (xs := [.v (.string sv), .v (.string sep)]) (by kernel_rfl) (⟨rfl, rfl, trivial⟩) (den_of F_strings_Cut_eq hh)

/- twinlock/path.named -/
def F_path_named (sv : ByteArray) (K : Value → PH → Prop) (h : PH) : Prop :=
  LoopP (T := Int × Unit) (fun Jv st h1 =>
    (((decide (st.1 < (sv.size : Int))) = true →
        (0 ≤ st.1 ∧ st.1 < (ByteArray.size sv : Nat)) ∧
        (((decide ((byteAt sv st.1) < (97 : Int))) = false → 0 ≤ st.1 ∧ st.1 < (ByteArray.size sv : Nat))) ∧
        ((((decide ((byteAt sv st.1) < (97 : Int))) || (decide ((byteAt sv st.1) > (122 : Int)))) = true →
            K (.bool false) h1) ∧
          (((decide ((byteAt sv st.1) < (97 : Int))) || (decide ((byteAt sv st.1) > (122 : Int)))) = false →
            Jv ((IntKind.wrap .i64 (st.1 + (1 : Int))), ()) h1))) ∧
      ((decide (st.1 < (sv.size : Int))) = false →
        K (.bool ((decide ((sv.size : Int) ≥ (1 : Int))) && (decide ((sv.size : Int) ≤ (8 : Int))))) h1))) ((0 : Int), ()) h
theorem F_path_named_eq {sv : ByteArray} {K : Value → PH → Prop} {h : PH} : @Eq Prop (F_path_named sv K h) (denF Tryz.prog Tryz.f139 ⟨[], [], [(0, ⟨[(6, .int .i64)], [], []⟩)], []⟩ [.v (.string sv)] K h) := by
  kernel_rfl
theorem F_path_named_ok {sv : ByteArray}  {K : Value → PH → Prop} {h : PH} (hh : F_path_named sv K h) : CallH Tryz.prog id_path_named [.string sv] K h :=
  denF_sound' Tryz.func139 (H := ⟨[], [], [(0, ⟨[(6, .int .i64)], [], []⟩)], []⟩) (xs := [.v (.string sv)]) (by kernel_rfl) (⟨rfl, trivial⟩) (den_of F_path_named_eq hh)

/- twinlock/path.key -/
def F_path_key (sv : ByteArray) (K : Value → PH → Prop) (h : PH) : Prop :=
  ((((decide ((sv.size : Int) ≥ (1 : Int))) && (decide ((sv.size : Int) ≤ (24 : Int)))) = true →
      CallH Tryz.prog id_strings_IndexByte [.string sv, .int .u8 (0 : Int)] (fun v h1 =>
        ∃ t : Int, v = .int .i64 t ∧
        (((decide (t < (0 : Int))) = true →
            CallH Tryz.prog id_strings_IndexByte [.string sv, .int .u8 (47 : Int)] (fun v_1 h2 =>
              ∃ t_1 : Int, v_1 = .int .i64 t_1 ∧
              K (.bool (decide (t_1 < (0 : Int)))) h2) h1) ∧
          ((decide (t < (0 : Int))) = false →
            K (.bool false) h1))) h) ∧
    (((decide ((sv.size : Int) ≥ (1 : Int))) && (decide ((sv.size : Int) ≤ (24 : Int)))) = false →
      K (.bool false) h))
theorem F_path_key_eq {sv : ByteArray} {K : Value → PH → Prop} {h : PH} : @Eq Prop (F_path_key sv K h) (denF Tryz.prog Tryz.f140 ⟨[], [], [], []⟩ [.v (.string sv)] K h) := by
  kernel_rfl
theorem F_path_key_ok {sv : ByteArray}  {K : Value → PH → Prop} {h : PH} (hh : F_path_key sv K h) : CallH Tryz.prog id_path_key [.string sv] K h :=
  denF_sound' Tryz.func140 (H := ⟨[], [], [], []⟩) (xs := [.v (.string sv)]) (by kernel_rfl) (⟨rfl, trivial⟩) (den_of F_path_key_eq hh)

/- slices.BinarySearchFunc[[]twinlock/api.Pair,twinlock/api.Pair,string] -/
def F_slices_BinarySearchFunc_api_Pair_api_Pair_string (xA : Option Addr) (xN _ : Nat) (target : ByteArray) (cmp : Value) (K : Value → PH → Prop) (h : PH) : Prop :=
  LoopP (T := Int × Int × Unit) (fun Jv st h1 =>
    (((decide (st.1 < st.2.1)) = true →
        ∃ bv ov : Nat, (xA = some ⟨bv, ov, none⟩ ∧ 0 ≤ (IntKind.wrap .i64 (shrV .u64 (IntKind.wrap .u64 (IntKind.wrap .i64 (st.1 + st.2.1))) (1 : Int))) ∧ (IntKind.wrap .i64 (shrV .u64 (IntKind.wrap .u64 (IntKind.wrap .i64 (st.1 + st.2.1))) (1 : Int))) < (xN : Nat)) ∧
        ∃ t0 : ByteArray, ∃ t1 : ByteArray, (h1.rds bv (ov + (IntKind.wrap .i64 (shrV .u64 (IntKind.wrap .u64 (IntKind.wrap .i64 (st.1 + st.2.1))) (1 : Int))).toNat * 2) 2 = some [.string t0, .string t1]) ∧
        CallV Tryz.prog cmp [.agg #[.string t0, .string t1], .string target] (fun v h2 =>
          ∃ t : Int, v = .int .i64 t ∧
          (((decide (t < (0 : Int))) = true →
              Jv ((IntKind.wrap .i64 ((IntKind.wrap .i64 (shrV .u64 (IntKind.wrap .u64 (IntKind.wrap .i64 (st.1 + st.2.1))) (1 : Int))) + (1 : Int))), st.2.1, ()) h2) ∧
            ((decide (t < (0 : Int))) = false →
              Jv (st.1, (IntKind.wrap .i64 (shrV .u64 (IntKind.wrap .u64 (IntKind.wrap .i64 (st.1 + st.2.1))) (1 : Int))), ()) h2))) h1) ∧
      ((decide (st.1 < st.2.1)) = false →
        ∃ bv_1 ov_1 : Nat, (((decide (st.1 < ((xN : Nat) : Int))) = true → xA = some ⟨bv_1, ov_1, none⟩ ∧ 0 ≤ st.1 ∧ st.1 < (xN : Nat))) ∧
        ∃ t0_1 : ByteArray, ∃ t1_1 : ByteArray, (((decide (st.1 < ((xN : Nat) : Int))) = true → h1.rds bv_1 (ov_1 + st.1.toNat * 2) 2 = some [.string t0_1, .string t1_1])) ∧
        (((decide (st.1 < ((xN : Nat) : Int))) = true →
            CallV Tryz.prog cmp [.agg #[.string t0_1, .string t1_1], .string target] (fun v_1 h3 =>
              ∃ t_1 : Int, v_1 = .int .i64 t_1 ∧
              K (.tuple #[.int .i64 st.1, .bool (t_1 == (0 : Int))]) h3) h1) ∧
          ((decide (st.1 < ((xN : Nat) : Int))) = false →
            K (.tuple #[.int .i64 st.1, .bool false]) h1))))) ((0 : Int), ((xN : Nat) : Int), ()) h
theorem F_slices_BinarySearchFunc_api_Pair_api_Pair_string_eq {xA : Option Addr} {xN xC : Nat} {target : ByteArray} {cmp : Value} {K : Value → PH → Prop} {h : PH} : @Eq Prop (F_slices_BinarySearchFunc_api_Pair_api_Pair_string xA xN xC target cmp K h) (denF Tryz.prog Tryz.f141 ⟨[], [], [(0, ⟨[(9, .int .i64), (10, .int .i64)], [], []⟩)], []⟩ [.v (.slice xA xN xC), .v (.string target), .fn cmp] K h) := by
  kernel_rfl
theorem F_slices_BinarySearchFunc_api_Pair_api_Pair_string_ok {xA : Option Addr} {xN xC : Nat} {target : ByteArray} {cmp : Value} (hk0 : one1 cmp = true) {K : Value → PH → Prop} {h : PH} (hh : F_slices_BinarySearchFunc_api_Pair_api_Pair_string xA xN xC target cmp K h) : CallH Tryz.prog id_slices_BinarySearchFunc_api_Pair_api_Pair_string [.slice xA xN xC, .string target, cmp] K h :=
  denF_sound' Tryz.func141 (H := ⟨[], [], [(0, ⟨[(9, .int .i64), (10, .int .i64)], [], []⟩)], []⟩) (xs := [.v (.slice xA xN xC), .v (.string target), .fn cmp]) (by kernel_rfl) (⟨rfl, rfl, hk0, trivial⟩) (den_of F_slices_BinarySearchFunc_api_Pair_api_Pair_string_eq hh)

/- twinlock/twinlockref14.Of -/
def F_ref14_Of (p : ByteArray) (K : Value → PH → Prop) (h : PH) : Prop :=
  CallH Tryz.prog id_ref02_Sum [.string p] (fun v h1 =>
    ∃ hv : List Int, hv.length = 32 ∧ v = .agg ((hv.map (Value.int .u8) ++ [])).toArray ∧
    K (.int .i64 (IntKind.wrap .i64 ((IntKind.wrap .i64 ((hv.take 1).getD 0 0)).tdiv (16 : Int)))) h1) h
theorem F_ref14_Of_eq {p : ByteArray} {K : Value → PH → Prop} {h : PH} : @Eq Prop (F_ref14_Of p K h) (denF Tryz.prog Tryz.f147 ⟨[3], [], [], []⟩ [.v (.string p)] K h) := by
  kernel_rfl
theorem F_ref14_Of_ok {p : ByteArray}  {K : Value → PH → Prop} {h : PH} (hh : F_ref14_Of p K h) : CallH Tryz.prog id_ref14_Of [.string p] K h :=
  denF_sound' Tryz.func147 (H := ⟨[3], [], [], []⟩) (xs := [.v (.string p)]) (by kernel_rfl) (⟨rfl, trivial⟩) (den_of F_ref14_Of_eq hh)

/- slices.Clone[[]twinlock/api.Op,twinlock/api.Op] -/
def F_slices_Clone_api_Op_api_Op (sA : Option Addr) (sN _ : Nat) (K : Value → PH → Prop) (h : PH) : Prop :=
  (((Option.isNone sA) = true →
      K (.slice none 0 0) h) ∧
    ((Option.isNone sA) = false →
      newH h (.cells #[] T_api_Op (0, 0)) fun bv h1 =>
      ∃ vs : List Value, srcH h1 sA (sN * 3) vs ∧
      appH T_api_Op 3 40 [.int .u8 (0 : Int), .string (⟨#[]⟩ : ByteArray), .string (⟨#[]⟩ : ByteArray)] (some ⟨bv, 0, none⟩) 0 0 sN vs (fun tA tN tC h2 =>
        K (.slice tA tN tC) h2) h1))
theorem F_slices_Clone_api_Op_api_Op_eq {sA : Option Addr} {sN sC : Nat} {K : Value → PH → Prop} {h : PH} : @Eq Prop (F_slices_Clone_api_Op_api_Op sA sN sC K h) (denF Tryz.prog Tryz.f148 ⟨[], [], [], []⟩ [.v (.slice sA sN sC)] K h) := by
  kernel_rfl
theorem F_slices_Clone_api_Op_api_Op_ok {sA : Option Addr} {sN sC : Nat}  {K : Value → PH → Prop} {h : PH} (hh : F_slices_Clone_api_Op_api_Op sA sN sC K h) : CallH Tryz.prog id_slices_Clone_api_Op_api_Op [.slice sA sN sC] K h :=
  denF_sound' Tryz.func148 (H := ⟨[], [], [], []⟩) (xs := [.v (.slice sA sN sC)]) (by kernel_rfl) (⟨rfl, trivial⟩) (den_of F_slices_Clone_api_Op_api_Op_eq hh)

/- twinlock/bucket.bucket -/
def F_bucket_bucket (i : Int) (K : Value → PH → Prop) (h : PH) : Prop :=
  K (.bool ((decide (i ≥ (0 : Int))) && (decide (i < (16 : Int))))) h
theorem F_bucket_bucket_eq {i : Int} {K : Value → PH → Prop} {h : PH} : @Eq Prop (F_bucket_bucket i K h) (denF Tryz.prog Tryz.f153 ⟨[], [], [], []⟩ [.v (.int .i64 i)] K h) := by
  kernel_rfl
theorem F_bucket_bucket_ok {i : Int}  {K : Value → PH → Prop} {h : PH} (hh : F_bucket_bucket i K h) : CallH Tryz.prog id_bucket_bucket [.int .i64 i] K h :=
  denF_sound' Tryz.func153 (H := ⟨[], [], [], []⟩) (xs := [.v (.int .i64 i)]) (by kernel_rfl) (⟨rfl, trivial⟩) (den_of F_bucket_bucket_eq hh)

/- twinlock/bucket.Part -/
def F_bucket_Part (lA : Option Addr) (lN _ : Nat) (i : Int) (K : Value → PH → Prop) (h : PH) : Prop :=
  LoopP (T := (Option Addr × Nat × Nat) × Int × Unit) (fun Jv st h1 =>
    (((decide (st.2.1 < ((lN : Nat) : Int))) = true →
        ∃ bv ov : Nat, (lA = some ⟨bv, ov, none⟩ ∧ 0 ≤ st.2.1 ∧ st.2.1 < (lN : Nat)) ∧
        ∃ x0 : ByteArray, ∃ x1 : ByteArray, (h1.rds bv (ov + st.2.1.toNat * 2) 2 = some [.string x0, .string x1]) ∧
        CallH Tryz.prog id_bucket_Of [.string x0] (fun v h2 =>
          ∃ t : Int, v = .int .i64 t ∧
          (((t == i) = true →
              appH T_api_Pair 2 32 [.string (⟨#[]⟩ : ByteArray), .string (⟨#[]⟩ : ByteArray)] st.1.1 st.1.2.1 st.1.2.2 1 [.string x0, .string x1] (fun outA outN outC h3 =>
                Jv ((outA, outN, outC), (IntKind.wrap .i64 (st.2.1 + (1 : Int))), ()) h3) h2) ∧
            ((t == i) = false →
              Jv ((st.1.1, st.1.2.1, st.1.2.2), (IntKind.wrap .i64 (st.2.1 + (1 : Int))), ()) h2))) h1) ∧
      ((decide (st.2.1 < ((lN : Nat) : Int))) = false →
        K (.slice st.1.1 st.1.2.1 st.1.2.2) h1))) ((none, 0, 0), (0 : Int), ()) h
theorem F_bucket_Part_eq {lA : Option Addr} {lN lC : Nat} {i : Int} {K : Value → PH → Prop} {h : PH} : @Eq Prop (F_bucket_Part lA lN lC i K h) (denF Tryz.prog Tryz.f154 ⟨[7, 21], [], [(0, ⟨[(5, .slice), (10, .int .i64)], [], []⟩)], []⟩ [.v (.slice lA lN lC), .v (.int .i64 i)] K h) := by
  kernel_rfl
theorem F_bucket_Part_ok {lA : Option Addr} {lN lC : Nat} {i : Int}  {K : Value → PH → Prop} {h : PH} (hh : F_bucket_Part lA lN lC i K h) : CallH Tryz.prog id_bucket_Part [.slice lA lN lC, .int .i64 i] K h :=
  denF_sound' Tryz.func154 (H := ⟨[7, 21], [], [(0, ⟨[(5, .slice), (10, .int .i64)], [], []⟩)], []⟩) (xs := [.v (.slice lA lN lC), .v (.int .i64 i)]) (by kernel_rfl) (⟨rfl, rfl, trivial⟩) (den_of F_bucket_Part_eq hh)

/- (*twinlock/pack.Out).Num -/
def F_pack_Out_Num (ov : Option Addr) (n : Int) (K : Value → PH → Prop) (h : PH) : Prop :=
  CallH Tryz.prog id_pack_size [.int .u64 n] (fun v h1 =>
    ∃ leftv : Int, v = .int .i64 leftv ∧
    LoopP (T := Int × Int × Unit) (fun Jv st h2 =>
      (((decide (st.2.1 > (1 : Int))) = true →
          newH h2 (.cells #[.int .u8 (bitsV .or .u8 (IntKind.wrap .u8 st.1) (128 : Int))] 5 (0, 0)) fun bv h3 =>
          CallH Tryz.prog id_pack_Out_put [.pointer ov, .slice (some ⟨bv, 0, none⟩) 1 1] (fun _ h4 =>
            Jv ((shrV .u64 st.1 (7 : Int)), (IntKind.wrap .i64 (st.2.1 - (1 : Int))), ()) h4) h3) ∧
        ((decide (st.2.1 > (1 : Int))) = false →
          newH h2 (.cells #[.int .u8 (IntKind.wrap .u8 st.1)] 5 (0, 0)) fun bv_1 h5 =>
          CallH Tryz.prog id_pack_Out_put [.pointer ov, .slice (some ⟨bv_1, 0, none⟩) 1 1] (fun _ h6 =>
            K (.tuple #[]) h6) h5))) (n, leftv, ()) h1) h
theorem F_pack_Out_Num_eq {ov : Option Addr} {n : Int} {K : Value → PH → Prop} {h : PH} : @Eq Prop (F_pack_Out_Num ov n K h) (denF Tryz.prog Tryz.f155 ⟨[], [], [(0, ⟨[(1, .int .u64), (4, .int .i64)], [], []⟩)], []⟩ [.v (.pointer ov), .v (.int .u64 n)] K h) := by
  kernel_rfl
theorem F_pack_Out_Num_ok {ov : Option Addr} {n : Int}  {K : Value → PH → Prop} {h : PH} (hh : F_pack_Out_Num ov n K h) : CallH Tryz.prog id_pack_Out_Num [.pointer ov, .int .u64 n] K h :=
  denF_sound' Tryz.func155 (H := ⟨[], [], [(0, ⟨[(1, .int .u64), (4, .int .i64)], [], []⟩)], []⟩) (xs := [.v (.pointer ov), .v (.int .u64 n)]) (by kernel_rfl) (⟨rfl, rfl, trivial⟩) (den_of F_pack_Out_Num_eq hh)

/- (*twinlock/pack.Out).Text -/
def F_pack_Out_Text (ov : Option Addr) (sv : ByteArray) (K : Value → PH → Prop) (h : PH) : Prop :=
  CallH Tryz.prog id_pack_Out_Num [.pointer ov, .int .u64 (IntKind.wrap .u64 (sv.size : Int))] (fun _ h1 =>
    ∀ cap : Nat, ByteArray.size sv ≤ cap → newH h1 (.cells (byteVs sv ++ List.replicate (cap - ByteArray.size sv) (Value.int .u8 0)).toArray 5 (cap, cap + 1)) fun bv h2 =>
    CallH Tryz.prog id_pack_Out_put [.pointer ov, .slice (some ⟨bv, 0, none⟩) (ByteArray.size sv) cap] (fun _ h3 =>
      K (.tuple #[]) h3) h2) h
theorem F_pack_Out_Text_eq {ov : Option Addr} {sv : ByteArray} {K : Value → PH → Prop} {h : PH} : @Eq Prop (F_pack_Out_Text ov sv K h) (denF Tryz.prog Tryz.f156 ⟨[], [], [], []⟩ [.v (.pointer ov), .v (.string sv)] K h) := by
  kernel_rfl
theorem F_pack_Out_Text_ok {ov : Option Addr} {sv : ByteArray}  {K : Value → PH → Prop} {h : PH} (hh : F_pack_Out_Text ov sv K h) : CallH Tryz.prog id_pack_Out_Text [.pointer ov, .string sv] K h :=
  denF_sound' Tryz.func156 (H := ⟨[], [], [], []⟩) (xs := [.v (.pointer ov), .v (.string sv)]) (by kernel_rfl) (⟨rfl, rfl, trivial⟩) (den_of F_pack_Out_Text_eq hh)

/- (*twinlock/pack.Out).String -/
def F_pack_Out_String (ov : Option Addr) (K : Value → PH → Prop) (h : PH) : Prop :=
  (((Option.isNone ov) = true →
      K (.string (⟨#[]⟩ : ByteArray)) h) ∧
    ((Option.isNone ov) = false →
      ∃ bv ov_1 : Nat, ov = some ⟨bv, ov_1, none⟩ ∧
      ∃ (tA : Option Addr) (tN tC : Nat), (h.rds bv ov_1 1 = some [.slice tA tN tC]) ∧
      ∃ t : ByteArray, strH h tA tN t ∧
      K (.string t) h))
theorem F_pack_Out_String_eq {ov : Option Addr} {K : Value → PH → Prop} {h : PH} : @Eq Prop (F_pack_Out_String ov K h) (denF Tryz.prog Tryz.f157 ⟨[], [], [], []⟩ [.v (.pointer ov)] K h) := by
  kernel_rfl
theorem F_pack_Out_String_ok {ov : Option Addr}  {K : Value → PH → Prop} {h : PH} (hh : F_pack_Out_String ov K h) : CallH Tryz.prog id_pack_Out_String [.pointer ov] K h :=
  denF_sound' Tryz.func157 (H := ⟨[], [], [], []⟩) (xs := [.v (.pointer ov)]) (by kernel_rfl) (⟨rfl, trivial⟩) (den_of F_pack_Out_String_eq hh)

/- internal/bytealg.CompareString -/
def F_internal_bytealg_CompareString (a : ByteArray) (bv : ByteArray) (K : Value → PH → Prop) (h : PH) : Prop :=
  ExtH Tryz.prog id_internal_bytealg_abigen_runtime_cmpstring [.string a, .string bv] (fun v h1 =>
    ∃ t : Int, v = .int .i64 t ∧
    K (.int .i64 t) h1) h
theorem F_internal_bytealg_CompareString_eq {a : ByteArray} {bv : ByteArray} {K : Value → PH → Prop} {h : PH} : @Eq Prop (F_internal_bytealg_CompareString a bv K h) (denF Tryz.prog Tryz.f160 ⟨[], [], [], []⟩ [.v (.string a), .v (.string bv)] K h) := by
  kernel_rfl
theorem F_internal_bytealg_CompareString_ok {a : ByteArray} {bv : ByteArray}  {K : Value → PH → Prop} {h : PH} (hh : F_internal_bytealg_CompareString a bv K h) : CallH Tryz.prog id_internal_bytealg_CompareString [.string a, .string bv] K h :=
  denF_sound' Tryz.func160 (H := ⟨[], [], [], []⟩) (xs := [.v (.string a), .v (.string bv)]) (by kernel_rfl) (⟨rfl, rfl, trivial⟩) (den_of F_internal_bytealg_CompareString_eq hh)

/- twinlock/twinlockref14.Page -/
def F_ref14_Page (i : Int) (lA : Option Addr) (lN lC : Nat) (K : Value → PH → Prop) (h : PH) : Prop :=
  JoinP (T := Unit) (fun Jv =>
    ((((decide (i < (0 : Int))) || (decide (i > (15 : Int)))) = false →
        CallH Tryz.prog id_ref14_May [.slice lA lN lC] (fun v h2 =>
          ∃ t : Bool, v = .bool t ∧
          (((!t) = true →
              K (.tuple #[.string (⟨#[]⟩ : ByteArray), .int .i64 (1 : Int)]) h2) ∧
            ((!t) = false →
              Jv (()) h2))) h) ∧
      (((decide (i < (0 : Int))) || (decide (i > (15 : Int)))) = true →
        K (.tuple #[.string (⟨#[]⟩ : ByteArray), .int .i64 (1 : Int)]) h)))
  (fun _ h1 =>
    CallH Tryz.prog id_ref12_Num [.int .u64 (IntKind.wrap .u64 ((lN : Nat) : Int))] (fun v_1 h3 =>
      ∃ sv : ByteArray, v_1 = .string sv ∧
      LoopP (T := ByteArray × Int × Unit) (fun Jv_1 st_1 h4 =>
        (((decide (st_1.2.1 < ((lN : Nat) : Int))) = true →
            ∃ bv ov : Nat, (lA = some ⟨bv, ov, none⟩ ∧ 0 ≤ st_1.2.1 ∧ st_1.2.1 < (lN : Nat)) ∧
            ∃ t_1 : ByteArray, (h4.rds bv (ov + st_1.2.1.toNat * 2) 1 = some [.string t_1]) ∧
            CallH Tryz.prog id_ref14_Of [.string t_1] (fun v_2 h5 =>
              ∃ t_2 : Int, v_2 = .int .i64 t_2 ∧
              (((t_2 != i) = true →
                  K (.tuple #[.string (⟨#[]⟩ : ByteArray), .int .i64 (1 : Int)]) h5) ∧
                ((t_2 != i) = false →
                  ∃ bv_1 ov_1 : Nat, (lA = some ⟨bv_1, ov_1, none⟩ ∧ 0 ≤ st_1.2.1 ∧ st_1.2.1 < (lN : Nat)) ∧
                  ∃ t_3 : ByteArray, (h5.rds bv_1 (ov_1 + st_1.2.1.toNat * 2) 1 = some [.string t_3]) ∧
                  ∃ bv_2 ov_2 : Nat, (lA = some ⟨bv_2, ov_2, none⟩ ∧ 0 ≤ st_1.2.1 ∧ st_1.2.1 < (lN : Nat)) ∧
                  ∃ t_4 : ByteArray, (h5.rds bv_2 ((ov_2 + st_1.2.1.toNat * 2) + 1) 1 = some [.string t_4]) ∧
                  CallH Tryz.prog id_ref12_Text [.string t_3] (fun v_3 h6 =>
                    ∃ t_5 : ByteArray, v_3 = .string t_5 ∧
                    (h6.rds bv_2 ((ov_2 + st_1.2.1.toNat * 2) + 1) 1 = some [.string t_4]) ∧
                    (((ByteArray.size st_1.1 + ByteArray.size t_5 : Nat) : Int) ≤ 9223372036854775807) ∧
                    CallH Tryz.prog id_ref12_Text [.string t_4] (fun v_4 h7 =>
                      ∃ t_6 : ByteArray, v_4 = .string t_6 ∧
                      (((ByteArray.size (st_1.1 ++ t_5) + ByteArray.size t_6 : Nat) : Int) ≤ 9223372036854775807) ∧
                      Jv_1 (((st_1.1 ++ t_5) ++ t_6), (IntKind.wrap .i64 (st_1.2.1 + (1 : Int))), ()) h7) h6) h5))) h4) ∧
          ((decide (st_1.2.1 < ((lN : Nat) : Int))) = false →
            (((decide (((lN : Nat) : Int) > (48 : Int))) = true →
                K (.tuple #[.string (⟨#[]⟩ : ByteArray), .int .i64 (3 : Int)]) h4) ∧
              ((decide (((lN : Nat) : Int) > (48 : Int))) = false →
                K (.tuple #[.string st_1.1, .int .i64 (0 : Int)]) h4))))) (sv, (0 : Int), ()) h3) h1)
theorem F_ref14_Page_eq {i : Int} {lA : Option Addr} {lN lC : Nat} {K : Value → PH → Prop} {h : PH} : @Eq Prop (F_ref14_Page i lA lN lC K h) (denF Tryz.prog Tryz.f164 ⟨[], [(9, .of [0, 1, 2, 3, 4, 5, 8, 9, 10, 11, 12, 6, 7, 13, 14, 15])], [(0, ⟨[(6, .str), (7, .int .i64)], [], []⟩)], [(8, ⟨[], [], []⟩)]⟩ [.v (.int .i64 i), .v (.slice lA lN lC)] K h) := by
  kernel_rfl
theorem F_ref14_Page_ok {i : Int} {lA : Option Addr} {lN lC : Nat}  {K : Value → PH → Prop} {h : PH} (hh : F_ref14_Page i lA lN lC K h) : CallH Tryz.prog id_ref14_Page [.int .i64 i, .slice lA lN lC] K h :=
  denF_sound' Tryz.func164 (H := ⟨[], [(9, .of [0, 1, 2, 3, 4, 5, 8, 9, 10, 11, 12, 6, 7, 13, 14, 15])], [(0, ⟨[(6, .str), (7, .int .i64)], [], []⟩)], [(8, ⟨[], [], []⟩)]⟩) (xs := [.v (.int .i64 i), .v (.slice lA lN lC)]) (by kernel_rfl) (⟨rfl, rfl, trivial⟩) (den_of F_ref14_Page_eq hh)

/- slices.Grow[[]twinlock/api.Pair,twinlock/api.Pair] -/
def F_slices_Grow_api_Pair_api_Pair (sA : Option Addr) (sN sC : Nat) (n : Int) (K : Value → PH → Prop) (h : PH) : Prop :=
  JoinP (T := Unit) (fun Jv =>
    (((decide (n < (0 : Int))) = true →
        False) ∧
      ((decide (n < (0 : Int))) = false →
        Jv (()) h)))
  (fun _ h1 =>
    (((decide ((IntKind.wrap .i64 (n - (IntKind.wrap .i64 (((sC : Nat) : Int) - ((sN : Nat) : Int))))) > (0 : Int))) = true →
        (0 ≤ (0 : Int) ∧ (0 : Int) ≤ ((sC : Nat) : Int) ∧ ((sC : Nat) : Int) ≤ ((sC : Nat) : Int) ∧ ((sC : Nat) : Int) ≤ (sC : Nat)) ∧
        (0 ≤ (IntKind.wrap .i64 (n - (IntKind.wrap .i64 (((sC : Nat) : Int) - ((sN : Nat) : Int))))) ∧ (IntKind.wrap .i64 (n - (IntKind.wrap .i64 (((sC : Nat) : Int) - ((sN : Nat) : Int))))) * (32 : Nat) ≤ 140737488355328) ∧
        appH T_api_Pair 2 32 [.string (⟨#[]⟩ : ByteArray), .string (⟨#[]⟩ : ByteArray)] (slA sA 2 (0 : Int) ((sC : Nat) : Int)) (((sC : Nat) : Int).toNat - (0 : Int).toNat) (((sC : Nat) : Int).toNat - (0 : Int).toNat) ((IntKind.wrap .i64 (n - (IntKind.wrap .i64 (((sC : Nat) : Int) - ((sN : Nat) : Int)))))).toNat (List.replicate ((IntKind.wrap .i64 (n - (IntKind.wrap .i64 (((sC : Nat) : Int) - ((sN : Nat) : Int)))))).toNat [.string (⟨#[]⟩ : ByteArray), .string (⟨#[]⟩ : ByteArray)]).flatten (fun tA _ tC h2 =>
          (0 ≤ (0 : Int) ∧ (0 : Int) ≤ ((sN : Nat) : Int) ∧ ((sN : Nat) : Int) ≤ ((tC : Nat) : Int) ∧ ((tC : Nat) : Int) ≤ (tC : Nat)) ∧
          K (.slice (slA tA 2 (0 : Int) ((tC : Nat) : Int)) (((sN : Nat) : Int).toNat - (0 : Int).toNat) (((tC : Nat) : Int).toNat - (0 : Int).toNat)) h2) h1) ∧
      ((decide ((IntKind.wrap .i64 (n - (IntKind.wrap .i64 (((sC : Nat) : Int) - ((sN : Nat) : Int))))) > (0 : Int))) = false →
        K (.slice sA sN sC) h1)))
theorem F_slices_Grow_api_Pair_api_Pair_eq {sA : Option Addr} {sN sC : Nat} {n : Int} {K : Value → PH → Prop} {h : PH} : @Eq Prop (F_slices_Grow_api_Pair_api_Pair sA sN sC n K h) (denF Tryz.prog Tryz.f169 ⟨[], [], [], [(8, ⟨[], [], []⟩)]⟩ [.v (.slice sA sN sC), .v (.int .i64 n)] K h) := by
  kernel_rfl
theorem F_slices_Grow_api_Pair_api_Pair_ok {sA : Option Addr} {sN sC : Nat} {n : Int}  {K : Value → PH → Prop} {h : PH} (hh : F_slices_Grow_api_Pair_api_Pair sA sN sC n K h) : CallH Tryz.prog id_slices_Grow_api_Pair_api_Pair [.slice sA sN sC, .int .i64 n] K h :=
  denF_sound' Tryz.func169 (H := ⟨[], [], [], [(8, ⟨[], [], []⟩)]⟩) (xs := [.v (.slice sA sN sC), .v (.int .i64 n)]) (by kernel_rfl) (⟨rfl, rfl, trivial⟩) (den_of F_slices_Grow_api_Pair_api_Pair_eq hh)

/- slices.Grow[[]string,string] -/
def F_slices_Grow_string_string (sA : Option Addr) (sN sC : Nat) (n : Int) (K : Value → PH → Prop) (h : PH) : Prop :=
  JoinP (T := Unit) (fun Jv =>
    (((decide (n < (0 : Int))) = true →
        False) ∧
      ((decide (n < (0 : Int))) = false →
        Jv (()) h)))
  (fun _ h1 =>
    (((decide ((IntKind.wrap .i64 (n - (IntKind.wrap .i64 (((sC : Nat) : Int) - ((sN : Nat) : Int))))) > (0 : Int))) = true →
        (0 ≤ (0 : Int) ∧ (0 : Int) ≤ ((sC : Nat) : Int) ∧ ((sC : Nat) : Int) ≤ ((sC : Nat) : Int) ∧ ((sC : Nat) : Int) ≤ (sC : Nat)) ∧
        (0 ≤ (IntKind.wrap .i64 (n - (IntKind.wrap .i64 (((sC : Nat) : Int) - ((sN : Nat) : Int))))) ∧ (IntKind.wrap .i64 (n - (IntKind.wrap .i64 (((sC : Nat) : Int) - ((sN : Nat) : Int))))) * (16 : Nat) ≤ 140737488355328) ∧
        appH 9 1 16 [.string (⟨#[]⟩ : ByteArray)] (slA sA 1 (0 : Int) ((sC : Nat) : Int)) (((sC : Nat) : Int).toNat - (0 : Int).toNat) (((sC : Nat) : Int).toNat - (0 : Int).toNat) ((IntKind.wrap .i64 (n - (IntKind.wrap .i64 (((sC : Nat) : Int) - ((sN : Nat) : Int)))))).toNat (List.replicate ((IntKind.wrap .i64 (n - (IntKind.wrap .i64 (((sC : Nat) : Int) - ((sN : Nat) : Int)))))).toNat [.string (⟨#[]⟩ : ByteArray)]).flatten (fun tA _ tC h2 =>
          (0 ≤ (0 : Int) ∧ (0 : Int) ≤ ((sN : Nat) : Int) ∧ ((sN : Nat) : Int) ≤ ((tC : Nat) : Int) ∧ ((tC : Nat) : Int) ≤ (tC : Nat)) ∧
          K (.slice (slA tA 1 (0 : Int) ((tC : Nat) : Int)) (((sN : Nat) : Int).toNat - (0 : Int).toNat) (((tC : Nat) : Int).toNat - (0 : Int).toNat)) h2) h1) ∧
      ((decide ((IntKind.wrap .i64 (n - (IntKind.wrap .i64 (((sC : Nat) : Int) - ((sN : Nat) : Int))))) > (0 : Int))) = false →
        K (.slice sA sN sC) h1)))
theorem F_slices_Grow_string_string_eq {sA : Option Addr} {sN sC : Nat} {n : Int} {K : Value → PH → Prop} {h : PH} : @Eq Prop (F_slices_Grow_string_string sA sN sC n K h) (denF Tryz.prog Tryz.f170 ⟨[], [], [], [(8, ⟨[], [], []⟩)]⟩ [.v (.slice sA sN sC), .v (.int .i64 n)] K h) := by
  kernel_rfl
theorem F_slices_Grow_string_string_ok {sA : Option Addr} {sN sC : Nat} {n : Int}  {K : Value → PH → Prop} {h : PH} (hh : F_slices_Grow_string_string sA sN sC n K h) : CallH Tryz.prog id_slices_Grow_string_string [.slice sA sN sC, .int .i64 n] K h :=
  denF_sound' Tryz.func170 (H := ⟨[], [], [], [(8, ⟨[], [], []⟩)]⟩) (xs := [.v (.slice sA sN sC), .v (.int .i64 n)]) (by kernel_rfl) (⟨rfl, rfl, trivial⟩) (den_of F_slices_Grow_string_string_eq hh)

/- internal/stringslite.Cut -/
def F_internal_stringslite_Cut (sv : ByteArray) (sep : ByteArray) (K : Value → PH → Prop) (h : PH) : Prop :=
  CallH Tryz.prog id_internal_stringslite_Index [.string sv, .string sep] (fun v h1 =>
    ∃ i : Int, v = .int .i64 i ∧
    (((decide (i ≥ (0 : Int))) = true →
        (0 ≤ (0 : Int) ∧ (0 : Int) ≤ i ∧ i ≤ (ByteArray.size sv : Nat)) ∧
        (0 ≤ (IntKind.wrap .i64 (i + (sep.size : Int))) ∧ (IntKind.wrap .i64 (i + (sep.size : Int))) ≤ ((ByteArray.size sv : Nat) : Int) ∧ ((ByteArray.size sv : Nat) : Int) ≤ (ByteArray.size sv : Nat)) ∧
        K (.tuple #[.string (subS sv (0 : Int) i), .string (subS sv (IntKind.wrap .i64 (i + (sep.size : Int))) ((ByteArray.size sv : Nat) : Int)), .bool true]) h1) ∧
      ((decide (i ≥ (0 : Int))) = false →
        K (.tuple #[.string sv, .string (⟨#[]⟩ : ByteArray), .bool false]) h1))) h
theorem F_internal_stringslite_Cut_eq {sv : ByteArray} {sep : ByteArray} {K : Value → PH → Prop} {h : PH} : @Eq Prop (F_internal_stringslite_Cut sv sep K h) (denF Tryz.prog Tryz.f171 ⟨[], [], [], []⟩ [.v (.string sv), .v (.string sep)] K h) := by
  kernel_rfl
theorem F_internal_stringslite_Cut_ok {sv : ByteArray} {sep : ByteArray}  {K : Value → PH → Prop} {h : PH} (hh : F_internal_stringslite_Cut sv sep K h) : CallH Tryz.prog id_internal_stringslite_Cut [.string sv, .string sep] K h :=
  denF_sound' Tryz.func171 (H := ⟨[], [], [], []⟩) (xs := [.v (.string sv), .v (.string sep)]) (by kernel_rfl) (⟨rfl, rfl, trivial⟩) (den_of F_internal_stringslite_Cut_eq hh)

/- strings.IndexByte -/
def F_strings_IndexByte (sv : ByteArray) (cv : Int) (K : Value → PH → Prop) (h : PH) : Prop :=
  CallH Tryz.prog id_internal_stringslite_IndexByte [.string sv, .int .u8 cv] (fun v h1 =>
    ∃ t : Int, v = .int .i64 t ∧
    K (.int .i64 t) h1) h
theorem F_strings_IndexByte_eq {sv : ByteArray} {cv : Int} {K : Value → PH → Prop} {h : PH} : @Eq Prop (F_strings_IndexByte sv cv K h) (denF Tryz.prog Tryz.f172 ⟨[], [], [], []⟩ [.v (.string sv), .v (.int .u8 cv)] K h) := by
  kernel_rfl
theorem F_strings_IndexByte_ok {sv : ByteArray} {cv : Int}  {K : Value → PH → Prop} {h : PH} (hh : F_strings_IndexByte sv cv K h) : CallH Tryz.prog id_strings_IndexByte [.string sv, .int .u8 cv] K h :=
  denF_sound' Tryz.func172 (H := ⟨[], [], [], []⟩) (xs := [.v (.string sv), .v (.int .u8 cv)]) (by kernel_rfl) (⟨rfl, rfl, trivial⟩) (den_of F_strings_IndexByte_eq hh)

/- twinlock/pack.size -/
def F_pack_size (n : Int) (K : Value → PH → Prop) (h : PH) : Prop :=
  CallH Tryz.prog id_math_bits_Len64 [.int .u64 n] (fun v h1 =>
    ∃ t : Int, v = .int .i64 t ∧
    K (.int .i64 (maxV (1 : Int) (IntKind.wrap .i64 ((IntKind.wrap .i64 ((IntKind.wrap .i64 (t + (7 : Int))) - (1 : Int))).tdiv (7 : Int))))) h1) h
theorem F_pack_size_eq {n : Int} {K : Value → PH → Prop} {h : PH} : @Eq Prop (F_pack_size n K h) (denF Tryz.prog Tryz.f176 ⟨[], [], [], []⟩ [.v (.int .u64 n)] K h) := by
  kernel_rfl
theorem F_pack_size_ok {n : Int}  {K : Value → PH → Prop} {h : PH} (hh : F_pack_size n K h) : CallH Tryz.prog id_pack_size [.int .u64 n] K h :=
  denF_sound' Tryz.func176 (H := ⟨[], [], [], []⟩) (xs := [.v (.int .u64 n)]) (by kernel_rfl) (⟨rfl, trivial⟩) (den_of F_pack_size_eq hh)

/- (*twinlock/pack.Out).put -/
def F_pack_Out_put (ov : Option Addr) (bA : Option Addr) (bN _ : Nat) (K : Value → PH → Prop) (h : PH) : Prop :=
  (((!(Option.isNone ov)) = true →
      ∃ bv ov_1 : Nat, ov = some ⟨bv, ov_1, none⟩ ∧
      ∃ (tA : Option Addr) (tN tC : Nat), (h.rds bv ov_1 1 = some [.slice tA tN tC]) ∧
      ∃ vs : List Value, srcH h bA (bN * 1) vs ∧
      appH 5 1 1 [.int .u8 (0 : Int)] tA tN tC bN vs (fun tA_1 tN_1 tC_1 h1 =>
        ∃ bv_1 ov_2 : Nat, ov = some ⟨bv_1, ov_2, none⟩ ∧
        stH h1 bv_1 ov_2 [.slice tA_1 tN_1 tC_1] fun h2 =>
        K (.tuple #[]) h2) h) ∧
    ((!(Option.isNone ov)) = false →
      K (.tuple #[]) h))
theorem F_pack_Out_put_eq {ov : Option Addr} {bA : Option Addr} {bN bC : Nat} {K : Value → PH → Prop} {h : PH} : @Eq Prop (F_pack_Out_put ov bA bN bC K h) (denF Tryz.prog Tryz.f177 ⟨[], [], [], []⟩ [.v (.pointer ov), .v (.slice bA bN bC)] K h) := by
  kernel_rfl
theorem F_pack_Out_put_ok {ov : Option Addr} {bA : Option Addr} {bN bC : Nat}  {K : Value → PH → Prop} {h : PH} (hh : F_pack_Out_put ov bA bN bC K h) : CallH Tryz.prog id_pack_Out_put [.pointer ov, .slice bA bN bC] K h :=
  denF_sound' Tryz.func177 (H := ⟨[], [], [], []⟩) (xs := [.v (.pointer ov), .v (.slice bA bN bC)]) (by kernel_rfl) (⟨rfl, rfl, trivial⟩) (den_of F_pack_Out_put_eq hh)

/- twinlock/twinlockref12.Num -/
def F_ref12_Num (n : Int) (K : Value → PH → Prop) (h : PH) : Prop :=
  LoopP (T := ByteArray × Int × Unit) (fun Jv st h1 =>
    (((decide (st.2.1 > (127 : Int))) = true →
        newH h1 (.cells #[.int .u8 (IntKind.wrap .u8 (IntKind.wrap .u64 ((st.2.1.tmod (128 : Int)) + (128 : Int))))] 5 (0, 0)) fun bv h2 =>
        ∃ t : ByteArray, strH h2 (some ⟨bv, 0, none⟩ : Option Addr) 1 t ∧
        (((ByteArray.size st.1 + ByteArray.size t : Nat) : Int) ≤ 9223372036854775807) ∧
        Jv ((st.1 ++ t), (IntKind.wrap .u64 (st.2.1.tdiv (128 : Int))), ()) h2) ∧
      ((decide (st.2.1 > (127 : Int))) = false →
        newH h1 (.cells #[.int .u8 (IntKind.wrap .u8 st.2.1)] 5 (0, 0)) fun bv_1 h3 =>
        ∃ t_1 : ByteArray, strH h3 (some ⟨bv_1, 0, none⟩ : Option Addr) 1 t_1 ∧
        (((ByteArray.size st.1 + ByteArray.size t_1 : Nat) : Int) ≤ 9223372036854775807) ∧
        K (.string (st.1 ++ t_1)) h3))) ((⟨#[]⟩ : ByteArray), n, ()) h
theorem F_ref12_Num_eq {n : Int} {K : Value → PH → Prop} {h : PH} : @Eq Prop (F_ref12_Num n K h) (denF Tryz.prog Tryz.f192 ⟨[], [], [(0, ⟨[(3, .str), (0, .int .u64)], [], []⟩)], []⟩ [.v (.int .u64 n)] K h) := by
  kernel_rfl
theorem F_ref12_Num_ok {n : Int}  {K : Value → PH → Prop} {h : PH} (hh : F_ref12_Num n K h) : CallH Tryz.prog id_ref12_Num [.int .u64 n] K h :=
  denF_sound' Tryz.func192 (H := ⟨[], [], [(0, ⟨[(3, .str), (0, .int .u64)], [], []⟩)], []⟩) (xs := [.v (.int .u64 n)]) (by kernel_rfl) (⟨rfl, trivial⟩) (den_of F_ref12_Num_eq hh)

/- twinlock/twinlockref12.Text -/
def F_ref12_Text (sv : ByteArray) (K : Value → PH → Prop) (h : PH) : Prop :=
  CallH Tryz.prog id_ref12_Num [.int .u64 (IntKind.wrap .u64 (sv.size : Int))] (fun v h1 =>
    ∃ t : ByteArray, v = .string t ∧
    (((ByteArray.size t + ByteArray.size sv : Nat) : Int) ≤ 9223372036854775807) ∧
    K (.string (t ++ sv)) h1) h
theorem F_ref12_Text_eq {sv : ByteArray} {K : Value → PH → Prop} {h : PH} : @Eq Prop (F_ref12_Text sv K h) (denF Tryz.prog Tryz.f193 ⟨[], [], [], []⟩ [.v (.string sv)] K h) := by
  kernel_rfl
theorem F_ref12_Text_ok {sv : ByteArray}  {K : Value → PH → Prop} {h : PH} (hh : F_ref12_Text sv K h) : CallH Tryz.prog id_ref12_Text [.string sv] K h :=
  denF_sound' Tryz.func193 (H := ⟨[], [], [], []⟩) (xs := [.v (.string sv)]) (by kernel_rfl) (⟨rfl, trivial⟩) (den_of F_ref12_Text_eq hh)

/- internal/stringslite.Index -/
set_option maxRecDepth 100000 in
def F_internal_stringslite_Index (sv : ByteArray) (substr : ByteArray) (K : Value → PH → Prop) (h : PH) : Prop :=
  (((((substr.size : Int) == (0 : Int)) || (strEq substr sv)) = true →
      K (.int .i64 (0 : Int)) h) ∧
    ((((substr.size : Int) == (0 : Int)) || (strEq substr sv)) = false →
      ((((substr.size : Int) == (1 : Int)) = true →
          (0 ≤ (0 : Int) ∧ (0 : Int) < (ByteArray.size substr : Nat)) ∧
          CallH Tryz.prog id_internal_stringslite_IndexByte [.string sv, .int .u8 (byteAt substr (0 : Int))] (fun v h1 =>
            ∃ t : Int, v = .int .i64 t ∧
            K (.int .i64 t) h1) h) ∧
        (((substr.size : Int) == (1 : Int)) = false →
          (((decide ((substr.size : Int) ≥ (sv.size : Int))) = true →
              K (.int .i64 (-1 : Int)) h) ∧
            ((decide ((substr.size : Int) ≥ (sv.size : Int))) = false →
              ∃ t_1 : Int, (h.rds 0 0 1 = some [.int .i64 t_1]) ∧
              ((((decide ((substr.size : Int) ≤ t_1)) && (decide ((sv.size : Int) ≤ (64 : Int)))) = true →
                  ExtH Tryz.prog id_internal_bytealg_IndexString [.string sv, .string substr] (fun v_1 h2 =>
                    ∃ t_2 : Int, v_1 = .int .i64 t_2 ∧
                    K (.int .i64 t_2) h2) h) ∧
                (((decide ((substr.size : Int) ≤ t_1)) && (decide ((sv.size : Int) ≤ (64 : Int)))) = false →
                  (0 ≤ (0 : Int) ∧ (0 : Int) < (ByteArray.size substr : Nat)) ∧
                  (0 ≤ (1 : Int) ∧ (1 : Int) < (ByteArray.size substr : Nat)) ∧
                  LoopP (T := Int × Int × Unit) (fun Jv st h3 =>
                    (((decide (st.1 < (IntKind.wrap .i64 ((IntKind.wrap .i64 ((sv.size : Int) - (substr.size : Int))) + (1 : Int))))) = true →
                        JoinP (T := Int × Unit) (fun Jv_1 =>
                          (0 ≤ st.1 ∧ st.1 < (ByteArray.size sv : Nat)) ∧
                          ((((byteAt sv st.1) != (byteAt substr (0 : Int))) = true →
                              (0 ≤ (IntKind.wrap .i64 (st.1 + (1 : Int))) ∧ (IntKind.wrap .i64 (st.1 + (1 : Int))) ≤ (IntKind.wrap .i64 ((IntKind.wrap .i64 ((sv.size : Int) - (substr.size : Int))) + (1 : Int))) ∧ (IntKind.wrap .i64 ((IntKind.wrap .i64 ((sv.size : Int) - (substr.size : Int))) + (1 : Int))) ≤ (ByteArray.size sv : Nat)) ∧
                              CallH Tryz.prog id_internal_stringslite_IndexByte [.string (subS sv (IntKind.wrap .i64 (st.1 + (1 : Int))) (IntKind.wrap .i64 ((IntKind.wrap .i64 ((sv.size : Int) - (substr.size : Int))) + (1 : Int)))), .int .u8 (byteAt substr (0 : Int))] (fun v_2 h5 =>
                                ∃ ov : Int, v_2 = .int .i64 ov ∧
                                (((decide (ov < (0 : Int))) = true →
                                    K (.int .i64 (-1 : Int)) h5) ∧
                                  ((decide (ov < (0 : Int))) = false →
                                    Jv_1 ((IntKind.wrap .i64 (st.1 + (IntKind.wrap .i64 (ov + (1 : Int))))), ()) h5))) h3) ∧
                            (((byteAt sv st.1) != (byteAt substr (0 : Int))) = false →
                              Jv_1 (st.1, ()) h3)))
                        (fun st_1 h4 =>
                          (0 ≤ (IntKind.wrap .i64 (st_1.1 + (1 : Int))) ∧ (IntKind.wrap .i64 (st_1.1 + (1 : Int))) < (ByteArray.size sv : Nat)) ∧
                          ((((byteAt sv (IntKind.wrap .i64 (st_1.1 + (1 : Int)))) == (byteAt substr (1 : Int))) = true → 0 ≤ st_1.1 ∧ st_1.1 ≤ (IntKind.wrap .i64 (st_1.1 + (substr.size : Int))) ∧ (IntKind.wrap .i64 (st_1.1 + (substr.size : Int))) ≤ (ByteArray.size sv : Nat))) ∧
                          (((((byteAt sv (IntKind.wrap .i64 (st_1.1 + (1 : Int)))) == (byteAt substr (1 : Int))) && (strEq (subS sv st_1.1 (IntKind.wrap .i64 (st_1.1 + (substr.size : Int)))) substr)) = true →
                              K (.int .i64 st_1.1) h4) ∧
                            ((((byteAt sv (IntKind.wrap .i64 (st_1.1 + (1 : Int)))) == (byteAt substr (1 : Int))) && (strEq (subS sv st_1.1 (IntKind.wrap .i64 (st_1.1 + (substr.size : Int)))) substr)) = false →
                              ∃ t_3 : Int, (h4.rds 0 0 1 = some [.int .i64 t_3]) ∧
                              (((decide ((substr.size : Int) ≤ t_3)) = true →
                                  CallH Tryz.prog id_internal_bytealg_Cutover [.int .i64 (IntKind.wrap .i64 (st_1.1 + (1 : Int)))] (fun v_3 h6 =>
                                    ∃ t_4 : Int, v_3 = .int .i64 t_4 ∧
                                    (((decide ((IntKind.wrap .i64 (st.2.1 + (1 : Int))) > t_4)) = true →
                                        (0 ≤ (IntKind.wrap .i64 (st_1.1 + (1 : Int))) ∧ (IntKind.wrap .i64 (st_1.1 + (1 : Int))) ≤ ((ByteArray.size sv : Nat) : Int) ∧ ((ByteArray.size sv : Nat) : Int) ≤ (ByteArray.size sv : Nat)) ∧
                                        ExtH Tryz.prog id_internal_bytealg_IndexString [.string (subS sv (IntKind.wrap .i64 (st_1.1 + (1 : Int))) ((ByteArray.size sv : Nat) : Int)), .string substr] (fun v_4 h7 =>
                                          ∃ r : Int, v_4 = .int .i64 r ∧
                                          (((decide (r ≥ (0 : Int))) = true →
                                              K (.int .i64 (IntKind.wrap .i64 (r + (IntKind.wrap .i64 (st_1.1 + (1 : Int)))))) h7) ∧
                                            ((decide (r ≥ (0 : Int))) = false →
                                              K (.int .i64 (-1 : Int)) h7))) h6) ∧
                                      ((decide ((IntKind.wrap .i64 (st.2.1 + (1 : Int))) > t_4)) = false →
                                        ∃ t_5 : Int, (h6.rds 0 0 1 = some [.int .i64 t_5]) ∧
                                        (((((decide ((substr.size : Int) > t_5)) && (decide ((IntKind.wrap .i64 (st.2.1 + (1 : Int))) ≥ (IntKind.wrap .i64 ((4 : Int) + (shrV .i64 (IntKind.wrap .i64 (st_1.1 + (1 : Int))) (4 : Int))))))) && (decide ((IntKind.wrap .i64 (st_1.1 + (1 : Int))) < (IntKind.wrap .i64 ((IntKind.wrap .i64 ((sv.size : Int) - (substr.size : Int))) + (1 : Int)))))) = true →
                                            (0 ≤ (IntKind.wrap .i64 (st_1.1 + (1 : Int))) ∧ (IntKind.wrap .i64 (st_1.1 + (1 : Int))) ≤ ((ByteArray.size sv : Nat) : Int) ∧ ((ByteArray.size sv : Nat) : Int) ≤ (ByteArray.size sv : Nat)) ∧
                                            CallH Tryz.prog id_internal_bytealg_IndexRabinKarp_string [.string (subS sv (IntKind.wrap .i64 (st_1.1 + (1 : Int))) ((ByteArray.size sv : Nat) : Int)), .string substr] (fun v_5 h8 =>
                                              ∃ j : Int, v_5 = .int .i64 j ∧
                                              (((decide (j < (0 : Int))) = true →
                                                  K (.int .i64 (-1 : Int)) h8) ∧
                                                ((decide (j < (0 : Int))) = false →
                                                  K (.int .i64 (IntKind.wrap .i64 ((IntKind.wrap .i64 (st_1.1 + (1 : Int))) + j))) h8))) h6) ∧
                                          ((((decide ((substr.size : Int) > t_5)) && (decide ((IntKind.wrap .i64 (st.2.1 + (1 : Int))) ≥ (IntKind.wrap .i64 ((4 : Int) + (shrV .i64 (IntKind.wrap .i64 (st_1.1 + (1 : Int))) (4 : Int))))))) && (decide ((IntKind.wrap .i64 (st_1.1 + (1 : Int))) < (IntKind.wrap .i64 ((IntKind.wrap .i64 ((sv.size : Int) - (substr.size : Int))) + (1 : Int)))))) = false →
                                            Jv ((IntKind.wrap .i64 (st_1.1 + (1 : Int))), (IntKind.wrap .i64 (st.2.1 + (1 : Int))), ()) h6))))) h4) ∧
                                ((decide ((substr.size : Int) ≤ t_3)) = false →
                                  ∃ t_6 : Int, (h4.rds 0 0 1 = some [.int .i64 t_6]) ∧
                                  (((((decide ((substr.size : Int) > t_6)) && (decide ((IntKind.wrap .i64 (st.2.1 + (1 : Int))) ≥ (IntKind.wrap .i64 ((4 : Int) + (shrV .i64 (IntKind.wrap .i64 (st_1.1 + (1 : Int))) (4 : Int))))))) && (decide ((IntKind.wrap .i64 (st_1.1 + (1 : Int))) < (IntKind.wrap .i64 ((IntKind.wrap .i64 ((sv.size : Int) - (substr.size : Int))) + (1 : Int)))))) = true →
                                      (0 ≤ (IntKind.wrap .i64 (st_1.1 + (1 : Int))) ∧ (IntKind.wrap .i64 (st_1.1 + (1 : Int))) ≤ ((ByteArray.size sv : Nat) : Int) ∧ ((ByteArray.size sv : Nat) : Int) ≤ (ByteArray.size sv : Nat)) ∧
                                      CallH Tryz.prog id_internal_bytealg_IndexRabinKarp_string [.string (subS sv (IntKind.wrap .i64 (st_1.1 + (1 : Int))) ((ByteArray.size sv : Nat) : Int)), .string substr] (fun v_6 h9 =>
                                        ∃ j_1 : Int, v_6 = .int .i64 j_1 ∧
                                        (((decide (j_1 < (0 : Int))) = true →
                                            K (.int .i64 (-1 : Int)) h9) ∧
                                          ((decide (j_1 < (0 : Int))) = false →
                                            K (.int .i64 (IntKind.wrap .i64 ((IntKind.wrap .i64 (st_1.1 + (1 : Int))) + j_1))) h9))) h4) ∧
                                    ((((decide ((substr.size : Int) > t_6)) && (decide ((IntKind.wrap .i64 (st.2.1 + (1 : Int))) ≥ (IntKind.wrap .i64 ((4 : Int) + (shrV .i64 (IntKind.wrap .i64 (st_1.1 + (1 : Int))) (4 : Int))))))) && (decide ((IntKind.wrap .i64 (st_1.1 + (1 : Int))) < (IntKind.wrap .i64 ((IntKind.wrap .i64 ((sv.size : Int) - (substr.size : Int))) + (1 : Int)))))) = false →
                                      Jv ((IntKind.wrap .i64 (st_1.1 + (1 : Int))), (IntKind.wrap .i64 (st.2.1 + (1 : Int))), ()) h4)))))))) ∧
                      ((decide (st.1 < (IntKind.wrap .i64 ((IntKind.wrap .i64 ((sv.size : Int) - (substr.size : Int))) + (1 : Int))))) = false →
                        K (.int .i64 (-1 : Int)) h3))) ((0 : Int), (0 : Int), ()) h))))))))
set_option maxRecDepth 100000 in
theorem F_internal_stringslite_Index_eq {sv : ByteArray} {substr : ByteArray} {K : Value → PH → Prop} {h : PH} : @Eq Prop (F_internal_stringslite_Index sv substr K h) (denF Tryz.prog Tryz.f199 ⟨[], [], [(1, ⟨[(8, .int .i64), (10, .int .i64)], [], []⟩)], [(44, ⟨[(8, .int .i64)], [], []⟩)]⟩ [.v (.string sv), .v (.string substr)] K h) := by
  kernel_rfl
theorem F_internal_stringslite_Index_ok {sv : ByteArray} {substr : ByteArray}  {K : Value → PH → Prop} {h : PH} (hh : F_internal_stringslite_Index sv substr K h) : CallH Tryz.prog id_internal_stringslite_Index [.string sv, .string substr] K h :=
  denF_sound' Tryz.func199 (H := ⟨[], [], [(1, ⟨[(8, .int .i64), (10, .int .i64)], [], []⟩)], [(44, ⟨[(8, .int .i64)], [], []⟩)]⟩) (xs := [.v (.string sv), .v (.string substr)]) (by kernel_rfl) (⟨rfl, rfl, trivial⟩) (den_of F_internal_stringslite_Index_eq hh)

/- internal/stringslite.IndexByte -/
def F_internal_stringslite_IndexByte (sv : ByteArray) (cv : Int) (K : Value → PH → Prop) (h : PH) : Prop :=
  ExtH Tryz.prog id_internal_bytealg_IndexByteString [.string sv, .int .u8 cv] (fun v h1 =>
    ∃ t : Int, v = .int .i64 t ∧
    K (.int .i64 t) h1) h
theorem F_internal_stringslite_IndexByte_eq {sv : ByteArray} {cv : Int} {K : Value → PH → Prop} {h : PH} : @Eq Prop (F_internal_stringslite_IndexByte sv cv K h) (denF Tryz.prog Tryz.f200 ⟨[], [], [], []⟩ [.v (.string sv), .v (.int .u8 cv)] K h) := by
  kernel_rfl
theorem F_internal_stringslite_IndexByte_ok {sv : ByteArray} {cv : Int}  {K : Value → PH → Prop} {h : PH} (hh : F_internal_stringslite_IndexByte sv cv K h) : CallH Tryz.prog id_internal_stringslite_IndexByte [.string sv, .int .u8 cv] K h :=
  denF_sound' Tryz.func200 (H := ⟨[], [], [], []⟩) (xs := [.v (.string sv), .v (.int .u8 cv)]) (by kernel_rfl) (⟨rfl, rfl, trivial⟩) (den_of F_internal_stringslite_IndexByte_eq hh)

/- internal/bytealg.Cutover -/
def F_internal_bytealg_Cutover (n : Int) (K : Value → PH → Prop) (h : PH) : Prop :=
  K (.int .i64 (IntKind.wrap .i64 ((IntKind.wrap .i64 (n + (16 : Int))).tdiv (8 : Int)))) h
theorem F_internal_bytealg_Cutover_eq {n : Int} {K : Value → PH → Prop} {h : PH} : @Eq Prop (F_internal_bytealg_Cutover n K h) (denF Tryz.prog Tryz.f219 ⟨[], [], [], []⟩ [.v (.int .i64 n)] K h) := by
  kernel_rfl
theorem F_internal_bytealg_Cutover_ok {n : Int}  {K : Value → PH → Prop} {h : PH} (hh : F_internal_bytealg_Cutover n K h) : CallH Tryz.prog id_internal_bytealg_Cutover [.int .i64 n] K h :=
  denF_sound' Tryz.func219 (H := ⟨[], [], [], []⟩) (xs := [.v (.int .i64 n)]) (by kernel_rfl) (⟨rfl, trivial⟩) (den_of F_internal_bytealg_Cutover_eq hh)

/- internal/bytealg.hashStr[string] -/
def F_internal_bytealg_hashStr_string (sep : ByteArray) (K : Value → PH → Prop) (h : PH) : Prop :=
  LoopP (T := Int × Int × Unit) (fun Jv st h1 =>
    (((decide (st.2.1 < (sep.size : Int))) = true →
        (0 ≤ st.2.1 ∧ st.2.1 < (ByteArray.size sep : Nat)) ∧
        Jv ((IntKind.wrap .u32 ((IntKind.wrap .u32 (st.1 * (16777619 : Int))) + (IntKind.wrap .u32 (byteAt sep st.2.1)))), (IntKind.wrap .i64 (st.2.1 + (1 : Int))), ()) h1) ∧
      ((decide (st.2.1 < (sep.size : Int))) = false →
        LoopP (T := Int × Int × Int × Unit) (fun Jv_1 st_1 h2 =>
          (((decide (st_1.2.2.1 > (0 : Int))) = true →
              ((((bitsV .and .i64 st_1.2.2.1 (1 : Int)) != (0 : Int)) = true →
                  Jv_1 ((IntKind.wrap .u32 (st_1.1 * st_1.2.1)), (IntKind.wrap .u32 (st_1.2.1 * st_1.2.1)), (shrV .i64 st_1.2.2.1 (1 : Int)), ()) h2) ∧
                (((bitsV .and .i64 st_1.2.2.1 (1 : Int)) != (0 : Int)) = false →
                  Jv_1 (st_1.1, (IntKind.wrap .u32 (st_1.2.1 * st_1.2.1)), (shrV .i64 st_1.2.2.1 (1 : Int)), ()) h2))) ∧
            ((decide (st_1.2.2.1 > (0 : Int))) = false →
              K (.tuple #[.int .u32 st.1, .int .u32 st_1.1]) h2))) ((1 : Int), (16777619 : Int), (sep.size : Int), ()) h1))) ((0 : Int), (0 : Int), ()) h
theorem F_internal_bytealg_hashStr_string_eq {sep : ByteArray} {K : Value → PH → Prop} {h : PH} : @Eq Prop (F_internal_bytealg_hashStr_string sep K h) (denF Tryz.prog Tryz.f226 ⟨[], [], [(0, ⟨[(4, .int .u32), (5, .int .i64)], [], []⟩), (2, ⟨[(6, .int .u32), (7, .int .u32), (8, .int .i64)], [], []⟩)], []⟩ [.v (.string sep)] K h) := by
  kernel_rfl
theorem F_internal_bytealg_hashStr_string_ok {sep : ByteArray}  {K : Value → PH → Prop} {h : PH} (hh : F_internal_bytealg_hashStr_string sep K h) : CallH Tryz.prog id_internal_bytealg_hashStr_string [.string sep] K h :=
  denF_sound' Tryz.func226 (H := ⟨[], [], [(0, ⟨[(4, .int .u32), (5, .int .i64)], [], []⟩), (2, ⟨[(6, .int .u32), (7, .int .u32), (8, .int .i64)], [], []⟩)], []⟩) (xs := [.v (.string sep)]) (by kernel_rfl) (⟨rfl, trivial⟩) (den_of F_internal_bytealg_hashStr_string_eq hh)

end TL
