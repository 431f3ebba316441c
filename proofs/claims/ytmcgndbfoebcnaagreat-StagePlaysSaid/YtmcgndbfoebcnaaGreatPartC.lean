/-
  The functions of the program as predicates on heap fragments, each tied to its code (a part). No condition.
-/
import Derived.Test.YtmcgndbfoebcnaaGreatPartB
import Derived.Carry
import Derived.ChangeSame
import Derived.OpenShut
import Derived.WalkKit
import Derived.ProofKit
import Derived.Deep.Slices
namespace TL
open Go Go.Proofs
def F_ref11_Cut (p : ByteArray) (K : Value → PH → Prop) (h : PH) : Prop :=
 LoopP (T := Int × Unit) (fun Jv st h1 =>
 (((decide (st.1 < (p.size : Int))) = true →
 (0 ≤ st.1 ∧ st.1 < (ByteArray.size p : Nat)) ∧
 ((((byteAt p st.1) == (47 : Int)) = true →
 (0 ≤ (0 : Int) ∧ (0 : Int) ≤ st.1 ∧ st.1 ≤ (ByteArray.size p : Nat)) ∧
 CallH Tryz.prog id_ref11_Named [.string (subS p (0 : Int) st.1)] (fun v h2 =>
 ∃ t : Bool, v = .bool t ∧
 ((t = true → 0 ≤ (IntKind.wrap .i64 (st.1 + (1 : Int))) ∧ (IntKind.wrap .i64 (st.1 + (1 : Int))) ≤ ((ByteArray.size p : Nat) : Int) ∧ ((ByteArray.size p : Nat) : Int) ≤ (ByteArray.size p : Nat))) ∧
 ((t = true →
 CallH Tryz.prog id_ref11_Key [.string (subS p (IntKind.wrap .i64 (st.1 + (1 : Int))) ((ByteArray.size p : Nat) : Int))] (fun v_1 h3 =>
 ∃ t_1 : Bool, v_1 = .bool t_1 ∧
 ((t_1 = true →
 (0 ≤ (0 : Int) ∧ (0 : Int) ≤ st.1 ∧ st.1 ≤ (ByteArray.size p : Nat)) ∧
 (0 ≤ (IntKind.wrap .i64 (st.1 + (1 : Int))) ∧ (IntKind.wrap .i64 (st.1 + (1 : Int))) ≤ ((ByteArray.size p : Nat) : Int) ∧ ((ByteArray.size p : Nat) : Int) ≤ (ByteArray.size p : Nat)) ∧
 K (.tuple #[.string (subS p (0 : Int) st.1), .string (subS p (IntKind.wrap .i64 (st.1 + (1 : Int))) ((ByteArray.size p : Nat) : Int)), .bool true]) h3) ∧
 (t_1 = false →
 K (.tuple #[.string (⟨#[]⟩ : ByteArray), .string (⟨#[]⟩ : ByteArray), .bool false]) h3))) h2) ∧
 (t = false →
 K (.tuple #[.string (⟨#[]⟩ : ByteArray), .string (⟨#[]⟩ : ByteArray), .bool false]) h2))) h1) ∧
 (((byteAt p st.1) == (47 : Int)) = false →
 Jv ((IntKind.wrap .i64 (st.1 + (1 : Int))), ()) h1))) ∧
 ((decide (st.1 < (p.size : Int))) = false →
 K (.tuple #[.string (⟨#[]⟩ : ByteArray), .string (⟨#[]⟩ : ByteArray), .bool false]) h1))) ((0 : Int), ()) h
theorem F_ref11_Cut_ok {p : ByteArray}  {K : Value → PH → Prop} {h : PH} (hh : F_ref11_Cut p K h) : CallH Tryz.prog id_ref11_Cut [.string p] K h :=
 denF_sound' Tryz.func22 (H := ⟨[], [], [(0, ⟨[(5, .int .i64)], [], []⟩)], []⟩) (xs := [.v (.string p)]) (by kernel_rfl) (⟨rfl, trivial⟩) (den_of (by kernel_rfl) hh)
def F_law13_GreatPairs (lA : Option Addr) (lN _ : Nat) (K : Value → PH → Prop) (h : PH) : Prop :=
 (((decide ((lN : Int) > (200 : Int))) = true →
 K (.bool true) h) ∧
 ((decide ((lN : Int) > (200 : Int))) = false →
 LoopP (T := Int × Unit) (fun Jv st h1 =>
 (((decide (st.1 < (lN : Int))) = true →
 ∃ bv ov : Nat, (lA = some ⟨bv, ov, none⟩ ∧ 0 ≤ st.1 ∧ st.1 < (lN : Nat)) ∧
 ∃ t : ByteArray, (h1.rds bv (ov + st.1.toNat * 2) 1 = some [.string t]) ∧
 ∃ bv_1 ov_1 : Nat, (((decide ((t.size : Int) > (1000 : Int))) = false → lA = some ⟨bv_1, ov_1, none⟩ ∧ 0 ≤ st.1 ∧ st.1 < (lN : Nat))) ∧
 ∃ t_1 : ByteArray, (((decide ((t.size : Int) > (1000 : Int))) = false → h1.rds bv_1 ((ov_1 + st.1.toNat * 2) + 1) 1 = some [.string t_1])) ∧
 ((((decide ((t.size : Int) > (1000 : Int))) || (decide ((t_1.size : Int) > (1000 : Int)))) = true →
 K (.bool true) h1) ∧
 (((decide ((t.size : Int) > (1000 : Int))) || (decide ((t_1.size : Int) > (1000 : Int)))) = false →
 Jv ((IntKind.wrap .i64 (st.1 + (1 : Int))), ()) h1))) ∧
 ((decide (st.1 < (lN : Int))) = false →
 K (.bool false) h1))) ((0 : Int), ()) h))
theorem F_law13_GreatPairs_ok {lA : Option Addr} {lN lC : Nat}  {K : Value → PH → Prop} {h : PH} (hh : F_law13_GreatPairs lA lN lC K h) : CallH Tryz.prog id_law13_GreatPairs [.slice lA lN lC] K h :=
 denF_sound' Tryz.func28 (H := ⟨[], [], [(0, ⟨[(3, .int .i64)], [], []⟩)], []⟩) (xs := [.v (.slice lA lN lC)]) (by kernel_rfl) (⟨rfl, trivial⟩) (den_of (by kernel_rfl) hh)
def F_ref14_May (lA : Option Addr) (lN _ : Nat) (K : Value → PH → Prop) (h : PH) : Prop :=
 LoopP (T := Int × Unit) (fun Jv st h1 =>
 (((decide (st.1 < (lN : Int))) = true →
 ∃ bv ov : Nat, (lA = some ⟨bv, ov, none⟩ ∧ 0 ≤ st.1 ∧ st.1 < (lN : Nat)) ∧
 ∃ t : ByteArray, (h1.rds bv (ov + st.1.toNat * 2) 1 = some [.string t]) ∧
 CallH Tryz.prog id_ref11_Cut [.string t] (fun v h2 =>
 ∃ t0 t1 : ByteArray, ∃ t2 : Bool, v = .tuple #[.string t0, .string t1, .bool t2] ∧
 ∃ bv_1 ov_1 : Nat, (((!t2) = false → lA = some ⟨bv_1, ov_1, none⟩ ∧ 0 ≤ st.1 ∧ st.1 < (lN : Nat))) ∧
 ∃ t_1 : ByteArray, (((!t2) = false → h2.rds bv_1 ((ov_1 + st.1.toNat * 2) + 1) 1 = some [.string t_1])) ∧
 ((((!t2) || (decide ((t_1.size : Int) > (32 : Int)))) = true →
 K (.bool false) h2) ∧
 (((!t2) || (decide ((t_1.size : Int) > (32 : Int)))) = false →
 ∃ bv_2 ov_2 : Nat, (((decide (st.1 > (0 : Int))) = true → lA = some ⟨bv_2, ov_2, none⟩ ∧ 0 ≤ (IntKind.wrap .i64 (st.1 - (1 : Int))) ∧ (IntKind.wrap .i64 (st.1 - (1 : Int))) < (lN : Nat))) ∧
 ∃ t_2 : ByteArray, (((decide (st.1 > (0 : Int))) = true → h2.rds bv_2 (ov_2 + (IntKind.wrap .i64 (st.1 - (1 : Int))).toNat * 2) 1 = some [.string t_2])) ∧
 ∃ bv_3 ov_3 : Nat, (((decide (st.1 > (0 : Int))) = true → lA = some ⟨bv_3, ov_3, none⟩ ∧ 0 ≤ st.1 ∧ st.1 < (lN : Nat))) ∧
 ∃ t_3 : ByteArray, (((decide (st.1 > (0 : Int))) = true → h2.rds bv_3 (ov_3 + st.1.toNat * 2) 1 = some [.string t_3])) ∧
 (((decide (st.1 > (0 : Int))) = true →
 CallH Tryz.prog id_ref11_Less [.string t_2, .string t_3] (fun v_1 h3 =>
 ∃ t_4 : Bool, v_1 = .bool t_4 ∧
 (((!t_4) = true →
 K (.bool false) h3) ∧
 ((!t_4) = false →
 Jv ((IntKind.wrap .i64 (st.1 + (1 : Int))), ()) h3))) h2) ∧
 ((decide (st.1 > (0 : Int))) = false →
 Jv ((IntKind.wrap .i64 (st.1 + (1 : Int))), ()) h2))))) h1) ∧
 ((decide (st.1 < (lN : Int))) = false →
 K (.bool true) h1))) ((0 : Int), ()) h
theorem F_ref14_May_ok {lA : Option Addr} {lN lC : Nat}  {K : Value → PH → Prop} {h : PH} (hh : F_ref14_May lA lN lC K h) : CallH Tryz.prog id_ref14_May [.slice lA lN lC] K h :=
 denF_sound' Tryz.func30 (H := ⟨[], [], [(0, ⟨[(3, .int .i64)], [], []⟩)], []⟩) (xs := [.v (.slice lA lN lC)]) (by kernel_rfl) (⟨rfl, trivial⟩) (den_of (by kernel_rfl) hh)
def F_ref13_Same (aA : Option Addr) (aN _ : Nat) (bA : Option Addr) (bN _ : Nat) (K : Value → PH → Prop) (h : PH) : Prop :=
 ((((aN : Int) != (bN : Int)) = true →
 K (.bool false) h) ∧
 (((aN : Int) != (bN : Int)) = false →
 LoopP (T := Int × Unit) (fun Jv st h1 =>
 (((decide (st.1 < (aN : Int))) = true →
 ∃ bv ov : Nat, (aA = some ⟨bv, ov, none⟩ ∧ 0 ≤ st.1 ∧ st.1 < (aN : Nat)) ∧
 ∃ t0 t1 : ByteArray, (h1.rds bv (ov + st.1.toNat * 2) 2 = some [.string t0, .string t1]) ∧
 ∃ bv_1 ov_1 : Nat, (bA = some ⟨bv_1, ov_1, none⟩ ∧ 0 ≤ st.1 ∧ st.1 < (bN : Nat)) ∧
 ∃ t0_1 t1_1 : ByteArray, (h1.rds bv_1 (ov_1 + st.1.toNat * 2) 2 = some [.string t0_1, .string t1_1]) ∧
 (((!((strEq t0 t0_1) && ((strEq t1 t1_1) && true))) = true →
 K (.bool false) h1) ∧
 ((!((strEq t0 t0_1) && ((strEq t1 t1_1) && true))) = false →
 Jv ((IntKind.wrap .i64 (st.1 + (1 : Int))), ()) h1))) ∧
 ((decide (st.1 < (aN : Int))) = false →
 K (.bool true) h1))) ((0 : Int), ()) h))
theorem F_ref13_Same_ok {aA : Option Addr} {aN aC : Nat} {bA : Option Addr} {bN bC : Nat}  {K : Value → PH → Prop} {h : PH} (hh : F_ref13_Same aA aN aC bA bN bC K h) : CallH Tryz.prog id_ref13_Same [.slice aA aN aC, .slice bA bN bC] K h :=
 denF_sound' Tryz.func45 (H := ⟨[], [], [(0, ⟨[(5, .int .i64)], [], []⟩)], []⟩) (xs := [.v (.slice aA aN aC), .v (.slice bA bN bC)]) (by kernel_rfl) (⟨rfl, rfl, trivial⟩) (den_of (by kernel_rfl) hh)
def F_ref15_Collides (lA : Option Addr) (lN _ : Nat) (K : Value → PH → Prop) (h : PH) : Prop :=
 newH h (.map #[] 0) fun bv h1 =>
 LoopP (T := Int × Unit) (fun Jv st h2 =>
 (((decide (st.1 < (lN : Int))) = true →
 ∃ bv_1 ov : Nat, (lA = some ⟨bv_1, ov, none⟩ ∧ 0 ≤ st.1 ∧ st.1 < (lN : Nat)) ∧
 ∃ t : ByteArray, (h2.rds bv_1 (ov + st.1.toNat * 1) 1 = some [.string t]) ∧
 CallH Tryz.prog id_ref02_Sum [.string t] (fun v h3 =>
 ∃ hv : List Int, hv.length = 32 ∧ v = .agg ((hv.map (Value.int .u8) ++ [])).toArray ∧
 ∃ k : Int, ∃ ok : Bool, lkH (.arr .u8 32) h3 (some bv) (.agg ((hv.map (Value.int .u8) ++ [])).toArray) (.int .i64 (0 : Int)) (.int .i64 k) ok ∧
 ∃ bv_2 ov_1 : Nat, (((decide (k > (0 : Int))) = true → lA = some ⟨bv_2, ov_1, none⟩ ∧ 0 ≤ (IntKind.wrap .i64 (k - (1 : Int))) ∧ (IntKind.wrap .i64 (k - (1 : Int))) < (lN : Nat))) ∧
 ∃ t_1 : ByteArray, (((decide (k > (0 : Int))) = true → h3.rds bv_2 (ov_1 + (IntKind.wrap .i64 (k - (1 : Int))).toNat * 1) 1 = some [.string t_1])) ∧
 ∃ bv_3 ov_2 : Nat, (((decide (k > (0 : Int))) = true → lA = some ⟨bv_3, ov_2, none⟩ ∧ 0 ≤ st.1 ∧ st.1 < (lN : Nat))) ∧
 ∃ t_2 : ByteArray, (((decide (k > (0 : Int))) = true → h3.rds bv_3 (ov_2 + st.1.toNat * 1) 1 = some [.string t_2])) ∧
 ((((decide (k > (0 : Int))) && (!(strEq t_1 t_2))) = true →
 K (.bool true) h3) ∧
 (((decide (k > (0 : Int))) && (!(strEq t_1 t_2))) = false →
 muH (.arr .u8 32) h3 (some bv) (.agg ((hv.map (Value.int .u8) ++ [])).toArray) (.int .i64 (IntKind.wrap .i64 (st.1 + (1 : Int)))) fun h4 =>
 Jv ((IntKind.wrap .i64 (st.1 + (1 : Int))), ()) h4))) h2) ∧
 ((decide (st.1 < (lN : Int))) = false →
 K (.bool false) h2))) ((0 : Int), ()) h1
theorem F_ref15_Collides_ok {lA : Option Addr} {lN lC : Nat}  {K : Value → PH → Prop} {h : PH} (hh : F_ref15_Collides lA lN lC K h) : CallH Tryz.prog id_ref15_Collides [.slice lA lN lC] K h :=
 denF_sound' Tryz.func46 (H := ⟨[5], [], [(0, ⟨[(4, .int .i64)], [], []⟩)], []⟩) (xs := [.v (.slice lA lN lC)]) (by kernel_rfl) (⟨rfl, trivial⟩) (den_of (by kernel_rfl) hh)
def F_ref15_Texts (lA : Option Addr) (lN lC : Nat) (K : Value → PH → Prop) (h : PH) : Prop :=
 LoopP (T := (Option Addr × Nat × Nat) × Int × Unit) (fun Jv st h1 =>
 (((decide (st.2.1 < (16 : Int))) = true →
 CallH Tryz.prog id_ref15_LeafText [.slice lA lN lC, .int .i64 st.2.1] (fun v h2 =>
 ∃ t : ByteArray, v = .string t ∧
 appH 9 1 16 [.string (⟨#[]⟩ : ByteArray)] st.1.1 st.1.2.1 st.1.2.2 1 [.string t] (fun outA outN outC h3 =>
 Jv ((outA, outN, outC), (IntKind.wrap .i64 (st.2.1 + (1 : Int))), ()) h3) h2) h1) ∧
 ((decide (st.2.1 < (16 : Int))) = false →
 CallH Tryz.prog id_ref15_Levels [.slice lA lN lC] (fun v_1 h4 =>
 ∃ (levelsA : Option Addr) (levelsN levelsC : Nat), v_1 = .slice levelsA levelsN levelsC ∧
 LoopP (T := (Option Addr × Nat × Nat) × Int × Unit) (fun Jv_1 st_1 h5 =>
 (((decide (st_1.2.1 ≥ (0 : Int))) = true →
 LoopP (T := (Option Addr × Nat × Nat) × Int × Unit) (fun Jv_2 st_2 h6 =>
 ∃ bv ov : Nat, (levelsA = some ⟨bv, ov, none⟩ ∧ 0 ≤ st_1.2.1 ∧ st_1.2.1 < (levelsN : Nat)) ∧
 ∃ (tA : Option Addr) (tN tC : Nat), (h6.rds bv (ov + st_1.2.1.toNat * 1) 1 = some [.slice tA tN tC]) ∧
 (((decide (st_2.2.1 < (tN : Int))) = true →
 ∃ bv_1 ov_1 : Nat, (levelsA = some ⟨bv_1, ov_1, none⟩ ∧ 0 ≤ (IntKind.wrap .i64 (st_1.2.1 + (1 : Int))) ∧ (IntKind.wrap .i64 (st_1.2.1 + (1 : Int))) < (levelsN : Nat)) ∧
 ∃ (tA_1 : Option Addr) (tN_1 tC_1 : Nat), (h6.rds bv_1 (ov_1 + (IntKind.wrap .i64 (st_1.2.1 + (1 : Int))).toNat * 1) 1 = some [.slice tA_1 tN_1 tC_1]) ∧
 ∃ bv_2 ov_2 : Nat, (tA_1 = some ⟨bv_2, ov_2, none⟩ ∧ 0 ≤ (IntKind.wrap .i64 ((2 : Int) * st_2.2.1)) ∧ (IntKind.wrap .i64 ((2 : Int) * st_2.2.1)) < (tN_1 : Nat)) ∧
 ∃ t_1 : List Int, t_1.length = 32 ∧ (h6.rds bv_2 (ov_2 + (IntKind.wrap .i64 ((2 : Int) * st_2.2.1)).toNat * 32) 32 = some (t_1.map (Value.int .u8) ++ [])) ∧
 ∃ bv_3 ov_3 : Nat, (levelsA = some ⟨bv_3, ov_3, none⟩ ∧ 0 ≤ (IntKind.wrap .i64 (st_1.2.1 + (1 : Int))) ∧ (IntKind.wrap .i64 (st_1.2.1 + (1 : Int))) < (levelsN : Nat)) ∧
 ∃ (tA_2 : Option Addr) (tN_2 tC_2 : Nat), (h6.rds bv_3 (ov_3 + (IntKind.wrap .i64 (st_1.2.1 + (1 : Int))).toNat * 1) 1 = some [.slice tA_2 tN_2 tC_2]) ∧
 ∃ bv_4 ov_4 : Nat, (tA_2 = some ⟨bv_4, ov_4, none⟩ ∧ 0 ≤ (IntKind.wrap .i64 ((IntKind.wrap .i64 ((2 : Int) * st_2.2.1)) + (1 : Int))) ∧ (IntKind.wrap .i64 ((IntKind.wrap .i64 ((2 : Int) * st_2.2.1)) + (1 : Int))) < (tN_2 : Nat)) ∧
 ∃ t_2 : List Int, t_2.length = 32 ∧ (h6.rds bv_4 (ov_4 + (IntKind.wrap .i64 ((IntKind.wrap .i64 ((2 : Int) * st_2.2.1)) + (1 : Int))).toNat * 32) 32 = some (t_2.map (Value.int .u8) ++ [])) ∧
 CallH Tryz.prog id_ref15_InnerText [.agg ((t_1.map (Value.int .u8) ++ [])).toArray, .agg ((t_2.map (Value.int .u8) ++ [])).toArray] (fun v_2 h7 =>
 ∃ t_3 : ByteArray, v_2 = .string t_3 ∧
 appH 9 1 16 [.string (⟨#[]⟩ : ByteArray)] st_2.1.1 st_2.1.2.1 st_2.1.2.2 1 [.string t_3] (fun outA_1 outN_1 outC_1 h8 =>
 Jv_2 ((outA_1, outN_1, outC_1), (IntKind.wrap .i64 (st_2.2.1 + (1 : Int))), ()) h8) h7) h6) ∧
 ((decide (st_2.2.1 < (tN : Int))) = false →
 Jv_1 ((st_2.1.1, st_2.1.2.1, st_2.1.2.2), (IntKind.wrap .i64 (st_1.2.1 - (1 : Int))), ()) h6))) ((st_1.1.1, st_1.1.2.1, st_1.1.2.2), (0 : Int), ()) h5) ∧
 ((decide (st_1.2.1 ≥ (0 : Int))) = false →
 K (.slice st_1.1.1 st_1.1.2.1 st_1.1.2.2) h5))) ((st.1.1, st.1.2.1, st.1.2.2), (3 : Int), ()) h4) h1))) ((none, 0, 0), (0 : Int), ()) h
theorem F_ref15_Texts_ok {lA : Option Addr} {lN lC : Nat}  {K : Value → PH → Prop} {h : PH} (hh : F_ref15_Texts lA lN lC K h) : CallH Tryz.prog id_ref15_Texts [.slice lA lN lC] K h :=
 denF_sound' Tryz.func49 (H := ⟨[16, 54], [], [(0, ⟨[(3, .slice), (4, .int .i64)], [], []⟩), (2, ⟨[(3, .slice), (6, .int .i64)], [], []⟩), (4, ⟨[(3, .slice), (7, .int .i64)], [], []⟩)], []⟩) (xs := [.v (.slice lA lN lC)]) (by kernel_rfl) (⟨rfl, trivial⟩) (den_of (by kernel_rfl) hh)
def F_law13_SameTexts (aA : Option Addr) (aN _ : Nat) (bA : Option Addr) (bN _ : Nat) (K : Value → PH → Prop) (h : PH) : Prop :=
 ((((aN : Int) != (bN : Int)) = true →
 K (.bool false) h) ∧
 (((aN : Int) != (bN : Int)) = false →
 LoopP (T := Int × Unit) (fun Jv st h1 =>
 (((decide (st.1 < (aN : Int))) = true →
 ∃ bv ov : Nat, (aA = some ⟨bv, ov, none⟩ ∧ 0 ≤ st.1 ∧ st.1 < (aN : Nat)) ∧
 ∃ t : ByteArray, (h1.rds bv (ov + st.1.toNat * 1) 1 = some [.string t]) ∧
 ∃ bv_1 ov_1 : Nat, (bA = some ⟨bv_1, ov_1, none⟩ ∧ 0 ≤ st.1 ∧ st.1 < (bN : Nat)) ∧
 ∃ t_1 : ByteArray, (h1.rds bv_1 (ov_1 + st.1.toNat * 1) 1 = some [.string t_1]) ∧
 (((!(strEq t t_1)) = true →
 K (.bool false) h1) ∧
 ((!(strEq t t_1)) = false →
 Jv ((IntKind.wrap .i64 (st.1 + (1 : Int))), ()) h1))) ∧
 ((decide (st.1 < (aN : Int))) = false →
 K (.bool true) h1))) ((0 : Int), ()) h))
theorem F_law13_SameTexts_ok {aA : Option Addr} {aN aC : Nat} {bA : Option Addr} {bN bC : Nat}  {K : Value → PH → Prop} {h : PH} (hh : F_law13_SameTexts aA aN aC bA bN bC K h) : CallH Tryz.prog id_law13_SameTexts [.slice aA aN aC, .slice bA bN bC] K h :=
 denF_sound' Tryz.func55 (H := ⟨[], [], [(0, ⟨[(5, .int .i64)], [], []⟩)], []⟩) (xs := [.v (.slice aA aN aC), .v (.slice bA bN bC)]) (by kernel_rfl) (⟨rfl, rfl, trivial⟩) (den_of (by kernel_rfl) hh)
def F_bucket_Of (p : ByteArray) (K : Value → PH → Prop) (h : PH) : Prop :=
 CallH Tryz.prog id_sha_Sum [.string p] (fun v h1 =>
 ∃ hv : List Int, hv.length = 32 ∧ v = .agg ((hv.map (Value.int .u8) ++ [])).toArray ∧
 K (.int .i64 (IntKind.wrap .i64 (shrV .u8 ((hv.take 1).getD 0 0) (4 : Int)))) h1) h
theorem F_bucket_Of_ok {p : ByteArray}  {K : Value → PH → Prop} {h : PH} (hh : F_bucket_Of p K h) : CallH Tryz.prog id_bucket_Of [.string p] K h :=
 denF_sound' Tryz.func56 (H := ⟨[3], [], [], []⟩) (xs := [.v (.string p)]) (by kernel_rfl) (⟨rfl, trivial⟩) (den_of (by kernel_rfl) hh)
def F_ref11_Named (sv : ByteArray) (K : Value → PH → Prop) (h : PH) : Prop :=
 ((((decide ((sv.size : Int) < (1 : Int))) || (decide ((sv.size : Int) > (8 : Int)))) = true →
 K (.bool false) h) ∧
 (((decide ((sv.size : Int) < (1 : Int))) || (decide ((sv.size : Int) > (8 : Int)))) = false →
 LoopP (T := Int × Unit) (fun Jv st h1 =>
 (((decide (st.1 < (sv.size : Int))) = true →
 (0 ≤ st.1 ∧ st.1 < (ByteArray.size sv : Nat)) ∧
 (((decide ((byteAt sv st.1) < (97 : Int))) = false → 0 ≤ st.1 ∧ st.1 < (ByteArray.size sv : Nat))) ∧
 ((((decide ((byteAt sv st.1) < (97 : Int))) || (decide ((byteAt sv st.1) > (122 : Int)))) = true →
 K (.bool false) h1) ∧
 (((decide ((byteAt sv st.1) < (97 : Int))) || (decide ((byteAt sv st.1) > (122 : Int)))) = false →
 Jv ((IntKind.wrap .i64 (st.1 + (1 : Int))), ()) h1))) ∧
 ((decide (st.1 < (sv.size : Int))) = false →
 K (.bool true) h1))) ((0 : Int), ()) h))
theorem F_ref11_Named_ok {sv : ByteArray}  {K : Value → PH → Prop} {h : PH} (hh : F_ref11_Named sv K h) : CallH Tryz.prog id_ref11_Named [.string sv] K h :=
 denF_sound' Tryz.func91 (H := ⟨[], [], [(0, ⟨[(3, .int .i64)], [], []⟩)], []⟩) (xs := [.v (.string sv)]) (by kernel_rfl) (⟨rfl, trivial⟩) (den_of (by kernel_rfl) hh)
def F_ref11_Key (sv : ByteArray) (K : Value → PH → Prop) (h : PH) : Prop :=
 ((((decide ((sv.size : Int) < (1 : Int))) || (decide ((sv.size : Int) > (24 : Int)))) = true →
 K (.bool false) h) ∧
 (((decide ((sv.size : Int) < (1 : Int))) || (decide ((sv.size : Int) > (24 : Int)))) = false →
 LoopP (T := Int × Unit) (fun Jv st h1 =>
 (((decide (st.1 < (sv.size : Int))) = true →
 (0 ≤ st.1 ∧ st.1 < (ByteArray.size sv : Nat)) ∧
 ((((byteAt sv st.1) == (0 : Int)) = false → 0 ≤ st.1 ∧ st.1 < (ByteArray.size sv : Nat))) ∧
 (((((byteAt sv st.1) == (0 : Int)) || ((byteAt sv st.1) == (47 : Int))) = true →
 K (.bool false) h1) ∧
 ((((byteAt sv st.1) == (0 : Int)) || ((byteAt sv st.1) == (47 : Int))) = false →
 Jv ((IntKind.wrap .i64 (st.1 + (1 : Int))), ()) h1))) ∧
 ((decide (st.1 < (sv.size : Int))) = false →
 K (.bool true) h1))) ((0 : Int), ()) h))
theorem F_ref11_Key_ok {sv : ByteArray}  {K : Value → PH → Prop} {h : PH} (hh : F_ref11_Key sv K h) : CallH Tryz.prog id_ref11_Key [.string sv] K h :=
 denF_sound' Tryz.func92 (H := ⟨[], [], [(0, ⟨[(3, .int .i64)], [], []⟩)], []⟩) (xs := [.v (.string sv)]) (by kernel_rfl) (⟨rfl, trivial⟩) (den_of (by kernel_rfl) hh)
def F_path_Cut (p : ByteArray) (K : Value → PH → Prop) (h : PH) : Prop :=
 CallH Tryz.prog id_strings_Cut [.string p, .string (⟨#[47]⟩ : ByteArray)] (fun v h1 =>
 ∃ t0 t1 : ByteArray, ∃ t2 : Bool, v = .tuple #[.string t0, .string t1, .bool t2] ∧
 (((!t2) = false →
 CallH Tryz.prog id_path_named [.string t0] (fun v_1 h2 =>
 ∃ t : Bool, v_1 = .bool t ∧
 (((!t) = false →
 CallH Tryz.prog id_path_key [.string t1] (fun v_2 h3 =>
 ∃ t_1 : Bool, v_2 = .bool t_1 ∧
 (((!t_1) = true →
 K (.tuple #[.string (⟨#[]⟩ : ByteArray), .string (⟨#[]⟩ : ByteArray), .bool false]) h3) ∧
 ((!t_1) = false →
 K (.tuple #[.string t0, .string t1, .bool true]) h3))) h2) ∧
 ((!t) = true →
 K (.tuple #[.string (⟨#[]⟩ : ByteArray), .string (⟨#[]⟩ : ByteArray), .bool false]) h2))) h1) ∧
 ((!t2) = true →
 K (.tuple #[.string (⟨#[]⟩ : ByteArray), .string (⟨#[]⟩ : ByteArray), .bool false]) h1))) h
theorem F_path_Cut_ok {p : ByteArray}  {K : Value → PH → Prop} {h : PH} (hh : F_path_Cut p K h) : CallH Tryz.prog id_path_Cut [.string p] K h :=
 denF_sound' Tryz.func93 (H := ⟨[], [], [], []⟩) (xs := [.v (.string p)]) (by kernel_rfl) (⟨rfl, trivial⟩) (den_of (by kernel_rfl) hh)
set_option maxRecDepth 100000 in
def F_slices_Replace_api_Pair_api_Pair (sA : Option Addr) (sN sC : Nat) (i : Int) (j : Int) (vA : Option Addr) (vN vC : Nat) (K : Value → PH → Prop) (h : PH) : Prop :=
 (0 ≤ i ∧ i ≤ j ∧ j ≤ (sC : Int) ∧ (sC : Int) ≤ (sC : Nat)) ∧
 (((i == j) = true →
 CallH Tryz.prog id_slices_Insert_api_Pair_api_Pair [.slice sA sN sC, .int .i64 i, .slice vA vN vC] (fun v h1 =>
 ∃ (tA : Option Addr) (tN tC : Nat), v = .slice tA tN tC ∧
 K (.slice tA tN tC) h1) h) ∧
 ((i == j) = false →
 (((j == (sN : Int)) = true →
 (0 ≤ (0 : Int) ∧ (0 : Int) ≤ i ∧ i ≤ (sC : Int) ∧ (sC : Int) ≤ (sC : Nat)) ∧
 ∃ vs : List Value, srcH h vA (vN * 2) vs ∧
 appH T_api_Pair 2 32 [.string (⟨#[]⟩ : ByteArray), .string (⟨#[]⟩ : ByteArray)] (slA sA 2 (0 : Int) (sC : Int)) (i.toNat - (0 : Int).toNat) ((sC : Int).toNat - (0 : Int).toNat) vN vs (fun s2A s2N s2C h2 =>
 (((decide ((s2N : Int) < (sN : Int))) = true →
 (0 ≤ (s2N : Int) ∧ (s2N : Int) ≤ (sN : Int) ∧ (sN : Int) ≤ (sC : Int) ∧ (sC : Int) ≤ (sC : Nat)) ∧
 ((((sN : Int).toNat - (s2N : Int).toNat) * 2 = 0 →
 K (.slice s2A s2N s2C) h2) ∧
 (((sN : Int).toNat - (s2N : Int).toNat) * 2 ≠ 0 → ∃ bv ov : Nat, (slA sA 2 (s2N : Int) (sC : Int)) = some ⟨bv, ov, none⟩ ∧ stH h2 bv ov (List.replicate ((sN : Int).toNat - (s2N : Int).toNat) [.string (⟨#[]⟩ : ByteArray), .string (⟨#[]⟩ : ByteArray)]).flatten fun h3 =>
 K (.slice s2A s2N s2C) h3))) ∧
 ((decide ((s2N : Int) < (sN : Int))) = false →
 K (.slice s2A s2N s2C) h2))) h) ∧
 ((j == (sN : Int)) = false →
 (0 ≤ (0 : Int) ∧ (0 : Int) ≤ i ∧ i ≤ (sC : Int) ∧ (sC : Int) ≤ (sC : Nat)) ∧
 (0 ≤ j ∧ j ≤ (sN : Int) ∧ (sN : Int) ≤ (sC : Int) ∧ (sC : Int) ≤ (sC : Nat)) ∧
 (((decide ((IntKind.wrap .i64 ((IntKind.wrap .i64 ((((i.toNat - (0 : Int).toNat) : Nat) : Int) + (vN : Int))) + ((((sN : Int).toNat - j.toNat) : Nat) : Int))) > (sC : Int))) = true →
 (0 ≤ (0 : Int) ∧ (0 : Int) ≤ i ∧ i ≤ (sC : Int) ∧ (sC : Int) ≤ (sC : Nat)) ∧
 (0 ≤ (IntKind.wrap .i64 ((IntKind.wrap .i64 ((IntKind.wrap .i64 ((((i.toNat - (0 : Int).toNat) : Nat) : Int) + (vN : Int))) + ((((sN : Int).toNat - j.toNat) : Nat) : Int))) - i)) ∧ (IntKind.wrap .i64 ((IntKind.wrap .i64 ((IntKind.wrap .i64 ((((i.toNat - (0 : Int).toNat) : Nat) : Int) + (vN : Int))) + ((((sN : Int).toNat - j.toNat) : Nat) : Int))) - i)) * (32 : Nat) ≤ 140737488355328) ∧
 appH T_api_Pair 2 32 [.string (⟨#[]⟩ : ByteArray), .string (⟨#[]⟩ : ByteArray)] (slA sA 2 (0 : Int) (sC : Int)) (i.toNat - (0 : Int).toNat) ((sC : Int).toNat - (0 : Int).toNat) ((IntKind.wrap .i64 ((IntKind.wrap .i64 ((IntKind.wrap .i64 ((((i.toNat - (0 : Int).toNat) : Nat) : Int) + (vN : Int))) + ((((sN : Int).toNat - j.toNat) : Nat) : Int))) - i))).toNat (List.replicate ((IntKind.wrap .i64 ((IntKind.wrap .i64 ((IntKind.wrap .i64 ((((i.toNat - (0 : Int).toNat) : Nat) : Int) + (vN : Int))) + ((((sN : Int).toNat - j.toNat) : Nat) : Int))) - i))).toNat [.string (⟨#[]⟩ : ByteArray), .string (⟨#[]⟩ : ByteArray)]).flatten (fun s2A_1 s2N_1 s2C_1 h4 =>
 (0 ≤ i ∧ i ≤ (s2N_1 : Int) ∧ (s2N_1 : Int) ≤ (s2C_1 : Int) ∧ (s2C_1 : Int) ≤ (s2C_1 : Nat)) ∧
 ∃ vs_1 : List Value, srcH h4 vA (min vN ((s2N_1 : Int).toNat - i.toNat) * 2) vs_1 ∧
 ((vs_1.length = 0 →
 (0 ≤ (IntKind.wrap .i64 (i + (vN : Int))) ∧ (IntKind.wrap .i64 (i + (vN : Int))) ≤ (s2N_1 : Int) ∧ (s2N_1 : Int) ≤ (s2C_1 : Int) ∧ (s2C_1 : Int) ≤ (s2C_1 : Nat)) ∧
 (0 ≤ j ∧ j ≤ (sN : Int) ∧ (sN : Int) ≤ (sC : Int) ∧ (sC : Int) ≤ (sC : Nat)) ∧
 ∃ vs_2 : List Value, srcH h4 (slA sA 2 j (sC : Int)) (min ((sN : Int).toNat - j.toNat) ((s2N_1 : Int).toNat - (IntKind.wrap .i64 (i + (vN : Int))).toNat) * 2) vs_2 ∧
 ((vs_2.length = 0 →
 K (.slice s2A_1 s2N_1 s2C_1) h4) ∧
 (vs_2.length ≠ 0 → ∃ bv_2 ov_2 : Nat, (slA s2A_1 2 (IntKind.wrap .i64 (i + (vN : Int))) (s2C_1 : Int)) = some ⟨bv_2, ov_2, none⟩ ∧ stH h4 bv_2 ov_2 vs_2 fun h6 =>
 K (.slice s2A_1 s2N_1 s2C_1) h6))) ∧
 (vs_1.length ≠ 0 → ∃ bv_1 ov_1 : Nat, (slA s2A_1 2 i (s2C_1 : Int)) = some ⟨bv_1, ov_1, none⟩ ∧ stH h4 bv_1 ov_1 vs_1 fun h5 =>
 (0 ≤ (IntKind.wrap .i64 (i + (vN : Int))) ∧ (IntKind.wrap .i64 (i + (vN : Int))) ≤ (s2N_1 : Int) ∧ (s2N_1 : Int) ≤ (s2C_1 : Int) ∧ (s2C_1 : Int) ≤ (s2C_1 : Nat)) ∧
 (0 ≤ j ∧ j ≤ (sN : Int) ∧ (sN : Int) ≤ (sC : Int) ∧ (sC : Int) ≤ (sC : Nat)) ∧
 ∃ vs_3 : List Value, srcH h5 (slA sA 2 j (sC : Int)) (min ((sN : Int).toNat - j.toNat) ((s2N_1 : Int).toNat - (IntKind.wrap .i64 (i + (vN : Int))).toNat) * 2) vs_3 ∧
 ((vs_3.length = 0 →
 K (.slice s2A_1 s2N_1 s2C_1) h5) ∧
 (vs_3.length ≠ 0 → ∃ bv_3 ov_3 : Nat, (slA s2A_1 2 (IntKind.wrap .i64 (i + (vN : Int))) (s2C_1 : Int)) = some ⟨bv_3, ov_3, none⟩ ∧ stH h5 bv_3 ov_3 vs_3 fun h7 =>
 K (.slice s2A_1 s2N_1 s2C_1) h7))))) h) ∧
 ((decide ((IntKind.wrap .i64 ((IntKind.wrap .i64 ((((i.toNat - (0 : Int).toNat) : Nat) : Int) + (vN : Int))) + ((((sN : Int).toNat - j.toNat) : Nat) : Int))) > (sC : Int))) = false →
 (0 ≤ (0 : Int) ∧ (0 : Int) ≤ (IntKind.wrap .i64 ((IntKind.wrap .i64 ((((i.toNat - (0 : Int).toNat) : Nat) : Int) + (vN : Int))) + ((((sN : Int).toNat - j.toNat) : Nat) : Int))) ∧ (IntKind.wrap .i64 ((IntKind.wrap .i64 ((((i.toNat - (0 : Int).toNat) : Nat) : Int) + (vN : Int))) + ((((sN : Int).toNat - j.toNat) : Nat) : Int))) ≤ (sC : Int) ∧ (sC : Int) ≤ (sC : Nat)) ∧
 (((decide ((IntKind.wrap .i64 (i + (vN : Int))) ≤ j)) = true →
 (0 ≤ i ∧ i ≤ ((((IntKind.wrap .i64 ((IntKind.wrap .i64 ((((i.toNat - (0 : Int).toNat) : Nat) : Int) + (vN : Int))) + ((((sN : Int).toNat - j.toNat) : Nat) : Int))).toNat - (0 : Int).toNat) : Nat) : Int) ∧ ((((IntKind.wrap .i64 ((IntKind.wrap .i64 ((((i.toNat - (0 : Int).toNat) : Nat) : Int) + (vN : Int))) + ((((sN : Int).toNat - j.toNat) : Nat) : Int))).toNat - (0 : Int).toNat) : Nat) : Int) ≤ ((((sC : Int).toNat - (0 : Int).toNat) : Nat) : Int) ∧ ((((sC : Int).toNat - (0 : Int).toNat) : Nat) : Int) ≤ (((sC : Int).toNat - (0 : Int).toNat) : Nat)) ∧
 ∃ vs_4 : List Value, srcH h vA (min vN (((((IntKind.wrap .i64 ((IntKind.wrap .i64 ((((i.toNat - (0 : Int).toNat) : Nat) : Int) + (vN : Int))) + ((((sN : Int).toNat - j.toNat) : Nat) : Int))).toNat - (0 : Int).toNat) : Nat) : Int).toNat - i.toNat) * 2) vs_4 ∧
 ((vs_4.length = 0 →
 (0 ≤ (IntKind.wrap .i64 (i + (vN : Int))) ∧ (IntKind.wrap .i64 (i + (vN : Int))) ≤ ((((IntKind.wrap .i64 ((IntKind.wrap .i64 ((((i.toNat - (0 : Int).toNat) : Nat) : Int) + (vN : Int))) + ((((sN : Int).toNat - j.toNat) : Nat) : Int))).toNat - (0 : Int).toNat) : Nat) : Int) ∧ ((((IntKind.wrap .i64 ((IntKind.wrap .i64 ((((i.toNat - (0 : Int).toNat) : Nat) : Int) + (vN : Int))) + ((((sN : Int).toNat - j.toNat) : Nat) : Int))).toNat - (0 : Int).toNat) : Nat) : Int) ≤ ((((sC : Int).toNat - (0 : Int).toNat) : Nat) : Int) ∧ ((((sC : Int).toNat - (0 : Int).toNat) : Nat) : Int) ≤ (((sC : Int).toNat - (0 : Int).toNat) : Nat)) ∧
 (0 ≤ j ∧ j ≤ (sN : Int) ∧ (sN : Int) ≤ (sC : Int) ∧ (sC : Int) ≤ (sC : Nat)) ∧
 ∃ vs_5 : List Value, srcH h (slA sA 2 j (sC : Int)) (min ((sN : Int).toNat - j.toNat) (((((IntKind.wrap .i64 ((IntKind.wrap .i64 ((((i.toNat - (0 : Int).toNat) : Nat) : Int) + (vN : Int))) + ((((sN : Int).toNat - j.toNat) : Nat) : Int))).toNat - (0 : Int).toNat) : Nat) : Int).toNat - (IntKind.wrap .i64 (i + (vN : Int))).toNat) * 2) vs_5 ∧
 ((vs_5.length = 0 →
 (0 ≤ (IntKind.wrap .i64 ((IntKind.wrap .i64 ((((i.toNat - (0 : Int).toNat) : Nat) : Int) + (vN : Int))) + ((((sN : Int).toNat - j.toNat) : Nat) : Int))) ∧ (IntKind.wrap .i64 ((IntKind.wrap .i64 ((((i.toNat - (0 : Int).toNat) : Nat) : Int) + (vN : Int))) + ((((sN : Int).toNat - j.toNat) : Nat) : Int))) ≤ (sN : Int) ∧ (sN : Int) ≤ (sC : Int) ∧ (sC : Int) ≤ (sC : Nat)) ∧
 ((((sN : Int).toNat - (IntKind.wrap .i64 ((IntKind.wrap .i64 ((((i.toNat - (0 : Int).toNat) : Nat) : Int) + (vN : Int))) + ((((sN : Int).toNat - j.toNat) : Nat) : Int))).toNat) * 2 = 0 →
 K (.slice (slA sA 2 (0 : Int) (sC : Int)) ((IntKind.wrap .i64 ((IntKind.wrap .i64 ((((i.toNat - (0 : Int).toNat) : Nat) : Int) + (vN : Int))) + ((((sN : Int).toNat - j.toNat) : Nat) : Int))).toNat - (0 : Int).toNat) ((sC : Int).toNat - (0 : Int).toNat)) h) ∧
 (((sN : Int).toNat - (IntKind.wrap .i64 ((IntKind.wrap .i64 ((((i.toNat - (0 : Int).toNat) : Nat) : Int) + (vN : Int))) + ((((sN : Int).toNat - j.toNat) : Nat) : Int))).toNat) * 2 ≠ 0 → ∃ bv_6 ov_6 : Nat, (slA sA 2 (IntKind.wrap .i64 ((IntKind.wrap .i64 ((((i.toNat - (0 : Int).toNat) : Nat) : Int) + (vN : Int))) + ((((sN : Int).toNat - j.toNat) : Nat) : Int))) (sC : Int)) = some ⟨bv_6, ov_6, none⟩ ∧ stH h bv_6 ov_6 (List.replicate ((sN : Int).toNat - (IntKind.wrap .i64 ((IntKind.wrap .i64 ((((i.toNat - (0 : Int).toNat) : Nat) : Int) + (vN : Int))) + ((((sN : Int).toNat - j.toNat) : Nat) : Int))).toNat) [.string (⟨#[]⟩ : ByteArray), .string (⟨#[]⟩ : ByteArray)]).flatten fun h10 =>
 K (.slice (slA sA 2 (0 : Int) (sC : Int)) ((IntKind.wrap .i64 ((IntKind.wrap .i64 ((((i.toNat - (0 : Int).toNat) : Nat) : Int) + (vN : Int))) + ((((sN : Int).toNat - j.toNat) : Nat) : Int))).toNat - (0 : Int).toNat) ((sC : Int).toNat - (0 : Int).toNat)) h10))) ∧
 (vs_5.length ≠ 0 → ∃ bv_5 ov_5 : Nat, (slA (slA sA 2 (0 : Int) (sC : Int)) 2 (IntKind.wrap .i64 (i + (vN : Int))) ((((sC : Int).toNat - (0 : Int).toNat) : Nat) : Int)) = some ⟨bv_5, ov_5, none⟩ ∧ stH h bv_5 ov_5 vs_5 fun h9 =>
 (0 ≤ (IntKind.wrap .i64 ((IntKind.wrap .i64 ((((i.toNat - (0 : Int).toNat) : Nat) : Int) + (vN : Int))) + ((((sN : Int).toNat - j.toNat) : Nat) : Int))) ∧ (IntKind.wrap .i64 ((IntKind.wrap .i64 ((((i.toNat - (0 : Int).toNat) : Nat) : Int) + (vN : Int))) + ((((sN : Int).toNat - j.toNat) : Nat) : Int))) ≤ (sN : Int) ∧ (sN : Int) ≤ (sC : Int) ∧ (sC : Int) ≤ (sC : Nat)) ∧
 ((((sN : Int).toNat - (IntKind.wrap .i64 ((IntKind.wrap .i64 ((((i.toNat - (0 : Int).toNat) : Nat) : Int) + (vN : Int))) + ((((sN : Int).toNat - j.toNat) : Nat) : Int))).toNat) * 2 = 0 →
 K (.slice (slA sA 2 (0 : Int) (sC : Int)) ((IntKind.wrap .i64 ((IntKind.wrap .i64 ((((i.toNat - (0 : Int).toNat) : Nat) : Int) + (vN : Int))) + ((((sN : Int).toNat - j.toNat) : Nat) : Int))).toNat - (0 : Int).toNat) ((sC : Int).toNat - (0 : Int).toNat)) h9) ∧
 (((sN : Int).toNat - (IntKind.wrap .i64 ((IntKind.wrap .i64 ((((i.toNat - (0 : Int).toNat) : Nat) : Int) + (vN : Int))) + ((((sN : Int).toNat - j.toNat) : Nat) : Int))).toNat) * 2 ≠ 0 → ∃ bv_7 ov_7 : Nat, (slA sA 2 (IntKind.wrap .i64 ((IntKind.wrap .i64 ((((i.toNat - (0 : Int).toNat) : Nat) : Int) + (vN : Int))) + ((((sN : Int).toNat - j.toNat) : Nat) : Int))) (sC : Int)) = some ⟨bv_7, ov_7, none⟩ ∧ stH h9 bv_7 ov_7 (List.replicate ((sN : Int).toNat - (IntKind.wrap .i64 ((IntKind.wrap .i64 ((((i.toNat - (0 : Int).toNat) : Nat) : Int) + (vN : Int))) + ((((sN : Int).toNat - j.toNat) : Nat) : Int))).toNat) [.string (⟨#[]⟩ : ByteArray), .string (⟨#[]⟩ : ByteArray)]).flatten fun h11 =>
 K (.slice (slA sA 2 (0 : Int) (sC : Int)) ((IntKind.wrap .i64 ((IntKind.wrap .i64 ((((i.toNat - (0 : Int).toNat) : Nat) : Int) + (vN : Int))) + ((((sN : Int).toNat - j.toNat) : Nat) : Int))).toNat - (0 : Int).toNat) ((sC : Int).toNat - (0 : Int).toNat)) h11))))) ∧
 (vs_4.length ≠ 0 → ∃ bv_4 ov_4 : Nat, (slA (slA sA 2 (0 : Int) (sC : Int)) 2 i ((((sC : Int).toNat - (0 : Int).toNat) : Nat) : Int)) = some ⟨bv_4, ov_4, none⟩ ∧ stH h bv_4 ov_4 vs_4 fun h8 =>
 (0 ≤ (IntKind.wrap .i64 (i + (vN : Int))) ∧ (IntKind.wrap .i64 (i + (vN : Int))) ≤ ((((IntKind.wrap .i64 ((IntKind.wrap .i64 ((((i.toNat - (0 : Int).toNat) : Nat) : Int) + (vN : Int))) + ((((sN : Int).toNat - j.toNat) : Nat) : Int))).toNat - (0 : Int).toNat) : Nat) : Int) ∧ ((((IntKind.wrap .i64 ((IntKind.wrap .i64 ((((i.toNat - (0 : Int).toNat) : Nat) : Int) + (vN : Int))) + ((((sN : Int).toNat - j.toNat) : Nat) : Int))).toNat - (0 : Int).toNat) : Nat) : Int) ≤ ((((sC : Int).toNat - (0 : Int).toNat) : Nat) : Int) ∧ ((((sC : Int).toNat - (0 : Int).toNat) : Nat) : Int) ≤ (((sC : Int).toNat - (0 : Int).toNat) : Nat)) ∧
 (0 ≤ j ∧ j ≤ (sN : Int) ∧ (sN : Int) ≤ (sC : Int) ∧ (sC : Int) ≤ (sC : Nat)) ∧
 ∃ vs_6 : List Value, srcH h8 (slA sA 2 j (sC : Int)) (min ((sN : Int).toNat - j.toNat) (((((IntKind.wrap .i64 ((IntKind.wrap .i64 ((((i.toNat - (0 : Int).toNat) : Nat) : Int) + (vN : Int))) + ((((sN : Int).toNat - j.toNat) : Nat) : Int))).toNat - (0 : Int).toNat) : Nat) : Int).toNat - (IntKind.wrap .i64 (i + (vN : Int))).toNat) * 2) vs_6 ∧
 ((vs_6.length = 0 →
 (0 ≤ (IntKind.wrap .i64 ((IntKind.wrap .i64 ((((i.toNat - (0 : Int).toNat) : Nat) : Int) + (vN : Int))) + ((((sN : Int).toNat - j.toNat) : Nat) : Int))) ∧ (IntKind.wrap .i64 ((IntKind.wrap .i64 ((((i.toNat - (0 : Int).toNat) : Nat) : Int) + (vN : Int))) + ((((sN : Int).toNat - j.toNat) : Nat) : Int))) ≤ (sN : Int) ∧ (sN : Int) ≤ (sC : Int) ∧ (sC : Int) ≤ (sC : Nat)) ∧
 ((((sN : Int).toNat - (IntKind.wrap .i64 ((IntKind.wrap .i64 ((((i.toNat - (0 : Int).toNat) : Nat) : Int) + (vN : Int))) + ((((sN : Int).toNat - j.toNat) : Nat) : Int))).toNat) * 2 = 0 →
 K (.slice (slA sA 2 (0 : Int) (sC : Int)) ((IntKind.wrap .i64 ((IntKind.wrap .i64 ((((i.toNat - (0 : Int).toNat) : Nat) : Int) + (vN : Int))) + ((((sN : Int).toNat - j.toNat) : Nat) : Int))).toNat - (0 : Int).toNat) ((sC : Int).toNat - (0 : Int).toNat)) h8) ∧
 (((sN : Int).toNat - (IntKind.wrap .i64 ((IntKind.wrap .i64 ((((i.toNat - (0 : Int).toNat) : Nat) : Int) + (vN : Int))) + ((((sN : Int).toNat - j.toNat) : Nat) : Int))).toNat) * 2 ≠ 0 → ∃ bv_9 ov_9 : Nat, (slA sA 2 (IntKind.wrap .i64 ((IntKind.wrap .i64 ((((i.toNat - (0 : Int).toNat) : Nat) : Int) + (vN : Int))) + ((((sN : Int).toNat - j.toNat) : Nat) : Int))) (sC : Int)) = some ⟨bv_9, ov_9, none⟩ ∧ stH h8 bv_9 ov_9 (List.replicate ((sN : Int).toNat - (IntKind.wrap .i64 ((IntKind.wrap .i64 ((((i.toNat - (0 : Int).toNat) : Nat) : Int) + (vN : Int))) + ((((sN : Int).toNat - j.toNat) : Nat) : Int))).toNat) [.string (⟨#[]⟩ : ByteArray), .string (⟨#[]⟩ : ByteArray)]).flatten fun h13 =>
 K (.slice (slA sA 2 (0 : Int) (sC : Int)) ((IntKind.wrap .i64 ((IntKind.wrap .i64 ((((i.toNat - (0 : Int).toNat) : Nat) : Int) + (vN : Int))) + ((((sN : Int).toNat - j.toNat) : Nat) : Int))).toNat - (0 : Int).toNat) ((sC : Int).toNat - (0 : Int).toNat)) h13))) ∧
 (vs_6.length ≠ 0 → ∃ bv_8 ov_8 : Nat, (slA (slA sA 2 (0 : Int) (sC : Int)) 2 (IntKind.wrap .i64 (i + (vN : Int))) ((((sC : Int).toNat - (0 : Int).toNat) : Nat) : Int)) = some ⟨bv_8, ov_8, none⟩ ∧ stH h8 bv_8 ov_8 vs_6 fun h12 =>
 (0 ≤ (IntKind.wrap .i64 ((IntKind.wrap .i64 ((((i.toNat - (0 : Int).toNat) : Nat) : Int) + (vN : Int))) + ((((sN : Int).toNat - j.toNat) : Nat) : Int))) ∧ (IntKind.wrap .i64 ((IntKind.wrap .i64 ((((i.toNat - (0 : Int).toNat) : Nat) : Int) + (vN : Int))) + ((((sN : Int).toNat - j.toNat) : Nat) : Int))) ≤ (sN : Int) ∧ (sN : Int) ≤ (sC : Int) ∧ (sC : Int) ≤ (sC : Nat)) ∧
 ((((sN : Int).toNat - (IntKind.wrap .i64 ((IntKind.wrap .i64 ((((i.toNat - (0 : Int).toNat) : Nat) : Int) + (vN : Int))) + ((((sN : Int).toNat - j.toNat) : Nat) : Int))).toNat) * 2 = 0 →
 K (.slice (slA sA 2 (0 : Int) (sC : Int)) ((IntKind.wrap .i64 ((IntKind.wrap .i64 ((((i.toNat - (0 : Int).toNat) : Nat) : Int) + (vN : Int))) + ((((sN : Int).toNat - j.toNat) : Nat) : Int))).toNat - (0 : Int).toNat) ((sC : Int).toNat - (0 : Int).toNat)) h12) ∧
 (((sN : Int).toNat - (IntKind.wrap .i64 ((IntKind.wrap .i64 ((((i.toNat - (0 : Int).toNat) : Nat) : Int) + (vN : Int))) + ((((sN : Int).toNat - j.toNat) : Nat) : Int))).toNat) * 2 ≠ 0 → ∃ bv_10 ov_10 : Nat, (slA sA 2 (IntKind.wrap .i64 ((IntKind.wrap .i64 ((((i.toNat - (0 : Int).toNat) : Nat) : Int) + (vN : Int))) + ((((sN : Int).toNat - j.toNat) : Nat) : Int))) (sC : Int)) = some ⟨bv_10, ov_10, none⟩ ∧ stH h12 bv_10 ov_10 (List.replicate ((sN : Int).toNat - (IntKind.wrap .i64 ((IntKind.wrap .i64 ((((i.toNat - (0 : Int).toNat) : Nat) : Int) + (vN : Int))) + ((((sN : Int).toNat - j.toNat) : Nat) : Int))).toNat) [.string (⟨#[]⟩ : ByteArray), .string (⟨#[]⟩ : ByteArray)]).flatten fun h14 =>
 K (.slice (slA sA 2 (0 : Int) (sC : Int)) ((IntKind.wrap .i64 ((IntKind.wrap .i64 ((((i.toNat - (0 : Int).toNat) : Nat) : Int) + (vN : Int))) + ((((sN : Int).toNat - j.toNat) : Nat) : Int))).toNat - (0 : Int).toNat) ((sC : Int).toNat - (0 : Int).toNat)) h14))))))) ∧
 ((decide ((IntKind.wrap .i64 (i + (vN : Int))) ≤ j)) = false →
 (0 ≤ (IntKind.wrap .i64 (i + (vN : Int))) ∧ (IntKind.wrap .i64 (i + (vN : Int))) ≤ ((((IntKind.wrap .i64 ((IntKind.wrap .i64 ((((i.toNat - (0 : Int).toNat) : Nat) : Int) + (vN : Int))) + ((((sN : Int).toNat - j.toNat) : Nat) : Int))).toNat - (0 : Int).toNat) : Nat) : Int) ∧ ((((IntKind.wrap .i64 ((IntKind.wrap .i64 ((((i.toNat - (0 : Int).toNat) : Nat) : Int) + (vN : Int))) + ((((sN : Int).toNat - j.toNat) : Nat) : Int))).toNat - (0 : Int).toNat) : Nat) : Int) ≤ ((((sC : Int).toNat - (0 : Int).toNat) : Nat) : Int) ∧ ((((sC : Int).toNat - (0 : Int).toNat) : Nat) : Int) ≤ (((sC : Int).toNat - (0 : Int).toNat) : Nat)) ∧
 ExtH Tryz.prog id_slices_overlaps_api_Pair [.slice (slA (slA sA 2 (0 : Int) (sC : Int)) 2 (IntKind.wrap .i64 (i + (vN : Int))) ((((sC : Int).toNat - (0 : Int).toNat) : Nat) : Int)) (((((IntKind.wrap .i64 ((IntKind.wrap .i64 ((((i.toNat - (0 : Int).toNat) : Nat) : Int) + (vN : Int))) + ((((sN : Int).toNat - j.toNat) : Nat) : Int))).toNat - (0 : Int).toNat) : Nat) : Int).toNat - (IntKind.wrap .i64 (i + (vN : Int))).toNat) (((((sC : Int).toNat - (0 : Int).toNat) : Nat) : Int).toNat - (IntKind.wrap .i64 (i + (vN : Int))).toNat), .slice vA vN vC] (fun v_1 h15 =>
 ∃ t : Bool, v_1 = .bool t ∧
 (((!t) = true →
 (0 ≤ (IntKind.wrap .i64 (i + (vN : Int))) ∧ (IntKind.wrap .i64 (i + (vN : Int))) ≤ ((((IntKind.wrap .i64 ((IntKind.wrap .i64 ((((i.toNat - (0 : Int).toNat) : Nat) : Int) + (vN : Int))) + ((((sN : Int).toNat - j.toNat) : Nat) : Int))).toNat - (0 : Int).toNat) : Nat) : Int) ∧ ((((IntKind.wrap .i64 ((IntKind.wrap .i64 ((((i.toNat - (0 : Int).toNat) : Nat) : Int) + (vN : Int))) + ((((sN : Int).toNat - j.toNat) : Nat) : Int))).toNat - (0 : Int).toNat) : Nat) : Int) ≤ ((((sC : Int).toNat - (0 : Int).toNat) : Nat) : Int) ∧ ((((sC : Int).toNat - (0 : Int).toNat) : Nat) : Int) ≤ (((sC : Int).toNat - (0 : Int).toNat) : Nat)) ∧
 (0 ≤ j ∧ j ≤ (sN : Int) ∧ (sN : Int) ≤ (sC : Int) ∧ (sC : Int) ≤ (sC : Nat)) ∧
 ∃ vs_7 : List Value, srcH h15 (slA sA 2 j (sC : Int)) (min ((sN : Int).toNat - j.toNat) (((((IntKind.wrap .i64 ((IntKind.wrap .i64 ((((i.toNat - (0 : Int).toNat) : Nat) : Int) + (vN : Int))) + ((((sN : Int).toNat - j.toNat) : Nat) : Int))).toNat - (0 : Int).toNat) : Nat) : Int).toNat - (IntKind.wrap .i64 (i + (vN : Int))).toNat) * 2) vs_7 ∧
 ((vs_7.length = 0 →
 (0 ≤ i ∧ i ≤ ((((IntKind.wrap .i64 ((IntKind.wrap .i64 ((((i.toNat - (0 : Int).toNat) : Nat) : Int) + (vN : Int))) + ((((sN : Int).toNat - j.toNat) : Nat) : Int))).toNat - (0 : Int).toNat) : Nat) : Int) ∧ ((((IntKind.wrap .i64 ((IntKind.wrap .i64 ((((i.toNat - (0 : Int).toNat) : Nat) : Int) + (vN : Int))) + ((((sN : Int).toNat - j.toNat) : Nat) : Int))).toNat - (0 : Int).toNat) : Nat) : Int) ≤ ((((sC : Int).toNat - (0 : Int).toNat) : Nat) : Int) ∧ ((((sC : Int).toNat - (0 : Int).toNat) : Nat) : Int) ≤ (((sC : Int).toNat - (0 : Int).toNat) : Nat)) ∧
 ∃ vs_8 : List Value, srcH h15 vA (min vN (((((IntKind.wrap .i64 ((IntKind.wrap .i64 ((((i.toNat - (0 : Int).toNat) : Nat) : Int) + (vN : Int))) + ((((sN : Int).toNat - j.toNat) : Nat) : Int))).toNat - (0 : Int).toNat) : Nat) : Int).toNat - i.toNat) * 2) vs_8 ∧
 ((vs_8.length = 0 →
 K (.slice (slA sA 2 (0 : Int) (sC : Int)) ((IntKind.wrap .i64 ((IntKind.wrap .i64 ((((i.toNat - (0 : Int).toNat) : Nat) : Int) + (vN : Int))) + ((((sN : Int).toNat - j.toNat) : Nat) : Int))).toNat - (0 : Int).toNat) ((sC : Int).toNat - (0 : Int).toNat)) h15) ∧
 (vs_8.length ≠ 0 → ∃ bv_12 ov_12 : Nat, (slA (slA sA 2 (0 : Int) (sC : Int)) 2 i ((((sC : Int).toNat - (0 : Int).toNat) : Nat) : Int)) = some ⟨bv_12, ov_12, none⟩ ∧ stH h15 bv_12 ov_12 vs_8 fun h17 =>
 K (.slice (slA sA 2 (0 : Int) (sC : Int)) ((IntKind.wrap .i64 ((IntKind.wrap .i64 ((((i.toNat - (0 : Int).toNat) : Nat) : Int) + (vN : Int))) + ((((sN : Int).toNat - j.toNat) : Nat) : Int))).toNat - (0 : Int).toNat) ((sC : Int).toNat - (0 : Int).toNat)) h17))) ∧
 (vs_7.length ≠ 0 → ∃ bv_11 ov_11 : Nat, (slA (slA sA 2 (0 : Int) (sC : Int)) 2 (IntKind.wrap .i64 (i + (vN : Int))) ((((sC : Int).toNat - (0 : Int).toNat) : Nat) : Int)) = some ⟨bv_11, ov_11, none⟩ ∧ stH h15 bv_11 ov_11 vs_7 fun h16 =>
 (0 ≤ i ∧ i ≤ ((((IntKind.wrap .i64 ((IntKind.wrap .i64 ((((i.toNat - (0 : Int).toNat) : Nat) : Int) + (vN : Int))) + ((((sN : Int).toNat - j.toNat) : Nat) : Int))).toNat - (0 : Int).toNat) : Nat) : Int) ∧ ((((IntKind.wrap .i64 ((IntKind.wrap .i64 ((((i.toNat - (0 : Int).toNat) : Nat) : Int) + (vN : Int))) + ((((sN : Int).toNat - j.toNat) : Nat) : Int))).toNat - (0 : Int).toNat) : Nat) : Int) ≤ ((((sC : Int).toNat - (0 : Int).toNat) : Nat) : Int) ∧ ((((sC : Int).toNat - (0 : Int).toNat) : Nat) : Int) ≤ (((sC : Int).toNat - (0 : Int).toNat) : Nat)) ∧
 ∃ vs_9 : List Value, srcH h16 vA (min vN (((((IntKind.wrap .i64 ((IntKind.wrap .i64 ((((i.toNat - (0 : Int).toNat) : Nat) : Int) + (vN : Int))) + ((((sN : Int).toNat - j.toNat) : Nat) : Int))).toNat - (0 : Int).toNat) : Nat) : Int).toNat - i.toNat) * 2) vs_9 ∧
 ((vs_9.length = 0 →
 K (.slice (slA sA 2 (0 : Int) (sC : Int)) ((IntKind.wrap .i64 ((IntKind.wrap .i64 ((((i.toNat - (0 : Int).toNat) : Nat) : Int) + (vN : Int))) + ((((sN : Int).toNat - j.toNat) : Nat) : Int))).toNat - (0 : Int).toNat) ((sC : Int).toNat - (0 : Int).toNat)) h16) ∧
 (vs_9.length ≠ 0 → ∃ bv_13 ov_13 : Nat, (slA (slA sA 2 (0 : Int) (sC : Int)) 2 i ((((sC : Int).toNat - (0 : Int).toNat) : Nat) : Int)) = some ⟨bv_13, ov_13, none⟩ ∧ stH h16 bv_13 ov_13 vs_9 fun h18 =>
 K (.slice (slA sA 2 (0 : Int) (sC : Int)) ((IntKind.wrap .i64 ((IntKind.wrap .i64 ((((i.toNat - (0 : Int).toNat) : Nat) : Int) + (vN : Int))) + ((((sN : Int).toNat - j.toNat) : Nat) : Int))).toNat - (0 : Int).toNat) ((sC : Int).toNat - (0 : Int).toNat)) h18))))) ∧
 ((!t) = false →
 (0 ≤ i ∧ i ≤ j ∧ j ≤ ((((sC : Int).toNat - (0 : Int).toNat) : Nat) : Int) ∧ ((((sC : Int).toNat - (0 : Int).toNat) : Nat) : Int) ≤ (((sC : Int).toNat - (0 : Int).toNat) : Nat)) ∧
 ExtH Tryz.prog id_slices_overlaps_api_Pair [.slice (slA (slA sA 2 (0 : Int) (sC : Int)) 2 i ((((sC : Int).toNat - (0 : Int).toNat) : Nat) : Int)) (j.toNat - i.toNat) (((((sC : Int).toNat - (0 : Int).toNat) : Nat) : Int).toNat - i.toNat), .slice vA vN vC] (fun v_2 h19 =>
 ∃ t_1 : Bool, v_2 = .bool t_1 ∧
 (((!t_1) = true →
 (0 ≤ i ∧ i ≤ j ∧ j ≤ ((((sC : Int).toNat - (0 : Int).toNat) : Nat) : Int) ∧ ((((sC : Int).toNat - (0 : Int).toNat) : Nat) : Int) ≤ (((sC : Int).toNat - (0 : Int).toNat) : Nat)) ∧
 (0 ≤ (IntKind.wrap .i64 ((vN : Int) - (IntKind.wrap .i64 (j - i)))) ∧ (IntKind.wrap .i64 ((vN : Int) - (IntKind.wrap .i64 (j - i)))) ≤ (vN : Int) ∧ (vN : Int) ≤ (vC : Int) ∧ (vC : Int) ≤ (vC : Nat)) ∧
 ∃ vs_10 : List Value, srcH h19 (slA vA 2 (IntKind.wrap .i64 ((vN : Int) - (IntKind.wrap .i64 (j - i)))) (vC : Int)) (min ((vN : Int).toNat - (IntKind.wrap .i64 ((vN : Int) - (IntKind.wrap .i64 (j - i)))).toNat) (j.toNat - i.toNat) * 2) vs_10 ∧
 ((vs_10.length = 0 →
 (0 ≤ (sN : Int) ∧ (sN : Int) ≤ ((((IntKind.wrap .i64 ((IntKind.wrap .i64 ((((i.toNat - (0 : Int).toNat) : Nat) : Int) + (vN : Int))) + ((((sN : Int).toNat - j.toNat) : Nat) : Int))).toNat - (0 : Int).toNat) : Nat) : Int) ∧ ((((IntKind.wrap .i64 ((IntKind.wrap .i64 ((((i.toNat - (0 : Int).toNat) : Nat) : Int) + (vN : Int))) + ((((sN : Int).toNat - j.toNat) : Nat) : Int))).toNat - (0 : Int).toNat) : Nat) : Int) ≤ ((((sC : Int).toNat - (0 : Int).toNat) : Nat) : Int) ∧ ((((sC : Int).toNat - (0 : Int).toNat) : Nat) : Int) ≤ (((sC : Int).toNat - (0 : Int).toNat) : Nat)) ∧
 (0 ≤ (0 : Int) ∧ (0 : Int) ≤ (IntKind.wrap .i64 ((vN : Int) - (IntKind.wrap .i64 (j - i)))) ∧ (IntKind.wrap .i64 ((vN : Int) - (IntKind.wrap .i64 (j - i)))) ≤ (vC : Int) ∧ (vC : Int) ≤ (vC : Nat)) ∧
 ∃ vs_11 : List Value, srcH h19 (slA vA 2 (0 : Int) (vC : Int)) (min ((IntKind.wrap .i64 ((vN : Int) - (IntKind.wrap .i64 (j - i)))).toNat - (0 : Int).toNat) (((((IntKind.wrap .i64 ((IntKind.wrap .i64 ((((i.toNat - (0 : Int).toNat) : Nat) : Int) + (vN : Int))) + ((((sN : Int).toNat - j.toNat) : Nat) : Int))).toNat - (0 : Int).toNat) : Nat) : Int).toNat - (sN : Int).toNat) * 2) vs_11 ∧
 ((vs_11.length = 0 →
 (0 ≤ i ∧ i ≤ ((((IntKind.wrap .i64 ((IntKind.wrap .i64 ((((i.toNat - (0 : Int).toNat) : Nat) : Int) + (vN : Int))) + ((((sN : Int).toNat - j.toNat) : Nat) : Int))).toNat - (0 : Int).toNat) : Nat) : Int) ∧ ((((IntKind.wrap .i64 ((IntKind.wrap .i64 ((((i.toNat - (0 : Int).toNat) : Nat) : Int) + (vN : Int))) + ((((sN : Int).toNat - j.toNat) : Nat) : Int))).toNat - (0 : Int).toNat) : Nat) : Int) ≤ ((((sC : Int).toNat - (0 : Int).toNat) : Nat) : Int) ∧ ((((sC : Int).toNat - (0 : Int).toNat) : Nat) : Int) ≤ (((sC : Int).toNat - (0 : Int).toNat) : Nat)) ∧
 CallH Tryz.prog id_slices_rotateRight_api_Pair [.slice (slA (slA sA 2 (0 : Int) (sC : Int)) 2 i ((((sC : Int).toNat - (0 : Int).toNat) : Nat) : Int)) (((((IntKind.wrap .i64 ((IntKind.wrap .i64 ((((i.toNat - (0 : Int).toNat) : Nat) : Int) + (vN : Int))) + ((((sN : Int).toNat - j.toNat) : Nat) : Int))).toNat - (0 : Int).toNat) : Nat) : Int).toNat - i.toNat) (((((sC : Int).toNat - (0 : Int).toNat) : Nat) : Int).toNat - i.toNat), .int .i64 (IntKind.wrap .i64 ((vN : Int) - (IntKind.wrap .i64 (j - i))))] (fun _ h22 =>
 K (.slice (slA sA 2 (0 : Int) (sC : Int)) ((IntKind.wrap .i64 ((IntKind.wrap .i64 ((((i.toNat - (0 : Int).toNat) : Nat) : Int) + (vN : Int))) + ((((sN : Int).toNat - j.toNat) : Nat) : Int))).toNat - (0 : Int).toNat) ((sC : Int).toNat - (0 : Int).toNat)) h22) h19) ∧
 (vs_11.length ≠ 0 → ∃ bv_15 ov_15 : Nat, (slA (slA sA 2 (0 : Int) (sC : Int)) 2 (sN : Int) ((((sC : Int).toNat - (0 : Int).toNat) : Nat) : Int)) = some ⟨bv_15, ov_15, none⟩ ∧ stH h19 bv_15 ov_15 vs_11 fun h21 =>
 (0 ≤ i ∧ i ≤ ((((IntKind.wrap .i64 ((IntKind.wrap .i64 ((((i.toNat - (0 : Int).toNat) : Nat) : Int) + (vN : Int))) + ((((sN : Int).toNat - j.toNat) : Nat) : Int))).toNat - (0 : Int).toNat) : Nat) : Int) ∧ ((((IntKind.wrap .i64 ((IntKind.wrap .i64 ((((i.toNat - (0 : Int).toNat) : Nat) : Int) + (vN : Int))) + ((((sN : Int).toNat - j.toNat) : Nat) : Int))).toNat - (0 : Int).toNat) : Nat) : Int) ≤ ((((sC : Int).toNat - (0 : Int).toNat) : Nat) : Int) ∧ ((((sC : Int).toNat - (0 : Int).toNat) : Nat) : Int) ≤ (((sC : Int).toNat - (0 : Int).toNat) : Nat)) ∧
 CallH Tryz.prog id_slices_rotateRight_api_Pair [.slice (slA (slA sA 2 (0 : Int) (sC : Int)) 2 i ((((sC : Int).toNat - (0 : Int).toNat) : Nat) : Int)) (((((IntKind.wrap .i64 ((IntKind.wrap .i64 ((((i.toNat - (0 : Int).toNat) : Nat) : Int) + (vN : Int))) + ((((sN : Int).toNat - j.toNat) : Nat) : Int))).toNat - (0 : Int).toNat) : Nat) : Int).toNat - i.toNat) (((((sC : Int).toNat - (0 : Int).toNat) : Nat) : Int).toNat - i.toNat), .int .i64 (IntKind.wrap .i64 ((vN : Int) - (IntKind.wrap .i64 (j - i))))] (fun _ h23 =>
 K (.slice (slA sA 2 (0 : Int) (sC : Int)) ((IntKind.wrap .i64 ((IntKind.wrap .i64 ((((i.toNat - (0 : Int).toNat) : Nat) : Int) + (vN : Int))) + ((((sN : Int).toNat - j.toNat) : Nat) : Int))).toNat - (0 : Int).toNat) ((sC : Int).toNat - (0 : Int).toNat)) h23) h21))) ∧
 (vs_10.length ≠ 0 → ∃ bv_14 ov_14 : Nat, (slA (slA sA 2 (0 : Int) (sC : Int)) 2 i ((((sC : Int).toNat - (0 : Int).toNat) : Nat) : Int)) = some ⟨bv_14, ov_14, none⟩ ∧ stH h19 bv_14 ov_14 vs_10 fun h20 =>
 (0 ≤ (sN : Int) ∧ (sN : Int) ≤ ((((IntKind.wrap .i64 ((IntKind.wrap .i64 ((((i.toNat - (0 : Int).toNat) : Nat) : Int) + (vN : Int))) + ((((sN : Int).toNat - j.toNat) : Nat) : Int))).toNat - (0 : Int).toNat) : Nat) : Int) ∧ ((((IntKind.wrap .i64 ((IntKind.wrap .i64 ((((i.toNat - (0 : Int).toNat) : Nat) : Int) + (vN : Int))) + ((((sN : Int).toNat - j.toNat) : Nat) : Int))).toNat - (0 : Int).toNat) : Nat) : Int) ≤ ((((sC : Int).toNat - (0 : Int).toNat) : Nat) : Int) ∧ ((((sC : Int).toNat - (0 : Int).toNat) : Nat) : Int) ≤ (((sC : Int).toNat - (0 : Int).toNat) : Nat)) ∧
 (0 ≤ (0 : Int) ∧ (0 : Int) ≤ (IntKind.wrap .i64 ((vN : Int) - (IntKind.wrap .i64 (j - i)))) ∧ (IntKind.wrap .i64 ((vN : Int) - (IntKind.wrap .i64 (j - i)))) ≤ (vC : Int) ∧ (vC : Int) ≤ (vC : Nat)) ∧
 ∃ vs_12 : List Value, srcH h20 (slA vA 2 (0 : Int) (vC : Int)) (min ((IntKind.wrap .i64 ((vN : Int) - (IntKind.wrap .i64 (j - i)))).toNat - (0 : Int).toNat) (((((IntKind.wrap .i64 ((IntKind.wrap .i64 ((((i.toNat - (0 : Int).toNat) : Nat) : Int) + (vN : Int))) + ((((sN : Int).toNat - j.toNat) : Nat) : Int))).toNat - (0 : Int).toNat) : Nat) : Int).toNat - (sN : Int).toNat) * 2) vs_12 ∧
 ((vs_12.length = 0 →
 (0 ≤ i ∧ i ≤ ((((IntKind.wrap .i64 ((IntKind.wrap .i64 ((((i.toNat - (0 : Int).toNat) : Nat) : Int) + (vN : Int))) + ((((sN : Int).toNat - j.toNat) : Nat) : Int))).toNat - (0 : Int).toNat) : Nat) : Int) ∧ ((((IntKind.wrap .i64 ((IntKind.wrap .i64 ((((i.toNat - (0 : Int).toNat) : Nat) : Int) + (vN : Int))) + ((((sN : Int).toNat - j.toNat) : Nat) : Int))).toNat - (0 : Int).toNat) : Nat) : Int) ≤ ((((sC : Int).toNat - (0 : Int).toNat) : Nat) : Int) ∧ ((((sC : Int).toNat - (0 : Int).toNat) : Nat) : Int) ≤ (((sC : Int).toNat - (0 : Int).toNat) : Nat)) ∧
 CallH Tryz.prog id_slices_rotateRight_api_Pair [.slice (slA (slA sA 2 (0 : Int) (sC : Int)) 2 i ((((sC : Int).toNat - (0 : Int).toNat) : Nat) : Int)) (((((IntKind.wrap .i64 ((IntKind.wrap .i64 ((((i.toNat - (0 : Int).toNat) : Nat) : Int) + (vN : Int))) + ((((sN : Int).toNat - j.toNat) : Nat) : Int))).toNat - (0 : Int).toNat) : Nat) : Int).toNat - i.toNat) (((((sC : Int).toNat - (0 : Int).toNat) : Nat) : Int).toNat - i.toNat), .int .i64 (IntKind.wrap .i64 ((vN : Int) - (IntKind.wrap .i64 (j - i))))] (fun _ h25 =>
 K (.slice (slA sA 2 (0 : Int) (sC : Int)) ((IntKind.wrap .i64 ((IntKind.wrap .i64 ((((i.toNat - (0 : Int).toNat) : Nat) : Int) + (vN : Int))) + ((((sN : Int).toNat - j.toNat) : Nat) : Int))).toNat - (0 : Int).toNat) ((sC : Int).toNat - (0 : Int).toNat)) h25) h20) ∧
 (vs_12.length ≠ 0 → ∃ bv_16 ov_16 : Nat, (slA (slA sA 2 (0 : Int) (sC : Int)) 2 (sN : Int) ((((sC : Int).toNat - (0 : Int).toNat) : Nat) : Int)) = some ⟨bv_16, ov_16, none⟩ ∧ stH h20 bv_16 ov_16 vs_12 fun h24 =>
 (0 ≤ i ∧ i ≤ ((((IntKind.wrap .i64 ((IntKind.wrap .i64 ((((i.toNat - (0 : Int).toNat) : Nat) : Int) + (vN : Int))) + ((((sN : Int).toNat - j.toNat) : Nat) : Int))).toNat - (0 : Int).toNat) : Nat) : Int) ∧ ((((IntKind.wrap .i64 ((IntKind.wrap .i64 ((((i.toNat - (0 : Int).toNat) : Nat) : Int) + (vN : Int))) + ((((sN : Int).toNat - j.toNat) : Nat) : Int))).toNat - (0 : Int).toNat) : Nat) : Int) ≤ ((((sC : Int).toNat - (0 : Int).toNat) : Nat) : Int) ∧ ((((sC : Int).toNat - (0 : Int).toNat) : Nat) : Int) ≤ (((sC : Int).toNat - (0 : Int).toNat) : Nat)) ∧
 CallH Tryz.prog id_slices_rotateRight_api_Pair [.slice (slA (slA sA 2 (0 : Int) (sC : Int)) 2 i ((((sC : Int).toNat - (0 : Int).toNat) : Nat) : Int)) (((((IntKind.wrap .i64 ((IntKind.wrap .i64 ((((i.toNat - (0 : Int).toNat) : Nat) : Int) + (vN : Int))) + ((((sN : Int).toNat - j.toNat) : Nat) : Int))).toNat - (0 : Int).toNat) : Nat) : Int).toNat - i.toNat) (((((sC : Int).toNat - (0 : Int).toNat) : Nat) : Int).toNat - i.toNat), .int .i64 (IntKind.wrap .i64 ((vN : Int) - (IntKind.wrap .i64 (j - i))))] (fun _ h26 =>
 K (.slice (slA sA 2 (0 : Int) (sC : Int)) ((IntKind.wrap .i64 ((IntKind.wrap .i64 ((((i.toNat - (0 : Int).toNat) : Nat) : Int) + (vN : Int))) + ((((sN : Int).toNat - j.toNat) : Nat) : Int))).toNat - (0 : Int).toNat) ((sC : Int).toNat - (0 : Int).toNat)) h26) h24))))) ∧
 ((!t_1) = false →
 (0 ≤ (sN : Int) ∧ (sN : Int) ≤ ((((IntKind.wrap .i64 ((IntKind.wrap .i64 ((((i.toNat - (0 : Int).toNat) : Nat) : Int) + (vN : Int))) + ((((sN : Int).toNat - j.toNat) : Nat) : Int))).toNat - (0 : Int).toNat) : Nat) : Int) ∧ ((((IntKind.wrap .i64 ((IntKind.wrap .i64 ((((i.toNat - (0 : Int).toNat) : Nat) : Int) + (vN : Int))) + ((((sN : Int).toNat - j.toNat) : Nat) : Int))).toNat - (0 : Int).toNat) : Nat) : Int) ≤ ((((sC : Int).toNat - (0 : Int).toNat) : Nat) : Int) ∧ ((((sC : Int).toNat - (0 : Int).toNat) : Nat) : Int) ≤ (((sC : Int).toNat - (0 : Int).toNat) : Nat)) ∧
 ExtH Tryz.prog id_slices_overlaps_api_Pair [.slice (slA (slA sA 2 (0 : Int) (sC : Int)) 2 (sN : Int) ((((sC : Int).toNat - (0 : Int).toNat) : Nat) : Int)) (((((IntKind.wrap .i64 ((IntKind.wrap .i64 ((((i.toNat - (0 : Int).toNat) : Nat) : Int) + (vN : Int))) + ((((sN : Int).toNat - j.toNat) : Nat) : Int))).toNat - (0 : Int).toNat) : Nat) : Int).toNat - (sN : Int).toNat) (((((sC : Int).toNat - (0 : Int).toNat) : Nat) : Int).toNat - (sN : Int).toNat), .slice vA vN vC] (fun v_7 h27 =>
 ∃ t_2 : Bool, v_7 = .bool t_2 ∧
 (((!t_2) = true →
 (0 ≤ (sN : Int) ∧ (sN : Int) ≤ ((((IntKind.wrap .i64 ((IntKind.wrap .i64 ((((i.toNat - (0 : Int).toNat) : Nat) : Int) + (vN : Int))) + ((((sN : Int).toNat - j.toNat) : Nat) : Int))).toNat - (0 : Int).toNat) : Nat) : Int) ∧ ((((IntKind.wrap .i64 ((IntKind.wrap .i64 ((((i.toNat - (0 : Int).toNat) : Nat) : Int) + (vN : Int))) + ((((sN : Int).toNat - j.toNat) : Nat) : Int))).toNat - (0 : Int).toNat) : Nat) : Int) ≤ ((((sC : Int).toNat - (0 : Int).toNat) : Nat) : Int) ∧ ((((sC : Int).toNat - (0 : Int).toNat) : Nat) : Int) ≤ (((sC : Int).toNat - (0 : Int).toNat) : Nat)) ∧
 (0 ≤ (0 : Int) ∧ (0 : Int) ≤ (IntKind.wrap .i64 ((vN : Int) - (IntKind.wrap .i64 (j - i)))) ∧ (IntKind.wrap .i64 ((vN : Int) - (IntKind.wrap .i64 (j - i)))) ≤ (vC : Int) ∧ (vC : Int) ≤ (vC : Nat)) ∧
 ∃ vs_13 : List Value, srcH h27 (slA vA 2 (0 : Int) (vC : Int)) (min ((IntKind.wrap .i64 ((vN : Int) - (IntKind.wrap .i64 (j - i)))).toNat - (0 : Int).toNat) (((((IntKind.wrap .i64 ((IntKind.wrap .i64 ((((i.toNat - (0 : Int).toNat) : Nat) : Int) + (vN : Int))) + ((((sN : Int).toNat - j.toNat) : Nat) : Int))).toNat - (0 : Int).toNat) : Nat) : Int).toNat - (sN : Int).toNat) * 2) vs_13 ∧
 ((vs_13.length = 0 →
 (0 ≤ i ∧ i ≤ j ∧ j ≤ ((((sC : Int).toNat - (0 : Int).toNat) : Nat) : Int) ∧ ((((sC : Int).toNat - (0 : Int).toNat) : Nat) : Int) ≤ (((sC : Int).toNat - (0 : Int).toNat) : Nat)) ∧
 (0 ≤ (IntKind.wrap .i64 ((vN : Int) - (IntKind.wrap .i64 (j - i)))) ∧ (IntKind.wrap .i64 ((vN : Int) - (IntKind.wrap .i64 (j - i)))) ≤ (vN : Int) ∧ (vN : Int) ≤ (vC : Int) ∧ (vC : Int) ≤ (vC : Nat)) ∧
 ∃ vs_14 : List Value, srcH h27 (slA vA 2 (IntKind.wrap .i64 ((vN : Int) - (IntKind.wrap .i64 (j - i)))) (vC : Int)) (min ((vN : Int).toNat - (IntKind.wrap .i64 ((vN : Int) - (IntKind.wrap .i64 (j - i)))).toNat) (j.toNat - i.toNat) * 2) vs_14 ∧
 ((vs_14.length = 0 →
 (0 ≤ i ∧ i ≤ ((((IntKind.wrap .i64 ((IntKind.wrap .i64 ((((i.toNat - (0 : Int).toNat) : Nat) : Int) + (vN : Int))) + ((((sN : Int).toNat - j.toNat) : Nat) : Int))).toNat - (0 : Int).toNat) : Nat) : Int) ∧ ((((IntKind.wrap .i64 ((IntKind.wrap .i64 ((((i.toNat - (0 : Int).toNat) : Nat) : Int) + (vN : Int))) + ((((sN : Int).toNat - j.toNat) : Nat) : Int))).toNat - (0 : Int).toNat) : Nat) : Int) ≤ ((((sC : Int).toNat - (0 : Int).toNat) : Nat) : Int) ∧ ((((sC : Int).toNat - (0 : Int).toNat) : Nat) : Int) ≤ (((sC : Int).toNat - (0 : Int).toNat) : Nat)) ∧
 CallH Tryz.prog id_slices_rotateRight_api_Pair [.slice (slA (slA sA 2 (0 : Int) (sC : Int)) 2 i ((((sC : Int).toNat - (0 : Int).toNat) : Nat) : Int)) (((((IntKind.wrap .i64 ((IntKind.wrap .i64 ((((i.toNat - (0 : Int).toNat) : Nat) : Int) + (vN : Int))) + ((((sN : Int).toNat - j.toNat) : Nat) : Int))).toNat - (0 : Int).toNat) : Nat) : Int).toNat - i.toNat) (((((sC : Int).toNat - (0 : Int).toNat) : Nat) : Int).toNat - i.toNat), .int .i64 (IntKind.wrap .i64 ((vN : Int) - (IntKind.wrap .i64 (j - i))))] (fun _ h30 =>
 K (.slice (slA sA 2 (0 : Int) (sC : Int)) ((IntKind.wrap .i64 ((IntKind.wrap .i64 ((((i.toNat - (0 : Int).toNat) : Nat) : Int) + (vN : Int))) + ((((sN : Int).toNat - j.toNat) : Nat) : Int))).toNat - (0 : Int).toNat) ((sC : Int).toNat - (0 : Int).toNat)) h30) h27) ∧
 (vs_14.length ≠ 0 → ∃ bv_18 ov_18 : Nat, (slA (slA sA 2 (0 : Int) (sC : Int)) 2 i ((((sC : Int).toNat - (0 : Int).toNat) : Nat) : Int)) = some ⟨bv_18, ov_18, none⟩ ∧ stH h27 bv_18 ov_18 vs_14 fun h29 =>
 (0 ≤ i ∧ i ≤ ((((IntKind.wrap .i64 ((IntKind.wrap .i64 ((((i.toNat - (0 : Int).toNat) : Nat) : Int) + (vN : Int))) + ((((sN : Int).toNat - j.toNat) : Nat) : Int))).toNat - (0 : Int).toNat) : Nat) : Int) ∧ ((((IntKind.wrap .i64 ((IntKind.wrap .i64 ((((i.toNat - (0 : Int).toNat) : Nat) : Int) + (vN : Int))) + ((((sN : Int).toNat - j.toNat) : Nat) : Int))).toNat - (0 : Int).toNat) : Nat) : Int) ≤ ((((sC : Int).toNat - (0 : Int).toNat) : Nat) : Int) ∧ ((((sC : Int).toNat - (0 : Int).toNat) : Nat) : Int) ≤ (((sC : Int).toNat - (0 : Int).toNat) : Nat)) ∧
 CallH Tryz.prog id_slices_rotateRight_api_Pair [.slice (slA (slA sA 2 (0 : Int) (sC : Int)) 2 i ((((sC : Int).toNat - (0 : Int).toNat) : Nat) : Int)) (((((IntKind.wrap .i64 ((IntKind.wrap .i64 ((((i.toNat - (0 : Int).toNat) : Nat) : Int) + (vN : Int))) + ((((sN : Int).toNat - j.toNat) : Nat) : Int))).toNat - (0 : Int).toNat) : Nat) : Int).toNat - i.toNat) (((((sC : Int).toNat - (0 : Int).toNat) : Nat) : Int).toNat - i.toNat), .int .i64 (IntKind.wrap .i64 ((vN : Int) - (IntKind.wrap .i64 (j - i))))] (fun _ h31 =>
 K (.slice (slA sA 2 (0 : Int) (sC : Int)) ((IntKind.wrap .i64 ((IntKind.wrap .i64 ((((i.toNat - (0 : Int).toNat) : Nat) : Int) + (vN : Int))) + ((((sN : Int).toNat - j.toNat) : Nat) : Int))).toNat - (0 : Int).toNat) ((sC : Int).toNat - (0 : Int).toNat)) h31) h29))) ∧
 (vs_13.length ≠ 0 → ∃ bv_17 ov_17 : Nat, (slA (slA sA 2 (0 : Int) (sC : Int)) 2 (sN : Int) ((((sC : Int).toNat - (0 : Int).toNat) : Nat) : Int)) = some ⟨bv_17, ov_17, none⟩ ∧ stH h27 bv_17 ov_17 vs_13 fun h28 =>
 (0 ≤ i ∧ i ≤ j ∧ j ≤ ((((sC : Int).toNat - (0 : Int).toNat) : Nat) : Int) ∧ ((((sC : Int).toNat - (0 : Int).toNat) : Nat) : Int) ≤ (((sC : Int).toNat - (0 : Int).toNat) : Nat)) ∧
 (0 ≤ (IntKind.wrap .i64 ((vN : Int) - (IntKind.wrap .i64 (j - i)))) ∧ (IntKind.wrap .i64 ((vN : Int) - (IntKind.wrap .i64 (j - i)))) ≤ (vN : Int) ∧ (vN : Int) ≤ (vC : Int) ∧ (vC : Int) ≤ (vC : Nat)) ∧
 ∃ vs_15 : List Value, srcH h28 (slA vA 2 (IntKind.wrap .i64 ((vN : Int) - (IntKind.wrap .i64 (j - i)))) (vC : Int)) (min ((vN : Int).toNat - (IntKind.wrap .i64 ((vN : Int) - (IntKind.wrap .i64 (j - i)))).toNat) (j.toNat - i.toNat) * 2) vs_15 ∧
 ((vs_15.length = 0 →
 (0 ≤ i ∧ i ≤ ((((IntKind.wrap .i64 ((IntKind.wrap .i64 ((((i.toNat - (0 : Int).toNat) : Nat) : Int) + (vN : Int))) + ((((sN : Int).toNat - j.toNat) : Nat) : Int))).toNat - (0 : Int).toNat) : Nat) : Int) ∧ ((((IntKind.wrap .i64 ((IntKind.wrap .i64 ((((i.toNat - (0 : Int).toNat) : Nat) : Int) + (vN : Int))) + ((((sN : Int).toNat - j.toNat) : Nat) : Int))).toNat - (0 : Int).toNat) : Nat) : Int) ≤ ((((sC : Int).toNat - (0 : Int).toNat) : Nat) : Int) ∧ ((((sC : Int).toNat - (0 : Int).toNat) : Nat) : Int) ≤ (((sC : Int).toNat - (0 : Int).toNat) : Nat)) ∧
 CallH Tryz.prog id_slices_rotateRight_api_Pair [.slice (slA (slA sA 2 (0 : Int) (sC : Int)) 2 i ((((sC : Int).toNat - (0 : Int).toNat) : Nat) : Int)) (((((IntKind.wrap .i64 ((IntKind.wrap .i64 ((((i.toNat - (0 : Int).toNat) : Nat) : Int) + (vN : Int))) + ((((sN : Int).toNat - j.toNat) : Nat) : Int))).toNat - (0 : Int).toNat) : Nat) : Int).toNat - i.toNat) (((((sC : Int).toNat - (0 : Int).toNat) : Nat) : Int).toNat - i.toNat), .int .i64 (IntKind.wrap .i64 ((vN : Int) - (IntKind.wrap .i64 (j - i))))] (fun _ h33 =>
 K (.slice (slA sA 2 (0 : Int) (sC : Int)) ((IntKind.wrap .i64 ((IntKind.wrap .i64 ((((i.toNat - (0 : Int).toNat) : Nat) : Int) + (vN : Int))) + ((((sN : Int).toNat - j.toNat) : Nat) : Int))).toNat - (0 : Int).toNat) ((sC : Int).toNat - (0 : Int).toNat)) h33) h28) ∧
 (vs_15.length ≠ 0 → ∃ bv_19 ov_19 : Nat, (slA (slA sA 2 (0 : Int) (sC : Int)) 2 i ((((sC : Int).toNat - (0 : Int).toNat) : Nat) : Int)) = some ⟨bv_19, ov_19, none⟩ ∧ stH h28 bv_19 ov_19 vs_15 fun h32 =>
 (0 ≤ i ∧ i ≤ ((((IntKind.wrap .i64 ((IntKind.wrap .i64 ((((i.toNat - (0 : Int).toNat) : Nat) : Int) + (vN : Int))) + ((((sN : Int).toNat - j.toNat) : Nat) : Int))).toNat - (0 : Int).toNat) : Nat) : Int) ∧ ((((IntKind.wrap .i64 ((IntKind.wrap .i64 ((((i.toNat - (0 : Int).toNat) : Nat) : Int) + (vN : Int))) + ((((sN : Int).toNat - j.toNat) : Nat) : Int))).toNat - (0 : Int).toNat) : Nat) : Int) ≤ ((((sC : Int).toNat - (0 : Int).toNat) : Nat) : Int) ∧ ((((sC : Int).toNat - (0 : Int).toNat) : Nat) : Int) ≤ (((sC : Int).toNat - (0 : Int).toNat) : Nat)) ∧
 CallH Tryz.prog id_slices_rotateRight_api_Pair [.slice (slA (slA sA 2 (0 : Int) (sC : Int)) 2 i ((((sC : Int).toNat - (0 : Int).toNat) : Nat) : Int)) (((((IntKind.wrap .i64 ((IntKind.wrap .i64 ((((i.toNat - (0 : Int).toNat) : Nat) : Int) + (vN : Int))) + ((((sN : Int).toNat - j.toNat) : Nat) : Int))).toNat - (0 : Int).toNat) : Nat) : Int).toNat - i.toNat) (((((sC : Int).toNat - (0 : Int).toNat) : Nat) : Int).toNat - i.toNat), .int .i64 (IntKind.wrap .i64 ((vN : Int) - (IntKind.wrap .i64 (j - i))))] (fun _ h34 =>
 K (.slice (slA sA 2 (0 : Int) (sC : Int)) ((IntKind.wrap .i64 ((IntKind.wrap .i64 ((((i.toNat - (0 : Int).toNat) : Nat) : Int) + (vN : Int))) + ((((sN : Int).toNat - j.toNat) : Nat) : Int))).toNat - (0 : Int).toNat) ((sC : Int).toNat - (0 : Int).toNat)) h34) h32))))) ∧
 ((!t_2) = false →
 (0 ≤ j ∧ j ≤ (sN : Int) ∧ (sN : Int) ≤ (sC : Int) ∧ (sC : Int) ≤ (sC : Nat)) ∧
 CallH Tryz.prog id_slices_startIdx_api_Pair [.slice vA vN vC, .slice (slA sA 2 j (sC : Int)) ((sN : Int).toNat - j.toNat) ((sC : Int).toNat - j.toNat)] (fun v_12 h35 =>
 ∃ k : Int, v_12 = .int .i64 k ∧
 (0 ≤ i ∧ i ≤ ((((IntKind.wrap .i64 ((IntKind.wrap .i64 ((((i.toNat - (0 : Int).toNat) : Nat) : Int) + (vN : Int))) + ((((sN : Int).toNat - j.toNat) : Nat) : Int))).toNat - (0 : Int).toNat) : Nat) : Int) ∧ ((((IntKind.wrap .i64 ((IntKind.wrap .i64 ((((i.toNat - (0 : Int).toNat) : Nat) : Int) + (vN : Int))) + ((((sN : Int).toNat - j.toNat) : Nat) : Int))).toNat - (0 : Int).toNat) : Nat) : Int) ≤ ((((sC : Int).toNat - (0 : Int).toNat) : Nat) : Int) ∧ ((((sC : Int).toNat - (0 : Int).toNat) : Nat) : Int) ≤ (((sC : Int).toNat - (0 : Int).toNat) : Nat)) ∧
 ∃ vs_16 : List Value, srcH h35 vA (min vN (((((IntKind.wrap .i64 ((IntKind.wrap .i64 ((((i.toNat - (0 : Int).toNat) : Nat) : Int) + (vN : Int))) + ((((sN : Int).toNat - j.toNat) : Nat) : Int))).toNat - (0 : Int).toNat) : Nat) : Int).toNat - i.toNat) * 2) vs_16 ∧
 ((vs_16.length = 0 →
 (0 ≤ (IntKind.wrap .i64 (i + (vN : Int))) ∧ (IntKind.wrap .i64 (i + (vN : Int))) ≤ ((((IntKind.wrap .i64 ((IntKind.wrap .i64 ((((i.toNat - (0 : Int).toNat) : Nat) : Int) + (vN : Int))) + ((((sN : Int).toNat - j.toNat) : Nat) : Int))).toNat - (0 : Int).toNat) : Nat) : Int) ∧ ((((IntKind.wrap .i64 ((IntKind.wrap .i64 ((((i.toNat - (0 : Int).toNat) : Nat) : Int) + (vN : Int))) + ((((sN : Int).toNat - j.toNat) : Nat) : Int))).toNat - (0 : Int).toNat) : Nat) : Int) ≤ ((((sC : Int).toNat - (0 : Int).toNat) : Nat) : Int) ∧ ((((sC : Int).toNat - (0 : Int).toNat) : Nat) : Int) ≤ (((sC : Int).toNat - (0 : Int).toNat) : Nat)) ∧
 (0 ≤ (IntKind.wrap .i64 (i + k)) ∧ (IntKind.wrap .i64 (i + k)) ≤ ((((IntKind.wrap .i64 ((IntKind.wrap .i64 ((((i.toNat - (0 : Int).toNat) : Nat) : Int) + (vN : Int))) + ((((sN : Int).toNat - j.toNat) : Nat) : Int))).toNat - (0 : Int).toNat) : Nat) : Int) ∧ ((((IntKind.wrap .i64 ((IntKind.wrap .i64 ((((i.toNat - (0 : Int).toNat) : Nat) : Int) + (vN : Int))) + ((((sN : Int).toNat - j.toNat) : Nat) : Int))).toNat - (0 : Int).toNat) : Nat) : Int) ≤ ((((sC : Int).toNat - (0 : Int).toNat) : Nat) : Int) ∧ ((((sC : Int).toNat - (0 : Int).toNat) : Nat) : Int) ≤ (((sC : Int).toNat - (0 : Int).toNat) : Nat)) ∧
 ∃ vs_17 : List Value, srcH h35 (slA (slA sA 2 (0 : Int) (sC : Int)) 2 (IntKind.wrap .i64 (i + k)) ((((sC : Int).toNat - (0 : Int).toNat) : Nat) : Int)) (min (((((IntKind.wrap .i64 ((IntKind.wrap .i64 ((((i.toNat - (0 : Int).toNat) : Nat) : Int) + (vN : Int))) + ((((sN : Int).toNat - j.toNat) : Nat) : Int))).toNat - (0 : Int).toNat) : Nat) : Int).toNat - (IntKind.wrap .i64 (i + k)).toNat) (((((IntKind.wrap .i64 ((IntKind.wrap .i64 ((((i.toNat - (0 : Int).toNat) : Nat) : Int) + (vN : Int))) + ((((sN : Int).toNat - j.toNat) : Nat) : Int))).toNat - (0 : Int).toNat) : Nat) : Int).toNat - (IntKind.wrap .i64 (i + (vN : Int))).toNat) * 2) vs_17 ∧
 ((vs_17.length = 0 →
 K (.slice (slA sA 2 (0 : Int) (sC : Int)) ((IntKind.wrap .i64 ((IntKind.wrap .i64 ((((i.toNat - (0 : Int).toNat) : Nat) : Int) + (vN : Int))) + ((((sN : Int).toNat - j.toNat) : Nat) : Int))).toNat - (0 : Int).toNat) ((sC : Int).toNat - (0 : Int).toNat)) h35) ∧
 (vs_17.length ≠ 0 → ∃ bv_21 ov_21 : Nat, (slA (slA sA 2 (0 : Int) (sC : Int)) 2 (IntKind.wrap .i64 (i + (vN : Int))) ((((sC : Int).toNat - (0 : Int).toNat) : Nat) : Int)) = some ⟨bv_21, ov_21, none⟩ ∧ stH h35 bv_21 ov_21 vs_17 fun h37 =>
 K (.slice (slA sA 2 (0 : Int) (sC : Int)) ((IntKind.wrap .i64 ((IntKind.wrap .i64 ((((i.toNat - (0 : Int).toNat) : Nat) : Int) + (vN : Int))) + ((((sN : Int).toNat - j.toNat) : Nat) : Int))).toNat - (0 : Int).toNat) ((sC : Int).toNat - (0 : Int).toNat)) h37))) ∧
 (vs_16.length ≠ 0 → ∃ bv_20 ov_20 : Nat, (slA (slA sA 2 (0 : Int) (sC : Int)) 2 i ((((sC : Int).toNat - (0 : Int).toNat) : Nat) : Int)) = some ⟨bv_20, ov_20, none⟩ ∧ stH h35 bv_20 ov_20 vs_16 fun h36 =>
 (0 ≤ (IntKind.wrap .i64 (i + (vN : Int))) ∧ (IntKind.wrap .i64 (i + (vN : Int))) ≤ ((((IntKind.wrap .i64 ((IntKind.wrap .i64 ((((i.toNat - (0 : Int).toNat) : Nat) : Int) + (vN : Int))) + ((((sN : Int).toNat - j.toNat) : Nat) : Int))).toNat - (0 : Int).toNat) : Nat) : Int) ∧ ((((IntKind.wrap .i64 ((IntKind.wrap .i64 ((((i.toNat - (0 : Int).toNat) : Nat) : Int) + (vN : Int))) + ((((sN : Int).toNat - j.toNat) : Nat) : Int))).toNat - (0 : Int).toNat) : Nat) : Int) ≤ ((((sC : Int).toNat - (0 : Int).toNat) : Nat) : Int) ∧ ((((sC : Int).toNat - (0 : Int).toNat) : Nat) : Int) ≤ (((sC : Int).toNat - (0 : Int).toNat) : Nat)) ∧
 (0 ≤ (IntKind.wrap .i64 (i + k)) ∧ (IntKind.wrap .i64 (i + k)) ≤ ((((IntKind.wrap .i64 ((IntKind.wrap .i64 ((((i.toNat - (0 : Int).toNat) : Nat) : Int) + (vN : Int))) + ((((sN : Int).toNat - j.toNat) : Nat) : Int))).toNat - (0 : Int).toNat) : Nat) : Int) ∧ ((((IntKind.wrap .i64 ((IntKind.wrap .i64 ((((i.toNat - (0 : Int).toNat) : Nat) : Int) + (vN : Int))) + ((((sN : Int).toNat - j.toNat) : Nat) : Int))).toNat - (0 : Int).toNat) : Nat) : Int) ≤ ((((sC : Int).toNat - (0 : Int).toNat) : Nat) : Int) ∧ ((((sC : Int).toNat - (0 : Int).toNat) : Nat) : Int) ≤ (((sC : Int).toNat - (0 : Int).toNat) : Nat)) ∧
 ∃ vs_18 : List Value, srcH h36 (slA (slA sA 2 (0 : Int) (sC : Int)) 2 (IntKind.wrap .i64 (i + k)) ((((sC : Int).toNat - (0 : Int).toNat) : Nat) : Int)) (min (((((IntKind.wrap .i64 ((IntKind.wrap .i64 ((((i.toNat - (0 : Int).toNat) : Nat) : Int) + (vN : Int))) + ((((sN : Int).toNat - j.toNat) : Nat) : Int))).toNat - (0 : Int).toNat) : Nat) : Int).toNat - (IntKind.wrap .i64 (i + k)).toNat) (((((IntKind.wrap .i64 ((IntKind.wrap .i64 ((((i.toNat - (0 : Int).toNat) : Nat) : Int) + (vN : Int))) + ((((sN : Int).toNat - j.toNat) : Nat) : Int))).toNat - (0 : Int).toNat) : Nat) : Int).toNat - (IntKind.wrap .i64 (i + (vN : Int))).toNat) * 2) vs_18 ∧
 ((vs_18.length = 0 →
 K (.slice (slA sA 2 (0 : Int) (sC : Int)) ((IntKind.wrap .i64 ((IntKind.wrap .i64 ((((i.toNat - (0 : Int).toNat) : Nat) : Int) + (vN : Int))) + ((((sN : Int).toNat - j.toNat) : Nat) : Int))).toNat - (0 : Int).toNat) ((sC : Int).toNat - (0 : Int).toNat)) h36) ∧
 (vs_18.length ≠ 0 → ∃ bv_22 ov_22 : Nat, (slA (slA sA 2 (0 : Int) (sC : Int)) 2 (IntKind.wrap .i64 (i + (vN : Int))) ((((sC : Int).toNat - (0 : Int).toNat) : Nat) : Int)) = some ⟨bv_22, ov_22, none⟩ ∧ stH h36 bv_22 ov_22 vs_18 fun h38 =>
 K (.slice (slA sA 2 (0 : Int) (sC : Int)) ((IntKind.wrap .i64 ((IntKind.wrap .i64 ((((i.toNat - (0 : Int).toNat) : Nat) : Int) + (vN : Int))) + ((((sN : Int).toNat - j.toNat) : Nat) : Int))).toNat - (0 : Int).toNat) ((sC : Int).toNat - (0 : Int).toNat)) h38))))) h27))) h19))) h15))) h))))))))
set_option maxRecDepth 100000 in
theorem F_slices_Replace_api_Pair_api_Pair_ok {sA : Option Addr} {sN sC : Nat} {i j : Int} {vA : Option Addr} {vN vC : Nat}  {K : Value → PH → Prop} {h : PH} (hh : F_slices_Replace_api_Pair_api_Pair sA sN sC i j vA vN vC K h) : CallH Tryz.prog id_slices_Replace_api_Pair_api_Pair [.slice sA sN sC, .int .i64 i, .int .i64 j, .slice vA vN vC] K h :=
 denF_sound' Tryz.func95 (H := ⟨[], [], [], []⟩) (xs := [.v (.slice sA sN sC), .v (.int .i64 i), .v (.int .i64 j), .v (.slice vA vN vC)]) (by kernel_rfl) (⟨rfl, rfl, rfl, rfl, trivial⟩) (den_of (by kernel_rfl) hh)
def F_slices_Clone_api_Pair_api_Pair (sA : Option Addr) (sN _ : Nat) (K : Value → PH → Prop) (h : PH) : Prop :=
 (((Option.isNone sA) = true →
 K (.slice none 0 0) h) ∧
 ((Option.isNone sA) = false →
 newH h (.cells #[] T_api_Pair (0, 0)) fun bv h1 =>
 ∃ vs : List Value, srcH h1 sA (sN * 2) vs ∧
 appH T_api_Pair 2 32 [.string (⟨#[]⟩ : ByteArray), .string (⟨#[]⟩ : ByteArray)] (some ⟨bv, 0, none⟩) 0 0 sN vs (fun tA tN tC h2 =>
 K (.slice tA tN tC) h2) h1))
theorem F_slices_Clone_api_Pair_api_Pair_ok {sA : Option Addr} {sN sC : Nat}  {K : Value → PH → Prop} {h : PH} (hh : F_slices_Clone_api_Pair_api_Pair sA sN sC K h) : CallH Tryz.prog id_slices_Clone_api_Pair_api_Pair [.slice sA sN sC] K h :=
 denF_sound' Tryz.func96 (H := ⟨[], [], [], []⟩) (xs := [.v (.slice sA sN sC)]) (by kernel_rfl) (⟨rfl, trivial⟩) (den_of (by kernel_rfl) hh)
def F_slices_Insert_api_Pair_api_Pair (sA : Option Addr) (sN sC : Nat) (i : Int) (vA : Option Addr) (vN vC : Nat) (K : Value → PH → Prop) (h : PH) : Prop :=
 (0 ≤ i ∧ i ≤ (sN : Int) ∧ (sN : Int) ≤ (sC : Int) ∧ (sC : Int) ≤ (sC : Nat)) ∧
 ((((vN : Int) == (0 : Int)) = true →
 K (.slice sA sN sC) h) ∧
 (((vN : Int) == (0 : Int)) = false →
 (((i == (sN : Int)) = true →
 ∃ vs : List Value, srcH h vA (vN * 2) vs ∧
 appH T_api_Pair 2 32 [.string (⟨#[]⟩ : ByteArray), .string (⟨#[]⟩ : ByteArray)] sA sN sC vN vs (fun tA tN tC h1 =>
 K (.slice tA tN tC) h1) h) ∧
 ((i == (sN : Int)) = false →
 (((decide ((IntKind.wrap .i64 ((sN : Int) + (vN : Int))) > (sC : Int))) = true →
 (0 ≤ (0 : Int) ∧ (0 : Int) ≤ i ∧ i ≤ (sC : Int) ∧ (sC : Int) ≤ (sC : Nat)) ∧
 (0 ≤ (IntKind.wrap .i64 ((IntKind.wrap .i64 ((sN : Int) + (vN : Int))) - i)) ∧ (IntKind.wrap .i64 ((IntKind.wrap .i64 ((sN : Int) + (vN : Int))) - i)) * (32 : Nat) ≤ 140737488355328) ∧
 appH T_api_Pair 2 32 [.string (⟨#[]⟩ : ByteArray), .string (⟨#[]⟩ : ByteArray)] (slA sA 2 (0 : Int) (sC : Int)) (i.toNat - (0 : Int).toNat) ((sC : Int).toNat - (0 : Int).toNat) ((IntKind.wrap .i64 ((IntKind.wrap .i64 ((sN : Int) + (vN : Int))) - i))).toNat (List.replicate ((IntKind.wrap .i64 ((IntKind.wrap .i64 ((sN : Int) + (vN : Int))) - i))).toNat [.string (⟨#[]⟩ : ByteArray), .string (⟨#[]⟩ : ByteArray)]).flatten (fun s2A s2N s2C h2 =>
 (0 ≤ i ∧ i ≤ (s2N : Int) ∧ (s2N : Int) ≤ (s2C : Int) ∧ (s2C : Int) ≤ (s2C : Nat)) ∧
 ∃ vs_1 : List Value, srcH h2 vA (min vN ((s2N : Int).toNat - i.toNat) * 2) vs_1 ∧
 ((vs_1.length = 0 →
 (0 ≤ (IntKind.wrap .i64 (i + (vN : Int))) ∧ (IntKind.wrap .i64 (i + (vN : Int))) ≤ (s2N : Int) ∧ (s2N : Int) ≤ (s2C : Int) ∧ (s2C : Int) ≤ (s2C : Nat)) ∧
 (0 ≤ i ∧ i ≤ (sN : Int) ∧ (sN : Int) ≤ (sC : Int) ∧ (sC : Int) ≤ (sC : Nat)) ∧
 ∃ vs_2 : List Value, srcH h2 (slA sA 2 i (sC : Int)) (min ((sN : Int).toNat - i.toNat) ((s2N : Int).toNat - (IntKind.wrap .i64 (i + (vN : Int))).toNat) * 2) vs_2 ∧
 ((vs_2.length = 0 →
 K (.slice s2A s2N s2C) h2) ∧
 (vs_2.length ≠ 0 → ∃ bv_1 ov_1 : Nat, (slA s2A 2 (IntKind.wrap .i64 (i + (vN : Int))) (s2C : Int)) = some ⟨bv_1, ov_1, none⟩ ∧ stH h2 bv_1 ov_1 vs_2 fun h4 =>
 K (.slice s2A s2N s2C) h4))) ∧
 (vs_1.length ≠ 0 → ∃ bv ov : Nat, (slA s2A 2 i (s2C : Int)) = some ⟨bv, ov, none⟩ ∧ stH h2 bv ov vs_1 fun h3 =>
 (0 ≤ (IntKind.wrap .i64 (i + (vN : Int))) ∧ (IntKind.wrap .i64 (i + (vN : Int))) ≤ (s2N : Int) ∧ (s2N : Int) ≤ (s2C : Int) ∧ (s2C : Int) ≤ (s2C : Nat)) ∧
 (0 ≤ i ∧ i ≤ (sN : Int) ∧ (sN : Int) ≤ (sC : Int) ∧ (sC : Int) ≤ (sC : Nat)) ∧
 ∃ vs_3 : List Value, srcH h3 (slA sA 2 i (sC : Int)) (min ((sN : Int).toNat - i.toNat) ((s2N : Int).toNat - (IntKind.wrap .i64 (i + (vN : Int))).toNat) * 2) vs_3 ∧
 ((vs_3.length = 0 →
 K (.slice s2A s2N s2C) h3) ∧
 (vs_3.length ≠ 0 → ∃ bv_2 ov_2 : Nat, (slA s2A 2 (IntKind.wrap .i64 (i + (vN : Int))) (s2C : Int)) = some ⟨bv_2, ov_2, none⟩ ∧ stH h3 bv_2 ov_2 vs_3 fun h5 =>
 K (.slice s2A s2N s2C) h5))))) h) ∧
 ((decide ((IntKind.wrap .i64 ((sN : Int) + (vN : Int))) > (sC : Int))) = false →
 (0 ≤ (0 : Int) ∧ (0 : Int) ≤ (IntKind.wrap .i64 ((sN : Int) + (vN : Int))) ∧ (IntKind.wrap .i64 ((sN : Int) + (vN : Int))) ≤ (sC : Int) ∧ (sC : Int) ≤ (sC : Nat)) ∧
 (0 ≤ (IntKind.wrap .i64 (i + (vN : Int))) ∧ (IntKind.wrap .i64 (i + (vN : Int))) ≤ ((((IntKind.wrap .i64 ((sN : Int) + (vN : Int))).toNat - (0 : Int).toNat) : Nat) : Int) ∧ ((((IntKind.wrap .i64 ((sN : Int) + (vN : Int))).toNat - (0 : Int).toNat) : Nat) : Int) ≤ ((((sC : Int).toNat - (0 : Int).toNat) : Nat) : Int) ∧ ((((sC : Int).toNat - (0 : Int).toNat) : Nat) : Int) ≤ (((sC : Int).toNat - (0 : Int).toNat) : Nat)) ∧
 ExtH Tryz.prog id_slices_overlaps_api_Pair [.slice vA vN vC, .slice (slA (slA sA 2 (0 : Int) (sC : Int)) 2 (IntKind.wrap .i64 (i + (vN : Int))) ((((sC : Int).toNat - (0 : Int).toNat) : Nat) : Int)) (((((IntKind.wrap .i64 ((sN : Int) + (vN : Int))).toNat - (0 : Int).toNat) : Nat) : Int).toNat - (IntKind.wrap .i64 (i + (vN : Int))).toNat) (((((sC : Int).toNat - (0 : Int).toNat) : Nat) : Int).toNat - (IntKind.wrap .i64 (i + (vN : Int))).toNat)] (fun v h6 =>
 ∃ t : Bool, v = .bool t ∧
 (((!t) = true →
 (0 ≤ (IntKind.wrap .i64 (i + (vN : Int))) ∧ (IntKind.wrap .i64 (i + (vN : Int))) ≤ ((((IntKind.wrap .i64 ((sN : Int) + (vN : Int))).toNat - (0 : Int).toNat) : Nat) : Int) ∧ ((((IntKind.wrap .i64 ((sN : Int) + (vN : Int))).toNat - (0 : Int).toNat) : Nat) : Int) ≤ ((((sC : Int).toNat - (0 : Int).toNat) : Nat) : Int) ∧ ((((sC : Int).toNat - (0 : Int).toNat) : Nat) : Int) ≤ (((sC : Int).toNat - (0 : Int).toNat) : Nat)) ∧
 (0 ≤ i ∧ i ≤ ((((IntKind.wrap .i64 ((sN : Int) + (vN : Int))).toNat - (0 : Int).toNat) : Nat) : Int) ∧ ((((IntKind.wrap .i64 ((sN : Int) + (vN : Int))).toNat - (0 : Int).toNat) : Nat) : Int) ≤ ((((sC : Int).toNat - (0 : Int).toNat) : Nat) : Int) ∧ ((((sC : Int).toNat - (0 : Int).toNat) : Nat) : Int) ≤ (((sC : Int).toNat - (0 : Int).toNat) : Nat)) ∧
 ∃ vs_4 : List Value, srcH h6 (slA (slA sA 2 (0 : Int) (sC : Int)) 2 i ((((sC : Int).toNat - (0 : Int).toNat) : Nat) : Int)) (min (((((IntKind.wrap .i64 ((sN : Int) + (vN : Int))).toNat - (0 : Int).toNat) : Nat) : Int).toNat - i.toNat) (((((IntKind.wrap .i64 ((sN : Int) + (vN : Int))).toNat - (0 : Int).toNat) : Nat) : Int).toNat - (IntKind.wrap .i64 (i + (vN : Int))).toNat) * 2) vs_4 ∧
 ((vs_4.length = 0 →
 (0 ≤ i ∧ i ≤ ((((IntKind.wrap .i64 ((sN : Int) + (vN : Int))).toNat - (0 : Int).toNat) : Nat) : Int) ∧ ((((IntKind.wrap .i64 ((sN : Int) + (vN : Int))).toNat - (0 : Int).toNat) : Nat) : Int) ≤ ((((sC : Int).toNat - (0 : Int).toNat) : Nat) : Int) ∧ ((((sC : Int).toNat - (0 : Int).toNat) : Nat) : Int) ≤ (((sC : Int).toNat - (0 : Int).toNat) : Nat)) ∧
 ∃ vs_5 : List Value, srcH h6 vA (min vN (((((IntKind.wrap .i64 ((sN : Int) + (vN : Int))).toNat - (0 : Int).toNat) : Nat) : Int).toNat - i.toNat) * 2) vs_5 ∧
 ((vs_5.length = 0 →
 K (.slice (slA sA 2 (0 : Int) (sC : Int)) ((IntKind.wrap .i64 ((sN : Int) + (vN : Int))).toNat - (0 : Int).toNat) ((sC : Int).toNat - (0 : Int).toNat)) h6) ∧
 (vs_5.length ≠ 0 → ∃ bv_4 ov_4 : Nat, (slA (slA sA 2 (0 : Int) (sC : Int)) 2 i ((((sC : Int).toNat - (0 : Int).toNat) : Nat) : Int)) = some ⟨bv_4, ov_4, none⟩ ∧ stH h6 bv_4 ov_4 vs_5 fun h8 =>
 K (.slice (slA sA 2 (0 : Int) (sC : Int)) ((IntKind.wrap .i64 ((sN : Int) + (vN : Int))).toNat - (0 : Int).toNat) ((sC : Int).toNat - (0 : Int).toNat)) h8))) ∧
 (vs_4.length ≠ 0 → ∃ bv_3 ov_3 : Nat, (slA (slA sA 2 (0 : Int) (sC : Int)) 2 (IntKind.wrap .i64 (i + (vN : Int))) ((((sC : Int).toNat - (0 : Int).toNat) : Nat) : Int)) = some ⟨bv_3, ov_3, none⟩ ∧ stH h6 bv_3 ov_3 vs_4 fun h7 =>
 (0 ≤ i ∧ i ≤ ((((IntKind.wrap .i64 ((sN : Int) + (vN : Int))).toNat - (0 : Int).toNat) : Nat) : Int) ∧ ((((IntKind.wrap .i64 ((sN : Int) + (vN : Int))).toNat - (0 : Int).toNat) : Nat) : Int) ≤ ((((sC : Int).toNat - (0 : Int).toNat) : Nat) : Int) ∧ ((((sC : Int).toNat - (0 : Int).toNat) : Nat) : Int) ≤ (((sC : Int).toNat - (0 : Int).toNat) : Nat)) ∧
 ∃ vs_6 : List Value, srcH h7 vA (min vN (((((IntKind.wrap .i64 ((sN : Int) + (vN : Int))).toNat - (0 : Int).toNat) : Nat) : Int).toNat - i.toNat) * 2) vs_6 ∧
 ((vs_6.length = 0 →
 K (.slice (slA sA 2 (0 : Int) (sC : Int)) ((IntKind.wrap .i64 ((sN : Int) + (vN : Int))).toNat - (0 : Int).toNat) ((sC : Int).toNat - (0 : Int).toNat)) h7) ∧
 (vs_6.length ≠ 0 → ∃ bv_5 ov_5 : Nat, (slA (slA sA 2 (0 : Int) (sC : Int)) 2 i ((((sC : Int).toNat - (0 : Int).toNat) : Nat) : Int)) = some ⟨bv_5, ov_5, none⟩ ∧ stH h7 bv_5 ov_5 vs_6 fun h9 =>
 K (.slice (slA sA 2 (0 : Int) (sC : Int)) ((IntKind.wrap .i64 ((sN : Int) + (vN : Int))).toNat - (0 : Int).toNat) ((sC : Int).toNat - (0 : Int).toNat)) h9))))) ∧
 ((!t) = false →
 (0 ≤ (sN : Int) ∧ (sN : Int) ≤ ((((IntKind.wrap .i64 ((sN : Int) + (vN : Int))).toNat - (0 : Int).toNat) : Nat) : Int) ∧ ((((IntKind.wrap .i64 ((sN : Int) + (vN : Int))).toNat - (0 : Int).toNat) : Nat) : Int) ≤ ((((sC : Int).toNat - (0 : Int).toNat) : Nat) : Int) ∧ ((((sC : Int).toNat - (0 : Int).toNat) : Nat) : Int) ≤ (((sC : Int).toNat - (0 : Int).toNat) : Nat)) ∧
 ∃ vs_7 : List Value, srcH h6 vA (min vN (((((IntKind.wrap .i64 ((sN : Int) + (vN : Int))).toNat - (0 : Int).toNat) : Nat) : Int).toNat - (sN : Int).toNat) * 2) vs_7 ∧
 ((vs_7.length = 0 →
 (0 ≤ i ∧ i ≤ ((((IntKind.wrap .i64 ((sN : Int) + (vN : Int))).toNat - (0 : Int).toNat) : Nat) : Int) ∧ ((((IntKind.wrap .i64 ((sN : Int) + (vN : Int))).toNat - (0 : Int).toNat) : Nat) : Int) ≤ ((((sC : Int).toNat - (0 : Int).toNat) : Nat) : Int) ∧ ((((sC : Int).toNat - (0 : Int).toNat) : Nat) : Int) ≤ (((sC : Int).toNat - (0 : Int).toNat) : Nat)) ∧
 CallH Tryz.prog id_slices_rotateRight_api_Pair [.slice (slA (slA sA 2 (0 : Int) (sC : Int)) 2 i ((((sC : Int).toNat - (0 : Int).toNat) : Nat) : Int)) (((((IntKind.wrap .i64 ((sN : Int) + (vN : Int))).toNat - (0 : Int).toNat) : Nat) : Int).toNat - i.toNat) (((((sC : Int).toNat - (0 : Int).toNat) : Nat) : Int).toNat - i.toNat), .int .i64 (vN : Int)] (fun _ h11 =>
 K (.slice (slA sA 2 (0 : Int) (sC : Int)) ((IntKind.wrap .i64 ((sN : Int) + (vN : Int))).toNat - (0 : Int).toNat) ((sC : Int).toNat - (0 : Int).toNat)) h11) h6) ∧
 (vs_7.length ≠ 0 → ∃ bv_6 ov_6 : Nat, (slA (slA sA 2 (0 : Int) (sC : Int)) 2 (sN : Int) ((((sC : Int).toNat - (0 : Int).toNat) : Nat) : Int)) = some ⟨bv_6, ov_6, none⟩ ∧ stH h6 bv_6 ov_6 vs_7 fun h10 =>
 (0 ≤ i ∧ i ≤ ((((IntKind.wrap .i64 ((sN : Int) + (vN : Int))).toNat - (0 : Int).toNat) : Nat) : Int) ∧ ((((IntKind.wrap .i64 ((sN : Int) + (vN : Int))).toNat - (0 : Int).toNat) : Nat) : Int) ≤ ((((sC : Int).toNat - (0 : Int).toNat) : Nat) : Int) ∧ ((((sC : Int).toNat - (0 : Int).toNat) : Nat) : Int) ≤ (((sC : Int).toNat - (0 : Int).toNat) : Nat)) ∧
 CallH Tryz.prog id_slices_rotateRight_api_Pair [.slice (slA (slA sA 2 (0 : Int) (sC : Int)) 2 i ((((sC : Int).toNat - (0 : Int).toNat) : Nat) : Int)) (((((IntKind.wrap .i64 ((sN : Int) + (vN : Int))).toNat - (0 : Int).toNat) : Nat) : Int).toNat - i.toNat) (((((sC : Int).toNat - (0 : Int).toNat) : Nat) : Int).toNat - i.toNat), .int .i64 (vN : Int)] (fun _ h12 =>
 K (.slice (slA sA 2 (0 : Int) (sC : Int)) ((IntKind.wrap .i64 ((sN : Int) + (vN : Int))).toNat - (0 : Int).toNat) ((sC : Int).toNat - (0 : Int).toNat)) h12) h10))))) h))))))
theorem F_slices_Insert_api_Pair_api_Pair_ok {sA : Option Addr} {sN sC : Nat} {i : Int} {vA : Option Addr} {vN vC : Nat}  {K : Value → PH → Prop} {h : PH} (hh : F_slices_Insert_api_Pair_api_Pair sA sN sC i vA vN vC K h) : CallH Tryz.prog id_slices_Insert_api_Pair_api_Pair [.slice sA sN sC, .int .i64 i, .slice vA vN vC] K h :=
 denF_sound' Tryz.func97 (H := ⟨[], [], [], []⟩) (xs := [.v (.slice sA sN sC), .v (.int .i64 i), .v (.slice vA vN vC)]) (by kernel_rfl) (⟨rfl, rfl, rfl, trivial⟩) (den_of (by kernel_rfl) hh)
def F_ref15_Levels (lA : Option Addr) (lN lC : Nat) (K : Value → PH → Prop) (h : PH) : Prop :=
 (0 ≤ (5 : Int) ∧ (5 : Int) ≤ (5 : Int) ∧ (5 : Int) * (24 : Nat) ≤ 140737488355328) ∧
 newH h (.cells (List.replicate (5 : Int).toNat [.slice none 0 0]).flatten.toArray 167 (0, 0)) fun bv h1 =>
 LoopP (T := Int × Unit) (fun Jv st h2 =>
 (((decide (st.1 < (16 : Int))) = true →
 ∃ bv_1 ov : Nat, ((some ⟨bv, 0, none⟩ : Option Addr) = some ⟨bv_1, ov, none⟩ ∧ 0 ≤ (4 : Int) ∧ (4 : Int) < ((5 : Int).toNat : Nat)) ∧
 ∃ (tA : Option Addr) (tN tC : Nat), (h2.rds bv_1 (ov + (4 : Int).toNat * 1) 1 = some [.slice tA tN tC]) ∧
 CallH Tryz.prog id_ref15_LeafText [.slice lA lN lC, .int .i64 st.1] (fun v h3 =>
 ∃ t : ByteArray, v = .string t ∧
 (h3.rds bv_1 (ov + (4 : Int).toNat * 1) 1 = some [.slice tA tN tC]) ∧
 CallH Tryz.prog id_ref02_Sum [.string t] (fun v_1 h4 =>
 ∃ t_1 : List Int, t_1.length = 32 ∧ v_1 = .agg ((t_1.map (Value.int .u8) ++ [])).toArray ∧
 (h4.rds bv_1 (ov + (4 : Int).toNat * 1) 1 = some [.slice tA tN tC]) ∧
 appH T_api_Hash 32 32 [.int .u8 (0 : Int), .int .u8 (0 : Int), .int .u8 (0 : Int), .int .u8 (0 : Int), .int .u8 (0 : Int), .int .u8 (0 : Int), .int .u8 (0 : Int), .int .u8 (0 : Int), .int .u8 (0 : Int), .int .u8 (0 : Int), .int .u8 (0 : Int), .int .u8 (0 : Int), .int .u8 (0 : Int), .int .u8 (0 : Int), .int .u8 (0 : Int), .int .u8 (0 : Int), .int .u8 (0 : Int), .int .u8 (0 : Int), .int .u8 (0 : Int), .int .u8 (0 : Int), .int .u8 (0 : Int), .int .u8 (0 : Int), .int .u8 (0 : Int), .int .u8 (0 : Int), .int .u8 (0 : Int), .int .u8 (0 : Int), .int .u8 (0 : Int), .int .u8 (0 : Int), .int .u8 (0 : Int), .int .u8 (0 : Int), .int .u8 (0 : Int), .int .u8 (0 : Int)] tA tN tC 1 (t_1.map (Value.int .u8) ++ []) (fun tA_1 tN_1 tC_1 h5 =>
 ∃ bv_2 ov_1 : Nat, ((some ⟨bv, 0, none⟩ : Option Addr) = some ⟨bv_2, ov_1, none⟩ ∧ 0 ≤ (4 : Int) ∧ (4 : Int) < ((5 : Int).toNat : Nat)) ∧
 stH h5 bv_2 (ov_1 + (4 : Int).toNat * 1) [.slice tA_1 tN_1 tC_1] fun h6 =>
 Jv ((IntKind.wrap .i64 (st.1 + (1 : Int))), ()) h6) h4) h3) h2) ∧
 ((decide (st.1 < (16 : Int))) = false →
 LoopP (T := Int × Unit) (fun Jv_1 st_1 h7 =>
 (((decide (st_1.1 ≥ (0 : Int))) = true →
 LoopP (T := Int × Unit) (fun Jv_2 st_2 h8 =>
 ∃ bv_3 ov_2 : Nat, ((some ⟨bv, 0, none⟩ : Option Addr) = some ⟨bv_3, ov_2, none⟩ ∧ 0 ≤ (IntKind.wrap .i64 (st_1.1 + (1 : Int))) ∧ (IntKind.wrap .i64 (st_1.1 + (1 : Int))) < ((5 : Int).toNat : Nat)) ∧
 ∃ (tA_2 : Option Addr) (tN_2 tC_2 : Nat), (h8.rds bv_3 (ov_2 + (IntKind.wrap .i64 (st_1.1 + (1 : Int))).toNat * 1) 1 = some [.slice tA_2 tN_2 tC_2]) ∧
 (((decide (st_2.1 < (IntKind.wrap .i64 ((tN_2 : Int).tdiv (2 : Int))))) = true →
 ∃ bv_4 ov_3 : Nat, ((some ⟨bv, 0, none⟩ : Option Addr) = some ⟨bv_4, ov_3, none⟩ ∧ 0 ≤ st_1.1 ∧ st_1.1 < ((5 : Int).toNat : Nat)) ∧
 ∃ (tA_3 : Option Addr) (tN_3 tC_3 : Nat), (h8.rds bv_4 (ov_3 + st_1.1.toNat * 1) 1 = some [.slice tA_3 tN_3 tC_3]) ∧
 ∃ bv_5 ov_4 : Nat, ((some ⟨bv, 0, none⟩ : Option Addr) = some ⟨bv_5, ov_4, none⟩ ∧ 0 ≤ (IntKind.wrap .i64 (st_1.1 + (1 : Int))) ∧ (IntKind.wrap .i64 (st_1.1 + (1 : Int))) < ((5 : Int).toNat : Nat)) ∧
 ∃ (tA_4 : Option Addr) (tN_4 tC_4 : Nat), (h8.rds bv_5 (ov_4 + (IntKind.wrap .i64 (st_1.1 + (1 : Int))).toNat * 1) 1 = some [.slice tA_4 tN_4 tC_4]) ∧
 ∃ bv_6 ov_5 : Nat, (tA_4 = some ⟨bv_6, ov_5, none⟩ ∧ 0 ≤ (IntKind.wrap .i64 ((2 : Int) * st_2.1)) ∧ (IntKind.wrap .i64 ((2 : Int) * st_2.1)) < (tN_4 : Nat)) ∧
 ∃ t_2 : List Int, t_2.length = 32 ∧ (h8.rds bv_6 (ov_5 + (IntKind.wrap .i64 ((2 : Int) * st_2.1)).toNat * 32) 32 = some (t_2.map (Value.int .u8) ++ [])) ∧
 ∃ bv_7 ov_6 : Nat, ((some ⟨bv, 0, none⟩ : Option Addr) = some ⟨bv_7, ov_6, none⟩ ∧ 0 ≤ (IntKind.wrap .i64 (st_1.1 + (1 : Int))) ∧ (IntKind.wrap .i64 (st_1.1 + (1 : Int))) < ((5 : Int).toNat : Nat)) ∧
 ∃ (tA_5 : Option Addr) (tN_5 tC_5 : Nat), (h8.rds bv_7 (ov_6 + (IntKind.wrap .i64 (st_1.1 + (1 : Int))).toNat * 1) 1 = some [.slice tA_5 tN_5 tC_5]) ∧
 ∃ bv_8 ov_7 : Nat, (tA_5 = some ⟨bv_8, ov_7, none⟩ ∧ 0 ≤ (IntKind.wrap .i64 ((IntKind.wrap .i64 ((2 : Int) * st_2.1)) + (1 : Int))) ∧ (IntKind.wrap .i64 ((IntKind.wrap .i64 ((2 : Int) * st_2.1)) + (1 : Int))) < (tN_5 : Nat)) ∧
 ∃ t_3 : List Int, t_3.length = 32 ∧ (h8.rds bv_8 (ov_7 + (IntKind.wrap .i64 ((IntKind.wrap .i64 ((2 : Int) * st_2.1)) + (1 : Int))).toNat * 32) 32 = some (t_3.map (Value.int .u8) ++ [])) ∧
 CallH Tryz.prog id_ref15_InnerText [.agg ((t_2.map (Value.int .u8) ++ [])).toArray, .agg ((t_3.map (Value.int .u8) ++ [])).toArray] (fun v_2 h9 =>
 ∃ t_4 : ByteArray, v_2 = .string t_4 ∧
 (h9.rds bv_4 (ov_3 + st_1.1.toNat * 1) 1 = some [.slice tA_3 tN_3 tC_3]) ∧
 CallH Tryz.prog id_ref02_Sum [.string t_4] (fun v_3 h10 =>
 ∃ t_5 : List Int, t_5.length = 32 ∧ v_3 = .agg ((t_5.map (Value.int .u8) ++ [])).toArray ∧
 (h10.rds bv_4 (ov_3 + st_1.1.toNat * 1) 1 = some [.slice tA_3 tN_3 tC_3]) ∧
 appH T_api_Hash 32 32 [.int .u8 (0 : Int), .int .u8 (0 : Int), .int .u8 (0 : Int), .int .u8 (0 : Int), .int .u8 (0 : Int), .int .u8 (0 : Int), .int .u8 (0 : Int), .int .u8 (0 : Int), .int .u8 (0 : Int), .int .u8 (0 : Int), .int .u8 (0 : Int), .int .u8 (0 : Int), .int .u8 (0 : Int), .int .u8 (0 : Int), .int .u8 (0 : Int), .int .u8 (0 : Int), .int .u8 (0 : Int), .int .u8 (0 : Int), .int .u8 (0 : Int), .int .u8 (0 : Int), .int .u8 (0 : Int), .int .u8 (0 : Int), .int .u8 (0 : Int), .int .u8 (0 : Int), .int .u8 (0 : Int), .int .u8 (0 : Int), .int .u8 (0 : Int), .int .u8 (0 : Int), .int .u8 (0 : Int), .int .u8 (0 : Int), .int .u8 (0 : Int), .int .u8 (0 : Int)] tA_3 tN_3 tC_3 1 (t_5.map (Value.int .u8) ++ []) (fun tA_6 tN_6 tC_6 h11 =>
 ∃ bv_9 ov_8 : Nat, ((some ⟨bv, 0, none⟩ : Option Addr) = some ⟨bv_9, ov_8, none⟩ ∧ 0 ≤ st_1.1 ∧ st_1.1 < ((5 : Int).toNat : Nat)) ∧
 stH h11 bv_9 (ov_8 + st_1.1.toNat * 1) [.slice tA_6 tN_6 tC_6] fun h12 =>
 Jv_2 ((IntKind.wrap .i64 (st_2.1 + (1 : Int))), ()) h12) h10) h9) h8) ∧
 ((decide (st_2.1 < (IntKind.wrap .i64 ((tN_2 : Int).tdiv (2 : Int))))) = false →
 Jv_1 ((IntKind.wrap .i64 (st_1.1 - (1 : Int))), ()) h8))) ((0 : Int), ()) h7) ∧
 ((decide (st_1.1 ≥ (0 : Int))) = false →
 K (.slice (some ⟨bv, 0, none⟩) (5 : Int).toNat (5 : Int).toNat) h7))) ((3 : Int), ()) h2))) ((0 : Int), ()) h1
theorem F_ref15_Levels_ok {lA : Option Addr} {lN lC : Nat}  {K : Value → PH → Prop} {h : PH} (hh : F_ref15_Levels lA lN lC K h) : CallH Tryz.prog id_ref15_Levels [.slice lA lN lC] K h :=
 denF_sound' Tryz.func100 (H := ⟨[20, 65], [], [(0, ⟨[(4, .int .i64)], [], []⟩), (2, ⟨[(5, .int .i64)], [], []⟩), (4, ⟨[(6, .int .i64)], [], []⟩)], []⟩) (xs := [.v (.slice lA lN lC)]) (by kernel_rfl) (⟨rfl, trivial⟩) (den_of (by kernel_rfl) hh)
def F_ref14_Part (lA : Option Addr) (lN _ : Nat) (i : Int) (K : Value → PH → Prop) (h : PH) : Prop :=
 LoopP (T := (Option Addr × Nat × Nat) × Int × Unit) (fun Jv st h1 =>
 (((decide (st.2.1 < (lN : Int))) = true →
 ∃ bv ov : Nat, (lA = some ⟨bv, ov, none⟩ ∧ 0 ≤ st.2.1 ∧ st.2.1 < (lN : Nat)) ∧
 ∃ t : ByteArray, (h1.rds bv (ov + st.2.1.toNat * 2) 1 = some [.string t]) ∧
 CallH Tryz.prog id_ref14_Of [.string t] (fun v h2 =>
 ∃ t_1 : Int, v = .int .i64 t_1 ∧
 (((t_1 == i) = true →
 ∃ bv_1 ov_1 : Nat, (lA = some ⟨bv_1, ov_1, none⟩ ∧ 0 ≤ st.2.1 ∧ st.2.1 < (lN : Nat)) ∧
 ∃ t0 t1 : ByteArray, (h2.rds bv_1 (ov_1 + st.2.1.toNat * 2) 2 = some [.string t0, .string t1]) ∧
 appH T_api_Pair 2 32 [.string (⟨#[]⟩ : ByteArray), .string (⟨#[]⟩ : ByteArray)] st.1.1 st.1.2.1 st.1.2.2 1 [.string t0, .string t1] (fun outA outN outC h3 =>
 Jv ((outA, outN, outC), (IntKind.wrap .i64 (st.2.1 + (1 : Int))), ()) h3) h2) ∧
 ((t_1 == i) = false →
 Jv ((st.1.1, st.1.2.1, st.1.2.2), (IntKind.wrap .i64 (st.2.1 + (1 : Int))), ()) h2))) h1) ∧
 ((decide (st.2.1 < (lN : Int))) = false →
 K (.slice st.1.1 st.1.2.1 st.1.2.2) h1))) ((none, 0, 0), (0 : Int), ()) h
theorem F_ref14_Part_ok {lA : Option Addr} {lN lC : Nat} {i : Int}  {K : Value → PH → Prop} {h : PH} (hh : F_ref14_Part lA lN lC i K h) : CallH Tryz.prog id_ref14_Part [.slice lA lN lC, .int .i64 i] K h :=
 denF_sound' Tryz.func102 (H := ⟨[26], [], [(0, ⟨[(5, .slice), (6, .int .i64)], [], []⟩)], []⟩) (xs := [.v (.slice lA lN lC), .v (.int .i64 i)]) (by kernel_rfl) (⟨rfl, rfl, trivial⟩) (den_of (by kernel_rfl) hh)
def F_bucket_May (lA : Option Addr) (lN _ : Nat) (K : Value → PH → Prop) (h : PH) : Prop :=
 LoopP (T := Int × Unit) (fun Jv st h1 =>
 (((decide (st.1 < (lN : Int))) = true →
 ∃ bv ov : Nat, (lA = some ⟨bv, ov, none⟩ ∧ 0 ≤ st.1 ∧ st.1 < (lN : Nat)) ∧
 ∃ x0 x1 : ByteArray, (h1.rds bv (ov + st.1.toNat * 2) 2 = some [.string x0, .string x1]) ∧
 CallH Tryz.prog id_path_Cut [.string x0] (fun v h2 =>
 ∃ t0 t1 : ByteArray, ∃ t2 : Bool, v = .tuple #[.string t0, .string t1, .bool t2] ∧
 ((((!t2) || (decide ((x1.size : Int) > (32 : Int)))) = false →
 ∃ bv_1 ov_1 : Nat, (((decide (st.1 > (0 : Int))) = true → lA = some ⟨bv_1, ov_1, none⟩ ∧ 0 ≤ (IntKind.wrap .i64 (st.1 - (1 : Int))) ∧ (IntKind.wrap .i64 (st.1 - (1 : Int))) < (lN : Nat))) ∧
 ∃ t : ByteArray, (((decide (st.1 > (0 : Int))) = true → h2.rds bv_1 (ov_1 + (IntKind.wrap .i64 (st.1 - (1 : Int))).toNat * 2) 1 = some [.string t])) ∧
 ((((decide (st.1 > (0 : Int))) && (!(strLt t x0))) = true →
 K (.bool false) h2) ∧
 (((decide (st.1 > (0 : Int))) && (!(strLt t x0))) = false →
 Jv ((IntKind.wrap .i64 (st.1 + (1 : Int))), ()) h2))) ∧
 (((!t2) || (decide ((x1.size : Int) > (32 : Int)))) = true →
 K (.bool false) h2))) h1) ∧
 ((decide (st.1 < (lN : Int))) = false →
 K (.bool true) h1))) ((0 : Int), ()) h
theorem F_bucket_May_ok {lA : Option Addr} {lN lC : Nat}  {K : Value → PH → Prop} {h : PH} (hh : F_bucket_May lA lN lC K h) : CallH Tryz.prog id_bucket_May [.slice lA lN lC] K h :=
 denF_sound' Tryz.func104 (H := ⟨[4], [], [(0, ⟨[(10, .int .i64)], [], []⟩)], []⟩) (xs := [.v (.slice lA lN lC)]) (by kernel_rfl) (⟨rfl, trivial⟩) (den_of (by kernel_rfl) hh)
def F_ref11_Less (a bv : ByteArray) (K : Value → PH → Prop) (h : PH) : Prop :=
 LoopP (T := Int × Unit) (fun Jv st h1 =>
 ((((decide (st.1 < (a.size : Int))) && (decide (st.1 < (bv.size : Int)))) = true →
 (0 ≤ st.1 ∧ st.1 < (ByteArray.size a : Nat)) ∧
 (0 ≤ st.1 ∧ st.1 < (ByteArray.size bv : Nat)) ∧
 ((((byteAt a st.1) != (byteAt bv st.1)) = true →
 (0 ≤ st.1 ∧ st.1 < (ByteArray.size a : Nat)) ∧
 (0 ≤ st.1 ∧ st.1 < (ByteArray.size bv : Nat)) ∧
 K (.bool (decide ((byteAt a st.1) < (byteAt bv st.1)))) h1) ∧
 (((byteAt a st.1) != (byteAt bv st.1)) = false →
 Jv ((IntKind.wrap .i64 (st.1 + (1 : Int))), ()) h1))) ∧
 (((decide (st.1 < (a.size : Int))) && (decide (st.1 < (bv.size : Int)))) = false →
 K (.bool (decide ((a.size : Int) < (bv.size : Int)))) h1))) ((0 : Int), ()) h
theorem F_ref11_Less_ok {a bv : ByteArray}  {K : Value → PH → Prop} {h : PH} (hh : F_ref11_Less a bv K h) : CallH Tryz.prog id_ref11_Less [.string a, .string bv] K h :=
 denF_sound' Tryz.func105 (H := ⟨[], [], [(0, ⟨[(5, .int .i64)], [], []⟩)], []⟩) (xs := [.v (.string a), .v (.string bv)]) (by kernel_rfl) (⟨rfl, rfl, trivial⟩) (den_of (by kernel_rfl) hh)
def F_bucket_Page (i : Int) (lA : Option Addr) (lN lC : Nat) (K : Value → PH → Prop) (h : PH) : Prop :=
 JoinP (T := Unit) (fun Jv =>
 CallH Tryz.prog id_bucket_bucket [.int .i64 i] (fun v h2 =>
 ∃ t : Bool, v = .bool t ∧
 (((!t) = false →
 CallH Tryz.prog id_bucket_May [.slice lA lN lC] (fun v_1 h3 =>
 ∃ t_1 : Bool, v_1 = .bool t_1 ∧
 (((!t_1) = false →
 CallH Tryz.prog id_bucket_Part [.slice lA lN lC, .int .i64 i] (fun v_2 h4 =>
 ∃ (tA : Option Addr) (tN tC : Nat), v_2 = .slice tA tN tC ∧
 ((((tN : Int) != (lN : Int)) = true →
 K (.tuple #[.string (⟨#[]⟩ : ByteArray), .int .i64 (1 : Int)]) h4) ∧
 (((tN : Int) != (lN : Int)) = false →
 (((decide ((lN : Int) > (48 : Int))) = true →
 K (.tuple #[.string (⟨#[]⟩ : ByteArray), .int .i64 (3 : Int)]) h4) ∧
 ((decide ((lN : Int) > (48 : Int))) = false →
 Jv (()) h4))))) h3) ∧
 ((!t_1) = true →
 K (.tuple #[.string (⟨#[]⟩ : ByteArray), .int .i64 (1 : Int)]) h3))) h2) ∧
 ((!t) = true →
 K (.tuple #[.string (⟨#[]⟩ : ByteArray), .int .i64 (1 : Int)]) h2))) h)
 (fun _ h1 =>
 newH h1 (.cells #[.slice none 0 0] T_pack_Out (0, 0)) fun bv h5 =>
 CallH Tryz.prog id_pack_Out_Num [.pointer (some ⟨bv, 0, none⟩), .int .u64 (IntKind.wrap .u64 (lN : Int))] (fun _ h6 =>
 LoopP (T := Int × Unit) (fun Jv_1 st_1 h7 =>
 (((decide (st_1.1 < (lN : Int))) = true →
 ∃ bv_1 ov : Nat, (lA = some ⟨bv_1, ov, none⟩ ∧ 0 ≤ st_1.1 ∧ st_1.1 < (lN : Nat)) ∧
 ∃ x0 x1 : ByteArray, (h7.rds bv_1 (ov + st_1.1.toNat * 2) 2 = some [.string x0, .string x1]) ∧
 CallH Tryz.prog id_pack_Out_Text [.pointer (some ⟨bv, 0, none⟩), .string x0] (fun _ h8 =>
 CallH Tryz.prog id_pack_Out_Text [.pointer (some ⟨bv, 0, none⟩), .string x1] (fun _ h9 =>
 Jv_1 ((IntKind.wrap .i64 (st_1.1 + (1 : Int))), ()) h9) h8) h7) ∧
 ((decide (st_1.1 < (lN : Int))) = false →
 CallH Tryz.prog id_pack_Out_String [.pointer (some ⟨bv, 0, none⟩)] (fun v_6 h10 =>
 ∃ t_2 : ByteArray, v_6 = .string t_2 ∧
 K (.tuple #[.string t_2, .int .i64 (0 : Int)]) h10) h7))) ((0 : Int), ()) h6) h5)
theorem F_bucket_Page_ok {i : Int} {lA : Option Addr} {lN lC : Nat}  {K : Value → PH → Prop} {h : PH} (hh : F_bucket_Page i lA lN lC K h) : CallH Tryz.prog id_bucket_Page [.int .i64 i, .slice lA lN lC] K h :=
 denF_sound' Tryz.func120 (H := ⟨[8], [], [(1, ⟨[(40, .int .i64)], [], []⟩)], [(12, ⟨[], [], []⟩)]⟩) (xs := [.v (.int .i64 i), .v (.slice lA lN lC)]) (by kernel_rfl) (⟨rfl, rfl, trivial⟩) (den_of (by kernel_rfl) hh)
def F_strings_Compare (a bv : ByteArray) (K : Value → PH → Prop) (h : PH) : Prop :=
 CallH Tryz.prog id_internal_bytealg_CompareString [.string a, .string bv] (fun v h1 =>
 ∃ t : Int, v = .int .i64 t ∧
 K (.int .i64 t) h1) h
theorem F_strings_Compare_ok {a bv : ByteArray}  {K : Value → PH → Prop} {h : PH} (hh : F_strings_Compare a bv K h) : CallH Tryz.prog id_strings_Compare [.string a, .string bv] K h :=
 denF_sound' Tryz.func123 (H := ⟨[], [], [], []⟩) (xs := [.v (.string a), .v (.string bv)]) (by kernel_rfl) (⟨rfl, rfl, trivial⟩) (den_of (by kernel_rfl) hh)
def F_slices_Clone_string_string (sA : Option Addr) (sN _ : Nat) (K : Value → PH → Prop) (h : PH) : Prop :=
 (((Option.isNone sA) = true →
 K (.slice none 0 0) h) ∧
 ((Option.isNone sA) = false →
 newH h (.cells #[] 9 (0, 0)) fun bv h1 =>
 ∃ vs : List Value, srcH h1 sA (sN * 1) vs ∧
 appH 9 1 16 [.string (⟨#[]⟩ : ByteArray)] (some ⟨bv, 0, none⟩) 0 0 sN vs (fun tA tN tC h2 =>
 K (.slice tA tN tC) h2) h1))
theorem F_slices_Clone_string_string_ok {sA : Option Addr} {sN sC : Nat}  {K : Value → PH → Prop} {h : PH} (hh : F_slices_Clone_string_string sA sN sC K h) : CallH Tryz.prog id_slices_Clone_string_string [.slice sA sN sC] K h :=
 denF_sound' Tryz.func125 (H := ⟨[], [], [], []⟩) (xs := [.v (.slice sA sN sC)]) (by kernel_rfl) (⟨rfl, trivial⟩) (den_of (by kernel_rfl) hh)
def F_ref15_LeafText (lA : Option Addr) (lN lC : Nat) (i : Int) (K : Value → PH → Prop) (h : PH) : Prop :=
 CallH Tryz.prog id_ref14_Part [.slice lA lN lC, .int .i64 i] (fun v h1 =>
 ∃ (tA : Option Addr) (tN tC : Nat), v = .slice tA tN tC ∧
 CallH Tryz.prog id_ref14_Page [.int .i64 i, .slice tA tN tC] (fun v_1 h2 =>
 ∃ t0 : ByteArray, ∃ t1 : Int, v_1 = .tuple #[.string t0, .int .i64 t1] ∧
 (((ByteArray.size (⟨#[76]⟩ : ByteArray) + ByteArray.size t0 : Nat) : Int) ≤ 9223372036854775807) ∧
 K (.string ((⟨#[76]⟩ : ByteArray) ++ t0)) h2) h1) h
theorem F_ref15_LeafText_ok {lA : Option Addr} {lN lC : Nat} {i : Int}  {K : Value → PH → Prop} {h : PH} (hh : F_ref15_LeafText lA lN lC i K h) : CallH Tryz.prog id_ref15_LeafText [.slice lA lN lC, .int .i64 i] K h :=
 denF_sound' Tryz.func126 (H := ⟨[], [], [], []⟩) (xs := [.v (.slice lA lN lC), .v (.int .i64 i)]) (by kernel_rfl) (⟨rfl, rfl, trivial⟩) (den_of (by kernel_rfl) hh)
def F_ref15_InnerText (leftv rightv : List Int) (K : Value → PH → Prop) (h : PH) : Prop :=
 LoopP (T := ByteArray × Int × Unit) (fun Jv st h1 =>
 (((decide (st.2.1 < (32 : Int))) = true →
 (0 ≤ st.2.1 ∧ st.2.1 < (32 : Nat)) ∧
 ((st.2.1.toNat * 1) < 32) ∧
 newH h1 (.cells #[.int .u8 (leftv.getD (st.2.1.toNat * 1) 0)] 5 (0, 0)) fun bv h2 =>
 ∃ t : ByteArray, strH h2 (some ⟨bv, 0, none⟩ : Option Addr) 1 t ∧
 (((ByteArray.size st.1 + ByteArray.size t : Nat) : Int) ≤ 9223372036854775807) ∧
 Jv ((st.1 ++ t), (IntKind.wrap .i64 (st.2.1 + (1 : Int))), ()) h2) ∧
 ((decide (st.2.1 < (32 : Int))) = false →
 LoopP (T := ByteArray × Int × Unit) (fun Jv_1 st_1 h3 =>
 (((decide (st_1.2.1 < (32 : Int))) = true →
 (0 ≤ st_1.2.1 ∧ st_1.2.1 < (32 : Nat)) ∧
 ((st_1.2.1.toNat * 1) < 32) ∧
 newH h3 (.cells #[.int .u8 (rightv.getD (st_1.2.1.toNat * 1) 0)] 5 (0, 0)) fun bv_1 h4 =>
 ∃ t_1 : ByteArray, strH h4 (some ⟨bv_1, 0, none⟩ : Option Addr) 1 t_1 ∧
 (((ByteArray.size st_1.1 + ByteArray.size t_1 : Nat) : Int) ≤ 9223372036854775807) ∧
 Jv_1 ((st_1.1 ++ t_1), (IntKind.wrap .i64 (st_1.2.1 + (1 : Int))), ()) h4) ∧
 ((decide (st_1.2.1 < (32 : Int))) = false →
 K (.string st_1.1) h3))) (st.1, (0 : Int), ()) h1))) ((⟨#[78]⟩ : ByteArray), (0 : Int), ()) h
theorem F_ref15_InnerText_ok {leftv rightv : List Int} (hk0 : leftv.length = 32) (hk1 : rightv.length = 32) {K : Value → PH → Prop} {h : PH} (hh : F_ref15_InnerText leftv rightv K h) : CallH Tryz.prog id_ref15_InnerText [.agg ((leftv.map (Value.int .u8) ++ [])).toArray, .agg ((rightv.map (Value.int .u8) ++ [])).toArray] K h :=
 denF_sound' Tryz.func127 (H := ⟨[2, 3], [], [(0, ⟨[(5, .str), (6, .int .i64)], [], []⟩), (2, ⟨[(5, .str), (7, .int .i64)], [], []⟩)], []⟩) (xs := [.agg [.ints .u8 32 leftv], .agg [.ints .u8 32 rightv]]) (by kernel_rfl) (⟨⟨hk0, trivial⟩, ⟨hk1, trivial⟩, trivial⟩) (den_of (by kernel_rfl) hh)
def F_slices_Concat_string_string (slicesA : Option Addr) (slicesN _ : Nat) (K : Value → PH → Prop) (h : PH) : Prop :=
 LoopP (T := Int × Int × Unit) (fun Jv st h1 =>
 (((decide (st.2.1 < (slicesN : Int))) = true →
 ∃ bv ov : Nat, (slicesA = some ⟨bv, ov, none⟩ ∧ 0 ≤ st.2.1 ∧ st.2.1 < (slicesN : Nat)) ∧
 ∃ (sA : Option Addr) (sN sC : Nat), (h1.rds bv (ov + st.2.1.toNat * 1) 1 = some [.slice sA sN sC]) ∧
 (((decide ((IntKind.wrap .i64 (st.1 + (sN : Int))) < (0 : Int))) = true →
 False) ∧
 ((decide ((IntKind.wrap .i64 (st.1 + (sN : Int))) < (0 : Int))) = false →
 Jv ((IntKind.wrap .i64 (st.1 + (sN : Int))), (IntKind.wrap .i64 (st.2.1 + (1 : Int))), ()) h1))) ∧
 ((decide (st.2.1 < (slicesN : Int))) = false →
 CallH Tryz.prog id_slices_Grow_string_string [.slice none 0 0, .int .i64 st.1] (fun v h2 =>
 ∃ (newsliceA : Option Addr) (newsliceN newsliceC : Nat), v = .slice newsliceA newsliceN newsliceC ∧
 LoopP (T := (Option Addr × Nat × Nat) × Int × Unit) (fun Jv_1 st_1 h3 =>
 (((decide (st_1.2.1 < (slicesN : Int))) = true →
 ∃ bv_1 ov_1 : Nat, (slicesA = some ⟨bv_1, ov_1, none⟩ ∧ 0 ≤ st_1.2.1 ∧ st_1.2.1 < (slicesN : Nat)) ∧
 ∃ (sA_1 : Option Addr) (sN_1 sC_1 : Nat), (h3.rds bv_1 (ov_1 + st_1.2.1.toNat * 1) 1 = some [.slice sA_1 sN_1 sC_1]) ∧
 ∃ vs : List Value, srcH h3 sA_1 (sN_1 * 1) vs ∧
 appH 9 1 16 [.string (⟨#[]⟩ : ByteArray)] st_1.1.1 st_1.1.2.1 st_1.1.2.2 sN_1 vs (fun newsliceA_1 newsliceN_1 newsliceC_1 h4 =>
 Jv_1 ((newsliceA_1, newsliceN_1, newsliceC_1), (IntKind.wrap .i64 (st_1.2.1 + (1 : Int))), ()) h4) h3) ∧
 ((decide (st_1.2.1 < (slicesN : Int))) = false →
 K (.slice st_1.1.1 st_1.1.2.1 st_1.1.2.2) h3))) ((newsliceA, newsliceN, newsliceC), (0 : Int), ()) h2) h1))) ((0 : Int), (0 : Int), ()) h
theorem F_slices_Concat_string_string_ok {slicesA : Option Addr} {slicesN slicesC : Nat}  {K : Value → PH → Prop} {h : PH} (hh : F_slices_Concat_string_string slicesA slicesN slicesC K h) : CallH Tryz.prog id_slices_Concat_string_string [.slice slicesA slicesN slicesC] K h :=
 denF_sound' Tryz.func135 (H := ⟨[], [], [(0, ⟨[(3, .int .i64), (11, .int .i64)], [], []⟩), (2, ⟨[(6, .slice), (27, .int .i64)], [], []⟩)], []⟩) (xs := [.v (.slice slicesA slicesN slicesC)]) (by kernel_rfl) (⟨rfl, trivial⟩) (den_of (by kernel_rfl) hh)
def F_strings_Cut (sv sep : ByteArray) (K : Value → PH → Prop) (h : PH) : Prop :=
 CallH Tryz.prog id_internal_stringslite_Cut [.string sv, .string sep] (fun v h1 =>
 ∃ t0 t1 : ByteArray, ∃ t2 : Bool, v = .tuple #[.string t0, .string t1, .bool t2] ∧
 K (.tuple #[.string t0, .string t1, .bool t2]) h1) h
theorem F_strings_Cut_ok {sv sep : ByteArray}  {K : Value → PH → Prop} {h : PH} (hh : F_strings_Cut sv sep K h) : CallH Tryz.prog id_strings_Cut [.string sv, .string sep] K h :=
 denF_sound' Tryz.func138 (H := ⟨[], [], [], []⟩) (xs := [.v (.string sv), .v (.string sep)]) (by kernel_rfl) (⟨rfl, rfl, trivial⟩) (den_of (by kernel_rfl) hh)
def F_path_named (sv : ByteArray) (K : Value → PH → Prop) (h : PH) : Prop :=
 LoopP (T := Int × Unit) (fun Jv st h1 =>
 (((decide (st.1 < (sv.size : Int))) = true →
 (0 ≤ st.1 ∧ st.1 < (ByteArray.size sv : Nat)) ∧
 (((decide ((byteAt sv st.1) < (97 : Int))) = false → 0 ≤ st.1 ∧ st.1 < (ByteArray.size sv : Nat))) ∧
 ((((decide ((byteAt sv st.1) < (97 : Int))) || (decide ((byteAt sv st.1) > (122 : Int)))) = true →
 K (.bool false) h1) ∧
 (((decide ((byteAt sv st.1) < (97 : Int))) || (decide ((byteAt sv st.1) > (122 : Int)))) = false →
 Jv ((IntKind.wrap .i64 (st.1 + (1 : Int))), ()) h1))) ∧
 ((decide (st.1 < (sv.size : Int))) = false →
 K (.bool ((decide ((sv.size : Int) ≥ (1 : Int))) && (decide ((sv.size : Int) ≤ (8 : Int))))) h1))) ((0 : Int), ()) h
theorem F_path_named_ok {sv : ByteArray}  {K : Value → PH → Prop} {h : PH} (hh : F_path_named sv K h) : CallH Tryz.prog id_path_named [.string sv] K h :=
 denF_sound' Tryz.func139 (H := ⟨[], [], [(0, ⟨[(6, .int .i64)], [], []⟩)], []⟩) (xs := [.v (.string sv)]) (by kernel_rfl) (⟨rfl, trivial⟩) (den_of (by kernel_rfl) hh)
def F_path_key (sv : ByteArray) (K : Value → PH → Prop) (h : PH) : Prop :=
 ((((decide ((sv.size : Int) ≥ (1 : Int))) && (decide ((sv.size : Int) ≤ (24 : Int)))) = true →
 CallH Tryz.prog id_strings_IndexByte [.string sv, .int .u8 (0 : Int)] (fun v h1 =>
 ∃ t : Int, v = .int .i64 t ∧
 (((decide (t < (0 : Int))) = true →
 CallH Tryz.prog id_strings_IndexByte [.string sv, .int .u8 (47 : Int)] (fun v_1 h2 =>
 ∃ t_1 : Int, v_1 = .int .i64 t_1 ∧
 K (.bool (decide (t_1 < (0 : Int)))) h2) h1) ∧
 ((decide (t < (0 : Int))) = false →
 K (.bool false) h1))) h) ∧
 (((decide ((sv.size : Int) ≥ (1 : Int))) && (decide ((sv.size : Int) ≤ (24 : Int)))) = false →
 K (.bool false) h))
theorem F_path_key_ok {sv : ByteArray}  {K : Value → PH → Prop} {h : PH} (hh : F_path_key sv K h) : CallH Tryz.prog id_path_key [.string sv] K h :=
 denF_sound' Tryz.func140 (H := ⟨[], [], [], []⟩) (xs := [.v (.string sv)]) (by kernel_rfl) (⟨rfl, trivial⟩) (den_of (by kernel_rfl) hh)
def F_slices_BinarySearchFunc_api_Pair_api_Pair_string (xA : Option Addr) (xN _ : Nat) (target : ByteArray) (cmp : Value) (K : Value → PH → Prop) (h : PH) : Prop :=
 LoopP (T := Int × Int × Unit) (fun Jv st h1 =>
 (((decide (st.1 < st.2.1)) = true →
 ∃ bv ov : Nat, (xA = some ⟨bv, ov, none⟩ ∧ 0 ≤ (IntKind.wrap .i64 (shrV .u64 (IntKind.wrap .u64 (IntKind.wrap .i64 (st.1 + st.2.1))) (1 : Int))) ∧ (IntKind.wrap .i64 (shrV .u64 (IntKind.wrap .u64 (IntKind.wrap .i64 (st.1 + st.2.1))) (1 : Int))) < (xN : Nat)) ∧
 ∃ t0 t1 : ByteArray, (h1.rds bv (ov + (IntKind.wrap .i64 (shrV .u64 (IntKind.wrap .u64 (IntKind.wrap .i64 (st.1 + st.2.1))) (1 : Int))).toNat * 2) 2 = some [.string t0, .string t1]) ∧
 CallV Tryz.prog cmp [.agg #[.string t0, .string t1], .string target] (fun v h2 =>
 ∃ t : Int, v = .int .i64 t ∧
 (((decide (t < (0 : Int))) = true →
 Jv ((IntKind.wrap .i64 ((IntKind.wrap .i64 (shrV .u64 (IntKind.wrap .u64 (IntKind.wrap .i64 (st.1 + st.2.1))) (1 : Int))) + (1 : Int))), st.2.1, ()) h2) ∧
 ((decide (t < (0 : Int))) = false →
 Jv (st.1, (IntKind.wrap .i64 (shrV .u64 (IntKind.wrap .u64 (IntKind.wrap .i64 (st.1 + st.2.1))) (1 : Int))), ()) h2))) h1) ∧
 ((decide (st.1 < st.2.1)) = false →
 ∃ bv_1 ov_1 : Nat, (((decide (st.1 < (xN : Int))) = true → xA = some ⟨bv_1, ov_1, none⟩ ∧ 0 ≤ st.1 ∧ st.1 < (xN : Nat))) ∧
 ∃ t0_1 t1_1 : ByteArray, (((decide (st.1 < (xN : Int))) = true → h1.rds bv_1 (ov_1 + st.1.toNat * 2) 2 = some [.string t0_1, .string t1_1])) ∧
 (((decide (st.1 < (xN : Int))) = true →
 CallV Tryz.prog cmp [.agg #[.string t0_1, .string t1_1], .string target] (fun v_1 h3 =>
 ∃ t_1 : Int, v_1 = .int .i64 t_1 ∧
 K (.tuple #[.int .i64 st.1, .bool (t_1 == (0 : Int))]) h3) h1) ∧
 ((decide (st.1 < (xN : Int))) = false →
 K (.tuple #[.int .i64 st.1, .bool false]) h1))))) ((0 : Int), (xN : Int), ()) h
theorem F_slices_BinarySearchFunc_api_Pair_api_Pair_string_ok {xA : Option Addr} {xN xC : Nat} {target : ByteArray} {cmp : Value} (hk0 : one1 cmp = true) {K : Value → PH → Prop} {h : PH} (hh : F_slices_BinarySearchFunc_api_Pair_api_Pair_string xA xN xC target cmp K h) : CallH Tryz.prog id_slices_BinarySearchFunc_api_Pair_api_Pair_string [.slice xA xN xC, .string target, cmp] K h :=
 denF_sound' Tryz.func141 (H := ⟨[], [], [(0, ⟨[(9, .int .i64), (10, .int .i64)], [], []⟩)], []⟩) (xs := [.v (.slice xA xN xC), .v (.string target), .fn cmp]) (by kernel_rfl) (⟨rfl, rfl, hk0, trivial⟩) (den_of (by kernel_rfl) hh)
def F_ref14_Of (p : ByteArray) (K : Value → PH → Prop) (h : PH) : Prop :=
 CallH Tryz.prog id_ref02_Sum [.string p] (fun v h1 =>
 ∃ hv : List Int, hv.length = 32 ∧ v = .agg ((hv.map (Value.int .u8) ++ [])).toArray ∧
 K (.int .i64 (IntKind.wrap .i64 ((IntKind.wrap .i64 ((hv.take 1).getD 0 0)).tdiv (16 : Int)))) h1) h
theorem F_ref14_Of_ok {p : ByteArray}  {K : Value → PH → Prop} {h : PH} (hh : F_ref14_Of p K h) : CallH Tryz.prog id_ref14_Of [.string p] K h :=
 denF_sound' Tryz.func147 (H := ⟨[3], [], [], []⟩) (xs := [.v (.string p)]) (by kernel_rfl) (⟨rfl, trivial⟩) (den_of (by kernel_rfl) hh)
def F_bucket_bucket (i : Int) (K : Value → PH → Prop) (h : PH) : Prop :=
 K (.bool ((decide (i ≥ (0 : Int))) && (decide (i < (16 : Int))))) h
theorem F_bucket_bucket_ok {i : Int}  {K : Value → PH → Prop} {h : PH} (hh : F_bucket_bucket i K h) : CallH Tryz.prog id_bucket_bucket [.int .i64 i] K h :=
 denF_sound' Tryz.func153 (H := ⟨[], [], [], []⟩) (xs := [.v (.int .i64 i)]) (by kernel_rfl) (⟨rfl, trivial⟩) (den_of (by kernel_rfl) hh)
def F_bucket_Part (lA : Option Addr) (lN _ : Nat) (i : Int) (K : Value → PH → Prop) (h : PH) : Prop :=
 LoopP (T := (Option Addr × Nat × Nat) × Int × Unit) (fun Jv st h1 =>
 (((decide (st.2.1 < (lN : Int))) = true →
 ∃ bv ov : Nat, (lA = some ⟨bv, ov, none⟩ ∧ 0 ≤ st.2.1 ∧ st.2.1 < (lN : Nat)) ∧
 ∃ x0 x1 : ByteArray, (h1.rds bv (ov + st.2.1.toNat * 2) 2 = some [.string x0, .string x1]) ∧
 CallH Tryz.prog id_bucket_Of [.string x0] (fun v h2 =>
 ∃ t : Int, v = .int .i64 t ∧
 (((t == i) = true →
 appH T_api_Pair 2 32 [.string (⟨#[]⟩ : ByteArray), .string (⟨#[]⟩ : ByteArray)] st.1.1 st.1.2.1 st.1.2.2 1 [.string x0, .string x1] (fun outA outN outC h3 =>
 Jv ((outA, outN, outC), (IntKind.wrap .i64 (st.2.1 + (1 : Int))), ()) h3) h2) ∧
 ((t == i) = false →
 Jv ((st.1.1, st.1.2.1, st.1.2.2), (IntKind.wrap .i64 (st.2.1 + (1 : Int))), ()) h2))) h1) ∧
 ((decide (st.2.1 < (lN : Int))) = false →
 K (.slice st.1.1 st.1.2.1 st.1.2.2) h1))) ((none, 0, 0), (0 : Int), ()) h
theorem F_bucket_Part_ok {lA : Option Addr} {lN lC : Nat} {i : Int}  {K : Value → PH → Prop} {h : PH} (hh : F_bucket_Part lA lN lC i K h) : CallH Tryz.prog id_bucket_Part [.slice lA lN lC, .int .i64 i] K h :=
 denF_sound' Tryz.func154 (H := ⟨[7, 21], [], [(0, ⟨[(5, .slice), (10, .int .i64)], [], []⟩)], []⟩) (xs := [.v (.slice lA lN lC), .v (.int .i64 i)]) (by kernel_rfl) (⟨rfl, rfl, trivial⟩) (den_of (by kernel_rfl) hh)
def F_pack_Out_Num (ov : Option Addr) (n : Int) (K : Value → PH → Prop) (h : PH) : Prop :=
 CallH Tryz.prog id_pack_size [.int .u64 n] (fun v h1 =>
 ∃ leftv : Int, v = .int .i64 leftv ∧
 LoopP (T := Int × Int × Unit) (fun Jv st h2 =>
 (((decide (st.2.1 > (1 : Int))) = true →
 newH h2 (.cells #[.int .u8 (bitsV .or .u8 (IntKind.wrap .u8 st.1) (128 : Int))] 5 (0, 0)) fun bv h3 =>
 CallH Tryz.prog id_pack_Out_put [.pointer ov, .slice (some ⟨bv, 0, none⟩) 1 1] (fun _ h4 =>
 Jv ((shrV .u64 st.1 (7 : Int)), (IntKind.wrap .i64 (st.2.1 - (1 : Int))), ()) h4) h3) ∧
 ((decide (st.2.1 > (1 : Int))) = false →
 newH h2 (.cells #[.int .u8 (IntKind.wrap .u8 st.1)] 5 (0, 0)) fun bv_1 h5 =>
 CallH Tryz.prog id_pack_Out_put [.pointer ov, .slice (some ⟨bv_1, 0, none⟩) 1 1] (fun _ h6 =>
 K (.tuple #[]) h6) h5))) (n, leftv, ()) h1) h
theorem F_pack_Out_Num_ok {ov : Option Addr} {n : Int}  {K : Value → PH → Prop} {h : PH} (hh : F_pack_Out_Num ov n K h) : CallH Tryz.prog id_pack_Out_Num [.pointer ov, .int .u64 n] K h :=
 denF_sound' Tryz.func155 (H := ⟨[], [], [(0, ⟨[(1, .int .u64), (4, .int .i64)], [], []⟩)], []⟩) (xs := [.v (.pointer ov), .v (.int .u64 n)]) (by kernel_rfl) (⟨rfl, rfl, trivial⟩) (den_of (by kernel_rfl) hh)
def F_pack_Out_Text (ov : Option Addr) (sv : ByteArray) (K : Value → PH → Prop) (h : PH) : Prop :=
 CallH Tryz.prog id_pack_Out_Num [.pointer ov, .int .u64 (IntKind.wrap .u64 (sv.size : Int))] (fun _ h1 =>
 ∀ cap : Nat, ByteArray.size sv ≤ cap → newH h1 (.cells (byteVs sv ++ List.replicate (cap - ByteArray.size sv) (Value.int .u8 0)).toArray 5 (cap, cap + 1)) fun bv h2 =>
 CallH Tryz.prog id_pack_Out_put [.pointer ov, .slice (some ⟨bv, 0, none⟩) (ByteArray.size sv) cap] (fun _ h3 =>
 K (.tuple #[]) h3) h2) h
theorem F_pack_Out_Text_ok {ov : Option Addr} {sv : ByteArray}  {K : Value → PH → Prop} {h : PH} (hh : F_pack_Out_Text ov sv K h) : CallH Tryz.prog id_pack_Out_Text [.pointer ov, .string sv] K h :=
 denF_sound' Tryz.func156 (H := ⟨[], [], [], []⟩) (xs := [.v (.pointer ov), .v (.string sv)]) (by kernel_rfl) (⟨rfl, rfl, trivial⟩) (den_of (by kernel_rfl) hh)
def F_pack_Out_String (ov : Option Addr) (K : Value → PH → Prop) (h : PH) : Prop :=
 (((Option.isNone ov) = true →
 K (.string (⟨#[]⟩ : ByteArray)) h) ∧
 ((Option.isNone ov) = false →
 ∃ bv ov_1 : Nat, ov = some ⟨bv, ov_1, none⟩ ∧
 ∃ (tA : Option Addr) (tN tC : Nat), (h.rds bv ov_1 1 = some [.slice tA tN tC]) ∧
 ∃ t : ByteArray, strH h tA tN t ∧
 K (.string t) h))
theorem F_pack_Out_String_ok {ov : Option Addr}  {K : Value → PH → Prop} {h : PH} (hh : F_pack_Out_String ov K h) : CallH Tryz.prog id_pack_Out_String [.pointer ov] K h :=
 denF_sound' Tryz.func157 (H := ⟨[], [], [], []⟩) (xs := [.v (.pointer ov)]) (by kernel_rfl) (⟨rfl, trivial⟩) (den_of (by kernel_rfl) hh)
def F_internal_bytealg_CompareString (a bv : ByteArray) (K : Value → PH → Prop) (h : PH) : Prop :=
 ExtH Tryz.prog id_internal_bytealg_abigen_runtime_cmpstring [.string a, .string bv] (fun v h1 =>
 ∃ t : Int, v = .int .i64 t ∧
 K (.int .i64 t) h1) h
theorem F_internal_bytealg_CompareString_ok {a bv : ByteArray}  {K : Value → PH → Prop} {h : PH} (hh : F_internal_bytealg_CompareString a bv K h) : CallH Tryz.prog id_internal_bytealg_CompareString [.string a, .string bv] K h :=
 denF_sound' Tryz.func160 (H := ⟨[], [], [], []⟩) (xs := [.v (.string a), .v (.string bv)]) (by kernel_rfl) (⟨rfl, rfl, trivial⟩) (den_of (by kernel_rfl) hh)
def F_ref14_Page (i : Int) (lA : Option Addr) (lN lC : Nat) (K : Value → PH → Prop) (h : PH) : Prop :=
 JoinP (T := Unit) (fun Jv =>
 ((((decide (i < (0 : Int))) || (decide (i > (15 : Int)))) = false →
 CallH Tryz.prog id_ref14_May [.slice lA lN lC] (fun v h2 =>
 ∃ t : Bool, v = .bool t ∧
 (((!t) = true →
 K (.tuple #[.string (⟨#[]⟩ : ByteArray), .int .i64 (1 : Int)]) h2) ∧
 ((!t) = false →
 Jv (()) h2))) h) ∧
 (((decide (i < (0 : Int))) || (decide (i > (15 : Int)))) = true →
 K (.tuple #[.string (⟨#[]⟩ : ByteArray), .int .i64 (1 : Int)]) h)))
 (fun _ h1 =>
 CallH Tryz.prog id_ref12_Num [.int .u64 (IntKind.wrap .u64 (lN : Int))] (fun v_1 h3 =>
 ∃ sv : ByteArray, v_1 = .string sv ∧
 LoopP (T := ByteArray × Int × Unit) (fun Jv_1 st_1 h4 =>
 (((decide (st_1.2.1 < (lN : Int))) = true →
 ∃ bv ov : Nat, (lA = some ⟨bv, ov, none⟩ ∧ 0 ≤ st_1.2.1 ∧ st_1.2.1 < (lN : Nat)) ∧
 ∃ t_1 : ByteArray, (h4.rds bv (ov + st_1.2.1.toNat * 2) 1 = some [.string t_1]) ∧
 CallH Tryz.prog id_ref14_Of [.string t_1] (fun v_2 h5 =>
 ∃ t_2 : Int, v_2 = .int .i64 t_2 ∧
 (((t_2 != i) = true →
 K (.tuple #[.string (⟨#[]⟩ : ByteArray), .int .i64 (1 : Int)]) h5) ∧
 ((t_2 != i) = false →
 ∃ bv_1 ov_1 : Nat, (lA = some ⟨bv_1, ov_1, none⟩ ∧ 0 ≤ st_1.2.1 ∧ st_1.2.1 < (lN : Nat)) ∧
 ∃ t_3 : ByteArray, (h5.rds bv_1 (ov_1 + st_1.2.1.toNat * 2) 1 = some [.string t_3]) ∧
 ∃ bv_2 ov_2 : Nat, (lA = some ⟨bv_2, ov_2, none⟩ ∧ 0 ≤ st_1.2.1 ∧ st_1.2.1 < (lN : Nat)) ∧
 ∃ t_4 : ByteArray, (h5.rds bv_2 ((ov_2 + st_1.2.1.toNat * 2) + 1) 1 = some [.string t_4]) ∧
 CallH Tryz.prog id_ref12_Text [.string t_3] (fun v_3 h6 =>
 ∃ t_5 : ByteArray, v_3 = .string t_5 ∧
 (h6.rds bv_2 ((ov_2 + st_1.2.1.toNat * 2) + 1) 1 = some [.string t_4]) ∧
 (((ByteArray.size st_1.1 + ByteArray.size t_5 : Nat) : Int) ≤ 9223372036854775807) ∧
 CallH Tryz.prog id_ref12_Text [.string t_4] (fun v_4 h7 =>
 ∃ t_6 : ByteArray, v_4 = .string t_6 ∧
 (((ByteArray.size (st_1.1 ++ t_5) + ByteArray.size t_6 : Nat) : Int) ≤ 9223372036854775807) ∧
 Jv_1 (((st_1.1 ++ t_5) ++ t_6), (IntKind.wrap .i64 (st_1.2.1 + (1 : Int))), ()) h7) h6) h5))) h4) ∧
 ((decide (st_1.2.1 < (lN : Int))) = false →
 (((decide ((lN : Int) > (48 : Int))) = true →
 K (.tuple #[.string (⟨#[]⟩ : ByteArray), .int .i64 (3 : Int)]) h4) ∧
 ((decide ((lN : Int) > (48 : Int))) = false →
 K (.tuple #[.string st_1.1, .int .i64 (0 : Int)]) h4))))) (sv, (0 : Int), ()) h3) h1)
theorem F_ref14_Page_ok {i : Int} {lA : Option Addr} {lN lC : Nat}  {K : Value → PH → Prop} {h : PH} (hh : F_ref14_Page i lA lN lC K h) : CallH Tryz.prog id_ref14_Page [.int .i64 i, .slice lA lN lC] K h :=
 denF_sound' Tryz.func164 (H := ⟨[], [(9, .of [0, 1, 2, 3, 4, 5, 8, 9, 10, 11, 12, 6, 7, 13, 14, 15])], [(0, ⟨[(6, .str), (7, .int .i64)], [], []⟩)], [(8, ⟨[], [], []⟩)]⟩) (xs := [.v (.int .i64 i), .v (.slice lA lN lC)]) (by kernel_rfl) (⟨rfl, rfl, trivial⟩) (den_of (by kernel_rfl) hh)
def F_slices_Grow_string_string (sA : Option Addr) (sN sC : Nat) (n : Int) (K : Value → PH → Prop) (h : PH) : Prop :=
 JoinP (T := Unit) (fun Jv =>
 (((decide (n < (0 : Int))) = true →
 False) ∧
 ((decide (n < (0 : Int))) = false →
 Jv (()) h)))
 (fun _ h1 =>
 (((decide ((IntKind.wrap .i64 (n - (IntKind.wrap .i64 ((sC : Int) - (sN : Int))))) > (0 : Int))) = true →
 (0 ≤ (0 : Int) ∧ (0 : Int) ≤ (sC : Int) ∧ (sC : Int) ≤ (sC : Int) ∧ (sC : Int) ≤ (sC : Nat)) ∧
 (0 ≤ (IntKind.wrap .i64 (n - (IntKind.wrap .i64 ((sC : Int) - (sN : Int))))) ∧ (IntKind.wrap .i64 (n - (IntKind.wrap .i64 ((sC : Int) - (sN : Int))))) * (16 : Nat) ≤ 140737488355328) ∧
 appH 9 1 16 [.string (⟨#[]⟩ : ByteArray)] (slA sA 1 (0 : Int) (sC : Int)) ((sC : Int).toNat - (0 : Int).toNat) ((sC : Int).toNat - (0 : Int).toNat) ((IntKind.wrap .i64 (n - (IntKind.wrap .i64 ((sC : Int) - (sN : Int)))))).toNat (List.replicate ((IntKind.wrap .i64 (n - (IntKind.wrap .i64 ((sC : Int) - (sN : Int)))))).toNat [.string (⟨#[]⟩ : ByteArray)]).flatten (fun tA _ tC h2 =>
 (0 ≤ (0 : Int) ∧ (0 : Int) ≤ (sN : Int) ∧ (sN : Int) ≤ (tC : Int) ∧ (tC : Int) ≤ (tC : Nat)) ∧
 K (.slice (slA tA 1 (0 : Int) (tC : Int)) ((sN : Int).toNat - (0 : Int).toNat) ((tC : Int).toNat - (0 : Int).toNat)) h2) h1) ∧
 ((decide ((IntKind.wrap .i64 (n - (IntKind.wrap .i64 ((sC : Int) - (sN : Int))))) > (0 : Int))) = false →
 K (.slice sA sN sC) h1)))
theorem F_slices_Grow_string_string_ok {sA : Option Addr} {sN sC : Nat} {n : Int}  {K : Value → PH → Prop} {h : PH} (hh : F_slices_Grow_string_string sA sN sC n K h) : CallH Tryz.prog id_slices_Grow_string_string [.slice sA sN sC, .int .i64 n] K h :=
 denF_sound' Tryz.func170 (H := ⟨[], [], [], [(8, ⟨[], [], []⟩)]⟩) (xs := [.v (.slice sA sN sC), .v (.int .i64 n)]) (by kernel_rfl) (⟨rfl, rfl, trivial⟩) (den_of (by kernel_rfl) hh)
def F_internal_stringslite_Cut (sv sep : ByteArray) (K : Value → PH → Prop) (h : PH) : Prop :=
 CallH Tryz.prog id_internal_stringslite_Index [.string sv, .string sep] (fun v h1 =>
 ∃ i : Int, v = .int .i64 i ∧
 (((decide (i ≥ (0 : Int))) = true →
 (0 ≤ (0 : Int) ∧ (0 : Int) ≤ i ∧ i ≤ (ByteArray.size sv : Nat)) ∧
 (0 ≤ (IntKind.wrap .i64 (i + (sep.size : Int))) ∧ (IntKind.wrap .i64 (i + (sep.size : Int))) ≤ ((ByteArray.size sv : Nat) : Int) ∧ ((ByteArray.size sv : Nat) : Int) ≤ (ByteArray.size sv : Nat)) ∧
 K (.tuple #[.string (subS sv (0 : Int) i), .string (subS sv (IntKind.wrap .i64 (i + (sep.size : Int))) ((ByteArray.size sv : Nat) : Int)), .bool true]) h1) ∧
 ((decide (i ≥ (0 : Int))) = false →
 K (.tuple #[.string sv, .string (⟨#[]⟩ : ByteArray), .bool false]) h1))) h
theorem F_internal_stringslite_Cut_ok {sv sep : ByteArray}  {K : Value → PH → Prop} {h : PH} (hh : F_internal_stringslite_Cut sv sep K h) : CallH Tryz.prog id_internal_stringslite_Cut [.string sv, .string sep] K h :=
 denF_sound' Tryz.func171 (H := ⟨[], [], [], []⟩) (xs := [.v (.string sv), .v (.string sep)]) (by kernel_rfl) (⟨rfl, rfl, trivial⟩) (den_of (by kernel_rfl) hh)
def F_strings_IndexByte (sv : ByteArray) (cv : Int) (K : Value → PH → Prop) (h : PH) : Prop :=
 CallH Tryz.prog id_internal_stringslite_IndexByte [.string sv, .int .u8 cv] (fun v h1 =>
 ∃ t : Int, v = .int .i64 t ∧
 K (.int .i64 t) h1) h
theorem F_strings_IndexByte_ok {sv : ByteArray} {cv : Int}  {K : Value → PH → Prop} {h : PH} (hh : F_strings_IndexByte sv cv K h) : CallH Tryz.prog id_strings_IndexByte [.string sv, .int .u8 cv] K h :=
 denF_sound' Tryz.func172 (H := ⟨[], [], [], []⟩) (xs := [.v (.string sv), .v (.int .u8 cv)]) (by kernel_rfl) (⟨rfl, rfl, trivial⟩) (den_of (by kernel_rfl) hh)
def F_pack_size (n : Int) (K : Value → PH → Prop) (h : PH) : Prop :=
 CallH Tryz.prog id_math_bits_Len64 [.int .u64 n] (fun v h1 =>
 ∃ t : Int, v = .int .i64 t ∧
 K (.int .i64 (maxV (1 : Int) (IntKind.wrap .i64 ((IntKind.wrap .i64 ((IntKind.wrap .i64 (t + (7 : Int))) - (1 : Int))).tdiv (7 : Int))))) h1) h
theorem F_pack_size_ok {n : Int}  {K : Value → PH → Prop} {h : PH} (hh : F_pack_size n K h) : CallH Tryz.prog id_pack_size [.int .u64 n] K h :=
 denF_sound' Tryz.func176 (H := ⟨[], [], [], []⟩) (xs := [.v (.int .u64 n)]) (by kernel_rfl) (⟨rfl, trivial⟩) (den_of (by kernel_rfl) hh)
def F_pack_Out_put (ov bA : Option Addr) (bN _ : Nat) (K : Value → PH → Prop) (h : PH) : Prop :=
 (((!(Option.isNone ov)) = true →
 ∃ bv ov_1 : Nat, ov = some ⟨bv, ov_1, none⟩ ∧
 ∃ (tA : Option Addr) (tN tC : Nat), (h.rds bv ov_1 1 = some [.slice tA tN tC]) ∧
 ∃ vs : List Value, srcH h bA (bN * 1) vs ∧
 appH 5 1 1 [.int .u8 (0 : Int)] tA tN tC bN vs (fun tA_1 tN_1 tC_1 h1 =>
 ∃ bv_1 ov_2 : Nat, ov = some ⟨bv_1, ov_2, none⟩ ∧
 stH h1 bv_1 ov_2 [.slice tA_1 tN_1 tC_1] fun h2 =>
 K (.tuple #[]) h2) h) ∧
 ((!(Option.isNone ov)) = false →
 K (.tuple #[]) h))
theorem F_pack_Out_put_ok {ov bA : Option Addr} {bN bC : Nat}  {K : Value → PH → Prop} {h : PH} (hh : F_pack_Out_put ov bA bN bC K h) : CallH Tryz.prog id_pack_Out_put [.pointer ov, .slice bA bN bC] K h :=
 denF_sound' Tryz.func177 (H := ⟨[], [], [], []⟩) (xs := [.v (.pointer ov), .v (.slice bA bN bC)]) (by kernel_rfl) (⟨rfl, rfl, trivial⟩) (den_of (by kernel_rfl) hh)
def F_ref12_Num (n : Int) (K : Value → PH → Prop) (h : PH) : Prop :=
 LoopP (T := ByteArray × Int × Unit) (fun Jv st h1 =>
 (((decide (st.2.1 > (127 : Int))) = true →
 newH h1 (.cells #[.int .u8 (IntKind.wrap .u8 (IntKind.wrap .u64 ((st.2.1.tmod (128 : Int)) + (128 : Int))))] 5 (0, 0)) fun bv h2 =>
 ∃ t : ByteArray, strH h2 (some ⟨bv, 0, none⟩ : Option Addr) 1 t ∧
 (((ByteArray.size st.1 + ByteArray.size t : Nat) : Int) ≤ 9223372036854775807) ∧
 Jv ((st.1 ++ t), (IntKind.wrap .u64 (st.2.1.tdiv (128 : Int))), ()) h2) ∧
 ((decide (st.2.1 > (127 : Int))) = false →
 newH h1 (.cells #[.int .u8 (IntKind.wrap .u8 st.2.1)] 5 (0, 0)) fun bv_1 h3 =>
 ∃ t_1 : ByteArray, strH h3 (some ⟨bv_1, 0, none⟩ : Option Addr) 1 t_1 ∧
 (((ByteArray.size st.1 + ByteArray.size t_1 : Nat) : Int) ≤ 9223372036854775807) ∧
 K (.string (st.1 ++ t_1)) h3))) ((⟨#[]⟩ : ByteArray), n, ()) h
theorem F_ref12_Num_ok {n : Int}  {K : Value → PH → Prop} {h : PH} (hh : F_ref12_Num n K h) : CallH Tryz.prog id_ref12_Num [.int .u64 n] K h :=
 denF_sound' Tryz.func192 (H := ⟨[], [], [(0, ⟨[(3, .str), (0, .int .u64)], [], []⟩)], []⟩) (xs := [.v (.int .u64 n)]) (by kernel_rfl) (⟨rfl, trivial⟩) (den_of (by kernel_rfl) hh)
def F_ref12_Text (sv : ByteArray) (K : Value → PH → Prop) (h : PH) : Prop :=
 CallH Tryz.prog id_ref12_Num [.int .u64 (IntKind.wrap .u64 (sv.size : Int))] (fun v h1 =>
 ∃ t : ByteArray, v = .string t ∧
 (((ByteArray.size t + ByteArray.size sv : Nat) : Int) ≤ 9223372036854775807) ∧
 K (.string (t ++ sv)) h1) h
theorem F_ref12_Text_ok {sv : ByteArray}  {K : Value → PH → Prop} {h : PH} (hh : F_ref12_Text sv K h) : CallH Tryz.prog id_ref12_Text [.string sv] K h :=
 denF_sound' Tryz.func193 (H := ⟨[], [], [], []⟩) (xs := [.v (.string sv)]) (by kernel_rfl) (⟨rfl, trivial⟩) (den_of (by kernel_rfl) hh)
set_option maxRecDepth 100000 in
def F_internal_stringslite_Index (sv : ByteArray) (substr : ByteArray) (K : Value → PH → Prop) (h : PH) : Prop :=
 (((((substr.size : Int) == (0 : Int)) || (strEq substr sv)) = true →
 K (.int .i64 (0 : Int)) h) ∧
 ((((substr.size : Int) == (0 : Int)) || (strEq substr sv)) = false →
 ((((substr.size : Int) == (1 : Int)) = true →
 (0 ≤ (0 : Int) ∧ (0 : Int) < (ByteArray.size substr : Nat)) ∧
 CallH Tryz.prog id_internal_stringslite_IndexByte [.string sv, .int .u8 (byteAt substr (0 : Int))] (fun v h1 =>
 ∃ t : Int, v = .int .i64 t ∧
 K (.int .i64 t) h1) h) ∧
 (((substr.size : Int) == (1 : Int)) = false →
 (((decide ((substr.size : Int) ≥ (sv.size : Int))) = true →
 K (.int .i64 (-1 : Int)) h) ∧
 ((decide ((substr.size : Int) ≥ (sv.size : Int))) = false →
 ∃ t_1 : Int, (h.rds 0 0 1 = some [.int .i64 t_1]) ∧
 ((((decide ((substr.size : Int) ≤ t_1)) && (decide ((sv.size : Int) ≤ (64 : Int)))) = true →
 ExtH Tryz.prog id_internal_bytealg_IndexString [.string sv, .string substr] (fun v_1 h2 =>
 ∃ t_2 : Int, v_1 = .int .i64 t_2 ∧
 K (.int .i64 t_2) h2) h) ∧
 (((decide ((substr.size : Int) ≤ t_1)) && (decide ((sv.size : Int) ≤ (64 : Int)))) = false →
 (0 ≤ (0 : Int) ∧ (0 : Int) < (ByteArray.size substr : Nat)) ∧
 (0 ≤ (1 : Int) ∧ (1 : Int) < (ByteArray.size substr : Nat)) ∧
 LoopP (T := Int × Int × Unit) (fun Jv st h3 =>
 (((decide (st.1 < (IntKind.wrap .i64 ((IntKind.wrap .i64 ((sv.size : Int) - (substr.size : Int))) + (1 : Int))))) = true →
 JoinP (T := Int × Unit) (fun Jv_1 =>
 (0 ≤ st.1 ∧ st.1 < (ByteArray.size sv : Nat)) ∧
 ((((byteAt sv st.1) != (byteAt substr (0 : Int))) = true →
 (0 ≤ (IntKind.wrap .i64 (st.1 + (1 : Int))) ∧ (IntKind.wrap .i64 (st.1 + (1 : Int))) ≤ (IntKind.wrap .i64 ((IntKind.wrap .i64 ((sv.size : Int) - (substr.size : Int))) + (1 : Int))) ∧ (IntKind.wrap .i64 ((IntKind.wrap .i64 ((sv.size : Int) - (substr.size : Int))) + (1 : Int))) ≤ (ByteArray.size sv : Nat)) ∧
 CallH Tryz.prog id_internal_stringslite_IndexByte [.string (subS sv (IntKind.wrap .i64 (st.1 + (1 : Int))) (IntKind.wrap .i64 ((IntKind.wrap .i64 ((sv.size : Int) - (substr.size : Int))) + (1 : Int)))), .int .u8 (byteAt substr (0 : Int))] (fun v_2 h5 =>
 ∃ ov : Int, v_2 = .int .i64 ov ∧
 (((decide (ov < (0 : Int))) = true →
 K (.int .i64 (-1 : Int)) h5) ∧
 ((decide (ov < (0 : Int))) = false →
 Jv_1 ((IntKind.wrap .i64 (st.1 + (IntKind.wrap .i64 (ov + (1 : Int))))), ()) h5))) h3) ∧
 (((byteAt sv st.1) != (byteAt substr (0 : Int))) = false →
 Jv_1 (st.1, ()) h3)))
 (fun st_1 h4 =>
 (0 ≤ (IntKind.wrap .i64 (st_1.1 + (1 : Int))) ∧ (IntKind.wrap .i64 (st_1.1 + (1 : Int))) < (ByteArray.size sv : Nat)) ∧
 ((((byteAt sv (IntKind.wrap .i64 (st_1.1 + (1 : Int)))) == (byteAt substr (1 : Int))) = true → 0 ≤ st_1.1 ∧ st_1.1 ≤ (IntKind.wrap .i64 (st_1.1 + (substr.size : Int))) ∧ (IntKind.wrap .i64 (st_1.1 + (substr.size : Int))) ≤ (ByteArray.size sv : Nat))) ∧
 (((((byteAt sv (IntKind.wrap .i64 (st_1.1 + (1 : Int)))) == (byteAt substr (1 : Int))) && (strEq (subS sv st_1.1 (IntKind.wrap .i64 (st_1.1 + (substr.size : Int)))) substr)) = true →
 K (.int .i64 st_1.1) h4) ∧
 ((((byteAt sv (IntKind.wrap .i64 (st_1.1 + (1 : Int)))) == (byteAt substr (1 : Int))) && (strEq (subS sv st_1.1 (IntKind.wrap .i64 (st_1.1 + (substr.size : Int)))) substr)) = false →
 ∃ t_3 : Int, (h4.rds 0 0 1 = some [.int .i64 t_3]) ∧
 (((decide ((substr.size : Int) ≤ t_3)) = true →
 CallH Tryz.prog id_internal_bytealg_Cutover [.int .i64 (IntKind.wrap .i64 (st_1.1 + (1 : Int)))] (fun v_3 h6 =>
 ∃ t_4 : Int, v_3 = .int .i64 t_4 ∧
 (((decide ((IntKind.wrap .i64 (st.2.1 + (1 : Int))) > t_4)) = true →
 (0 ≤ (IntKind.wrap .i64 (st_1.1 + (1 : Int))) ∧ (IntKind.wrap .i64 (st_1.1 + (1 : Int))) ≤ ((ByteArray.size sv : Nat) : Int) ∧ ((ByteArray.size sv : Nat) : Int) ≤ (ByteArray.size sv : Nat)) ∧
 ExtH Tryz.prog id_internal_bytealg_IndexString [.string (subS sv (IntKind.wrap .i64 (st_1.1 + (1 : Int))) ((ByteArray.size sv : Nat) : Int)), .string substr] (fun v_4 h7 =>
 ∃ r : Int, v_4 = .int .i64 r ∧
 (((decide (r ≥ (0 : Int))) = true →
 K (.int .i64 (IntKind.wrap .i64 (r + (IntKind.wrap .i64 (st_1.1 + (1 : Int)))))) h7) ∧
 ((decide (r ≥ (0 : Int))) = false →
 K (.int .i64 (-1 : Int)) h7))) h6) ∧
 ((decide ((IntKind.wrap .i64 (st.2.1 + (1 : Int))) > t_4)) = false →
 ∃ t_5 : Int, (h6.rds 0 0 1 = some [.int .i64 t_5]) ∧
 (((((decide ((substr.size : Int) > t_5)) && (decide ((IntKind.wrap .i64 (st.2.1 + (1 : Int))) ≥ (IntKind.wrap .i64 ((4 : Int) + (shrV .i64 (IntKind.wrap .i64 (st_1.1 + (1 : Int))) (4 : Int))))))) && (decide ((IntKind.wrap .i64 (st_1.1 + (1 : Int))) < (IntKind.wrap .i64 ((IntKind.wrap .i64 ((sv.size : Int) - (substr.size : Int))) + (1 : Int)))))) = true →
 (0 ≤ (IntKind.wrap .i64 (st_1.1 + (1 : Int))) ∧ (IntKind.wrap .i64 (st_1.1 + (1 : Int))) ≤ ((ByteArray.size sv : Nat) : Int) ∧ ((ByteArray.size sv : Nat) : Int) ≤ (ByteArray.size sv : Nat)) ∧
 CallH Tryz.prog id_internal_bytealg_IndexRabinKarp_string [.string (subS sv (IntKind.wrap .i64 (st_1.1 + (1 : Int))) ((ByteArray.size sv : Nat) : Int)), .string substr] (fun v_5 h8 =>
 ∃ j : Int, v_5 = .int .i64 j ∧
 (((decide (j < (0 : Int))) = true →
 K (.int .i64 (-1 : Int)) h8) ∧
 ((decide (j < (0 : Int))) = false →
 K (.int .i64 (IntKind.wrap .i64 ((IntKind.wrap .i64 (st_1.1 + (1 : Int))) + j))) h8))) h6) ∧
 ((((decide ((substr.size : Int) > t_5)) && (decide ((IntKind.wrap .i64 (st.2.1 + (1 : Int))) ≥ (IntKind.wrap .i64 ((4 : Int) + (shrV .i64 (IntKind.wrap .i64 (st_1.1 + (1 : Int))) (4 : Int))))))) && (decide ((IntKind.wrap .i64 (st_1.1 + (1 : Int))) < (IntKind.wrap .i64 ((IntKind.wrap .i64 ((sv.size : Int) - (substr.size : Int))) + (1 : Int)))))) = false →
 Jv ((IntKind.wrap .i64 (st_1.1 + (1 : Int))), (IntKind.wrap .i64 (st.2.1 + (1 : Int))), ()) h6))))) h4) ∧
 ((decide ((substr.size : Int) ≤ t_3)) = false →
 ∃ t_6 : Int, (h4.rds 0 0 1 = some [.int .i64 t_6]) ∧
 (((((decide ((substr.size : Int) > t_6)) && (decide ((IntKind.wrap .i64 (st.2.1 + (1 : Int))) ≥ (IntKind.wrap .i64 ((4 : Int) + (shrV .i64 (IntKind.wrap .i64 (st_1.1 + (1 : Int))) (4 : Int))))))) && (decide ((IntKind.wrap .i64 (st_1.1 + (1 : Int))) < (IntKind.wrap .i64 ((IntKind.wrap .i64 ((sv.size : Int) - (substr.size : Int))) + (1 : Int)))))) = true →
 (0 ≤ (IntKind.wrap .i64 (st_1.1 + (1 : Int))) ∧ (IntKind.wrap .i64 (st_1.1 + (1 : Int))) ≤ ((ByteArray.size sv : Nat) : Int) ∧ ((ByteArray.size sv : Nat) : Int) ≤ (ByteArray.size sv : Nat)) ∧
 CallH Tryz.prog id_internal_bytealg_IndexRabinKarp_string [.string (subS sv (IntKind.wrap .i64 (st_1.1 + (1 : Int))) ((ByteArray.size sv : Nat) : Int)), .string substr] (fun v_6 h9 =>
 ∃ j_1 : Int, v_6 = .int .i64 j_1 ∧
 (((decide (j_1 < (0 : Int))) = true →
 K (.int .i64 (-1 : Int)) h9) ∧
 ((decide (j_1 < (0 : Int))) = false →
 K (.int .i64 (IntKind.wrap .i64 ((IntKind.wrap .i64 (st_1.1 + (1 : Int))) + j_1))) h9))) h4) ∧
 ((((decide ((substr.size : Int) > t_6)) && (decide ((IntKind.wrap .i64 (st.2.1 + (1 : Int))) ≥ (IntKind.wrap .i64 ((4 : Int) + (shrV .i64 (IntKind.wrap .i64 (st_1.1 + (1 : Int))) (4 : Int))))))) && (decide ((IntKind.wrap .i64 (st_1.1 + (1 : Int))) < (IntKind.wrap .i64 ((IntKind.wrap .i64 ((sv.size : Int) - (substr.size : Int))) + (1 : Int)))))) = false →
 Jv ((IntKind.wrap .i64 (st_1.1 + (1 : Int))), (IntKind.wrap .i64 (st.2.1 + (1 : Int))), ()) h4)))))))) ∧
 ((decide (st.1 < (IntKind.wrap .i64 ((IntKind.wrap .i64 ((sv.size : Int) - (substr.size : Int))) + (1 : Int))))) = false →
 K (.int .i64 (-1 : Int)) h3))) ((0 : Int), (0 : Int), ()) h))))))))
set_option maxRecDepth 100000 in
theorem F_internal_stringslite_Index_ok {sv substr : ByteArray}  {K : Value → PH → Prop} {h : PH} (hh : F_internal_stringslite_Index sv substr K h) : CallH Tryz.prog id_internal_stringslite_Index [.string sv, .string substr] K h :=
 denF_sound' Tryz.func199 (H := ⟨[], [], [(1, ⟨[(8, .int .i64), (10, .int .i64)], [], []⟩)], [(44, ⟨[(8, .int .i64)], [], []⟩)]⟩) (xs := [.v (.string sv), .v (.string substr)]) (by kernel_rfl) (⟨rfl, rfl, trivial⟩) (den_of (by kernel_rfl) hh)
def F_internal_stringslite_IndexByte (sv : ByteArray) (cv : Int) (K : Value → PH → Prop) (h : PH) : Prop :=
 ExtH Tryz.prog id_internal_bytealg_IndexByteString [.string sv, .int .u8 cv] (fun v h1 =>
 ∃ t : Int, v = .int .i64 t ∧
 K (.int .i64 t) h1) h
theorem F_internal_stringslite_IndexByte_ok {sv : ByteArray} {cv : Int}  {K : Value → PH → Prop} {h : PH} (hh : F_internal_stringslite_IndexByte sv cv K h) : CallH Tryz.prog id_internal_stringslite_IndexByte [.string sv, .int .u8 cv] K h :=
 denF_sound' Tryz.func200 (H := ⟨[], [], [], []⟩) (xs := [.v (.string sv), .v (.int .u8 cv)]) (by kernel_rfl) (⟨rfl, rfl, trivial⟩) (den_of (by kernel_rfl) hh)
end TL

namespace TL
open Go Go.Proofs
def F_tree_New  (K : Value → PH → Prop) (h : PH) : Prop :=
 newH h (.cells (((List.replicate 16 (.slice none 0 0 : Value)) ++ ((List.replicate 1024 (.int .u8 (0 : Int) : Value)) ++ ([.int .i64 (0 : Int)] : List Value)))).toArray T_tree_Tree (0, 0)) fun bv h1 =>
 LoopP (T := Int × Unit) (fun Jv st h2 =>
 (((decide (st.1 < (16 : Int))) = true →
 ∃ bv_1 ov : Nat, (some ⟨bv, 0, none⟩ : Option Addr) = some ⟨bv_1, ov, none⟩ ∧
 CallH Tryz.prog id_tree_Tree_page [.pointer (some ⟨bv, 0, none⟩), .int .i64 st.1] (fun v h3 =>
 ∃ t : ByteArray, v = .string t ∧
 CallH Tryz.prog id_tree_Leaf [.string t] (fun v_1 h4 =>
 ∃ t_1 : List Int, t_1.length = 32 ∧ v_1 = .agg ((t_1.map (Value.int .u8) ++ [])).toArray ∧
 (0 ≤ (IntKind.wrap .i64 ((16 : Int) + st.1)) ∧ (IntKind.wrap .i64 ((16 : Int) + st.1)) < (32 : Nat)) ∧
 stH h4 bv_1 ((ov + 16) + (IntKind.wrap .i64 ((16 : Int) + st.1)).toNat * 32) (t_1.map (Value.int .u8) ++ []) fun h5 =>
 Jv ((IntKind.wrap .i64 (st.1 + (1 : Int))), ()) h5) h3) h2) ∧
 ((decide (st.1 < (16 : Int))) = false →
 LoopP (T := Int × Unit) (fun Jv_1 st_1 h6 =>
 (((decide (st_1.1 > (0 : Int))) = true →
 ∃ bv_2 ov_1 : Nat, (some ⟨bv, 0, none⟩ : Option Addr) = some ⟨bv_2, ov_1, none⟩ ∧
 (0 ≤ (IntKind.wrap .i64 ((2 : Int) * st_1.1)) ∧ (IntKind.wrap .i64 ((2 : Int) * st_1.1)) < (32 : Nat)) ∧
 ∃ t_2 : List Int, t_2.length = 32 ∧ (h6.rds bv_2 ((ov_1 + 16) + (IntKind.wrap .i64 ((2 : Int) * st_1.1)).toNat * 32) 32 = some (t_2.map (Value.int .u8) ++ [])) ∧
 ∃ bv_3 ov_2 : Nat, (some ⟨bv, 0, none⟩ : Option Addr) = some ⟨bv_3, ov_2, none⟩ ∧
 (0 ≤ (IntKind.wrap .i64 ((IntKind.wrap .i64 ((2 : Int) * st_1.1)) + (1 : Int))) ∧ (IntKind.wrap .i64 ((IntKind.wrap .i64 ((2 : Int) * st_1.1)) + (1 : Int))) < (32 : Nat)) ∧
 ∃ t_3 : List Int, t_3.length = 32 ∧ (h6.rds bv_3 ((ov_2 + 16) + (IntKind.wrap .i64 ((IntKind.wrap .i64 ((2 : Int) * st_1.1)) + (1 : Int))).toNat * 32) 32 = some (t_3.map (Value.int .u8) ++ [])) ∧
 ∃ bv_4 ov_3 : Nat, (some ⟨bv, 0, none⟩ : Option Addr) = some ⟨bv_4, ov_3, none⟩ ∧
 CallH Tryz.prog id_tree_Inner [.agg ((t_2.map (Value.int .u8) ++ [])).toArray, .agg ((t_3.map (Value.int .u8) ++ [])).toArray] (fun v_2 h7 =>
 ∃ t_4 : List Int, t_4.length = 32 ∧ v_2 = .agg ((t_4.map (Value.int .u8) ++ [])).toArray ∧
 (0 ≤ st_1.1 ∧ st_1.1 < (32 : Nat)) ∧
 stH h7 bv_4 ((ov_3 + 16) + st_1.1.toNat * 32) (t_4.map (Value.int .u8) ++ []) fun h8 =>
 Jv_1 ((IntKind.wrap .i64 (st_1.1 - (1 : Int))), ()) h8) h6) ∧
 ((decide (st_1.1 > (0 : Int))) = false →
 K (.pointer (some ⟨bv, 0, none⟩)) h6))) ((15 : Int), ()) h2))) ((0 : Int), ()) h1
theorem F_tree_New_ok   {K : Value → PH → Prop} {h : PH} (hh : F_tree_New  K h) : CallH Tryz.prog id_tree_New [] K h :=
 denF_sound' Tryz.func20 (H := ⟨[], [(5, .of [0, 1, 2, 3, 4, 7, 8, 5, 6, 9, 10]), (10, .of [0, 1, 2, 3, 4, 5, 6, 7, 8, 9, 10, 11, 12, 13, 14, 15, 16, 18, 19, 17, 20, 21])], [(0, ⟨[(6, .int .i64)], [], []⟩), (2, ⟨[(3, .int .i64)], [], []⟩)], []⟩) (xs := []) (by kernel_rfl) (trivial) (den_of (by kernel_rfl) hh)
set_option maxRecDepth 100000 in
def F_tree_Tree_Set (t : Option Addr) (p : ByteArray) (v : ByteArray) (K : Value → PH → Prop) (h : PH) : Prop :=
 (((Option.isNone t) = true →
 K (.int .i64 (2 : Int)) h) ∧
 ((Option.isNone t) = false →
 CallH Tryz.prog id_path_Cut [.string p] (fun v_1 h1 =>
 ∃ t0 t1 : ByteArray, ∃ t2 : Bool, v_1 = .tuple #[.string t0, .string t1, .bool t2] ∧
 (((!t2) = true →
 K (.int .i64 (20 : Int)) h1) ∧
 ((!t2) = false →
 (((decide ((v.size : Int) > (32 : Int))) = true →
 K (.int .i64 (3 : Int)) h1) ∧
 ((decide ((v.size : Int) > (32 : Int))) = false →
 CallH Tryz.prog id_tree_Tree_find [.pointer t, .string p] (fun v_2 h2 =>
 ∃ t0_1 t1_1 : Int, ∃ t2_1 : Bool, v_2 = .tuple #[.int .i64 t0_1, .int .i64 t1_1, .bool t2_1] ∧
 JoinP (T := Unit) (fun Jv =>
 ((t2_1 = true →
 ∃ bv ov : Nat, t = some ⟨bv, ov, none⟩ ∧
 (0 ≤ t0_1 ∧ t0_1 < (16 : Nat)) ∧
 ∃ (tA : Option Addr) (tN tC : Nat), (h2.rds bv (ov + t0_1.toNat * 1) 1 = some [.slice tA tN tC]) ∧
 ∃ bv_1 ov_1 : Nat, t = some ⟨bv_1, ov_1, none⟩ ∧
 (CallH Tryz.prog id_slices_Clone_api_Pair_api_Pair [.slice tA tN tC] (fun v_3 h4 =>
 ∃ (tA_1 : Option Addr) (tN_1 tC_1 : Nat), v_3 = .slice tA_1 tN_1 tC_1 ∧
 newH h4 (.cells #[.string p, .string v] T_api_Pair (0, 0)) fun bv_2 h5 =>
 CallH Tryz.prog id_slices_Replace_api_Pair_api_Pair [.slice tA_1 tN_1 tC_1, .int .i64 t1_1, .int .i64 (IntKind.wrap .i64 (t1_1 + (1 : Int))), .slice (some ⟨bv_2, 0, none⟩) 1 1] (fun v_4 h6 =>
 ∃ (tA_2 : Option Addr) (tN_2 tC_2 : Nat), v_4 = .slice tA_2 tN_2 tC_2 ∧
 (0 ≤ t0_1 ∧ t0_1 < (16 : Nat)) ∧
 stH h6 bv_1 (ov_1 + t0_1.toNat * 1) [.slice tA_2 tN_2 tC_2] fun h7 =>
 Jv (()) h7) h5) h2) ∧
 (newH h2 (.cells #[.string p, .string v] T_api_Pair (0, 0)) fun bv_3 h8 =>
 CallH Tryz.prog id_slices_Clone_api_Pair_api_Pair [.slice tA tN tC] (fun v_5 h9 =>
 ∃ (tA_3 : Option Addr) (tN_3 tC_3 : Nat), v_5 = .slice tA_3 tN_3 tC_3 ∧
 CallH Tryz.prog id_slices_Replace_api_Pair_api_Pair [.slice tA_3 tN_3 tC_3, .int .i64 t1_1, .int .i64 (IntKind.wrap .i64 (t1_1 + (1 : Int))), .slice (some ⟨bv_3, 0, none⟩) 1 1] (fun v_6 h10 =>
 ∃ (tA_4 : Option Addr) (tN_4 tC_4 : Nat), v_6 = .slice tA_4 tN_4 tC_4 ∧
 (0 ≤ t0_1 ∧ t0_1 < (16 : Nat)) ∧
 stH h10 bv_1 (ov_1 + t0_1.toNat * 1) [.slice tA_4 tN_4 tC_4] fun h11 =>
 Jv (()) h11) h9) h8)) ∧
 (t2_1 = false →
 ∃ bv_4 ov_2 : Nat, t = some ⟨bv_4, ov_2, none⟩ ∧
 ∃ t_1 : Int, (h2.rds bv_4 (ov_2 + 1040) 1 = some [.int .i64 t_1]) ∧
 (((decide (t_1 ≥ (48 : Int))) = true →
 K (.int .i64 (6 : Int)) h2) ∧
 ((decide (t_1 ≥ (48 : Int))) = false →
 ∃ bv_5 ov_3 : Nat, t = some ⟨bv_5, ov_3, none⟩ ∧
 (0 ≤ t0_1 ∧ t0_1 < (16 : Nat)) ∧
 ∃ (tA_5 : Option Addr) (tN_5 tC_5 : Nat), (h2.rds bv_5 (ov_3 + t0_1.toNat * 1) 1 = some [.slice tA_5 tN_5 tC_5]) ∧
 ∃ bv_6 ov_4 : Nat, t = some ⟨bv_6, ov_4, none⟩ ∧
 (CallH Tryz.prog id_slices_Clone_api_Pair_api_Pair [.slice tA_5 tN_5 tC_5] (fun v_7 h12 =>
 ∃ (tA_6 : Option Addr) (tN_6 tC_6 : Nat), v_7 = .slice tA_6 tN_6 tC_6 ∧
 newH h12 (.cells #[.string p, .string v] T_api_Pair (0, 0)) fun bv_7 h13 =>
 CallH Tryz.prog id_slices_Insert_api_Pair_api_Pair [.slice tA_6 tN_6 tC_6, .int .i64 t1_1, .slice (some ⟨bv_7, 0, none⟩) 1 1] (fun v_8 h14 =>
 ∃ (tA_7 : Option Addr) (tN_7 tC_7 : Nat), v_8 = .slice tA_7 tN_7 tC_7 ∧
 (0 ≤ t0_1 ∧ t0_1 < (16 : Nat)) ∧
 stH h14 bv_6 (ov_4 + t0_1.toNat * 1) [.slice tA_7 tN_7 tC_7] fun h15 =>
 ∃ bv_8 ov_5 : Nat, t = some ⟨bv_8, ov_5, none⟩ ∧
 ∃ t_2 : Int, (h15.rds bv_8 (ov_5 + 1040) 1 = some [.int .i64 t_2]) ∧
 ∃ bv_9 ov_6 : Nat, t = some ⟨bv_9, ov_6, none⟩ ∧
 stH h15 bv_9 (ov_6 + 1040) [.int .i64 (IntKind.wrap .i64 (t_2 + (1 : Int)))] fun h16 =>
 Jv (()) h16) h13) h2) ∧
 (newH h2 (.cells #[.string p, .string v] T_api_Pair (0, 0)) fun bv_10 h17 =>
 CallH Tryz.prog id_slices_Clone_api_Pair_api_Pair [.slice tA_5 tN_5 tC_5] (fun v_9 h18 =>
 ∃ (tA_8 : Option Addr) (tN_8 tC_8 : Nat), v_9 = .slice tA_8 tN_8 tC_8 ∧
 CallH Tryz.prog id_slices_Insert_api_Pair_api_Pair [.slice tA_8 tN_8 tC_8, .int .i64 t1_1, .slice (some ⟨bv_10, 0, none⟩) 1 1] (fun v_10 h19 =>
 ∃ (tA_9 : Option Addr) (tN_9 tC_9 : Nat), v_10 = .slice tA_9 tN_9 tC_9 ∧
 (0 ≤ t0_1 ∧ t0_1 < (16 : Nat)) ∧
 stH h19 bv_6 (ov_4 + t0_1.toNat * 1) [.slice tA_9 tN_9 tC_9] fun h20 =>
 ∃ bv_11 ov_7 : Nat, t = some ⟨bv_11, ov_7, none⟩ ∧
 ∃ t_3 : Int, (h20.rds bv_11 (ov_7 + 1040) 1 = some [.int .i64 t_3]) ∧
 ∃ bv_12 ov_8 : Nat, t = some ⟨bv_12, ov_8, none⟩ ∧
 stH h20 bv_12 (ov_8 + 1040) [.int .i64 (IntKind.wrap .i64 (t_3 + (1 : Int)))] fun h21 =>
 Jv (()) h21) h18) h17))))))
 (fun _ h3 =>
 CallH Tryz.prog id_tree_Tree_anew [.pointer t, .int .i64 t0_1] (fun _ h22 =>
 K (.int .i64 (0 : Int)) h22) h3)) h1))))) h))
set_option maxRecDepth 100000 in
theorem F_tree_Tree_Set_ok {t : Option Addr} {p v : ByteArray}  {K : Value → PH → Prop} {h : PH} (hh : F_tree_Tree_Set t p v K h) : CallH Tryz.prog id_tree_Tree_Set [.pointer t, .string p, .string v] K h :=
 denF_sound' Tryz.func24 (H := ⟨[13], [(13, .one 0 (.one 1 (.one 2 (.one 3 (.one 4 (.one 5 (.one 6 (.one 7 (.one 9 (.one 10 (.one 11 (.one 12 (.one 15 (.one 16 (.alt 8 (.of [13, 14, 17, 18]) (.of [13, 8, 14, 17, 18])))))))))))))))), (10, .one 0 (.one 1 (.one 2 (.one 3 (.one 4 (.one 5 (.one 6 (.one 7 (.one 9 (.one 10 (.one 13 (.one 14 (.alt 8 (.of [11, 12, 15, 16]) (.of [11, 8, 12, 15, 16]))))))))))))))], [], [(34, ⟨[], [], []⟩)]⟩) (xs := [.v (.pointer t), .v (.string p), .v (.string v)]) (by kernel_rfl) (⟨rfl, rfl, rfl, trivial⟩) (den_of (by kernel_rfl) hh)
def F_tree_Of (lA : Option Addr) (lN lC : Nat) (K : Value → PH → Prop) (h : PH) : Prop :=
 CallH Tryz.prog id_bucket_May [.slice lA lN lC] (fun v h1 =>
 ∃ t : Bool, v = .bool t ∧
 (((!t) = true →
 K (.tuple #[.pointer none, .int .i64 (1 : Int)]) h1) ∧
 ((!t) = false →
 (((decide ((lN : Int) > (48 : Int))) = true →
 K (.tuple #[.pointer none, .int .i64 (6 : Int)]) h1) ∧
 ((decide ((lN : Int) > (48 : Int))) = false →
 CallH Tryz.prog id_tree_New [] (fun v_1 h2 =>
 ∃ t_1 : Option Addr, v_1 = .pointer t_1 ∧
 LoopP (T := Int × Unit) (fun Jv st h3 =>
 (((decide (st.1 < (lN : Int))) = true →
 ∃ bv ov : Nat, (lA = some ⟨bv, ov, none⟩ ∧ 0 ≤ st.1 ∧ st.1 < (lN : Nat)) ∧
 ∃ x0 x1 : ByteArray, (h3.rds bv (ov + st.1.toNat * 2) 2 = some [.string x0, .string x1]) ∧
 CallH Tryz.prog id_tree_Tree_Set [.pointer t_1, .string x0, .string x1] (fun v_2 h4 =>
 ∃ t_2 : Int, v_2 = .int .i64 t_2 ∧
 Jv ((IntKind.wrap .i64 (st.1 + (1 : Int))), ()) h4) h3) ∧
 ((decide (st.1 < (lN : Int))) = false →
 K (.tuple #[.pointer t_1, .int .i64 (0 : Int)]) h3))) ((0 : Int), ()) h2) h1))))) h
theorem F_tree_Of_ok {lA : Option Addr} {lN lC : Nat}  {K : Value → PH → Prop} {h : PH} (hh : F_tree_Of lA lN lC K h) : CallH Tryz.prog id_tree_Of [.slice lA lN lC] K h :=
 denF_sound' Tryz.func29 (H := ⟨[6], [], [(1, ⟨[(18, .int .i64)], [], []⟩)], []⟩) (xs := [.v (.slice lA lN lC)]) (by kernel_rfl) (⟨rfl, trivial⟩) (den_of (by kernel_rfl) hh)
def F_tree_Tree_Node (t : Option Addr) (level i : Int) (K : Value → PH → Prop) (h : PH) : Prop :=
 ((((((Option.isNone t) || (decide (level < (0 : Int)))) || (decide (level > (4 : Int)))) || (decide (i < (0 : Int)))) = false → 0 ≤ level)) ∧
 (((((((Option.isNone t) || (decide (level < (0 : Int)))) || (decide (level > (4 : Int)))) || (decide (i < (0 : Int)))) || (decide (i ≥ (shlV .i64 (1 : Int) level)))) = true →
 K (.tuple #[.agg (((List.replicate 32 0).map (Value.int .u8) ++ [])).toArray, .bool false]) h) ∧
 ((((((Option.isNone t) || (decide (level < (0 : Int)))) || (decide (level > (4 : Int)))) || (decide (i < (0 : Int)))) || (decide (i ≥ (shlV .i64 (1 : Int) level)))) = false →
 (0 ≤ level) ∧
 ∃ bv ov : Nat, t = some ⟨bv, ov, none⟩ ∧
 (0 ≤ (IntKind.wrap .i64 ((shlV .i64 (1 : Int) level) + i)) ∧ (IntKind.wrap .i64 ((shlV .i64 (1 : Int) level) + i)) < (32 : Nat)) ∧
 ∃ t_1 : List Int, t_1.length = 32 ∧ (h.rds bv ((ov + 16) + (IntKind.wrap .i64 ((shlV .i64 (1 : Int) level) + i)).toNat * 32) 32 = some (t_1.map (Value.int .u8) ++ [])) ∧
 K (.tuple #[.agg ((t_1.map (Value.int .u8) ++ [])).toArray, .bool true]) h))
theorem F_tree_Tree_Node_ok {t : Option Addr} {level i : Int}  {K : Value → PH → Prop} {h : PH} (hh : F_tree_Tree_Node t level i K h) : CallH Tryz.prog id_tree_Tree_Node [.pointer t, .int .i64 level, .int .i64 i] K h :=
 denF_sound' Tryz.func31 (H := ⟨[6], [], [], []⟩) (xs := [.v (.pointer t), .v (.int .i64 level), .v (.int .i64 i)]) (by kernel_rfl) (⟨rfl, rfl, rfl, trivial⟩) (den_of (by kernel_rfl) hh)
def F_tree_Tree_Root (t : Option Addr) (K : Value → PH → Prop) (h : PH) : Prop :=
 CallH Tryz.prog id_tree_Tree_Node [.pointer t, .int .i64 (0 : Int), .int .i64 (0 : Int)] (fun v h1 =>
 ∃ t0 : List Int, t0.length = 32 ∧ ∃ t1 : Bool, v = .tuple #[.agg ((t0.map (Value.int .u8) ++ [])).toArray, .bool t1] ∧
 K (.agg ((t0.map (Value.int .u8) ++ [])).toArray) h1) h
theorem F_tree_Tree_Root_ok {t : Option Addr}  {K : Value → PH → Prop} {h : PH} (hh : F_tree_Tree_Root t K h) : CallH Tryz.prog id_tree_Tree_Root [.pointer t] K h :=
 denF_sound' Tryz.func38 (H := ⟨[2, 3], [], [], []⟩) (xs := [.v (.pointer t)]) (by kernel_rfl) (⟨rfl, trivial⟩) (den_of (by kernel_rfl) hh)
def F_tree_Leaf (page : ByteArray) (K : Value → PH → Prop) (h : PH) : Prop :=
 (((ByteArray.size (⟨#[76]⟩ : ByteArray) + ByteArray.size page : Nat) : Int) ≤ 9223372036854775807) ∧
 CallH Tryz.prog id_sha_Sum [.string ((⟨#[76]⟩ : ByteArray) ++ page)] (fun v h1 =>
 ∃ t : List Int, t.length = 32 ∧ v = .agg ((t.map (Value.int .u8) ++ [])).toArray ∧
 K (.agg ((t.map (Value.int .u8) ++ [])).toArray) h1) h
theorem F_tree_Leaf_ok {page : ByteArray}  {K : Value → PH → Prop} {h : PH} (hh : F_tree_Leaf page K h) : CallH Tryz.prog id_tree_Leaf [.string page] K h :=
 denF_sound' Tryz.func87 (H := ⟨[2], [], [], []⟩) (xs := [.v (.string page)]) (by kernel_rfl) (⟨rfl, trivial⟩) (den_of (by kernel_rfl) hh)
def F_tree_Tree_page (t : Option Addr) (i : Int) (K : Value → PH → Prop) (h : PH) : Prop :=
 ∃ bv ov : Nat, t = some ⟨bv, ov, none⟩ ∧
 (0 ≤ i ∧ i < (16 : Nat)) ∧
 ∃ (tA : Option Addr) (tN tC : Nat), (h.rds bv (ov + i.toNat * 1) 1 = some [.slice tA tN tC]) ∧
 CallH Tryz.prog id_bucket_Page [.int .i64 i, .slice tA tN tC] (fun v h1 =>
 ∃ t0 : ByteArray, ∃ t1 : Int, v = .tuple #[.string t0, .int .i64 t1] ∧
 K (.string t0) h1) h
theorem F_tree_Tree_page_ok {t : Option Addr} {i : Int}  {K : Value → PH → Prop} {h : PH} (hh : F_tree_Tree_page t i K h) : CallH Tryz.prog id_tree_Tree_page [.pointer t, .int .i64 i] K h :=
 denF_sound' Tryz.func88 (H := ⟨[], [], [], []⟩) (xs := [.v (.pointer t), .v (.int .i64 i)]) (by kernel_rfl) (⟨rfl, rfl, trivial⟩) (den_of (by kernel_rfl) hh)
def F_tree_Inner (leftv rightv : List Int) (K : Value → PH → Prop) (h : PH) : Prop :=
 CallH Tryz.prog id_tree_innerText [.agg ((leftv.map (Value.int .u8) ++ [])).toArray, .agg ((rightv.map (Value.int .u8) ++ [])).toArray] (fun v h1 =>
 ∃ t : ByteArray, v = .string t ∧
 CallH Tryz.prog id_sha_Sum [.string t] (fun v_1 h2 =>
 ∃ t_1 : List Int, t_1.length = 32 ∧ v_1 = .agg ((t_1.map (Value.int .u8) ++ [])).toArray ∧
 K (.agg ((t_1.map (Value.int .u8) ++ [])).toArray) h2) h1) h
theorem F_tree_Inner_ok {leftv rightv : List Int} (hk0 : leftv.length = 32) (hk1 : rightv.length = 32) {K : Value → PH → Prop} {h : PH} (hh : F_tree_Inner leftv rightv K h) : CallH Tryz.prog id_tree_Inner [.agg ((leftv.map (Value.int .u8) ++ [])).toArray, .agg ((rightv.map (Value.int .u8) ++ [])).toArray] K h :=
 denF_sound' Tryz.func89 (H := ⟨[2, 3, 4], [], [], []⟩) (xs := [.agg [.ints .u8 32 leftv], .agg [.ints .u8 32 rightv]]) (by kernel_rfl) (⟨⟨hk0, trivial⟩, ⟨hk1, trivial⟩, trivial⟩) (den_of (by kernel_rfl) hh)
def F_tree_Tree_find (t : Option Addr) (p : ByteArray) (K : Value → PH → Prop) (h : PH) : Prop :=
 CallH Tryz.prog id_bucket_Of [.string p] (fun v h1 =>
 ∃ part : Int, v = .int .i64 part ∧
 ∃ bv ov : Nat, t = some ⟨bv, ov, none⟩ ∧
 (0 ≤ part ∧ part < (16 : Nat)) ∧
 ∃ (tA : Option Addr) (tN tC : Nat), (h1.rds bv (ov + part.toNat * 1) 1 = some [.slice tA tN tC]) ∧
 CallH Tryz.prog id_slices_BinarySearchFunc_api_Pair_api_Pair_string [.slice tA tN tC, .string p, .func (.func 142) #[] #[]] (fun v_1 h2 =>
 ∃ t0 : Int, ∃ t1 : Bool, v_1 = .tuple #[.int .i64 t0, .bool t1] ∧
 K (.tuple #[.int .i64 part, .int .i64 t0, .bool t1]) h2) h1) h
theorem F_tree_Tree_find_ok {t : Option Addr} {p : ByteArray}  {K : Value → PH → Prop} {h : PH} (hh : F_tree_Tree_find t p K h) : CallH Tryz.prog id_tree_Tree_find [.pointer t, .string p] K h :=
 denF_sound' Tryz.func94 (H := ⟨[], [], [], []⟩) (xs := [.v (.pointer t), .v (.string p)]) (by kernel_rfl) (⟨rfl, rfl, trivial⟩) (den_of (by kernel_rfl) hh)
def F_tree_Tree_anew (t : Option Addr) (part : Int) (K : Value → PH → Prop) (h : PH) : Prop :=
 newH h (.cells #[.pointer t] 25 (0, 0)) fun bv h1 =>
 ∃ t_1 : Option Addr, (h1.rds bv 0 1 = some [.pointer t_1]) ∧
 ∃ t_2 : Option Addr, (h1.rds bv 0 1 = some [.pointer t_2]) ∧
 ∃ bv_1 ov : Nat, t_1 = some ⟨bv_1, ov, none⟩ ∧
 CallH Tryz.prog id_tree_Tree_page [.pointer t_2, .int .i64 part] (fun v h2 =>
 ∃ t_3 : ByteArray, v = .string t_3 ∧
 (h2.rds bv 0 1 = some [.pointer t_1]) ∧
 CallH Tryz.prog id_tree_Leaf [.string t_3] (fun v_1 h3 =>
 ∃ t_4 : List Int, t_4.length = 32 ∧ v_1 = .agg ((t_4.map (Value.int .u8) ++ [])).toArray ∧
 (h3.rds bv 0 1 = some [.pointer t_1]) ∧
 (0 ≤ (IntKind.wrap .i64 ((16 : Int) + part)) ∧ (IntKind.wrap .i64 ((16 : Int) + part)) < (32 : Nat)) ∧
 stH h3 bv_1 ((ov + 16) + (IntKind.wrap .i64 ((16 : Int) + part)).toNat * 32) (t_4.map (Value.int .u8) ++ []) fun h4 =>
 LoopP (T := Int × Unit) (fun Jv st h5 =>
 (((decide (st.1 > (0 : Int))) = true →
 CallH Tryz.prog id_tree_Tree_anew_1 [.int .i64 st.1, .pointer (some ⟨bv, 0, none⟩)] (fun _ h6 =>
 Jv ((IntKind.wrap .i64 (st.1.tdiv (2 : Int))), ()) h6) h5) ∧
 ((decide (st.1 > (0 : Int))) = false →
 K (.tuple #[]) h5))) ((IntKind.wrap .i64 ((IntKind.wrap .i64 ((16 : Int) + part)).tdiv (2 : Int))), ()) h4) h2) h1
theorem F_tree_Tree_anew_ok {t : Option Addr} {part : Int}  {K : Value → PH → Prop} {h : PH} (hh : F_tree_Tree_anew t part K h) : CallH Tryz.prog id_tree_Tree_anew [.pointer t, .int .i64 part] K h :=
 denF_sound' Tryz.func98 (H := ⟨[], [(1, .of [0, 1, 2, 3, 4, 7, 8, 5, 6, 9, 10])], [(0, ⟨[(5, .int .i64)], [], []⟩)], []⟩) (xs := [.v (.pointer t), .v (.int .i64 part)]) (by kernel_rfl) (⟨rfl, rfl, trivial⟩) (den_of (by kernel_rfl) hh)
def F_tree_Tree_Pairs (t : Option Addr) (i : Int) (K : Value → PH → Prop) (h : PH) : Prop :=
 (((((Option.isNone t) || (decide (i < (0 : Int)))) || (decide (i ≥ (16 : Int)))) = true →
 K (.slice none 0 0) h) ∧
 ((((Option.isNone t) || (decide (i < (0 : Int)))) || (decide (i ≥ (16 : Int)))) = false →
 ∃ bv ov : Nat, t = some ⟨bv, ov, none⟩ ∧
 (0 ≤ i ∧ i < (16 : Nat)) ∧
 ∃ (tA : Option Addr) (tN tC : Nat), (h.rds bv (ov + i.toNat * 1) 1 = some [.slice tA tN tC]) ∧
 CallH Tryz.prog id_slices_Clone_api_Pair_api_Pair [.slice tA tN tC] (fun v h1 =>
 ∃ (tA_1 : Option Addr) (tN_1 tC_1 : Nat), v = .slice tA_1 tN_1 tC_1 ∧
 K (.slice tA_1 tN_1 tC_1) h1) h))
theorem F_tree_Tree_Pairs_ok {t : Option Addr} {i : Int}  {K : Value → PH → Prop} {h : PH} (hh : F_tree_Tree_Pairs t i K h) : CallH Tryz.prog id_tree_Tree_Pairs [.pointer t, .int .i64 i] K h :=
 denF_sound' Tryz.func101 (H := ⟨[], [], [], []⟩) (xs := [.v (.pointer t), .v (.int .i64 i)]) (by kernel_rfl) (⟨rfl, rfl, trivial⟩) (den_of (by kernel_rfl) hh)
def F_tree_Tree_Texts (t : Option Addr) (K : Value → PH → Prop) (h : PH) : Prop :=
 (((Option.isNone t) = true →
 K (.slice none 0 0) h) ∧
 ((Option.isNone t) = false →
 LoopP (T := (Option Addr × Nat × Nat) × Int × Unit) (fun Jv st h1 =>
 (((decide (st.2.1 < (16 : Int))) = true →
 CallH Tryz.prog id_tree_Tree_page [.pointer t, .int .i64 st.2.1] (fun v h2 =>
 ∃ t_1 : ByteArray, v = .string t_1 ∧
 (((ByteArray.size (⟨#[76]⟩ : ByteArray) + ByteArray.size t_1 : Nat) : Int) ≤ 9223372036854775807) ∧
 appH 9 1 16 [.string (⟨#[]⟩ : ByteArray)] st.1.1 st.1.2.1 st.1.2.2 1 [.string ((⟨#[76]⟩ : ByteArray) ++ t_1)] (fun outA outN outC h3 =>
 Jv ((outA, outN, outC), (IntKind.wrap .i64 (st.2.1 + (1 : Int))), ()) h3) h2) h1) ∧
 ((decide (st.2.1 < (16 : Int))) = false →
 LoopP (T := (Option Addr × Nat × Nat) × Int × Unit) (fun Jv_1 st_1 h4 =>
 (((decide (st_1.2.1 ≥ (0 : Int))) = true →
 (0 ≤ st_1.2.1) ∧
 LoopP (T := (Option Addr × Nat × Nat) × Int × Unit) (fun Jv_2 st_2 h5 =>
 (((decide (st_2.2.1 < (shlV .i64 (1 : Int) st_1.2.1))) = true →
 (0 ≤ st_1.2.1) ∧
 ∃ bv ov : Nat, t = some ⟨bv, ov, none⟩ ∧
 (0 ≤ (IntKind.wrap .i64 ((2 : Int) * (IntKind.wrap .i64 ((shlV .i64 (1 : Int) st_1.2.1) + st_2.2.1)))) ∧ (IntKind.wrap .i64 ((2 : Int) * (IntKind.wrap .i64 ((shlV .i64 (1 : Int) st_1.2.1) + st_2.2.1)))) < (32 : Nat)) ∧
 ∃ t_2 : List Int, t_2.length = 32 ∧ (h5.rds bv ((ov + 16) + (IntKind.wrap .i64 ((2 : Int) * (IntKind.wrap .i64 ((shlV .i64 (1 : Int) st_1.2.1) + st_2.2.1)))).toNat * 32) 32 = some (t_2.map (Value.int .u8) ++ [])) ∧
 ∃ bv_1 ov_1 : Nat, t = some ⟨bv_1, ov_1, none⟩ ∧
 (0 ≤ (IntKind.wrap .i64 ((IntKind.wrap .i64 ((2 : Int) * (IntKind.wrap .i64 ((shlV .i64 (1 : Int) st_1.2.1) + st_2.2.1)))) + (1 : Int))) ∧ (IntKind.wrap .i64 ((IntKind.wrap .i64 ((2 : Int) * (IntKind.wrap .i64 ((shlV .i64 (1 : Int) st_1.2.1) + st_2.2.1)))) + (1 : Int))) < (32 : Nat)) ∧
 ∃ t_3 : List Int, t_3.length = 32 ∧ (h5.rds bv_1 ((ov_1 + 16) + (IntKind.wrap .i64 ((IntKind.wrap .i64 ((2 : Int) * (IntKind.wrap .i64 ((shlV .i64 (1 : Int) st_1.2.1) + st_2.2.1)))) + (1 : Int))).toNat * 32) 32 = some (t_3.map (Value.int .u8) ++ [])) ∧
 CallH Tryz.prog id_tree_innerText [.agg ((t_2.map (Value.int .u8) ++ [])).toArray, .agg ((t_3.map (Value.int .u8) ++ [])).toArray] (fun v_1 h6 =>
 ∃ t_4 : ByteArray, v_1 = .string t_4 ∧
 appH 9 1 16 [.string (⟨#[]⟩ : ByteArray)] st_2.1.1 st_2.1.2.1 st_2.1.2.2 1 [.string t_4] (fun outA_1 outN_1 outC_1 h7 =>
 Jv_2 ((outA_1, outN_1, outC_1), (IntKind.wrap .i64 (st_2.2.1 + (1 : Int))), ()) h7) h6) h5) ∧
 ((decide (st_2.2.1 < (shlV .i64 (1 : Int) st_1.2.1))) = false →
 Jv_1 ((st_2.1.1, st_2.1.2.1, st_2.1.2.2), (IntKind.wrap .i64 (st_1.2.1 - (1 : Int))), ()) h5))) ((st_1.1.1, st_1.1.2.1, st_1.1.2.2), (0 : Int), ()) h4) ∧
 ((decide (st_1.2.1 ≥ (0 : Int))) = false →
 K (.slice st_1.1.1 st_1.1.2.1 st_1.1.2.2) h4))) ((st.1.1, st.1.2.1, st.1.2.2), (3 : Int), ()) h1))) ((none, 0, 0), (0 : Int), ()) h))
theorem F_tree_Tree_Texts_ok {t : Option Addr}  {K : Value → PH → Prop} {h : PH} (hh : F_tree_Tree_Texts t K h) : CallH Tryz.prog id_tree_Tree_Texts [.pointer t] K h :=
 denF_sound' Tryz.func103 (H := ⟨[18, 51], [], [(0, ⟨[(3, .slice), (10, .int .i64)], [], []⟩), (2, ⟨[(3, .slice), (5, .int .i64)], [], []⟩), (4, ⟨[(3, .slice), (27, .int .i64)], [], []⟩)], []⟩) (xs := [.v (.pointer t)]) (by kernel_rfl) (⟨rfl, trivial⟩) (den_of (by kernel_rfl) hh)
def F_tree_innerText (leftv rightv : List Int) (K : Value → PH → Prop) (h : PH) : Prop :=
 newH h (.cells ((leftv.map (Value.int .u8) ++ [])).toArray T_api_Hash (0, 0)) fun bv h1 =>
 newH h1 (.cells ((rightv.map (Value.int .u8) ++ [])).toArray T_api_Hash (0, 0)) fun bv_1 h2 =>
 (0 ≤ (0 : Int) ∧ (0 : Int) ≤ ((32 : Nat) : Int) ∧ ((32 : Nat) : Int) ≤ ((32 : Nat) : Int) ∧ ((32 : Nat) : Int) ≤ (32 : Nat)) ∧
 ∃ t : ByteArray, strH h2 (slA (some ⟨bv, 0, none⟩ : Option Addr) 1 (0 : Int) ((32 : Nat) : Int)) (((32 : Nat) : Int).toNat - (0 : Int).toNat) t ∧
 (((ByteArray.size (⟨#[78]⟩ : ByteArray) + ByteArray.size t : Nat) : Int) ≤ 9223372036854775807) ∧
 (0 ≤ (0 : Int) ∧ (0 : Int) ≤ ((32 : Nat) : Int) ∧ ((32 : Nat) : Int) ≤ ((32 : Nat) : Int) ∧ ((32 : Nat) : Int) ≤ (32 : Nat)) ∧
 ∃ t_1 : ByteArray, strH h2 (slA (some ⟨bv_1, 0, none⟩ : Option Addr) 1 (0 : Int) ((32 : Nat) : Int)) (((32 : Nat) : Int).toNat - (0 : Int).toNat) t_1 ∧
 (((ByteArray.size ((⟨#[78]⟩ : ByteArray) ++ t) + ByteArray.size t_1 : Nat) : Int) ≤ 9223372036854775807) ∧
 K (.string (((⟨#[78]⟩ : ByteArray) ++ t) ++ t_1)) h2
theorem F_tree_innerText_ok {leftv rightv : List Int} (hk0 : leftv.length = 32) (hk1 : rightv.length = 32) {K : Value → PH → Prop} {h : PH} (hh : F_tree_innerText leftv rightv K h) : CallH Tryz.prog id_tree_innerText [.agg ((leftv.map (Value.int .u8) ++ [])).toArray, .agg ((rightv.map (Value.int .u8) ++ [])).toArray] K h :=
 denF_sound' Tryz.func137 (H := ⟨[], [], [], []⟩) (xs := [.agg [.ints .u8 32 leftv], .agg [.ints .u8 32 rightv]]) (by kernel_rfl) (⟨⟨hk0, trivial⟩, ⟨hk1, trivial⟩, trivial⟩) (den_of (by kernel_rfl) hh)
def F_tree_Tree_find_1 (x0 _ p : ByteArray) (K : Value → PH → Prop) (h : PH) : Prop :=
 CallH Tryz.prog id_strings_Compare [.string x0, .string p] (fun v h1 =>
 ∃ t : Int, v = .int .i64 t ∧
 K (.int .i64 t) h1) h
theorem F_tree_Tree_find_1_ok {x0 x1 p : ByteArray}  {K : Value → PH → Prop} {h : PH} (hh : F_tree_Tree_find_1 x0 x1 p K h) : CallH Tryz.prog id_tree_Tree_find_1 [.agg #[.string x0, .string x1], .string p] K h :=
 denF_sound' Tryz.func142 (H := ⟨[2], [], [], []⟩) (xs := [.agg [.one (.string x0), .one (.string x1)], .v (.string p)]) (by kernel_rfl) (⟨⟨rfl, rfl, trivial⟩, rfl, trivial⟩) (den_of (by kernel_rfl) hh)
def F_tree_Tree_anew_1 (k : Int) (cap0B : Nat) (K : Value → PH → Prop) (h : PH) : Prop :=
 ∃ t : Option Addr, (h.rds cap0B 0 1 = some [.pointer t]) ∧
 ∃ t_1 : Option Addr, (h.rds cap0B 0 1 = some [.pointer t_1]) ∧
 ∃ bv ov : Nat, t_1 = some ⟨bv, ov, none⟩ ∧
 (0 ≤ (IntKind.wrap .i64 ((2 : Int) * k)) ∧ (IntKind.wrap .i64 ((2 : Int) * k)) < (32 : Nat)) ∧
 ∃ t_2 : List Int, t_2.length = 32 ∧ (h.rds bv ((ov + 16) + (IntKind.wrap .i64 ((2 : Int) * k)).toNat * 32) 32 = some (t_2.map (Value.int .u8) ++ [])) ∧
 ∃ t_3 : Option Addr, (h.rds cap0B 0 1 = some [.pointer t_3]) ∧
 ∃ bv_1 ov_1 : Nat, t_3 = some ⟨bv_1, ov_1, none⟩ ∧
 (0 ≤ (IntKind.wrap .i64 ((IntKind.wrap .i64 ((2 : Int) * k)) + (1 : Int))) ∧ (IntKind.wrap .i64 ((IntKind.wrap .i64 ((2 : Int) * k)) + (1 : Int))) < (32 : Nat)) ∧
 ∃ t_4 : List Int, t_4.length = 32 ∧ (h.rds bv_1 ((ov_1 + 16) + (IntKind.wrap .i64 ((IntKind.wrap .i64 ((2 : Int) * k)) + (1 : Int))).toNat * 32) 32 = some (t_4.map (Value.int .u8) ++ [])) ∧
 ∃ bv_2 ov_2 : Nat, t = some ⟨bv_2, ov_2, none⟩ ∧
 CallH Tryz.prog id_tree_Inner [.agg ((t_2.map (Value.int .u8) ++ [])).toArray, .agg ((t_4.map (Value.int .u8) ++ [])).toArray] (fun v h1 =>
 ∃ t_5 : List Int, t_5.length = 32 ∧ v = .agg ((t_5.map (Value.int .u8) ++ [])).toArray ∧
 (h1.rds cap0B 0 1 = some [.pointer t]) ∧
 (0 ≤ k ∧ k < (32 : Nat)) ∧
 stH h1 bv_2 ((ov_2 + 16) + k.toNat * 32) (t_5.map (Value.int .u8) ++ []) fun h2 =>
 K (.tuple #[]) h2) h
theorem F_tree_Tree_anew_1_ok {k : Int} {cap0B : Nat}  {K : Value → PH → Prop} {h : PH} (hh : F_tree_Tree_anew_1 k cap0B K h) : CallH Tryz.prog id_tree_Tree_anew_1 [.int .i64 k, .pointer (some ⟨cap0B, 0, none⟩)] K h :=
 denF_sound' Tryz.func146 (H := ⟨[], [(0, .of [0, 1, 2, 3, 4, 5, 6, 7, 8, 9, 10, 11, 12, 13, 14, 15, 16, 18, 19, 17, 20, 21])], [], []⟩) (xs := [.v (.int .i64 k), .v (.pointer (some ⟨cap0B, 0, none⟩))]) (by kernel_rfl) (⟨rfl, rfl, trivial⟩) (den_of (by kernel_rfl) hh)
end TL

namespace TL
open Go Go.Proofs
end TL



namespace TL
open Go
theorem LoopP.ind {T : Type} {F : (T → PH → Prop) → T → PH → Prop} (I : T → PH → Prop) (μ : T → PH → Nat) (step : ∀ x h, I x h → F (fun y g => I y g ∧ μ y g < μ x h) x h) : ∀ {x : T} {h : PH}, I x h → LoopP F x h := by
 have key : ∀ n x h, μ x h = n → I x h → LoopP F x h := by
  intro n
  induction n using Nat.strongRecOn with
  | _ n ih =>
   intro x h hn hi
   exact LoopP.mk (fun y g => I y g ∧ μ y g < μ x h) (fun y g hy => ih (μ y g) (hn ▸ hy.2) y g rfl hy.1) (step x h hi)
 intro x h hi
 exact key _ x h rfl hi
def Chg (B B' : List Nat) (h h' : PH) : Prop := (∀ b o, b ∉ B → h b = some o → h' b = some o) ∧ (∀ b ∈ B', b ∈ B ∨ h b = none)
theorem Chg.refl (B : List Nat) (h : PH) : Chg B B h h := ⟨fun _ _ _ e => e, fun _ e => .inl e⟩
theorem Chg.trans {B C D : List Nat} {h g k : PH} (x : Chg B C h g) (y : Chg C D g k) : Chg B D h k := by
 refine ⟨fun b o hb e => y.1 b o (fun hc => ?_) (x.1 b o hb e), fun b hb => ?_⟩
 ·rcases x.2 b hc with h1 | h1
  ·exact hb h1
  ·rw [h1] at e; cases e
 ·rcases y.2 b hb with h1 | h1
  ·exact x.2 b h1
  ·by_cases hB : b ∈ B
   ·exact .inl hB
   ·refine .inr ?_
    cases e : h b with
    | none => rfl
    | some o => rw [x.1 b o hB e] at h1; cases h1
theorem Chg.sub {B B' C C' : List Nat} {h g : PH} (x : Chg B B' h g) (h1 : ∀ b ∈ B, b ∈ C) (h2 : ∀ b ∈ C', b ∈ B' ∨ b ∈ C) : Chg C C' h g :=
 ⟨fun b o hb e => x.1 b o (fun hc => hb (h1 b hc)) e, fun b hb => by
  rcases h2 b hb with h3 | h3
  ·exact (x.2 b h3).imp (h1 b) id
  ·exact .inl h3⟩
theorem Chg.upd {h : PH} {b : Nat} (o : Obj) : Chg [b] [b] h (h.upd b o) := ⟨fun x u hx e => by
  rw [PH.upd_ne _ _ (by simpa using hx)]; exact e, fun _ e => .inl e⟩
theorem Chg.new {h : PH} {b : Nat} (o : Obj) (hb : h b = none) : Chg [] [b] h (h.upd b o) := ⟨fun x u _ e => PH.upd_old o hb e, fun x hx => by
  simp at hx; subst hx; exact .inr hb⟩
theorem Chg.keep {B B' : List Nat} {h g : PH} (x : Chg B B' h g) {b : Nat} {o : Obj} (e : h b = some o) (hb : b ∉ B) : g b = some o := x.1 b o hb e
theorem Chg.fresh {B B' : List Nat} {h g : PH} (x : Chg B B' h g) {b : Nat} {o : Obj} (e : h b = some o) (hb : b ∉ B) : b ∉ B' := fun hm => by
 rcases x.2 b hm with h1 | h1
 ·exact hb h1
 ·rw [h1] at e; cases e
structure Enc (α : Type) where
 enc : α → List Value
 k : Nat
 len : ∀ x, (enc x).length = k
 one : ∀ x, ∀ v ∈ enc x, one1 v = true
 pos : 0 < k
section
variable {α : Type} (E : Enc α)
def Enc.row (l : List α) : List Value := l.flatMap E.enc
theorem Enc.row_len (l : List α) : (E.row l).length = l.length * E.k := by
 induction l with
 | nil => simp [Enc.row]
 | cons x r ih =>
  simp only [Enc.row, List.flatMap_cons, List.length_append, E.len, List.length_cons] at ih ⊢
  rw [ih, Nat.succ_mul, Nat.add_comm]
theorem Enc.row_nil : E.row [] = [] := rfl
theorem Enc.row_cons (x : α) (r : List α) : E.row (x :: r) = E.enc x ++ E.row r := by simp [Enc.row]
theorem Enc.row_app (l r : List α) : E.row (l ++ r) = E.row l ++ E.row r := by simp [Enc.row]
theorem Enc.row_one (l : List α) : ∀ v ∈ E.row l, one1 v = true := fun v hv => by
 simp only [Enc.row, List.mem_flatMap] at hv
 obtain ⟨x, _, hx⟩ := hv
 exact E.one x v hx
theorem Enc.row_drop : ∀ (l : List α) (i : Nat), (E.row l).drop (i * E.k) = E.row (l.drop i)
 | [], i => by simp [Enc.row]
 | x :: r, 0 => by simp
 | x :: r, i + 1 => by
  rw [E.row_cons, List.drop_succ_cons, ← Enc.row_drop r i, Nat.succ_mul, Nat.add_comm, ← List.drop_drop]
  congr 1
  rw [List.drop_append_of_le_length (by rw [E.len]; omega), List.drop_of_length_le (by rw [E.len]; omega)]; simp
theorem Enc.row_take : ∀ (l : List α) (i : Nat), (E.row l).take (i * E.k) = E.row (l.take i)
 | [], i => by simp [Enc.row]
 | x :: r, 0 => by simp [Enc.row]
 | x :: r, i + 1 => by
  rw [E.row_cons, List.take_succ_cons, E.row_cons, ← Enc.row_take r i, Nat.succ_mul, Nat.add_comm, List.take_append, E.len]
  congr 1
  ·rw [List.take_of_length_le (by rw [E.len]; omega)]
  ·congr 1; omega
theorem Enc.row_field {l : List α} {i f m : Nat} (tail : List Value) (hi : i < l.length) (hf : f + m ≤ E.k) : ((E.row l ++ tail).drop (i * E.k + f)).take m = ((E.enc l[i]).drop f).take m := by
 have h1 : i * E.k ≤ (E.row l).length := by rw [E.row_len]; exact Nat.mul_le_mul_right _ (by omega)
 rw [← List.drop_drop, List.drop_append_of_le_length h1, E.row_drop, List.drop_eq_getElem_cons hi, E.row_cons, List.append_assoc, List.drop_append_of_le_length (by rw [E.len]; omega),
  List.take_append_of_le_length (by rw [List.length_drop, E.len]; omega)]
theorem rds_of {h : PH} {b o n : Nat} {cs : List Value} {T : TypeId} {fr : Nat × Nat} (hb : h b = some (.cells cs.toArray T fr)) (hn : o + n ≤ cs.length) : h.rds b o n = some ((cs.drop o).take n) := by
 unfold PH.rds; rw [hb]; simp [hn]
theorem rds_to {h : PH} {b o n : Nat} {vs : List Value} (e : h.rds b o n = some vs) (f m : Nat) (hf : f + m ≤ n) : h.rds b (o + f) m = some ((vs.drop f).take m) := by
 obtain ⟨c, T, fr, hb, hle, rfl⟩ := rds_some e
 unfold PH.rds; rw [hb]
 simp only [show o + f + m ≤ c.size by omega, if_true]
 rw [List.drop_take, List.take_take, List.drop_drop]
 congr 2; omega
def SR (h : PH) (a : Option Addr) (l : List α) : Prop := l = [] ∨ ∃ b o, a = some ⟨b, o, none⟩ ∧ h.rds b o (l.length * E.k) = some (E.row l)
variable {E}
theorem SR.sub {h g : PH} {a : Option Addr} {l : List α} (x : SR E h a l) (hs : h.Sub g) : SR E g a l := by
 rcases x with x | ⟨b, o, e, hr⟩
 ·exact .inl x
 ·exact .inr ⟨b, o, e, rds_sub hs hr⟩
theorem SR.get {h : PH} {a : Option Addr} {l : List α} (x : SR E h a l) {i : Nat} (hi : i < l.length) :
  ∃ b o, a = some ⟨b, o, none⟩ ∧ ∀ o' f m, o' = o + i * E.k + f → f + m ≤ E.k → h.rds b o' m = some (((E.enc l[i]).drop f).take m) := by
 rcases x with rfl | ⟨b, o, e, hr⟩
 ·simp at hi
 ·refine ⟨b, o, e, fun o' f m ho hf => ?_⟩
  subst ho
  have h1 : i * E.k + E.k ≤ l.length * E.k := by rw [← Nat.succ_mul]; exact Nat.mul_le_mul_right _ hi
  have := rds_to hr (i * E.k + f) m (by omega)
  rw [Nat.add_assoc, this]
  have h2 := E.row_field (f := f) (m := m) [] hi hf
  rw [List.append_nil] at h2
  rw [h2]
theorem SR.src {h : PH} {a : Option Addr} {l : List α} (x : SR E h a l) : srcH h a (l.length * E.k) (E.row l) := by
 refine ⟨E.row_len l, E.row_one l, ?_⟩
 rcases x with rfl | ⟨b, o, e, hr⟩
 ·exact .inl (by simp)
 ·exact .inr ⟨b, o, e, hr⟩
theorem SR.part {h : PH} {a : Option Addr} {l : List α} (x : SR E h a l) {lo hi : Nat} {mx : Int} {L : Int} (hL : L.toNat = lo) (h1 : lo ≤ hi) (h2 : hi ≤ l.length) (h3 : hi ≤ mx.toNat) : srcH h (slA a E.k L mx) ((hi - lo) * E.k) (E.row ((l.drop lo).take (hi - lo))) := by
 refine ⟨by rw [E.row_len, List.length_take, List.length_drop]; congr 1; omega, E.row_one _, ?_⟩
 by_cases h0 : hi - lo = 0
 ·exact .inl (by simp [h0])
 ·refine .inr ?_
  rcases x with rfl | ⟨b, o, e, hr⟩
  ·simp at h2; omega
  ·refine ⟨b, o + lo * E.k, ?_, ?_⟩
   ·unfold slA; rw [hL, if_neg (by omega), e, Option.map_some, addr_add]
   ·have hle : lo * E.k + (hi - lo) * E.k ≤ l.length * E.k := by rw [← Nat.add_mul]; exact Nat.mul_le_mul_right _ (by omega)
    rw [rds_to hr (lo * E.k) _ hle, E.row_drop, E.row_take]
def Buf (E : Enc α) (T : TypeId) (B : List Nat) (h : PH) (a : Option Addr) (n c : Nat) (l : List α) : Prop :=
 n = l.length ∧ ((c = 0 ∧ B = [] ∧ l = []) ∨ ∃ b tail, a = some ⟨b, 0, none⟩ ∧ B = [b] ∧ h b = some (.cells (E.row l ++ tail).toArray T (0, 0)) ∧ tail.length = (c - n) * E.k ∧ n ≤ c)
variable {T : TypeId} {B : List Nat} {h : PH} {a : Option Addr} {n c : Nat} {l : List α}
theorem Buf.nil (E : Enc α) (T : TypeId) (h : PH) (a : Option Addr) : Buf E T [] h a 0 0 ([] : List α) := ⟨rfl, .inl ⟨rfl, rfl, rfl⟩⟩
theorem Buf.le (x : Buf E T B h a n c l) : n ≤ c := by
 rcases x with ⟨rfl, ⟨_, _, rfl⟩ | ⟨_, _, _, _, _, _, h⟩⟩
 ·simp
 ·exact h
theorem Buf.sr (x : Buf E T B h a n c l) : SR E h a l := by
 obtain ⟨rfl, ⟨_, _, rfl⟩ | ⟨b, tail, e, _, hb, _, _⟩⟩ := x
 ·exact .inl rfl
 ·refine .inr ⟨b, 0, e, ?_⟩
  rw [rds_of hb (by rw [List.length_append, E.row_len]; omega)]
  rw [← E.row_len, List.drop_zero, List.take_left]
theorem Buf.keep {h' : PH} (x : Buf E T B h a n c l) (hk : ∀ b ∈ B, ∀ o, h b = some o → h' b = some o) : Buf E T B h' a n c l := by
 obtain ⟨rfl, hx | ⟨b, tail, e, hB, hb, h1, h2⟩⟩ := x
 ·exact ⟨rfl, .inl hx⟩
 ·subst hB
  exact ⟨rfl, .inr ⟨b, tail, e, rfl, hk b (by simp) _ hb, h1, h2⟩⟩
theorem Buf.chg {C C' : List Nat} {h' : PH} (x : Buf E T B h a n c l) (y : Chg C C' h h') (hd : ∀ b ∈ B, b ∉ C) : Buf E T B h' a n c l :=
 x.keep fun b hb _ e => y.keep e (hd b hb)
theorem unfr0 (c : Array Value) : Unfr c (0, 0) := .inl (Nat.le_refl _)
theorem stH_mk {b o : Nat} {vs : List Value} {K : PH → Prop} {cs : List Value} {T : TypeId} (hb : h b = some (.cells cs.toArray T (0, 0))) (hn : o + vs.length ≤ cs.length)
  (hk : K (h.upd b (.cells (cs.take o ++ vs ++ cs.drop (o + vs.length)).toArray T (0, 0)))) : stH h b o vs K :=
 ⟨_, _, _, hb, unfr0 _, by simpa using hn, hk⟩
theorem Buf.append {bt m : Nat} {z vs : List Value} {new : List α} {K : Option Addr → Nat → Nat → PH → Prop} (x : Buf E T B h a n c l) (hm : m = new.length) (hv : vs = E.row new) (hz : z.length = E.k)
  (hbt : (n + m) * bt ≤ 140737488355328) (hk : ∀ a' c' B' h', Buf E T B' h' a' (n + m) c' (l ++ new) → Chg B B' h h' → (n + m ≤ c → a' = a ∧ c' = c ∧ B' = B) → K a' (n + m) c' h') : appH T E.k bt z a n c m vs K h := by
 subst hm hv
 refine ⟨E.row_len new, fun hle => ⟨fun h0 => ?_, fun h0 => ?_⟩, fun hlt => ⟨hbt, E.row l, ?_, fun c' hc hc2 b hb => ?_⟩⟩
 ·have hnil : new = [] := by
   rcases Nat.mul_eq_zero.1 h0 with h0 | h0
   ·exact List.length_eq_zero_iff.1 h0
   ·have := E.pos; omega
  subst hnil
  refine hk a c B h ?_ (Chg.refl _ _) fun _ => ⟨rfl, rfl, rfl⟩
  simpa using x
 ·have hne : new.length ≠ 0 := fun e => h0 (by rw [e, Nat.zero_mul])
  obtain ⟨rfl, ⟨rfl, _, _⟩ | ⟨b, tail, e, rfl, hb, h1, h2⟩⟩ := x
  ·omega
  ·refine ⟨b, 0, e, stH_mk hb ?_ ?_⟩
   ·rw [List.length_append, E.row_len, E.row_len, h1, Nat.zero_add, ← Nat.add_mul, ← Nat.add_mul]
    exact Nat.mul_le_mul_right _ (by omega)
   ·rw [Nat.zero_add, ← E.row_len l, List.take_left, ← List.drop_drop, List.drop_left]
    refine hk a c [b] _ ⟨by simp, .inr ⟨b, tail.drop (E.row new).length, e, rfl, ?_, ?_, ?_⟩⟩ (Chg.upd _) fun _ => ⟨rfl, rfl, rfl⟩
    ·rw [PH.upd_same, E.row_app, List.append_assoc]
    ·rw [List.length_drop, h1, E.row_len, ← Nat.sub_mul]; congr 1; omega
    ·exact hle
 ·have := x.sr.src
  rw [← x.1] at this
  exact this
 ·refine hk _ c' [b] _ ⟨by rw [List.length_append, ← x.1], .inr ⟨b, (List.replicate (c' - (n + new.length)) z).flatten, rfl, rfl, ?_, ?_, hc⟩⟩ ?_ fun h => by omega
  ·rw [PH.upd_same, E.row_app, List.append_assoc]
  ·simp [hz]
  ·exact (Chg.new _ hb).sub (by simp) (by simp)
end
theorem rdsL {h : PH} {b : Nat} {cs : List Value} {T : TypeId} {fr : Nat × Nat} (hb : h b = some (.cells cs.toArray T fr)) {o n : Nat} {vs : List Value} (hn : Nat.ble (o + n) cs.length = true) (hv : (cs.drop o).take n = vs) : h.rds b o n = some vs := by
 rw [rds_of hb (Nat.le_of_ble_eq_true hn), hv]
theorem stL {h : PH} {b o : Nat} {vs cs' : List Value} {K : PH → Prop} {cs : List Value} {T : TypeId} (hb : h b = some (.cells cs.toArray T (0, 0))) (hn : Nat.ble (o + vs.length) cs.length = true)
  (he : cs.take o ++ vs ++ cs.drop (o + vs.length) = cs') (hk : ∀ h', h' b = some (.cells cs'.toArray T (0, 0)) → Chg [b] [b] h h' → K h') : stH h b o vs K :=
 stH_mk hb (Nat.le_of_ble_eq_true hn) (by rw [he]; exact hk _ (PH.upd_same ..) (Chg.upd _))
theorem nwL {h : PH} {cs : List Value} {T : TypeId} {K : Nat → PH → Prop} (hk : ∀ b h', h b = none → h' b = some (.cells cs.toArray T (0, 0)) → Chg [] [b] h h' → K b h') : newH h (.cells cs.toArray T (0, 0)) K :=
 fun b hb => hk b _ hb (PH.upd_same ..) (Chg.new _ hb)
theorem Chg.left {B B' C : List Nat} {h g : PH} (x : Chg B B' h g) : Chg (B ++ C) (B' ++ C) h g := x.sub (fun b hb => List.mem_append_left _ hb) fun b hb => by
 rcases List.mem_append.1 hb with hb | hb
 ·exact .inl hb
 ·exact .inr (List.mem_append_right _ hb)
theorem Chg.right {B B' C : List Nat} {h g : PH} (x : Chg B B' h g) : Chg (C ++ B) (C ++ B') h g := x.sub (fun b hb => List.mem_append_right _ hb) fun b hb => by
 rcases List.mem_append.1 hb with hb | hb
 ·exact .inr (List.mem_append_left _ hb)
 ·exact .inl hb
theorem Chg.head {B : List Nat} {b : Nat} {h g : PH} (x : Chg [b] [b] h g) : Chg (b :: B) (b :: B) h g := x.left (C := B)
theorem Chg.tail {B B' : List Nat} {b : Nat} {h g : PH} (x : Chg B B' h g) : Chg (b :: B) (b :: B') h g := x.right (C := [b])
theorem notIn1 {B : List Nat} {b : Nat} (h : b ∉ B) : ∀ x ∈ B, x ∉ [b] := fun x hx hm => by
 rw [List.mem_singleton] at hm
 rw [hm] at hx; exact h hx
def Has (B : List Nat) (h : PH) : Prop := ∀ b ∈ B, ∃ o, h b = some o
theorem Buf.has {α : Type} {E : Enc α} {T : TypeId} {B : List Nat} {h : PH} {a : Option Addr} {n c : Nat} {l : List α} (x : Buf E T B h a n c l) : Has B h := fun b hb => by
 obtain ⟨rfl, ⟨_, rfl, _⟩ | ⟨b', tail, _, rfl, h1, _, _⟩⟩ := x
 ·cases hb
 ·rw [List.mem_singleton] at hb; subst hb; exact ⟨_, h1⟩
def Dj (B C : List Nat) : Prop := ∀ b ∈ B, b ∉ C
theorem Dj.symm {B C : List Nat} (x : Dj B C) : Dj C B := fun b hb hc => x b hc hb
theorem Dj.nil (B : List Nat) : Dj B [] := fun _ _ h => by cases h
theorem Chg.dj {B B' C : List Nat} {h h' : PH} (x : Chg B B' h h') (d : Dj C B) (hc : Has C h) : Dj C B' := fun b hb hm => by
 rcases x.2 b hm with h1 | h1
 ·exact d b hb h1
 ·obtain ⟨o, ho⟩ := hc b hb; rw [h1] at ho; cases ho
theorem Chg.has {B B' C : List Nat} {h h' : PH} (x : Chg B B' h h') (d : Dj C B) (hc : Has C h) : Has C h' := fun b hb => by
 obtain ⟨o, ho⟩ := hc b hb
 exact ⟨o, x.keep ho (d b hb)⟩
theorem Chg.sub0 {B : List Nat} {h g : PH} (c : Chg [] B h g) : h.Sub g := fun b o e => c.1 b o (by simp) e
theorem wrap64 {n : Int} (h1 : -9223372036854775808 ≤ n) (h2 : n ≤ 9223372036854775807) : IntKind.wrap .i64 n = n := by
 simp [IntKind.wrap, IntKind.bits, IntKind.signed]; omega
theorem strEq_self (s : ByteArray) : strEq s s = true := by simp [strEq]
theorem strEq_iff {s t : ByteArray} : strEq s t = true ↔ s = t := by
 simp only [strEq, beq_iff_eq, bys]
 exact ⟨fun e => by
  cases s; cases t
  simp only [Array.toList_inj] at e
  rw [e], fun e => by rw [e]⟩
theorem Chg.onto {B : List Nat} {h g k : PH} (c : Chg [] B h g) (s : g.Sub k) : Chg [] B h k := ⟨fun b o hb e => s b o (c.1 b o hb e), c.2⟩
end TL

namespace TL
open Go
variable {α : Type} {E : Enc α} {T : TypeId} {B : List Nat} {h : PH} {a : Option Addr} {n c : Nat} {l : List α}
theorem Buf.take (x : Buf E T B h a n c l) {i : Nat} (hi : i ≤ n) : Buf E T B h a i c (l.take i) := by
 obtain ⟨rfl, ⟨rfl, hB, rfl⟩ | ⟨b, tail, e, hB, hb, h1, h2⟩⟩ := x
 ·simp at hi; subst hi
  exact ⟨rfl, .inl ⟨rfl, hB, rfl⟩⟩
 ·refine ⟨by simp [hi], .inr ⟨b, E.row (l.drop i) ++ tail, e, hB, ?_, ?_, by omega⟩⟩
  ·rw [← List.append_assoc, ← E.row_app, List.take_append_drop]; exact hb
  ·rw [List.length_append, E.row_len, h1, ← Nat.add_mul, List.length_drop]; congr 1; omega
theorem slA0 {k : Nat} {mx : Int} (a : Option Addr) (ha : ∀ x, a = some x → x.spot = none) : slA a k 0 mx = a := by
 unfold slA
 split
 ·rfl
 ·cases a with
  | none => rfl
  | some x =>
   obtain ⟨b, o, s⟩ := x
   have : s = none := ha _ rfl
   subst this
   simp [addr_add]
theorem Buf.spot (x : Buf E T B h a n c l) (hc : c ≠ 0) : ∃ b, a = some ⟨b, 0, none⟩ ∧ B = [b] := by
 obtain ⟨rfl, ⟨rfl, _, _⟩ | ⟨b, tail, e, hB, _, _, _⟩⟩ := x
 ·exact absurd rfl hc
 ·exact ⟨b, e, hB⟩
theorem Buf.behind (x : Buf E T B h a n c l) {b o : Nat} (ha : a = some ⟨b, 0, none⟩) (hc : c ≠ 0) {vs : List Value} (ho : o = n * E.k) (hv : vs.length ≤ (c - n) * E.k) {K : PH → Prop} (hk : ∀ h', Buf E T B h' a n c l → Chg B B h h' → K h') : stH h b o vs K := by
 obtain ⟨rfl, ⟨rfl, _, _⟩ | ⟨b', tail, e, rfl, hb, h1, h2⟩⟩ := x
 ·exact absurd rfl hc
 ·rw [ha] at e; cases e
  subst ho
  refine stH_mk hb ?_ (hk _ ⟨rfl, .inr ⟨b, vs ++ tail.drop vs.length, ha, rfl, ?_, ?_, h2⟩⟩ (Chg.upd _))
  ·rw [List.length_append, E.row_len, h1]; omega
  ·rw [PH.upd_same, ← E.row_len l, List.take_left, ← List.drop_drop, List.drop_left, List.append_assoc]
  ·rw [List.length_append, List.length_drop, h1]; omega
def CloneF (T : TypeId) (k bt : Nat) (z : List Value) (sA : Option Addr) (sN _ : Nat) (K : Value → PH → Prop) (h : PH) : Prop :=
 (((Option.isNone sA) = true →
   K (.slice none 0 0) h) ∧
  ((Option.isNone sA) = false →
   newH h (.cells #[] T (0, 0)) fun bv h1 =>
   ∃ vs : List Value, srcH h1 sA (sN * k) vs ∧
   appH T k bt z (some ⟨bv, 0, none⟩) 0 0 sN vs (fun tA tN tC h2 =>
    K (.slice tA tN tC) h2) h1))
theorem SR.none_nil (x : SR E h a l) (ha : a.isNone = true) : l = [] := by
 rcases x with x | ⟨b, o, e, _⟩
 ·exact x
 ·rw [e] at ha; cases ha
theorem CloneF_ok {bt sC : Nat} {z : List Value} {K : Value → PH → Prop} (x : SR E h a l) (hz : z.length = E.k) (hbt : l.length * bt ≤ 140737488355328)
  (hk : ∀ a' c' B' h', Buf E T B' h' a' l.length c' l → Chg [] B' h h' → K (.slice a' l.length c') h') : CloneF T E.k bt z a l.length sC K h := by
 refine ⟨fun he => ?_, fun he => ?_⟩
 ·have := x.none_nil he
  subst this
  exact hk none 0 [] h (Buf.nil _ _ _ _) (Chg.refl _ _)
 ·refine nwL (cs := []) fun b h1 hb hb1 hc1 => ⟨E.row l, (x.sub fun b o e => hc1.1 b o (by simp) e).src, ?_⟩
  have hb0 : Buf E T [] h1 (some ⟨b, 0, none⟩) 0 0 [] := Buf.nil _ _ _ _
  refine hb0.append (new := l) rfl rfl hz (by simpa using hbt) ?_
  intro a' c' B' h' hx' hc' _
  rw [Nat.zero_add] at hx' ⊢
  refine hk a' c' B' h' (by simpa using hx') ⟨fun b o _ e => hc'.1 b o (by simp) (hc1.1 b o (by simp) e), fun b hb => ?_⟩
  rcases hc'.2 b hb with h2 | h2
  ·cases h2
  ·refine .inr ?_
   cases e : h b with
   | none => rfl
   | some o => rw [hc1.1 b o (by simp) e] at h2; cases h2
end TL

namespace TL
open Go
def mk (l : List UInt8) : ByteArray := ⟨l.toArray⟩
theorem bys_mk (l : List UInt8) : bys (mk l) = l := by simp [bys, mk]
theorem mk_bys (s : ByteArray) : mk (bys s) = s := by cases s; simp [mk, bys]
theorem ex_mk (s : ByteArray) : ∃ l, s = mk l := ⟨bys s, (mk_bys s).symm⟩
theorem size_mk (l : List UInt8) : (mk l).size = l.length := by simp [mk, ByteArray.size]
theorem mk_inj {l m : List UInt8} (h : mk l = mk m) : l = m := by
 have := congrArg bys h
 simpa [bys_mk] using this
theorem byteAt_mk (l : List UInt8) (i : Int) : byteAt (mk l) i = ((l.getD i.toNat 0).toNat : Int) := by unfold byteAt; rw [bys_mk]
theorem mk_append (l m : List UInt8) : mk l ++ mk m = mk (l ++ m) := by
 apply ByteArray.ext
 show (mk l ++ mk m).data = _
 rw [ByteArray.data_append]; simp [mk]
theorem subS_mk (l : List UInt8) (lo hi : Int) : subS (mk l) lo hi = mk ((l.drop lo.toNat).take (hi.toNat - lo.toNat)) := by
 unfold subS
 apply ByteArray.ext
 rw [ByteArray.data_extract]
 simp [mk, List.take_drop]
theorem strEq_mk {l m : List UInt8} : strEq (mk l) (mk m) = true ↔ l = m := by
 rw [strEq_iff]
 exact ⟨mk_inj, fun e => by rw [e]⟩
theorem strEq_mk' (l m : List UInt8) : strEq (mk l) (mk m) = decide (l = m) := by
 by_cases h : l = m
 ·simp [h, strEq_self]
 ·simp [h]
  cases e : strEq (mk l) (mk m) with
  | false => rfl
  | true => exact absurd (strEq_mk.1 e) h
def EncB : Enc UInt8 where
 enc b := [.int .u8 (b.toNat : Int)]
 k := 1
 len _ := rfl
 one p v hv := by
  simp only [List.mem_cons, List.not_mem_nil, or_false] at hv
  rw [hv]; rfl
 pos := by decide
theorem row_map : ∀ (l : List UInt8), EncB.row l = l.map fun x => Value.int .u8 (x.toNat : Int)
 | [] => rfl
 | b :: r => by rw [EncB.row_cons, row_map r]; rfl
theorem byteVs_mk (l : List UInt8) : byteVs (mk l) = EncB.row l := by rw [row_map, byteVs, bys_mk]
theorem SR.str {h : PH} {a : Option Addr} {l : List UInt8} (x : SR EncB h a l) : strH h a l.length (mk l) := by
 unfold strH
 rw [byteVs_mk]
 have := x.src
 simpa [EncB] using this
def blen (n : Nat) : Nat := if n = 0 then 0 else Nat.log2 n + 1
theorem blen_le {n m : Nat} : blen n ≤ m ↔ n < 2 ^ m := by
 unfold blen
 split
 ·rename_i h; subst h
  exact ⟨fun _ => Nat.pow_pos (by decide), fun _ => Nat.zero_le _⟩
 ·rename_i h
  rw [← Nat.log2_lt h]; omega
theorem blen_shift {n s : Nat} (h : 2 ^ s ≤ n) : blen n = s + blen (n / 2 ^ s) := by
 have hp : 0 < 2 ^ s := Nat.pow_pos (by decide)
 have h1 : 0 < n / 2 ^ s := Nat.div_pos h hp
 apply Nat.le_antisymm
 ·rw [blen_le]
  have := blen_le.1 (Nat.le_refl (blen (n / 2 ^ s)))
  rw [Nat.pow_add, Nat.mul_comm]
  exact (Nat.div_lt_iff_lt_mul hp).1 this
 ·have h2 : blen (n / 2 ^ s) ≤ blen n - s := by
   rw [blen_le]
   rw [Nat.div_lt_iff_lt_mul hp, Nat.mul_comm, ← Nat.pow_add]
   refine Nat.lt_of_lt_of_le (blen_le.1 (Nat.le_refl (blen n))) (Nat.pow_le_pow_right (by decide) ?_)
   omega
  have h3 : ¬ blen n ≤ s := fun hle => by
   have := blen_le.1 hle; omega
  omega
theorem shr_nat {n s : Nat} (hs : s < 64) : shrV .u64 (n : Int) (s : Int) = ((n / 2 ^ s : Nat) : Int) := by
 unfold shrV
 rw [show min (s : Int).toNat (IntKind.bits .u64) = s by simp [IntKind.bits]; omega, Int.fdiv_eq_ediv_of_nonneg _ (Int.le_of_lt (by exact_mod_cast Nat.pow_pos (by decide)))]
 norm_cast
theorem wrap_u8 {n : Int} (h0 : 0 ≤ n) (h1 : n < 256) : IntKind.wrap .u8 n = n := by
 simp [IntKind.wrap, IntKind.bits, IntKind.signed]; omega
theorem wrap_u64 {n : Int} (h0 : 0 ≤ n) (h1 : n < 18446744073709551616) : IntKind.wrap .u64 n = n := by
 simp [IntKind.wrap, IntKind.bits, IntKind.signed]; omega
end TL

namespace TL
open Go
variable {B : List Nat} {h : PH}
theorem Chg.pre {B B' C : List Nat} {h h1 h2 : PH} (c : Chg [] C h h1) (d : Chg B B' h1 h2) (_ : Has B h) : Chg B B' h h2 := by
 refine ⟨fun b o hb e => d.1 b o hb (c.sub0 b o e), fun b hb => ?_⟩
 rcases d.2 b hb with h3 | h3
 ·exact .inl h3
 ·refine .inr ?_
  cases e : h b with
  | none => rfl
  | some o => rw [c.sub0 b o e] at h3; cases h3
theorem SR.slice {α : Type} {E : Enc α} {a : Option Addr} {l : List α} (x : SR E h a l) {lo hi : Nat} {mx L : Int} (hL : L.toNat = lo) (h2 : hi ≤ l.length) (h3 : hi ≤ mx.toNat) : SR E h (slA a E.k L mx) ((l.drop lo).take (hi - lo)) := by
 by_cases h0 : hi - lo = 0
 ·left; rw [h0]; rfl
 ·rcases x with rfl | ⟨b, o, e, hr⟩
  ·simp at h2; omega
  ·refine .inr ⟨b, o + lo * E.k, ?_, ?_⟩
   ·unfold slA; rw [hL, if_neg (by omega), e, Option.map_some, addr_add]
   ·rw [List.length_take, List.length_drop, Nat.min_eq_left (by omega)]
    have hle : lo * E.k + (hi - lo) * E.k ≤ l.length * E.k := by rw [← Nat.add_mul]; exact Nat.mul_le_mul_right _ (by omega)
    rw [rds_to hr (lo * E.k) _ hle, E.row_drop, E.row_take]
theorem SR.at1 {α : Type} {E : Enc α} {a : Option Addr} {l : List α} (x : SR E h a l) {i : Nat} (hi : i < l.length) {mx L : Int} (hL : L.toNat = i) (h3 : l.length ≤ mx.toNat) : SR E h (slA a E.k L mx) [l[i]] := by
 have := x.slice (lo := i) (hi := i + 1) (mx := mx) hL (by omega) (by omega)
 rw [List.drop_eq_getElem_cons hi, show i + 1 - i = 1 by omega] at this
 exact this
theorem Chg.from {B' : List Nat} {h g k : PH} (s : h.Sub g) (c : Chg [] B' g k) : Chg [] B' h k := ⟨fun b o _ e => c.sub0 b o (s b o e), fun b hb => by
 rcases c.2 b hb with h1 | h1
 ·cases h1
 ·refine .inr ?_
  cases e : h b with
  | none => rfl
  | some o => rw [s b o e] at h1; cases h1⟩
theorem Buf.sub {α : Type} {E : Enc α} {T : TypeId} {a : Option Addr} {n c : Nat} {l : List α} {g : PH} (x : Buf E T B h a n c l) (s : h.Sub g) : Buf E T B g a n c l := x.keep fun b _ o e => s b o e
theorem Buf.setAt {α : Type} {E : Enc α} {T : TypeId} {B : List Nat} {h : PH} {a : Option Addr} {n c : Nat} {l : List α} (x : Buf E T B h a n c l) {i f o' : Nat} (hi : i < l.length) {vs : List Value} {y : α} {b o : Nat} (ha : a = some ⟨b, o, none⟩) (ho : o' = o + i * E.k + f)
  (hy : (E.enc l[i]).take f ++ vs ++ (E.enc l[i]).drop (f + vs.length) = E.enc y) (hf : f + vs.length ≤ E.k) {K : PH → Prop} (hk : ∀ h', Buf E T B h' a n c (l.set i y) → Chg B B h h' → K h') : stH h b o' vs K := by
 obtain ⟨rfl, ⟨rfl, _, rfl⟩ | ⟨b', tail, e, rfl, hb, h1, h2⟩⟩ := x
 ·simp at hi
 ·rw [ha] at e; cases e
  subst ho
  have hl : i * E.k + E.k ≤ l.length * E.k := by rw [← Nat.succ_mul]; exact Nat.mul_le_mul_right _ hi
  refine stH_mk hb (by rw [List.length_append, E.row_len]; omega) (hk _ ⟨by simp, .inr ⟨b, tail, ha, rfl, ?_, ?_, ?_⟩⟩ (Chg.upd _))
  ·rw [PH.upd_same]
   congr 2
   congr 1
   have hsplit : l = l.take i ++ l[i] :: l.drop (i + 1) := by rw [← List.drop_eq_getElem_cons hi, List.take_append_drop]
   have hset : l.set i y = l.take i ++ y :: l.drop (i + 1) := by rw [List.set_eq_take_append_cons_drop, if_pos hi]
   have h3 : E.row l = E.row (l.take i) ++ (E.enc l[i] ++ E.row (l.drop (i + 1))) := by
    conv => lhs; rw [hsplit]
    rw [E.row_app, E.row_cons]
   have hlt : (E.row (l.take i)).length = i * E.k := by rw [E.row_len, List.length_take, Nat.min_eq_left (by omega)]
   rw [hset, E.row_app, E.row_cons, ← hy, h3, Nat.zero_add]
   simp only [List.append_assoc]
   rw [List.take_append, hlt, List.take_of_length_le (by omega), show i * E.k + f - i * E.k = f by omega, List.take_append_of_le_length (by rw [E.len]; omega)]
   rw [List.drop_append, hlt, List.drop_of_length_le (by omega), show i * E.k + f + vs.length - i * E.k = f + vs.length by omega, List.drop_append_of_le_length (by rw [E.len]; omega)]
   simp only [List.append_assoc, List.nil_append]
  ·simp [h1]
  ·simpa using h2
theorem PH.Sub.tr {a b c : PH} (x : a.Sub b) (y : b.Sub c) : a.Sub c := fun q o e => y q o (x q o e)
end TL

namespace TL
open Go
theorem extH_on {P : Program} {f : FuncId} {fn : Func} {args : List Value} {e : Array Value → Sem Value} {v : Value} {K : Value → PH → Prop} {h : PH} (hf : P.funcs[f]? = some fn) (hn : (fn.name == "runtime.NumGoroutine") = false) (hb : fn.body.isNone = true)
  (h1 : (Extern.findNext fn).isNone = true) (h2 : Extern.find fn = some e) (hv : ∀ g, h.Sub g → ro P (e args.toArray) g = some v) (hk : K v h) : ExtH P f args K h := by
 refine ⟨v, fun g hg => ?_, hk⟩
 have h1 : Extern.findNext fn = none := by simpa using h1
 unfold callFunc
 rw [ro_bind, ro_program, Option.bind_some]
 simp only [hf, hn, hb, h1, h2]
 simp only [Bool.false_eq_true, if_false, if_true]
 show ro P (mark (.extern f) >>= fun _ => _) g = _
 rw [ro_bind]
 have hm : ro P (mark (.extern f)) g = some () := rfl
 rw [hm, Option.bind_some]
 show ro P ((e args.toArray) >>= fun a => pure (Next.value a)) g = _
 rw [ro_bind, hv g hg]; rfl
theorem extH_of {P : Program} {f : FuncId} {fn : Func} {args : List Value} {e : Array Value → Sem Value} {v : Value} {K : Value → PH → Prop} {h : PH} (hf : P.funcs[f]? = some fn) (hn : (fn.name == "runtime.NumGoroutine") = false) (hb : fn.body.isNone = true)
  (h1 : (Extern.findNext fn).isNone = true) (h2 : Extern.find fn = some e) (hv : ∀ g, ro P (e args.toArray) g = some v) (hk : K v h) : ExtH P f args K h :=
 extH_on hf hn hb h1 h2 (fun g _ => hv g) hk
def idxB (l : List UInt8) (c : UInt8) : Int := match l.findIdx? (· == c) with
 | some i => (i : Int)
 | none => -1
theorem find_range {l : List UInt8} {c : UInt8} : (match (List.range l.length).find? fun i => l.getD i 0 == c with
  | some i => (i : Int)
  | none => -1) = idxB l c := by
 unfold idxB
 have : (List.range l.length).find? (fun i => l.getD i 0 == c) = l.findIdx? (· == c) := by
  cases e : l.findIdx? (· == c) with
  | none =>
   rw [List.findIdx?_eq_none_iff] at e
   rw [List.find?_eq_none]
   intro i hi
   rw [List.mem_range] at hi
   have := e l[i] (List.getElem_mem hi)
   simp [List.getD, hi]; simpa using this
  | some i =>
   rw [List.findIdx?_eq_some_iff_getElem] at e
   obtain ⟨hi, h1, h2⟩ := e
   rw [List.find?_range_eq_some]
   refine ⟨by simpa [List.getD, hi] using h1, List.mem_range.2 hi, fun j hj => ?_⟩
   have := h2 j hj
   simpa [List.getD, show j < l.length by omega] using this
 rw [this]
theorem ro_indexByte {P : Program} {g : PH} {l : List UInt8} {c : Nat} : ro P (Extern.BytealgIndexByte.indexByte #[.string (mk l), .int .u8 (c : Int)]) g = some (.int .i64 (idxB l (UInt8.ofNat c))) := by
 show ro P (do
  let b ← Extern.Bytes.bytesOf (.string (mk l))
  let c ← Extern.Bytes.asByte (.int .u8 (c : Int))
  match (List.range b.size).find? fun i => b[i]! == c with
  | some i => pure (goInt i)
  | none => pure (goInt (-1))) g = _
 have e1 : ro P (Extern.Bytes.bytesOf (.string (mk l))) g = some (mk l) := rfl
 have e2 : ro P (Extern.Bytes.asByte (.int .u8 (c : Int))) g = some (UInt8.ofNat c) := by
  show some ((c : Int).toNat.toUInt8) = _
  simp [Nat.toUInt8]
 rw [ro_bind, e1, Option.bind_some, ro_bind, e2, Option.bind_some, size_mk]
 have e3 : (fun i => (mk l)[i]! == UInt8.ofNat c) = fun i => l.getD i 0 == UInt8.ofNat c := by
  funext i
  congr 1
  by_cases hi : i < l.length
  ·rw [getElem!_pos (mk l) i (by rw [size_mk]; exact hi)]
   simp [List.getD, hi]
   rfl
  ·rw [getElem!_neg (mk l) i (by rw [size_mk]; exact hi)]
   simp [List.getD, hi]
   rfl
 rw [e3, ← find_range]
 cases (List.range l.length).find? fun i => l.getD i 0 == UInt8.ofNat c <;> rfl
theorem idxB_none {l : List UInt8} {c : UInt8} : idxB l c < 0 ↔ c ∉ l := by
 unfold idxB
 cases e : l.findIdx? (· == c) with
 | none =>
  rw [List.findIdx?_eq_none_iff] at e
  refine ⟨fun _ hm => ?_, fun _ => by show (-1 : Int) < 0; decide⟩
  have := e c hm
  simp at this
 | some i =>
  rw [List.findIdx?_eq_some_iff_getElem] at e
  obtain ⟨hi, h1, _⟩ := e
  refine ⟨fun h => by simp only at h; omega, fun h => ?_⟩
  have : l[i] = c := by simpa using h1
  exact absurd (this ▸ List.getElem_mem hi) h
theorem idxB_some {l : List UInt8} {c : UInt8} (h : ¬ idxB l c < 0) : ∃ i : Nat, idxB l c = (i : Int) ∧ i < l.length ∧ l.take i = l.takeWhile (· != c) ∧ l.drop i = c :: l.drop (i + 1) := by
 unfold idxB at h ⊢
 cases e : l.findIdx? (· == c) with
 | none => rw [e] at h; exact absurd (by show (-1 : Int) < 0; decide) h
 | some i =>
  rw [List.findIdx?_eq_some_iff_getElem] at e
  obtain ⟨hi, h1, h2⟩ := e
  have hc : l[i] = c := by simpa using h1
  refine ⟨i, rfl, hi, ?_, by rw [List.drop_eq_getElem_cons hi, hc]⟩
  have hsplit : l = l.take i ++ c :: l.drop (i + 1) := by rw [← hc, ← List.drop_eq_getElem_cons hi, List.take_append_drop]
  have : (l.take i ++ c :: l.drop (i + 1)).takeWhile (· != c) = l.take i := by
   rw [List.takeWhile_append_of_pos]
   ·simp
   ·intro b hb
    obtain ⟨j, hj, rfl⟩ := List.getElem_of_mem hb
    rw [List.length_take] at hj
    have := h2 j (by omega)
    simpa using this
  rw [← hsplit] at this
  exact this.symm
end TL

namespace TL
open Go Go.Proofs
variable {B : List Nat} {h : PH} {K : Value → PH → Prop}
def namedB (s : List UInt8) : Bool := (s.all fun b => decide (97 ≤ b.toNat) && decide (b.toNat ≤ 122)) && (decide (1 ≤ s.length) && decide (s.length ≤ 8))
def keyB (s : List UInt8) : Bool := (decide (1 ≤ s.length) && decide (s.length ≤ 24)) && (decide ((0 : UInt8) ∉ s) && decide ((47 : UInt8) ∉ s))
def cutB (p : List UInt8) : Option (List UInt8 × List UInt8) :=
 if (47 : UInt8) ∈ p then
  if namedB (p.takeWhile (· != 47)) && keyB (p.drop ((p.takeWhile (· != 47)).length + 1)) then some (p.takeWhile (· != 47), p.drop ((p.takeWhile (· != 47)).length + 1)) else none
 else none
def cutV (p : List UInt8) : List UInt8 × List UInt8 × Bool := match cutB p with
 | some (m, k) => (m, k, true)
 | none => ([], [], false)
theorem named_no {s : List UInt8} (h : namedB s = true) : (47 : UInt8) ∉ s := fun hm => by
 simp only [namedB, Bool.and_eq_true, List.all_eq_true, decide_eq_true_eq] at h
 have := (h.1 47 hm).1
 exact absurd this (by decide)
theorem take_of {m k : List UInt8} (h : (47 : UInt8) ∉ m) : (m ++ 47 :: k).takeWhile (· != 47) = m := by
 rw [List.takeWhile_append_of_pos]
 ·simp
 ·intro b hb
  have : b ≠ 47 := fun e => h (e ▸ hb)
  simpa using this
theorem cut_iff {p m k : List UInt8} : cutB p = some (m, k) ↔ p = m ++ 47 :: k ∧ namedB m = true ∧ keyB k = true := by
 unfold cutB
 constructor
 ·intro h
  split at h
  ·rename_i hp
   split at h
   ·rename_i hb
    simp only [Bool.and_eq_true] at hb
    simp only [Option.some.injEq, Prod.mk.injEq] at h
    obtain ⟨h1, h2⟩ := h
    rw [h1] at h2 hb
    rw [h2] at hb
    refine ⟨?_, hb.1, hb.2⟩
    have hi : ¬ idxB p 47 < 0 := fun h => idxB_none.1 h hp
    obtain ⟨i, _, hlt, ht, hd⟩ := idxB_some hi
    have : p = p.take i ++ p.drop i := (List.take_append_drop i p).symm
    rw [ht, h1, hd] at this
    rw [this]
    congr 2
    rw [← h2, ← h1, ← ht, List.length_take, Nat.min_eq_left (by omega)]
   ·cases h
  ·cases h
 ·rintro ⟨rfl, h1, h2⟩
  have ht := take_of (k := k) (named_no h1)
  rw [if_pos (by simp), ht]
  have hd : (m ++ 47 :: k).drop (m.length + 1) = k := by rw [← List.drop_drop, List.drop_left]; rfl
  rw [hd, h1, h2]; rfl
theorem cut_none {p : List UInt8} (h : cutB p = none) : cutV p = ([], [], false) := by simp [cutV, h]
theorem cut_some {p m k : List UInt8} (h : cutB p = some (m, k)) : cutV p = (m, k, true) := by simp [cutV, h]
variable {s p l m k : List UInt8}
theorem cNamed (hs : s.length ≤ 4611686018427387904) (hk : K (.bool (namedB s)) h) : CallH Tryz.prog id_path_named [.string (mk s)] K h := by
 refine F_path_named_ok (LoopP.ind (fun (z : Int × Unit) h' => h' = h ∧ (0 ≤ z.1 ∧ z.1 ≤ s.length) ∧ (s.take z.1.toNat).all (fun b => decide (97 ≤ b.toNat) && decide (b.toNat ≤ 122)) = true) (fun z _ => (s.length - z.1).toNat) ?_ ⟨rfl, ⟨by decide, by show (0 : Int) ≤ _; omega⟩, by simp⟩)
 rintro ⟨i, u⟩ h1 ⟨rfl, ⟨i0, i1⟩, ha⟩
 dsimp only at i0 i1 ha ⊢
 rw [size_mk]
 refine ⟨fun e => ?_, fun e => ?_⟩
 ·have e : i < s.length := by simpa using e
  have hit : i.toNat < s.length := by omega
  have hb : byteAt (mk s) i = ((s[i.toNat]).toNat : Int) := by rw [byteAt_mk]; simp [List.getD, hit]
  rw [hb]
  refine ⟨⟨i0, e⟩, fun _ => ⟨i0, e⟩, fun e2 => ?_, fun e2 => ?_⟩
  ·have : namedB s = false := by
    have hm := List.getElem_mem hit
    simp only [Bool.or_eq_true, decide_eq_true_eq] at e2
    cases hn : namedB s with
    | false => rfl
    | true =>
     simp only [namedB, Bool.and_eq_true, List.all_eq_true, decide_eq_true_eq] at hn
     have := hn.1 _ hm
     omega
   rw [this] at hk; exact hk
  ·simp only [Bool.or_eq_false_iff, decide_eq_false_iff_not] at e2
   rw [wrap64 (n := i + 1) (by omega) (by omega)]
   refine ⟨⟨rfl, ⟨by omega, by omega⟩, ?_⟩, by omega⟩
   rw [show (i + 1).toNat = i.toNat + 1 by omega, List.take_succ_eq_append_getElem hit, List.all_append, ha]
   simp; omega
 ·have e : i = s.length := by simp at e; omega
  rw [e] at ha
  simp only [Int.toNat_natCast, List.take_length] at ha
  have : namedB s = (decide ((s.length : Int) ≥ 1) && decide ((s.length : Int) ≤ 8)) := by
   unfold namedB; rw [ha]
   simp only [Bool.true_and]
   congr 1
   ·simp; omega
   ·simp; omega
  rw [← this]; exact hk
theorem cIndexByte {c : Nat} (hk : K (.int .i64 (idxB s (UInt8.ofNat c))) h) : CallH Tryz.prog id_internal_stringslite_IndexByte [.string (mk s), .int .u8 (c : Int)] K h :=
 F_internal_stringslite_IndexByte_ok (extH_of Tryz.func221 (by kernel_rfl) (by kernel_rfl) (by kernel_rfl) (e := Extern.BytealgIndexByte.indexByte) (by kernel_rfl) (fun _ => ro_indexByte) ⟨_, rfl, hk⟩)
theorem cIndexByte2 {c : Nat} (hk : K (.int .i64 (idxB s (UInt8.ofNat c))) h) : CallH Tryz.prog id_strings_IndexByte [.string (mk s), .int .u8 (c : Int)] K h :=
 F_strings_IndexByte_ok (cIndexByte ⟨_, rfl, hk⟩)
theorem cKey (hk : K (.bool (keyB s)) h) : CallH Tryz.prog id_path_key [.string (mk s)] K h := by
 refine F_path_key_ok ?_
 unfold F_path_key
 rw [size_mk]
 have hl : (decide ((s.length : Int) ≥ 1) && decide ((s.length : Int) ≤ 24)) = (decide (1 ≤ s.length) && decide (s.length ≤ 24)) := by
  congr 1
  ·simp; omega
  ·simp; omega
 rw [hl]
 unfold keyB at hk
 refine ⟨fun e => ?_, fun e => ?_⟩
 ·rw [e, Bool.true_and] at hk
  refine cIndexByte2 (c := 0) ⟨_, rfl, fun e1 => ?_, fun e1 => ?_⟩
  ·have e1 : (0 : UInt8) ∉ s := idxB_none.1 (by simpa using e1)
   refine cIndexByte2 (c := 47) ⟨_, rfl, ?_⟩
   have : decide (idxB s (UInt8.ofNat 47) < 0) = (decide ((0 : UInt8) ∉ s) && decide ((47 : UInt8) ∉ s)) := by
    simp only [e1, decide_true, Bool.true_and, not_false_eq_true]
    exact decide_eq_decide.2 idxB_none
   rw [this]; exact hk
  ·have e1 : ¬ (0 : UInt8) ∉ s := fun h => by
    have := idxB_none.2 h
    simp at e1
    omega
   simp only [e1, decide_false, Bool.false_and] at hk
   exact hk
 ·rw [e] at hk; exact hk
theorem cStrCut (hs : s.length ≤ 4611686018427387904) (hk : ((47 : UInt8) ∉ s → K (.tuple #[.string (mk s), .string (mk []), .bool false]) h)) (hk2 : (47 : UInt8) ∈ s → K (.tuple #[.string (mk (s.takeWhile (· != 47))), .string (mk (s.drop ((s.takeWhile (· != 47)).length + 1))), .bool true]) h) :
  CallH Tryz.prog id_strings_Cut [.string (mk s), .string (⟨#[47]⟩ : ByteArray)] K h := by
 have key : ∀ {K' : Value → PH → Prop}, K' (.int .i64 (idxB s 47)) h → CallH Tryz.prog id_internal_stringslite_Index [.string (mk s), .string (⟨#[47]⟩ : ByteArray)] K' h := by
  intro K' hk'
  refine F_internal_stringslite_Index_ok ⟨fun e => ?_, fun _ => ⟨fun _ => ⟨by decide, cIndexByte (c := 47) ⟨_, rfl, hk'⟩⟩, fun e => absurd e (by decide)⟩⟩
  have e1 : ((((⟨#[47]⟩ : ByteArray).size : Int) == (0 : Int)) || strEq (⟨#[47]⟩ : ByteArray) (mk s)) = strEq (mk [47]) (mk s) := by
   rw [show (((⟨#[47]⟩ : ByteArray).size : Int) == (0 : Int)) = false by decide, Bool.false_or]; rfl
  rw [e1, strEq_mk] at e
  rw [← e] at hk'; exact hk'
 refine F_strings_Cut_ok (F_internal_stringslite_Cut_ok (key ⟨_, rfl, fun e => ?_, fun e => ?_⟩))
 ·have e : ¬ idxB s 47 < 0 := by simp at e; omega
  have hm : (47 : UInt8) ∈ s := by
   by_cases h : (47 : UInt8) ∈ s
   ·exact h
   ·exact absurd (idxB_none.2 h) e
  obtain ⟨i, hi, hlt, ht, hd⟩ := idxB_some e
  rw [hi, size_mk, show (((⟨#[47]⟩ : ByteArray).size : Nat) : Int) = 1 by decide, wrap64 (by omega) (by omega)]
  refine ⟨⟨by omega, by omega, by omega⟩, ⟨by omega, by omega, by omega⟩, _, _, _, rfl, ?_⟩
  have hlen : (s.takeWhile (· != 47)).length = i := by rw [← ht, List.length_take]; omega
  have := hk2 hm
  rw [hlen, ← ht] at this
  rw [subS_mk, subS_mk]
  have e1 : ((s.drop (0 : Int).toNat).take ((i : Int).toNat - (0 : Int).toNat)) = s.take i := by simp
  have e2 : ((s.drop ((i : Int) + 1).toNat).take ((s.length : Int).toNat - ((i : Int) + 1).toNat)) = s.drop (i + 1) := by
   rw [show ((i : Int) + 1).toNat = i + 1 by omega, List.take_of_length_le (by rw [List.length_drop]; omega)]
  rw [e1, e2]; exact this
 ·have e : idxB s 47 < 0 := by simp at e; omega
  exact ⟨_, _, _, rfl, hk (idxB_none.1 e)⟩
theorem cCut (hs : p.length ≤ 4611686018427387904) (hk : K (.tuple #[.string (mk (cutV p).1), .string (mk (cutV p).2.1), .bool (cutV p).2.2]) h) : CallH Tryz.prog id_path_Cut [.string (mk p)] K h := by
 refine F_path_Cut_ok (cStrCut hs (fun hm => ⟨_, _, _, rfl, fun e => absurd e (by decide), fun _ => ?_⟩) fun hm => ⟨_, _, _, rfl, fun _ => ?_, fun e => absurd e (by decide)⟩)
 ·have : cutB p = none := by unfold cutB; rw [if_neg hm]
  rw [cut_none this] at hk; exact hk
 ·have hlen : (p.takeWhile (· != 47)).length ≤ p.length := (List.takeWhile_sublist _).length_le
  refine cNamed (by omega) ⟨_, rfl, fun e => cKey ⟨_, rfl, fun e2 => ?_, fun e2 => ?_⟩, fun e => ?_⟩
  ·have : cutB p = none := by unfold cutB; rw [if_pos hm, if_neg]; simp at e e2 ⊢; simp [e2]
   rw [cut_none this] at hk; exact hk
  ·have : cutB p = some (p.takeWhile (· != 47), p.drop ((p.takeWhile (· != 47)).length + 1)) := by unfold cutB; rw [if_pos hm, if_pos]; simp at e e2 ⊢; exact ⟨e, e2⟩
   rw [cut_some this] at hk; exact hk
  ·have : cutB p = none := by unfold cutB; rw [if_pos hm, if_neg]; simp at e ⊢; simp [e]
   rw [cut_none this] at hk; exact hk
theorem key_len (h : keyB k = true) : k.length ≤ 24 := by
 simp only [keyB, Bool.and_eq_true, decide_eq_true_eq] at h; exact h.1.2
theorem named_len (h : namedB m = true) : m.length ≤ 8 := by
 simp only [namedB, Bool.and_eq_true, decide_eq_true_eq] at h; exact h.2.2
end TL

namespace TL
open Go
def numF : Nat → Nat → List UInt8
 | 0, n => [UInt8.ofNat n]
 | k + 1, n => if n < 128 then [UInt8.ofNat n] else UInt8.ofNat (128 + n % 128) :: numF k (n / 128)
def numL (n : Nat) : List UInt8 := numF 9 n
def valB : List UInt8 → Nat
 | [] => 0
 | b :: r => b.toNat % 128 + 128 * valB r
theorem u8 {n : Nat} (h : n < 256) : (UInt8.ofNat n).toNat = n := by simp; omega
def Chain : List UInt8 → Prop
 | [] => False
 | [b] => b.toNat < 128
 | b :: r => 128 ≤ b.toNat ∧ Chain r
theorem numF_chain : ∀ {k n : Nat}, n < 128 ^ (k + 1) → Chain (numF k n)
 | 0, n, h => by simp [numF, Chain]; omega
 | k + 1, n, h => by
  unfold numF
  split
  ·rename_i h1; show (UInt8.ofNat n).toNat < 128; rw [u8 (by omega)]; exact h1
  ·rename_i h1
   have ih := numF_chain (k := k) (n := n / 128) (by rw [Nat.div_lt_iff_lt_mul (by decide)]; exact h)
   cases e : numF k (n / 128) with
   | nil => rw [e] at ih; exact ih.elim
   | cons c r =>
    rw [e] at ih
    exact ⟨by rw [u8 (by omega)]; omega, ih⟩
theorem numF_val : ∀ {k n : Nat}, n < 128 ^ (k + 1) → valB (numF k n) = n
 | 0, n, h => by
  have : n < 128 := by simpa using h
  simp only [numF, valB]; rw [u8 (by omega)]; omega
 | k + 1, n, h => by
  unfold numF
  split
  ·rename_i h1
   simp only [valB]; rw [u8 (by omega)]; omega
  ·rename_i h1
   have ih := numF_val (k := k) (n := n / 128) (by rw [Nat.div_lt_iff_lt_mul (by decide)]; exact h)
   simp only [valB]
   rw [u8 (by omega), ih]; omega
theorem chain_tail {b c : UInt8} {r : List UInt8} (h : Chain (b :: c :: r)) : 128 ≤ b.toNat ∧ Chain (c :: r) := h
theorem numF_pos (k n : Nat) : 0 < (numF k n).length := by
 cases k with
 | zero => simp [numF]
 | succ k => unfold numF; split <;> simp
theorem numF_len : ∀ {k n : Nat}, n < 128 ^ (k + 1) → ∀ {m : Nat}, 0 < m → ((numF k n).length ≤ m ↔ n < 128 ^ m)
 | 0, n, h, m, hm => by
  simp only [numF, List.length_singleton]
  refine ⟨fun _ => Nat.lt_of_lt_of_le h (Nat.pow_le_pow_right (by decide) hm), fun _ => hm⟩
 | k + 1, n, h, m, hm => by
  unfold numF
  split
  ·rename_i h1
   refine ⟨fun _ => Nat.lt_of_lt_of_le h1 ?_, fun _ => hm⟩
   calc 128 = 128 ^ 1 := rfl
    _ ≤ 128 ^ m := Nat.pow_le_pow_right (by decide) hm
  ·rename_i h1
   cases m with
   | zero => omega
   | succ m =>
    rw [List.length_cons, Nat.succ_le_succ_iff]
    cases m with
    | zero =>
     have := numF_pos k (n / 128)
     refine ⟨fun h => by omega, fun h => ?_⟩
     have h : n < 128 := h
     omega
    | succ m =>
     rw [numF_len (by rw [Nat.div_lt_iff_lt_mul (by decide)]; exact h) (Nat.succ_pos _), Nat.div_lt_iff_lt_mul (by decide)]
     rfl
theorem lt64 {n : Nat} (h : n < 18446744073709551616) : n < 128 ^ (9 + 1) := Nat.lt_trans h (by decide)
theorem numL_len {n m : Nat} (h : n < 18446744073709551616) (hm : 0 < m) : (numL n).length ≤ m ↔ n < 128 ^ m := numF_len (lt64 h) hm
theorem numL_pos (n : Nat) : 0 < (numL n).length := numF_pos 9 n
theorem numL_le {n : Nat} (h : n < 18446744073709551616) : (numL n).length ≤ 10 := (numL_len h (by decide)).2 (lt64 h)
theorem numL_chain {n : Nat} (h : n < 18446744073709551616) : Chain (numL n) := numF_chain (lt64 h)
theorem numL_val {n : Nat} (h : n < 18446744073709551616) : valB (numL n) = n := numF_val (lt64 h)
theorem numF_fuel : ∀ {k j n : Nat}, n < 128 ^ (k + 1) → n < 128 ^ (j + 1) → numF k n = numF j n
 | 0, 0, _, _, _ => rfl
 | 0, j + 1, n, h, _ => by
  have : n < 128 := by simpa using h
  simp [numF, this]
 | k + 1, 0, n, _, h => by
  have : n < 128 := by simpa using h
  simp [numF, this]
 | k + 1, j + 1, n, h1, h2 => by
  simp only [numF]
  split
  ·rfl
  ·rw [numF_fuel (by rw [Nat.div_lt_iff_lt_mul (by decide)]; exact h1) (by rw [Nat.div_lt_iff_lt_mul (by decide)]; exact h2)]
theorem numL_small {n : Nat} (h : n < 128) : numL n = [UInt8.ofNat n] := by simp [numL, numF, h]
theorem numL_step {n : Nat} (h : n < 18446744073709551616) (h1 : 128 ≤ n) : numL n = UInt8.ofNat (128 + n % 128) :: numL (n / 128) := by
 have e : numL n = UInt8.ofNat (128 + n % 128) :: numF 8 (n / 128) := by unfold numL; rw [numF, if_neg (by omega)]
 rw [e]
 unfold numL
 rw [numF_fuel (k := 8) (j := 9)]
 ·have : (128 : Nat) ^ (8 + 1) = 9223372036854775808 := by decide
  omega
 ·have : (128 : Nat) ^ (9 + 1) = 1180591620717411303424 := by decide
  omega
theorem pow128 (m : Nat) : 128 ^ m = 2 ^ (7 * m) := by rw [Nat.pow_mul]
def sizeN (n : Nat) : Nat := max 1 ((blen n + 6) / 7)
theorem sizeN_len {n : Nat} (h : n < 18446744073709551616) : sizeN n = (numL n).length := by
 have h1 : ∀ m, 0 < m → (sizeN n ≤ m ↔ (numL n).length ≤ m) := fun m hm => by
  rw [numL_len h hm, pow128, ← blen_le]
  unfold sizeN; omega
 have hp := numL_pos n
 have hs : 0 < sizeN n := by unfold sizeN; omega
 exact Nat.le_antisymm ((h1 _ hp).2 (Nat.le_refl _)) ((h1 _ hs).1 (Nat.le_refl _))
def lead : Nat → List UInt8 → Nat
 | 0, _ => 0
 | _ + 1, [] => 0
 | k + 1, b :: r => if 128 ≤ b.toNat then lead k r + 1 else 0
structure Nx where
 v : Nat
 n : Nat
 e : Nat
def nextS (l : List UInt8) : Nx :=
 let k := lead 10 l
 if k = 10 then ⟨0, 0, 8⟩
 else if k = l.length then ⟨0, 0, 7⟩
 else if k = 9 ∧ 1 < (l.getD 9 0).toNat then ⟨0, 0, 8⟩
 else if (numL (valB (l.take (k + 1)))).length = k + 1 then ⟨valB (l.take (k + 1)), k + 1, 0⟩ else ⟨0, 0, 8⟩
theorem lead_chain : ∀ {k : Nat} {l r : List UInt8}, Chain l → l.length ≤ k → lead k (l ++ r) = l.length - 1
 | _, [], _, h, _ => h.elim
 | 0, _ :: _, _, _, h => by simp at h
 | k + 1, [b], r, h, _ => by
  have h : b.toNat < 128 := h
  simp only [List.singleton_append, lead]
  rw [if_neg (by omega)]; rfl
 | k + 1, b :: c :: s, r, h, hl => by
  obtain ⟨h1, h2⟩ := chain_tail h
  simp only [List.cons_append, lead]
  rw [if_pos h1, ← List.cons_append, lead_chain h2 (by simpa using hl)]
  simp
theorem next_num {n : Nat} (h : n < 18446744073709551616) (r : List UInt8) : nextS (numL n ++ r) = ⟨n, (numL n).length, 0⟩ := by
 have hc := numL_chain h
 have hl := numL_le h
 have hp := numL_pos n
 have hk : lead 10 (numL n ++ r) = (numL n).length - 1 := lead_chain hc hl
 have ht : (numL n ++ r).take ((numL n).length - 1 + 1) = numL n := by rw [Nat.sub_add_cancel hp, List.take_left]
 unfold nextS
 simp only [hk, ht, numL_val h]
 rw [if_neg (by omega), if_neg (by rw [List.length_append]; omega), if_neg, if_pos (by omega), Nat.sub_add_cancel hp]
 rintro ⟨h1, h2⟩
 have h10 : (numL n).length = 10 := by omega
 have : (numL n ++ r).getD 9 0 = (numL n).getD 9 0 := by
  simp only [List.getD_eq_getElem?_getD]
  rw [List.getElem?_append_left (by omega)]
 rw [this] at h2
 have hv := numL_val h
 revert hv h2
 match hm : numL n, h10 with
 | [a, b, c, d, e, f, g, h', i, j], _ =>
  intro h2 hv
  rw [hm] at hc
  simp only [List.getD_cons_succ, List.getD_cons_zero] at h2
  have hj : j.toNat < 128 := hc.2.2.2.2.2.2.2.2.2
  simp only [valB] at hv
  omega
end TL

namespace TL
open Go Go.Proofs
def len8 : ByteArray := ⟨#[0, 1, 2, 2, 3, 3, 3, 3, 4, 4, 4, 4, 4, 4, 4, 4, 5, 5, 5, 5, 5, 5, 5, 5, 5, 5, 5, 5, 5, 5, 5, 5, 6, 6, 6, 6, 6, 6, 6, 6, 6, 6, 6, 6, 6, 6, 6, 6, 6, 6, 6, 6, 6, 6, 6, 6, 6, 6, 6, 6, 6, 6, 6, 6, 7, 7, 7, 7, 7, 7, 7, 7, 7, 7, 7, 7, 7, 7, 7, 7, 7, 7, 7, 7, 7, 7, 7, 7, 7, 7, 7, 7, 7, 7, 7, 7, 7, 7, 7, 7, 7, 7, 7, 7, 7, 7, 7, 7, 7, 7, 7, 7, 7, 7, 7, 7, 7, 7, 7, 7, 7, 7, 7, 7, 7, 7, 7, 7, 8, 8, 8, 8, 8, 8, 8, 8, 8, 8, 8, 8, 8, 8, 8, 8, 8, 8, 8, 8, 8, 8, 8, 8, 8, 8, 8, 8, 8, 8, 8, 8, 8, 8, 8, 8, 8, 8, 8, 8, 8, 8, 8, 8, 8, 8, 8, 8, 8, 8, 8, 8, 8, 8, 8, 8, 8, 8, 8, 8, 8, 8, 8, 8, 8, 8, 8, 8, 8, 8, 8, 8, 8, 8, 8, 8, 8, 8, 8, 8, 8, 8, 8, 8, 8, 8, 8, 8, 8, 8, 8, 8, 8, 8, 8, 8, 8, 8, 8, 8, 8, 8, 8, 8, 8, 8, 8, 8, 8, 8, 8, 8, 8, 8, 8, 8, 8, 8, 8, 8, 8, 8, 8, 8, 8, 8, 8, 8]⟩
theorem len8_tab : ∀ i : Nat, i < 256 → byteAt len8 (i : Int) = (blen i : Int) := by decide +kernel
variable {B : List Nat} {h : PH} {x : Option Addr} {K : Value → PH → Prop}
theorem lf {t : ByteArray} {y c : Int} {m c' : Nat} {K : Int → Prop} (ht : t = len8) (hy : y = (m : Int)) (hm : m < 256) (hc : c = (c' : Int)) (hc' : c' ≤ 56) (hk : K ((c' + blen m : Nat) : Int)) :
  (0 ≤ IntKind.wrap .u8 y ∧ IntKind.wrap .u8 y < (ByteArray.size t : Nat)) ∧ K (IntKind.wrap .i64 (c + IntKind.wrap .i64 (byteAt t (IntKind.wrap .u8 y)))) := by
 subst ht hy hc
 rw [wrap_u8 (by omega) (by omega), len8_tab m hm]
 have hb : blen m ≤ 8 := blen_le.2 hm
 rw [wrap64 (n := (blen m : Int)) (by omega) (by omega), wrap64 (by omega) (by omega)]
 refine ⟨⟨by omega, ?_⟩, by simpa using hk⟩
 have : len8.size = 256 := by kernel_rfl
 omega
set_option maxRecDepth 100000 in
theorem cLen64 {n : Nat} (hn : n < 18446744073709551616) (hk : K (.int .i64 (blen n)) h) : CallH Tryz.prog id_math_bits_Len64 [.int .u64 (n : Int)] K h := by
 have dv : ∀ {m s : Nat}, s < 64 → shrV .u64 (m : Int) (s : Int) = ((m / 2 ^ s : Nat) : Int) := shr_nat
 have d8 : ∀ m : Nat, shrV .u64 (m : Int) 8 = ((m / 256 : Nat) : Int) := fun m => dv (s := 8) (by decide)
 have d16 : ∀ m : Nat, shrV .u64 (m : Int) 16 = ((m / 65536 : Nat) : Int) := fun m => dv (s := 16) (by decide)
 have d32 : ∀ m : Nat, shrV .u64 (m : Int) 32 = ((m / 4294967296 : Nat) : Int) := fun m => dv (s := 32) (by decide)
 refine F_math_bits_Len64_ok ⟨fun st h' => h' = h ∧ ∃ m s : Nat, st.1 = (m : Int) ∧ st.2.1 = (s : Int) ∧ m < 4294967296 ∧ s ≤ 32 ∧ blen n = s + blen m, ⟨fun e => ?_, fun e => ?_⟩, ?_⟩
 ·have e : 4294967296 ≤ n := by simp at e; omega
  rw [d32]
  exact ⟨rfl, n / 4294967296, 32, rfl, rfl, by omega, by decide, blen_shift (s := 32) e⟩
 ·have e : n < 4294967296 := by simp at e; omega
  exact ⟨rfl, n, 0, rfl, rfl, e, by decide, by simp⟩
 rintro ⟨_, _, u⟩ h1 ⟨rfl, m, s, rfl, rfl, hm, hs, hb⟩
 refine ⟨fun st h' => h' = h1 ∧ ∃ m s : Nat, st.1 = (m : Int) ∧ st.2.1 = (s : Int) ∧ m < 65536 ∧ s ≤ 48 ∧ blen n = s + blen m, ⟨fun e => ?_, fun e => ?_⟩, ?_⟩
 ·have e : 65536 ≤ m := by simp at e; omega
  dsimp only
  rw [d16, wrap64 (n := (s : Int) + 16) (by omega) (by omega)]
  exact ⟨rfl, m / 65536, s + 16, rfl, by omega, by omega, by omega, by rw [hb, blen_shift (n := m) (s := 16) e, Nat.add_assoc]⟩
 ·have e : m < 65536 := by simp at e; omega
  exact ⟨rfl, m, s, rfl, rfl, e, by omega, hb⟩
 clear hb hm hs m s
 rintro ⟨_, _, u⟩ h1 ⟨rfl, m, s, rfl, rfl, hm, hs, hb⟩
 dsimp only
 refine ⟨fun e => ?_, fun e => ?_⟩
 ·have e : 256 ≤ m := by simp at e; omega
  rw [d8, wrap64 (n := (s : Int) + 8) (by omega) (by omega)]
  refine lf (K := fun z => K (.int .i64 z) h1) (c' := s + 8) rfl rfl (by omega) (by omega) (by omega) ?_
  rw [Nat.add_assoc, ← blen_shift (n := m) (s := 8) e, ← hb]; exact hk
 ·have e : m < 256 := by simp at e; omega
  refine lf (K := fun z => K (.int .i64 z) h1) (c' := s) rfl rfl e rfl (by omega) ?_
  rw [← hb]; exact hk
theorem cSize {n : Nat} (hn : n < 18446744073709551616) (hk : K (.int .i64 ((numL n).length : Nat)) h) : CallH Tryz.prog id_pack_size [.int .u64 (n : Int)] K h := by
 refine F_pack_size_ok (cLen64 hn ⟨_, rfl, ?_⟩)
 have hb : blen n ≤ 64 := blen_le.2 hn
 rw [wrap64 (n := (blen n : Int) + 7) (by omega) (by omega), wrap64 (n := (blen n : Int) + 7 - 1) (by omega) (by omega), wrap64 (n := ((blen n : Int) + 7 - 1).tdiv 7) (by rw [Int.tdiv_eq_ediv_of_nonneg (by omega)]; omega) (by rw [Int.tdiv_eq_ediv_of_nonneg (by omega)]; omega)]
 have : maxV 1 (((blen n : Int) + 7 - 1).tdiv 7) = ((numL n).length : Int) := by
  rw [← sizeN_len hn]
  unfold sizeN maxV
  have e : ((blen n : Int) + 7 - 1).tdiv 7 = (((blen n + 6) / 7 : Nat) : Int) := by
   rw [Int.tdiv_eq_ediv_of_nonneg (by omega)]; omega
  rw [e]
  split <;> omega
 rw [this]; exact hk
def OutAt (B : List Nat) (h : PH) (x : Option Addr) (l : List UInt8) : Prop :=
 ∃ bn a n c Bw, x = some ⟨bn, 0, none⟩ ∧ B = bn :: Bw ∧ bn ∉ Bw ∧ h bn = some (.cells [.slice a n c].toArray T_pack_Out (0, 0)) ∧ Buf EncB 5 Bw h a n c l
theorem OutAt.chg {C C' : List Nat} {h' : PH} {l : List UInt8} (hx : OutAt B h x l) (c : Chg C C' h h') (d : Dj B C) : OutAt B h' x l := by
 obtain ⟨bn, a, n, cc, Bw, rfl, rfl, hn, hb, hw⟩ := hx
 exact ⟨bn, a, n, cc, Bw, rfl, rfl, hn, c.keep hb (d bn List.mem_cons_self), hw.chg c fun b hb => d b (List.mem_cons_of_mem _ hb)⟩
theorem OutAt.has {l : List UInt8} (hx : OutAt B h x l) : Has B h := by
 obtain ⟨bn, a, n, cc, Bw, rfl, rfl, hn, hb, hw⟩ := hx
 intro b hm
 rcases List.mem_cons.1 hm with rfl | hm
 ·exact ⟨_, hb⟩
 ·exact hw.has b hm
theorem OutAt.new {bn : Nat} (hb : h bn = some (.cells [.slice none 0 0].toArray T_pack_Out (0, 0))) : OutAt [bn] h (some ⟨bn, 0, none⟩) [] :=
 ⟨bn, none, 0, 0, [], rfl, rfl, by simp, hb, Buf.nil _ _ _ _⟩
theorem cOut_put {l m : List UInt8} {a : Option Addr} {c : Nat} (hx : OutAt B h x l) (hm : SR EncB h a m) (hb : l.length + m.length ≤ 140737488355328) (hk : ∀ B' h', OutAt B' h' x (l ++ m) → Chg B B' h h' → K (.tuple #[]) h') :
  CallH Tryz.prog id_pack_Out_put [.pointer x, .slice a m.length c] K h := by
 obtain ⟨bn, a0, n0, c0, Bw, rfl, rfl, hn, hb0, hw⟩ := hx
 have hnl := hw.1
 refine F_pack_Out_put_ok ⟨fun _ => ⟨bn, 0, rfl, a0, n0, c0, rdsL hb0 rfl rfl, _, hm.src, ?_⟩, nofun⟩
 refine hw.append (new := m) rfl rfl rfl (by omega) ?_
 intro a' c' B' h1 hw1 hc1 _
 have hb1 := hc1.keep hb0 hn
 have hn1 := hc1.fresh hb0 hn
 refine ⟨bn, 0, rfl, stL hb1 rfl rfl fun h2 hb2 hc2 => ?_⟩
 exact hk (bn :: B') h2 ⟨bn, a', _, c', B', rfl, rfl, hn1, hb2, hw1.chg hc2 (notIn1 hn1)⟩ (hc1.tail.trans hc2.head)
theorem SR.one {b : Nat} {v : UInt8} {z : Value} {T : TypeId} (hz : z = .int .u8 (v.toNat : Int)) (hb : h b = some (.cells [z].toArray T (0, 0))) : SR EncB h (some ⟨b, 0, none⟩) [v] :=
 .inr ⟨b, 0, rfl, by subst hz; exact rdsL hb rfl rfl⟩
theorem cOut_put1 {l : List UInt8} {v : UInt8} {z : Value} {T : TypeId} {KK : Value → PH → Prop} (hx : OutAt B h x l) (hz : z = .int .u8 (v.toNat : Int)) (hb : l.length + 1 ≤ 140737488355328) (hk : ∀ B' h', OutAt B' h' x (l ++ [v]) → Chg B B' h h' → KK (.tuple #[]) h') :
  newH h (.cells #[z] T (0, 0)) fun b h1 => CallH Tryz.prog id_pack_Out_put [.pointer x, .slice (some ⟨b, 0, none⟩) 1 1] KK h1 := by
 refine nwL (cs := [z]) fun b h1 hb0 hb1 hc1 => ?_
 refine cOut_put (m := [v]) (hx.chg hc1 (Dj.nil _)) (SR.one hz hb1) (by simpa using hb) fun B' h' hx' hc' => ?_
 exact hk B' h' hx' (hc1.pre hc' hx.has)
theorem or128 {n : Nat} (_ : n < 18446744073709551616) : bitsV .or .u8 (IntKind.wrap .u8 (n : Int)) (128 : Int) = ((UInt8.ofNat (128 + n % 128)).toNat : Int) := by
 have h1 : IntKind.wrap .u8 (n : Int) = ((n % 256 : Nat) : Int) := by simp [IntKind.wrap, IntKind.bits, IntKind.signed]
 have key : ∀ m : Nat, m < 256 → bitsV .or .u8 ((m : Nat) : Int) (128 : Int) = ((128 + m % 128 : Nat) : Int) := by decide +kernel
 rw [h1, key _ (by omega), u8 (by omega)]
 congr 1; omega
theorem cOut_Num {l : List UInt8} {n : Nat} (hx : OutAt B h x l) (hn : n < 18446744073709551616) (hb : l.length + 10 ≤ 140737488355328) (hk : ∀ B' h', OutAt B' h' x (l ++ numL n) → Chg B B' h h' → K (.tuple #[]) h') :
  CallH Tryz.prog id_pack_Out_Num [.pointer x, .int .u64 (n : Int)] K h := by
 refine F_pack_Out_Num_ok (cSize hn ⟨_, rfl, ?_⟩)
 have hle := numL_le hn
 refine LoopP.ind (fun (st : Int × Int × Unit) h' => ∃ (m : Nat) (B' : List Nat) (p : List UInt8), st.1 = (m : Int) ∧ m < 18446744073709551616 ∧ st.2.1 = ((numL m).length : Int) ∧ p ++ numL m = numL n ∧ OutAt B' h' x (l ++ p) ∧ Chg B B' h h') (fun st _ => st.2.1.toNat) ?_
  ⟨n, B, [], rfl, hn, rfl, rfl, by simpa using hx, Chg.refl _ _⟩
 rintro ⟨m', k, u⟩ h1 ⟨m, B1, p, rfl, hm, hk1, hp, hx1, hc1⟩
 dsimp only at hk1 ⊢
 subst hk1
 have hpl := congrArg List.length hp
 rw [List.length_append] at hpl
 have hmp := numL_pos m
 refine ⟨fun hc => ?_, fun hc => ?_⟩
 ·have hc : 1 < (numL m).length := by simp at hc; omega
  have h128 : 128 ≤ m := by
   rcases Nat.lt_or_ge m 128 with h | h
   ·rw [numL_small h] at hc; simp at hc
   ·exact h
  have hst := numL_step hm h128
  have hls := congrArg List.length hst
  rw [List.length_cons] at hls
  refine cOut_put1 (v := UInt8.ofNat (128 + m % 128)) hx1 (by rw [or128 hm]) (by rw [List.length_append]; omega) fun B2 h2 hx2 hc2 => ?_
  rw [show (7 : Int) = ((7 : Nat) : Int) from rfl, shr_nat (by decide), wrap64 (by omega) (by omega)]
  refine ⟨⟨m / 128, B2, p ++ [UInt8.ofNat (128 + m % 128)], rfl, by omega, by omega, ?_, by simpa using hx2, hc1.trans hc2⟩, by omega⟩
  rw [List.append_assoc, List.singleton_append, ← hst, hp]
 ·have hc : (numL m).length = 1 := by simp at hc; omega
  have hs : m < 128 := by
   rcases Nat.lt_or_ge m 128 with h | h
   ·exact h
   ·have := congrArg List.length (numL_step hm h)
    rw [List.length_cons] at this
    have := numL_pos (m / 128)
    omega
  refine cOut_put1 (v := UInt8.ofNat m) hx1 (by rw [wrap_u8 (by omega) (by omega), u8 (by omega)]) (by rw [List.length_append]; omega) fun B2 h2 hx2 hc2 => ?_
  refine hk B2 h2 ?_ (hc1.trans hc2)
  rw [← hp, numL_small hs, ← List.append_assoc]; exact hx2
def textL (s : List UInt8) : List UInt8 := numL s.length ++ s
theorem SR.text {b : Nat} {s : List UInt8} {T : TypeId} {fr : Nat × Nat} {r : List Value} (hb : h b = some (.cells (byteVs (mk s) ++ r).toArray T fr)) : SR EncB h (some ⟨b, 0, none⟩) s := by
 refine .inr ⟨b, 0, rfl, ?_⟩
 rw [byteVs_mk] at hb
 rw [rds_of hb (by rw [List.length_append, EncB.row_len]; omega)]
 rw [← EncB.row_len, List.drop_zero, List.take_left]
theorem cOut_Text {l s : List UInt8} (hx : OutAt B h x l) (hb : l.length + 10 + s.length ≤ 140737488355328) (hk : ∀ B' h', OutAt B' h' x (l ++ textL s) → Chg B B' h h' → K (.tuple #[]) h') :
  CallH Tryz.prog id_pack_Out_Text [.pointer x, .string (mk s)] K h := by
 refine F_pack_Out_Text_ok ?_
 have hs : s.length < 18446744073709551616 := by omega
 unfold F_pack_Out_Text
 rw [size_mk, wrap_u64 (by omega) (by omega)]
 have hle := numL_le hs
 refine cOut_Num hx hs (by omega) fun B1 h1 hx1 hc1 cap hcap b hb0 => ?_
 have hb1 : (h1.upd b (.cells (byteVs (mk s) ++ List.replicate (cap - s.length) (Value.int .u8 0)).toArray 5 (cap, cap + 1))) b = _ := PH.upd_same ..
 have hc2 := Chg.new (.cells (byteVs (mk s) ++ List.replicate (cap - s.length) (Value.int .u8 0)).toArray 5 (cap, cap + 1)) hb0
 refine cOut_put (hx1.chg hc2 (Dj.nil _)) (SR.text hb1) (by rw [List.length_append]; omega) fun B' h' hx' hc' => ?_
 refine hk B' h' ?_ (hc1.trans (hc2.pre hc' hx1.has))
 rw [textL, ← List.append_assoc]; exact hx'
theorem cOut_String {l : List UInt8} (hx : OutAt B h x l) (hk : K (.string (mk l)) h) : CallH Tryz.prog id_pack_Out_String [.pointer x] K h := by
 obtain ⟨bn, a0, n0, c0, Bw, rfl, rfl, hn, hb0, hw⟩ := hx
 refine F_pack_Out_String_ok ⟨nofun, fun _ => ⟨bn, 0, rfl, a0, n0, c0, rdsL hb0 rfl rfl, mk l, ?_, hk⟩⟩
 rw [hw.1]; exact hw.sr.str
end TL

namespace TL
open Go Go.RowKit Go.WideShapes Go.ChangeShapes
def whole (w : World) : PH := fun b => w.heap[b]?
theorem whole_in (w : World) : (whole w).In w := fun _ _ e => e
structure Left0 (W W' : World) : Prop where
 os : W'.os = W.os
 output : W'.output = W.output
 size : W.heap.size ≤ W'.heap.size
 block : ∀ k, k < W.heap.size → W'.heap[k]? = W.heap[k]?
theorem left_of {W W' : World} {h' : PH} (hF : Frm (whole W) W h' W') (hs : (whole W).Sub h') : Left0 W W' :=
 ⟨hF.os, hF.out, hF.size, fun k hk => by
  have h1 : whole W k = some W.heap[k] := Array.getElem?_eq_getElem hk
  rw [hF.inn k _ (hs k _ h1), Array.getElem?_eq_getElem hk]⟩
theorem law_call {P : Program} {f : FuncId} {args : Array Value} {W : World} (hc : CallH P f args.toList (fun v h' => v = .bool true ∧ (whole W).Sub h') (whole W)) : Calls P f args W fun e W' => e = .returned (.bool true) ∧ Left0 W W' := by
 have := hc W (whole_in W)
 simp only [Array.toArray_toList] at this
 refine Calls.mono this ?_
 rintro e W' ⟨v, h', rfl, ⟨rfl, hs⟩, hF⟩
 exact ⟨rfl, left_of hF hs⟩
theorem Left0.below {W W' : World} (h : Left0 W W') : Below W.heap.size W { W' with tape := W.tape } := ⟨h.os, rfl, h.output, h.size, h.block⟩
section
variable {H : Type} {enc : TypeId × Value → H} {P : Program}
theorem all_stays (hl : laidOutB P = true) {W W' : World} (hb : Left0 W W') : ∀ {ts : List TypeId} {vs : List Value} {ds : List (DataW H)} {ps : List MemPlace}, (∀ t ∈ ts, P.readableRec t = true ∧ t < P.types.size) →
  DataW.TrodAll enc P W 0 (fun _ => true) true ts vs ds ps → (∀ x ∈ ps, x.block < W.heap.size) → ∀ sp : Nat → Bool, (∀ x ∈ ps, sp x.block = true) → DataW.TrodAll enc P W' 0 sp true ts vs ds ps
 | [], [], [], _, _, h, _, _, _ => h
 | _ :: _, _ :: _, _ :: _, _, hT, ⟨p, q, h1, h2, e⟩, hlt, sp, hs => by
  subst e
  obtain ⟨hr, hrow⟩ := hT _ List.mem_cons_self
  refine ⟨p, q, ?_, all_stays hl hb (fun t ht => hT t (List.mem_cons_of_mem _ ht)) h2 (fun x hx => hlt x (List.mem_append_right _ hx)) sp (fun x hx => hs x (List.mem_append_right _ hx)), rfl⟩
  have hb2 := hb.below
  exact WideElems.Trod_stays (W' := W') hl hr hrow h1 (fun x hx => by have := hb2.same (hlt x (List.mem_append_left _ hx)); cases x <;> exact this) (fun x hx => hs x (List.mem_append_left _ hx))
theorem law_post {f : Func} {s : ChangeSpec} {apart fresh handsOn again : Bool} {W W' : World} {args : Array Value} {v : Value} {ds gs : List (DataW H)} {before pa pv : List MemPlace}
  (hW : DataW.Whole enc P f.params.toList s.vars apart W args.toList ds gs before)
  (hres : ∀ (b : Nat) (sp : Nat → Bool) (hd : Bool), DataW.TrodAll enc P W' b sp hd f.resultTypes.toList (v.resultList f.resultTypes.size) (s.fn H (ds ++ gs)).results [])
  (hargs : ∀ sp : Nat → Bool, (∀ p ∈ before, sp p.block = true) → DataW.TrodAll enc P W' 0 sp true f.params.toList args.toList (s.fn H (ds ++ gs)).args pa)
  (hvars : ∀ sp : Nat → Bool, (∀ p ∈ before, sp p.block = true) → DataW.TrodVars enc P W' sp s.vars (s.fn H (ds ++ gs)).vars pv)
  (hps : before = pa ++ pv) (hb0 : Left0 W W')
  (hok : ∀ (j : Nat) (t : TypeId) (r : Value), f.resultTypes[j]? = some t → (v.resultList f.resultTypes.size)[j]? = some r → Value.okWide P W' .any 0 t r) :
  s.post enc P f apart fresh handsOn again W args v W' := by
 have hb := hb0.below
 have hlt : ∀ p ∈ before, p.block < W.heap.size := fun p hp => hW.lt p hp
 have hold : ∀ p ∈ before, (fun b => decide (b < W.heap.size)) p.block = true := fun p hp => by simpa using hlt p hp
 refine ⟨ds, gs, before, [], pa, pv, hW, hres _ _ _, hargs _ hold, hvars _ hold, World.keptBut_mono (fun p hp => ⟨hp, ?_⟩) (hb.frame (· ∈ before)), fun _ => ?_⟩
 ·rw [hps, List.mem_append] at hp
  exact Or.inr hp
 ·obtain ⟨_, _, _, _, _, hz, hn⟩ := hW
  refine ⟨hok, _, _, ([] ++ pa) ++ pv, ⟨[] ++ pa, pv, trodAll_append (hargs _ (fun _ _ => rfl)) (hres _ _ _), hvars _ (fun _ _ => rfl), rfl, ?_, ?_⟩, ?_⟩
  ·intro b off hp
   have hin : MemPlace.cell b off ∈ before := by rw [hps]; simpa using hp
   have hfz : W'.frozen? ⟨b, off, none⟩ = W.frozen? ⟨b, off, none⟩ := hb.frozen (hlt _ hin)
   rw [hfz]
   exact hz b off hin
  ·intro ha
   have := hn ha
   rw [hps] at this
   simpa using this
  ·intro p hp _
   rw [hps]
   simpa using hp
end
end TL

namespace TL
open Go Go.RowKit Go.WideShapes Go.ChangeShapes
theorem cell_whole {w : World} {b o : Nat} {v : Value} (h : w.cell? ⟨b, o, none⟩ = some v) : ∃ c T fr, whole w b = some (.cells c T fr) ∧ c[o]? = some v := by
 unfold World.cell? at h
 split at h
 ·rename_i c T fr hb
  exact ⟨c, T, fr, hb, by simpa using h⟩
 ·cases h
theorem rds_whole {w : World} {b o : Nat} {vs : List Value} (h : ∀ i, i < vs.length → w.cell? ⟨b, o + i, none⟩ = vs[i]?) (hn : vs ≠ []) : (whole w).rds b o vs.length = some vs := by
 have hpos : 0 < vs.length := List.length_pos_iff.2 hn
 have h0 := h 0 hpos
 rw [List.getElem?_eq_getElem hpos] at h0
 obtain ⟨c, T, fr, hb, _⟩ := cell_whole h0
 have hc : ∀ i, i < vs.length → c[o + i]? = vs[i]? := fun i hi => by
  have h1 := h i hi
  rw [List.getElem?_eq_getElem hi] at h1 ⊢
  obtain ⟨c', T', fr', hb', hv⟩ := cell_whole h1
  rw [hb] at hb'; cases hb'
  exact hv
 have hle : o + vs.length ≤ c.size := by
  have h1 := hc (vs.length - 1) (by omega)
  rw [List.getElem?_eq_getElem (by omega)] at h1
  have := (Array.getElem?_eq_some_iff.1 h1).1
  omega
 unfold PH.rds
 rw [hb]
 simp only [hle, if_true]
 congr 1
 apply List.ext_getElem?
 intro i
 by_cases hi : i < vs.length
 ·rw [List.getElem?_take, if_pos hi, List.getElem?_drop, Array.getElem?_toList]
  exact hc i hi
 ·rw [List.getElem?_eq_none (by simp; omega), List.getElem?_eq_none (by omega)]
variable {α : Type} {E : Enc α}
theorem SR_of_cells {w : World} {base : Nat} {b o : Nat} : ∀ (n : Nat), (∀ i, i < n → ∃ x, w.cells? base ((⟨b, o, none⟩ : Addr).add (i * E.k)) E.k = some (E.enc x)) → ∃ l : List α, l.length = n ∧ SR E (whole w) (some ⟨b, o, none⟩) l := by
 intro n h
 obtain ⟨l, hl, hx⟩ : ∃ l : List α, l.length = n ∧ ∀ i (hi : i < l.length), w.cells? base ((⟨b, o, none⟩ : Addr).add (i * E.k)) E.k = some (E.enc l[i]) := by
  induction n with
  | zero => exact ⟨[], rfl, fun i hi => by cases hi⟩
  | succ n ih =>
   obtain ⟨l, hl, hx⟩ := ih fun i hi => h i (by omega)
   obtain ⟨x, hxn⟩ := h n (by omega)
   refine ⟨l ++ [x], by simp [hl], fun i hi => ?_⟩
   by_cases hin : i < l.length
   ·rw [List.getElem_append_left hin]; exact hx i hin
   ·have : i = n := by simp at hi; omega
    subst this
    subst hl
    simpa using hxn
 refine ⟨l, hl, ?_⟩
 cases l with
 | nil => exact .inl rfl
 | cons x0 r =>
  refine .inr ⟨b, o, rfl, ?_⟩
  rw [← E.row_len]
  refine rds_whole (fun j hj => ?_) ?_
  ·rw [E.row_len] at hj
   have hi : j / E.k < (x0 :: r).length := Nat.div_lt_of_lt_mul (by rw [Nat.mul_comm]; exact hj)
   have hm : j % E.k < E.k := Nat.mod_lt _ E.pos
   obtain ⟨_, _, h3⟩ := World.cells?_some (hx (j / E.k) hi)
   have h4 := h3 (j % E.k) hm
   rw [addr_add, addr_add, Nat.add_assoc, Nat.mul_comm, Nat.div_add_mod] at h4
   rw [h4]
   have h5 := E.row_field (l := x0 :: r) (i := j / E.k) (f := j % E.k) (m := 1) [] hi (by omega)
   rw [List.append_nil, Nat.mul_comm, Nat.div_add_mod] at h5
   have h6 := congrArg (fun l => l[0]?) h5
   simp only [List.getElem?_take, List.getElem?_drop] at h6
   simpa using h6.symm
  ·intro e
   have := congrArg List.length e
   rw [E.row_len] at this
   simp only [List.length_cons, List.length_nil] at this
   have := E.pos
   rcases Nat.mul_eq_zero.1 (by assumption) with h | h <;> omega
theorem open_rows {H : Type} {enc : TypeId × Value → H} {P : Program} {w : World} {t e : TypeId} {v : Value} {d : DataW H} {ps : List MemPlace} (ht : P.underlying t = some (.slice e)) (hk : P.cellsOf e = E.k)
  (hE : ∀ n cs y, DataW.trod enc P w 0 (fun _ => true) true n e cs = some y → ∃ x, cs = E.enc x) (h : DataW.Trod enc P w 0 (fun _ => true) true t v d ps) (h1 : one1 v = true) :
  ∃ (a : Option Addr) (l : List α) (c : Nat), v = .slice a l.length c ∧ SR E (whole w) a l ∧ l.length ≤ c ∧ c ≤ maxLen := by
 obtain ⟨fuel, h⟩ := h
 have hv : v.cells.toList = [v] := by cases v <;> simp [one1] at h1 <;> rfl
 rw [hv] at h
 rcases Go.Deep.open_slice ht h with ⟨h0, _⟩ | ⟨a, len, cap, m, n, D, Pl, h0, _, hle, hcap, hm, _, hx⟩
 ·have : v = .slice none 0 0 := by simpa using h0
  subst this
  exact ⟨none, [], 0, rfl, .inl rfl, Nat.le_refl _, Nat.zero_le _⟩
 ·have : v = .slice (some a) len cap := by simpa using h0
  subst this
  have hlm : len ≤ m := by rw [hm]; simp; exact hle
  obtain ⟨b, o, sp⟩ := a
  cases sp with
  | none =>
   obtain ⟨l, hl, hs⟩ := SR_of_cells (E := E) (w := w) (base := 0) (b := b) (o := o) len fun i hi => by
    obtain ⟨cs', h2, h3⟩ := hx i (by omega)
    obtain ⟨x, rfl⟩ := hE _ _ _ h3
    rw [hk] at h2
    exact ⟨x, h2⟩
   exact ⟨_, l, cap, by rw [hl], hs, by rw [hl]; exact hle, hcap⟩
  | some s =>
   have h0 : len = 0 := by
    rcases Nat.eq_zero_or_pos len with h0 | h0
    ·exact h0
    ·obtain ⟨cs', h2, h3⟩ := hx 0 (by omega)
     obtain ⟨x, rfl⟩ := hE _ _ _ h3
     obtain ⟨_, h4, h5⟩ := World.cells?_some h2
     have hp := E.pos
     have h6 := h5 0 (by omega)
     rw [List.getElem?_eq_getElem (by rw [E.len]; exact hp)] at h6
     simp only [World.cell?, Addr.add] at h6
     split at h6 <;> simp at h6
   subst h0
   exact ⟨_, [], cap, rfl, .inl rfl, Nat.zero_le _, hcap⟩
theorem one_slice {P : Program} {w : World} {r : Reach} {base : Nat} {t e : TypeId} {v : Value} (ht : P.underlying t = some (.slice e)) (h : Value.okWide P w r base t v) : one1 v = true := by
 unfold Value.okWide at h
 simp only [ht] at h
 unfold Cell.okWide at h
 simp only [ht] at h
 unfold Cell.ok at h
 simp only [ht] at h
 cases v <;> first | rfl | exact h.elim
theorem one_plain {P : Program} {w : World} {r : Reach} {base : Nat} {t : TypeId} {v : Value} (ht : P.underlying t = some .bool ∨ P.underlying t = some .string ∨ ∃ k, P.underlying t = some (.int k)) (h : Value.okWide P w r base t v) : one1 v = true := by
 unfold Value.okWide at h
 rcases ht with ht | ht | ⟨k, ht⟩ <;> simp only [ht] at h <;> unfold Cell.okWide at h <;> simp only [ht] at h <;> unfold Cell.ok at h <;> simp only [ht] at h <;> cases v <;> first | rfl | exact h.elim
section
variable {H : Type} {enc : TypeId × Value → H} {P : Program} {w : World} {t : TypeId} {v : Value} {d : DataW H} {ps : List MemPlace} {r : Reach} {base : Nat}
theorem cells_one (h1 : one1 v = true) : v.cells.toList = [v] := by cases v <;> simp [one1] at h1 <;> rfl
theorem open_int {k : IntKind} (ht : P.underlying t = some (.int k)) (h : DataW.Trod enc P w 0 (fun _ => true) true t v d ps) (hv : Value.okWide P w r base t v) : ∃ n, v = .int k n ∧ (Lit.int k n).wf = true := by
 obtain ⟨fuel, h⟩ := h
 rw [cells_one (one_plain (.inr (.inr ⟨k, ht⟩)) hv)] at h
 obtain ⟨n, hn, _, hw⟩ := DataW.trod_int ht h
 cases hn; exact ⟨n, rfl, hw⟩
end
end TL

namespace TL
open Go Go.RowKit Go.WideShapes Go.ChangeShapes
inductive DT | int (k : IntKind) | bool | str | sl (t : TypeId) | ints (k : IntKind) (n : Nat)
def DT.n : DT → Nat
 | .ints _ n => n
 | _ => 1
def dN : List DT → Nat
 | [] => 0
 | d :: r => d.n + dN r
theorem take1 {α : Type} {l : List α} {i : Nat} (h : i < l.length) : (l.drop i).take 1 = [l[i]] := by
 rw [List.drop_eq_getElem_cons h]; rfl
variable {R : TypeId → Value → Prop}
def sh1 (R : TypeId → Value → Prop) : DT → List Value → Prop
 | .int k, vs => ∃ n, vs = [.int k n] ∧ (Lit.int k n).wf = true
 | .bool, vs => ∃ b, vs = [.bool b]
 | .str, vs => ∃ s : ByteArray, vs = [.string s] ∧ s.size ≤ maxLen
 | .sl t, vs => ∃ v, vs = [v] ∧ one1 v = true ∧ R t v
 | .ints k n, vs => ∃ l : List Int, vs = l.map (Value.int k) ∧ l.length = n ∧ ∀ x ∈ l, (Lit.int k x).wf = true
def shT (R : TypeId → Value → Prop) : List DT → List Value → Prop
 | [], vs => vs = []
 | d :: r, vs => ∃ a b, vs = a ++ b ∧ sh1 R d a ∧ shT R r b
theorem sh1_len {d : DT} {vs : List Value} (h : sh1 R d vs) : vs.length = d.n := by
 cases d <;> simp only [sh1] at h
 ·obtain ⟨n, rfl, _⟩ := h; rfl
 ·obtain ⟨n, rfl⟩ := h; rfl
 ·obtain ⟨n, rfl, _⟩ := h; rfl
 ·obtain ⟨n, rfl, _⟩ := h; rfl
 ·obtain ⟨l, rfl, h, _⟩ := h; simp [h, DT.n]
theorem shT_len : ∀ {ks : List DT} {vs : List Value}, shT R ks vs → vs.length = dN ks
 | [], vs, h => by simp only [shT] at h; subst h; rfl
 | d :: r, vs, h => by
  obtain ⟨a, b, rfl, h1, h2⟩ := h
  rw [List.length_append, sh1_len h1, shT_len h2]; rfl
theorem shT_app : ∀ {ks ks' : List DT} {vs vs' : List Value}, shT R ks vs → shT R ks' vs' → shT R (ks ++ ks') (vs ++ vs')
 | [], _, vs, _, h, h' => by simp only [shT] at h; subst h; exact h'
 | d :: r, _, vs, vs', h, h' => by
  obtain ⟨a, b, rfl, h1, h2⟩ := h
  exact ⟨a, b ++ vs', by simp, h1, shT_app h2 h'⟩
theorem shT_one {d : DT} {vs : List Value} (h : sh1 R d vs) : shT R [d] vs := ⟨vs, [], by simp, h, rfl⟩
theorem dN_app (a b : List DT) : dN (a ++ b) = dN a + dN b := by
 induction a with
 | nil => simp [dN]
 | cons d r ih => simp [dN, ih, Nat.add_assoc]
def dFsT (D : TypeId → Option (List DT)) : List Field → Nat → Option (List DT)
 | [], _ => some []
 | f :: r, o => match f.offset == o, D f.type with
  | true, some ks => match dFsT D r (o + dN ks) with
   | some ks' => some (ks ++ ks')
   | none => none
  | _, _ => none
def dT (P : Program) : Nat → TypeId → Option (List DT)
 | 0, _ => none
 | n + 1, t => match P.underlying t with
  | some (.int k) => some [.int k]
  | some .bool => some [.bool]
  | some .string => some [.str]
  | some (.slice _) => some [.sl t]
  | some (.array m e) => match P.underlying e, P.cellsOf e == 1, P.cellsOf t == m with
   | some (.int k), true, true => some [.ints k m]
   | _, _, _ => none
  | some (.struct fs) => match dFsT (dT P n) fs.toList 0 with
   | some ks => match dN ks == P.cellsOf t with
    | true => some ks
    | false => none
   | none => none
  | _ => none
theorem dFsT_ok {P : Program} {D : TypeId → Option (List DT)} {cs : List Value} {T : TypeId → List Value → Prop} (hD : ∀ t ks vs, D t = some ks → T t vs → shT R ks vs) : ∀ {fs : List Field} {o : Nat} {ks : List DT}, dFsT D fs o = some ks →
  (∀ f ∈ fs, T f.type ((cs.drop f.offset).take (P.cellsOf f.type))) → shT R ks ((cs.drop o).take (dN ks))
 | [], o, ks, h, _ => by simp [dFsT] at h; subst h; simp [shT, dN]
 | f :: r, o, ks, h, hf => by
  simp only [dFsT] at h
  split at h
  ·rename_i k1 ho h1
   split at h
   ·rename_i k2 h2
    cases h
    have ho := beq_iff_eq.1 ho
    have s1 := hD _ _ _ h1 (hf f List.mem_cons_self)
    rw [ho] at s1
    have l1 := shT_len s1
    have s2 := dFsT_ok hD h2 fun g hg => hf g (List.mem_cons_of_mem _ hg)
    have e1 : (cs.drop o).take (P.cellsOf f.type) = (cs.drop o).take (dN k1) := by
     rw [← l1, List.length_take]
     rcases Nat.le_total (P.cellsOf f.type) (cs.drop o).length with hle | hle
     ·rw [Nat.min_eq_left hle]
     ·rw [Nat.min_eq_right hle, List.take_of_length_le hle, List.take_length]
    rw [e1] at s1
    have := shT_app s1 s2
    rw [dN_app, List.take_add, List.drop_drop]
    exact this
   ·cases h
  ·cases h
def Trd {H : Type} (enc : TypeId × Value → H) (P : Program) (w : World) (t : TypeId) (v : Value) : Prop := ∃ d ps, DataW.Trod enc P w 0 (fun _ => true) true t v d ps
theorem dT_ok {P : Program} {H : Type} {enc : TypeId × Value → H} {w : World} : ∀ (f : Nat) {n : Nat} {t : TypeId} {ks : List DT} {cs : List Value} {y : DataW H × List MemPlace}, dT P f t = some ks → DataW.trod enc P w 0 (fun _ => true) true n t cs = some y → shT (Trd enc P w) ks cs
 | 0, _, _, _, _, _, h, _ => by cases h
 | f + 1, n, t, ks, cs, y, h, hy => by
  simp only [dT] at h
  split at h
  ·rename_i k hu
   cases h
   obtain ⟨m, rfl, _, hw⟩ := DataW.trod_int hu hy
   exact shT_one ⟨m, rfl, hw⟩
  ·rename_i hu
   cases h
   obtain ⟨b, rfl, _⟩ := DataW.trod_bool hu hy
   exact shT_one ⟨b, rfl⟩
  ·rename_i hu
   cases h
   obtain ⟨s, rfl, _, hs⟩ := DataW.trod_string hu hy
   exact shT_one ⟨s, rfl, hs⟩
  ·rename_i e hu
   cases h
   have hone : ∃ v, cs = [v] ∧ v.cells.toList = [v] ∧ one1 v = true := by
    rcases DataW.trod_slice hu hy with ⟨rfl, _⟩ | ⟨a, len, cap, _, _, _, _, rfl, _⟩
    ·exact ⟨_, rfl, rfl, rfl⟩
    ·exact ⟨_, rfl, rfl, rfl⟩
   obtain ⟨v, rfl, hv, h1⟩ := hone
   obtain ⟨d, ps⟩ := y
   exact shT_one ⟨v, rfl, h1, d, ps, n, by rw [hv]; exact hy⟩
  ·rename_i m e hu
   split at h
   ·rename_i k he hc hm
    cases h
    have hc := beq_iff_eq.1 hc
    have hm := beq_iff_eq.1 hm
    obtain ⟨xs, n', _, _, hl, hlen, hf⟩ := DataW.trod_array hu hy
    have hcell : ∀ i, i < m → ∃ z, (cs.drop i).take 1 = [.int k z] ∧ (Lit.int k z).wf = true := fun i hi => by
     have h2 := hf i hi
     rw [List.getElem?_eq_getElem (by omega), hc, Nat.mul_one] at h2
     obtain ⟨z, hz, _, hw⟩ := DataW.trod_int he h2
     exact ⟨z, hz, hw⟩
    have hcl : cs.length = m := by rw [hl, hm]
    refine shT_one ⟨cs.map intV, ?_, by simp [hcl], fun x hx => ?_⟩
    ·apply List.ext_getElem
     ·simp
     ·intro i h1 h2
      obtain ⟨z, hz, _⟩ := hcell i (by omega)
      rw [take1 h1] at hz
      simp only [List.cons.injEq, and_true] at hz
      simp [hz, intV]
    ·obtain ⟨v, hv, rfl⟩ := List.mem_map.1 hx
     obtain ⟨i, hi, rfl⟩ := List.getElem_of_mem hv
     obtain ⟨z, hz, hw⟩ := hcell i (by omega)
     rw [take1 hi] at hz
     simp only [List.cons.injEq, and_true] at hz
     rw [hz]; exact hw
   ·cases h
  ·rename_i fs hu
   split at h
   ·rename_i k1 h1
    split at h
    ·rename_i hk
     cases h
     obtain ⟨xs, n', _, _, hl, hlen, hf⟩ := DataW.trod_struct hu hy
     have := dFsT_ok (P := P) (cs := cs) (T := fun t vs => ∃ y, DataW.trod enc P w 0 (fun _ => true) true n' t vs = some y) (fun t ks vs hD ⟨y, hy⟩ => dT_ok f hD hy) h1 fun g hg => by
      obtain ⟨i, hi, hg⟩ := List.getElem_of_mem hg
      have h2 := hf i g (by rw [← hg]; simp at hi ⊢)
      rw [List.getElem?_eq_getElem (by rw [hlen]; simpa using hi)] at h2
      exact ⟨_, h2⟩
     have hk := beq_iff_eq.1 hk
     rw [List.drop_zero, hk, ← hl, List.take_length] at this
     exact this
    ·cases h
   ·cases h
  ·cases h
theorem sT_nil {vs : List Value} (h : shT R [] vs) : vs = [] := h
theorem sT_int {k : IntKind} {r : List DT} {vs : List Value} (h : shT R (.int k :: r) vs) : ∃ n vs', vs = .int k n :: vs' ∧ (Lit.int k n).wf = true ∧ shT R r vs' := by
 obtain ⟨a, b, rfl, ⟨n, rfl, hw⟩, h⟩ := h
 exact ⟨n, b, rfl, hw, h⟩
theorem sT_str {r : List DT} {vs : List Value} (h : shT R (.str :: r) vs) : ∃ (s : ByteArray) (vs' : List Value), vs = .string s :: vs' ∧ s.size ≤ maxLen ∧ shT R r vs' := by
 obtain ⟨a, b, rfl, ⟨n, rfl, hw⟩, h⟩ := h
 exact ⟨n, b, rfl, hw, h⟩
theorem sT_sl {t : TypeId} {r : List DT} {vs : List Value} (h : shT R (.sl t :: r) vs) : ∃ v vs', vs = v :: vs' ∧ one1 v = true ∧ R t v ∧ shT R r vs' := by
 obtain ⟨a, b, rfl, ⟨v, rfl, h1, h2⟩, h⟩ := h
 exact ⟨v, b, rfl, h1, h2, h⟩
theorem open_rowsQ {α : Type} {E : Enc α} {Q : α → Prop} {H : Type} {enc : TypeId × Value → H} {P : Program} {w : World} {t e : TypeId} {v : Value} (ht : P.underlying t = some (.slice e)) (hk : P.cellsOf e = E.k)
  (hE : ∀ n cs y, DataW.trod enc P w 0 (fun _ => true) true n e cs = some y → ∃ x, cs = E.enc x ∧ Q x) (h : Trd enc P w t v) (h1 : one1 v = true) :
  ∃ (a : Option Addr) (l : List α) (c : Nat), v = .slice a l.length c ∧ SR E (whole w) a l ∧ l.length ≤ c ∧ c ≤ maxLen ∧ ∀ x ∈ l, Q x := by
 classical
 let E2 : Enc {x : α // Q x} := ⟨fun x => E.enc x.1, E.k, fun x => E.len x.1, fun x => E.one x.1, E.pos⟩
 obtain ⟨d, ps, h⟩ := h
 obtain ⟨a, l, c, hv, hs, hle, hm⟩ := open_rows (E := E2) ht hk (fun n cs y hy => by
  obtain ⟨x, hx, hq⟩ := hE n cs y hy
  exact ⟨⟨x, hq⟩, hx⟩) h h1
 have hrow : ∀ l : List {x : α // Q x}, E2.row l = E.row (l.map (·.1)) := fun l => by
  simp only [Enc.row, List.flatMap_map]; rfl
 refine ⟨a, l.map (·.1), c, by simpa using hv, ?_, by simpa using hle, hm, fun x hx => ?_⟩
 ·rcases hs with rfl | ⟨b, o, ha, hr⟩
  ·exact .inl rfl
  ·refine .inr ⟨b, o, ha, ?_⟩
   rw [List.length_map, ← hrow]; exact hr
 ·obtain ⟨y, _, rfl⟩ := List.mem_map.1 hx
  exact y.2
end TL
