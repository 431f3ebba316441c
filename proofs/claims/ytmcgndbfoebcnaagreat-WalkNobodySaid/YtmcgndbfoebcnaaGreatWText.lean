/-
  The functions of the program as predicates on heap fragments, each tied to its code (a part). No condition.
-/
import Derived.Test.YtmcgndbfoebcnaaGreatTextA
import Derived.Test.YtmcgndbfoebcnaaGreatTreeB
import Derived.Test.YtmcgndbfoebcnaaGreatLibD
namespace TL
open Go Go.Proofs
/- twinlock/twinlocklaw20.Great -/
/- twinlock/twinlocklaw20.Made -/
/- twinlock/ship.New -/
/- (*twinlock/ship.Ship).Ack -/
/- (*twinlock/ship.Ship).Tick -/
/- (*twinlock/ship.Ship).Ask -/
/- (*twinlock/ship.Ship).Texts -/
/- twinlock/twinlocklaw12.GreatOps -/
/- (*twinlock/ship.Ship).Copy -/
/- twinlock/ship.next -/
/- twinlock/ship.entries -/
/- twinlock/ship.above -/
end TL

namespace TL
open Go Go.Proofs
/- twinlock/walk.New -/
def F_walk_New (baseA : Option Addr) (baseN baseC : Nat) (root : List Int) (K : Value → PH → Prop) (h : PH) : Prop :=
  CallH Tryz.prog id_tree_Of [.slice baseA baseN baseC] (fun v h1 =>
    ∃ t0 : Option Addr, ∃ t1 : Int, v = .tuple #[.pointer t0, .int .i64 t1] ∧
    (((t1 != (0 : Int)) = true →
        K (.tuple #[.pointer none, .int .i64 t1]) h1) ∧
      ((t1 != (0 : Int)) = false →
        JoinP (T := Option Addr × Unit) (fun Jv =>
          (newH h1 (.map #[] 0) fun bv h3 =>
            (newH h3 (.map #[] 0) fun bv_1 h4 =>
              CallH Tryz.prog id_tree_Tree_Texts [.pointer t0] (fun v_1 h5 =>
                ∃ (tA : Option Addr) (tN tC : Nat), v_1 = .slice tA tN tC ∧
                newH h5 (.cells ((.pointer t0 :: (root.map (Value.int .u8) ++ ([.map (some bv), .map (some bv_1), .slice tA tN tC] : List Value)))).toArray T_walk_Walk (0, 0)) fun bv_2 h6 =>
                Jv ((some ⟨bv_2, 0, none⟩), ()) h6) h4) ∧
            (CallH Tryz.prog id_tree_Tree_Texts [.pointer t0] (fun v_2 h7 =>
                ∃ (tA_1 : Option Addr) (tN_1 tC_1 : Nat), v_2 = .slice tA_1 tN_1 tC_1 ∧
                newH h7 (.map #[] 0) fun bv_3 h8 =>
                newH h8 (.cells ((.pointer t0 :: (root.map (Value.int .u8) ++ ([.map (some bv), .map (some bv_3), .slice tA_1 tN_1 tC_1] : List Value)))).toArray T_walk_Walk (0, 0)) fun bv_4 h9 =>
                Jv ((some ⟨bv_4, 0, none⟩), ()) h9) h3)) ∧
          ((newH h1 (.map #[] 0) fun bv_5 h10 =>
              (newH h10 (.map #[] 0) fun bv_6 h11 =>
                CallH Tryz.prog id_tree_Tree_Texts [.pointer t0] (fun v_3 h12 =>
                  ∃ (tA_2 : Option Addr) (tN_2 tC_2 : Nat), v_3 = .slice tA_2 tN_2 tC_2 ∧
                  newH h12 (.cells ((.pointer t0 :: (root.map (Value.int .u8) ++ ([.map (some bv_6), .map (some bv_5), .slice tA_2 tN_2 tC_2] : List Value)))).toArray T_walk_Walk (0, 0)) fun bv_7 h13 =>
                  Jv ((some ⟨bv_7, 0, none⟩), ()) h13) h11) ∧
              (CallH Tryz.prog id_tree_Tree_Texts [.pointer t0] (fun v_4 h14 =>
                  ∃ (tA_3 : Option Addr) (tN_3 tC_3 : Nat), v_4 = .slice tA_3 tN_3 tC_3 ∧
                  newH h14 (.map #[] 0) fun bv_8 h15 =>
                  newH h15 (.cells ((.pointer t0 :: (root.map (Value.int .u8) ++ ([.map (some bv_8), .map (some bv_5), .slice tA_3 tN_3 tC_3] : List Value)))).toArray T_walk_Walk (0, 0)) fun bv_9 h16 =>
                  Jv ((some ⟨bv_9, 0, none⟩), ()) h16) h10)) ∧
            (CallH Tryz.prog id_tree_Tree_Texts [.pointer t0] (fun v_5 h17 =>
                ∃ (tA_4 : Option Addr) (tN_4 tC_4 : Nat), v_5 = .slice tA_4 tN_4 tC_4 ∧
                (newH h17 (.map #[] 0) fun bv_10 h18 =>
                  newH h18 (.map #[] 0) fun bv_11 h19 =>
                  newH h19 (.cells ((.pointer t0 :: (root.map (Value.int .u8) ++ ([.map (some bv_10), .map (some bv_11), .slice tA_4 tN_4 tC_4] : List Value)))).toArray T_walk_Walk (0, 0)) fun bv_12 h20 =>
                  Jv ((some ⟨bv_12, 0, none⟩), ()) h20) ∧
                (newH h17 (.map #[] 0) fun bv_13 h21 =>
                  newH h21 (.map #[] 0) fun bv_14 h22 =>
                  newH h22 (.cells ((.pointer t0 :: (root.map (Value.int .u8) ++ ([.map (some bv_14), .map (some bv_13), .slice tA_4 tN_4 tC_4] : List Value)))).toArray T_walk_Walk (0, 0)) fun bv_15 h23 =>
                  Jv ((some ⟨bv_15, 0, none⟩), ()) h23)) h1)))
        (fun st h2 =>
          CallH Tryz.prog id_walk_Walk_ask [.pointer st.1, .agg #[.int .i64 (0 : Int), .int .i64 (0 : Int)], .agg ((root.map (Value.int .u8) ++ [])).toArray] (fun _ h24 =>
            K (.tuple #[.pointer st.1, .int .i64 (0 : Int)]) h24) h2)))) h
theorem F_walk_New_eq {baseA : Option Addr} {baseN baseC : Nat} {root : List Int} {K : Value → PH → Prop} {h : PH} : @Eq Prop (F_walk_New baseA baseN baseC root K h) (denF Tryz.prog Tryz.f39 ⟨[3], [(4, .one 0 (.one 1 (.one 4 (.alt 2 (.alt 3 (.of [5, 6, 7, 8]) (.of [5, 3, 6, 7, 8])) (.alt 3 (.alt 2 (.of [5, 6, 7, 8]) (.of [5, 2, 6, 7, 8])) (.one 5 (.alt 2 (.of [3, 6, 7, 8]) (.of [3, 2, 6, 7, 8]))))))))], [], [(12, ⟨[(8, .ptr)], [], []⟩)]⟩ [.v (.slice baseA baseN baseC), .agg [.ints .u8 32 root]] K h) := by
  kernel_rfl
theorem F_walk_New_ok {baseA : Option Addr} {baseN baseC : Nat} {root : List Int} (hk0 : root.length = 32) {K : Value → PH → Prop} {h : PH} (hh : F_walk_New baseA baseN baseC root K h) : CallH Tryz.prog id_walk_New [.slice baseA baseN baseC, .agg ((root.map (Value.int .u8) ++ [])).toArray] K h :=
  denF_sound' Tryz.func39 (H := ⟨[3], [(4, .one 0 (.one 1 (.one 4 (.alt 2 (.alt 3 (.of [5, 6, 7, 8]) (.of [5, 3, 6, 7, 8])) (.alt 3 (.alt 2 (.of [5, 6, 7, 8]) (.of [5, 2, 6, 7, 8])) (.one 5 (.alt 2 (.of [3, 6, 7, 8]) (.of [3, 2, 6, 7, 8]))))))))], [], [(12, ⟨[(8, .ptr)], [], []⟩)]⟩) (xs := [.v (.slice baseA baseN baseC), .agg [.ints .u8 32 root]]) (by kernel_rfl) (⟨rfl, ⟨hk0, trivial⟩, trivial⟩) (den_of F_walk_New_eq hh)

/- (*twinlock/walk.Walk).Want -/
def F_walk_Walk_Want (w : Option Addr) (n : Int) (K : Value → PH → Prop) (h : PH) : Prop :=
  CallH Tryz.prog id_walk_Walk_none [.pointer w] (fun v h1 =>
    ∃ t : Bool, v = .bool t ∧
    (((t || (decide (n < (1 : Int)))) = true →
        K (.slice none 0 0) h1) ∧
      ((t || (decide (n < (1 : Int)))) = false →
        ∃ bv ov : Nat, w = some ⟨bv, ov, none⟩ ∧
        ∃ t_1 : Option Nat, (h1.rds bv (ov + 33) 1 = some [.map t_1]) ∧
        CallH Tryz.prog id_maps_Keys_map_walk_Ask_api_Hash_walk_Ask_api_Hash [.map t_1] (fun v_1 h2 =>
          ∃ t_2 : Value, one1 t_2 = true ∧ v_1 = t_2 ∧
          CallH Tryz.prog id_slices_SortedFunc_walk_Ask [t_2, .func (.func 116) #[] #[]] (fun v_2 h3 =>
            ∃ (lA : Option Addr) (lN lC : Nat), v_2 = .slice lA lN lC ∧
            (0 ≤ (0 : Int) ∧ (0 : Int) ≤ (minV n ((lN : Nat) : Int)) ∧ (minV n ((lN : Nat) : Int)) ≤ ((lC : Nat) : Int) ∧ ((lC : Nat) : Int) ≤ (lC : Nat)) ∧
            K (.slice (slA lA 2 (0 : Int) ((lC : Nat) : Int)) ((minV n ((lN : Nat) : Int)).toNat - (0 : Int).toNat) (((lC : Nat) : Int).toNat - (0 : Int).toNat)) h3) h2) h1))) h
theorem F_walk_Walk_Want_eq {w : Option Addr} {n : Int} {K : Value → PH → Prop} {h : PH} : @Eq Prop (F_walk_Walk_Want w n K h) (denF Tryz.prog Tryz.f40 ⟨[], [], [], []⟩ [.v (.pointer w), .v (.int .i64 n)] K h) := by
  kernel_rfl
theorem F_walk_Walk_Want_ok {w : Option Addr} {n : Int}  {K : Value → PH → Prop} {h : PH} (hh : F_walk_Walk_Want w n K h) : CallH Tryz.prog id_walk_Walk_Want [.pointer w, .int .i64 n] K h :=
  denF_sound' Tryz.func40 (H := ⟨[], [], [], []⟩) (xs := [.v (.pointer w), .v (.int .i64 n)]) (by kernel_rfl) (⟨rfl, rfl, trivial⟩) (den_of F_walk_Walk_Want_eq hh)

/- (*twinlock/walk.Walk).Node -/
def F_walk_Walk_Node (w : Option Addr) (level : Int) (i : Int) (leftv : List Int) (rightv : List Int) (K : Value → PH → Prop) (h : PH) : Prop :=
  newH h (.cells ((leftv.map (Value.int .u8) ++ [])).toArray T_api_Hash (0, 0)) fun bv h1 =>
  newH h1 (.cells ((rightv.map (Value.int .u8) ++ [])).toArray T_api_Hash (0, 0)) fun bv_1 h2 =>
  CallH Tryz.prog id_walk_Walk_none [.pointer w] (fun v h3 =>
    ∃ t : Bool, v = .bool t ∧
    ((((t || (decide (level < (0 : Int)))) || (decide (level ≥ (4 : Int)))) = true →
        K (.bool false) h3) ∧
      (((t || (decide (level < (0 : Int)))) || (decide (level ≥ (4 : Int)))) = false →
        ∃ t_1 : List Int, t_1.length = 32 ∧ (h3.rds bv 0 32 = some (t_1.map (Value.int .u8) ++ [])) ∧
        ∃ t_2 : List Int, t_2.length = 32 ∧ (h3.rds bv_1 0 32 = some (t_2.map (Value.int .u8) ++ [])) ∧
        (0 ≤ (0 : Int) ∧ (0 : Int) ≤ ((32 : Nat) : Int) ∧ ((32 : Nat) : Int) ≤ ((32 : Nat) : Int) ∧ ((32 : Nat) : Int) ≤ (32 : Nat)) ∧
        ∃ t_3 : ByteArray, strH h3 (slA (some ⟨bv, 0, none⟩ : Option Addr) 1 (0 : Int) ((32 : Nat) : Int)) (((32 : Nat) : Int).toNat - (0 : Int).toNat) t_3 ∧
        (((ByteArray.size (⟨#[78]⟩ : ByteArray) + ByteArray.size t_3 : Nat) : Int) ≤ 9223372036854775807) ∧
        (0 ≤ (0 : Int) ∧ (0 : Int) ≤ ((32 : Nat) : Int) ∧ ((32 : Nat) : Int) ≤ ((32 : Nat) : Int) ∧ ((32 : Nat) : Int) ≤ (32 : Nat)) ∧
        ∃ t_4 : ByteArray, strH h3 (slA (some ⟨bv_1, 0, none⟩ : Option Addr) 1 (0 : Int) ((32 : Nat) : Int)) (((32 : Nat) : Int).toNat - (0 : Int).toNat) t_4 ∧
        (((ByteArray.size ((⟨#[78]⟩ : ByteArray) ++ t_3) + ByteArray.size t_4 : Nat) : Int) ≤ 9223372036854775807) ∧
        CallH Tryz.prog id_tree_Inner [.agg ((t_1.map (Value.int .u8) ++ [])).toArray, .agg ((t_2.map (Value.int .u8) ++ [])).toArray] (fun v_1 h4 =>
          ∃ t_5 : List Int, t_5.length = 32 ∧ v_1 = .agg ((t_5.map (Value.int .u8) ++ [])).toArray ∧
          (strH h4 (slA (some ⟨bv_1, 0, none⟩ : Option Addr) 1 (0 : Int) ((32 : Nat) : Int)) (((32 : Nat) : Int).toNat - (0 : Int).toNat) t_4) ∧
          (strH h4 (slA (some ⟨bv, 0, none⟩ : Option Addr) 1 (0 : Int) ((32 : Nat) : Int)) (((32 : Nat) : Int).toNat - (0 : Int).toNat) t_3) ∧
          CallH Tryz.prog id_walk_Walk_fits [.pointer w, .agg #[.int .i64 level, .int .i64 i], .agg ((t_5.map (Value.int .u8) ++ [])).toArray, .string (((⟨#[78]⟩ : ByteArray) ++ t_3) ++ t_4)] (fun v_2 h5 =>
            ∃ t_6 : Bool, v_2 = .bool t_6 ∧
            (((!t_6) = true →
                K (.bool false) h5) ∧
              ((!t_6) = false →
                ∃ t_7 : List Int, t_7.length = 32 ∧ (h5.rds bv 0 32 = some (t_7.map (Value.int .u8) ++ [])) ∧
                CallH Tryz.prog id_walk_Walk_ask [.pointer w, .agg #[.int .i64 (IntKind.wrap .i64 (level + (1 : Int))), .int .i64 (IntKind.wrap .i64 ((2 : Int) * i))], .agg ((t_7.map (Value.int .u8) ++ [])).toArray] (fun _ h6 =>
                  ∃ t_8 : List Int, t_8.length = 32 ∧ (h6.rds bv_1 0 32 = some (t_8.map (Value.int .u8) ++ [])) ∧
                  CallH Tryz.prog id_walk_Walk_ask [.pointer w, .agg #[.int .i64 (IntKind.wrap .i64 (level + (1 : Int))), .int .i64 (IntKind.wrap .i64 ((IntKind.wrap .i64 ((2 : Int) * i)) + (1 : Int)))], .agg ((t_8.map (Value.int .u8) ++ [])).toArray] (fun _ h7 =>
                    K (.bool true) h7) h6) h5))) h4) h3))) h2
theorem F_walk_Walk_Node_eq {w : Option Addr} {level : Int} {i : Int} {leftv : List Int} {rightv : List Int} {K : Value → PH → Prop} {h : PH} : @Eq Prop (F_walk_Walk_Node w level i leftv rightv K h) (denF Tryz.prog Tryz.f42 ⟨[], [(3, .of [0, 1, 2, 3, 4, 5, 7, 8, 9, 10, 11, 12, 6, 13, 14])], [], []⟩ [.v (.pointer w), .v (.int .i64 level), .v (.int .i64 i), .agg [.ints .u8 32 leftv], .agg [.ints .u8 32 rightv]] K h) := by
  kernel_rfl
theorem F_walk_Walk_Node_ok {w : Option Addr} {level : Int} {i : Int} {leftv : List Int} {rightv : List Int} (hk0 : leftv.length = 32) (hk1 : rightv.length = 32) {K : Value → PH → Prop} {h : PH} (hh : F_walk_Walk_Node w level i leftv rightv K h) : CallH Tryz.prog id_walk_Walk_Node [.pointer w, .int .i64 level, .int .i64 i, .agg ((leftv.map (Value.int .u8) ++ [])).toArray, .agg ((rightv.map (Value.int .u8) ++ [])).toArray] K h :=
  denF_sound' Tryz.func42 (H := ⟨[], [(3, .of [0, 1, 2, 3, 4, 5, 7, 8, 9, 10, 11, 12, 6, 13, 14])], [], []⟩) (xs := [.v (.pointer w), .v (.int .i64 level), .v (.int .i64 i), .agg [.ints .u8 32 leftv], .agg [.ints .u8 32 rightv]]) (by kernel_rfl) (⟨rfl, rfl, rfl, ⟨hk0, trivial⟩, ⟨hk1, trivial⟩, trivial⟩) (den_of F_walk_Walk_Node_eq hh)

/- (*twinlock/walk.Walk).Page -/
def F_walk_Walk_Page (w : Option Addr) (i : Int) (lA : Option Addr) (lN lC : Nat) (K : Value → PH → Prop) (h : PH) : Prop :=
  CallH Tryz.prog id_walk_Walk_none [.pointer w] (fun v h1 =>
    ∃ t : Bool, v = .bool t ∧
    ((t = true →
        K (.bool false) h1) ∧
      (t = false →
        CallH Tryz.prog id_bucket_Page [.int .i64 i, .slice lA lN lC] (fun v_1 h2 =>
          ∃ t0 : ByteArray, ∃ t1 : Int, v_1 = .tuple #[.string t0, .int .i64 t1] ∧
          (((t1 != (0 : Int)) = false →
              CallH Tryz.prog id_tree_Leaf [.string t0] (fun v_2 h3 =>
                ∃ t_1 : List Int, t_1.length = 32 ∧ v_2 = .agg ((t_1.map (Value.int .u8) ++ [])).toArray ∧
                (((ByteArray.size (⟨#[76]⟩ : ByteArray) + ByteArray.size t0 : Nat) : Int) ≤ 9223372036854775807) ∧
                CallH Tryz.prog id_walk_Walk_fits [.pointer w, .agg #[.int .i64 (4 : Int), .int .i64 i], .agg ((t_1.map (Value.int .u8) ++ [])).toArray, .string ((⟨#[76]⟩ : ByteArray) ++ t0)] (fun v_3 h4 =>
                  ∃ t_2 : Bool, v_3 = .bool t_2 ∧
                  (((!t_2) = true →
                      K (.bool false) h4) ∧
                    ((!t_2) = false →
                      ∃ bv ov : Nat, w = some ⟨bv, ov, none⟩ ∧
                      ∃ t_3 : Option Nat, (h4.rds bv (ov + 34) 1 = some [.map t_3]) ∧
                      CallH Tryz.prog id_slices_Clone_api_Pair_api_Pair [.slice lA lN lC] (fun v_4 h5 =>
                        ∃ (tA : Option Addr) (tN tC : Nat), v_4 = .slice tA tN tC ∧
                        (h5.rds bv (ov + 34) 1 = some [.map t_3]) ∧
                        muH (.int .i64) h5 t_3 (.int .i64 i) (.slice tA tN tC) fun h6 =>
                        K (.bool true) h6) h4))) h3) h2) ∧
            ((t1 != (0 : Int)) = true →
              K (.bool false) h2))) h1))) h
theorem F_walk_Walk_Page_eq {w : Option Addr} {i : Int} {lA : Option Addr} {lN lC : Nat} {K : Value → PH → Prop} {h : PH} : @Eq Prop (F_walk_Walk_Page w i lA lN lC K h) (denF Tryz.prog Tryz.f43 ⟨[], [], [], []⟩ [.v (.pointer w), .v (.int .i64 i), .v (.slice lA lN lC)] K h) := by
  kernel_rfl
theorem F_walk_Walk_Page_ok {w : Option Addr} {i : Int} {lA : Option Addr} {lN lC : Nat}  {K : Value → PH → Prop} {h : PH} (hh : F_walk_Walk_Page w i lA lN lC K h) : CallH Tryz.prog id_walk_Walk_Page [.pointer w, .int .i64 i, .slice lA lN lC] K h :=
  denF_sound' Tryz.func43 (H := ⟨[], [], [], []⟩) (xs := [.v (.pointer w), .v (.int .i64 i), .v (.slice lA lN lC)]) (by kernel_rfl) (⟨rfl, rfl, rfl, trivial⟩) (den_of F_walk_Walk_Page_eq hh)

/- (*twinlock/walk.Walk).Done -/
def F_walk_Walk_Done (w : Option Addr) (K : Value → PH → Prop) (h : PH) : Prop :=
  JoinP (T := Unit) (fun Jv =>
    CallH Tryz.prog id_walk_Walk_none [.pointer w] (fun v h2 =>
      ∃ t : Bool, v = .bool t ∧
      ∃ bv ov : Nat, (t = false → w = some ⟨bv, ov, none⟩) ∧
      ∃ t_1 : Option Nat, ((t = false → h2.rds bv (ov + 33) 1 = some [.map t_1])) ∧
      ((t = false →
          ∃ tN : Nat, lenM h2 t_1 tN ∧
          (((decide (((tN : Nat) : Int) > (0 : Int))) = true →
              K (.tuple #[.slice none 0 0, .bool false]) h2) ∧
            ((decide (((tN : Nat) : Int) > (0 : Int))) = false →
              Jv (()) h2))) ∧
        (t = true →
          K (.tuple #[.slice none 0 0, .bool false]) h2))) h)
  (fun _ h1 =>
    LoopP (T := (Option Addr × Nat × Nat) × Int × Unit) (fun Jv_1 st_1 h3 =>
      (((decide (st_1.2.1 < (16 : Int))) = true →
          ∃ bv_1 ov_1 : Nat, w = some ⟨bv_1, ov_1, none⟩ ∧
          ∃ t_2 : Option Nat, (h3.rds bv_1 (ov_1 + 34) 1 = some [.map t_2]) ∧
          ∃ (tA : Option Addr) (tN_1 tC : Nat), ∃ ok : Bool, lkH (.int .i64) h3 t_2 (.int .i64 st_1.2.1) (.slice none 0 0) (.slice tA tN_1 tC) ok ∧
          (((!ok) = true →
              ∃ bv_2 ov_2 : Nat, w = some ⟨bv_2, ov_2, none⟩ ∧
              ∃ t_3 : Option Addr, (h3.rds bv_2 ov_2 1 = some [.pointer t_3]) ∧
              CallH Tryz.prog id_tree_Tree_Pairs [.pointer t_3, .int .i64 st_1.2.1] (fun v_1 h4 =>
                ∃ (partA : Option Addr) (partN partC : Nat), v_1 = .slice partA partN partC ∧
                ∃ vs : List Value, srcH h4 partA (partN * 2) vs ∧
                appH T_api_Pair 2 32 [.string (⟨#[]⟩ : ByteArray), .string (⟨#[]⟩ : ByteArray)] st_1.1.1 st_1.1.2.1 st_1.1.2.2 partN vs (fun lA lN lC h5 =>
                  Jv_1 ((lA, lN, lC), (IntKind.wrap .i64 (st_1.2.1 + (1 : Int))), ()) h5) h4) h3) ∧
            ((!ok) = false →
              ∃ vs_1 : List Value, srcH h3 tA (tN_1 * 2) vs_1 ∧
              appH T_api_Pair 2 32 [.string (⟨#[]⟩ : ByteArray), .string (⟨#[]⟩ : ByteArray)] st_1.1.1 st_1.1.2.1 st_1.1.2.2 tN_1 vs_1 (fun lA_1 lN_1 lC_1 h6 =>
                Jv_1 ((lA_1, lN_1, lC_1), (IntKind.wrap .i64 (st_1.2.1 + (1 : Int))), ()) h6) h3))) ∧
        ((decide (st_1.2.1 < (16 : Int))) = false →
          (((decide (((st_1.1.2.1 : Nat) : Int) > (48 : Int))) = true →
              K (.tuple #[.slice none 0 0, .bool false]) h3) ∧
            ((decide (((st_1.1.2.1 : Nat) : Int) > (48 : Int))) = false →
              CallH Tryz.prog id_slices_SortFunc_api_Pair_api_Pair [.slice st_1.1.1 st_1.1.2.1 st_1.1.2.2, .func (.func 122) #[] #[]] (fun _ h7 =>
                K (.tuple #[.slice st_1.1.1 st_1.1.2.1 st_1.1.2.2, .bool true]) h7) h3))))) ((none, 0, 0), (0 : Int), ()) h1)
theorem F_walk_Walk_Done_eq {w : Option Addr} {K : Value → PH → Prop} {h : PH} : @Eq Prop (F_walk_Walk_Done w K h) (denF Tryz.prog Tryz.f44 ⟨[], [], [(0, ⟨[(4, .slice), (18, .int .i64)], [], []⟩)], [(8, ⟨[], [], []⟩)]⟩ [.v (.pointer w)] K h) := by
  kernel_rfl
theorem F_walk_Walk_Done_ok {w : Option Addr}  {K : Value → PH → Prop} {h : PH} (hh : F_walk_Walk_Done w K h) : CallH Tryz.prog id_walk_Walk_Done [.pointer w] K h :=
  denF_sound' Tryz.func44 (H := ⟨[], [], [(0, ⟨[(4, .slice), (18, .int .i64)], [], []⟩)], [(8, ⟨[], [], []⟩)]⟩) (xs := [.v (.pointer w)]) (by kernel_rfl) (⟨rfl, trivial⟩) (den_of F_walk_Walk_Done_eq hh)

/- (*twinlock/walk.Walk).Texts -/
def F_walk_Walk_Texts (w : Option Addr) (K : Value → PH → Prop) (h : PH) : Prop :=
  CallH Tryz.prog id_walk_Walk_none [.pointer w] (fun v h1 =>
    ∃ t : Bool, v = .bool t ∧
    ((t = true →
        K (.slice none 0 0) h1) ∧
      (t = false →
        ∃ bv ov : Nat, w = some ⟨bv, ov, none⟩ ∧
        ∃ (tA : Option Addr) (tN tC : Nat), (h1.rds bv (ov + 35) 1 = some [.slice tA tN tC]) ∧
        CallH Tryz.prog id_slices_Clone_string_string [.slice tA tN tC] (fun v_1 h2 =>
          ∃ (tA_1 : Option Addr) (tN_1 tC_1 : Nat), v_1 = .slice tA_1 tN_1 tC_1 ∧
          K (.slice tA_1 tN_1 tC_1) h2) h1))) h
theorem F_walk_Walk_Texts_eq {w : Option Addr} {K : Value → PH → Prop} {h : PH} : @Eq Prop (F_walk_Walk_Texts w K h) (denF Tryz.prog Tryz.f47 ⟨[], [], [], []⟩ [.v (.pointer w)] K h) := by
  kernel_rfl
theorem F_walk_Walk_Texts_ok {w : Option Addr}  {K : Value → PH → Prop} {h : PH} (hh : F_walk_Walk_Texts w K h) : CallH Tryz.prog id_walk_Walk_Texts [.pointer w] K h :=
  denF_sound' Tryz.func47 (H := ⟨[], [], [], []⟩) (xs := [.v (.pointer w)]) (by kernel_rfl) (⟨rfl, trivial⟩) (den_of F_walk_Walk_Texts_eq hh)

/- (*twinlock/walk.Walk).Root -/
def F_walk_Walk_Root (w : Option Addr) (K : Value → PH → Prop) (h : PH) : Prop :=
  CallH Tryz.prog id_walk_Walk_none [.pointer w] (fun v h1 =>
    ∃ t : Bool, v = .bool t ∧
    ((t = true →
        K (.agg (((List.replicate 32 0).map (Value.int .u8) ++ [])).toArray) h1) ∧
      (t = false →
        ∃ bv ov : Nat, w = some ⟨bv, ov, none⟩ ∧
        ∃ t_1 : List Int, t_1.length = 32 ∧ (h1.rds bv (ov + 1) 32 = some (t_1.map (Value.int .u8) ++ [])) ∧
        K (.agg ((t_1.map (Value.int .u8) ++ [])).toArray) h1))) h
theorem F_walk_Walk_Root_eq {w : Option Addr} {K : Value → PH → Prop} {h : PH} : @Eq Prop (F_walk_Walk_Root w K h) (denF Tryz.prog Tryz.f51 ⟨[2], [], [], []⟩ [.v (.pointer w)] K h) := by
  kernel_rfl
theorem F_walk_Walk_Root_ok {w : Option Addr}  {K : Value → PH → Prop} {h : PH} (hh : F_walk_Walk_Root w K h) : CallH Tryz.prog id_walk_Walk_Root [.pointer w] K h :=
  denF_sound' Tryz.func51 (H := ⟨[2], [], [], []⟩) (xs := [.v (.pointer w)]) (by kernel_rfl) (⟨rfl, trivial⟩) (den_of F_walk_Walk_Root_eq hh)

/- (*twinlock/walk.Walk).ask -/
def F_walk_Walk_ask (w : Option Addr) (a0 : Int) (a1 : Int) (hv : List Int) (K : Value → PH → Prop) (h : PH) : Prop :=
  ∃ bv ov : Nat, w = some ⟨bv, ov, none⟩ ∧
  ∃ t : Option Addr, (h.rds bv ov 1 = some [.pointer t]) ∧
  (CallH Tryz.prog id_tree_Tree_Node [.pointer t, .int .i64 a0, .int .i64 a1] (fun v h1 =>
      ∃ t0 : List Int, t0.length = 32 ∧ ∃ t1 : Bool, v = .tuple #[.agg ((t0.map (Value.int .u8) ++ [])).toArray, .bool t1] ∧
      (((!(t0 == hv)) = true →
          ∃ bv_1 ov_1 : Nat, w = some ⟨bv_1, ov_1, none⟩ ∧
          ∃ t_1 : Option Nat, (h1.rds bv_1 (ov_1 + 33) 1 = some [.map t_1]) ∧
          muH (.rec2 .i64 .i64) h1 t_1 (.agg #[.int .i64 a0, .int .i64 a1]) (.agg ((hv.map (Value.int .u8) ++ [])).toArray) fun h2 =>
          K (.tuple #[]) h2) ∧
        ((!(t0 == hv)) = false →
          K (.tuple #[]) h1))) h) ∧
  (CallH Tryz.prog id_tree_Tree_Node [.pointer t, .int .i64 a0, .int .i64 a1] (fun v_1 h3 =>
      ∃ t0_1 : List Int, t0_1.length = 32 ∧ ∃ t1_1 : Bool, v_1 = .tuple #[.agg ((t0_1.map (Value.int .u8) ++ [])).toArray, .bool t1_1] ∧
      (((!(t0_1 == hv)) = true →
          ∃ bv_2 ov_2 : Nat, w = some ⟨bv_2, ov_2, none⟩ ∧
          ∃ t_2 : Option Nat, (h3.rds bv_2 (ov_2 + 33) 1 = some [.map t_2]) ∧
          muH (.rec2 .i64 .i64) h3 t_2 (.agg #[.int .i64 a0, .int .i64 a1]) (.agg ((hv.map (Value.int .u8) ++ [])).toArray) fun h4 =>
          K (.tuple #[]) h4) ∧
        ((!(t0_1 == hv)) = false →
          K (.tuple #[]) h3))) h)
theorem F_walk_Walk_ask_eq {w : Option Addr} {a0 : Int} {a1 : Int} {hv : List Int} {K : Value → PH → Prop} {h : PH} : @Eq Prop (F_walk_Walk_ask w a0 a1 hv K h) (denF Tryz.prog Tryz.f112 ⟨[4, 5, 6], [(1, .one 0 (.one 1 (.one 2 (.one 3 (.one 4 (.one 5 (.one 6 (.one 7 (.alt 8 (.of [9, 10, 11, 12, 13, 14]) (.of [12, 8, 9, 10, 11, 13, 14]))))))))))], [], []⟩ [.v (.pointer w), .agg [.one (.int .i64 a0), .one (.int .i64 a1)], .agg [.ints .u8 32 hv]] K h) := by
  kernel_rfl
theorem F_walk_Walk_ask_ok {w : Option Addr} {a0 : Int} {a1 : Int} {hv : List Int} (hk0 : hv.length = 32) {K : Value → PH → Prop} {h : PH} (hh : F_walk_Walk_ask w a0 a1 hv K h) : CallH Tryz.prog id_walk_Walk_ask [.pointer w, .agg #[.int .i64 a0, .int .i64 a1], .agg ((hv.map (Value.int .u8) ++ [])).toArray] K h :=
  denF_sound' Tryz.func112 (H := ⟨[4, 5, 6], [(1, .one 0 (.one 1 (.one 2 (.one 3 (.one 4 (.one 5 (.one 6 (.one 7 (.alt 8 (.of [9, 10, 11, 12, 13, 14]) (.of [12, 8, 9, 10, 11, 13, 14]))))))))))], [], []⟩) (xs := [.v (.pointer w), .agg [.one (.int .i64 a0), .one (.int .i64 a1)], .agg [.ints .u8 32 hv]]) (by kernel_rfl) (⟨rfl, ⟨rfl, rfl, trivial⟩, ⟨hk0, trivial⟩, trivial⟩) (den_of F_walk_Walk_ask_eq hh)

/- (*twinlock/walk.Walk).none -/
def F_walk_Walk_none (w : Option Addr) (K : Value → PH → Prop) (h : PH) : Prop :=
  ∃ bv ov : Nat, ((Option.isNone w) = false → w = some ⟨bv, ov, none⟩) ∧
  ∃ t : Option Addr, (((Option.isNone w) = false → h.rds bv ov 1 = some [.pointer t])) ∧
  K (.bool ((Option.isNone w) || (Option.isNone t))) h
theorem F_walk_Walk_none_eq {w : Option Addr} {K : Value → PH → Prop} {h : PH} : @Eq Prop (F_walk_Walk_none w K h) (denF Tryz.prog Tryz.f113 ⟨[], [], [], []⟩ [.v (.pointer w)] K h) := by
  kernel_rfl
theorem F_walk_Walk_none_ok {w : Option Addr}  {K : Value → PH → Prop} {h : PH} (hh : F_walk_Walk_none w K h) : CallH Tryz.prog id_walk_Walk_none [.pointer w] K h :=
  denF_sound' Tryz.func113 (H := ⟨[], [], [], []⟩) (xs := [.v (.pointer w)]) (by kernel_rfl) (⟨rfl, trivial⟩) (den_of F_walk_Walk_none_eq hh)

/- maps.Keys[map[twinlock/walk.Ask]twinlock/api.Hash,twinlock/walk.Ask,twinlock/api.Hash] -/
def F_maps_Keys_map_walk_Ask_api_Hash_walk_Ask_api_Hash (m : Option Nat) (K : Value → PH → Prop) (h : PH) : Prop :=
  newH h (.cells #[.map m] 184 (0, 0)) fun bv h1 =>
  K (.func (.func 151) #[] #[.pointer (some ⟨bv, 0, none⟩)]) h1
theorem F_maps_Keys_map_walk_Ask_api_Hash_walk_Ask_api_Hash_eq {m : Option Nat} {K : Value → PH → Prop} {h : PH} : @Eq Prop (F_maps_Keys_map_walk_Ask_api_Hash_walk_Ask_api_Hash m K h) (denF Tryz.prog Tryz.f115 ⟨[], [], [], []⟩ [.v (.map m)] K h) := by
  kernel_rfl
theorem F_maps_Keys_map_walk_Ask_api_Hash_walk_Ask_api_Hash_ok {m : Option Nat}  {K : Value → PH → Prop} {h : PH} (hh : F_maps_Keys_map_walk_Ask_api_Hash_walk_Ask_api_Hash m K h) : CallH Tryz.prog id_maps_Keys_map_walk_Ask_api_Hash_walk_Ask_api_Hash [.map m] K h :=
  denF_sound' Tryz.func115 (H := ⟨[], [], [], []⟩) (xs := [.v (.map m)]) (by kernel_rfl) (⟨rfl, trivial⟩) (den_of F_maps_Keys_map_walk_Ask_api_Hash_walk_Ask_api_Hash_eq hh)

/- (*twinlock/walk.Walk).fits -/
def F_walk_Walk_fits (w : Option Addr) (a0 : Int) (a1 : Int) (hv : List Int) (text : ByteArray) (K : Value → PH → Prop) (h : PH) : Prop :=
  ∃ bv ov : Nat, w = some ⟨bv, ov, none⟩ ∧
  ∃ t : Option Nat, (h.rds bv (ov + 33) 1 = some [.map t]) ∧
  ∃ t_1 : List Int, t_1.length = 32 ∧ ∃ ok : Bool, lkH (.rec2 .i64 .i64) h t (.agg #[.int .i64 a0, .int .i64 a1]) (.agg (((List.replicate 32 0).map (Value.int .u8) ++ [])).toArray) (.agg ((t_1.map (Value.int .u8) ++ [])).toArray) ok ∧
  ((((!ok) || (!(t_1 == hv))) = true →
      K (.bool false) h) ∧
    (((!ok) || (!(t_1 == hv))) = false →
      ∃ bv_1 ov_1 : Nat, w = some ⟨bv_1, ov_1, none⟩ ∧
      ∃ t_2 : Option Nat, (h.rds bv_1 (ov_1 + 33) 1 = some [.map t_2]) ∧
      mdH (.rec2 .i64 .i64) h t_2 (.agg #[.int .i64 a0, .int .i64 a1]) fun h1 =>
      ∃ bv_2 ov_2 : Nat, w = some ⟨bv_2, ov_2, none⟩ ∧
      ∃ (tA : Option Addr) (tN tC : Nat), (h1.rds bv_2 (ov_2 + 35) 1 = some [.slice tA tN tC]) ∧
      appH 9 1 16 [.string (⟨#[]⟩ : ByteArray)] tA tN tC 1 [.string text] (fun tA_1 tN_1 tC_1 h2 =>
        ∃ bv_3 ov_3 : Nat, w = some ⟨bv_3, ov_3, none⟩ ∧
        stH h2 bv_3 (ov_3 + 35) [.slice tA_1 tN_1 tC_1] fun h3 =>
        K (.bool true) h3) h1))
theorem F_walk_Walk_fits_eq {w : Option Addr} {a0 : Int} {a1 : Int} {hv : List Int} {text : ByteArray} {K : Value → PH → Prop} {h : PH} : @Eq Prop (F_walk_Walk_fits w a0 a1 hv text K h) (denF Tryz.prog Tryz.f119 ⟨[5, 6, 9, 38], [], [], []⟩ [.v (.pointer w), .agg [.one (.int .i64 a0), .one (.int .i64 a1)], .agg [.ints .u8 32 hv], .v (.string text)] K h) := by
  kernel_rfl
theorem F_walk_Walk_fits_ok {w : Option Addr} {a0 : Int} {a1 : Int} {hv : List Int} {text : ByteArray} (hk0 : hv.length = 32) {K : Value → PH → Prop} {h : PH} (hh : F_walk_Walk_fits w a0 a1 hv text K h) : CallH Tryz.prog id_walk_Walk_fits [.pointer w, .agg #[.int .i64 a0, .int .i64 a1], .agg ((hv.map (Value.int .u8) ++ [])).toArray, .string text] K h :=
  denF_sound' Tryz.func119 (H := ⟨[5, 6, 9, 38], [], [], []⟩) (xs := [.v (.pointer w), .agg [.one (.int .i64 a0), .one (.int .i64 a1)], .agg [.ints .u8 32 hv], .v (.string text)]) (by kernel_rfl) (⟨rfl, ⟨rfl, rfl, trivial⟩, ⟨hk0, trivial⟩, rfl, trivial⟩) (den_of F_walk_Walk_fits_eq hh)

end TL

namespace TL
open Go Go.Proofs
/- twinlock/twinlocklaw16.WalkNobody -/
def F_law16_WalkNobody (level : Int) (i : Int) (leftv : List Int) (rightv : List Int) (lA : Option Addr) (lN lC : Nat) (K : Value → PH → Prop) (h : PH) : Prop :=
  CallH Tryz.prog id_law13_GreatPairs [.slice lA lN lC] (fun v h1 =>
    ∃ t : Bool, v = .bool t ∧
    ((t = true →
        CallH Tryz.prog id_law16_wakes [] (fun v_1 h2 =>
          ∃ t_1 : Bool, v_1 = .bool t_1 ∧
          K (.bool t_1) h2) h1) ∧
      (t = false →
        CallH Tryz.prog id_walk_Walk_Done [.pointer none] (fun v_2 h3 =>
          ∃ (t0A : Option Addr) (t0N t0C : Nat), ∃ t1 : Bool, v_2 = .tuple #[.slice t0A t0N t0C, .bool t1] ∧
          CallH Tryz.prog id_walk_Walk_Want [.pointer none, .int .i64 (9 : Int)] (fun v_3 h4 =>
            ∃ (tA : Option Addr) (tN tC : Nat), v_3 = .slice tA tN tC ∧
            (((((tN : Nat) : Int) == (0 : Int)) = true →
                CallH Tryz.prog id_walk_Walk_Node [.pointer none, .int .i64 level, .int .i64 i, .agg ((leftv.map (Value.int .u8) ++ [])).toArray, .agg ((rightv.map (Value.int .u8) ++ [])).toArray] (fun v_4 h5 =>
                  ∃ t_2 : Bool, v_4 = .bool t_2 ∧
                  (((!t_2) = true →
                      CallH Tryz.prog id_walk_Walk_Page [.pointer none, .int .i64 i, .slice lA lN lC] (fun v_5 h6 =>
                        ∃ t_3 : Bool, v_5 = .bool t_3 ∧
                        (((((!t_3) && (((t0N : Nat) : Int) == (0 : Int))) && (!t1)) = true →
                            CallH Tryz.prog id_walk_Walk_Root [.pointer none] (fun v_6 h7 =>
                              ∃ t_4 : List Int, t_4.length = 32 ∧ v_6 = .agg ((t_4.map (Value.int .u8) ++ [])).toArray ∧
                              (((t_4 == (List.replicate 32 0)) = true →
                                  CallH Tryz.prog id_walk_Walk_Texts [.pointer none] (fun v_7 h8 =>
                                    ∃ (tA_1 : Option Addr) (tN_1 tC_1 : Nat), v_7 = .slice tA_1 tN_1 tC_1 ∧
                                    (((((tN_1 : Nat) : Int) == (0 : Int)) = true →
                                        CallH Tryz.prog id_law16_wakes [] (fun v_8 h9 =>
                                          ∃ t_5 : Bool, v_8 = .bool t_5 ∧
                                          K (.bool t_5) h9) h8) ∧
                                      ((((tN_1 : Nat) : Int) == (0 : Int)) = false →
                                        K (.bool false) h8))) h7) ∧
                                ((t_4 == (List.replicate 32 0)) = false →
                                  K (.bool false) h7))) h6) ∧
                          ((((!t_3) && (((t0N : Nat) : Int) == (0 : Int))) && (!t1)) = false →
                            K (.bool false) h6))) h5) ∧
                    ((!t_2) = false →
                      K (.bool false) h5))) h4) ∧
              ((((tN : Nat) : Int) == (0 : Int)) = false →
                K (.bool false) h4))) h3) h1))) h
theorem F_law16_WalkNobody_eq {level : Int} {i : Int} {leftv : List Int} {rightv : List Int} {lA : Option Addr} {lN lC : Nat} {K : Value → PH → Prop} {h : PH} : @Eq Prop (F_law16_WalkNobody level i leftv rightv lA lN lC K h) (denF Tryz.prog Tryz.f6 ⟨[7, 8], [], [], []⟩ [.v (.int .i64 level), .v (.int .i64 i), .agg [.ints .u8 32 leftv], .agg [.ints .u8 32 rightv], .v (.slice lA lN lC)] K h) := by
  kernel_rfl
theorem F_law16_WalkNobody_ok {level : Int} {i : Int} {leftv : List Int} {rightv : List Int} {lA : Option Addr} {lN lC : Nat} (hk0 : leftv.length = 32) (hk1 : rightv.length = 32) {K : Value → PH → Prop} {h : PH} (hh : F_law16_WalkNobody level i leftv rightv lA lN lC K h) : CallH Tryz.prog id_law16_WalkNobody [.int .i64 level, .int .i64 i, .agg ((leftv.map (Value.int .u8) ++ [])).toArray, .agg ((rightv.map (Value.int .u8) ++ [])).toArray, .slice lA lN lC] K h :=
  denF_sound' Tryz.func6 (H := ⟨[7, 8], [], [], []⟩) (xs := [.v (.int .i64 level), .v (.int .i64 i), .agg [.ints .u8 32 leftv], .agg [.ints .u8 32 rightv], .v (.slice lA lN lC)]) (by kernel_rfl) (⟨rfl, rfl, ⟨hk0, trivial⟩, ⟨hk1, trivial⟩, rfl, trivial⟩) (den_of F_law16_WalkNobody_eq hh)

/- twinlock/twinlocklaw16.WalkQuiet -/
/- twinlock/twinlocklaw16.WalkKnown -/
/- twinlock/twinlocklaw16.WalkPlays -/
/- twinlock/twinlocklaw16.WalkFew -/
/- twinlock/twinlocklaw16.WalkLevel -/
/- twinlock/twinlocklaw16.wakes -/
def F_law16_wakes  (K : Value → PH → Prop) (h : PH) : Prop :=
  newH h (.cells #[.string (⟨#[97, 112, 112, 47, 97]⟩ : ByteArray), .string (⟨#[49]⟩ : ByteArray)] T_api_Pair (0, 0)) fun bv h1 =>
  CallH Tryz.prog id_tree_Of [.slice (some ⟨bv, 0, none⟩) 1 1] (fun v h2 =>
    ∃ t0 : Option Addr, ∃ t1 : Int, v = .tuple #[.pointer t0, .int .i64 t1] ∧
    ((((t1 != (0 : Int)) || (Option.isNone t0)) = true →
        K (.bool false) h2) ∧
      (((t1 != (0 : Int)) || (Option.isNone t0)) = false →
        CallH Tryz.prog id_tree_Tree_Root [.pointer t0] (fun v_1 h3 =>
          ∃ t : List Int, t.length = 32 ∧ v_1 = .agg ((t.map (Value.int .u8) ++ [])).toArray ∧
          CallH Tryz.prog id_walk_New [.slice none 0 0, .agg ((t.map (Value.int .u8) ++ [])).toArray] (fun v_2 h4 =>
            ∃ t0_1 : Option Addr, ∃ t1_1 : Int, v_2 = .tuple #[.pointer t0_1, .int .i64 t1_1] ∧
            ((((t1_1 != (0 : Int)) || (Option.isNone t0_1)) = true →
                K (.bool false) h4) ∧
              (((t1_1 != (0 : Int)) || (Option.isNone t0_1)) = false →
                LoopP (T := Int × Unit) (fun Jv st h5 =>
                  CallH Tryz.prog id_walk_Walk_Want [.pointer t0_1, .int .i64 (1 : Int)] (fun v_3 h6 =>
                    ∃ (lA : Option Addr) (lN lC : Nat), v_3 = .slice lA lN lC ∧
                    ((((((lN : Nat) : Int) != (1 : Int)) || (decide (st.1 > (9 : Int)))) = true →
                        CallH Tryz.prog id_walk_Walk_Done [.pointer t0_1] (fun v_4 h7 =>
                          ∃ (t0A : Option Addr) (t0N t0C : Nat), ∃ t1_2 : Bool, v_4 = .tuple #[.slice t0A t0N t0C, .bool t1_2] ∧
                          ∃ bv_1 ov : Nat, (((t1_2 && (((t0N : Nat) : Int) == (1 : Int))) = true → t0A = some ⟨bv_1, ov, none⟩ ∧ 0 ≤ (0 : Int) ∧ (0 : Int) < (t0N : Nat))) ∧
                          ∃ t_1 : ByteArray, (((t1_2 && (((t0N : Nat) : Int) == (1 : Int))) = true → h7.rds bv_1 ((ov + (0 : Int).toNat * 2) + 1) 1 = some [.string t_1])) ∧
                          (((((t1_2 && (((t0N : Nat) : Int) == (1 : Int))) && (strEq t_1 (⟨#[49]⟩ : ByteArray))) && (st.1 == (5 : Int))) = true →
                              CallH Tryz.prog id_walk_Walk_Root [.pointer t0_1] (fun v_5 h8 =>
                                ∃ t_2 : List Int, t_2.length = 32 ∧ v_5 = .agg ((t_2.map (Value.int .u8) ++ [])).toArray ∧
                                CallH Tryz.prog id_tree_Tree_Root [.pointer t0] (fun v_6 h9 =>
                                  ∃ t_3 : List Int, t_3.length = 32 ∧ v_6 = .agg ((t_3.map (Value.int .u8) ++ [])).toArray ∧
                                  K (.bool (t_2 == t_3)) h9) h8) h7) ∧
                            ((((t1_2 && (((t0N : Nat) : Int) == (1 : Int))) && (strEq t_1 (⟨#[49]⟩ : ByteArray))) && (st.1 == (5 : Int))) = false →
                              K (.bool false) h7))) h6) ∧
                      (((((lN : Nat) : Int) != (1 : Int)) || (decide (st.1 > (9 : Int)))) = false →
                        ∃ bv_2 ov_1 : Nat, (lA = some ⟨bv_2, ov_1, none⟩ ∧ 0 ≤ (0 : Int) ∧ (0 : Int) < (lN : Nat)) ∧
                        ∃ t0_2 : Int, ∃ t1_3 : Int, (h6.rds bv_2 (ov_1 + (0 : Int).toNat * 2) 2 = some [.int .i64 t0_2, .int .i64 t1_3]) ∧
                        CallH Tryz.prog id_law16_answer [.pointer t0_1, .pointer t0, .agg #[.int .i64 t0_2, .int .i64 t1_3]] (fun v_7 h10 =>
                          ∃ t_4 : Bool, v_7 = .bool t_4 ∧
                          Jv ((IntKind.wrap .i64 (st.1 + (1 : Int))), ()) h10) h6))) h5) ((0 : Int), ()) h4))) h3) h2))) h1
theorem F_law16_wakes_eq  {K : Value → PH → Prop} {h : PH} : @Eq Prop (F_law16_wakes  K h) (denF Tryz.prog Tryz.f50 ⟨[], [], [(0, ⟨[(5, .int .i64)], [], []⟩)], []⟩ [] K h) := by
  kernel_rfl
theorem F_law16_wakes_ok   {K : Value → PH → Prop} {h : PH} (hh : F_law16_wakes  K h) : CallH Tryz.prog id_law16_wakes [] K h :=
  denF_sound' Tryz.func50 (H := ⟨[], [], [(0, ⟨[(5, .int .i64)], [], []⟩)], []⟩) (xs := []) (by kernel_rfl) (trivial) (den_of F_law16_wakes_eq hh)

/- twinlock/twinlocklaw16.Great -/
/- twinlock/twinlocklaw16.begin -/
/- twinlock/twinlocklaw16.answer -/
def F_law16_answer (w : Option Addr) (t : Option Addr) (a0 : Int) (a1 : Int) (K : Value → PH → Prop) (h : PH) : Prop :=
  (((a0 == (4 : Int)) = true →
      CallH Tryz.prog id_tree_Tree_Pairs [.pointer t, .int .i64 a1] (fun v h1 =>
        ∃ (tA : Option Addr) (tN tC : Nat), v = .slice tA tN tC ∧
        CallH Tryz.prog id_walk_Walk_Page [.pointer w, .int .i64 a1, .slice tA tN tC] (fun v_1 h2 =>
          ∃ t_1 : Bool, v_1 = .bool t_1 ∧
          K (.bool t_1) h2) h1) h) ∧
    ((a0 == (4 : Int)) = false →
      CallH Tryz.prog id_tree_Tree_Node [.pointer t, .int .i64 (IntKind.wrap .i64 (a0 + (1 : Int))), .int .i64 (IntKind.wrap .i64 ((2 : Int) * a1))] (fun v_2 h3 =>
        ∃ t0 : List Int, t0.length = 32 ∧ ∃ t1 : Bool, v_2 = .tuple #[.agg ((t0.map (Value.int .u8) ++ [])).toArray, .bool t1] ∧
        CallH Tryz.prog id_tree_Tree_Node [.pointer t, .int .i64 (IntKind.wrap .i64 (a0 + (1 : Int))), .int .i64 (IntKind.wrap .i64 ((IntKind.wrap .i64 ((2 : Int) * a1)) + (1 : Int)))] (fun v_3 h4 =>
          ∃ t0_1 : List Int, t0_1.length = 32 ∧ ∃ t1_1 : Bool, v_3 = .tuple #[.agg ((t0_1.map (Value.int .u8) ++ [])).toArray, .bool t1_1] ∧
          CallH Tryz.prog id_walk_Walk_Node [.pointer w, .int .i64 a0, .int .i64 a1, .agg ((t0.map (Value.int .u8) ++ [])).toArray, .agg ((t0_1.map (Value.int .u8) ++ [])).toArray] (fun v_4 h5 =>
            ∃ t_2 : Bool, v_4 = .bool t_2 ∧
            K (.bool t_2) h5) h4) h3) h))
theorem F_law16_answer_eq {w : Option Addr} {t : Option Addr} {a0 : Int} {a1 : Int} {K : Value → PH → Prop} {h : PH} : @Eq Prop (F_law16_answer w t a0 a1 K h) (denF Tryz.prog Tryz.f54 ⟨[5, 7, 9], [], [], []⟩ [.v (.pointer w), .v (.pointer t), .agg [.one (.int .i64 a0), .one (.int .i64 a1)]] K h) := by
  kernel_rfl
theorem F_law16_answer_ok {w : Option Addr} {t : Option Addr} {a0 : Int} {a1 : Int}  {K : Value → PH → Prop} {h : PH} (hh : F_law16_answer w t a0 a1 K h) : CallH Tryz.prog id_law16_answer [.pointer w, .pointer t, .agg #[.int .i64 a0, .int .i64 a1]] K h :=
  denF_sound' Tryz.func54 (H := ⟨[5, 7, 9], [], [], []⟩) (xs := [.v (.pointer w), .v (.pointer t), .agg [.one (.int .i64 a0), .one (.int .i64 a1)]]) (by kernel_rfl) (⟨rfl, rfl, ⟨rfl, rfl, trivial⟩, trivial⟩) (den_of F_law16_answer_eq hh)

/- twinlock/twinlocklaw16.one -/
/- twinlock/twinlocklaw16.above -/
/- twinlock/twinlocklaw16.collides -/
/- twinlock/twinlocklaw16.node -/
/- twinlock/twinlocklaw16.rest -/
end TL

namespace TL
open Go Go.Proofs
variable {B : List Nat} {h : PH} {K : Value → PH → Prop}

/-! ### What statements go through -/
variable {oA : Option Addr} {oC : Nat} {ops : List OpR}
variable {pA : Option Addr} {pC : Nat} {prs : List PrR}
variable {rA eA : Option Addr} {rC eN eC : Nat} {rows : List OsR} {i0 i1 : Int}
/-! ### The view of a row -/
structure BtR where
  ix : Int
  ep : Int
  a : Option Addr
  c : Nat
  ops : List OpR
def EncBt : Enc BtR where
  enc r := [.int .i64 r.ix, .int .i64 r.ep, .slice r.a r.ops.length r.c]
  k := 3
  len _ := rfl
  one o v hv := by
    simp only [List.mem_cons, List.not_mem_nil, or_false] at hv
    rcases hv with rfl | rfl | rfl <;> rfl
  pos := by decide
variable {pN : Nat} {eps : List Int}
/-! ### What a take knows of a row -/

end TL

namespace TL
open Go Go.Proofs

/-- a message, without its memory -/
structure MsgA where
  kd : Int
  ep : Int
  at_ : Int
  ae : Int
  ix : Int
  be : Int
  ops : List OpR
  prev : Int
  root : H32
  lv : Int
  ii : Int
  left : H32
  right : H32
  prs : List PrR
  deriving DecidableEq
/-- a message in a row -/
structure MsgF where
  m : MsgA
  oA : Option Addr
  oC : Nat
  pA : Option Addr
  pC : Nat
def hv (x : H32) : List Value := (bi x.1).map (Value.int .u8)
theorem hv_len (x : H32) : (hv x).length = 32 := by rw [hv, List.length_map, bi_len, x.2]
theorem hv_one (x : H32) : ∀ v ∈ hv x, one1 v = true := fun v h => by
  obtain ⟨n, _, rfl⟩ := List.mem_map.1 h
  rfl
def encMsg (f : MsgF) : List Value := .int .u8 f.m.kd :: (.int .i64 f.m.ep :: (.int .i64 f.m.at_ :: (.int .i64 f.m.ae :: (.int .i64 f.m.ix :: (.int .i64 f.m.be :: (.slice f.oA f.m.ops.length f.oC :: (.int .i64 f.m.prev :: (hv f.m.root ++ (.int .i64 f.m.lv :: (.int .i64 f.m.ii :: (hv f.m.left ++ (hv f.m.right ++ [.slice f.pA f.m.prs.length f.pC]))))))))))))
def EncMsg : Enc MsgF where
  enc := encMsg
  k := 107
  len f := by simp [encMsg, hv_len]
  one f v h := by
    simp only [encMsg, List.mem_cons, List.mem_append, List.not_mem_nil, or_false] at h
    rcases h with rfl | rfl | rfl | rfl | rfl | rfl | rfl | rfl | h | rfl | rfl | h | h | rfl
    all_goals first | rfl | exact hv_one _ _ h
  pos := by decide
/-- what a view is -/
structure VwR where
  ep : Int
  at_ : Int
  ae : Int
  bA : Option Addr
  bC : Nat
  bs : List BtR
  pv : Int
  pA : Option Addr
  pC : Nat
  prs : List PrR
structure VwOk (h : PH) (v : VwR) : Prop where
  bts : SR EncBt h v.bA v.bs
  n : v.bs.length ≤ 1000
  ix : ∀ b ∈ v.bs, 0 ≤ b.ix ∧ b.ix ≤ 1000000
  ops : ∀ b ∈ v.bs, SR EncOp h b.a b.ops ∧ b.ops.length ≤ 1000
  prs : SR EncPr h v.pA v.prs
  pn : v.prs.length ≤ 1000
  pl : ∀ x ∈ v.prs, x.p.length ≤ 1000000
theorem VwOk.sub {h g : PH} {v : VwR} (x : VwOk h v) (s : h.Sub g) : VwOk g v := ⟨x.bts.sub s, x.n, x.ix, fun b hb => ⟨(x.ops b hb).1.sub s, (x.ops b hb).2⟩, x.prs.sub s, x.pn, x.pl⟩
/-- what a ship holds -/
structure ShS where
  ack : Option (Int × Int)
  shot : Option (Int × Int × List PrR)
  texts : List (List UInt8)
def needV (s : ShS) (v : VwR) (a : Int) : Prop := match s.shot with
  | none => True
  | some (x, _, _) => (x ≤ a ∧ x < v.at_) ∨ (x ≤ 9223372036854775743 ∧ v.at_ > x + 64)
instance (s : ShS) (v : VwR) (a : Int) : Decidable (needV s v a) := by
  unfold needV
  cases s.shot with
  | none => exact inferInstanceAs (Decidable True)
  | some q => obtain ⟨x, y, z⟩ := q; exact inferInstanceAs (Decidable (_ ∨ _))
/-! ### In memory -/
def ackAt (g : PH) (p : Option Addr) (a : Option (Int × Int)) : Prop := match a with
  | none => p = none
  | some (x, y) => ∃ b T fr, p = some ⟨b, 0, none⟩ ∧ g b = some (.cells ([.int .i64 x, .int .i64 y] : List Value).toArray T fr)
def shotAt (g : PH) (p : Option Addr) (a : Option (Int × Int × List PrR)) : Prop := match a with
  | none => p = none
  | some (x, y, S) => ∃ b t T fr, p = some ⟨b, 0, none⟩ ∧ g b = some (.cells ([.int .i64 x, .int .i64 y, .pointer (some ⟨t, 0, none⟩)] : List Value).toArray T fr) ∧ Tr t g S
structure ShipAt (g : PH) (N : List Nat) (h : PH) (sb : Nat) (s : ShS) : Prop where
  mem : ∃ pa ps tA tN tC Bt, N = sb :: Bt ∧ sb ∉ Bt ∧ h sb = some (.cells ([.pointer pa, .pointer ps, .slice tA tN tC] : List Value).toArray T_ship_Ship (0, 0)) ∧ Buf EncS 9 Bt h tA tN tC s.texts ∧ ackAt g pa s.ack ∧ shotAt g ps s.shot
  sh : ∀ x y S, s.shot = some (x, y, S) → -9223372036854775808 ≤ x ∧ x ≤ 9223372036854775807
end TL

namespace TL
open Go Go.Proofs
variable {g h : PH} {N : List Nat} {K : Value → PH → Prop} {sb : Nat} {s : ShS} {v : VwR} {lA : Option Addr} {lC : Nat}

theorem cCloneStr {l : List (List UInt8)} (x : SR EncS h lA l) (hn : l.length ≤ 1000000) (hk : ∀ a' c' B' h', Buf EncS 9 B' h' a' l.length c' l → Chg [] B' h h' → K (.slice a' l.length c') h') : CallH Tryz.prog id_slices_Clone_string_string [.slice lA l.length lC] K h :=
  F_slices_Clone_string_string_ok (CloneF_ok (E := EncS) (sC := lC) (bt := 16) (z := [.string (⟨#[]⟩ : ByteArray)]) x rfl (by omega) hk)
abbrev VwR.val (v : VwR) : Value := .agg #[.int .i64 v.ep, .int .i64 v.at_, .int .i64 v.ae, .slice v.bA v.bs.length v.bC, .int .i64 v.pv, .slice v.pA v.prs.length v.pC]
/-- the operations' memory of a row of messages -/
inductive OpsAt (h : PH) : List Nat → List MsgF → Prop
  | nil : OpsAt h [] []
  | cons {f : MsgF} {Be Bs : List Nat} {L : List MsgF} : Buf EncOp T_api_Op Be h f.oA f.m.ops.length f.oC f.m.ops → Dj Be Bs → OpsAt h Bs L → OpsAt h (Be ++ Bs) (f :: L)
theorem OpsAt.keep {h' : PH} : ∀ {Bs : List Nat} {L : List MsgF}, OpsAt h Bs L → (∀ b ∈ Bs, ∀ o, h b = some o → h' b = some o) → OpsAt h' Bs L
  | _, _, .nil, _ => .nil
  | _, _, .cons e1 e2 e3, hk => .cons (e1.keep fun b hb => hk b (List.mem_append_left _ hb)) e2 (e3.keep fun b hb => hk b (List.mem_append_right _ hb))
theorem OpsAt.has : ∀ {Bs : List Nat} {L : List MsgF}, OpsAt h Bs L → Has Bs h
  | _, _, .nil => fun _ hb => by cases hb
  | _, _, .cons e1 _ e3 => e1.has.app e3.has
theorem OpsAt.all : ∀ {Bs : List Nat} {L : List MsgF}, OpsAt h Bs L → ∀ f ∈ L, SR EncOp h f.oA f.m.ops
  | _, _, .nil => fun _ hf => by cases hf
  | _, _, .cons e1 _ e3 => fun f hf => by
    rcases List.mem_cons.1 hf with rfl | hf
    · exact e1.sr
    · exact e3.all f hf
/-- messages in memory of one's own -/
def Msgs (B : List Nat) (h : PH) (a : Option Addr) (c : Nat) (L : List MsgF) : Prop := ∃ B0 Bs, B = B0 ++ Bs ∧ Buf EncMsg T_api_Msg B0 h a L.length c L ∧ OpsAt h Bs L ∧ Dj B0 Bs ∧ ∀ f ∈ L, f.m.prs = [] ∧ f.m.ops.length ≤ 1000
theorem Msgs.has {B : List Nat} {a : Option Addr} {c : Nat} {L : List MsgF} (x : Msgs B h a c L) : Has B h := by
  obtain ⟨B0, Bs, rfl, h1, h2, _⟩ := x
  exact h1.has.app h2.has
end TL

namespace TL
open Go Go.Proofs
variable {g h : PH} {N : List Nat} {K : Value → PH → Prop} {sb : Nat} {s : ShS} {v : VwR} {lA : Option Addr} {lC : Nat}

theorem ackAt.sub {g' : PH} {p : Option Addr} {a : Option (Int × Int)} (x : ackAt g p a) (hs : g.Sub g') : ackAt g' p a := by
  unfold ackAt at x ⊢
  split at x
  · exact x
  · obtain ⟨b, T, fr, h1, h2⟩ := x
    exact ⟨b, T, fr, h1, hs _ _ h2⟩
theorem shotAt.sub {g' : PH} {p : Option Addr} {a : Option (Int × Int × List PrR)} (x : shotAt g p a) (hs : g.Sub g') : shotAt g' p a := by
  unfold shotAt at x ⊢
  split at x
  · exact x
  · obtain ⟨b, t, T, fr, h1, h2, h3⟩ := x
    exact ⟨b, t, T, fr, h1, hs _ _ h2, h3.sub hs⟩
theorem ShipAt.keep {g' h' : PH} (x : ShipAt g N h sb s) (hs : g.Sub g') (hk : ∀ b ∈ N, ∀ o, h b = some o → h' b = some o) : ShipAt g' N h' sb s := by
  obtain ⟨⟨pa, ps, tA, tN, tC, Bt, rfl, nB, hb, hbuf, ha, hsh⟩, hr⟩ := x
  exact ⟨⟨pa, ps, tA, tN, tC, Bt, rfl, nB, hk _ (by simp) _ hb, hbuf.keep fun b hb' => hk b (List.mem_cons_of_mem _ hb'), ha.sub hs, hsh.sub hs⟩, hr⟩
theorem ShipAt.stp {M M' : List Nat} {g' h' : PH} (x : ShipAt g N h sb s) (t : Stp g M h g' M' h') (d : Dj N M) : ShipAt g' N h' sb s :=
  x.keep t.gs fun b hb _ e => t.chg.keep e (d b hb)
section
variable {m0 m1 m2 m3 m4 m5 m7 m9 m10 : Int} {m6A m13A : Option Addr} {m6N m6C m13N m13C : Nat} {m8 m11 m12 : List Int}
end
theorem cOf3 {h : PH} {K : Value → PH → Prop} {l : List PrR} (hl : SR EncPr h lA l) (hn : l.length ≤ 1000) (hs : ∀ x ∈ l, x.p.length ≤ 1000000)
    (h1 : mayB l = true ∧ l.length ≤ 48 → ∀ b h', Tr b h' l → h b = none → Chg [] [b] h h' → K (.tuple #[.pointer (some ⟨b, 0, none⟩), .int .i64 (0 : Int)]) h')
    (h2 : ¬ (mayB l = true ∧ l.length ≤ 48) → ∀ e : Int, (e = 1 ∨ e = 6) → (e = 1 ↔ mayB l = false) → K (.tuple #[.pointer none, .int .i64 e]) h) : CallH Tryz.prog id_tree_Of [.slice lA l.length lC] K h := by
  by_cases hm : mayB l = true
  · by_cases h48 : l.length ≤ 48
    · exact cOfT hl hm h48 (h1 ⟨hm, h48⟩)
    · exact F_tree_Of_ok (cMay hl (by omega) hs ⟨_, rfl, fun e => (by rw [hm] at e; cases e), fun _ => ⟨fun _ => h2 (fun hh => h48 hh.2) 6 (.inr rfl) ⟨fun e => (by omega), fun e => (by rw [hm] at e; cases e)⟩, fun e => (by simp at e; omega)⟩⟩)
  · exact cOfNo hl (by omega) hs (by simpa using hm) (h2 (fun hh => hm hh.1) 1 (.inl rfl) ⟨fun _ => by simpa using hm, fun _ => rfl⟩)
end TL
