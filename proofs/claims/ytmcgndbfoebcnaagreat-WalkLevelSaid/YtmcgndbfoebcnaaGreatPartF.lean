/-
  The functions of the program as predicates on heap fragments, each tied to its code (a part). No condition.
-/
import Derived.Test.YtmcgndbfoebcnaaGreatPartB
import Derived.Test.YtmcgndbfoebcnaaGreatPartE
import Derived.Test.YtmcgndbfoebcnaaGreatPartD
namespace TL
open Go Go.Proofs
/- twinlock/walk.New -/
def F_walk_New (baseA : Option Addr) (baseN baseC : Nat) (root : List Int) (K : Value → PH → Prop) (h : PH) : Prop :=
  CallH Tryz.prog id_tree_Of [.slice baseA baseN baseC] (fun v h1 =>
    ∃ t0 : Option Addr, ∃ t1 : Int, v = .tuple #[.pointer t0, .int .i64 t1] ∧
    (((t1 != (0 : Int)) = true →
        K (.tuple #[.pointer none, .int .i64 t1]) h1) ∧
      ((t1 != (0 : Int)) = false →
        JoinP (T := Option Addr × Unit) (fun Jv =>
          (newH h1 (.map #[] 0) fun bv h3 =>
            (newH h3 (.map #[] 0) fun bv_1 h4 =>
              CallH Tryz.prog id_tree_Tree_Texts [.pointer t0] (fun v_1 h5 =>
                ∃ (tA : Option Addr) (tN tC : Nat), v_1 = .slice tA tN tC ∧
                newH h5 (.cells ((.pointer t0 :: (root.map (Value.int .u8) ++ ([.map (some bv), .map (some bv_1), .slice tA tN tC] : List Value)))).toArray T_walk_Walk (0, 0)) fun bv_2 h6 =>
                Jv ((some ⟨bv_2, 0, none⟩), ()) h6) h4) ∧
            (CallH Tryz.prog id_tree_Tree_Texts [.pointer t0] (fun v_2 h7 =>
                ∃ (tA_1 : Option Addr) (tN_1 tC_1 : Nat), v_2 = .slice tA_1 tN_1 tC_1 ∧
                newH h7 (.map #[] 0) fun bv_3 h8 =>
                newH h8 (.cells ((.pointer t0 :: (root.map (Value.int .u8) ++ ([.map (some bv), .map (some bv_3), .slice tA_1 tN_1 tC_1] : List Value)))).toArray T_walk_Walk (0, 0)) fun bv_4 h9 =>
                Jv ((some ⟨bv_4, 0, none⟩), ()) h9) h3)) ∧
          ((newH h1 (.map #[] 0) fun bv_5 h10 =>
              (newH h10 (.map #[] 0) fun bv_6 h11 =>
                CallH Tryz.prog id_tree_Tree_Texts [.pointer t0] (fun v_3 h12 =>
                  ∃ (tA_2 : Option Addr) (tN_2 tC_2 : Nat), v_3 = .slice tA_2 tN_2 tC_2 ∧
                  newH h12 (.cells ((.pointer t0 :: (root.map (Value.int .u8) ++ ([.map (some bv_6), .map (some bv_5), .slice tA_2 tN_2 tC_2] : List Value)))).toArray T_walk_Walk (0, 0)) fun bv_7 h13 =>
                  Jv ((some ⟨bv_7, 0, none⟩), ()) h13) h11) ∧
              (CallH Tryz.prog id_tree_Tree_Texts [.pointer t0] (fun v_4 h14 =>
                  ∃ (tA_3 : Option Addr) (tN_3 tC_3 : Nat), v_4 = .slice tA_3 tN_3 tC_3 ∧
                  newH h14 (.map #[] 0) fun bv_8 h15 =>
                  newH h15 (.cells ((.pointer t0 :: (root.map (Value.int .u8) ++ ([.map (some bv_8), .map (some bv_5), .slice tA_3 tN_3 tC_3] : List Value)))).toArray T_walk_Walk (0, 0)) fun bv_9 h16 =>
                  Jv ((some ⟨bv_9, 0, none⟩), ()) h16) h10)) ∧
            (CallH Tryz.prog id_tree_Tree_Texts [.pointer t0] (fun v_5 h17 =>
                ∃ (tA_4 : Option Addr) (tN_4 tC_4 : Nat), v_5 = .slice tA_4 tN_4 tC_4 ∧
                (newH h17 (.map #[] 0) fun bv_10 h18 =>
                  newH h18 (.map #[] 0) fun bv_11 h19 =>
                  newH h19 (.cells ((.pointer t0 :: (root.map (Value.int .u8) ++ ([.map (some bv_10), .map (some bv_11), .slice tA_4 tN_4 tC_4] : List Value)))).toArray T_walk_Walk (0, 0)) fun bv_12 h20 =>
                  Jv ((some ⟨bv_12, 0, none⟩), ()) h20) ∧
                (newH h17 (.map #[] 0) fun bv_13 h21 =>
                  newH h21 (.map #[] 0) fun bv_14 h22 =>
                  newH h22 (.cells ((.pointer t0 :: (root.map (Value.int .u8) ++ ([.map (some bv_14), .map (some bv_13), .slice tA_4 tN_4 tC_4] : List Value)))).toArray T_walk_Walk (0, 0)) fun bv_15 h23 =>
                  Jv ((some ⟨bv_15, 0, none⟩), ()) h23)) h1)))
        (fun st h2 =>
          CallH Tryz.prog id_walk_Walk_ask [.pointer st.1, .agg #[.int .i64 (0 : Int), .int .i64 (0 : Int)], .agg ((root.map (Value.int .u8) ++ [])).toArray] (fun _ h24 =>
            K (.tuple #[.pointer st.1, .int .i64 (0 : Int)]) h24) h2)))) h
theorem F_walk_New_eq {baseA : Option Addr} {baseN baseC : Nat} {root : List Int} {K : Value → PH → Prop} {h : PH} : @Eq Prop (F_walk_New baseA baseN baseC root K h) (denF Tryz.prog Tryz.f39 ⟨[3], [(4, .one 0 (.one 1 (.one 4 (.alt 2 (.alt 3 (.of [5, 6, 7, 8]) (.of [5, 3, 6, 7, 8])) (.alt 3 (.alt 2 (.of [5, 6, 7, 8]) (.of [5, 2, 6, 7, 8])) (.one 5 (.alt 2 (.of [3, 6, 7, 8]) (.of [3, 2, 6, 7, 8]))))))))], [], [(12, ⟨[(8, .ptr)], [], []⟩)]⟩ [.v (.slice baseA baseN baseC), .agg [.ints .u8 32 root]] K h) := by
  kernel_rfl
theorem F_walk_New_ok {baseA : Option Addr} {baseN baseC : Nat} {root : List Int} (hk0 : root.length = 32) {K : Value → PH → Prop} {h : PH} (hh : F_walk_New baseA baseN baseC root K h) : CallH Tryz.prog id_walk_New [.slice baseA baseN baseC, .agg ((root.map (Value.int .u8) ++ [])).toArray] K h :=
  denF_sound' Tryz.func39 (H := ⟨[3], [(4, .one 0 (.one 1 (.one 4 (.alt 2 (.alt 3 (.of [5, 6, 7, 8]) (.of [5, 3, 6, 7, 8])) (.alt 3 (.alt 2 (.of [5, 6, 7, 8]) (.of [5, 2, 6, 7, 8])) (.one 5 (.alt 2 (.of [3, 6, 7, 8]) (.of [3, 2, 6, 7, 8]))))))))], [], [(12, ⟨[(8, .ptr)], [], []⟩)]⟩) (xs := [.v (.slice baseA baseN baseC), .agg [.ints .u8 32 root]]) (by kernel_rfl) (⟨rfl, ⟨hk0, trivial⟩, trivial⟩) (den_of F_walk_New_eq hh)

/- (*twinlock/walk.Walk).Want -/
def F_walk_Walk_Want (w : Option Addr) (n : Int) (K : Value → PH → Prop) (h : PH) : Prop :=
  CallH Tryz.prog id_walk_Walk_none [.pointer w] (fun v h1 =>
    ∃ t : Bool, v = .bool t ∧
    (((t || (decide (n < (1 : Int)))) = true →
        K (.slice none 0 0) h1) ∧
      ((t || (decide (n < (1 : Int)))) = false →
        ∃ bv ov : Nat, w = some ⟨bv, ov, none⟩ ∧
        ∃ t_1 : Option Nat, (h1.rds bv (ov + 33) 1 = some [.map t_1]) ∧
        CallH Tryz.prog id_maps_Keys_map_walk_Ask_api_Hash_walk_Ask_api_Hash [.map t_1] (fun v_1 h2 =>
          ∃ t_2 : Value, one1 t_2 = true ∧ v_1 = t_2 ∧
          CallH Tryz.prog id_slices_SortedFunc_walk_Ask [t_2, .func (.func 116) #[] #[]] (fun v_2 h3 =>
            ∃ (lA : Option Addr) (lN lC : Nat), v_2 = .slice lA lN lC ∧
            (0 ≤ (0 : Int) ∧ (0 : Int) ≤ (minV n ((lN : Nat) : Int)) ∧ (minV n ((lN : Nat) : Int)) ≤ ((lC : Nat) : Int) ∧ ((lC : Nat) : Int) ≤ (lC : Nat)) ∧
            K (.slice (slA lA 2 (0 : Int) ((lC : Nat) : Int)) ((minV n ((lN : Nat) : Int)).toNat - (0 : Int).toNat) (((lC : Nat) : Int).toNat - (0 : Int).toNat)) h3) h2) h1))) h
theorem F_walk_Walk_Want_eq {w : Option Addr} {n : Int} {K : Value → PH → Prop} {h : PH} : @Eq Prop (F_walk_Walk_Want w n K h) (denF Tryz.prog Tryz.f40 ⟨[], [], [], []⟩ [.v (.pointer w), .v (.int .i64 n)] K h) := by
  kernel_rfl
theorem F_walk_Walk_Want_ok {w : Option Addr} {n : Int}  {K : Value → PH → Prop} {h : PH} (hh : F_walk_Walk_Want w n K h) : CallH Tryz.prog id_walk_Walk_Want [.pointer w, .int .i64 n] K h :=
  denF_sound' Tryz.func40 (H := ⟨[], [], [], []⟩) (xs := [.v (.pointer w), .v (.int .i64 n)]) (by kernel_rfl) (⟨rfl, rfl, trivial⟩) (den_of F_walk_Walk_Want_eq hh)

/- (*twinlock/walk.Walk).Node -/
def F_walk_Walk_Node (w : Option Addr) (level : Int) (i : Int) (leftv : List Int) (rightv : List Int) (K : Value → PH → Prop) (h : PH) : Prop :=
  newH h (.cells ((leftv.map (Value.int .u8) ++ [])).toArray T_api_Hash (0, 0)) fun bv h1 =>
  newH h1 (.cells ((rightv.map (Value.int .u8) ++ [])).toArray T_api_Hash (0, 0)) fun bv_1 h2 =>
  CallH Tryz.prog id_walk_Walk_none [.pointer w] (fun v h3 =>
    ∃ t : Bool, v = .bool t ∧
    ((((t || (decide (level < (0 : Int)))) || (decide (level ≥ (4 : Int)))) = true →
        K (.bool false) h3) ∧
      (((t || (decide (level < (0 : Int)))) || (decide (level ≥ (4 : Int)))) = false →
        ∃ t_1 : List Int, t_1.length = 32 ∧ (h3.rds bv 0 32 = some (t_1.map (Value.int .u8) ++ [])) ∧
        ∃ t_2 : List Int, t_2.length = 32 ∧ (h3.rds bv_1 0 32 = some (t_2.map (Value.int .u8) ++ [])) ∧
        (0 ≤ (0 : Int) ∧ (0 : Int) ≤ ((32 : Nat) : Int) ∧ ((32 : Nat) : Int) ≤ ((32 : Nat) : Int) ∧ ((32 : Nat) : Int) ≤ (32 : Nat)) ∧
        ∃ t_3 : ByteArray, strH h3 (slA (some ⟨bv, 0, none⟩ : Option Addr) 1 (0 : Int) ((32 : Nat) : Int)) (((32 : Nat) : Int).toNat - (0 : Int).toNat) t_3 ∧
        (((ByteArray.size (⟨#[78]⟩ : ByteArray) + ByteArray.size t_3 : Nat) : Int) ≤ 9223372036854775807) ∧
        (0 ≤ (0 : Int) ∧ (0 : Int) ≤ ((32 : Nat) : Int) ∧ ((32 : Nat) : Int) ≤ ((32 : Nat) : Int) ∧ ((32 : Nat) : Int) ≤ (32 : Nat)) ∧
        ∃ t_4 : ByteArray, strH h3 (slA (some ⟨bv_1, 0, none⟩ : Option Addr) 1 (0 : Int) ((32 : Nat) : Int)) (((32 : Nat) : Int).toNat - (0 : Int).toNat) t_4 ∧
        (((ByteArray.size ((⟨#[78]⟩ : ByteArray) ++ t_3) + ByteArray.size t_4 : Nat) : Int) ≤ 9223372036854775807) ∧
        CallH Tryz.prog id_tree_Inner [.agg ((t_1.map (Value.int .u8) ++ [])).toArray, .agg ((t_2.map (Value.int .u8) ++ [])).toArray] (fun v_1 h4 =>
          ∃ t_5 : List Int, t_5.length = 32 ∧ v_1 = .agg ((t_5.map (Value.int .u8) ++ [])).toArray ∧
          (strH h4 (slA (some ⟨bv_1, 0, none⟩ : Option Addr) 1 (0 : Int) ((32 : Nat) : Int)) (((32 : Nat) : Int).toNat - (0 : Int).toNat) t_4) ∧
          (strH h4 (slA (some ⟨bv, 0, none⟩ : Option Addr) 1 (0 : Int) ((32 : Nat) : Int)) (((32 : Nat) : Int).toNat - (0 : Int).toNat) t_3) ∧
          CallH Tryz.prog id_walk_Walk_fits [.pointer w, .agg #[.int .i64 level, .int .i64 i], .agg ((t_5.map (Value.int .u8) ++ [])).toArray, .string (((⟨#[78]⟩ : ByteArray) ++ t_3) ++ t_4)] (fun v_2 h5 =>
            ∃ t_6 : Bool, v_2 = .bool t_6 ∧
            (((!t_6) = true →
                K (.bool false) h5) ∧
              ((!t_6) = false →
                ∃ t_7 : List Int, t_7.length = 32 ∧ (h5.rds bv 0 32 = some (t_7.map (Value.int .u8) ++ [])) ∧
                CallH Tryz.prog id_walk_Walk_ask [.pointer w, .agg #[.int .i64 (IntKind.wrap .i64 (level + (1 : Int))), .int .i64 (IntKind.wrap .i64 ((2 : Int) * i))], .agg ((t_7.map (Value.int .u8) ++ [])).toArray] (fun _ h6 =>
                  ∃ t_8 : List Int, t_8.length = 32 ∧ (h6.rds bv_1 0 32 = some (t_8.map (Value.int .u8) ++ [])) ∧
                  CallH Tryz.prog id_walk_Walk_ask [.pointer w, .agg #[.int .i64 (IntKind.wrap .i64 (level + (1 : Int))), .int .i64 (IntKind.wrap .i64 ((IntKind.wrap .i64 ((2 : Int) * i)) + (1 : Int)))], .agg ((t_8.map (Value.int .u8) ++ [])).toArray] (fun _ h7 =>
                    K (.bool true) h7) h6) h5))) h4) h3))) h2
theorem F_walk_Walk_Node_eq {w : Option Addr} {level : Int} {i : Int} {leftv : List Int} {rightv : List Int} {K : Value → PH → Prop} {h : PH} : @Eq Prop (F_walk_Walk_Node w level i leftv rightv K h) (denF Tryz.prog Tryz.f42 ⟨[], [(3, .of [0, 1, 2, 3, 4, 5, 7, 8, 9, 10, 11, 12, 6, 13, 14])], [], []⟩ [.v (.pointer w), .v (.int .i64 level), .v (.int .i64 i), .agg [.ints .u8 32 leftv], .agg [.ints .u8 32 rightv]] K h) := by
  kernel_rfl
theorem F_walk_Walk_Node_ok {w : Option Addr} {level : Int} {i : Int} {leftv : List Int} {rightv : List Int} (hk0 : leftv.length = 32) (hk1 : rightv.length = 32) {K : Value → PH → Prop} {h : PH} (hh : F_walk_Walk_Node w level i leftv rightv K h) : CallH Tryz.prog id_walk_Walk_Node [.pointer w, .int .i64 level, .int .i64 i, .agg ((leftv.map (Value.int .u8) ++ [])).toArray, .agg ((rightv.map (Value.int .u8) ++ [])).toArray] K h :=
  denF_sound' Tryz.func42 (H := ⟨[], [(3, .of [0, 1, 2, 3, 4, 5, 7, 8, 9, 10, 11, 12, 6, 13, 14])], [], []⟩) (xs := [.v (.pointer w), .v (.int .i64 level), .v (.int .i64 i), .agg [.ints .u8 32 leftv], .agg [.ints .u8 32 rightv]]) (by kernel_rfl) (⟨rfl, rfl, rfl, ⟨hk0, trivial⟩, ⟨hk1, trivial⟩, trivial⟩) (den_of F_walk_Walk_Node_eq hh)

/- (*twinlock/walk.Walk).Page -/
def F_walk_Walk_Page (w : Option Addr) (i : Int) (lA : Option Addr) (lN lC : Nat) (K : Value → PH → Prop) (h : PH) : Prop :=
  CallH Tryz.prog id_walk_Walk_none [.pointer w] (fun v h1 =>
    ∃ t : Bool, v = .bool t ∧
    ((t = true →
        K (.bool false) h1) ∧
      (t = false →
        CallH Tryz.prog id_bucket_Page [.int .i64 i, .slice lA lN lC] (fun v_1 h2 =>
          ∃ t0 : ByteArray, ∃ t1 : Int, v_1 = .tuple #[.string t0, .int .i64 t1] ∧
          (((t1 != (0 : Int)) = false →
              CallH Tryz.prog id_tree_Leaf [.string t0] (fun v_2 h3 =>
                ∃ t_1 : List Int, t_1.length = 32 ∧ v_2 = .agg ((t_1.map (Value.int .u8) ++ [])).toArray ∧
                (((ByteArray.size (⟨#[76]⟩ : ByteArray) + ByteArray.size t0 : Nat) : Int) ≤ 9223372036854775807) ∧
                CallH Tryz.prog id_walk_Walk_fits [.pointer w, .agg #[.int .i64 (4 : Int), .int .i64 i], .agg ((t_1.map (Value.int .u8) ++ [])).toArray, .string ((⟨#[76]⟩ : ByteArray) ++ t0)] (fun v_3 h4 =>
                  ∃ t_2 : Bool, v_3 = .bool t_2 ∧
                  (((!t_2) = true →
                      K (.bool false) h4) ∧
                    ((!t_2) = false →
                      ∃ bv ov : Nat, w = some ⟨bv, ov, none⟩ ∧
                      ∃ t_3 : Option Nat, (h4.rds bv (ov + 34) 1 = some [.map t_3]) ∧
                      CallH Tryz.prog id_slices_Clone_api_Pair_api_Pair [.slice lA lN lC] (fun v_4 h5 =>
                        ∃ (tA : Option Addr) (tN tC : Nat), v_4 = .slice tA tN tC ∧
                        (h5.rds bv (ov + 34) 1 = some [.map t_3]) ∧
                        muH (.int .i64) h5 t_3 (.int .i64 i) (.slice tA tN tC) fun h6 =>
                        K (.bool true) h6) h4))) h3) h2) ∧
            ((t1 != (0 : Int)) = true →
              K (.bool false) h2))) h1))) h
theorem F_walk_Walk_Page_eq {w : Option Addr} {i : Int} {lA : Option Addr} {lN lC : Nat} {K : Value → PH → Prop} {h : PH} : @Eq Prop (F_walk_Walk_Page w i lA lN lC K h) (denF Tryz.prog Tryz.f43 ⟨[], [], [], []⟩ [.v (.pointer w), .v (.int .i64 i), .v (.slice lA lN lC)] K h) := by
  kernel_rfl
theorem F_walk_Walk_Page_ok {w : Option Addr} {i : Int} {lA : Option Addr} {lN lC : Nat}  {K : Value → PH → Prop} {h : PH} (hh : F_walk_Walk_Page w i lA lN lC K h) : CallH Tryz.prog id_walk_Walk_Page [.pointer w, .int .i64 i, .slice lA lN lC] K h :=
  denF_sound' Tryz.func43 (H := ⟨[], [], [], []⟩) (xs := [.v (.pointer w), .v (.int .i64 i), .v (.slice lA lN lC)]) (by kernel_rfl) (⟨rfl, rfl, rfl, trivial⟩) (den_of F_walk_Walk_Page_eq hh)

/- (*twinlock/walk.Walk).Done -/
def F_walk_Walk_Done (w : Option Addr) (K : Value → PH → Prop) (h : PH) : Prop :=
  JoinP (T := Unit) (fun Jv =>
    CallH Tryz.prog id_walk_Walk_none [.pointer w] (fun v h2 =>
      ∃ t : Bool, v = .bool t ∧
      ∃ bv ov : Nat, (t = false → w = some ⟨bv, ov, none⟩) ∧
      ∃ t_1 : Option Nat, ((t = false → h2.rds bv (ov + 33) 1 = some [.map t_1])) ∧
      ((t = false →
          ∃ tN : Nat, lenM h2 t_1 tN ∧
          (((decide (((tN : Nat) : Int) > (0 : Int))) = true →
              K (.tuple #[.slice none 0 0, .bool false]) h2) ∧
            ((decide (((tN : Nat) : Int) > (0 : Int))) = false →
              Jv (()) h2))) ∧
        (t = true →
          K (.tuple #[.slice none 0 0, .bool false]) h2))) h)
  (fun _ h1 =>
    LoopP (T := (Option Addr × Nat × Nat) × Int × Unit) (fun Jv_1 st_1 h3 =>
      (((decide (st_1.2.1 < (16 : Int))) = true →
          ∃ bv_1 ov_1 : Nat, w = some ⟨bv_1, ov_1, none⟩ ∧
          ∃ t_2 : Option Nat, (h3.rds bv_1 (ov_1 + 34) 1 = some [.map t_2]) ∧
          ∃ (tA : Option Addr) (tN_1 tC : Nat), ∃ ok : Bool, lkH (.int .i64) h3 t_2 (.int .i64 st_1.2.1) (.slice none 0 0) (.slice tA tN_1 tC) ok ∧
          (((!ok) = true →
              ∃ bv_2 ov_2 : Nat, w = some ⟨bv_2, ov_2, none⟩ ∧
              ∃ t_3 : Option Addr, (h3.rds bv_2 ov_2 1 = some [.pointer t_3]) ∧
              CallH Tryz.prog id_tree_Tree_Pairs [.pointer t_3, .int .i64 st_1.2.1] (fun v_1 h4 =>
                ∃ (partA : Option Addr) (partN partC : Nat), v_1 = .slice partA partN partC ∧
                ∃ vs : List Value, srcH h4 partA (partN * 2) vs ∧
                appH T_api_Pair 2 32 [.string (⟨#[]⟩ : ByteArray), .string (⟨#[]⟩ : ByteArray)] st_1.1.1 st_1.1.2.1 st_1.1.2.2 partN vs (fun lA lN lC h5 =>
                  Jv_1 ((lA, lN, lC), (IntKind.wrap .i64 (st_1.2.1 + (1 : Int))), ()) h5) h4) h3) ∧
            ((!ok) = false →
              ∃ vs_1 : List Value, srcH h3 tA (tN_1 * 2) vs_1 ∧
              appH T_api_Pair 2 32 [.string (⟨#[]⟩ : ByteArray), .string (⟨#[]⟩ : ByteArray)] st_1.1.1 st_1.1.2.1 st_1.1.2.2 tN_1 vs_1 (fun lA_1 lN_1 lC_1 h6 =>
                Jv_1 ((lA_1, lN_1, lC_1), (IntKind.wrap .i64 (st_1.2.1 + (1 : Int))), ()) h6) h3))) ∧
        ((decide (st_1.2.1 < (16 : Int))) = false →
          (((decide (((st_1.1.2.1 : Nat) : Int) > (48 : Int))) = true →
              K (.tuple #[.slice none 0 0, .bool false]) h3) ∧
            ((decide (((st_1.1.2.1 : Nat) : Int) > (48 : Int))) = false →
              CallH Tryz.prog id_slices_SortFunc_api_Pair_api_Pair [.slice st_1.1.1 st_1.1.2.1 st_1.1.2.2, .func (.func 122) #[] #[]] (fun _ h7 =>
                K (.tuple #[.slice st_1.1.1 st_1.1.2.1 st_1.1.2.2, .bool true]) h7) h3))))) ((none, 0, 0), (0 : Int), ()) h1)
theorem F_walk_Walk_Done_eq {w : Option Addr} {K : Value → PH → Prop} {h : PH} : @Eq Prop (F_walk_Walk_Done w K h) (denF Tryz.prog Tryz.f44 ⟨[], [], [(0, ⟨[(4, .slice), (18, .int .i64)], [], []⟩)], [(8, ⟨[], [], []⟩)]⟩ [.v (.pointer w)] K h) := by
  kernel_rfl
theorem F_walk_Walk_Done_ok {w : Option Addr}  {K : Value → PH → Prop} {h : PH} (hh : F_walk_Walk_Done w K h) : CallH Tryz.prog id_walk_Walk_Done [.pointer w] K h :=
  denF_sound' Tryz.func44 (H := ⟨[], [], [(0, ⟨[(4, .slice), (18, .int .i64)], [], []⟩)], [(8, ⟨[], [], []⟩)]⟩) (xs := [.v (.pointer w)]) (by kernel_rfl) (⟨rfl, trivial⟩) (den_of F_walk_Walk_Done_eq hh)

/- (*twinlock/walk.Walk).Texts -/
def F_walk_Walk_Texts (w : Option Addr) (K : Value → PH → Prop) (h : PH) : Prop :=
  CallH Tryz.prog id_walk_Walk_none [.pointer w] (fun v h1 =>
    ∃ t : Bool, v = .bool t ∧
    ((t = true →
        K (.slice none 0 0) h1) ∧
      (t = false →
        ∃ bv ov : Nat, w = some ⟨bv, ov, none⟩ ∧
        ∃ (tA : Option Addr) (tN tC : Nat), (h1.rds bv (ov + 35) 1 = some [.slice tA tN tC]) ∧
        CallH Tryz.prog id_slices_Clone_string_string [.slice tA tN tC] (fun v_1 h2 =>
          ∃ (tA_1 : Option Addr) (tN_1 tC_1 : Nat), v_1 = .slice tA_1 tN_1 tC_1 ∧
          K (.slice tA_1 tN_1 tC_1) h2) h1))) h
theorem F_walk_Walk_Texts_eq {w : Option Addr} {K : Value → PH → Prop} {h : PH} : @Eq Prop (F_walk_Walk_Texts w K h) (denF Tryz.prog Tryz.f47 ⟨[], [], [], []⟩ [.v (.pointer w)] K h) := by
  kernel_rfl
theorem F_walk_Walk_Texts_ok {w : Option Addr}  {K : Value → PH → Prop} {h : PH} (hh : F_walk_Walk_Texts w K h) : CallH Tryz.prog id_walk_Walk_Texts [.pointer w] K h :=
  denF_sound' Tryz.func47 (H := ⟨[], [], [], []⟩) (xs := [.v (.pointer w)]) (by kernel_rfl) (⟨rfl, trivial⟩) (den_of F_walk_Walk_Texts_eq hh)

/- (*twinlock/walk.Walk).Root -/
def F_walk_Walk_Root (w : Option Addr) (K : Value → PH → Prop) (h : PH) : Prop :=
  CallH Tryz.prog id_walk_Walk_none [.pointer w] (fun v h1 =>
    ∃ t : Bool, v = .bool t ∧
    ((t = true →
        K (.agg (((List.replicate 32 0).map (Value.int .u8) ++ [])).toArray) h1) ∧
      (t = false →
        ∃ bv ov : Nat, w = some ⟨bv, ov, none⟩ ∧
        ∃ t_1 : List Int, t_1.length = 32 ∧ (h1.rds bv (ov + 1) 32 = some (t_1.map (Value.int .u8) ++ [])) ∧
        K (.agg ((t_1.map (Value.int .u8) ++ [])).toArray) h1))) h
theorem F_walk_Walk_Root_eq {w : Option Addr} {K : Value → PH → Prop} {h : PH} : @Eq Prop (F_walk_Walk_Root w K h) (denF Tryz.prog Tryz.f51 ⟨[2], [], [], []⟩ [.v (.pointer w)] K h) := by
  kernel_rfl
theorem F_walk_Walk_Root_ok {w : Option Addr}  {K : Value → PH → Prop} {h : PH} (hh : F_walk_Walk_Root w K h) : CallH Tryz.prog id_walk_Walk_Root [.pointer w] K h :=
  denF_sound' Tryz.func51 (H := ⟨[2], [], [], []⟩) (xs := [.v (.pointer w)]) (by kernel_rfl) (⟨rfl, trivial⟩) (den_of F_walk_Walk_Root_eq hh)

/- (*twinlock/walk.Walk).ask -/
def F_walk_Walk_ask (w : Option Addr) (a0 : Int) (a1 : Int) (hv : List Int) (K : Value → PH → Prop) (h : PH) : Prop :=
  ∃ bv ov : Nat, w = some ⟨bv, ov, none⟩ ∧
  ∃ t : Option Addr, (h.rds bv ov 1 = some [.pointer t]) ∧
  (CallH Tryz.prog id_tree_Tree_Node [.pointer t, .int .i64 a0, .int .i64 a1] (fun v h1 =>
      ∃ t0 : List Int, t0.length = 32 ∧ ∃ t1 : Bool, v = .tuple #[.agg ((t0.map (Value.int .u8) ++ [])).toArray, .bool t1] ∧
      (((!(t0 == hv)) = true →
          ∃ bv_1 ov_1 : Nat, w = some ⟨bv_1, ov_1, none⟩ ∧
          ∃ t_1 : Option Nat, (h1.rds bv_1 (ov_1 + 33) 1 = some [.map t_1]) ∧
          muH (.rec2 .i64 .i64) h1 t_1 (.agg #[.int .i64 a0, .int .i64 a1]) (.agg ((hv.map (Value.int .u8) ++ [])).toArray) fun h2 =>
          K (.tuple #[]) h2) ∧
        ((!(t0 == hv)) = false →
          K (.tuple #[]) h1))) h) ∧
  (CallH Tryz.prog id_tree_Tree_Node [.pointer t, .int .i64 a0, .int .i64 a1] (fun v_1 h3 =>
      ∃ t0_1 : List Int, t0_1.length = 32 ∧ ∃ t1_1 : Bool, v_1 = .tuple #[.agg ((t0_1.map (Value.int .u8) ++ [])).toArray, .bool t1_1] ∧
      (((!(t0_1 == hv)) = true →
          ∃ bv_2 ov_2 : Nat, w = some ⟨bv_2, ov_2, none⟩ ∧
          ∃ t_2 : Option Nat, (h3.rds bv_2 (ov_2 + 33) 1 = some [.map t_2]) ∧
          muH (.rec2 .i64 .i64) h3 t_2 (.agg #[.int .i64 a0, .int .i64 a1]) (.agg ((hv.map (Value.int .u8) ++ [])).toArray) fun h4 =>
          K (.tuple #[]) h4) ∧
        ((!(t0_1 == hv)) = false →
          K (.tuple #[]) h3))) h)
theorem F_walk_Walk_ask_eq {w : Option Addr} {a0 : Int} {a1 : Int} {hv : List Int} {K : Value → PH → Prop} {h : PH} : @Eq Prop (F_walk_Walk_ask w a0 a1 hv K h) (denF Tryz.prog Tryz.f112 ⟨[4, 5, 6], [(1, .one 0 (.one 1 (.one 2 (.one 3 (.one 4 (.one 5 (.one 6 (.one 7 (.alt 8 (.of [9, 10, 11, 12, 13, 14]) (.of [12, 8, 9, 10, 11, 13, 14]))))))))))], [], []⟩ [.v (.pointer w), .agg [.one (.int .i64 a0), .one (.int .i64 a1)], .agg [.ints .u8 32 hv]] K h) := by
  kernel_rfl
theorem F_walk_Walk_ask_ok {w : Option Addr} {a0 : Int} {a1 : Int} {hv : List Int} (hk0 : hv.length = 32) {K : Value → PH → Prop} {h : PH} (hh : F_walk_Walk_ask w a0 a1 hv K h) : CallH Tryz.prog id_walk_Walk_ask [.pointer w, .agg #[.int .i64 a0, .int .i64 a1], .agg ((hv.map (Value.int .u8) ++ [])).toArray] K h :=
  denF_sound' Tryz.func112 (H := ⟨[4, 5, 6], [(1, .one 0 (.one 1 (.one 2 (.one 3 (.one 4 (.one 5 (.one 6 (.one 7 (.alt 8 (.of [9, 10, 11, 12, 13, 14]) (.of [12, 8, 9, 10, 11, 13, 14]))))))))))], [], []⟩) (xs := [.v (.pointer w), .agg [.one (.int .i64 a0), .one (.int .i64 a1)], .agg [.ints .u8 32 hv]]) (by kernel_rfl) (⟨rfl, ⟨rfl, rfl, trivial⟩, ⟨hk0, trivial⟩, trivial⟩) (den_of F_walk_Walk_ask_eq hh)

/- (*twinlock/walk.Walk).none -/
def F_walk_Walk_none (w : Option Addr) (K : Value → PH → Prop) (h : PH) : Prop :=
  ∃ bv ov : Nat, ((Option.isNone w) = false → w = some ⟨bv, ov, none⟩) ∧
  ∃ t : Option Addr, (((Option.isNone w) = false → h.rds bv ov 1 = some [.pointer t])) ∧
  K (.bool ((Option.isNone w) || (Option.isNone t))) h
theorem F_walk_Walk_none_eq {w : Option Addr} {K : Value → PH → Prop} {h : PH} : @Eq Prop (F_walk_Walk_none w K h) (denF Tryz.prog Tryz.f113 ⟨[], [], [], []⟩ [.v (.pointer w)] K h) := by
  kernel_rfl
theorem F_walk_Walk_none_ok {w : Option Addr}  {K : Value → PH → Prop} {h : PH} (hh : F_walk_Walk_none w K h) : CallH Tryz.prog id_walk_Walk_none [.pointer w] K h :=
  denF_sound' Tryz.func113 (H := ⟨[], [], [], []⟩) (xs := [.v (.pointer w)]) (by kernel_rfl) (⟨rfl, trivial⟩) (den_of F_walk_Walk_none_eq hh)

/- maps.Keys[map[twinlock/walk.Ask]twinlock/api.Hash,twinlock/walk.Ask,twinlock/api.Hash] -/
def F_maps_Keys_map_walk_Ask_api_Hash_walk_Ask_api_Hash (m : Option Nat) (K : Value → PH → Prop) (h : PH) : Prop :=
  newH h (.cells #[.map m] 184 (0, 0)) fun bv h1 =>
  K (.func (.func 151) #[] #[.pointer (some ⟨bv, 0, none⟩)]) h1
theorem F_maps_Keys_map_walk_Ask_api_Hash_walk_Ask_api_Hash_eq {m : Option Nat} {K : Value → PH → Prop} {h : PH} : @Eq Prop (F_maps_Keys_map_walk_Ask_api_Hash_walk_Ask_api_Hash m K h) (denF Tryz.prog Tryz.f115 ⟨[], [], [], []⟩ [.v (.map m)] K h) := by
  kernel_rfl
theorem F_maps_Keys_map_walk_Ask_api_Hash_walk_Ask_api_Hash_ok {m : Option Nat}  {K : Value → PH → Prop} {h : PH} (hh : F_maps_Keys_map_walk_Ask_api_Hash_walk_Ask_api_Hash m K h) : CallH Tryz.prog id_maps_Keys_map_walk_Ask_api_Hash_walk_Ask_api_Hash [.map m] K h :=
  denF_sound' Tryz.func115 (H := ⟨[], [], [], []⟩) (xs := [.v (.map m)]) (by kernel_rfl) (⟨rfl, trivial⟩) (den_of F_maps_Keys_map_walk_Ask_api_Hash_walk_Ask_api_Hash_eq hh)

/- (*twinlock/walk.Walk).fits -/
def F_walk_Walk_fits (w : Option Addr) (a0 : Int) (a1 : Int) (hv : List Int) (text : ByteArray) (K : Value → PH → Prop) (h : PH) : Prop :=
  ∃ bv ov : Nat, w = some ⟨bv, ov, none⟩ ∧
  ∃ t : Option Nat, (h.rds bv (ov + 33) 1 = some [.map t]) ∧
  ∃ t_1 : List Int, t_1.length = 32 ∧ ∃ ok : Bool, lkH (.rec2 .i64 .i64) h t (.agg #[.int .i64 a0, .int .i64 a1]) (.agg (((List.replicate 32 0).map (Value.int .u8) ++ [])).toArray) (.agg ((t_1.map (Value.int .u8) ++ [])).toArray) ok ∧
  ((((!ok) || (!(t_1 == hv))) = true →
      K (.bool false) h) ∧
    (((!ok) || (!(t_1 == hv))) = false →
      ∃ bv_1 ov_1 : Nat, w = some ⟨bv_1, ov_1, none⟩ ∧
      ∃ t_2 : Option Nat, (h.rds bv_1 (ov_1 + 33) 1 = some [.map t_2]) ∧
      mdH (.rec2 .i64 .i64) h t_2 (.agg #[.int .i64 a0, .int .i64 a1]) fun h1 =>
      ∃ bv_2 ov_2 : Nat, w = some ⟨bv_2, ov_2, none⟩ ∧
      ∃ (tA : Option Addr) (tN tC : Nat), (h1.rds bv_2 (ov_2 + 35) 1 = some [.slice tA tN tC]) ∧
      appH 9 1 16 [.string (⟨#[]⟩ : ByteArray)] tA tN tC 1 [.string text] (fun tA_1 tN_1 tC_1 h2 =>
        ∃ bv_3 ov_3 : Nat, w = some ⟨bv_3, ov_3, none⟩ ∧
        stH h2 bv_3 (ov_3 + 35) [.slice tA_1 tN_1 tC_1] fun h3 =>
        K (.bool true) h3) h1))
theorem F_walk_Walk_fits_eq {w : Option Addr} {a0 : Int} {a1 : Int} {hv : List Int} {text : ByteArray} {K : Value → PH → Prop} {h : PH} : @Eq Prop (F_walk_Walk_fits w a0 a1 hv text K h) (denF Tryz.prog Tryz.f119 ⟨[5, 6, 9, 38], [], [], []⟩ [.v (.pointer w), .agg [.one (.int .i64 a0), .one (.int .i64 a1)], .agg [.ints .u8 32 hv], .v (.string text)] K h) := by
  kernel_rfl
theorem F_walk_Walk_fits_ok {w : Option Addr} {a0 : Int} {a1 : Int} {hv : List Int} {text : ByteArray} (hk0 : hv.length = 32) {K : Value → PH → Prop} {h : PH} (hh : F_walk_Walk_fits w a0 a1 hv text K h) : CallH Tryz.prog id_walk_Walk_fits [.pointer w, .agg #[.int .i64 a0, .int .i64 a1], .agg ((hv.map (Value.int .u8) ++ [])).toArray, .string text] K h :=
  denF_sound' Tryz.func119 (H := ⟨[5, 6, 9, 38], [], [], []⟩) (xs := [.v (.pointer w), .agg [.one (.int .i64 a0), .one (.int .i64 a1)], .agg [.ints .u8 32 hv], .v (.string text)]) (by kernel_rfl) (⟨rfl, ⟨rfl, rfl, trivial⟩, ⟨hk0, trivial⟩, rfl, trivial⟩) (den_of F_walk_Walk_fits_eq hh)

end TL

namespace TL
open Go Go.Proofs
/-- where a node is -/
def askP (k : Nat) : Int × Int := ((k.log2 : Nat), ((k - 2 ^ k.log2 : Nat) : Int))
theorem askP_inj0 : ∀ a : Nat, a < 32 → ∀ b : Nat, b < 32 → (1 ≤ a ∧ 1 ≤ b ∧ (askP a).1 = (askP b).1 ∧ (askP a).2 = (askP b).2) → a = b := by decide +kernel
theorem askP_inj (a : Nat) (ha : a < 32) (b : Nat) (hb : b < 32) (h1 : 1 ≤ a) (h2 : 1 ≤ b) (e : askP a = askP b) : a = b := askP_inj0 a ha b hb ⟨h1, h2, by rw [e], by rw [e]⟩
theorem askP_lt0 : ∀ a : Nat, a < 32 → ∀ b : Nat, b < 32 → (1 ≤ a ∧ 1 ≤ b) → (ltA (askP a) (askP b) ↔ a < b) := by decide +kernel
theorem askP_lt (a : Nat) (ha : a < 32) (b : Nat) (hb : b < 32) (h1 : 1 ≤ a) (h2 : 1 ≤ b) : ltA (askP a) (askP b) ↔ a < b := askP_lt0 a ha b hb ⟨h1, h2⟩
theorem askP_at0 : ∀ lv : Nat, lv < 5 → ∀ i : Nat, i < 16 → i < 2 ^ lv → (askP (2 ^ lv + i)).1 = (lv : Int) ∧ (askP (2 ^ lv + i)).2 = (i : Int) := by decide +kernel
theorem askP_at (lv : Nat) (h1 : lv < 5) (i : Nat) (h2 : i < 16) (h3 : i < 2 ^ lv) : askP (2 ^ lv + i) = ((lv : Int), (i : Int)) := Prod.ext (askP_at0 lv h1 i h2 h3).1 (askP_at0 lv h1 i h2 h3).2
theorem askP_in : ∀ k, k < 32 → 1 ≤ k → k.log2 ≤ 4 ∧ k - 2 ^ k.log2 < 2 ^ k.log2 ∧ 2 ^ k.log2 + (k - 2 ^ k.log2) = k := by decide +kernel
theorem keyV_inj {x y : Int × Int} (h : keyV x = keyV y) : x = y := by
  unfold keyV at h
  obtain ⟨a, b⟩ := x
  obtain ⟨c, d⟩ := y
  simp only [Value.agg.injEq, Array.mk.injEq, List.cons.injEq, Value.int.injEq, true_and, and_true] at h
  rw [h.1, h.2]
theorem keyV_ok (x : Int × Int) : kOk (.rec2 .i64 .i64) (keyV x) = true := rfl
theorem keyV_keq (x y : Int × Int) : keq (keyV x) (keyV y) = decide (x = y) := by
  rw [Bool.eq_iff_iff, keq_eq (keyV_ok x) (keyV_ok y), decide_eq_true_eq]
  exact ⟨keyV_inj, fun e => by rw [e]⟩
def hashV (x : List UInt8) : Value := .agg (((bi x).map (Value.int .u8) ++ [])).toArray
theorem upM_born (es : List MapEntry) (k v : Value) (c : Nat) (h1 : ∀ e ∈ es, e.born < c) (h2 : (es.map (·.born)).Nodup) : (∀ e ∈ (upM es k v c).1, e.born < (upM es k v c).2) ∧ ((upM es k v c).1.map (·.born)).Nodup := by
  unfold upM
  split
  · rename_i i p hf
    have hm : (es.modify i fun e => { e with key := k, val := v }).map (·.born) = es.map (·.born) := by
      apply List.ext_getElem
      · simp
      · intro j h4 h5
        simp only [List.getElem_map, List.getElem_modify]
        split <;> rfl
    refine ⟨fun e he => ?_, by dsimp only; rw [hm]; exact h2⟩
    dsimp only at he ⊢
    have h3 : e.born ∈ (es.modify i fun e => { e with key := k, val := v }).map (·.born) := List.mem_map.2 ⟨e, he, rfl⟩
    rw [hm] at h3
    obtain ⟨e', he', e3⟩ := List.mem_map.1 h3
    rw [← e3]; exact h1 e' he'
  · refine ⟨fun e he => ?_, ?_⟩
    · dsimp only at he ⊢
      rcases List.mem_append.1 he with he | he
      · exact Nat.lt_succ_of_lt (h1 e he)
      · rw [List.mem_singleton] at he; subst he; exact Nat.lt_succ_self c
    · dsimp only
      rw [List.map_append, List.nodup_append]
      refine ⟨h2, by simp, fun a ha b hb => ?_⟩
      obtain ⟨e, he, rfl⟩ := List.mem_map.1 ha
      simp at hb; subst hb
      exact Nat.ne_of_lt (h1 e he)
/-- what is asked for, as a map's entries -/
structure AskMapE (es : List MapEntry) (c : Nat) (A : Nat → Option (List UInt8)) : Prop where
  key : ∀ e ∈ es, ∃ k, 1 ≤ k ∧ k < 32 ∧ e.key = keyV (askP k)
  at_ : ∀ k, 1 ≤ k → k < 32 → va es (keyV (askP k)) = (A k).map hashV
  nd : NdK es
  old : ∀ e ∈ es, e.born < c
  bn : (es.map (·.born)).Nodup
section
variable {es : List MapEntry} {c : Nat} {A : Nat → Option (List UInt8)}
theorem AskMapE.new : AskMapE [] 0 fun _ => none := ⟨fun _ h => (by cases h), fun _ _ _ => rfl, List.Pairwise.nil, fun _ h => (by cases h), List.nodup_nil⟩
theorem AskMapE.kOk (x : AskMapE es c A) : ∀ e ∈ es, kOk (.rec2 .i64 .i64) e.key = true := fun e he => by
  obtain ⟨k, _, _, h⟩ := x.key e he
  rw [h]; rfl
theorem AskMapE.out (x : AskMapE es c A) {p : Int × Int} (hp : ∀ k, 1 ≤ k → k < 32 → askP k ≠ p) : va es (keyV p) = none := va_none.2 fun e he => by
  obtain ⟨k, h1, h2, h⟩ := x.key e he
  rw [h, keyV_keq]
  exact decide_eq_false fun e => hp k h1 h2 e.symm
theorem AskMapE.put (x : AskMapE es c A) {k : Nat} (h1 : 1 ≤ k) (h2 : k < 32) (v : List UInt8) : AskMapE (upM es (keyV (askP k)) (hashV v) c).1 (upM es (keyV (askP k)) (hashV v) c).2 (upF A k (some v)) := by
  obtain ⟨b1, b2⟩ := upM_born es (keyV (askP k)) (hashV v) c x.old x.bn
  refine ⟨fun e he => ?_, fun k' h1' h2' => ?_, x.nd.upM (keyV_ok _) x.kOk, b1, b2⟩
  · unfold upM at he
    split at he
    · dsimp only at he
      obtain ⟨i, hi, rfl⟩ := List.getElem_of_mem he
      rw [List.getElem_modify]
      split
      · exact ⟨k, h1, h2, rfl⟩
      · exact x.key _ (List.getElem_mem _)
    · dsimp only at he
      rcases List.mem_append.1 he with he | he
      · exact x.key e he
      · rw [List.mem_singleton] at he; subst he; exact ⟨k, h1, h2, rfl⟩
  · rw [va_upM x.kOk (keyV_ok _) (keyV_ok _), keyV_keq]
    by_cases e : k' = k
    · subst e; simp [upF]
    · rw [if_neg (by simp only [decide_eq_true_eq]; exact fun e2 => e (askP_inj k' h2' k h2 h1' h1 e2)), x.at_ k' h1' h2', upF_ne _ _ e]
theorem AskMapE.del (x : AskMapE es c A) {k : Nat} (h1 : 1 ≤ k) (h2 : k < 32) : AskMapE (dlM es (keyV (askP k))) c (upF A k none) := by
  have hs := dlM_sub es (keyV (askP k))
  refine ⟨fun e he => x.key e (hs.subset he), fun k' h1' h2' => ?_, x.nd.dlM _, fun e he => x.old e (hs.subset he), x.bn.sublist (hs.map _)⟩
  rw [va_dlM x.kOk x.nd (keyV_ok _) (keyV_ok _), keyV_keq]
  by_cases e : k' = k
  · subst e; simp [upF]
  · rw [if_neg (by simp only [decide_eq_true_eq]; exact fun e2 => e (askP_inj k' h2' k h2 h1' h1 e2)), x.at_ k' h1' h2', upF_ne _ _ e]
end
/-- what is staged, as a map's entries -/
structure PartMapE (g : PH) (es : List MapEntry) (Q : Nat → Option (List PrR)) : Prop where
  key : ∀ e ∈ es, kOk (.int .i64) e.key = true
  no : ∀ i : Nat, i < 16 → Q i = none → va es (.int .i64 (i : Int)) = none
  yes : ∀ (i : Nat) l, i < 16 → Q i = some l → ∃ a c, va es (.int .i64 (i : Int)) = some (.slice a l.length c) ∧ SR EncPr g a l
theorem PartMapE.new {g : PH} : PartMapE g [] fun _ => none := ⟨fun _ h => (by cases h), fun _ _ _ => rfl, fun _ _ _ h => by cases h⟩
theorem PartMapE.sub {g g' : PH} {es : List MapEntry} {Q : Nat → Option (List PrR)} (x : PartMapE g es Q) (s : g.Sub g') : PartMapE g' es Q := ⟨x.key, x.no, fun i l hi h => by
  obtain ⟨a, c, h1, h2⟩ := x.yes i l hi h
  exact ⟨a, c, h1, h2.sub s⟩⟩
theorem PartMapE.put {g : PH} {es : List MapEntry} {Q : Nat → Option (List PrR)} {c : Nat} (x : PartMapE g es Q) {i : Nat} (_ : i < 16) {l : List PrR} {a : Option Addr} {sc : Nat} (hl : SR EncPr g a l) : PartMapE g (upM es (.int .i64 (i : Int)) (.slice a l.length sc) c).1 (upF Q i (some l)) := by
  have hkq : ∀ j : Nat, keq (.int .i64 (j : Int)) (.int .i64 (i : Int)) = decide (j = i) := fun j => by
    show (((j : Nat) : Int) == ((i : Nat) : Int)) = _
    rw [Bool.eq_iff_iff, beq_iff_eq, decide_eq_true_eq]; omega
  refine ⟨upM_keys rfl x.key, fun j hj hq => ?_, fun j m hj hq => ?_⟩
  · have e : j ≠ i := fun e => by subst e; rw [upF_same] at hq; cases hq
    rw [upF_ne _ _ e] at hq
    rw [va_upM x.key rfl rfl, hkq, if_neg (by simpa using e)]
    exact x.no j hj hq
  · rw [va_upM x.key rfl rfl, hkq]
    by_cases e : j = i
    · subst e
      rw [upF_same] at hq; cases hq
      exact ⟨a, sc, by simp, hl⟩
    · rw [upF_ne _ _ e] at hq
      obtain ⟨a', c', q1, q2⟩ := x.yes j m hj hq
      exact ⟨a', c', by rw [if_neg (by simpa using e)]; exact q1, q2⟩
/-- a walk's cells -/
def walkC (tb : Nat) (R : List UInt8) (ra rp : Nat) (tA : Option Addr) (tN tC : Nat) : List Value := .pointer (some ⟨tb, 0, none⟩) :: ((bi R).map (Value.int .u8) ++ [.map (some ra), .map (some rp), .slice tA tN tC])
structure WalkAt (g : PH) (N : List Nat) (h : PH) (wb : Nat) (s : WS) : Prop where
  mem : ∃ tb ra rp esA cA esP cP tA tN tC Bt, N = wb :: ra :: rp :: Bt ∧ wb ≠ ra ∧ wb ≠ rp ∧ ra ≠ rp ∧ wb ∉ Bt ∧ ra ∉ Bt ∧ rp ∉ Bt ∧ h wb = some (.cells (walkC tb s.R ra rp tA tN tC).toArray T_walk_Walk (0, 0)) ∧ Tr tb g s.S ∧
    h ra = some (.map (esA : List MapEntry).toArray cA) ∧ AskMapE esA cA s.A ∧ h rp = some (.map (esP : List MapEntry).toArray cP) ∧ PartMapE g esP s.Q ∧ Buf EncS 9 Bt h tA tN tC s.T
  R : s.R.length = 32
  al : ∀ k x, s.A k = some x → x.length = 32
section
variable {g h : PH} {N : List Nat} {K : Value → PH → Prop} {wb : Nat} {s : WS}
theorem WalkAt.keep {g' h' : PH} (x : WalkAt g N h wb s) (hs : g.Sub g') (hk : ∀ b ∈ N, ∀ o, h b = some o → h' b = some o) : WalkAt g' N h' wb s := by
  obtain ⟨⟨tb, ra, rp, esA, cA, esP, cP, tA, tN, tC, Bt, rfl, d1, d2, d3, d4, d5, d6, hw, ht, ha, hA, hp, hP, hB⟩, hR, hL⟩ := x
  exact ⟨⟨tb, ra, rp, esA, cA, esP, cP, tA, tN, tC, Bt, rfl, d1, d2, d3, d4, d5, d6, hk _ (by simp) _ hw, ht.sub hs, hk _ (by simp) _ ha, hA, hk _ (by simp) _ hp, hP.sub hs, hB.keep fun b hb => hk b (by simp [hb])⟩, hR, hL⟩
section
variable {tb ra rp : Nat} {R : List UInt8} {tA : Option Addr} {tN tC : Nat} {T : TypeId} {fr : Nat × Nat}
theorem wk_base (hw : h wb = some (.cells (walkC tb R ra rp tA tN tC).toArray T fr)) : h.rds wb 0 1 = some [.pointer (some ⟨tb, 0, none⟩)] := rds_mid' (pre := []) hw rfl rfl rfl
theorem wk_root (hw : h wb = some (.cells (walkC tb R ra rp tA tN tC).toArray T fr)) (hR : R.length = 32) : h.rds wb (0 + 1) 32 = some ((bi R).map (Value.int .u8) ++ []) := by
  rw [List.append_nil]
  exact rds_mid' (pre := [.pointer (some ⟨tb, 0, none⟩)]) (post := [.map (some ra), .map (some rp), .slice tA tN tC]) hw rfl rfl (by rw [List.length_map, bi_len, hR])
theorem wk_ask (hw : h wb = some (.cells (walkC tb R ra rp tA tN tC).toArray T fr)) (hR : R.length = 32) : h.rds wb (0 + 33) 1 = some [.map (some ra)] :=
  rds_mid' (pre := .pointer (some ⟨tb, 0, none⟩) :: (bi R).map (Value.int .u8)) (post := [.map (some rp), .slice tA tN tC]) hw (by simp [walkC]) (by rw [List.length_cons, List.length_map, bi_len, hR]) rfl
theorem wk_part (hw : h wb = some (.cells (walkC tb R ra rp tA tN tC).toArray T fr)) (hR : R.length = 32) : h.rds wb (0 + 34) 1 = some [.map (some rp)] :=
  rds_mid' (pre := .pointer (some ⟨tb, 0, none⟩) :: ((bi R).map (Value.int .u8) ++ [.map (some ra)])) (post := [.slice tA tN tC]) hw (by simp [walkC]) (by simp [bi_len, hR]) rfl
theorem wk_text (hw : h wb = some (.cells (walkC tb R ra rp tA tN tC).toArray T fr)) (hR : R.length = 32) : h.rds wb (0 + 35) 1 = some [.slice tA tN tC] :=
  rds_mid' (pre := .pointer (some ⟨tb, 0, none⟩) :: ((bi R).map (Value.int .u8) ++ [.map (some ra), .map (some rp)])) (post := []) hw (by simp [walkC]) (by simp [bi_len, hR]) rfl
theorem wk_setText (hw : h wb = some (.cells (walkC tb R ra rp tA tN tC).toArray T (0, 0))) (hR : R.length = 32) {a' : Option Addr} {n' c' : Nat} {KK : PH → Prop} (hk : ∀ h', h' wb = some (.cells (walkC tb R ra rp a' n' c').toArray T (0, 0)) → Chg [wb] [wb] h h' → KK h') : stH h wb (0 + 35) [.slice a' n' c'] KK :=
  st_mid' (pre := .pointer (some ⟨tb, 0, none⟩) :: ((bi R).map (Value.int .u8) ++ [.map (some ra), .map (some rp)])) (mid := [.slice tA tN tC]) (post := []) hw (by simp [walkC]) (by simp [walkC]) (by simp [bi_len, hR]) rfl hk
end
theorem cWNone (x : WalkAt g N h wb s) (hk : K (.bool false) h) : CallH Tryz.prog id_walk_Walk_none [.pointer (some ⟨wb, 0, none⟩)] K h := by
  obtain ⟨⟨tb, ra, rp, esA, cA, esP, cP, tA, tN, tC, Bt, rfl, d1, d2, d3, d4, d5, d6, hw, ht, ha, hA, hp, hP, hB⟩, hR, _⟩ := x
  exact F_walk_Walk_none_ok ⟨wb, 0, fun _ => rfl, _, fun _ => wk_base hw, hk⟩
theorem cWAsk (x : WalkAt g N h wb s) (sp : Spl g N h) {lv i : Nat} (hl : lv ≤ 4) (hi : i < 2 ^ lv) {v : List UInt8} (hv : v.length = 32)
    (hk : ∀ h', WalkAt g N h' wb { s with A := wAsk s.S s.A (2 ^ lv + i) v } → Stp g N h g N h' → K (.tuple #[]) h') :
    CallH Tryz.prog id_walk_Walk_ask [.pointer (some ⟨wb, 0, none⟩), .agg #[.int .i64 (lv : Int), .int .i64 (i : Int)], .agg (((bi v).map (Value.int .u8) ++ [])).toArray] K h := by
  have hi16 : i < 16 := Nat.lt_of_lt_of_le hi (Nat.pow_le_pow_right (by decide) hl)
  have hk1 : 1 ≤ 2 ^ lv + i := by have := Nat.one_le_two_pow (n := lv); omega
  have hk2 : 2 ^ lv + i < 32 := by
    have : 2 ^ lv ≤ 2 ^ 4 := Nat.pow_le_pow_right (by decide) hl
    omega
  have hap := askP_at lv (by omega) i hi16 hi
  obtain ⟨⟨tb, ra, rp, esA, cA, esP, cP, tA, tN, tC, Bt, rfl, d1, d2, d3, d4, d5, d6, hw, ht, ha, hA, hp, hP, hB⟩, hR, hL⟩ := id x
  have main : CallH Tryz.prog id_tree_Tree_Node [.pointer (some ⟨tb, 0, none⟩), .int .i64 (lv : Int), .int .i64 (i : Int)] (fun v_1 h1 =>
      ∃ t0 : List Int, t0.length = 32 ∧ ∃ t1 : Bool, v_1 = .tuple #[.agg ((t0.map (Value.int .u8) ++ [])).toArray, .bool t1] ∧
      (((!(t0 == bi v)) = true →
          ∃ bv_1 ov_1 : Nat, (some ⟨wb, 0, none⟩ : Option Addr) = some ⟨bv_1, ov_1, none⟩ ∧
          ∃ t_1 : Option Nat, (h1.rds bv_1 (ov_1 + 33) 1 = some [.map t_1]) ∧
          muH (.rec2 .i64 .i64) h1 t_1 (.agg #[.int .i64 (lv : Int), .int .i64 (i : Int)]) (.agg (((bi v).map (Value.int .u8) ++ [])).toArray) fun h2 =>
          K (.tuple #[]) h2) ∧
        ((!(t0 == bi v)) = false →
          K (.tuple #[]) h1))) h := by
    refine cNode (ht.sub sp.sub) hl hi ⟨bi (nd s.S (2 ^ lv + i)), by rw [bi_len, nd_len], true, rfl, fun e => ?_, fun e => ?_⟩
    · rw [bi_beq] at e
      have e : nd s.S (2 ^ lv + i) ≠ v := by simpa using e
      have hkey : (.agg #[.int .i64 (lv : Int), .int .i64 (i : Int)] : Value) = keyV (askP (2 ^ lv + i)) := by rw [hap]; rfl
      refine ⟨wb, 0, rfl, _, wk_ask hw hR, ra, esA, cA, rfl, ha, hA.kOk, ?_⟩
      have cc : Chg [ra] [ra] h (h.upd ra (.map (upM esA (keyV (askP (2 ^ lv + i))) (hashV v) cA).1.toArray (upM esA (keyV (askP (2 ^ lv + i))) (hashV v) cA).2)) := Chg.upd _
      rw [hkey]
      refine hk _ ⟨⟨tb, ra, rp, _, _, esP, cP, tA, tN, tC, Bt, rfl, d1, d2, d3, d4, d5, d6, cc.keep hw (by simpa using d1), ht, PH.upd_same _ _ _, ?_, cc.keep hp (by simpa using Ne.symm d3), hP, hB.chg cc fun b hb hm => ?_⟩, hR, fun k y hy => ?_⟩ ?_
      · have : wAsk s.S s.A (2 ^ lv + i) v = upF s.A (2 ^ lv + i) (some v) := by unfold wAsk; rw [if_neg e]
        show AskMapE _ _ (wAsk s.S s.A (2 ^ lv + i) v)
        rw [this]
        exact hA.put hk1 hk2 v
      · rw [List.mem_singleton] at hm; subst hm; exact d5 hb
      · have hy : wAsk s.S s.A (2 ^ lv + i) v k = some y := hy
        by_cases ek : k = 2 ^ lv + i
        · subst ek
          unfold wAsk at hy
          rw [if_neg e, upF_same] at hy; cases hy; exact hv
        · rw [wAsk_ne ek] at hy; exact hL k y hy
      · refine sp.chg (cc.sub (fun b hb => by simp at hb; subst hb; simp) fun b hb => .inr hb) fun b hb => ?_
        by_cases hbr : b = ra
        · subst hbr; exact ⟨_, PH.upd_same _ _ _⟩
        · obtain ⟨o, ho⟩ := sp.has b hb
          exact ⟨o, cc.keep ho (by simpa using hbr)⟩
    · rw [bi_beq] at e
      have e : nd s.S (2 ^ lv + i) = v := by simpa using e
      refine hk h ?_ (Stp.refl sp)
      have : wAsk s.S s.A (2 ^ lv + i) v = s.A := by unfold wAsk; rw [if_pos e]
      rw [this]; exact x
  exact F_walk_Walk_ask_ok (by rw [bi_len]; assumption) ⟨wb, 0, rfl, _, wk_base hw, main, main⟩
end
end TL

namespace TL
open Go Go.Proofs
variable {g h : PH} {N : List Nat} {K : Value → PH → Prop} {wb : Nat} {s : WS}
theorem cWFits (x : WalkAt g N h wb s) (sp : Spl g N h) {a0 a1 : Int} {v t : List UInt8} (hv : v.length = 32) (hT : s.T.length ≤ 100000)
    (hno : (∀ k, 1 ≤ k → k < 32 → askP k = (a0, a1) → s.A k ≠ some v) → K (.bool false) h)
    (hyes : ∀ k N' h', 1 ≤ k → k < 32 → askP k = (a0, a1) → s.A k = some v → WalkAt g N' h' wb { s with A := upF s.A k none, T := s.T ++ [t] } → Stp g N h g N' h' → K (.bool true) h') :
    CallH Tryz.prog id_walk_Walk_fits [.pointer (some ⟨wb, 0, none⟩), .agg #[.int .i64 a0, .int .i64 a1], .agg (((bi v).map (Value.int .u8) ++ [])).toArray, .string (mk t)] K h := by
  obtain ⟨⟨tb, ra, rp, esA, cA, esP, cP, tA, tN, tC, Bt, rfl, d1, d2, d3, d4, d5, d6, hw, ht, ha, hA, hp, hP, hB⟩, hR, hL⟩ := id x
  have hkey : (.agg #[.int .i64 a0, .int .i64 a1] : Value) = keyV (a0, a1) := rfl
  by_cases hk : ∃ k, 1 ≤ k ∧ k < 32 ∧ askP k = (a0, a1)
  · obtain ⟨k, k1, k2, hka⟩ := hk
    have hva := hA.at_ k k1 k2
    cases hAk : s.A k with
    | none =>
      refine F_walk_Walk_fits_ok (by rw [bi_len]; exact hv) ⟨wb, 0, rfl, _, wk_ask hw hR, List.replicate 32 0, by simp, false, ⟨esA, ⟨⟨cA, ha⟩, hA.kOk⟩, ?_⟩, fun _ => hno fun j j1 j2 hj e => ?_, fun e => by simp at e⟩
      · rw [lk_va, hkey, ← hka, hva, hAk]; rfl
      · have : j = k := askP_inj j j2 k k2 j1 k1 (hj.trans hka.symm)
        subst this; rw [hAk] at e; cases e
    | some y =>
      have hy := hL k y hAk
      refine F_walk_Walk_fits_ok (by rw [bi_len]; exact hv) ⟨wb, 0, rfl, _, wk_ask hw hR, bi y, by rw [bi_len]; exact hy, true, ⟨esA, ⟨⟨cA, ha⟩, hA.kOk⟩, ?_⟩, fun e => hno fun j j1 j2 hj e2 => ?_, fun e => ?_⟩
      · rw [lk_va, hkey, ← hka, hva, hAk]; rfl
      · have : j = k := askP_inj j j2 k k2 j1 k1 (hj.trans hka.symm)
        subst this; rw [hAk] at e2; cases e2
        simp at e
      · rw [bi_beq] at e
        have e : y = v := by simpa using e
        subst e
        refine ⟨wb, 0, rfl, _, wk_ask hw hR, ?_⟩
        unfold mdH
        refine ⟨fun e => (by cases e), fun r0 er => ?_⟩
        cases er
        refine ⟨esA, cA, ha, hA.kOk, wb, 0, rfl, ?_⟩
        have c1 : Chg [ra] [ra] h (h.upd ra (.map (dlM esA (.agg #[.int .i64 a0, .int .i64 a1])).toArray cA)) := Chg.upd _
        generalize hh1 : h.upd ra (.map (dlM esA (.agg #[.int .i64 a0, .int .i64 a1])).toArray cA) = h1 at c1 ⊢
        have ha1 : h1 ra = some (.map (dlM esA (.agg #[.int .i64 a0, .int .i64 a1])).toArray cA) := by rw [← hh1]; exact PH.upd_same _ _ _
        have hw1 := c1.keep hw (by simpa using d1)
        have hp1 := c1.keep hp (by simpa using Ne.symm d3)
        have hB1 := hB.chg c1 fun b hb hm => by rw [List.mem_singleton] at hm; subst hm; exact d5 hb
        have htn := hB.1
        refine ⟨_, _, _, wk_text hw1 hR, hB1.append (new := [t]) rfl rfl rfl (by omega) fun a2 n2 B2 h2 hb2 c2 _ => ⟨wb, 0, rfl, ?_⟩⟩
        have hw2 := c2.keep hw1 d4
        have ha2 := c2.keep ha1 d5
        have hp2 := c2.keep hp1 d6
        refine wk_setText hw2 hR fun h3 hw3 c3 => ?_
        have nin : ∀ {b : Nat} {o : Obj}, h1 b = some o → b ∉ Bt → b ∉ B2 := fun hb hn hm => by
          rcases c2.2 _ hm with h4 | h4
          · exact hn h4
          · rw [hb] at h4; cases h4
        have n1 := nin hw1 d4
        have n2' := nin ha1 d5
        have n3 := nin hp1 d6
        have ha3 := c3.keep ha2 (by simpa using Ne.symm d1)
        have hp3 := c3.keep hp2 (by simpa using Ne.symm d2)
        have hb3 := hb2.chg c3 fun b hb hm => by rw [List.mem_singleton] at hm; subst hm; exact n1 hb
        refine hyes k (wb :: ra :: rp :: B2) h3 k1 k2 hka hAk ⟨⟨tb, ra, rp, _, _, esP, cP, a2, tN + 1, n2, B2, rfl, d1, d2, d3, n1, n2', n3, hw3, ht, ha3, ?_, hp3, hP, hb3⟩, hR, fun j y hy => ?_⟩ ?_
        · rw [hkey, ← hka]; exact hA.del k1 k2
        · have hy : upF s.A k none j = some y := hy
          by_cases ej : j = k
          · subst ej; rw [upF_same] at hy; cases hy
          · rw [upF_ne _ _ ej] at hy; exact hL j y hy
        · have C1 : Chg (wb :: ra :: rp :: Bt) (wb :: ra :: rp :: Bt) h h1 := c1.sub (fun b hb => by simp at hb; subst hb; simp) fun b hb => .inr hb
          have C2 : Chg (wb :: ra :: rp :: Bt) (wb :: ra :: rp :: B2) h1 h2 := c2.right (C := [wb, ra, rp])
          have C3 : Chg (wb :: ra :: rp :: B2) (wb :: ra :: rp :: B2) h2 h3 := c3.sub (fun b hb => by simp at hb; subst hb; simp) fun b hb => .inr hb
          refine sp.chg ((C1.trans C2).trans C3) fun b hb => ?_
          simp only [List.mem_cons] at hb
          rcases hb with rfl | rfl | rfl | hb
          · exact ⟨_, hw3⟩
          · exact ⟨_, ha3⟩
          · exact ⟨_, hp3⟩
          · exact hb3.has b hb
  · have hout : va esA (keyV (a0, a1)) = none := hA.out fun k k1 k2 e => hk ⟨k, k1, k2, e⟩
    refine F_walk_Walk_fits_ok (by rw [bi_len]; exact hv) ⟨wb, 0, rfl, _, wk_ask hw hR, List.replicate 32 0, by simp, false, ⟨esA, ⟨⟨cA, ha⟩, hA.kOk⟩, ?_⟩, fun _ => hno fun j j1 j2 hj _ => hk ⟨j, j1, j2, hj⟩, fun e => by simp at e⟩
    rw [lk_va, hkey, hout]
theorem nwM {K : Nat → PH → Prop} (hk : ∀ b h', h b = none → h' b = some (.map #[] 0) → Chg [] [b] h h' → K b h') : newH h (.map #[] 0) K :=
  fun b hb => hk b _ hb (PH.upd_same ..) (Chg.new _ hb)
/-- a walk's first state, ahead of its first ask -/
def wNew0 (S : List PrR) (R : List UInt8) : WS := ⟨S, R, fun _ => none, fun _ => none, textsT S⟩
def NewJ (g : PH) (N : List Nat) (h : PH) (S : List PrR) (R : List UInt8) (st : Option Addr × Unit) (h' : PH) : Prop := ∃ wb N', st.1 = some ⟨wb, 0, none⟩ ∧ WalkAt g N' h' wb (wNew0 S R) ∧ Stp g N h g (N' ++ N) h' ∧ Dj N' N
theorem newFin {M Bt : List Nat} {h5 : PH} {tb ra rp : Nat} {tA : Option Addr} {tN tC : Nat} {S : List PrR} {R : List UInt8} (sp : Spl g N h) (c : Chg [] M h h5) (hM : ∀ b ∈ ra :: rp :: Bt, b ∈ M) (hR : R.length = 32) (ht : Tr tb g S) (ha : h5 ra = some (.map #[] 0)) (hp : h5 rp = some (.map #[] 0))
    (d3 : ra ≠ rp) (d5 : ra ∉ Bt) (d6 : rp ∉ Bt) (hB : Buf EncS 9 Bt h5 tA tN tC (textsT S)) :
    newH h5 (.cells (walkC tb R ra rp tA tN tC).toArray T_walk_Walk (0, 0)) fun bv h6 => NewJ g N h S R (some ⟨bv, 0, none⟩, ()) h6 := by
  refine nwL fun wb h6 hbn hw c6 => ?_
  have n1 : wb ≠ ra := fun e => by subst e; rw [ha] at hbn; cases hbn
  have n2 : wb ≠ rp := fun e => by subst e; rw [hp] at hbn; cases hbn
  have n4 : wb ∉ Bt := fun hm => by
    obtain ⟨o, ho⟩ := hB.has wb hm
    rw [ho] at hbn; cases hbn
  have ha6 := c6.sub0 _ _ ha
  have hp6 := c6.sub0 _ _ hp
  have hB6 := hB.sub c6.sub0
  have hH : Has (wb :: ra :: rp :: Bt) h6 := fun b hb => by
    simp only [List.mem_cons] at hb
    rcases hb with rfl | rfl | rfl | hb
    · exact ⟨_, hw⟩
    · exact ⟨_, ha6⟩
    · exact ⟨_, hp6⟩
    · exact hB6.has b hb
  have c7 : Chg [] (wb :: ra :: rp :: Bt) h h6 := ⟨fun b o _ e => c6.sub0 _ _ (c.sub0 _ _ e), fun b hb => by
    rcases List.mem_cons.1 hb with rfl | hb
    · cases e : h b with
      | none => exact .inr rfl
      | some o => rw [c.sub0 _ _ e] at hbn; cases hbn
    · exact c.2 b (hM b hb)⟩
  exact ⟨wb, wb :: ra :: rp :: Bt, rfl, ⟨⟨tb, ra, rp, [], 0, [], 0, tA, tN, tC, Bt, rfl, n1, n2, d3, n4, d5, d6, hw, ht, ha6, AskMapE.new, hp6, PartMapE.new, hB6⟩, hR, fun _ _ e => by cases e⟩, sp.own c7 hH, Dj.new sp.has c7⟩
end TL

namespace TL
open Go Go.Proofs
variable {g h : PH} {N : List Nat} {K : Value → PH → Prop} {wb : Nat} {s : WS}
theorem Chg.more {M M' : List Nat} {h h' h'' : PH} (c : Chg [] M h h') (c' : Chg [] M' h' h'') : Chg [] (M' ++ M) h h'' := ⟨fun b o _ e => c'.sub0 _ _ (c.sub0 _ _ e), fun b hb => by
  rcases List.mem_append.1 hb with hb | hb
  · rcases c'.2 b hb with h1 | h1
    · cases h1
    · cases e : h b with
      | none => exact .inr rfl
      | some o => rw [c.sub0 _ _ e] at h1; cases h1
  · exact c.2 b hb⟩
theorem notNew {B : List Nat} {h h' : PH} {b : Nat} {o : Obj} (c : Chg [] B h h') (e : h b = some o) : b ∉ B := fun hm => by
  rcases c.2 b hm with h1 | h1
  · cases h1
  · rw [e] at h1; cases h1
theorem ne_new {h : PH} {b b' : Nat} {o : Obj} (e : h b = some o) (n : h b' = none) : b ≠ b' := fun hh => by subst hh; rw [e] at n; cases n
theorem cWNew (sp : Spl g N h) {lA : Option Addr} {lC : Nat} {l : List PrR} (hl : SR EncPr g lA l) (hn : l.length ≤ 1000) (hs : ∀ x ∈ l, x.p.length ≤ 1000000) {R : List UInt8} (hR : R.length = 32)
    (hno : ¬ (mayB l = true ∧ l.length ≤ 48) → ∀ e : Int, (e = 1 ∨ e = 6) → ∀ g' h', Stp g N h g' N h' → (∀ b ∈ N, ∀ o, h b = some o → h' b = some o) → K (.tuple #[.pointer none, .int .i64 e]) h')
    (hyes : mayB l = true → l.length ≤ 48 → ∀ wb N' g' h', WalkAt g' N' h' wb (wNew l R) → Stp g N h g' (N' ++ N) h' → Dj N' N → K (.tuple #[.pointer (some ⟨wb, 0, none⟩), .int .i64 (0 : Int)]) h') :
    CallH Tryz.prog id_walk_New [.slice lA l.length lC, .agg (((bi R).map (Value.int .u8) ++ [])).toArray] K h := by
  refine F_walk_New_ok (by rw [bi_len]; exact hR) (sp.call (K := fun v g' => g.Sub g' ∧ ((mayB l = true ∧ l.length ≤ 48 ∧ ∃ b, Tr b g' l ∧ v = .tuple #[.pointer (some ⟨b, 0, none⟩), .int .i64 (0 : Int)]) ∨ (¬ (mayB l = true ∧ l.length ≤ 48) ∧ ∃ e : Int, (e = 1 ∨ e = 6) ∧ v = .tuple #[.pointer none, .int .i64 e])))
    (cOf3 hl hn hs (fun hok b h' ht _ c => ⟨c.sub0, .inl ⟨hok.1, hok.2, b, ht, rfl⟩⟩) fun hno e he _ => ⟨PH.Sub.rf _, .inr ⟨hno, e, he, rfl⟩⟩) ?_)
  rintro _ g1 h1 ⟨hgs, ⟨hm, h48, tb, ht, rfl⟩ | ⟨hnn, e, he, rfl⟩⟩ st
  · obtain ⟨st1, _⟩ := st hgs
    have sp1 := st1.spl
    have tr : ∀ {h' : PH}, h1.Sub h' → Tr tb h' l := fun hs => ht.sub (sp1.sub.tr hs)
    refine ⟨_, _, rfl, fun e => by simp at e, fun _ => ⟨NewJ g1 N h1 l R, ⟨nwM fun ra h3 n3 e3 c3 => ⟨nwM fun rp h4 n4 e4 c4 => cTexts (tr (c3.more c4).sub0) fun tA tC Bt h5 hb c5 => ⟨_, _, _, rfl, ?_⟩,
      cTexts (tr c3.sub0) fun tA tC Bt h4 hb c4 => ⟨_, _, _, rfl, nwM fun rp h5 n5 e5 c5 => ?_⟩⟩, nwM fun rp h3 n3 e3 c3 => ⟨nwM fun ra h4 n4 e4 c4 => cTexts (tr (c3.more c4).sub0) fun tA tC Bt h5 hb c5 => ⟨_, _, _, rfl, ?_⟩,
      cTexts (tr c3.sub0) fun tA tC Bt h4 hb c4 => ⟨_, _, _, rfl, nwM fun ra h5 n5 e5 c5 => ?_⟩⟩, cTexts (tr (PH.Sub.rf _)) fun tA tC Bt h3 hb c3 => ⟨_, _, _, rfl, nwM fun ra h4 n4 e4 c4 => nwM fun rp h5 n5 e5 c5 => ?_, nwM fun rp h4 n4 e4 c4 => nwM fun ra h5 n5 e5 c5 => ?_⟩⟩, ?_⟩⟩
    · exact newFin sp1 ((c3.more c4).more c5) (fun b hb => by simp only [List.mem_cons, List.mem_append, List.not_mem_nil, or_false] at hb ⊢; rcases hb with rfl | rfl | hb <;> simp [*]) hR ht (c5.sub0 _ _ (c4.sub0 _ _ e3)) (c5.sub0 _ _ e4) (ne_new e3 n4) (notNew c5 (c4.sub0 _ _ e3)) (notNew c5 e4) hb
    · exact newFin sp1 ((c3.more c4).more c5) (fun b hb => by simp only [List.mem_cons, List.mem_append, List.not_mem_nil, or_false] at hb ⊢; rcases hb with rfl | rfl | hb <;> simp [*]) hR ht (c5.sub0 _ _ (c4.sub0 _ _ e3)) e5 (ne_new (c4.sub0 _ _ e3) n5) (notNew c4 e3) (fun hm => by obtain ⟨o, ho⟩ := hb.has _ hm; rw [ho] at n5; cases n5) (hb.sub c5.sub0)
    · exact newFin sp1 ((c3.more c4).more c5) (fun b hb => by simp only [List.mem_cons, List.mem_append, List.not_mem_nil, or_false] at hb ⊢; rcases hb with rfl | rfl | hb <;> simp [*]) hR ht (c5.sub0 _ _ e4) (c5.sub0 _ _ (c4.sub0 _ _ e3)) (Ne.symm (ne_new e3 n4)) (notNew c5 e4) (notNew c5 (c4.sub0 _ _ e3)) hb
    · exact newFin sp1 ((c3.more c4).more c5) (fun b hb => by simp only [List.mem_cons, List.mem_append, List.not_mem_nil, or_false] at hb ⊢; rcases hb with rfl | rfl | hb <;> simp [*]) hR ht e5 (c5.sub0 _ _ (c4.sub0 _ _ e3)) (Ne.symm (ne_new (c4.sub0 _ _ e3) n5)) (fun hm => by obtain ⟨o, ho⟩ := hb.has _ hm; rw [ho] at n5; cases n5) (notNew c4 e3) (hb.sub c5.sub0)
    · exact newFin sp1 ((c3.more c4).more c5) (fun b hb => by simp only [List.mem_cons, List.mem_append, List.not_mem_nil, or_false] at hb ⊢; rcases hb with rfl | rfl | hb <;> simp [*]) hR ht (c5.sub0 _ _ e4) e5 (ne_new e4 n5) (fun hm => by obtain ⟨o, ho⟩ := hb.has _ hm; rw [ho] at n4; cases n4) (fun hm => by obtain ⟨o, ho⟩ := hb.has _ hm; rw [c4.sub0 _ _ ho] at n5; cases n5) ((hb.sub c4.sub0).sub c5.sub0)
    · exact newFin sp1 ((c3.more c4).more c5) (fun b hb => by simp only [List.mem_cons, List.mem_append, List.not_mem_nil, or_false] at hb ⊢; rcases hb with rfl | rfl | hb <;> simp [*]) hR ht e5 (c5.sub0 _ _ e4) (Ne.symm (ne_new e4 n5)) (fun hm => by obtain ⟨o, ho⟩ := hb.has _ hm; rw [c4.sub0 _ _ ho] at n5; cases n5) (fun hm => by obtain ⟨o, ho⟩ := hb.has _ hm; rw [ho] at n4; cases n4) ((hb.sub c4.sub0).sub c5.sub0)
    · rintro ⟨w, u⟩ h2 ⟨wb, N', hw, x, st2, d⟩
      dsimp only at hw
      subst hw
      refine cWAsk (lv := 0) (i := 0) x st2.spl.left (by decide) (by decide) hR fun h6 x6 st6 => ?_
      obtain ⟨sf, d6⟩ := st6.frame st2.spl d.symm
      exact hyes hm h48 wb N' g1 h6 x6 (st1.trans (st2.trans sf)) d
  · obtain ⟨st1, keep1⟩ := st hgs
    refine ⟨_, _, rfl, fun _ => hno hnn e he g1 h1 st1 keep1, fun e2 => ?_⟩
    rcases he with rfl | rfl <;> simp at e2
theorem cWTexts (x : WalkAt g N h wb s) (hn : s.T.length ≤ 1000000) (hk : ∀ a' c' B' h', Buf EncS 9 B' h' a' s.T.length c' s.T → Chg [] B' h h' → K (.slice a' s.T.length c') h') : CallH Tryz.prog id_walk_Walk_Texts [.pointer (some ⟨wb, 0, none⟩)] K h := by
  refine F_walk_Walk_Texts_ok (cWNone x ⟨_, rfl, fun e => (by cases e), fun _ => ?_⟩)
  obtain ⟨⟨tb, ra, rp, esA, cA, esP, cP, tA, tN, tC, Bt, rfl, d1, d2, d3, d4, d5, d6, hw, ht, ha, hA, hp, hP, hB⟩, hR, hL⟩ := x
  have hl := hB.1
  subst hl
  exact ⟨wb, 0, rfl, _, _, _, wk_text hw hR, cCloneStr hB.sr hn fun a' c' B' h' hb' hc' => ⟨_, _, _, rfl, hk a' c' B' h' hb' hc'⟩⟩
theorem cWRoot (x : WalkAt g N h wb s) (hk : K (.agg (((bi s.R).map (Value.int .u8) ++ [])).toArray) h) : CallH Tryz.prog id_walk_Walk_Root [.pointer (some ⟨wb, 0, none⟩)] K h := by
  refine F_walk_Walk_Root_ok (cWNone x ⟨_, rfl, fun e => (by cases e), fun _ => ?_⟩)
  obtain ⟨⟨tb, ra, rp, esA, cA, esP, cP, tA, tN, tC, Bt, rfl, d1, d2, d3, d4, d5, d6, hw, ht, ha, hA, hp, hP, hB⟩, hR, hL⟩ := x
  exact ⟨wb, 0, rfl, bi s.R, by rw [bi_len]; exact hR, wk_root hw hR, hk⟩
end TL

namespace TL
open Go Go.Proofs
variable {g h : PH} {N : List Nat} {K : Value → PH → Prop} {wb : Nat} {s : WS}
theorem askP_16 : ∀ k : Nat, k < 32 → 1 ≤ k → (k < 16 ↔ (askP k).1 < 4) := by decide +kernel
theorem askP_nn : ∀ k : Nat, k < 32 → 1 ≤ k → 0 ≤ (askP k).1 ∧ (askP k).1 ≤ 4 ∧ 0 ≤ (askP k).2 ∧ (askP k).2 < 16 := by decide +kernel
theorem askP_kids : ∀ k : Nat, k < 16 → 1 ≤ k → k.log2 + 1 ≤ 4 ∧ 2 * (k - 2 ^ k.log2) + 1 < 2 ^ (k.log2 + 1) ∧ 2 ^ (k.log2 + 1) + 2 * (k - 2 ^ k.log2) = 2 * k := by decide +kernel
theorem cWNode (x : WalkAt g N h wb s) (sp : Spl g N h) {lv i : Int} {a b : List UInt8} (ha : a.length = 32) (hb : b.length = 32) (hT : s.T.length ≤ 100000)
    (hno : (∀ k, 1 ≤ k → k < 16 → askP k = (lv, i) → s.A k ≠ some (shaN (innT a b))) → ∀ h', WalkAt g N h' wb s → Stp g N h g N h' → K (.bool false) h')
    (hyes : ∀ k N' h', 1 ≤ k → k < 16 → askP k = (lv, i) → s.A k = some (shaN (innT a b)) → WalkAt g N' h' wb (wIn s k a b) → Stp g N h g N' h' → K (.bool true) h') :
    CallH Tryz.prog id_walk_Walk_Node [.pointer (some ⟨wb, 0, none⟩), .int .i64 lv, .int .i64 i, .agg (((bi a).map (Value.int .u8) ++ [])).toArray, .agg (((bi b).map (Value.int .u8) ++ [])).toArray] K h := by
  refine F_walk_Walk_Node_ok (by rw [bi_len, ha]) (by rw [bi_len, hb]) (nwL fun b1 h1 n1 hb1 c1 => nwL fun b2 h2 n2 hb2 c2 => ?_)
  have s2 : h.Sub h2 := c1.sub0.tr c2.sub0
  have hb1 := c2.sub0 _ _ hb1
  have nb1 : b1 ∉ N := fun hm => by obtain ⟨o, ho⟩ := sp.has _ hm; rw [ho] at n1; cases n1
  have nb2 : b2 ∉ N := fun hm => by obtain ⟨o, ho⟩ := sp.has _ hm; rw [c1.sub0 _ _ ho] at n2; cases n2
  have st2 := sp.grow s2
  have x2 : WalkAt g N h2 wb s := x.keep (PH.Sub.rf _) fun q _ o e => s2 q o e
  refine cWNone x2 ⟨_, rfl, fun e => hno (fun k k1 k2 hk _ => ?_) h2 x2 st2, fun e => ?_⟩
  · have := askP_nn k (by omega) k1
    have h16 := (askP_16 k (by omega) k1).1 k2
    rw [hk] at this h16
    simp only [Bool.false_or, Bool.or_eq_true, decide_eq_true_eq] at e
    dsimp only at this h16
    omega
  · have str1 : ∀ {h' : PH}, h2.Sub h' → strH h' (slA (some ⟨b1, 0, none⟩ : Option Addr) 1 (0 : Int) ((32 : Nat) : Int)) (((32 : Nat) : Int).toNat - (0 : Int).toNat) (mk a) := fun hs => by
      have := (sr_bi (hs _ _ hb1)).str
      rw [ha] at this; exact this
    have str2 : ∀ {h' : PH}, h2.Sub h' → strH h' (slA (some ⟨b2, 0, none⟩ : Option Addr) 1 (0 : Int) ((32 : Nat) : Int)) (((32 : Nat) : Int).toNat - (0 : Int).toNat) (mk b) := fun hs => by
      have := (sr_bi (hs _ _ hb2)).str
      rw [hb] at this; exact this
    have rd1 : ∀ {h' : PH}, h' b1 = h2 b1 → h'.rds b1 0 32 = some ((bi a).map (Value.int .u8) ++ []) := fun he => by
      rw [hb1] at he
      rw [List.append_nil] at he ⊢
      exact rds_mid' (pre := []) (post := []) he (by simp) rfl (by rw [List.length_map, bi_len, ha])
    have rd2 : ∀ {h' : PH}, h' b2 = h2 b2 → h'.rds b2 0 32 = some ((bi b).map (Value.int .u8) ++ []) := fun he => by
      rw [hb2] at he
      rw [List.append_nil] at he ⊢
      exact rds_mid' (pre := []) (post := []) he (by simp) rfl (by rw [List.length_map, bi_len, hb])
    refine ⟨bi a, by rw [bi_len, ha], rd1 rfl, bi b, by rw [bi_len, hb], rd2 rfl, by decide, mk a, str1 (PH.Sub.rf _), ?_, by decide, mk b, str2 (PH.Sub.rf _), ?_, cInner ha hb fun h4 s4 => ⟨bi (shaN (innT a b)), by rw [bi_len, shaN_len], rfl, str2 s4, str1 s4, ?_⟩⟩
    · have : (mk a).size = 32 := by rw [size_mk, ha]
      rw [this]; decide
    · rw [show (⟨#[78]⟩ : ByteArray) = mk [78] from rfl, mk_append, size_mk, size_mk, List.length_append, ha, hb]; decide
    · rw [show (⟨#[78]⟩ : ByteArray) = mk [78] from rfl, mk_append, mk_append]
      have st4 := st2.trans (st2.spl.grow s4)
      have x4 : WalkAt g N h4 wb s := x2.keep (PH.Sub.rf _) fun q _ o e => s4 q o e
      refine cWFits (t := innT a b) x4 st4.spl (shaN_len _) hT (fun hn => ⟨_, rfl, fun _ => hno (fun k k1 k2 hk => hn k k1 (by omega) hk) h4 x4 st4, fun e => by simp at e⟩) fun k N5 h5 k1 k2 hk hA x5 st5 => ⟨_, rfl, fun e => by simp at e, fun _ => ?_⟩
      have k16 : k < 16 := (askP_16 k k2 k1).2 (by
        rw [hk]
        simp only [Bool.false_or, Bool.or_eq_false_iff, decide_eq_false_iff_not] at e
        dsimp only; omega)
      obtain ⟨q1, q2, q3⟩ := askP_kids k k16 k1
      have hlv : lv = ((k.log2 : Nat) : Int) := (congrArg Prod.fst hk).symm
      have hi : i = ((k - 2 ^ k.log2 : Nat) : Int) := (congrArg Prod.snd hk).symm
      have w1 : IntKind.wrap .i64 (lv + 1) = ((k.log2 + 1 : Nat) : Int) := by rw [hlv, wrap64] <;> omega
      have w2 : IntKind.wrap .i64 ((2 : Int) * i) = ((2 * (k - 2 ^ k.log2) : Nat) : Int) := by rw [hi, wrap64] <;> omega
      have w3 : IntKind.wrap .i64 (((2 * (k - 2 ^ k.log2) : Nat) : Int) + 1) = ((2 * (k - 2 ^ k.log2) + 1 : Nat) : Int) := by rw [wrap64] <;> omega
      rw [w1, w2, w3]
      have e1 : h5 b1 = h2 b1 := by
        have := st5.chg.keep (s4 _ _ hb1) nb1
        rw [hb1]; exact this
      have e2 : h5 b2 = h2 b2 := by
        have := st5.chg.keep (s4 _ _ hb2) nb2
        rw [hb2]; exact this
      have n25 : b2 ∉ N5 := fun hm => by
        rcases st5.chg.2 b2 hm with h6 | h6
        · exact nb2 h6
        · rw [s4 _ _ hb2] at h6; cases h6
      refine ⟨bi a, by rw [bi_len, ha], rd1 e1, cWAsk x5 st5.spl q1 (by omega) ha fun h6 x6 st6 => ⟨bi b, by rw [bi_len, hb], rd2 ?_, ?_⟩⟩
      · have := st6.chg.keep (o := .cells ((bi b).map (Value.int .u8) ++ []).toArray T_api_Hash (0, 0)) (by rw [e2]; exact hb2) n25
        rw [this, hb2]
      · refine cWAsk x6 st6.spl q1 q2 hb fun h7 x7 st7 => ?_
        have r1 : 2 ^ (k.log2 + 1) + 2 * (k - 2 ^ k.log2) = 2 * k := q3
        have r2 : 2 ^ (k.log2 + 1) + (2 * (k - 2 ^ k.log2) + 1) = 2 * k + 1 := by omega
        rw [r1, r2] at x7
        exact hyes k N5 h7 k1 k16 hk hA x7 (st4.trans (st5.trans (st6.trans st7)))
end TL

namespace TL
open Go Go.Proofs
variable {g h : PH} {N : List Nat} {K : Value → PH → Prop} {wb : Nat} {s : WS}
theorem cPageOut {lA : Option Addr} {lN lC : Nat} {i : Int} (hi : ¬ (0 ≤ i ∧ i < 16)) (hk : K (.tuple #[.string (⟨#[]⟩ : ByteArray), .int .i64 (1 : Int)]) h) : CallH Tryz.prog id_bucket_Page [.int .i64 i, .slice lA lN lC] K h := by
  have hf : (decide (i ≥ (0 : Int)) && decide (i < (16 : Int))) = false := by
    rw [Bool.eq_false_iff]
    intro e
    simp only [Bool.and_eq_true, decide_eq_true_eq] at e
    omega
  refine F_bucket_Page_ok ⟨fun _ _ => False, F_bucket_bucket_ok ⟨_, rfl, fun e => ?_, fun _ => hk⟩, fun _ _ h => h.elim⟩
  rw [hf] at e; cases e
theorem pgOk_iff {i : Nat} {l : List PrR} : (mayB l = true ∧ (partB l i).length = l.length ∧ l.length ≤ 48) ↔ PgOk i l := by
  refine ⟨fun ⟨h1, h2, h3⟩ => ⟨h1, fun x hx => ?_, h3⟩, fun ⟨h1, h2, h3⟩ => ⟨h1, ?_, h3⟩⟩
  · have h4 : ∀ y ∈ l, (bkt y.p == i) = true := List.length_filter_eq_length_iff.1 h2
    simpa using h4 x hx
  · exact List.length_filter_eq_length_iff.2 fun y hy => by simp [h2 y hy]
theorem cWPage (x : WalkAt g N h wb s) (sp : Spl g N h) {i : Int} {lA : Option Addr} {lC : Nat} {l : List PrR} (hl : SR EncPr g lA l) (hn : l.length ≤ 1000) (hs : ∀ x ∈ l, x.p.length ≤ 1000000) (hT : s.T.length ≤ 100000)
    (hno : (∀ k : Nat, k < 16 → i = k → PgOk k l → s.A (16 + k) ≠ some (shaN (76 :: pageL l))) → ∀ h', WalkAt g N h' wb s → Stp g N h g N h' → K (.bool false) h')
    (hyes : ∀ (k : Nat) g' N' h', k < 16 → i = k → PgOk k l → s.A (16 + k) = some (shaN (76 :: pageL l)) → WalkAt g' N' h' wb (wPg s k l) → Stp g N h g' N' h' → K (.bool true) h') :
    CallH Tryz.prog id_walk_Walk_Page [.pointer (some ⟨wb, 0, none⟩), .int .i64 i, .slice lA l.length lC] K h := by
  refine F_walk_Walk_Page_ok (cWNone x ⟨_, rfl, fun e => (by cases e), fun _ => ?_⟩)
  by_cases hi : ¬ (0 ≤ i ∧ i < 16)
  · exact cPageOut hi ⟨_, _, rfl, fun e => by simp at e, fun _ => hno (fun k hk e _ => absurd (show 0 ≤ i ∧ i < 16 by omega) hi) h x (Stp.refl sp)⟩
  have hi : 0 ≤ i ∧ i < 16 := Classical.not_not.1 hi
  obtain ⟨k, rfl⟩ : ∃ k : Nat, i = k := ⟨i.toNat, by omega⟩
  have hk : k < 16 := by omega
  refine cPage hk (hl.sub sp.sub) (by omega) hs fun h2 s2 => ⟨_, _, rfl, fun e => ?_, fun e => ?_⟩
  · have hok : PgOk k l := by
      refine pgOk_iff.1 ?_
      unfold pageV at e
      split at e
      · rename_i hh
        split at e
        · rename_i h48; exact ⟨hh.1, hh.2, h48⟩
        · simp at e
      · simp at e
    have hpv := page_ok hok
    rw [hpv]
    dsimp only
    have hpl := page_len hok
    have st2 := sp.grow s2
    have x2 : WalkAt g N h2 wb s := x.keep (PH.Sub.rf _) fun q _ o e => s2 q o e
    refine cLeaf (by omega) fun h3 s3 => ⟨bi (shaN (76 :: pageL l)), by rw [bi_len, shaN_len], rfl, ?_, ?_⟩
    · rw [size_mk]; show ((1 + (pageL l).length : Nat) : Int) ≤ _; omega
    rw [show (⟨#[76]⟩ : ByteArray) = mk [76] from rfl, mk_append]
    have st3 := st2.trans (st2.spl.grow s3)
    have x3 : WalkAt g N h3 wb s := x2.keep (PH.Sub.rf _) fun q _ o e => s3 q o e
    have hap : askP (2 ^ 4 + k) = (4, (k : Int)) := askP_at 4 (by decide) k hk hk
    refine cWFits (t := 76 :: pageL l) x3 st3.spl (shaN_len _) hT (fun hn => ⟨_, rfl, fun _ => hno (fun j _ ej _ => ?_) h3 x3 st3, fun e => by simp at e⟩) fun j N5 h5 j1 j2 hj hA x5 st5 => ⟨_, rfl, fun e => by simp at e, fun _ => ?_⟩
    · have : j = k := by omega
      subst this
      exact hn (16 + j) (by omega) (by omega) hap
    have hjk : j = 16 + k := askP_inj j j2 (2 ^ 4 + k) (show 16 + k < 32 by omega) j1 (show 1 ≤ 16 + k by omega) (hj.trans hap.symm)
    subst hjk
    obtain ⟨⟨tb, ra, rp, esA, cA, esP, cP, tA, tN, tC, Bt, rfl, d1, d2, d3, d4, d5, d6, hw, ht, ha, hA5, hp, hP, hB⟩, hR, hL⟩ := x5
    refine ⟨wb, 0, rfl, _, wk_part hw hR, cClonePr (hl.sub st5.spl.sub) hn fun a6 c6 B6 h6 hb6 cc6 => ⟨_, _, _, rfl, wk_part (cc6.sub0 _ _ hw) hR, rp, esP, cP, rfl, cc6.sub0 _ _ hp, hP.key, ?_⟩⟩
    have st6 := st5.spl.new cc6
    have hsr : SR EncPr (PH.plus g h6 B6) a6 l := (hb6.keep fun b hb o e => by rw [plus_in hb]; exact e).sr
    have hw6 := cc6.sub0 _ _ hw
    have ha6 := cc6.sub0 _ _ ha
    have hB6 := hB.sub cc6.sub0
    have cc : Chg [rp] [rp] h6 (h6.upd rp (.map (upM esP (.int .i64 (k : Int)) (.slice a6 l.length c6) cP).1.toArray (upM esP (.int .i64 (k : Int)) (.slice a6 l.length c6) cP).2)) := Chg.upd _
    have hw7 := cc.keep hw6 (by simpa using d2)
    have ha7 := cc.keep ha6 (by simpa using d3)
    have hB7 := hB6.chg cc fun b hb hm => by rw [List.mem_singleton] at hm; subst hm; exact d6 hb
    have st7 := st6.spl.chg (cc.sub (C := wb :: ra :: rp :: Bt) (fun b hb => by simp at hb; subst hb; simp) fun b hb => .inr hb) (fun b hb => by
      simp only [List.mem_cons] at hb
      rcases hb with rfl | rfl | rfl | hb
      · exact ⟨_, hw7⟩
      · exact ⟨_, ha7⟩
      · exact ⟨_, PH.upd_same _ _ _⟩
      · exact hB7.has b hb)
    exact hyes k _ (wb :: ra :: rp :: Bt) _ hk rfl hok hA ⟨⟨tb, ra, rp, esA, cA, _, _, tA, tN, tC, Bt, rfl, d1, d2, d3, d4, d5, d6, hw7, ht.sub st6.gs, ha7, hA5, PH.upd_same _ _ _, (hP.sub st6.gs).put hk hsr, hB7⟩, hR, hL⟩ (st3.trans (st5.trans (st6.trans st7)))
  · refine hno (fun j _ ej hj => ?_) h2 (x.keep (PH.Sub.rf _) fun q _ o e => s2 q o e) (sp.grow s2)
    have : j = k := by omega
    subst this
    rw [page_ok hj] at e
    simp at e
end TL

namespace TL
open Go Go.Proofs
variable {g h : PH} {N : List Nat} {K : Value → PH → Prop} {wb : Nat} {s : WS}
theorem ltA_ext : ∀ {l m : List (Int × Int)}, l.Pairwise ltA → m.Pairwise ltA → (∀ x, x ∈ l ↔ x ∈ m) → l = m
  | [], [], _, _, _ => rfl
  | [], b :: m, _, _, h => by have := (h b).2 List.mem_cons_self; cases this
  | a :: l, [], _, _, h => by have := (h a).1 List.mem_cons_self; cases this
  | a :: l, b :: m, h1, h2, h => by
    obtain ⟨h1, h1'⟩ := List.pairwise_cons.1 h1
    obtain ⟨h2, h2'⟩ := List.pairwise_cons.1 h2
    have irr : ∀ x : Int × Int, ¬ ltA x x := fun x => by unfold ltA; omega
    have e : a = b := by
      rcases List.mem_cons.1 ((h a).1 List.mem_cons_self) with e | e
      · exact e
      · rcases List.mem_cons.1 ((h b).2 List.mem_cons_self) with e2 | e2
        · exact e2.symm
        · have q1 := h2 a e
          have q2 := h1 b e2
          unfold ltA at q1 q2; omega
    subst e
    rw [ltA_ext h1' h2' fun x => ⟨fun hx => ?_, fun hx => ?_⟩]
    · rcases List.mem_cons.1 ((h x).1 (List.mem_cons_of_mem _ hx)) with e | e
      · subst e; exact absurd (h1 x hx) (irr x)
      · exact e
    · rcases List.mem_cons.1 ((h x).2 (List.mem_cons_of_mem _ hx)) with e | e
      · subst e; exact absurd (h2 x hx) (irr x)
      · exact e
theorem wList_mem {A : Nat → Option (List UInt8)} {k : Nat} : k ∈ wList A ↔ k < 32 ∧ (A k).isSome = true := by
  unfold wList
  rw [List.mem_filter, List.mem_range]
theorem wList_sorted {A : Nat → Option (List UInt8)} (h0 : A 0 = none) : ((wList A).map askP).Pairwise ltA := by
  rw [List.pairwise_map]
  refine List.Pairwise.imp_of_mem (R := fun a b => a < b) (fun {a b} ha hb hab => ?_) (List.pairwise_lt_range.sublist List.filter_sublist)
  obtain ⟨a1, a2⟩ := wList_mem.1 ha
  obtain ⟨b1, b2⟩ := wList_mem.1 hb
  have n0 : ∀ k : Nat, (A k).isSome = true → 1 ≤ k := fun k hk => by
    rcases Nat.eq_zero_or_pos k with rfl | h
    · rw [h0] at hk; cases hk
    · exact h
  exact (askP_lt a a1 b b1 (n0 a a2) (n0 b b2)).2 hab
theorem asked_row {es : List MapEntry} {c : Nat} {A : Nat → Option (List UInt8)} (x : AskMapE es c A) (h0 : A 0 = none) {l : List (Int × Int)} (hp : (l.map keyV).Perm (es.map (·.key))) (hs : l.Pairwise fun a b => ¬ ltA b a) : l = (wList A).map askP := by
  have hnd : (es.map (·.key)).Nodup := by
    refine List.pairwise_map.2 (List.Pairwise.imp_of_mem (fun {a b} ha hb hab e => ?_) x.nd)
    rw [(keq_eq (x.kOk a ha) (x.kOk b hb)).2 e] at hab; cases hab
  have hln : l.Nodup := by
    have := hp.nodup_iff.2 hnd
    exact List.Pairwise.imp (fun h e => h (by rw [e])) (List.pairwise_map.1 this)
  have hmem : ∀ p : Int × Int, p ∈ l ↔ keyV p ∈ es.map (·.key) := fun p => by
    rw [← hp.mem_iff, List.mem_map]
    exact ⟨fun h => ⟨p, h, rfl⟩, fun ⟨q, hq, e⟩ => keyV_inj e ▸ hq⟩
  refine ltA_ext ?_ (wList_sorted h0) fun p => ?_
  · refine List.Pairwise.imp (fun {a b} h => ?_) (hs.and hln)
    obtain ⟨h1, h2⟩ := h
    have : ¬ (a.1 = b.1 ∧ a.2 = b.2) := fun e => h2 (Prod.ext e.1 e.2)
    unfold ltA at *; omega
  · rw [hmem p, List.mem_map]
    refine ⟨fun ⟨e, he, ek⟩ => ?_, fun hk => ?_⟩
    · obtain ⟨k, k1, k2, hk⟩ := x.key e he
      have hpk : p = askP k := keyV_inj (ek.symm.trans hk)
      subst hpk
      refine List.mem_map.2 ⟨k, wList_mem.2 ⟨k2, ?_⟩, rfl⟩
      cases hA : A k with
      | some y => rfl
      | none =>
        have hv := x.at_ k k1 k2
        rw [hA] at hv
        have := va_none.1 hv e he
        rw [hk, keyV_keq] at this
        simp at this
    · obtain ⟨k, hkm, rfl⟩ := List.mem_map.1 hk
      obtain ⟨k2, hs⟩ := wList_mem.1 hkm
      have k1 : 1 ≤ k := by
        rcases Nat.eq_zero_or_pos k with rfl | h
        · rw [h0] at hs; cases hs
        · exact h
      obtain ⟨y, hy⟩ := Option.isSome_iff_exists.1 hs
      have hv := x.at_ k k1 k2
      rw [hy] at hv
      have hnn : ¬ va es (keyV (askP k)) = none := by rw [hv]; simp
      rw [va_none] at hnn
      obtain ⟨e, he⟩ := Classical.not_forall.1 hnn
      obtain ⟨he, hq⟩ := Classical.not_imp.1 he
      have hq : keq (keyV (askP k)) e.key = true := by simpa using hq
      exact ⟨e, he, ((keq_eq (keyV_ok _) (x.kOk e he)).1 hq).symm⟩
theorem AskMapE.len {es : List MapEntry} {c : Nat} {A : Nat → Option (List UInt8)} (x : AskMapE es c A) : es.length ≤ 32 := by
  have hnd : (es.map (·.key)).Nodup := by
    refine List.pairwise_map.2 (List.Pairwise.imp_of_mem (fun {a b} ha hb hab e => ?_) x.nd)
    rw [(keq_eq (x.kOk a ha) (x.kOk b hb)).2 e] at hab; cases hab
  have := List.Nodup.length_le_of_subset (l₂ := (List.range 32).map fun k => keyV (askP k)) hnd fun v hv => by
    obtain ⟨e, he, rfl⟩ := List.mem_map.1 hv
    obtain ⟨k, _, k2, hk⟩ := x.key e he
    exact List.mem_map.2 ⟨k, List.mem_range.2 k2, hk.symm⟩
  simpa using this
theorem take_min_len {α : Type} (l : List α) (n : Nat) : l.take (min n l.length) = l.take n := by
  rcases Nat.le_total n l.length with h | h
  · rw [Nat.min_eq_left h]
  · rw [Nat.min_eq_right h, List.take_length, List.take_of_length_le h]
theorem cWWant (x : WalkAt g N h wb s) (h0 : s.A 0 = none) {n : Int} (hk : ∀ a' c' h', h.Sub h' → SR EncAsk h' a' (((wList s.A).map askP).take n.toNat) → K (.slice a' (((wList s.A).map askP).take n.toNat).length c') h') :
    CallH Tryz.prog id_walk_Walk_Want [.pointer (some ⟨wb, 0, none⟩), .int .i64 n] K h := by
  refine F_walk_Walk_Want_ok (cWNone x ⟨_, rfl, fun e => ?_, fun e => ?_⟩)
  · have e : n < 1 := by simpa using e
    have hn : n.toNat = 0 := by omega
    have := hk none 0 h (PH.Sub.rf _) (by rw [hn]; exact .inl rfl)
    rw [hn] at this; exact this
  · have e : ¬ n < 1 := by simpa using e
    obtain ⟨⟨tb, ra, rp, esA, cA, esP, cP, tA, tN, tC, Bt, rfl, d1, d2, d3, d4, d5, d6, hw, ht, ha, hA, hp, hP, hB⟩, hR, hL⟩ := x
    have hlen : esA.length ≤ 1000 := by have := hA.len; omega
    refine ⟨wb, 0, rfl, _, wk_ask hw hR, F_maps_Keys_map_walk_Ask_api_Hash_walk_Ask_api_Hash_ok (nwL fun bm h1 _ hbm c1 => ⟨_, rfl, rfl, cSortedA hbm (c1.sub0 _ _ ha) (fun e he => ?_) hA.old hA.bn hlen fun l a' c' B' h2 hp2 hs2 hB2 cc2 => ⟨_, _, _, rfl, ?_, ?_⟩⟩)⟩
    · obtain ⟨k, _, _, hk⟩ := hA.key e he
      exact ⟨_, hk⟩
    · have := hB2.le
      unfold minV
      split <;> omega
    · have hl := asked_row hA h0 hp2 hs2
      have hle := hB2.le
      rw [← hl] at hk
      have e1 : (minV n ((l.length : Nat) : Int)).toNat = min n.toNat l.length := by unfold minV; split <;> omega
      have e2 : (minV n ((l.length : Nat) : Int)).toNat - (0 : Int).toNat = (l.take n.toNat).length := by rw [e1, List.length_take]; exact Nat.sub_zero _
      rw [e2]
      refine hk _ _ h2 (c1.sub0.tr cc2.sub0) ?_
      have := hB2.sr.slice (L := 0) (lo := 0) (hi := min n.toNat l.length) (mx := (c' : Int)) rfl (Nat.min_le_right _ _) (by omega)
      rw [List.drop_zero, Nat.sub_zero, take_min_len] at this
      exact this
end TL

namespace TL
open Go Go.Proofs Go.Shelf Go.RowKit Go.Lib Go.Sort
set_option maxHeartbeats 1000000 in
theorem walkLess122 (a0 a1 b0 b1 : ByteArray) (w : World) :
    Calls Tryz.prog 122 #[.agg #[.string a0, .string a1], .agg #[.string b0, .string b1]] w fun e w' => e = .returned (.int .i64 (Lib.compareBytes a0.data.toList b0.data.toList)) ∧ ∃ q os', w' = grow (w.drewN q) os' := by
  have hcon := fun W => walkCompare a0 b0 W
  generalize Lib.compareBytes a0.data.toList b0.data.toList = r at hcon ⊢
  go_enter Tryz.func122, Tryz.ntmps122
  go_wp2_with (go_at_call 123; refine (hcon _).mono ?_; rintro e w' ⟨rfl, rfl⟩)
  go_ret
  exact ⟨rfl, 0, _, by rw [alloc_eq_grow, alloc_eq_grow, grow_grow]; rfl⟩
theorem cSortW {B : List Nat} {h : PH} {K : Value → PH → Prop} {a : Option Addr} {n c : Nat} {l : List PrR} {T : TypeId} (x : Buf EncPr T B h a n c l) (hn : l.length ≤ 1000000)
    (hk : ∀ l' h', l'.Perm l → (l'.Pairwise fun a b => ¬ b.p < a.p) → Buf EncPr T B h' a n c l' → Chg B B h h' → K (.tuple #[]) h') : CallH Tryz.prog 121 [.slice a n c, .func (.func 122) #[] #[]] K h :=
  cSortPr Tryz.srtA Tryz.isAgg101 Tryz.sizeOf101 122 (enters_of Tryz.func122 (by kernel_rfl) rfl) walkLess122 x hn hk
variable {g h : PH} {N : List Nat} {K : Value → PH → Prop} {wb : Nat} {s : WS}
/-- all parts of a walk -/
def wDone (s : WS) : List PrR := (List.range 16).flatMap (wPart s)
theorem part_le {s : WS} (hS : s.S.length ≤ 48) (hQ : ∀ i l, s.Q i = some l → l.length ≤ 48) (i : Nat) : (wPart s i).length ≤ 48 := by
  unfold wPart
  cases e : s.Q i with
  | none => exact Nat.le_trans (List.length_filter_le _ _) hS
  | some l => exact hQ i l e
theorem parts_le {s : WS} (hS : s.S.length ≤ 48) (hQ : ∀ i l, s.Q i = some l → l.length ≤ 48) (n : Nat) : ((List.range n).flatMap (wPart s)).length ≤ 48 * n := by
  induction n with
  | zero => simp
  | succ n ih =>
    rw [List.range_succ, List.flatMap_append, List.length_append, List.flatMap_cons, List.flatMap_nil, List.append_nil]
    have := part_le hS hQ n
    omega
theorem parts_succ (s : WS) (n : Nat) : (List.range (n + 1)).flatMap (wPart s) = (List.range n).flatMap (wPart s) ++ wPart s n := by
  rw [List.range_succ, List.flatMap_append, List.flatMap_cons, List.flatMap_nil, List.append_nil]
theorem cWDone (x : WalkAt g N h wb s) (sp : Spl g N h) (hQ : ∀ i l, s.Q i = some l → l.length ≤ 48)
    (hno : (∃ k, 1 ≤ k ∧ k < 32 ∧ (s.A k).isSome = true) ∨ ((∀ k, 1 ≤ k → k < 32 → s.A k = none) ∧ 48 < (wDone s).length) → ∀ h', h.Sub h' → K (.tuple #[.slice none 0 0, .bool false]) h')
    (hyes : (∀ k, 1 ≤ k → k < 32 → s.A k = none) → (wDone s).length ≤ 48 → ∀ l a' c' B' h', l.Perm (wDone s) → (l.Pairwise fun a b => ¬ b.p < a.p) → Buf EncPr T_api_Pair B' h' a' l.length c' l → Chg [] B' h h' → K (.tuple #[.slice a' l.length c', .bool true]) h') :
    CallH Tryz.prog id_walk_Walk_Done [.pointer (some ⟨wb, 0, none⟩)] K h := by
  have hxx := x
  obtain ⟨⟨tb, ra, rp, esA, cA, esP, cP, tA, tN, tC, Bt, rfl, d1, d2, d3, d4, d5, d6, hw, ht, ha, hA, hp, hP, hB⟩, hR, hL⟩ := x
  have hS : s.S.length ≤ 48 := ht.le
  refine F_walk_Walk_Done_ok ⟨fun _ h' => h' = h ∧ ∀ k, 1 ≤ k → k < 32 → s.A k = none, cWNone hxx ⟨_, rfl, wb, 0, fun _ => rfl, some ra, fun _ => wk_ask hw hR, fun _ => ⟨esA.length, ⟨_, cA, ha, by simp⟩, fun e => ?_, fun e => ⟨rfl, fun k k1 k2 => ?_⟩⟩, fun e => by cases e⟩, ?_⟩
  · have e : 0 < esA.length := by have := of_decide_eq_true e; omega
    refine hno (.inl ?_) h (PH.Sub.rf _)
    have hm := List.getElem_mem e
    obtain ⟨k, k1, k2, hk⟩ := hA.key _ hm
    refine ⟨k, k1, k2, ?_⟩
    cases hAk : s.A k with
    | some y => rfl
    | none =>
      have hv := hA.at_ k k1 k2
      rw [hAk] at hv
      have := va_none.1 hv _ hm
      rw [hk, keyV_keq] at this
      simp at this
  · have e : esA = [] := List.length_eq_zero_iff.1 (by have := of_decide_eq_false e; omega)
    have hv := hA.at_ k k1 k2
    rw [e] at hv
    cases hAk : s.A k with
    | none => rfl
    | some y => rw [hAk] at hv; cases hv
  rintro _ h1 ⟨rfl, hdone⟩
  refine LoopP.ind (fun (z : (Option Addr × Nat × Nat) × Int × Unit) h' => ∃ (i : Nat) (B' : List Nat), z.2.1 = i ∧ i ≤ 16 ∧ Buf EncPr T_api_Pair B' h' z.1.1 z.1.2.1 z.1.2.2 ((List.range i).flatMap (wPart s)) ∧ Chg [] B' h1 h') (fun z _ => (16 - z.2.1).toNat) ?_
    ⟨0, [], rfl, Nat.zero_le _, Buf.nil _ _ _ _, Chg.refl _ _⟩
  rintro ⟨⟨lA, lN, lC⟩, zi, u⟩ h2 ⟨i, B2, hzi, hi, hb, hc⟩
  dsimp only at hzi hb
  subst hzi
  dsimp only
  have hw2 := hc.sub0 _ _ hw
  have hlen := parts_le hS hQ i
  have hlN := hb.1
  refine ⟨fun e => ?_, fun e => ?_⟩
  · have e : i < 16 := by have := of_decide_eq_true e; omega
    have hwi : IntKind.wrap .i64 (((i : Nat) : Int) + (1 : Int)) = ((i + 1 : Nat) : Int) := by rw [wrap64] <;> omega
    have hpl := part_le hS hQ i
    rw [hwi]
    cases hq : s.Q i with
    | none =>
      refine ⟨wb, 0, rfl, _, wk_part hw2 hR, none, 0, 0, false, ⟨esP, ⟨⟨cP, hc.sub0 _ _ hp⟩, hP.key⟩, by rw [lk_va, hP.no i e hq]⟩, fun _ => ?_, fun e2 => by simp at e2⟩
      refine ⟨wb, 0, rfl, _, wk_base hw2, cPairs ((ht.sub sp.sub).sub hc.sub0) e fun a3 c3 B3 h3 hb3 hc3 => ⟨_, _, _, rfl, EncPr.row (partB s.S i), hb3.sr.src, ?_⟩⟩
      have hpw : wPart s i = partB s.S i := by unfold wPart; rw [hq]; rfl
      have hpl2 : (partB s.S i).length ≤ 48 := hpw ▸ hpl
      refine (hb.sub hc3.sub0).append (new := partB s.S i) rfl rfl rfl (by omega) fun a4 c4 B4 h4 hb4 hc4 _ => ⟨⟨i + 1, B4, rfl, by omega, ?_, ?_⟩, by omega⟩
      · rw [parts_succ, hpw]; exact hb4
      · exact (hc.trans ⟨fun b o hb e => hc3.sub0 b o e, fun b hb => .inl hb⟩).trans hc4
    | some l =>
      obtain ⟨a3, c3, hv, hsr⟩ := hP.yes i l e hq
      have hpw : wPart s i = l := by unfold wPart; rw [hq]; rfl
      have hpl2 : l.length ≤ 48 := hpw ▸ hpl
      refine ⟨wb, 0, rfl, _, wk_part hw2 hR, a3, l.length, c3, true, ⟨esP, ⟨⟨cP, hc.sub0 _ _ hp⟩, hP.key⟩, by rw [lk_va, hv]⟩, fun e2 => by simp at e2, fun _ => ⟨EncPr.row l, ((hsr.sub sp.sub).sub hc.sub0).src, ?_⟩⟩
      refine hb.append (new := l) rfl rfl rfl (by omega) fun a4 c4 B4 h4 hb4 hc4 _ => ⟨⟨i + 1, B4, rfl, by omega, ?_, hc.trans hc4⟩, by omega⟩
      rw [parts_succ, hpw]; exact hb4
  · have e : i = 16 := by have := of_decide_eq_false e; omega
    subst e
    have hb : Buf EncPr T_api_Pair B2 h2 lA lN lC (wDone s) := hb
    refine ⟨fun e2 => hno (.inr ⟨hdone, ?_⟩) h2 hc.sub0, fun e2 => cSortW hb (by have : (wDone s).length ≤ 48 * 16 := hlen; omega) fun l h3 hp3 hs3 hb3 hc3 => ?_⟩
    · have := of_decide_eq_true e2
      have hlN : lN = (wDone s).length := hlN
      omega
    · have := of_decide_eq_false e2
      have hlN : lN = (wDone s).length := hlN
      have hl3 := hp3.length_eq
      have := hyes hdone (by omega) l lA lC B2 h3 hp3 hs3 (by rw [hl3, ← hlN]; exact hb3) (hc.trans hc3)
      rw [hl3, ← hlN] at this; exact this
end TL

namespace TL
open Go Go.Proofs
/- twinlock/twinlocklaw16.WalkNobody -/
/- twinlock/twinlocklaw16.WalkQuiet -/
/- twinlock/twinlocklaw16.WalkKnown -/
/- twinlock/twinlocklaw16.WalkPlays -/
/- twinlock/twinlocklaw16.WalkFew -/
/- twinlock/twinlocklaw16.WalkLevel -/
set_option maxRecDepth 100000 in
def F_law16_WalkLevel (baseA : Option Addr) (baseN baseC : Nat) (toA : Option Addr) (toN toC : Nat) (lA : Option Addr) (lN lC : Nat) (K : Value → PH → Prop) (h : PH) : Prop :=
  JoinP (T := Unit) (fun Jv =>
    CallH Tryz.prog id_law16_Great [.slice lA lN lC] (fun v h2 =>
      ∃ t : Bool, v = .bool t ∧
      ((t = false →
          CallH Tryz.prog id_law13_GreatPairs [.slice baseA baseN baseC] (fun v_1 h3 =>
            ∃ t_1 : Bool, v_1 = .bool t_1 ∧
            ((t_1 = false →
                CallH Tryz.prog id_law13_GreatPairs [.slice toA toN toC] (fun v_2 h4 =>
                  ∃ t_2 : Bool, v_2 = .bool t_2 ∧
                  ((t_2 = true →
                      CallH Tryz.prog id_law16_wakes [] (fun v_3 h5 =>
                        ∃ t_3 : Bool, v_3 = .bool t_3 ∧
                        K (.bool t_3) h5) h4) ∧
                    (t_2 = false →
                      Jv (()) h4))) h3) ∧
              (t_1 = true →
                CallH Tryz.prog id_law16_wakes [] (fun v_4 h6 =>
                  ∃ t_4 : Bool, v_4 = .bool t_4 ∧
                  K (.bool t_4) h6) h3))) h2) ∧
        (t = true →
          CallH Tryz.prog id_law16_wakes [] (fun v_5 h7 =>
            ∃ t_5 : Bool, v_5 = .bool t_5 ∧
            K (.bool t_5) h7) h2))) h)
  (fun _ h1 =>
    CallH Tryz.prog id_law16_begin [.slice baseA baseN baseC, .slice toA toN toC] (fun v_6 h8 =>
      ∃ t0 : Option Addr, ∃ t1 : Option Addr, ∃ t2 : Bool, v_6 = .tuple #[.pointer t0, .pointer t1, .bool t2] ∧
      (((!t2) = true →
          CallH Tryz.prog id_law16_wakes [] (fun v_7 h9 =>
            ∃ t_6 : Bool, v_7 = .bool t_6 ∧
            K (.bool t_6) h9) h8) ∧
        ((!t2) = false →
          LoopP (T := Int × Unit) (fun Jv_1 st_1 h10 =>
            (((decide (st_1.1 < ((lN : Nat) : Int))) = true →
                JoinP (T := Unit) (fun Jv_2 =>
                  ∃ bv ov : Nat, (lA = some ⟨bv, ov, none⟩ ∧ 0 ≤ st_1.1 ∧ st_1.1 < (lN : Nat)) ∧
                  ∃ a0 : Int, ∃ a1 : Int, ∃ a2 : Int, ∃ a3 : Int, ∃ (a4A : Option Addr) (a4N a4C : Nat), (h10.rds bv (ov + st_1.1.toNat * 5) 5 = some [.int .u8 a0, .int .i64 a1, .int .i64 a2, .int .i64 a3, .slice a4A a4N a4C]) ∧
                  (((a0 == (0 : Int)) = true →
                      CallH Tryz.prog id_walk_Walk_Want [.pointer t0, .int .i64 (40 : Int)] (fun v_8 h12 =>
                        ∃ (askedA : Option Addr) (askedN askedC : Nat), v_8 = .slice askedA askedN askedC ∧
                        (((decide (((askedN : Nat) : Int) > (0 : Int))) = true →
                            (((askedN : Nat) : Int) ≠ 0) ∧
                            (((decide ((a1.tmod ((askedN : Nat) : Int)) < (0 : Int))) = true →
                                ∃ bv_1 ov_1 : Nat, (askedA = some ⟨bv_1, ov_1, none⟩ ∧ 0 ≤ (IntKind.wrap .i64 ((a1.tmod ((askedN : Nat) : Int)) + ((askedN : Nat) : Int))) ∧ (IntKind.wrap .i64 ((a1.tmod ((askedN : Nat) : Int)) + ((askedN : Nat) : Int))) < (askedN : Nat)) ∧
                                ∃ t0_1 : Int, ∃ t1_1 : Int, (h12.rds bv_1 (ov_1 + (IntKind.wrap .i64 ((a1.tmod ((askedN : Nat) : Int)) + ((askedN : Nat) : Int))).toNat * 2) 2 = some [.int .i64 t0_1, .int .i64 t1_1]) ∧
                                CallH Tryz.prog id_law16_answer [.pointer t0, .pointer t1, .agg #[.int .i64 t0_1, .int .i64 t1_1]] (fun v_9 h13 =>
                                  ∃ t_7 : Bool, v_9 = .bool t_7 ∧
                                  Jv_2 (()) h13) h12) ∧
                              ((decide ((a1.tmod ((askedN : Nat) : Int)) < (0 : Int))) = false →
                                ∃ bv_2 ov_2 : Nat, (askedA = some ⟨bv_2, ov_2, none⟩ ∧ 0 ≤ (a1.tmod ((askedN : Nat) : Int)) ∧ (a1.tmod ((askedN : Nat) : Int)) < (askedN : Nat)) ∧
                                ∃ t0_2 : Int, ∃ t1_2 : Int, (h12.rds bv_2 (ov_2 + (a1.tmod ((askedN : Nat) : Int)).toNat * 2) 2 = some [.int .i64 t0_2, .int .i64 t1_2]) ∧
                                CallH Tryz.prog id_law16_answer [.pointer t0, .pointer t1, .agg #[.int .i64 t0_2, .int .i64 t1_2]] (fun v_10 h14 =>
                                  ∃ t_8 : Bool, v_10 = .bool t_8 ∧
                                  Jv_2 (()) h14) h12))) ∧
                          ((decide (((askedN : Nat) : Int) > (0 : Int))) = false →
                            Jv_2 (()) h12))) h10) ∧
                    ((a0 == (0 : Int)) = false →
                      (((a0 == (2 : Int)) = true →
                          CallH Tryz.prog id_law16_node [.pointer t1, .int .i64 (1 : Int), .int .i64 (1 : Int)] (fun v_11 h15 =>
                            ∃ t_9 : List Int, t_9.length = 32 ∧ v_11 = .agg ((t_9.map (Value.int .u8) ++ [])).toArray ∧
                            CallH Tryz.prog id_law16_node [.pointer t1, .int .i64 (1 : Int), .int .i64 (0 : Int)] (fun v_12 h16 =>
                              ∃ t_10 : List Int, t_10.length = 32 ∧ v_12 = .agg ((t_10.map (Value.int .u8) ++ [])).toArray ∧
                              CallH Tryz.prog id_walk_Walk_Node [.pointer t0, .int .i64 a2, .int .i64 a3, .agg ((t_9.map (Value.int .u8) ++ [])).toArray, .agg ((t_10.map (Value.int .u8) ++ [])).toArray] (fun v_13 h17 =>
                                ∃ t_11 : Bool, v_13 = .bool t_11 ∧
                                Jv_2 (()) h17) h16) h15) h10) ∧
                        ((a0 == (2 : Int)) = false →
                          (((a0 == (3 : Int)) = true →
                              CallH Tryz.prog id_walk_Walk_Page [.pointer t0, .int .i64 a3, .slice a4A a4N a4C] (fun v_14 h18 =>
                                ∃ t_12 : Bool, v_14 = .bool t_12 ∧
                                Jv_2 (()) h18) h10) ∧
                            ((a0 == (3 : Int)) = false →
                              CallH Tryz.prog id_walk_Walk_Node [.pointer t0, .int .i64 a2, .int .i64 a3, .agg (((List.replicate 32 0).map (Value.int .u8) ++ [])).toArray, .agg (((List.replicate 32 0).map (Value.int .u8) ++ [])).toArray] (fun v_15 h19 =>
                                ∃ t_13 : Bool, v_15 = .bool t_13 ∧
                                Jv_2 (()) h19) h10)))))))
                (fun _ h11 =>
                  Jv_1 ((IntKind.wrap .i64 (st_1.1 + (1 : Int))), ()) h11)) ∧
              ((decide (st_1.1 < ((lN : Nat) : Int))) = false →
                CallH Tryz.prog id_law16_rest [.pointer t0, .pointer t1] (fun v_16 h20 =>
                  ∃ t_14 : Int, v_16 = .int .i64 t_14 ∧
                  (((decide (t_14 < (0 : Int))) = true →
                      CallH Tryz.prog id_law16_collides [.pointer t0, .pointer t1, .slice none 0 0] (fun v_17 h21 =>
                        ∃ t_15 : Bool, v_17 = .bool t_15 ∧
                        ((t_15 = true →
                            CallH Tryz.prog id_law16_wakes [] (fun v_18 h22 =>
                              ∃ t_16 : Bool, v_18 = .bool t_16 ∧
                              K (.bool t_16) h22) h21) ∧
                          (t_15 = false →
                            K (.bool false) h21))) h20) ∧
                    ((decide (t_14 < (0 : Int))) = false →
                      CallH Tryz.prog id_walk_Walk_Done [.pointer t0] (fun v_19 h23 =>
                        ∃ (t0A : Option Addr) (t0N t0C : Nat), ∃ t1_3 : Bool, v_19 = .tuple #[.slice t0A t0N t0C, .bool t1_3] ∧
                        JoinP (T := Unit) (fun Jv_3 =>
                          ((t1_3 = true →
                              CallH Tryz.prog id_tree_Tree_All [.pointer t1] (fun v_20 h25 =>
                                ∃ (tA : Option Addr) (tN tC : Nat), v_20 = .slice tA tN tC ∧
                                CallH Tryz.prog id_ref13_Same [.slice t0A t0N t0C, .slice tA tN tC] (fun v_21 h26 =>
                                  ∃ t_17 : Bool, v_21 = .bool t_17 ∧
                                  ((t_17 = true →
                                      CallH Tryz.prog id_tree_Of [.slice t0A t0N t0C] (fun v_22 h27 =>
                                        ∃ t0_3 : Option Addr, ∃ t1_4 : Int, v_22 = .tuple #[.pointer t0_3, .int .i64 t1_4] ∧
                                        (((t1_4 == (0 : Int)) = true →
                                            CallH Tryz.prog id_tree_Tree_Root [.pointer t0_3] (fun v_23 h28 =>
                                              ∃ t_18 : List Int, t_18.length = 32 ∧ v_23 = .agg ((t_18.map (Value.int .u8) ++ [])).toArray ∧
                                              CallH Tryz.prog id_walk_Walk_Root [.pointer t0] (fun v_24 h29 =>
                                                ∃ t_19 : List Int, t_19.length = 32 ∧ v_24 = .agg ((t_19.map (Value.int .u8) ++ [])).toArray ∧
                                                (((t_18 == t_19) = true →
                                                    CallH Tryz.prog id_law16_wakes [] (fun v_25 h30 =>
                                                      ∃ t_20 : Bool, v_25 = .bool t_20 ∧
                                                      K (.bool t_20) h30) h29) ∧
                                                  ((t_18 == t_19) = false →
                                                    K (.bool false) h29))) h28) h27) ∧
                                          ((t1_4 == (0 : Int)) = false →
                                            K (.bool false) h27))) h26) ∧
                                    (t_17 = false →
                                      Jv_3 (()) h26))) h25) h23) ∧
                            (t1_3 = false →
                              Jv_3 (()) h23)))
                        (fun _ h24 =>
                          CallH Tryz.prog id_law16_collides [.pointer t0, .pointer t1, .slice t0A t0N t0C] (fun v_26 h31 =>
                            ∃ t_21 : Bool, v_26 = .bool t_21 ∧
                            ((t_21 = true →
                                CallH Tryz.prog id_law16_wakes [] (fun v_27 h32 =>
                                  ∃ t_22 : Bool, v_27 = .bool t_22 ∧
                                  K (.bool t_22) h32) h31) ∧
                              (t_21 = false →
                                K (.bool false) h31))) h24)) h20))) h10))) ((0 : Int), ()) h8))) h1)
set_option maxRecDepth 100000 in
theorem F_law16_WalkLevel_eq {baseA : Option Addr} {baseN baseC : Nat} {toA : Option Addr} {toN toC : Nat} {lA : Option Addr} {lN lC : Nat} {K : Value → PH → Prop} {h : PH} : @Eq Prop (F_law16_WalkLevel baseA baseN baseC toA toN toC lA lN lC K h) (denF Tryz.prog Tryz.f11 ⟨[11], [(20, .of [0, 1, 2, 3, 4, 5, 7, 6, 8, 9])], [(0, ⟨[(10, .int .i64)], [], []⟩)], [(8, ⟨[], [], []⟩), (18, ⟨[], [], []⟩), (60, ⟨[], [], []⟩)]⟩ [.v (.slice baseA baseN baseC), .v (.slice toA toN toC), .v (.slice lA lN lC)] K h) := by
  kernel_rfl
theorem F_law16_WalkLevel_ok {baseA : Option Addr} {baseN baseC : Nat} {toA : Option Addr} {toN toC : Nat} {lA : Option Addr} {lN lC : Nat}  {K : Value → PH → Prop} {h : PH} (hh : F_law16_WalkLevel baseA baseN baseC toA toN toC lA lN lC K h) : CallH Tryz.prog id_law16_WalkLevel [.slice baseA baseN baseC, .slice toA toN toC, .slice lA lN lC] K h :=
  denF_sound' Tryz.func11 (H := ⟨[11], [(20, .of [0, 1, 2, 3, 4, 5, 7, 6, 8, 9])], [(0, ⟨[(10, .int .i64)], [], []⟩)], [(8, ⟨[], [], []⟩), (18, ⟨[], [], []⟩), (60, ⟨[], [], []⟩)]⟩) (xs := [.v (.slice baseA baseN baseC), .v (.slice toA toN toC), .v (.slice lA lN lC)]) (by kernel_rfl) (⟨rfl, rfl, rfl, trivial⟩) (den_of F_law16_WalkLevel_eq hh)

/- twinlock/twinlocklaw16.wakes -/
def F_law16_wakes  (K : Value → PH → Prop) (h : PH) : Prop :=
  newH h (.cells #[.string (⟨#[97, 112, 112, 47, 97]⟩ : ByteArray), .string (⟨#[49]⟩ : ByteArray)] T_api_Pair (0, 0)) fun bv h1 =>
  CallH Tryz.prog id_tree_Of [.slice (some ⟨bv, 0, none⟩) 1 1] (fun v h2 =>
    ∃ t0 : Option Addr, ∃ t1 : Int, v = .tuple #[.pointer t0, .int .i64 t1] ∧
    ((((t1 != (0 : Int)) || (Option.isNone t0)) = true →
        K (.bool false) h2) ∧
      (((t1 != (0 : Int)) || (Option.isNone t0)) = false →
        CallH Tryz.prog id_tree_Tree_Root [.pointer t0] (fun v_1 h3 =>
          ∃ t : List Int, t.length = 32 ∧ v_1 = .agg ((t.map (Value.int .u8) ++ [])).toArray ∧
          CallH Tryz.prog id_walk_New [.slice none 0 0, .agg ((t.map (Value.int .u8) ++ [])).toArray] (fun v_2 h4 =>
            ∃ t0_1 : Option Addr, ∃ t1_1 : Int, v_2 = .tuple #[.pointer t0_1, .int .i64 t1_1] ∧
            ((((t1_1 != (0 : Int)) || (Option.isNone t0_1)) = true →
                K (.bool false) h4) ∧
              (((t1_1 != (0 : Int)) || (Option.isNone t0_1)) = false →
                LoopP (T := Int × Unit) (fun Jv st h5 =>
                  CallH Tryz.prog id_walk_Walk_Want [.pointer t0_1, .int .i64 (1 : Int)] (fun v_3 h6 =>
                    ∃ (lA : Option Addr) (lN lC : Nat), v_3 = .slice lA lN lC ∧
                    ((((((lN : Nat) : Int) != (1 : Int)) || (decide (st.1 > (9 : Int)))) = true →
                        CallH Tryz.prog id_walk_Walk_Done [.pointer t0_1] (fun v_4 h7 =>
                          ∃ (t0A : Option Addr) (t0N t0C : Nat), ∃ t1_2 : Bool, v_4 = .tuple #[.slice t0A t0N t0C, .bool t1_2] ∧
                          ∃ bv_1 ov : Nat, (((t1_2 && (((t0N : Nat) : Int) == (1 : Int))) = true → t0A = some ⟨bv_1, ov, none⟩ ∧ 0 ≤ (0 : Int) ∧ (0 : Int) < (t0N : Nat))) ∧
                          ∃ t_1 : ByteArray, (((t1_2 && (((t0N : Nat) : Int) == (1 : Int))) = true → h7.rds bv_1 ((ov + (0 : Int).toNat * 2) + 1) 1 = some [.string t_1])) ∧
                          (((((t1_2 && (((t0N : Nat) : Int) == (1 : Int))) && (strEq t_1 (⟨#[49]⟩ : ByteArray))) && (st.1 == (5 : Int))) = true →
                              CallH Tryz.prog id_walk_Walk_Root [.pointer t0_1] (fun v_5 h8 =>
                                ∃ t_2 : List Int, t_2.length = 32 ∧ v_5 = .agg ((t_2.map (Value.int .u8) ++ [])).toArray ∧
                                CallH Tryz.prog id_tree_Tree_Root [.pointer t0] (fun v_6 h9 =>
                                  ∃ t_3 : List Int, t_3.length = 32 ∧ v_6 = .agg ((t_3.map (Value.int .u8) ++ [])).toArray ∧
                                  K (.bool (t_2 == t_3)) h9) h8) h7) ∧
                            ((((t1_2 && (((t0N : Nat) : Int) == (1 : Int))) && (strEq t_1 (⟨#[49]⟩ : ByteArray))) && (st.1 == (5 : Int))) = false →
                              K (.bool false) h7))) h6) ∧
                      (((((lN : Nat) : Int) != (1 : Int)) || (decide (st.1 > (9 : Int)))) = false →
                        ∃ bv_2 ov_1 : Nat, (lA = some ⟨bv_2, ov_1, none⟩ ∧ 0 ≤ (0 : Int) ∧ (0 : Int) < (lN : Nat)) ∧
                        ∃ t0_2 : Int, ∃ t1_3 : Int, (h6.rds bv_2 (ov_1 + (0 : Int).toNat * 2) 2 = some [.int .i64 t0_2, .int .i64 t1_3]) ∧
                        CallH Tryz.prog id_law16_answer [.pointer t0_1, .pointer t0, .agg #[.int .i64 t0_2, .int .i64 t1_3]] (fun v_7 h10 =>
                          ∃ t_4 : Bool, v_7 = .bool t_4 ∧
                          Jv ((IntKind.wrap .i64 (st.1 + (1 : Int))), ()) h10) h6))) h5) ((0 : Int), ()) h4))) h3) h2))) h1
theorem F_law16_wakes_eq  {K : Value → PH → Prop} {h : PH} : @Eq Prop (F_law16_wakes  K h) (denF Tryz.prog Tryz.f50 ⟨[], [], [(0, ⟨[(5, .int .i64)], [], []⟩)], []⟩ [] K h) := by
  kernel_rfl
theorem F_law16_wakes_ok   {K : Value → PH → Prop} {h : PH} (hh : F_law16_wakes  K h) : CallH Tryz.prog id_law16_wakes [] K h :=
  denF_sound' Tryz.func50 (H := ⟨[], [], [(0, ⟨[(5, .int .i64)], [], []⟩)], []⟩) (xs := []) (by kernel_rfl) (trivial) (den_of F_law16_wakes_eq hh)

/- twinlock/twinlocklaw16.Great -/
def F_law16_Great (lA : Option Addr) (lN _ : Nat) (K : Value → PH → Prop) (h : PH) : Prop :=
  (((decide (((lN : Nat) : Int) > (100 : Int))) = true →
      K (.bool true) h) ∧
    ((decide (((lN : Nat) : Int) > (100 : Int))) = false →
      LoopP (T := Int × Unit) (fun Jv st h1 =>
        (((decide (st.1 < ((lN : Nat) : Int))) = true →
            ∃ bv ov : Nat, (lA = some ⟨bv, ov, none⟩ ∧ 0 ≤ st.1 ∧ st.1 < (lN : Nat)) ∧
            ∃ (tA : Option Addr) (tN tC : Nat), (h1.rds bv ((ov + st.1.toNat * 5) + 4) 1 = some [.slice tA tN tC]) ∧
            CallH Tryz.prog id_law13_GreatPairs [.slice tA tN tC] (fun v h2 =>
              ∃ t : Bool, v = .bool t ∧
              ((t = true →
                  K (.bool true) h2) ∧
                (t = false →
                  Jv ((IntKind.wrap .i64 (st.1 + (1 : Int))), ()) h2))) h1) ∧
          ((decide (st.1 < ((lN : Nat) : Int))) = false →
            K (.bool false) h1))) ((0 : Int), ()) h))
theorem F_law16_Great_eq {lA : Option Addr} {lN lC : Nat} {K : Value → PH → Prop} {h : PH} : @Eq Prop (F_law16_Great lA lN lC K h) (denF Tryz.prog Tryz.f52 ⟨[], [], [(0, ⟨[(3, .int .i64)], [], []⟩)], []⟩ [.v (.slice lA lN lC)] K h) := by
  kernel_rfl
theorem F_law16_Great_ok {lA : Option Addr} {lN lC : Nat}  {K : Value → PH → Prop} {h : PH} (hh : F_law16_Great lA lN lC K h) : CallH Tryz.prog id_law16_Great [.slice lA lN lC] K h :=
  denF_sound' Tryz.func52 (H := ⟨[], [], [(0, ⟨[(3, .int .i64)], [], []⟩)], []⟩) (xs := [.v (.slice lA lN lC)]) (by kernel_rfl) (⟨rfl, trivial⟩) (den_of F_law16_Great_eq hh)

/- twinlock/twinlocklaw16.begin -/
def F_law16_begin (baseA : Option Addr) (baseN baseC : Nat) (toA : Option Addr) (toN toC : Nat) (K : Value → PH → Prop) (h : PH) : Prop :=
  CallH Tryz.prog id_tree_Of [.slice toA toN toC] (fun v h1 =>
    ∃ t0 : Option Addr, ∃ t1 : Int, v = .tuple #[.pointer t0, .int .i64 t1] ∧
    (((t1 != (0 : Int)) = true →
        K (.tuple #[.pointer none, .pointer none, .bool false]) h1) ∧
      ((t1 != (0 : Int)) = false →
        CallH Tryz.prog id_tree_Tree_Root [.pointer t0] (fun v_1 h2 =>
          ∃ t : List Int, t.length = 32 ∧ v_1 = .agg ((t.map (Value.int .u8) ++ [])).toArray ∧
          CallH Tryz.prog id_walk_New [.slice baseA baseN baseC, .agg ((t.map (Value.int .u8) ++ [])).toArray] (fun v_2 h3 =>
            ∃ t0_1 : Option Addr, ∃ t1_1 : Int, v_2 = .tuple #[.pointer t0_1, .int .i64 t1_1] ∧
            K (.tuple #[.pointer t0_1, .pointer t0, .bool ((t1_1 == (0 : Int)) && (!(Option.isNone t0_1)))]) h3) h2) h1))) h
theorem F_law16_begin_eq {baseA : Option Addr} {baseN baseC : Nat} {toA : Option Addr} {toN toC : Nat} {K : Value → PH → Prop} {h : PH} : @Eq Prop (F_law16_begin baseA baseN baseC toA toN toC K h) (denF Tryz.prog Tryz.f53 ⟨[], [], [], []⟩ [.v (.slice baseA baseN baseC), .v (.slice toA toN toC)] K h) := by
  kernel_rfl
theorem F_law16_begin_ok {baseA : Option Addr} {baseN baseC : Nat} {toA : Option Addr} {toN toC : Nat}  {K : Value → PH → Prop} {h : PH} (hh : F_law16_begin baseA baseN baseC toA toN toC K h) : CallH Tryz.prog id_law16_begin [.slice baseA baseN baseC, .slice toA toN toC] K h :=
  denF_sound' Tryz.func53 (H := ⟨[], [], [], []⟩) (xs := [.v (.slice baseA baseN baseC), .v (.slice toA toN toC)]) (by kernel_rfl) (⟨rfl, rfl, trivial⟩) (den_of F_law16_begin_eq hh)

/- twinlock/twinlocklaw16.answer -/
def F_law16_answer (w : Option Addr) (t : Option Addr) (a0 : Int) (a1 : Int) (K : Value → PH → Prop) (h : PH) : Prop :=
  (((a0 == (4 : Int)) = true →
      CallH Tryz.prog id_tree_Tree_Pairs [.pointer t, .int .i64 a1] (fun v h1 =>
        ∃ (tA : Option Addr) (tN tC : Nat), v = .slice tA tN tC ∧
        CallH Tryz.prog id_walk_Walk_Page [.pointer w, .int .i64 a1, .slice tA tN tC] (fun v_1 h2 =>
          ∃ t_1 : Bool, v_1 = .bool t_1 ∧
          K (.bool t_1) h2) h1) h) ∧
    ((a0 == (4 : Int)) = false →
      CallH Tryz.prog id_tree_Tree_Node [.pointer t, .int .i64 (IntKind.wrap .i64 (a0 + (1 : Int))), .int .i64 (IntKind.wrap .i64 ((2 : Int) * a1))] (fun v_2 h3 =>
        ∃ t0 : List Int, t0.length = 32 ∧ ∃ t1 : Bool, v_2 = .tuple #[.agg ((t0.map (Value.int .u8) ++ [])).toArray, .bool t1] ∧
        CallH Tryz.prog id_tree_Tree_Node [.pointer t, .int .i64 (IntKind.wrap .i64 (a0 + (1 : Int))), .int .i64 (IntKind.wrap .i64 ((IntKind.wrap .i64 ((2 : Int) * a1)) + (1 : Int)))] (fun v_3 h4 =>
          ∃ t0_1 : List Int, t0_1.length = 32 ∧ ∃ t1_1 : Bool, v_3 = .tuple #[.agg ((t0_1.map (Value.int .u8) ++ [])).toArray, .bool t1_1] ∧
          CallH Tryz.prog id_walk_Walk_Node [.pointer w, .int .i64 a0, .int .i64 a1, .agg ((t0.map (Value.int .u8) ++ [])).toArray, .agg ((t0_1.map (Value.int .u8) ++ [])).toArray] (fun v_4 h5 =>
            ∃ t_2 : Bool, v_4 = .bool t_2 ∧
            K (.bool t_2) h5) h4) h3) h))
theorem F_law16_answer_eq {w : Option Addr} {t : Option Addr} {a0 : Int} {a1 : Int} {K : Value → PH → Prop} {h : PH} : @Eq Prop (F_law16_answer w t a0 a1 K h) (denF Tryz.prog Tryz.f54 ⟨[5, 7, 9], [], [], []⟩ [.v (.pointer w), .v (.pointer t), .agg [.one (.int .i64 a0), .one (.int .i64 a1)]] K h) := by
  kernel_rfl
theorem F_law16_answer_ok {w : Option Addr} {t : Option Addr} {a0 : Int} {a1 : Int}  {K : Value → PH → Prop} {h : PH} (hh : F_law16_answer w t a0 a1 K h) : CallH Tryz.prog id_law16_answer [.pointer w, .pointer t, .agg #[.int .i64 a0, .int .i64 a1]] K h :=
  denF_sound' Tryz.func54 (H := ⟨[5, 7, 9], [], [], []⟩) (xs := [.v (.pointer w), .v (.pointer t), .agg [.one (.int .i64 a0), .one (.int .i64 a1)]]) (by kernel_rfl) (⟨rfl, rfl, ⟨rfl, rfl, trivial⟩, trivial⟩) (den_of F_law16_answer_eq hh)

/- twinlock/twinlocklaw16.one -/
/- twinlock/twinlocklaw16.above -/
/- twinlock/twinlocklaw16.collides -/
def F_law16_collides (w : Option Addr) (t : Option Addr) (lA : Option Addr) (lN lC : Nat) (K : Value → PH → Prop) (h : PH) : Prop :=
  CallH Tryz.prog id_walk_Walk_Texts [.pointer w] (fun v h1 =>
    ∃ (tA : Option Addr) (tN tC : Nat), v = .slice tA tN tC ∧
    CallH Tryz.prog id_tree_Tree_Texts [.pointer t] (fun v_1 h2 =>
      ∃ (tA_1 : Option Addr) (tN_1 tC_1 : Nat), v_1 = .slice tA_1 tN_1 tC_1 ∧
      ∃ vs : List Value, srcH h2 tA_1 (tN_1 * 1) vs ∧
      appH 9 1 16 [.string (⟨#[]⟩ : ByteArray)] tA tN tC tN_1 vs (fun textsA textsN textsC h3 =>
        CallH Tryz.prog id_ref15_Texts [.slice lA lN lC] (fun v_2 h4 =>
          ∃ (tA_2 : Option Addr) (tN_2 tC_2 : Nat), v_2 = .slice tA_2 tN_2 tC_2 ∧
          ∃ vs_1 : List Value, srcH h4 tA_2 (tN_2 * 1) vs_1 ∧
          appH 9 1 16 [.string (⟨#[]⟩ : ByteArray)] textsA textsN textsC tN_2 vs_1 (fun tA_3 tN_3 tC_3 h5 =>
            CallH Tryz.prog id_ref15_Collides [.slice tA_3 tN_3 tC_3] (fun v_3 h6 =>
              ∃ t_1 : Bool, v_3 = .bool t_1 ∧
              K (.bool t_1) h6) h5) h4) h3) h2) h1) h
theorem F_law16_collides_eq {w : Option Addr} {t : Option Addr} {lA : Option Addr} {lN lC : Nat} {K : Value → PH → Prop} {h : PH} : @Eq Prop (F_law16_collides w t lA lN lC K h) (denF Tryz.prog Tryz.f61 ⟨[], [], [], []⟩ [.v (.pointer w), .v (.pointer t), .v (.slice lA lN lC)] K h) := by
  kernel_rfl
theorem F_law16_collides_ok {w : Option Addr} {t : Option Addr} {lA : Option Addr} {lN lC : Nat}  {K : Value → PH → Prop} {h : PH} (hh : F_law16_collides w t lA lN lC K h) : CallH Tryz.prog id_law16_collides [.pointer w, .pointer t, .slice lA lN lC] K h :=
  denF_sound' Tryz.func61 (H := ⟨[], [], [], []⟩) (xs := [.v (.pointer w), .v (.pointer t), .v (.slice lA lN lC)]) (by kernel_rfl) (⟨rfl, rfl, rfl, trivial⟩) (den_of F_law16_collides_eq hh)

/- twinlock/twinlocklaw16.node -/
def F_law16_node (t : Option Addr) (level : Int) (i : Int) (K : Value → PH → Prop) (h : PH) : Prop :=
  CallH Tryz.prog id_tree_Tree_Node [.pointer t, .int .i64 level, .int .i64 i] (fun v h1 =>
    ∃ t0 : List Int, t0.length = 32 ∧ ∃ t1 : Bool, v = .tuple #[.agg ((t0.map (Value.int .u8) ++ [])).toArray, .bool t1] ∧
    K (.agg ((t0.map (Value.int .u8) ++ [])).toArray) h1) h
theorem F_law16_node_eq {t : Option Addr} {level : Int} {i : Int} {K : Value → PH → Prop} {h : PH} : @Eq Prop (F_law16_node t level i K h) (denF Tryz.prog Tryz.f62 ⟨[6, 7], [], [], []⟩ [.v (.pointer t), .v (.int .i64 level), .v (.int .i64 i)] K h) := by
  kernel_rfl
theorem F_law16_node_ok {t : Option Addr} {level : Int} {i : Int}  {K : Value → PH → Prop} {h : PH} (hh : F_law16_node t level i K h) : CallH Tryz.prog id_law16_node [.pointer t, .int .i64 level, .int .i64 i] K h :=
  denF_sound' Tryz.func62 (H := ⟨[6, 7], [], [], []⟩) (xs := [.v (.pointer t), .v (.int .i64 level), .v (.int .i64 i)]) (by kernel_rfl) (⟨rfl, rfl, rfl, trivial⟩) (den_of F_law16_node_eq hh)

/- twinlock/twinlocklaw16.rest -/
def F_law16_rest (w : Option Addr) (t : Option Addr) (K : Value → PH → Prop) (h : PH) : Prop :=
  LoopP (T := Int × Unit) (fun Jv st h1 =>
    (((decide (st.1 < (40 : Int))) = true →
        CallH Tryz.prog id_walk_Walk_Want [.pointer w, .int .i64 (1 : Int)] (fun v h2 =>
          ∃ (lA : Option Addr) (lN lC : Nat), v = .slice lA lN lC ∧
          (((((lN : Nat) : Int) == (0 : Int)) = true →
              K (.int .i64 st.1) h2) ∧
            ((((lN : Nat) : Int) == (0 : Int)) = false →
              ∃ bv ov : Nat, (lA = some ⟨bv, ov, none⟩ ∧ 0 ≤ (0 : Int) ∧ (0 : Int) < (lN : Nat)) ∧
              ∃ t0 : Int, ∃ t1 : Int, (h2.rds bv (ov + (0 : Int).toNat * 2) 2 = some [.int .i64 t0, .int .i64 t1]) ∧
              CallH Tryz.prog id_law16_answer [.pointer w, .pointer t, .agg #[.int .i64 t0, .int .i64 t1]] (fun v_1 h3 =>
                ∃ t_1 : Bool, v_1 = .bool t_1 ∧
                (((!t_1) = true →
                    K (.int .i64 (-1 : Int)) h3) ∧
                  ((!t_1) = false →
                    Jv ((IntKind.wrap .i64 (st.1 + (1 : Int))), ()) h3))) h2))) h1) ∧
      ((decide (st.1 < (40 : Int))) = false →
        K (.int .i64 (-1 : Int)) h1))) ((0 : Int), ()) h
theorem F_law16_rest_eq {w : Option Addr} {t : Option Addr} {K : Value → PH → Prop} {h : PH} : @Eq Prop (F_law16_rest w t K h) (denF Tryz.prog Tryz.f63 ⟨[], [], [(0, ⟨[(5, .int .i64)], [], []⟩)], []⟩ [.v (.pointer w), .v (.pointer t)] K h) := by
  kernel_rfl
theorem F_law16_rest_ok {w : Option Addr} {t : Option Addr}  {K : Value → PH → Prop} {h : PH} (hh : F_law16_rest w t K h) : CallH Tryz.prog id_law16_rest [.pointer w, .pointer t] K h :=
  denF_sound' Tryz.func63 (H := ⟨[], [], [(0, ⟨[(5, .int .i64)], [], []⟩)], []⟩) (xs := [.v (.pointer w), .v (.pointer t)]) (by kernel_rfl) (⟨rfl, rfl, trivial⟩) (den_of F_law16_rest_eq hh)

end TL

namespace TL
open Go Go.Proofs
variable {g h : PH} {N : List Nat} {K : Value → PH → Prop} {wb tb : Nat} {s : WS} {S T : List PrR}
theorem nd_in {c : Nat} (h1 : 1 ≤ c) (h2 : c < 16) : nd S c = shaN (innT (nd S (2 * c)) (nd S (2 * c + 1))) := by
  unfold nd; rw [node_in _ h1 h2]
theorem nd_leaf {i : Nat} (h : i < 16) : nd S (16 + i) = shaN (76 :: pageL (partB S i)) := by
  unfold nd; rw [node_leaf _ (by omega) (by omega), show 16 + i - 16 = i by omega]; rfl
theorem askP_leaf : ∀ c : Nat, c < 32 → 16 ≤ c → (askP c).1 = 4 ∧ (askP c).2 = ((c - 16 : Nat) : Int) := by decide +kernel
theorem cAnswer (x : WalkAt g N h wb s) (sp : Spl g N h) (ht : Tr tb g T) {c : Nat} (c1 : 1 ≤ c) (c2 : c < 32) (hA : s.A c = some (nd T c)) (hT : s.T.length ≤ 100000)
    (hk : ∀ g' N' h' s', WalkAt g' N' h' wb s' → Stp g N h g' N' h' → (c < 16 → s' = wIn s c (nd T (2 * c)) (nd T (2 * c + 1))) → (16 ≤ c → s' = wPg s (c - 16) (partB T (c - 16))) → K (.bool true) h') :
    CallH Tryz.prog id_law16_answer [.pointer (some ⟨wb, 0, none⟩), .pointer (some ⟨tb, 0, none⟩), .agg #[.int .i64 (askP c).1, .int .i64 (askP c).2]] K h := by
  by_cases h16 : 16 ≤ c
  · obtain ⟨e1, e2⟩ := askP_leaf c c2 h16
    obtain ⟨i, rfl⟩ : ∃ i, c = 16 + i := ⟨c - 16, by omega⟩
    have hi : i < 16 := by omega
    have ei : 16 + i - 16 = i := by omega
    rw [ei] at hk e2
    rw [e1, e2]
    refine F_law16_answer_ok ⟨fun _ => cPairs (ht.sub sp.sub) hi fun a' c' B' h1 hb1 cc1 => ⟨_, _, _, rfl, ?_⟩, fun e => by simp at e⟩
    have st1 := sp.new cc1
    have hsr : SR EncPr (PH.plus g h1 B') a' (partB T i) := (hb1.keep fun b hb o e => by rw [plus_in hb]; exact e).sr
    have x1 : WalkAt (PH.plus g h1 B') N h1 wb s := x.keep st1.gs fun q _ o e => cc1.sub0 q o e
    have hok := part_ok ht.may ht.le i
    have hpl : (partB T i).length ≤ 48 := Nat.le_trans (List.length_filter_le _ _) ht.le
    refine cWPage (l := partB T i) x1 st1.spl hsr (by omega) (fun y hy => ?_) hT (fun hn h2 _ _ => ?_) fun k g' N' h2 k16 ek _ _ x2 st2 => ⟨_, rfl, ?_⟩
    · have := (ok_len ((may_ok hok.1).1 y hy)).1
      omega
    · exact absurd (by rw [hA, nd_leaf hi]) (hn i hi rfl hok)
    · have : k = i := by omega
      subst this
      exact hk g' N' h2 _ x2 (st1.trans st2) (fun e => by omega) fun _ => rfl
  · have c16 : c < 16 := by omega
    obtain ⟨q1, q2, q3⟩ := askP_kids c c16 c1
    have e1 : (askP c).1 = ((c.log2 : Nat) : Int) := rfl
    have e2 : (askP c).2 = ((c - 2 ^ c.log2 : Nat) : Int) := rfl
    have hl4 : ¬ ((c.log2 : Nat) : Int) = 4 := by omega
    have hlt := askP_in c c2 c1
    have w1 : IntKind.wrap .i64 ((askP c).1 + 1) = ((c.log2 + 1 : Nat) : Int) := by rw [e1, wrap64] <;> omega
    have hb16 : c - 2 ^ c.log2 < 32 := by omega
    have w2 : IntKind.wrap .i64 ((2 : Int) * (askP c).2) = ((2 * (c - 2 ^ c.log2) : Nat) : Int) := by rw [e2, wrap64] <;> omega
    have w3 : IntKind.wrap .i64 (((2 * (c - 2 ^ c.log2) : Nat) : Int) + 1) = ((2 * (c - 2 ^ c.log2) + 1 : Nat) : Int) := by rw [wrap64] <;> omega
    refine F_law16_answer_ok ⟨fun e => absurd (by simpa [e1] using e) hl4, fun _ => ?_⟩
    rw [w1, w2, w3]
    refine cNode (ht.sub sp.sub) q1 (by omega) ⟨bi (nd T (2 ^ (c.log2 + 1) + 2 * (c - 2 ^ c.log2))), by rw [bi_len, nd_len], _, rfl, cNode (ht.sub sp.sub) q1 q2 ⟨bi (nd T (2 ^ (c.log2 + 1) + (2 * (c - 2 ^ c.log2) + 1))), by rw [bi_len, nd_len], _, rfl, ?_⟩⟩
    have r2 : 2 ^ (c.log2 + 1) + (2 * (c - 2 ^ c.log2) + 1) = 2 * c + 1 := by omega
    rw [q3, r2]
    refine cWNode x sp (nd_len _ _) (nd_len _ _) hT (fun hn h2 _ _ => ?_) fun k N' h2 k1 k16 ek _ x2 st2 => ⟨_, rfl, ?_⟩
    · exact absurd (by rw [hA, nd_in c1 c16]) (hn c c1 c16 rfl)
    · have : k = c := askP_inj k (by omega) c c2 k1 c1 ek
      subst this
      exact hk g N' h2 _ x2 st2 (fun _ => rfl) fun e => by omega
/-- the way to the one page -/
def pc : Nat → Nat
  | 0 => 1
  | 1 => 2
  | 2 => 4
  | 3 => 9
  | _ => 19
def onlyA (c : Nat) : Nat → Option (List UInt8) := upF (fun _ => none) c (some (nd sApp c))
theorem wAsk_yes {A : Nat → Option (List UInt8)} {d : Nat} {x : List UInt8} (h : nd S d ≠ x) : wAsk S A d x = upF A d (some x) := by unfold wAsk; rw [if_neg h]
theorem wAsk_not {A : Nat → Option (List UInt8)} {d : Nat} {x : List UInt8} (h : nd S d = x) : wAsk S A d x = A := by unfold wAsk; rw [if_pos h]
theorem on1 : nd [] 1 ≠ nd sApp 1 := by rw [nil4, app4]; decide
theorem on2 : nd [] 2 ≠ nd sApp 2 := by rw [nil3 (by omega) (by omega), app3]; decide
theorem on4 : nd [] 4 ≠ nd sApp 4 := by rw [nil2 (by omega) (by omega), app2]; decide
theorem on9 : nd [] 9 ≠ nd sApp 9 := by rw [nil1 (by omega) (by omega), app1]; decide
theorem on19 : nd [] 19 ≠ nd sApp 19 := by rw [nil0 (by omega) (by omega), app0]; decide
theorem off_app {j : Nat} (hj : j < 32) (ha : ¬ Anc j 19) : nd [] j = nd sApp j := (app_same hj ha).symm
theorem only_off (c : Nat) : upF (onlyA c) c none = fun _ => none := by
  funext d
  by_cases e : d = c
  · subst e; rw [upF_same]
  · rw [upF_ne _ _ e]; unfold onlyA; rw [upF_ne _ _ e]
theorem next_ask : ∀ j, j < 4 → wAsk [] (wAsk [] (fun _ => none) (2 * pc j) (nd sApp (2 * pc j))) (2 * pc j + 1) (nd sApp (2 * pc j + 1)) = onlyA (pc (j + 1)) := fun j hj => by
  match j, hj with
  | 0, _ => show wAsk [] (wAsk [] _ 2 (nd sApp 2)) 3 (nd sApp 3) = onlyA 2; rw [wAsk_yes on2, wAsk_not (off_app (j := 3) (by omega) (by unfold Anc; omega))]; rfl
  | 1, _ => show wAsk [] (wAsk [] _ 4 (nd sApp 4)) 5 (nd sApp 5) = onlyA 4; rw [wAsk_yes on4, wAsk_not (off_app (j := 5) (by omega) (by unfold Anc; omega))]; rfl
  | 2, _ => show wAsk [] (wAsk [] _ 8 (nd sApp 8)) 9 (nd sApp 9) = onlyA 9; rw [wAsk_not (off_app (j := 8) (by omega) (by unfold Anc; omega)), wAsk_yes on9]; rfl
  | 3, _ => show wAsk [] (wAsk [] _ 18 (nd sApp 18)) 19 (nd sApp 19) = onlyA 19; rw [wAsk_not (off_app (j := 18) (by omega) (by unfold Anc; omega)), wAsk_yes on19]; rfl
theorem pc_in : ∀ j : Nat, j < 5 → 1 ≤ pc j ∧ pc j < 32 ∧ (j < 4 → pc j < 16) ∧ (j = 4 → pc j = 19) := by decide
theorem onlyA_list {c : Nat} (hc : c < 32) : wList (onlyA c) = [c] := by
  unfold wList
  have : (fun d => (onlyA c d).isSome) = fun d => d == c := by
    funext d
    unfold onlyA
    by_cases e : d = c
    · subst e; rw [upF_same]; simp
    · rw [upF_ne _ _ e]; simp [e]
  rw [this, range_at hc, List.filter_append, List.filter_cons]
  have z1 : (List.range c).filter (fun d => d == c) = [] := List.filter_eq_nil_iff.2 fun d hd => by have := List.mem_range.1 hd; simp; omega
  have z2 : (List.range' (c + 1) (32 - c - 1)).filter (fun d => d == c) = [] := List.filter_eq_nil_iff.2 fun d hd => by have := List.mem_range'_1.1 hd; simp; omega
  rw [z1, z2]; simp
theorem app_may : mayB sApp = true := by decide +kernel
theorem app_done {s : WS} (hS : s.S = []) (hQ : s.Q = upF (fun _ => none) 3 (some sApp)) : wDone s = sApp := by
  have h1 : ∀ i, wPart s i = if i = 3 then sApp else [] := fun i => by
    unfold wPart
    rw [hQ, hS]
    by_cases e : i = 3
    · subst e; rw [upF_same]; rfl
    · rw [upF_ne _ _ e, if_neg e]; rfl
  unfold wDone
  have : wPart s = fun i => if i = 3 then sApp else [] := funext h1
  rw [this]
  decide +kernel
theorem app_page : partB sApp 3 = sApp := by
  have : bkt pApp = 3 := bkt_app
  simp [sApp, partB, this]
theorem nil_may : mayB ([] : List PrR) = true ∧ ([] : List PrR).length ≤ 48 := by decide
structure WkI (g0 : PH) (g : PH) (N : List Nat) (h : PH) (wb : Nat) (s : WS) (j : Nat) : Prop where
  x : WalkAt g N h wb s
  st : Stp g0 [] g0 g N h
  S : s.S = []
  R : s.R = nd sApp 1
  t : s.T.length ≤ 31 + j
  a : (j < 5 ∧ s.Q = (fun _ => none) ∧ s.A = onlyA (pc j)) ∨ (j = 5 ∧ s.A = (fun _ => none) ∧ s.Q = upF (fun _ => none) 3 (some sApp))
theorem wki0 {g0 : PH} (x : WalkAt g N h wb (wNew [] (nd sApp 1))) (st : Stp g0 [] g0 g N h) : WkI g0 g N h wb (wNew [] (nd sApp 1)) 0 := by
  refine { x := x, st := st, S := ?_, R := ?_, t := ?_, a := .inl ⟨Nat.zero_lt_succ 4, ?_, ?_⟩ }
  · unfold wNew; dsimp only
  · unfold wNew; dsimp only
  · exact Nat.le_of_eq (texts_len [])
  · unfold wNew; dsimp only
  · unfold wNew; dsimp only; exact wAsk_yes on1
theorem cWakes16 (hk : ∀ h', h.Sub h' → K (.bool true) h') : CallH Tryz.prog id_law16_wakes [] K h := by
  refine F_law16_wakes_ok (nwL (cs := EncPr.row sApp) fun b0 h1 _ hb0 c1 => ?_)
  have hsr : SR EncPr h1 (some ⟨b0, 0, none⟩) sApp := .inr ⟨b0, 0, rfl, rdsL hb0 rfl rfl⟩
  refine cOfT (l := sApp) hsr app_may (by decide) fun tb h2 ht _ c2 => ⟨_, _, rfl, fun e => by simp at e, fun _ => ?_⟩
  refine cRoot ht ⟨bi (nd sApp 1), by rw [bi_len, nd_len], rfl, ?_⟩
  refine cWNew (Spl.start h2) (l := []) (.inl rfl) (by decide) (fun _ h => by cases h) (R := nd sApp 1) (nd_len _ _) (fun hn => absurd nil_may hn) fun _ _ wb N3 g3 h3 x3 st3 _ => ?_
  refine ⟨some ⟨wb, 0, none⟩, 0, rfl, fun e => ?_, fun _ => ?_⟩
  · simp at e
  rw [List.append_nil] at st3
  refine LoopP.ind (fun (z : Int × Unit) h' => ∃ (j : Nat) (g' : PH) (N' : List Nat) (s : WS), z.1 = j ∧ j ≤ 5 ∧ WkI h2 g' N' h' wb s j) (fun z _ => (5 - z.1).toNat) ?_ ⟨0, g3, N3, wNew [] (nd sApp 1), rfl, Nat.zero_le _, wki0 x3 st3⟩
  rintro ⟨zj, u⟩ h4 ⟨j, g4, N4, s, hzj, hj, I⟩
  dsimp only at hzj
  subst hzj
  dsimp only
  have h0 : s.A 0 = none := by
    rcases I.a with ⟨hj5, _, hA⟩ | ⟨_, hA, _⟩
    · have := (pc_in j hj5).1
      rw [hA]; unfold onlyA; rw [upF_ne _ _ (by omega)]
    · rw [hA]
  refine cWWant I.x h0 fun aA aC h5 s5 hsr5 => ⟨_, _, _, rfl, fun e => ?_, fun e => ?_⟩
  · -- all is there
    have hj5 : j = 5 := by
      rcases I.a with ⟨hj5, _, hA⟩ | ⟨h, _, _⟩
      · exfalso
        rw [hA, onlyA_list (pc_in j hj5).2.1] at e
        simp at e
        omega
      · exact h
    subst hj5
    obtain ⟨_, hA, hQ⟩ : 5 = 5 ∧ s.A = (fun _ => none) ∧ s.Q = upF (fun _ => none) 3 (some sApp) := by
      rcases I.a with ⟨h, _⟩ | h
      · omega
      · exact h
    have hD := app_done I.S hQ
    have x5 : WalkAt g4 N4 h5 wb s := I.x.keep (PH.Sub.rf _) fun q _ o e => s5 q o e
    have st5 := I.st.spl.grow s5
    refine cWDone x5 st5.spl (fun i l hl => ?_) (fun hh => ?_) fun _ _ l a' c' B' h6 hp hs hb hc => ?_
    · rw [hQ] at hl
      by_cases e3 : i = 3
      · subst e3; rw [upF_same] at hl; cases hl; decide
      · rw [upF_ne _ _ e3] at hl; cases hl
    · exfalso
      rcases hh with ⟨k, _, _, hk⟩ | ⟨_, hh⟩
      · rw [hA] at hk; cases hk
      · rw [hD] at hh; exact absurd hh (by decide)
    · rw [hD] at hp
      have hl : l = sApp := List.perm_singleton.1 hp
      subst hl
      obtain ⟨bb, oo, hA6, hr6⟩ := hb.sr.get (i := 0) (by decide)
      refine ⟨_, _, _, _, rfl, bb, oo, fun _ => ⟨hA6, by decide, by decide⟩, mk [49], fun _ => hr6 _ 1 1 rfl (by decide), fun _ => ?_, fun e => by exfalso; revert e; decide⟩
      have x6 : WalkAt g4 N4 h6 wb s := x5.keep (PH.Sub.rf _) fun q _ o e => hc.sub0 q o e
      have s26 : h2.Sub h6 := I.st.gh.tr (s5.tr hc.sub0)
      refine cWRoot x6 ⟨bi s.R, by rw [bi_len, I.R, nd_len], rfl, cRoot (ht.sub s26) ⟨bi (nd sApp 1), by rw [bi_len, nd_len], rfl, ?_⟩⟩
      rw [I.R, beq_self_eq_true]
      exact hk h6 ((c1.sub0.tr c2.sub0).tr s26)
  · -- one more
    have hj5 : j < 5 := by
      rcases I.a with ⟨h, _⟩ | ⟨_, hA, _⟩
      · exact h
      · exfalso
        have : wList s.A = [] := List.filter_eq_nil_iff.2 fun d _ => by rw [hA]; simp
        rw [this] at e
        simp at e
    obtain ⟨_, hQ, hA⟩ : j < 5 ∧ s.Q = (fun _ => none) ∧ s.A = onlyA (pc j) := by
      rcases I.a with h | ⟨h, _⟩
      · exact h
      · omega
    obtain ⟨p1, p2, p3, p4⟩ := pc_in j hj5
    have hrow : ((wList s.A).map askP).take (1 : Int).toNat = [askP (pc j)] := by rw [hA, onlyA_list p2]; rfl
    rw [hrow] at hsr5 ⊢
    obtain ⟨bb, oo, hA5, hr5⟩ := hsr5.get (i := 0) (by simp)
    have x5 : WalkAt g4 N4 h5 wb s := I.x.keep (PH.Sub.rf _) fun q _ o e => s5 q o e
    have st5 := I.st.trans (I.st.spl.grow s5)
    refine ⟨bb, oo, ⟨hA5, by decide, by simp⟩, (askP (pc j)).1, (askP (pc j)).2, hr5 _ 0 2 rfl (by decide), ?_⟩
    have ht' := I.t
    refine cAnswer x5 st5.spl (ht.sub st5.gs) p1 p2 (by rw [hA]; unfold onlyA; rw [upF_same]) (by omega) fun g6 N6 h6 s6 x6 st6 e1 e2 => ⟨_, rfl, ?_⟩
    have hw : IntKind.wrap .i64 (((j : Nat) : Int) + (1 : Int)) = ((j + 1 : Nat) : Int) := by rw [wrap64] <;> omega
    rw [hw]
    refine ⟨⟨j + 1, g6, N6, s6, rfl, by omega, x6, st5.trans st6, ?_, ?_, ?_, ?_⟩, by omega⟩
    all_goals rcases Nat.lt_or_ge (pc j) 16 with h16 | h16
    · rw [e1 h16]; exact I.S
    · rw [e2 h16]; exact I.S
    · rw [e1 h16]; exact I.R
    · rw [e2 h16]; exact I.R
    · rw [e1 h16]; show (s.T ++ [_]).length ≤ _; rw [List.length_append]; simp; omega
    · rw [e2 h16]; show (s.T ++ [_]).length ≤ _; rw [List.length_append]; simp; omega
    · have hj4 : j < 4 := by
        rcases Nat.lt_or_ge j 4 with h | h
        · exact h
        · have := p4 (by omega); omega
      refine .inl ⟨by omega, by rw [e1 h16]; exact hQ, ?_⟩
      rw [e1 h16]
      show wAsk s.S (wAsk s.S (upF s.A (pc j) none) (2 * pc j) (nd sApp (2 * pc j))) (2 * pc j + 1) (nd sApp (2 * pc j + 1)) = _
      rw [I.S, hA, only_off]
      exact next_ask j hj4
    · have hj4 : j = 4 := by
        rcases Nat.lt_or_ge j 4 with h | h
        · have := p3 h; omega
        · omega
      subst hj4
      refine .inr ⟨rfl, ?_, ?_⟩
      · rw [e2 h16]
        show upF s.A (16 + (pc 4 - 16)) none = _
        rw [hA]; exact only_off 19
      · rw [e2 h16]
        show upF s.Q (pc 4 - 16) (some (partB sApp (pc 4 - 16))) = _
        rw [hQ]
        show upF _ 3 (some (partB sApp 3)) = _
        rw [app_page]
end TL

namespace TL
open Go Go.Proofs
variable {h : PH} {K : Value → PH → Prop}
theorem wk16 {h1 : PH} (s : h.Sub h1) (hk : ∀ h', h.Sub h' → K (.bool true) h') : CallH Tryz.prog id_law16_wakes [] (fun v h2 => ∃ t : Bool, v = .bool t ∧ K (.bool t) h2) h1 :=
  cWakes16 fun h' s' => ⟨true, rfl, hk h' (s.tr s')⟩
end TL

namespace TL
open Go Go.Proofs
variable {h : PH} {K : Value → PH → Prop} {p v : List UInt8} {lA : Option Addr} {lC : Nat} {l : List PrR} {b : Nat}

theorem lv_rd {h : PH} {a : Option Addr} {l : List PrR} {j i : Nat} (x : SR EncH h a (lvRow l j (2 ^ j))) (hi : i < 2 ^ j) : ∃ bb ob, a = some ⟨bb, ob, none⟩ ∧ h.rds bb (ob + i * 32) 32 = some ((bi (nd l (2 ^ j + i))).map (Value.int .u8) ++ []) := by
  have hl : i < (lvRow l j (2 ^ j)).length := by rw [lvRow_len]; exact hi
  obtain ⟨bb, ob, hA, hr⟩ := x.get hl
  refine ⟨bb, ob, hA, ?_⟩
  have := hr (ob + i * 32) 0 32 (by show _ = ob + i * 32 + 0; omega) (by decide)
  rw [this, lvRow_get, List.drop_zero, List.append_nil, List.take_of_length_le (by rw [EncH.len]; decide)]; rfl
theorem cRTexts (hl : SR EncPr h lA l) (hm : mayB l = true) (h48 : l.length ≤ 48) (hk : ∀ a' c' B' h', Buf EncS 9 B' h' a' (textsT l).length c' (textsT l) → Chg [] B' h h' → K (.slice a' (textsT l).length c') h') :
    CallH Tryz.prog id_ref15_Texts [.slice lA l.length lC] K h := by
  refine F_ref15_Texts_ok (LoopP.ind (fun (z : (Option Addr × Nat × Nat) × Int × Unit) h' => ∃ (i : Nat) (B' : List Nat), z.2.1 = i ∧ i ≤ 16 ∧ Buf EncS 9 B' h' z.1.1 z.1.2.1 z.1.2.2 ((List.range i).map (leafT l)) ∧ Chg [] B' h h') (fun z _ => (16 - z.2.1).toNat) ?_ ⟨0, [], rfl, by omega, Buf.nil _ _ _ _, Chg.refl _ _⟩)
  rintro ⟨⟨oA, oN, oC⟩, zi, u⟩ h1 ⟨i, B1, hzi, hi, hb, hc⟩
  dsimp only at hzi hb
  subst hzi
  dsimp only
  have hon : oN = i := by rw [hb.1]; simp
  subst hon
  refine ⟨fun e => ?_, fun e => ?_⟩
  · have e : oN < 16 := by simp at e; omega
    refine cLeafText e (hl.sub hc.sub0) hm h48 fun h2 s2 => ⟨_, rfl, ?_⟩
    refine (hb.sub s2).append (new := [leafT l oN]) rfl rfl rfl (by omega) fun a' c' B' h' hb' hc' _ => ⟨⟨oN + 1, B', by rw [wrap64] <;> omega, by omega, ?_, (hc.onto s2).trans hc'⟩, by rw [wrap64] <;> omega⟩
    rw [List.range_succ, List.map_append]; exact hb'
  · have e : oN = 16 := by simp at e; omega
    subst e
    refine (Spl.of0 hc hb.has).call (cLevels (K := fun v g => ∃ bv f, LvB g bv f ∧ (∀ j, j < 5 → (f j).n = 2 ^ j ∧ SR EncH g (f j).a (lvRow l j (2 ^ j))) ∧ h.Sub g ∧ v = .slice (some ⟨bv, 0, none⟩) 5 5) hl hm h48 fun bv f g x1 x2 x3 => ⟨bv, f, x1, x2, x3, rfl⟩) ?_
    rintro _ g2 h2 ⟨bv, f, xv, rv, s2, rfl⟩ st
    obtain ⟨st, same⟩ := st s2
    have sp2 := st.spl
    refine ⟨_, _, _, rfl, ?_⟩
    have hb := hb.keep same
    have lvs : ∀ {g : PH}, g2.Sub g → ∀ j, j < 5 → g.rds bv (0 + j * 1) 1 = some [.slice (f j).a (f j).n (f j).c] ∧ (f j).n = 2 ^ j ∧ SR EncH g (f j).a (lvRow l j (2 ^ j)) := fun s j hj => ⟨(xv.sub s).get hj (by omega), (rv j hj).1, (rv j hj).2.sub s⟩
    refine LoopP.ind (fun (z : (Option Addr × Nat × Nat) × Int × Unit) h' => ∃ (m : Nat) (B' : List Nat), z.2.1 = (3 : Int) - m ∧ m ≤ 4 ∧ Buf EncS 9 B' h' z.1.1 z.1.2.1 z.1.2.2 ((List.range 16).map (leafT l) ++ (List.range m).flatMap fun d => inRow l (3 - d)) ∧ Spl g2 B' h') (fun z _ => (z.2.1 + 1).toNat) ?_ ⟨0, B1, rfl, by omega, by simpa using hb, sp2⟩
    rintro ⟨⟨oA, oN, oC⟩, zm, u⟩ h3 ⟨m, B2, hzm, hm4, hb2, s3⟩
    dsimp only at hzm hb2
    subst hzm
    dsimp only
    refine ⟨fun e => ?_, fun e => ?_⟩
    · have e : m < 4 := by simp at e; omega
      have hlv : ((3 : Int) - (m : Nat)) = ((3 - m : Nat) : Int) := by omega
      rw [hlv]
      generalize hlv2 : 3 - m = lv
      have hlv4 : lv ≤ 3 := by omega
      have h2lv : 2 ^ lv ≤ 8 := Nat.pow_le_pow_right (n := 2) (by decide) (show lv ≤ 3 from hlv4)
      have hp2 : 2 ^ (lv + 1) = 2 * 2 ^ lv := by rw [Nat.pow_succ]; omega
      have hrow : inRow l lv = (List.range (2 ^ lv)).map fun i => inT l (2 ^ lv + i) := rfl
      have hw : IntKind.wrap .i64 (((lv : Nat) : Int) - (1 : Int)) = (3 : Int) - ((m + 1 : Nat) : Int) := by rw [wrap64] <;> omega
      have hw1 : IntKind.wrap .i64 (((lv : Nat) : Int) + (1 : Int)) = ((lv + 1 : Nat) : Int) := by rw [wrap64] <;> omega
      have tn : ((lv : Nat) : Int).toNat = lv := by omega
      have tn1 : ((lv + 1 : Nat) : Int).toNat = lv + 1 := by omega
      rw [hw, hw1, tn, tn1]
      refine LoopP.ind (fun (z : (Option Addr × Nat × Nat) × Int × Unit) h' => ∃ (k : Nat) (B' : List Nat), z.2.1 = k ∧ k ≤ 2 ^ lv ∧ Buf EncS 9 B' h' z.1.1 z.1.2.1 z.1.2.2 ((List.range 16).map (leafT l) ++ ((List.range m).flatMap (fun d => inRow l (3 - d)) ++ (List.range k).map fun i => inT l (2 ^ lv + i))) ∧ Spl g2 B' h') (fun z _ => (((2 ^ lv : Nat) : Int) - z.2.1).toNat) ?_ ⟨0, B2, rfl, Nat.zero_le _, by simpa using hb2, s3⟩
      rintro ⟨⟨oA, oN, oC⟩, zk, u⟩ h4 ⟨k, B3, hzk, hk3, hb3, s4⟩
      dsimp only at hzk hb3
      subst hzk
      dsimp only
      have hon : oN ≤ 100 := by
        rw [hb3.1, List.length_append, List.length_append, List.length_map, List.length_map, List.length_range, List.length_range]
        have := pre_len l m
        omega
      obtain ⟨g0, n0, r0⟩ := lvs s4.sub lv (by omega)
      obtain ⟨g1, n1, r1⟩ := lvs s4.sub (lv + 1) (by omega)
      refine ⟨bv, 0, ⟨rfl, by omega, by omega⟩, _, _, _, g0, ?_⟩
      rw [n0]
      refine ⟨fun e5 => ?_, fun e5 => ?_⟩
      · have e5 : k < 2 ^ lv := Int.ofNat_lt.1 (of_decide_eq_true e5)
        have w1 : IntKind.wrap .i64 ((2 : Int) * ((k : Nat) : Int)) = ((2 * k : Nat) : Int) := by rw [wrap64] <;> omega
        have w2 : IntKind.wrap .i64 (((2 * k : Nat) : Int) + (1 : Int)) = ((2 * k + 1 : Nat) : Int) := by rw [wrap64] <;> omega
        have w5 : IntKind.wrap .i64 (((k : Nat) : Int) + (1 : Int)) = ((k + 1 : Nat) : Int) := by rw [wrap64] <;> omega
        have t1 : ((2 * k : Nat) : Int).toNat = 2 * k := by omega
        have t2 : ((2 * k + 1 : Nat) : Int).toNat = 2 * k + 1 := by omega
        rw [w1, w2, w5, t1, t2]
        obtain ⟨b1, o1, hA1, hr1⟩ := lv_rd r1 (i := 2 * k) (by omega)
        obtain ⟨b2, o2, hA2, hr2⟩ := lv_rd r1 (i := 2 * k + 1) (by omega)
        refine ⟨bv, 0, ⟨rfl, by omega, by show ((lv + 1 : Nat) : Int) < 5; omega⟩, _, _, _, g1, b1, o1, ⟨hA1, by omega, by rw [n1]; omega⟩, bi (nd l (2 ^ (lv + 1) + 2 * k)), by rw [bi_len, nd_len], hr1, bv, 0, ⟨rfl, by omega, by show ((lv + 1 : Nat) : Int) < 5; omega⟩, _, _, _, g1, b2, o2, ⟨hA2, by omega, by rw [n1]; omega⟩, bi (nd l (2 ^ (lv + 1) + (2 * k + 1))), by rw [bi_len, nd_len], hr2,
          cRInnerText (nd_len _ _) (nd_len _ _) fun h5 s5 => ⟨_, rfl, ?_⟩⟩
        have ht : innT (nd l (2 ^ (lv + 1) + 2 * k)) (nd l (2 ^ (lv + 1) + (2 * k + 1))) = inT l (2 ^ lv + k) := by
          unfold inT
          rw [show 2 ^ (lv + 1) + 2 * k = 2 * (2 ^ lv + k) by omega, show 2 ^ (lv + 1) + (2 * k + 1) = 2 * (2 ^ lv + k) + 1 by omega]
        rw [ht]
        refine (hb3.sub s5).append (new := [inT l (2 ^ lv + k)]) rfl rfl rfl (by omega) fun a' c' B' h' hb' hc' _ => ⟨⟨k + 1, B', rfl, by omega, ?_, ((s4.grow s5).spl.chg hc' hb'.has).spl⟩, by omega⟩
        rw [List.range_succ (n := k), List.map_append, ← List.append_assoc, ← List.append_assoc]
        rw [← List.append_assoc] at hb'
        exact hb'
      · have e5 : k = 2 ^ lv := by
          rcases Nat.lt_or_ge k (2 ^ lv) with h | h
          · exact absurd (Int.ofNat_lt.2 h) (of_decide_eq_false e5)
          · omega
        refine ⟨⟨m + 1, B3, rfl, by omega, ?_, s4⟩, by omega⟩
        rw [e5] at hb3
        have : ((List.range (m + 1)).flatMap fun d => inRow l (3 - d)) = ((List.range m).flatMap fun d => inRow l (3 - d)) ++ (List.range (2 ^ lv)).map fun i => inT l (2 ^ lv + i) := by
          rw [List.range_succ, List.flatMap_append, List.flatMap_cons, List.flatMap_nil, List.append_nil, hlv2, hrow]
        rw [this]; exact hb3
    · have e : m = 4 := by simp at e; omega
      subst e
      have := hb2.1
      subst this
      exact hk _ _ _ _ hb2 (s3.chg0 s2)
end TL

namespace TL
open Go Go.Proofs
variable {g h : PH} {N : List Nat} {K : Value → PH → Prop} {wb tb : Nat} {s : WS} {S T : List PrR}
open Classical in
/-- what a node does to a walk -/
noncomputable def nodeW (s : WS) (lv i : Int) (a b : List UInt8) : Bool × WS :=
  if h : ∃ k, (1 ≤ k ∧ k < 16) ∧ askP k = (lv, i) ∧ s.A k = some (shaN (innT a b)) then (true, wIn s h.choose a b) else (false, s)
open Classical in
/-- what a page does to a walk -/
noncomputable def pageW (s : WS) (i : Int) (l : List PrR) : Bool × WS :=
  if h : ∃ k : Nat, k < 16 ∧ i = k ∧ PgOk k l ∧ s.A (16 + k) = some (shaN (76 :: pageL l)) then (true, wPg s h.choose l) else (false, s)
theorem cWNodeV (x : WalkAt g N h wb s) (sp : Spl g N h) {lv i : Int} {a b : List UInt8} (ha : a.length = 32) (hb : b.length = 32) (hT : s.T.length ≤ 100000)
    (hk : ∀ N' h', WalkAt g N' h' wb (nodeW s lv i a b).2 → Stp g N h g N' h' → K (.bool (nodeW s lv i a b).1) h') :
    CallH Tryz.prog id_walk_Walk_Node [.pointer (some ⟨wb, 0, none⟩), .int .i64 lv, .int .i64 i, .agg (((bi a).map (Value.int .u8) ++ [])).toArray, .agg (((bi b).map (Value.int .u8) ++ [])).toArray] K h := by
  refine cWNode x sp ha hb hT (fun hn h' x' st => ?_) fun k N' h' k1 k2 ek hA x' st => ?_
  · have e : nodeW s lv i a b = (false, s) := dif_neg fun ⟨k, hk1, hk2, hk3⟩ => hn k hk1.1 hk1.2 hk2 hk3
    have := hk N h'
    rw [e] at this
    exact this x' st
  · have hex : ∃ k, (1 ≤ k ∧ k < 16) ∧ askP k = (lv, i) ∧ s.A k = some (shaN (innT a b)) := ⟨k, ⟨k1, k2⟩, ek, hA⟩
    have e : nodeW s lv i a b = (true, wIn s hex.choose a b) := dif_pos hex
    have hc := hex.choose_spec
    have ec : hex.choose = k := askP_inj _ (by omega) k (by omega) hc.1.1 k1 (hc.2.1.trans ek.symm)
    have := hk N' h'
    rw [e, ec] at this
    exact this x' st
theorem cWPageV (x : WalkAt g N h wb s) (sp : Spl g N h) {i : Int} {lA : Option Addr} {lC : Nat} {l : List PrR} (hl : SR EncPr g lA l) (hn : l.length ≤ 1000) (hs : ∀ x ∈ l, x.p.length ≤ 1000000) (hT : s.T.length ≤ 100000)
    (hk : ∀ g' N' h', WalkAt g' N' h' wb (pageW s i l).2 → Stp g N h g' N' h' → K (.bool (pageW s i l).1) h') :
    CallH Tryz.prog id_walk_Walk_Page [.pointer (some ⟨wb, 0, none⟩), .int .i64 i, .slice lA l.length lC] K h := by
  refine cWPage x sp hl hn hs hT (fun hno h' x' st => ?_) fun k g' N' h' k16 ek hok hA x' st => ?_
  · have e : pageW s i l = (false, s) := dif_neg fun ⟨k, hk1, hk2, hk3, hk4⟩ => hno k hk1 hk2 hk3 hk4
    have := hk g N h'
    rw [e] at this
    exact this x' st
  · have hex : ∃ k : Nat, k < 16 ∧ i = k ∧ PgOk k l ∧ s.A (16 + k) = some (shaN (76 :: pageL l)) := ⟨k, k16, ek, hok, hA⟩
    have e : pageW s i l = (true, wPg s hex.choose l) := dif_pos hex
    have hc := hex.choose_spec
    have ec : hex.choose = k := by have := hc.2.1; omega
    have := hk g' N' h'
    rw [e, ec] at this
    exact this x' st
theorem cBegin (sp : Spl g N h) {bA tA : Option Addr} {bC tC : Nat} {base to : List PrR} (hb : SR EncPr g bA base) (hbn : base.length ≤ 1000) (hbs : ∀ x ∈ base, x.p.length ≤ 1000000) (ht : SR EncPr g tA to) (htn : to.length ≤ 1000) (hts : ∀ x ∈ to, x.p.length ≤ 1000000)
    (hno : ¬ (mayB base = true ∧ base.length ≤ 48 ∧ mayB to = true ∧ to.length ≤ 48) → ∀ g' h' w t, Stp g N h g' N h' → (∀ b ∈ N, ∀ o, h b = some o → h' b = some o) → K (.tuple #[.pointer w, .pointer t, .bool false]) h')
    (hyes : mayB base = true → base.length ≤ 48 → mayB to = true → to.length ≤ 48 → ∀ wb tb N' g' h', WalkAt g' N' h' wb (wNew base (nd to 1)) → Tr tb g' to → Stp g N h g' (N' ++ N) h' → Dj N' N → K (.tuple #[.pointer (some ⟨wb, 0, none⟩), .pointer (some ⟨tb, 0, none⟩), .bool true]) h') :
    CallH Tryz.prog id_law16_begin [.slice bA base.length bC, .slice tA to.length tC] K h := by
  refine F_law16_begin_ok (sp.call (K := fun v g' => g.Sub g' ∧ ((mayB to = true ∧ to.length ≤ 48 ∧ ∃ b, Tr b g' to ∧ v = .tuple #[.pointer (some ⟨b, 0, none⟩), .int .i64 (0 : Int)]) ∨ (¬ (mayB to = true ∧ to.length ≤ 48) ∧ ∃ e : Int, (e = 1 ∨ e = 6) ∧ v = .tuple #[.pointer none, .int .i64 e])))
    (cOf3 ht htn hts (fun hok b h' ht _ c => ⟨c.sub0, .inl ⟨hok.1, hok.2, b, ht, rfl⟩⟩) fun hn e he _ => ⟨PH.Sub.rf _, .inr ⟨hn, e, he, rfl⟩⟩) ?_)
  rintro _ g1 h1 ⟨hgs, ⟨hm, h48, tb, htr, rfl⟩ | ⟨hnn, e, he, rfl⟩⟩ st
  · obtain ⟨st1, keep1⟩ := st hgs
    refine ⟨_, _, rfl, fun e => by simp at e, fun _ => cRoot (htr.sub st1.spl.sub) ⟨bi (nd to 1), by rw [bi_len, nd_len], rfl, ?_⟩⟩
    refine cWNew st1.spl (hb.sub hgs) hbn hbs (nd_len _ _) (fun hn e he g' h' st2 keep2 => ⟨_, _, rfl, ?_⟩) fun hbm hb48 wb N' g' h' x st2 d => ⟨_, _, rfl, ?_⟩
    · have e0 : ((e == (0 : Int)) && !(Option.isNone (none : Option Addr))) = false := by simp
      rw [e0]
      exact hno (fun hh => hn ⟨hh.1, hh.2.1⟩) g' h' _ _ (st1.trans st2) fun b hb o eo => keep2 b hb o (keep1 b hb o eo)
    · have e0 : (((0 : Int) == (0 : Int)) && !(Option.isNone (some ⟨wb, 0, none⟩ : Option Addr))) = true := rfl
      rw [e0]
      exact hyes hbm hb48 hm h48 wb tb N' g' h' x (htr.sub st2.gs) (st1.trans st2) d
  · obtain ⟨st1, keep1⟩ := st hgs
    refine ⟨_, _, rfl, fun _ => hno (fun hh => hnn ⟨hh.2.2.1, hh.2.2.2⟩) g1 h1 _ _ st1 keep1, fun e2 => ?_⟩
    rcases he with rfl | rfl <;> simp at e2
/-- what an answer out of a tree does to a walk -/
noncomputable def answerW (s : WS) (T : List PrR) (c : Nat) : Bool × WS :=
  if 16 ≤ c then pageW s ((c - 16 : Nat) : Int) (partB T (c - 16)) else nodeW s (askP c).1 (askP c).2 (nd T (2 * c)) (nd T (2 * c + 1))
theorem cAnswerV (x : WalkAt g N h wb s) (sp : Spl g N h) (ht : Tr tb g T) {c : Nat} (c1 : 1 ≤ c) (c2 : c < 32) (hT : s.T.length ≤ 100000)
    (hk : ∀ g' N' h', WalkAt g' N' h' wb (answerW s T c).2 → Stp g N h g' N' h' → K (.bool (answerW s T c).1) h') :
    CallH Tryz.prog id_law16_answer [.pointer (some ⟨wb, 0, none⟩), .pointer (some ⟨tb, 0, none⟩), .agg #[.int .i64 (askP c).1, .int .i64 (askP c).2]] K h := by
  by_cases h16 : 16 ≤ c
  · obtain ⟨e1, e2⟩ := askP_leaf c c2 h16
    obtain ⟨i, rfl⟩ : ∃ i, c = 16 + i := ⟨c - 16, by omega⟩
    have hi : i < 16 := by omega
    have ei : 16 + i - 16 = i := by omega
    rw [ei] at e2
    rw [e1, e2]
    refine F_law16_answer_ok ⟨fun _ => cPairs (ht.sub sp.sub) hi fun a' c' B' h1 hb1 cc1 => ⟨_, _, _, rfl, ?_⟩, fun e => by simp at e⟩
    have st1 := sp.new cc1
    have hsr : SR EncPr (PH.plus g h1 B') a' (partB T i) := (hb1.keep fun b hb o e => by rw [plus_in hb]; exact e).sr
    have x1 : WalkAt (PH.plus g h1 B') N h1 wb s := x.keep st1.gs fun q _ o e => cc1.sub0 q o e
    have hok := part_ok ht.may ht.le i
    have hpl : (partB T i).length ≤ 48 := Nat.le_trans (List.length_filter_le _ _) ht.le
    have ea : answerW s T (16 + i) = pageW s (i : Int) (partB T i) := by unfold answerW; rw [if_pos (by omega), ei]
    rw [ea] at hk
    refine cWPageV (l := partB T i) x1 st1.spl hsr (by omega) (fun y hy => ?_) hT fun g' N' h2 x2 st2 => ⟨_, rfl, hk g' N' h2 x2 (st1.trans st2)⟩
    have := (ok_len ((may_ok hok.1).1 y hy)).1
    omega
  · have c16 : c < 16 := by omega
    obtain ⟨q1, q2, q3⟩ := askP_kids c c16 c1
    have e1 : (askP c).1 = ((c.log2 : Nat) : Int) := rfl
    have e2 : (askP c).2 = ((c - 2 ^ c.log2 : Nat) : Int) := rfl
    have hl4 : ¬ ((c.log2 : Nat) : Int) = 4 := by omega
    have hlt := askP_in c c2 c1
    have w1 : IntKind.wrap .i64 ((askP c).1 + 1) = ((c.log2 + 1 : Nat) : Int) := by rw [e1, wrap64] <;> omega
    have hb16 : c - 2 ^ c.log2 < 32 := by omega
    have w2 : IntKind.wrap .i64 ((2 : Int) * (askP c).2) = ((2 * (c - 2 ^ c.log2) : Nat) : Int) := by rw [e2, wrap64] <;> omega
    have w3 : IntKind.wrap .i64 (((2 * (c - 2 ^ c.log2) : Nat) : Int) + 1) = ((2 * (c - 2 ^ c.log2) + 1 : Nat) : Int) := by rw [wrap64] <;> omega
    refine F_law16_answer_ok ⟨fun e => absurd (by simpa [e1] using e) hl4, fun _ => ?_⟩
    rw [w1, w2, w3]
    refine cNode (ht.sub sp.sub) q1 (by omega) ⟨bi (nd T (2 ^ (c.log2 + 1) + 2 * (c - 2 ^ c.log2))), by rw [bi_len, nd_len], _, rfl, cNode (ht.sub sp.sub) q1 q2 ⟨bi (nd T (2 ^ (c.log2 + 1) + (2 * (c - 2 ^ c.log2) + 1))), by rw [bi_len, nd_len], _, rfl, ?_⟩⟩
    have r2 : 2 ^ (c.log2 + 1) + (2 * (c - 2 ^ c.log2) + 1) = 2 * c + 1 := by omega
    rw [q3, r2]
    have ea : answerW s T c = nodeW s (askP c).1 (askP c).2 (nd T (2 * c)) (nd T (2 * c + 1)) := by unfold answerW; rw [if_neg (by omega)]
    rw [ea] at hk
    exact cWNodeV x sp (nd_len _ _) (nd_len _ _) hT fun N' h2 x2 st2 => ⟨_, rfl, hk g N' h2 x2 st2⟩
end TL

namespace TL
open Go Go.Proofs
variable {h : PH} {K : Value → PH → Prop}
/-- an act on a walk -/
structure Ac6 where
  d : Int
  x1 : Int
  x2 : Int
  x3 : Int
  a : Option Addr
  c : Nat
  ps : List PrR
def EncAc6 : Enc Ac6 where
  enc r := [.int .u8 r.d, .int .i64 r.x1, .int .i64 r.x2, .int .i64 r.x3, .slice r.a r.ps.length r.c]
  k := 5
  len _ := rfl
  one o v hv := by
    simp only [List.mem_cons, List.not_mem_nil, or_false] at hv
    rcases hv with rfl | rfl | rfl | rfl | rfl <;> rfl
  pos := by decide
def gAc6 (l : List Ac6) : Bool := decide (100 < l.length) || l.any fun r => gPrs r.ps
theorem cGreat16 {lA : Option Addr} {lC : Nat} {l : List Ac6} (hl : SR EncAc6 h lA l) (hs : ∀ r ∈ l, SR EncPr h r.a r.ps) (hk : K (.bool (gAc6 l)) h) : CallH Tryz.prog id_law16_Great [.slice lA l.length lC] K h := by
  refine F_law16_Great_ok ⟨fun e => ?_, fun e => ?_⟩
  · have e : 100 < l.length := by have := of_decide_eq_true e; omega
    simpa [gAc6, e] using hk
  · have e0 : ¬ 100 < l.length := by have := of_decide_eq_false e; omega
    refine LoopP.ind (fun (z : Int × Unit) h' => ∃ i : Nat, z.1 = i ∧ i ≤ l.length ∧ h' = h ∧ ∀ j, (hj : j < l.length) → j < i → gPrs l[j].ps = false) (fun z _ => (l.length - z.1).toNat) ?_ ⟨0, rfl, Nat.zero_le _, rfl, fun _ _ hj => absurd hj (Nat.not_lt_zero _)⟩
    rintro ⟨zi, u⟩ h1 ⟨i, hzi, hi, rfl, ha⟩
    dsimp only at hzi
    subst hzi
    dsimp only
    refine ⟨fun e1 => ?_, fun e1 => ?_⟩
    · have e1 : i < l.length := by have := of_decide_eq_true e1; omega
      have hit : ((i : Nat) : Int).toNat = i := by omega
      have hwi : IntKind.wrap .i64 (((i : Nat) : Int) + (1 : Int)) = ((i + 1 : Nat) : Int) := by rw [wrap64] <;> omega
      obtain ⟨b, o, hA, hr⟩ := hl.get e1
      rw [hit, hwi]
      refine ⟨b, o, ⟨hA, by omega, by omega⟩, _, _, _, hr _ 4 1 rfl (by decide), cGreatPairs (hs _ (List.getElem_mem e1)) ⟨_, rfl, fun e2 => ?_, fun e2 => ⟨⟨i + 1, rfl, by omega, rfl, fun j hj hji => ?_⟩, by omega⟩⟩⟩
      · have : gAc6 l = true := by
          simp only [gAc6, Bool.or_eq_true, List.any_eq_true]
          exact .inr ⟨_, List.getElem_mem e1, e2⟩
        rw [this] at hk; exact hk
      · by_cases hji2 : j = i
        · subst hji2; exact e2
        · exact ha j hj (by omega)
    · have e1 : i = l.length := by have := of_decide_eq_false e1; omega
      have : gAc6 l = false := by
        simp only [gAc6, Bool.or_eq_false_iff, List.any_eq_false]
        refine ⟨by simpa using e0, fun r hr => ?_⟩
        obtain ⟨j, hj, rfl⟩ := List.getElem_of_mem hr
        have := ha j hj (by omega)
        simp [this]
      rw [this] at hk; exact hk
end TL

namespace TL
open Go Go.Proofs
variable {s : WS} {lv i : Int} {a b : List UInt8} {l T : List PrR} {c : Nat}
/-- what each answer keeps: no node 0, few texts, the base, the root -/
structure KeepW (s s' : WS) : Prop where
  a0 : s.A 0 = none → s'.A 0 = none
  t : s'.T.length ≤ s.T.length + 1
  S : s'.S = s.S
  R : s'.R = s.R
theorem KeepW.rf (s : WS) : KeepW s s := ⟨id, Nat.le_succ _, rfl, rfl⟩
theorem wIn_keep {k : Nat} (h : 1 ≤ k) : KeepW s (wIn s k a b) := by
  refine ⟨fun h0 => ?_, by show (s.T ++ [_]).length ≤ _; rw [List.length_append]; simp, rfl, rfl⟩
  show wAsk _ (wAsk _ (upF s.A k none) _ _) _ _ 0 = none
  rw [wAsk_ne (by omega), wAsk_ne (by omega), upF_ne _ _ (by omega)]
  exact h0
theorem wPg_keep {k : Nat} : KeepW s (wPg s k l) := by
  refine ⟨fun h0 => ?_, by show (s.T ++ [_]).length ≤ _; rw [List.length_append]; simp, rfl, rfl⟩
  show upF s.A (16 + k) none 0 = none
  rw [upF_ne _ _ (by omega)]
  exact h0
theorem nodeW_keep : KeepW s (nodeW s lv i a b).2 := by
  unfold nodeW
  split
  · rename_i h
    exact wIn_keep h.choose_spec.1.1
  · exact KeepW.rf s
theorem pageW_keep : KeepW s (pageW s i l).2 := by
  unfold pageW
  split
  · exact wPg_keep
  · exact KeepW.rf s
theorem answerW_keep : KeepW s (answerW s T c).2 := by
  unfold answerW
  split
  · exact pageW_keep
  · exact nodeW_keep
end TL

namespace TL
open Go Go.Proofs
variable {g h : PH} {N : List Nat} {K : Value → PH → Prop} {wb ub tb : Nat} {s : WS} {S T : List PrR}
/-- a hash of one byte and noughts -/
def hx (n : Int) : List UInt8 := UInt8.ofNat (IntKind.wrap .u8 n).toNat :: List.replicate 31 0
theorem bi_z32 : List.replicate 32 (0 : Int) = bi (List.replicate 32 0) := bi_zero 32
theorem wList_in {A : Nat → Option (List UInt8)} (h0 : A 0 = none) {k : Nat} (hk : k ∈ wList A) : 1 ≤ k ∧ k < 32 := by
  obtain ⟨h1, h2⟩ := wList_mem.1 hk
  rcases Nat.eq_zero_or_pos k with rfl | h
  · rw [h0] at h2; cases h2
  · exact ⟨h, h1⟩
theorem cWWantG {M : List Nat} (x : WalkAt g N h wb s) (sp : Spl g M h) (h0 : s.A 0 = none) {n : Int} (hk : ∀ a' c' g' h', h.Sub h' → Stp g M h g' M h' → SR EncAsk g' a' (((wList s.A).map askP).take n.toNat) → K (.slice a' (((wList s.A).map askP).take n.toNat).length c') h') :
    CallH Tryz.prog id_walk_Walk_Want [.pointer (some ⟨wb, 0, none⟩), .int .i64 n] K h := by
  refine F_walk_Walk_Want_ok (cWNone x ⟨_, rfl, fun e => ?_, fun e => ?_⟩)
  · have e : n < 1 := by simpa using e
    have hn : n.toNat = 0 := by omega
    have := hk none 0 g h (PH.Sub.rf _) (Stp.refl sp) (by rw [hn]; exact .inl rfl)
    rw [hn] at this; exact this
  · have e : ¬ n < 1 := by simpa using e
    obtain ⟨⟨tb, ra, rp, esA, cA, esP, cP, tA, tN, tC, Bt, rfl, d1, d2, d3, d4, d5, d6, hw, ht, ha, hA, hp, hP, hB⟩, hR, hL⟩ := x
    have hlen : esA.length ≤ 1000 := by have := hA.len; omega
    refine ⟨wb, 0, rfl, _, wk_ask hw hR, F_maps_Keys_map_walk_Ask_api_Hash_walk_Ask_api_Hash_ok (nwL fun bm h1 _ hbm c1 => ⟨_, rfl, rfl, cSortedA hbm (c1.sub0 _ _ ha) (fun e he => ?_) hA.old hA.bn hlen fun l a' c' B' h2 hp2 hs2 hB2 cc2 => ⟨_, _, _, rfl, ?_, ?_⟩⟩)⟩
    · obtain ⟨k, _, _, hk⟩ := hA.key e he
      exact ⟨_, hk⟩
    · have := hB2.le
      unfold minV
      split <;> omega
    · have hl := asked_row hA h0 hp2 hs2
      have hle := hB2.le
      rw [← hl] at hk
      have e1 : (minV n ((l.length : Nat) : Int)).toNat = min n.toNat l.length := by unfold minV; split <;> omega
      have e2 : (minV n ((l.length : Nat) : Int)).toNat - (0 : Int).toNat = (l.take n.toNat).length := by rw [e1, List.length_take]; exact Nat.sub_zero _
      rw [e2]
      have hB3 : SR EncAsk (PH.plus g h2 B') a' l := (hB2.keep fun b hb o e => by rw [plus_in hb]; exact e).sr
      refine hk _ _ (PH.plus g h2 B') h2 (c1.sub0.tr cc2.sub0) (sp.new (Chg.from c1.sub0 cc2)) ?_
      have := hB3.slice (L := 0) (lo := 0) (hi := min n.toNat l.length) (mx := (c' : Int)) rfl (Nat.min_le_right _ _) (by omega)
      rw [List.drop_zero, Nat.sub_zero, take_min_len] at this
      exact this
end TL

namespace TL
open Go Go.Proofs
variable {g h : PH} {N : List Nat} {K : Value → PH → Prop} {wb ub tb : Nat} {s : WS} {S T : List PrR} {lv i : Int} {a b : List UInt8} {l : List PrR} {c : Nat}
theorem textsT_le (hm : mayB S = true) (hl : S.length ≤ 48) : ∀ t ∈ textsT S, t.length ≤ 1000000 := fun t ht => by
  have e : textsT S = codesT.map fun c => if c < 16 then leafT S c else inT S (c - 16) := texts_codes (leafT S) (inT S)
  rw [e] at ht
  obtain ⟨c, _, rfl⟩ := List.mem_map.1 ht
  split
  · have := leafT_le hm hl c; omega
  · rw [inT_len]; decide
/-- a walk that was begun and answered -/
structure WOk (s : WS) : Prop where
  inv : ∃ W X, WInv s W X
  ts : ∀ t ∈ s.T, t.length ≤ 1000000
  q16 : ∀ i l, s.Q i = some l → i < 16
theorem WOk.new {R : List UInt8} (hm : mayB S = true) (hl : S.length ≤ 48) (hR : R.length = 32) : WOk (wNew S R) := ⟨⟨_, _, WInv.new hm hl hR⟩, textsT_le hm hl, fun _ _ h => by cases h⟩
theorem nodeW_cases : nodeW s lv i a b = (false, s) ∨ ∃ k, (1 ≤ k ∧ k < 16) ∧ askP k = (lv, i) ∧ s.A k = some (shaN (innT a b)) ∧ nodeW s lv i a b = (true, wIn s k a b) := by
  unfold nodeW
  split
  · rename_i hh
    exact .inr ⟨hh.choose, hh.choose_spec.1, hh.choose_spec.2.1, hh.choose_spec.2.2, rfl⟩
  · exact .inl rfl
theorem pageW_cases : pageW s i l = (false, s) ∨ ∃ k : Nat, k < 16 ∧ i = k ∧ PgOk k l ∧ s.A (16 + k) = some (shaN (76 :: pageL l)) ∧ pageW s i l = (true, wPg s k l) := by
  unfold pageW
  split
  · rename_i hh
    exact .inr ⟨hh.choose, hh.choose_spec.1, hh.choose_spec.2.1, hh.choose_spec.2.2.1, hh.choose_spec.2.2.2, rfl⟩
  · exact .inl rfl
theorem WOk.inn (v : WOk s) (ha : a.length = 32) (hb : b.length = 32) (h16 : c < 16) (hA : s.A c = some (shaN (innT a b))) : WOk (wIn s c a b) := by
  obtain ⟨⟨W, X, v⟩, ht, hq⟩ := v
  refine ⟨⟨_, _, v.node ha hb h16 hA⟩, fun t hm => ?_, hq⟩
  rcases List.mem_append.1 hm with hm | hm
  · exact ht t hm
  · rw [List.mem_singleton] at hm; subst hm
    simp [innT, ha, hb]
theorem WOk.pg (v : WOk s) (h16 : c < 16) (hp : PgOk c l) (hA : s.A (16 + c) = some (shaN (76 :: pageL l))) : WOk (wPg s c l) := by
  obtain ⟨⟨W, X, v⟩, ht, hq⟩ := v
  refine ⟨⟨_, _, v.page h16 hp hA⟩, fun t hm => ?_, fun j m hj => ?_⟩
  · rcases List.mem_append.1 hm with hm | hm
    · exact ht t hm
    · rw [List.mem_singleton] at hm; subst hm
      have := page_len hp
      rw [List.length_cons]; omega
  · have hj : upF s.Q c (some l) j = some m := hj
    by_cases e : j = c
    · omega
    · rw [upF_ne _ _ e] at hj; exact hq j m hj
theorem WOk.node (v : WOk s) (ha : a.length = 32) (hb : b.length = 32) : WOk (nodeW s lv i a b).2 := by
  rcases nodeW_cases (s := s) (lv := lv) (i := i) (a := a) (b := b) with e | ⟨k, hk, _, hA, e⟩
  · rw [e]; exact v
  · rw [e]; exact v.inn ha hb hk.2 hA
theorem WOk.page (v : WOk s) : WOk (pageW s i l).2 := by
  rcases pageW_cases (s := s) (i := i) (l := l) with e | ⟨k, hk, _, hp, hA, e⟩
  · rw [e]; exact v
  · rw [e]; exact v.pg hk hp hA
theorem WOk.answer (v : WOk s) : WOk (answerW s T c).2 := by
  unfold answerW
  split
  · exact v.page
  · exact v.node (nd_len _ _) (nd_len _ _)
theorem WOk.a0 (v : WOk s) : s.A 0 = none := by
  obtain ⟨⟨W, X, v⟩, _, _⟩ := v
  exact (v.out 0 (.inl rfl)).1
theorem WOk.may (v : WOk s) : mayB s.S = true ∧ s.S.length ≤ 48 := by
  obtain ⟨⟨W, X, v⟩, _, _⟩ := v
  exact ⟨v.may, v.le⟩
theorem WOk.none (v : WOk s) (h : wList s.A = []) : ∀ c, s.A c = .none := by
  obtain ⟨⟨W, X, v⟩, _, _⟩ := v
  exact wList_nil v h
/-- an answer fits just where the tree's own hash is wanted -/
theorem answerW_yes (c1 : 1 ≤ c) (c2 : c < 32) (hm : mayB T = true) (h48 : T.length ≤ 48) (hA : s.A c = some (nd T c)) :
    (answerW s T c).1 = true ∧ (c < 16 → (answerW s T c).2 = wIn s c (nd T (2 * c)) (nd T (2 * c + 1))) ∧ (16 ≤ c → (answerW s T c).2 = wPg s (c - 16) (partB T (c - 16))) := by
  unfold answerW
  by_cases h16 : 16 ≤ c
  · rw [if_pos h16]
    obtain ⟨j, rfl⟩ : ∃ j, c = 16 + j := ⟨c - 16, by omega⟩
    have ej : 16 + j - 16 = j := by omega
    rw [ej]
    rcases pageW_cases (s := s) (i := (j : Int)) (l := partB T j) with e | ⟨k, hk, ek, _, _, e⟩
    · exfalso
      have hex : ∃ k : Nat, k < 16 ∧ (j : Int) = k ∧ PgOk k (partB T j) ∧ s.A (16 + k) = some (shaN (76 :: pageL (partB T j))) := ⟨j, by omega, rfl, part_ok hm h48 j, by rw [hA, nd_leaf (by omega)]⟩
      unfold pageW at e
      rw [dif_pos hex] at e
      simp at e
    · have : k = j := by omega
      subst this
      rw [e]
      exact ⟨rfl, fun h => by omega, fun _ => rfl⟩
  · rw [if_neg h16]
    rcases nodeW_cases (s := s) (lv := (askP c).1) (i := (askP c).2) (a := nd T (2 * c)) (b := nd T (2 * c + 1)) with e | ⟨k, hk, ek, _, e⟩
    · exfalso
      have hex : ∃ k, (1 ≤ k ∧ k < 16) ∧ askP k = ((askP c).1, (askP c).2) ∧ s.A k = some (shaN (innT (nd T (2 * c)) (nd T (2 * c + 1)))) := ⟨c, ⟨c1, by omega⟩, rfl, by rw [hA, nd_in c1 (by omega)]⟩
      unfold nodeW at e
      rw [dif_pos hex] at e
      simp at e
    · have : k = c := askP_inj k (by omega) c c2 hk.1 c1 ek
      subst this
      rw [e]
      exact ⟨rfl, fun _ => rfl, fun h => absurd h h16⟩
theorem answerW_no (c2 : c < 32) (hA : s.A c ≠ some (nd T c)) (c1 : 1 ≤ c) : answerW s T c = (false, s) := by
  unfold answerW
  by_cases h16 : 16 ≤ c
  · rw [if_pos h16]
    rcases pageW_cases (s := s) (i := ((c - 16 : Nat) : Int)) (l := partB T (c - 16)) with e | ⟨k, hk, ek, _, h, _⟩
    · exact e
    · exfalso
      have : k = c - 16 := by omega
      subst this
      rw [← nd_leaf (by omega), show 16 + (c - 16) = c by omega] at h
      exact hA h
  · rw [if_neg h16]
    rcases nodeW_cases (s := s) (lv := (askP c).1) (i := (askP c).2) (a := nd T (2 * c)) (b := nd T (2 * c + 1)) with e | ⟨k, hk, ek, h, _⟩
    · exact e
    · exfalso
      have : k = c := askP_inj k (by omega) c c2 hk.1 c1 ek
      subst this
      rw [← nd_in hk.1 hk.2] at h
      exact hA h
theorem nodeW_size : wSize (nodeW s lv i a b).2.A ≤ wSize s.A := by
  rcases nodeW_cases (s := s) (lv := lv) (i := i) (a := a) (b := b) with e | ⟨k, hk, _, hA, e⟩
  · rw [e]; exact Nat.le_refl _
  · rw [e]; have := wSize_in (x := a) (y := b) hk.1 hk.2 hA; dsimp only; omega
theorem pageW_size : wSize (pageW s i l).2.A ≤ wSize s.A := by
  rcases pageW_cases (s := s) (i := i) (l := l) with e | ⟨k, hk, _, _, hA, e⟩
  · rw [e]; exact Nat.le_refl _
  · rw [e]; have := wSize_pg (l := l) hk hA; dsimp only; omega
theorem answerW_size : wSize (answerW s T c).2.A ≤ wSize s.A := by
  unfold answerW
  split
  · exact pageW_size
  · exact nodeW_size
theorem answerW_less (c1 : 1 ≤ c) (c2 : c < 32) (hm : mayB T = true) (h48 : T.length ≤ 48) (hA : s.A c = some (nd T c)) : wSize (answerW s T c).2.A + 1 ≤ wSize s.A := by
  obtain ⟨_, e1, e2⟩ := answerW_yes c1 c2 hm h48 hA
  by_cases h16 : c < 16
  · rw [e1 h16]; exact wSize_in c1 h16 hA
  · rw [e2 (by omega)]; exact wSize_pg (by omega) (by rw [show 16 + (c - 16) = c by omega]; exact hA)
/-- no two unlike texts of one hash: what is asked for is the tree's -/
theorem WOk.asks (v : WOk s) (hR : s.R = nd T 1) {L : List (List UInt8)} (hno : NoColl L L.length) (h1 : ∀ t ∈ s.T, t ∈ L) (h2 : ∀ t ∈ textsT T, t ∈ L) : ∀ c x, s.A c = some x → x = nd T c := fun c x hA => by
  obtain ⟨⟨W, X, v⟩, _, _⟩ := v
  obtain ⟨c1, c2, hk, _, rfl, _⟩ := v.asked hA
  exact v.wants hR hno h1 h2 c c1 c2 hk
/-- .. and when all is answered, its parts are the tree's -/
theorem WOk.parts (v : WOk s) (hR : s.R = nd T 1) (hm : mayB T = true) (h48 : T.length ≤ 48) (hd : ∀ c, s.A c = Option.none) {L : List (List UInt8)} (hno : NoColl L L.length) (h1 : ∀ t ∈ s.T, t ∈ L) (h2 : ∀ t ∈ textsT T, t ∈ L) : ∀ i, i < 16 → wPart s i = partB T i := by
  obtain ⟨⟨W, X, v⟩, _, _⟩ := v
  obtain ⟨H, TX, hv⟩ := v.vt hd
  rw [hR] at hv
  exact hv.inj (VT.tree hm h48) hno h1 h2
theorem WOk.q (v : WOk s) : ∀ i l, s.Q i = some l → PgOk i l := fun i l hq => by
  obtain ⟨⟨W, X, v⟩, _, v3⟩ := v
  have hi := v3 i l hq
  obtain ⟨t, ht⟩ := Option.isSome_iff_exists.1 (v.q i l hi hq)
  obtain ⟨m, h1, h2, _⟩ := v.lf i t hi ht
  rw [hq] at h1; cases h1
  exact h2
theorem flat_parts (T : List PrR) : ((List.range 16).flatMap fun i => partB T i).Perm T := perm_parts 16 T fun x _ => bkt_lt x.p
theorem done_perm (hp : ∀ i, i < 16 → wPart s i = partB T i) : (wDone s).Perm T := by
  have : wDone s = (List.range 16).flatMap fun i => partB T i := by
    unfold wDone
    apply congrArg List.flatten
    exact List.map_congr_left fun i hi => hp i (List.mem_range.1 hi)
  rw [this]
  exact flat_parts T
theorem WOk.part (v : WOk s) : ∀ i, i < 16 → PgOk i (wPart s i) := fun i _ => by
  unfold wPart
  cases e : s.Q i with
  | none => exact part_ok v.may.1 v.may.2 i
  | some l => exact v.q i l e
structure KeepN (s s' : WS) (n : Nat) : Prop where
  S : s'.S = s.S
  R : s'.R = s.R
  T : s'.T.length ≤ s.T.length + n
/-- all that is asked for is answered by a tree -/
theorem cRest (x : WalkAt g N h wb s) (sp : Spl g N h) (tr : Tr tb g T) (v : WOk s) (hn : s.T.length ≤ 90000) (hz : wSize s.A ≤ 31)
    (hk : ∀ s' g' N' h' n, WOk s' → s'.S = s.S → s'.R = s.R → s'.T.length ≤ s.T.length + 40 → WalkAt g' N' h' wb s' → Stp g N h g' N' h' → (n < 0 ∧ (∃ c, 1 ≤ c ∧ c < 32 ∧ (s'.A c).isSome = true ∧ s'.A c ≠ some (nd T c)) ∨ (0 ≤ n ∧ ∀ c, s'.A c = none)) → K (.int .i64 n) h') :
    CallH Tryz.prog id_law16_rest [.pointer (some ⟨wb, 0, none⟩), .pointer (some ⟨tb, 0, none⟩)] K h := by
  have hm := tr.may
  have h48 := tr.le
  refine F_law16_rest_ok (LoopP.ind (fun (z : Int × Unit) h' => ∃ (i : Nat) (s' : WS) (g' : PH) (N' : List Nat), z.1 = i ∧ i ≤ 31 ∧ WOk s' ∧ KeepN s s' i ∧ WalkAt g' N' h' wb s' ∧ Stp g N h g' N' h' ∧ wSize s'.A + i ≤ 31) (fun z _ => (31 - z.1).toNat) ?_ ⟨0, s, g, N, rfl, by omega, v, ⟨rfl, rfl, Nat.le_refl _⟩, x, Stp.refl sp, by omega⟩)
  rintro ⟨zi, u⟩ h1 ⟨i, s1, g1, N1, hzi, hi, v1, k1, x1, st1, hw1⟩
  dsimp only at hzi
  subst hzi
  dsimp only
  refine ⟨fun _ => ?_, fun e => ?_⟩
  · refine cWWantG x1 st1.spl v1.a0 fun lA lC g2 h2 s2 st2 hl => ⟨_, _, _, rfl, fun e => ?_, fun e => ?_⟩
    · have hw : wList s1.A = [] := by
        have e : (((wList s1.A).map askP).take (1 : Int).toNat).length = 0 := by simpa using e
        have e : min 1 (wList s1.A).length = 0 := by rw [List.length_take, List.length_map] at e; exact e
        exact List.length_eq_zero_iff.1 (by omega)
      exact hk s1 g2 N1 h2 _ v1 k1.S k1.R (by have := k1.T; omega) (x1.keep st2.gs fun q _ o e => s2 q o e) (st1.trans st2) (.inr ⟨by omega, v1.none hw⟩)
    · have e : (((wList s1.A).map askP).take (1 : Int).toNat).length ≠ 0 := by simpa using e
      have h0 : 0 < (((wList s1.A).map askP).take (1 : Int).toNat).length := by omega
      obtain ⟨bb, oo, hA2, hr2⟩ := (hl.sub st2.spl.sub).get h0
      obtain ⟨c, hc, hc2⟩ : ∃ c ∈ wList s1.A, askP c = (((wList s1.A).map askP).take (1 : Int).toNat)[0] := by
        obtain ⟨c, hc, e⟩ := List.mem_map.1 (List.mem_of_mem_take (List.getElem_mem h0))
        exact ⟨c, hc, e⟩
      obtain ⟨c1, c2⟩ := wList_in v1.a0 hc
      have hsome := (wList_mem.1 hc).2
      have hrd := hr2 _ 0 2 rfl (by decide)
      rw [← hc2] at hrd
      refine ⟨bb, oo, ⟨hA2, by decide, by omega⟩, _, _, hrd, ?_⟩
      have hT1 := k1.T
      refine cAnswerV (x1.keep st2.gs fun q _ o e => s2 q o e) st2.spl (tr.sub (st1.gs.tr st2.gs)) c1 c2 (by omega) fun g3 N3 h3 x3 st3 => ⟨_, rfl, fun e3 => ?_, fun e3 => ?_⟩
      · have hne : s1.A c ≠ some (nd T c) := fun h => by rw [(answerW_yes c1 c2 hm h48 h).1] at e3; cases e3
        rw [answerW_no c2 hne c1] at x3
        exact hk s1 g3 N3 h3 _ v1 k1.S k1.R (by have := k1.T; omega) x3 (st1.trans (st2.trans st3)) (.inl ⟨by decide, c, c1, c2, hsome, hne⟩)
      · have he : s1.A c = some (nd T c) := Classical.byContradiction fun h => by rw [answerW_no c2 h c1] at e3; cases e3
        have hls := answerW_less c1 c2 hm h48 he
        have hwi : IntKind.wrap .i64 (((i : Nat) : Int) + (1 : Int)) = ((i + 1 : Nat) : Int) := by rw [wrap64] <;> omega
        have kp := answerW_keep (s := s1) (T := T) (c := c)
        rw [hwi]
        exact ⟨⟨i + 1, _, g3, N3, rfl, by omega, v1.answer, ⟨kp.S.trans k1.S, kp.R.trans k1.R, by have := kp.t; omega⟩, x3, st1.trans (st2.trans st3), by omega⟩, by omega⟩
  · have := of_decide_eq_false e
    omega
/-- do texts of a walk, of a tree, of pairs collide? -/
theorem cColl16 (x : WalkAt g N h wb s) (tr : Tr tb h T) (v : WOk s) (hn : s.T.length ≤ 90000) {lA : Option Addr} {lC : Nat} (hl : SR EncPr h lA l) (hm : mayB l = true) (h48 : l.length ≤ 48)
    (hk : ∀ c h', (c = false → NoColl (s.T ++ textsT T ++ textsT l) (s.T ++ textsT T ++ textsT l).length) → h.Sub h' → K (.bool c) h') :
    CallH Tryz.prog id_law16_collides [.pointer (some ⟨wb, 0, none⟩), .pointer (some ⟨tb, 0, none⟩), .slice lA l.length lC] K h := by
  have tl : ∀ S : List PrR, (textsT S).length = 31 := texts_len
  refine F_law16_collides_ok (cWTexts x (by omega) fun a1 c1 B1 h1 hb1 cc1 => ⟨_, _, _, rfl, cTexts (tr.sub cc1.sub0) fun a2 c2 B2 h2 hb2 cc2 => ⟨_, _, _, rfl, EncS.row (textsT T), hb2.sr.src, ?_⟩⟩)
  refine (hb1.sub cc2.sub0).append (new := textsT T) rfl rfl rfl (by rw [tl]; omega) fun a3 c3 B3 h3 hb3 cc3 _ => ?_
  have cA : Chg [] B3 h h3 := (cc1.trans ⟨fun b o _ e => cc2.sub0 b o e, fun b hb => .inl hb⟩).trans cc3
  have s3 : h.Sub h3 := cA.sub0
  refine cRTexts (hl.sub s3) hm h48 fun a4 c4 B4 h4 hb4 cc4 => ⟨_, _, _, rfl, EncS.row (textsT l), hb4.sr.src, ?_⟩
  refine (hb3.sub cc4.sub0).append (new := textsT l) rfl rfl rfl (by rw [tl, tl]; omega) fun a5 c5 B5 h5 hb5 cc5 _ => ?_
  have hlen := hb5.1
  rw [hlen]
  have cB : Chg [] B5 h h5 := (cA.trans ⟨fun b o _ e => cc4.sub0 b o e, fun b hb => .inl hb⟩).trans cc5
  refine cCollides hb5.sr (by rw [List.length_append, List.length_append, tl, tl]; omega) (fun t ht => ?_) fun c h6 hc s6 => ⟨_, rfl, hk c h6 hc (cB.sub0.tr s6)⟩
  rcases List.mem_append.1 ht with ht | ht
  · rcases List.mem_append.1 ht with ht | ht
    · exact v.ts t ht
    · exact textsT_le tr.may tr.le t ht
  · exact textsT_le hm h48 t ht
end TL

namespace TL
open Go Go.Proofs
variable {g h : PH} {N : List Nat} {K : Value → PH → Prop} {wb ub tb : Nat} {s : WS} {S T : List PrR}
theorem askGet {A : Nat → Option (List UInt8)} (h0 : A 0 = none) {n k : Nat} (hk : k < (((wList A).map askP).take n).length) : ∃ c, 1 ≤ c ∧ c < 32 ∧ (A c).isSome = true ∧ askP c = (((wList A).map askP).take n)[k] := by
  obtain ⟨c, hc, e⟩ := List.mem_map.1 (List.mem_of_mem_take (List.getElem_mem hk))
  obtain ⟨c1, c2⟩ := wList_in h0 hc
  exact ⟨c, c1, c2, (wList_mem.1 hc).2, e⟩
theorem turn_in (n : Int) {m : Nat} (hm : 0 < m) (hm2 : m ≤ 1000000) : (n.tmod (m : Int) < 0 → 0 ≤ IntKind.wrap .i64 (n.tmod (m : Int) + (m : Int)) ∧ IntKind.wrap .i64 (n.tmod (m : Int) + (m : Int)) < m) ∧ (¬ n.tmod (m : Int) < 0 → 0 ≤ n.tmod (m : Int) ∧ n.tmod (m : Int) < m) := by
  have h1 : n.tmod (m : Int) < m := Int.tmod_lt_of_pos n (by omega)
  have h2 : -(m : Int) < n.tmod (m : Int) := Int.lt_tmod_of_pos n (by omega)
  refine ⟨fun h => ?_, fun h => by omega⟩
  rw [wrap64 (by omega) (by omega)]
  omega
/-- a walk that other things came to -/
structure LvI (g0 : PH) (to : List PrR) (tb wb : Nat) (g : PH) (N : List Nat) (h : PH) (s : WS) (n : Nat) : Prop where
  v : WOk s
  R : s.R = nd to 1
  t : s.T.length ≤ 31 + n
  z : wSize s.A ≤ 31
  x : WalkAt g N h wb s
  st : Stp g0 [] g0 g N h
  tr : Tr tb g to
theorem cLawNode {lv i : Nat} (x : Tr tb h S) (hl : lv ≤ 4) (hi : i < 2 ^ lv) (hk : K (.agg (((bi (nd S (2 ^ lv + i))).map (Value.int .u8) ++ [])).toArray) h) :
    CallH Tryz.prog id_law16_node [.pointer (some ⟨tb, 0, none⟩), .int .i64 (lv : Int), .int .i64 (i : Int)] K h :=
  F_law16_node_ok (cNode x hl hi ⟨bi (nd S (2 ^ lv + i)), by rw [bi_len, nd_len], true, rfl, hk⟩)
theorem WalkLevel_den {bA tA lA : Option Addr} {bC tC lC : Nat} {base to : List PrR} {l : List Ac6} (hb : SR EncPr h bA base) (ht : SR EncPr h tA to) (hl : SR EncAc6 h lA l) (hs : ∀ r ∈ l, SR EncPr h r.a r.ps) (hk : ∀ h', h.Sub h' → K (.bool true) h') :
    CallH Tryz.prog id_law16_WalkLevel [.slice bA base.length bC, .slice tA to.length tC, .slice lA l.length lC] K h := by
  refine F_law16_WalkLevel_ok ⟨fun _ h' => h' = h ∧ gAc6 l = false ∧ gPrs base = false ∧ gPrs to = false, cGreat16 hl hs ⟨_, rfl, fun g1 => cGreatPairs hb ⟨_, rfl, fun g2 => cGreatPairs ht ⟨_, rfl, fun _ => wk16 (PH.Sub.rf _) hk, fun g3 => ⟨rfl, g1, g2, g3⟩⟩, fun _ => wk16 (PH.Sub.rf _) hk⟩, fun _ => wk16 (PH.Sub.rf _) hk⟩, ?_⟩
  rintro _ h1 ⟨rfl, g1, g2, g3⟩
  obtain ⟨b1, b2⟩ := gPrs_no g2
  obtain ⟨t1, t2⟩ := gPrs_no g3
  obtain ⟨l1, l2⟩ : l.length ≤ 100 ∧ ∀ r ∈ l, gPrs r.ps = false := by
    simpa only [gAc6, Bool.or_eq_false_iff, List.any_eq_false, decide_eq_false_iff_not, Nat.not_lt, Bool.not_eq_true] using g1
  have hbp : ∀ x ∈ base, x.p.length ≤ 1000000 := fun x hx => by have := (b2 x hx).1; omega
  have htp : ∀ x ∈ to, x.p.length ≤ 1000000 := fun x hx => by have := (t2 x hx).1; omega
  refine cBegin (Spl.start h1) hb (by omega) hbp ht (by omega) htp (fun _ g' h' w t st _ => ⟨_, _, _, rfl, fun _ => wk16 st.gh hk, fun e => by cases e⟩) fun m1 m2 m3 m4 wb tb N2 g2 h2 x2 tr2 st2 _ => ⟨_, _, _, rfl, fun e => (by cases e), fun _ => ?_⟩
  rw [List.append_nil] at st2
  have hT0 : (wNew base (nd to 1)).T.length ≤ 31 := Nat.le_of_eq (texts_len base)
  refine LoopP.ind (fun (z : Int × Unit) h' => ∃ (i : Nat) (s : WS) (g' : PH) (N' : List Nat), z.1 = i ∧ i ≤ l.length ∧ LvI h1 to tb wb g' N' h' s i) (fun z _ => (l.length - z.1).toNat) ?_ ⟨0, _, g2, N2, rfl, Nat.zero_le _, WOk.new m1 m2 (nd_len _ _), rfl, hT0, wSize_new _ _, x2, st2, tr2⟩
  rintro ⟨zi, u⟩ h4 ⟨i, s, g4, N4, hzi, hi, I⟩
  dsimp only at hzi
  subst hzi
  dsimp only
  have hT := I.t
  have sp4 := I.st.spl
  refine ⟨fun e => ?_, fun e => ?_⟩
  · have e : i < l.length := by have := of_decide_eq_true e; omega
    have hit : ((i : Nat) : Int).toNat = i := by omega
    have hwi : IntKind.wrap .i64 (((i : Nat) : Int) + (1 : Int)) = ((i + 1 : Nat) : Int) := by rw [wrap64] <;> omega
    obtain ⟨b4, o4, hA4, hr4⟩ := (hl.sub I.st.gh).get e
    have hps := (hs _ (List.getElem_mem e)).sub I.st.gs
    obtain ⟨p1, p2⟩ := gPrs_no (l2 _ (List.getElem_mem e))
    have pp : ∀ x ∈ l[i].ps, x.p.length ≤ 1000000 := fun x hx => by have := (p2 x hx).1; omega
    rw [hit, hwi]
    refine ⟨fun _ h' => ∃ s' g' N', LvI h1 to tb wb g' N' h' s' (i + 1), ?_, fun _ h' ⟨s', g', N', q⟩ => ⟨⟨i + 1, s', g', N', rfl, by omega, q⟩, by omega⟩⟩
    refine ⟨b4, o4, ⟨hA4, by omega, by omega⟩, l[i].d, l[i].x1, l[i].x2, l[i].x3, l[i].a, l[i].ps.length, l[i].c, hr4 _ 0 5 rfl (by decide), fun _ => ?_, fun _ => ⟨fun _ => ?_, fun _ => ⟨fun _ => ?_, fun _ => ?_⟩⟩⟩
    · refine cWWantG I.x sp4 I.v.a0 fun aA aC g5 h5 s5 st5 hl5 => ⟨_, _, _, rfl, fun e5 => ?_, fun _ => ?_⟩
      · have h0 : 0 < (((wList s.A).map askP).take (40 : Int).toNat).length := by have := of_decide_eq_true e5; omega
        have hle : (((wList s.A).map askP).take (40 : Int).toNat).length ≤ 1000000 := by
          have := wList_le s.A
          rw [List.length_take, List.length_map]; omega
        obtain ⟨q1, q2⟩ := turn_in l[i].x1 h0 hle
        have main : ∀ k : Int, 0 ≤ k → k < (((wList s.A).map askP).take (40 : Int).toNat).length →
            ∃ bv_2 ov_2 : Nat, (aA = some ⟨bv_2, ov_2, none⟩ ∧ 0 ≤ k ∧ k < ((((wList s.A).map askP).take (40 : Int).toNat).length : Nat)) ∧
            ∃ t0_2 : Int, ∃ t1_2 : Int, (h5.rds bv_2 (ov_2 + k.toNat * 2) 2 = some [.int .i64 t0_2, .int .i64 t1_2]) ∧
            CallH Tryz.prog id_law16_answer [.pointer (some ⟨wb, 0, none⟩), .pointer (some ⟨tb, 0, none⟩), .agg #[.int .i64 t0_2, .int .i64 t1_2]] (fun v_10 h14 => ∃ t_8 : Bool, v_10 = .bool t_8 ∧ ∃ s' g' N', LvI h1 to tb wb g' N' h14 s' (i + 1)) h5 := fun k k0 k1 => by
          obtain ⟨k, rfl⟩ : ∃ m : Nat, k = m := ⟨k.toNat, by omega⟩
          have hkl : k < (((wList s.A).map askP).take (40 : Int).toNat).length := by omega
          have hkt : ((k : Nat) : Int).toNat = k := by omega
          obtain ⟨bb, oo, hA5, hr5⟩ := (hl5.sub st5.spl.sub).get hkl
          obtain ⟨c, c1, c2, hc, hc2⟩ := askGet I.v.a0 hkl
          have hrd := hr5 _ 0 2 rfl (by decide)
          rw [← hc2] at hrd
          rw [hkt]
          refine ⟨bb, oo, ⟨hA5, by omega, by omega⟩, _, _, hrd, ?_⟩
          have kp := answerW_keep (s := s) (T := to) (c := c)
          refine cAnswerV (I.x.keep st5.gs fun q _ o e => s5 q o e) st5.spl (I.tr.sub st5.gs) c1 c2 (by omega) fun g6 N6 h6 x6 st6 => ⟨_, rfl, _, g6, N6, I.v.answer, kp.R.trans I.R, by have := kp.t; omega, by have := answerW_size (s := s) (T := to) (c := c); have := I.z; omega, x6, I.st.trans (st5.trans st6), I.tr.sub (st5.gs.tr st6.gs)⟩
        refine ⟨by omega, fun e6 => ?_, fun e6 => ?_⟩
        · have := q1 (of_decide_eq_true e6)
          exact main _ this.1 this.2
        · have := q2 (of_decide_eq_false e6)
          exact main _ this.1 this.2
      · exact ⟨s, g5, N4, I.v, I.R, by omega, I.z, I.x.keep st5.gs fun q _ o e => s5 q o e, I.st.trans st5, I.tr.sub st5.gs⟩
    · refine cLawNode (lv := 1) (i := 1) (I.tr.sub sp4.sub) (by decide) (by decide) ⟨bi (nd to 3), by rw [bi_len, nd_len], rfl, cLawNode (lv := 1) (i := 0) (I.tr.sub sp4.sub) (by decide) (by decide) ⟨bi (nd to 2), by rw [bi_len, nd_len], rfl, ?_⟩⟩
      have kp := nodeW_keep (s := s) (lv := l[i].x2) (i := l[i].x3) (a := nd to 3) (b := nd to 2)
      exact cWNodeV I.x sp4 (nd_len _ _) (nd_len _ _) (by omega) fun N6 h6 x6 st6 => ⟨_, rfl, _, g4, N6, I.v.node (nd_len _ _) (nd_len _ _), kp.R.trans I.R, by have := kp.t; omega, Nat.le_trans nodeW_size I.z, x6, I.st.trans st6, I.tr⟩
    · have kp := pageW_keep (s := s) (i := l[i].x3) (l := l[i].ps)
      exact cWPageV I.x sp4 hps (by omega) pp (by omega) fun g6 N6 h6 x6 st6 => ⟨_, rfl, _, g6, N6, I.v.page, kp.R.trans I.R, by have := kp.t; omega, Nat.le_trans pageW_size I.z, x6, I.st.trans st6, I.tr.sub st6.gs⟩
    · have kp := nodeW_keep (s := s) (lv := l[i].x2) (i := l[i].x3) (a := List.replicate 32 0) (b := List.replicate 32 0)
      rw [bi_z32]
      exact cWNodeV I.x sp4 (by simp) (by simp) (by omega) fun N6 h6 x6 st6 => ⟨_, rfl, _, g4, N6, I.v.node (by simp) (by simp), kp.R.trans I.R, by have := kp.t; omega, Nat.le_trans nodeW_size I.z, x6, I.st.trans st6, I.tr⟩
  · refine cRest I.x sp4 I.tr I.v (by omega) I.z fun s5 g5 N5 h5 n v5 hS5 hR5 hT5 x5 st5 hn => ⟨_, rfl, fun e5 => ?_, fun e5 => ?_⟩
    · have e5 := of_decide_eq_true e5
      obtain ⟨_, c, c1, c2, hc, hne⟩ : n < 0 ∧ (∃ c, 1 ≤ c ∧ c < 32 ∧ (s5.A c).isSome = true ∧ s5.A c ≠ some (nd to c)) := by
        rcases hn with hn | hn
        · exact hn
        · omega
      refine cColl16 (l := []) x5 (I.tr.sub st5.gh) v5 (by omega) (.inl rfl) nil_may.1 nil_may.2 fun cc h6 hcc s6 => ⟨_, rfl, fun _ => wk16 ((I.st.trans st5).gh.tr s6) hk, fun e6 => ?_⟩
      exfalso
      obtain ⟨y, hy⟩ := Option.isSome_iff_exists.1 hc
      refine hne ?_
      rw [hy, v5.asks (hR5.trans I.R) (hcc e6) (fun t ht => by simp [ht]) (fun t ht => by simp [ht]) c y hy]
    · have e5 := of_decide_eq_false e5
      have hd : ∀ c, s5.A c = none := by
        rcases hn with hn | hn
        · omega
        · exact hn.2
      have tr5 : Tr tb g5 to := I.tr.sub st5.gs
      have hparts : ∀ {L : List (List UInt8)}, NoColl L L.length → (∀ t ∈ s5.T, t ∈ L) → (∀ t ∈ textsT to, t ∈ L) → ∀ i, i < 16 → wPart s5 i = partB to i := fun {L} h1 h2 h3 => v5.parts (hR5.trans I.R) m3 m4 hd h1 h2 h3
      have s15 : h1.Sub h5 := (I.st.trans st5).gh
      -- the texts collide
      have coll : ∀ {h6 : PH} {mA : Option Addr} {mC : Nat} {m : List PrR}, h5.Sub h6 → SR EncPr h6 mA m → mayB m = true → m.length ≤ 48 → ¬ (∀ i, i < 16 → wPart s5 i = partB to i) →
          CallH Tryz.prog id_law16_collides [.pointer (some ⟨wb, 0, none⟩), .pointer (some ⟨tb, 0, none⟩), .slice mA m.length mC] (fun v_26 h31 => ∃ t_21 : Bool, v_26 = .bool t_21 ∧ ((t_21 = true → CallH Tryz.prog id_law16_wakes [] (fun v_27 h32 => ∃ t_22 : Bool, v_27 = .bool t_22 ∧ K (.bool t_22) h32) h31) ∧ (t_21 = false → K (.bool false) h31))) h6 := fun {h6 mA mC m} s6 hm hmay h48 hno => by
        have x6 : WalkAt g5 N5 h6 wb s5 := x5.keep (PH.Sub.rf _) fun q _ o e => s6 q o e
        refine cColl16 x6 (tr5.sub (st5.spl.sub.tr s6)) v5 (by omega) hm hmay h48 fun cc h7 hcc s7 => ⟨_, rfl, fun _ => wk16 (s15.tr (s6.tr s7)) hk, fun e7 => ?_⟩
        exact absurd (hparts (hcc e7) (fun t ht => by simp [ht]) (fun t ht => by simp [ht])) hno
      refine cWDone x5 st5.spl (fun i l hq => (v5.q i l hq).2.2) (fun hh h6 s6 => ?_) fun _ h48 l6 a6 c6 B6 h6 hp6 hs6 hb6 cc6 => ?_
      · refine ⟨_, _, _, _, rfl, fun _ h' => h5.Sub h' ∧ ¬ (∀ i, i < 16 → wPart s5 i = partB to i), ⟨fun e => (by cases e), fun _ => ⟨s6, fun hp => ?_⟩⟩, fun _ h7 ⟨s7, hno⟩ => coll (m := []) s7 (.inl rfl) nil_may.1 nil_may.2 hno⟩
        have := (done_perm hp).length_eq
        rcases hh with ⟨k, _, _, hk⟩ | ⟨_, hh⟩
        · rw [hd k] at hk; cases hk
        · omega
      · have hl48 : l6.length ≤ 48 := by rw [hp6.length_eq]; exact h48
        obtain ⟨hmay, _⟩ := parts_up v5.part hp6 hs6
        have s56 := cc6.sub0
        refine ⟨_, _, _, _, rfl, fun _ h' => h6.Sub h' ∧ ¬ (∀ i, i < 16 → wPart s5 i = partB to i), ⟨fun _ => ?_, fun e => by cases e⟩, fun _ h7 ⟨s7, hno⟩ => coll (s56.tr s7) (hb6.sr.sub s7) hmay hl48 hno⟩
        refine cAll (tr5.sub (st5.spl.sub.tr s56)) fun a7 c7 B7 h7 hb7 cc7 => ⟨_, _, _, rfl, cRSame (hb6.sr.sub cc7.sub0) hb7.sr (by omega) ⟨_, rfl, fun e8 => ?_, fun e8 => ⟨cc7.sub0, fun hp => ?_⟩⟩⟩
        · have e8 : l6 = to := by simpa using e8
          subst e8
          refine cOfT (hb6.sr.sub cc7.sub0) m3 m4 fun ub h8 tr8 _ c8 => ⟨_, _, rfl, fun _ => ?_, fun e => by simp at e⟩
          have x8 : WalkAt g5 N5 h8 wb s5 := x5.keep (PH.Sub.rf _) fun q _ o e => c8.sub0 _ _ (cc7.sub0 _ _ (s56 q o e))
          refine cRoot tr8 ⟨bi (nd l6 1), by rw [bi_len, nd_len], rfl, cWRoot x8 ⟨bi s5.R, by rw [bi_len, hR5, I.R, nd_len], rfl, fun _ => wk16 (s15.tr (s56.tr (cc7.sub0.tr c8.sub0))) hk, fun e => ?_⟩⟩
          rw [hR5, I.R] at e
          simp at e
        · have e8 : l6 ≠ to := by simpa using e8
          exact e8 (up_unique (may_ok m3).2 (hp6.trans (done_perm hp)) hs6)
end TL
