/-
  The functions of the program as predicates on heap fragments, each tied to its code (a part). No condition.
-/
import Derived.Test.YtmcgndbfoebcnaaGreatTextA
import Derived.Test.YtmcgndbfoebcnaaGreatTextB
namespace TL
open Go Go.Proofs
/- twinlock/tree.New -/
def F_tree_New  (K : Value → PH → Prop) (h : PH) : Prop :=
  newH h (.cells (((List.replicate 16 (.slice none 0 0 : Value)) ++ ((List.replicate 1024 (.int .u8 (0 : Int) : Value)) ++ ([.int .i64 (0 : Int)] : List Value)))).toArray T_tree_Tree (0, 0)) fun bv h1 =>
  LoopP (T := Int × Unit) (fun Jv st h2 =>
    (((decide (st.1 < (16 : Int))) = true →
        ∃ bv_1 ov : Nat, (some ⟨bv, 0, none⟩ : Option Addr) = some ⟨bv_1, ov, none⟩ ∧
        CallH Tryz.prog id_tree_Tree_page [.pointer (some ⟨bv, 0, none⟩), .int .i64 st.1] (fun v h3 =>
          ∃ t : ByteArray, v = .string t ∧
          CallH Tryz.prog id_tree_Leaf [.string t] (fun v_1 h4 =>
            ∃ t_1 : List Int, t_1.length = 32 ∧ v_1 = .agg ((t_1.map (Value.int .u8) ++ [])).toArray ∧
            (0 ≤ (IntKind.wrap .i64 ((16 : Int) + st.1)) ∧ (IntKind.wrap .i64 ((16 : Int) + st.1)) < (32 : Nat)) ∧
            stH h4 bv_1 ((ov + 16) + (IntKind.wrap .i64 ((16 : Int) + st.1)).toNat * 32) (t_1.map (Value.int .u8) ++ []) fun h5 =>
            Jv ((IntKind.wrap .i64 (st.1 + (1 : Int))), ()) h5) h3) h2) ∧
      ((decide (st.1 < (16 : Int))) = false →
        LoopP (T := Int × Unit) (fun Jv_1 st_1 h6 =>
          (((decide (st_1.1 > (0 : Int))) = true →
              ∃ bv_2 ov_1 : Nat, (some ⟨bv, 0, none⟩ : Option Addr) = some ⟨bv_2, ov_1, none⟩ ∧
              (0 ≤ (IntKind.wrap .i64 ((2 : Int) * st_1.1)) ∧ (IntKind.wrap .i64 ((2 : Int) * st_1.1)) < (32 : Nat)) ∧
              ∃ t_2 : List Int, t_2.length = 32 ∧ (h6.rds bv_2 ((ov_1 + 16) + (IntKind.wrap .i64 ((2 : Int) * st_1.1)).toNat * 32) 32 = some (t_2.map (Value.int .u8) ++ [])) ∧
              ∃ bv_3 ov_2 : Nat, (some ⟨bv, 0, none⟩ : Option Addr) = some ⟨bv_3, ov_2, none⟩ ∧
              (0 ≤ (IntKind.wrap .i64 ((IntKind.wrap .i64 ((2 : Int) * st_1.1)) + (1 : Int))) ∧ (IntKind.wrap .i64 ((IntKind.wrap .i64 ((2 : Int) * st_1.1)) + (1 : Int))) < (32 : Nat)) ∧
              ∃ t_3 : List Int, t_3.length = 32 ∧ (h6.rds bv_3 ((ov_2 + 16) + (IntKind.wrap .i64 ((IntKind.wrap .i64 ((2 : Int) * st_1.1)) + (1 : Int))).toNat * 32) 32 = some (t_3.map (Value.int .u8) ++ [])) ∧
              ∃ bv_4 ov_3 : Nat, (some ⟨bv, 0, none⟩ : Option Addr) = some ⟨bv_4, ov_3, none⟩ ∧
              CallH Tryz.prog id_tree_Inner [.agg ((t_2.map (Value.int .u8) ++ [])).toArray, .agg ((t_3.map (Value.int .u8) ++ [])).toArray] (fun v_2 h7 =>
                ∃ t_4 : List Int, t_4.length = 32 ∧ v_2 = .agg ((t_4.map (Value.int .u8) ++ [])).toArray ∧
                (0 ≤ st_1.1 ∧ st_1.1 < (32 : Nat)) ∧
                stH h7 bv_4 ((ov_3 + 16) + st_1.1.toNat * 32) (t_4.map (Value.int .u8) ++ []) fun h8 =>
                Jv_1 ((IntKind.wrap .i64 (st_1.1 - (1 : Int))), ()) h8) h6) ∧
            ((decide (st_1.1 > (0 : Int))) = false →
              K (.pointer (some ⟨bv, 0, none⟩)) h6))) ((15 : Int), ()) h2))) ((0 : Int), ()) h1
theorem F_tree_New_eq  {K : Value → PH → Prop} {h : PH} : @Eq Prop (F_tree_New  K h) (denF Tryz.prog Tryz.f20 ⟨[], [(5, .of [0, 1, 2, 3, 4, 7, 8, 5, 6, 9, 10]), (10, .of [0, 1, 2, 3, 4, 5, 6, 7, 8, 9, 10, 11, 12, 13, 14, 15, 16, 18, 19, 17, 20, 21])], [(0, ⟨[(6, .int .i64)], [], []⟩), (2, ⟨[(3, .int .i64)], [], []⟩)], []⟩ [] K h) := by
  kernel_rfl
theorem F_tree_New_ok   {K : Value → PH → Prop} {h : PH} (hh : F_tree_New  K h) : CallH Tryz.prog id_tree_New [] K h :=
  denF_sound' Tryz.func20 (H := ⟨[], [(5, .of [0, 1, 2, 3, 4, 7, 8, 5, 6, 9, 10]), (10, .of [0, 1, 2, 3, 4, 5, 6, 7, 8, 9, 10, 11, 12, 13, 14, 15, 16, 18, 19, 17, 20, 21])], [(0, ⟨[(6, .int .i64)], [], []⟩), (2, ⟨[(3, .int .i64)], [], []⟩)], []⟩) (xs := []) (by kernel_rfl) (trivial) (den_of F_tree_New_eq hh)

/- (*twinlock/tree.Tree).Set -/
set_option maxRecDepth 100000 in
def F_tree_Tree_Set (t : Option Addr) (p : ByteArray) (v : ByteArray) (K : Value → PH → Prop) (h : PH) : Prop :=
  (((Option.isNone t) = true →
      K (.int .i64 (2 : Int)) h) ∧
    ((Option.isNone t) = false →
      CallH Tryz.prog id_path_Cut [.string p] (fun v_1 h1 =>
        ∃ t0 : ByteArray, ∃ t1 : ByteArray, ∃ t2 : Bool, v_1 = .tuple #[.string t0, .string t1, .bool t2] ∧
        (((!t2) = true →
            K (.int .i64 (20 : Int)) h1) ∧
          ((!t2) = false →
            (((decide ((v.size : Int) > (32 : Int))) = true →
                K (.int .i64 (3 : Int)) h1) ∧
              ((decide ((v.size : Int) > (32 : Int))) = false →
                CallH Tryz.prog id_tree_Tree_find [.pointer t, .string p] (fun v_2 h2 =>
                  ∃ t0_1 : Int, ∃ t1_1 : Int, ∃ t2_1 : Bool, v_2 = .tuple #[.int .i64 t0_1, .int .i64 t1_1, .bool t2_1] ∧
                  JoinP (T := Unit) (fun Jv =>
                    ((t2_1 = true →
                        ∃ bv ov : Nat, t = some ⟨bv, ov, none⟩ ∧
                        (0 ≤ t0_1 ∧ t0_1 < (16 : Nat)) ∧
                        ∃ (tA : Option Addr) (tN tC : Nat), (h2.rds bv (ov + t0_1.toNat * 1) 1 = some [.slice tA tN tC]) ∧
                        ∃ bv_1 ov_1 : Nat, t = some ⟨bv_1, ov_1, none⟩ ∧
                        (CallH Tryz.prog id_slices_Clone_api_Pair_api_Pair [.slice tA tN tC] (fun v_3 h4 =>
                            ∃ (tA_1 : Option Addr) (tN_1 tC_1 : Nat), v_3 = .slice tA_1 tN_1 tC_1 ∧
                            newH h4 (.cells #[.string p, .string v] T_api_Pair (0, 0)) fun bv_2 h5 =>
                            CallH Tryz.prog id_slices_Replace_api_Pair_api_Pair [.slice tA_1 tN_1 tC_1, .int .i64 t1_1, .int .i64 (IntKind.wrap .i64 (t1_1 + (1 : Int))), .slice (some ⟨bv_2, 0, none⟩) 1 1] (fun v_4 h6 =>
                              ∃ (tA_2 : Option Addr) (tN_2 tC_2 : Nat), v_4 = .slice tA_2 tN_2 tC_2 ∧
                              (0 ≤ t0_1 ∧ t0_1 < (16 : Nat)) ∧
                              stH h6 bv_1 (ov_1 + t0_1.toNat * 1) [.slice tA_2 tN_2 tC_2] fun h7 =>
                              Jv (()) h7) h5) h2) ∧
                        (newH h2 (.cells #[.string p, .string v] T_api_Pair (0, 0)) fun bv_3 h8 =>
                          CallH Tryz.prog id_slices_Clone_api_Pair_api_Pair [.slice tA tN tC] (fun v_5 h9 =>
                            ∃ (tA_3 : Option Addr) (tN_3 tC_3 : Nat), v_5 = .slice tA_3 tN_3 tC_3 ∧
                            CallH Tryz.prog id_slices_Replace_api_Pair_api_Pair [.slice tA_3 tN_3 tC_3, .int .i64 t1_1, .int .i64 (IntKind.wrap .i64 (t1_1 + (1 : Int))), .slice (some ⟨bv_3, 0, none⟩) 1 1] (fun v_6 h10 =>
                              ∃ (tA_4 : Option Addr) (tN_4 tC_4 : Nat), v_6 = .slice tA_4 tN_4 tC_4 ∧
                              (0 ≤ t0_1 ∧ t0_1 < (16 : Nat)) ∧
                              stH h10 bv_1 (ov_1 + t0_1.toNat * 1) [.slice tA_4 tN_4 tC_4] fun h11 =>
                              Jv (()) h11) h9) h8)) ∧
                      (t2_1 = false →
                        ∃ bv_4 ov_2 : Nat, t = some ⟨bv_4, ov_2, none⟩ ∧
                        ∃ t_1 : Int, (h2.rds bv_4 (ov_2 + 1040) 1 = some [.int .i64 t_1]) ∧
                        (((decide (t_1 ≥ (48 : Int))) = true →
                            K (.int .i64 (6 : Int)) h2) ∧
                          ((decide (t_1 ≥ (48 : Int))) = false →
                            ∃ bv_5 ov_3 : Nat, t = some ⟨bv_5, ov_3, none⟩ ∧
                            (0 ≤ t0_1 ∧ t0_1 < (16 : Nat)) ∧
                            ∃ (tA_5 : Option Addr) (tN_5 tC_5 : Nat), (h2.rds bv_5 (ov_3 + t0_1.toNat * 1) 1 = some [.slice tA_5 tN_5 tC_5]) ∧
                            ∃ bv_6 ov_4 : Nat, t = some ⟨bv_6, ov_4, none⟩ ∧
                            (CallH Tryz.prog id_slices_Clone_api_Pair_api_Pair [.slice tA_5 tN_5 tC_5] (fun v_7 h12 =>
                                ∃ (tA_6 : Option Addr) (tN_6 tC_6 : Nat), v_7 = .slice tA_6 tN_6 tC_6 ∧
                                newH h12 (.cells #[.string p, .string v] T_api_Pair (0, 0)) fun bv_7 h13 =>
                                CallH Tryz.prog id_slices_Insert_api_Pair_api_Pair [.slice tA_6 tN_6 tC_6, .int .i64 t1_1, .slice (some ⟨bv_7, 0, none⟩) 1 1] (fun v_8 h14 =>
                                  ∃ (tA_7 : Option Addr) (tN_7 tC_7 : Nat), v_8 = .slice tA_7 tN_7 tC_7 ∧
                                  (0 ≤ t0_1 ∧ t0_1 < (16 : Nat)) ∧
                                  stH h14 bv_6 (ov_4 + t0_1.toNat * 1) [.slice tA_7 tN_7 tC_7] fun h15 =>
                                  ∃ bv_8 ov_5 : Nat, t = some ⟨bv_8, ov_5, none⟩ ∧
                                  ∃ t_2 : Int, (h15.rds bv_8 (ov_5 + 1040) 1 = some [.int .i64 t_2]) ∧
                                  ∃ bv_9 ov_6 : Nat, t = some ⟨bv_9, ov_6, none⟩ ∧
                                  stH h15 bv_9 (ov_6 + 1040) [.int .i64 (IntKind.wrap .i64 (t_2 + (1 : Int)))] fun h16 =>
                                  Jv (()) h16) h13) h2) ∧
                            (newH h2 (.cells #[.string p, .string v] T_api_Pair (0, 0)) fun bv_10 h17 =>
                              CallH Tryz.prog id_slices_Clone_api_Pair_api_Pair [.slice tA_5 tN_5 tC_5] (fun v_9 h18 =>
                                ∃ (tA_8 : Option Addr) (tN_8 tC_8 : Nat), v_9 = .slice tA_8 tN_8 tC_8 ∧
                                CallH Tryz.prog id_slices_Insert_api_Pair_api_Pair [.slice tA_8 tN_8 tC_8, .int .i64 t1_1, .slice (some ⟨bv_10, 0, none⟩) 1 1] (fun v_10 h19 =>
                                  ∃ (tA_9 : Option Addr) (tN_9 tC_9 : Nat), v_10 = .slice tA_9 tN_9 tC_9 ∧
                                  (0 ≤ t0_1 ∧ t0_1 < (16 : Nat)) ∧
                                  stH h19 bv_6 (ov_4 + t0_1.toNat * 1) [.slice tA_9 tN_9 tC_9] fun h20 =>
                                  ∃ bv_11 ov_7 : Nat, t = some ⟨bv_11, ov_7, none⟩ ∧
                                  ∃ t_3 : Int, (h20.rds bv_11 (ov_7 + 1040) 1 = some [.int .i64 t_3]) ∧
                                  ∃ bv_12 ov_8 : Nat, t = some ⟨bv_12, ov_8, none⟩ ∧
                                  stH h20 bv_12 (ov_8 + 1040) [.int .i64 (IntKind.wrap .i64 (t_3 + (1 : Int)))] fun h21 =>
                                  Jv (()) h21) h18) h17))))))
                  (fun _ h3 =>
                    CallH Tryz.prog id_tree_Tree_anew [.pointer t, .int .i64 t0_1] (fun _ h22 =>
                      K (.int .i64 (0 : Int)) h22) h3)) h1))))) h))
set_option maxRecDepth 100000 in
theorem F_tree_Tree_Set_eq {t : Option Addr} {p : ByteArray} {v : ByteArray} {K : Value → PH → Prop} {h : PH} : @Eq Prop (F_tree_Tree_Set t p v K h) (denF Tryz.prog Tryz.f24 ⟨[13], [(13, .one 0 (.one 1 (.one 2 (.one 3 (.one 4 (.one 5 (.one 6 (.one 7 (.one 9 (.one 10 (.one 11 (.one 12 (.one 15 (.one 16 (.alt 8 (.of [13, 14, 17, 18]) (.of [13, 8, 14, 17, 18])))))))))))))))), (10, .one 0 (.one 1 (.one 2 (.one 3 (.one 4 (.one 5 (.one 6 (.one 7 (.one 9 (.one 10 (.one 13 (.one 14 (.alt 8 (.of [11, 12, 15, 16]) (.of [11, 8, 12, 15, 16]))))))))))))))], [], [(34, ⟨[], [], []⟩)]⟩ [.v (.pointer t), .v (.string p), .v (.string v)] K h) := by
  kernel_rfl
theorem F_tree_Tree_Set_ok {t : Option Addr} {p : ByteArray} {v : ByteArray}  {K : Value → PH → Prop} {h : PH} (hh : F_tree_Tree_Set t p v K h) : CallH Tryz.prog id_tree_Tree_Set [.pointer t, .string p, .string v] K h :=
  denF_sound' Tryz.func24 (H := ⟨[13], [(13, .one 0 (.one 1 (.one 2 (.one 3 (.one 4 (.one 5 (.one 6 (.one 7 (.one 9 (.one 10 (.one 11 (.one 12 (.one 15 (.one 16 (.alt 8 (.of [13, 14, 17, 18]) (.of [13, 8, 14, 17, 18])))))))))))))))), (10, .one 0 (.one 1 (.one 2 (.one 3 (.one 4 (.one 5 (.one 6 (.one 7 (.one 9 (.one 10 (.one 13 (.one 14 (.alt 8 (.of [11, 12, 15, 16]) (.of [11, 8, 12, 15, 16]))))))))))))))], [], [(34, ⟨[], [], []⟩)]⟩) (xs := [.v (.pointer t), .v (.string p), .v (.string v)]) (by kernel_rfl) (⟨rfl, rfl, rfl, trivial⟩) (den_of F_tree_Tree_Set_eq hh)

/- (*twinlock/tree.Tree).Drop -/
def F_tree_Tree_Drop (t : Option Addr) (p : ByteArray) (K : Value → PH → Prop) (h : PH) : Prop :=
  (((Option.isNone t) = true →
      K (.bool false) h) ∧
    ((Option.isNone t) = false →
      CallH Tryz.prog id_tree_Tree_find [.pointer t, .string p] (fun v h1 =>
        ∃ t0 : Int, ∃ t1 : Int, ∃ t2 : Bool, v = .tuple #[.int .i64 t0, .int .i64 t1, .bool t2] ∧
        ((t2 = true →
            ∃ bv ov : Nat, t = some ⟨bv, ov, none⟩ ∧
            (0 ≤ t0 ∧ t0 < (16 : Nat)) ∧
            ∃ (tA : Option Addr) (tN tC : Nat), (h1.rds bv (ov + t0.toNat * 1) 1 = some [.slice tA tN tC]) ∧
            ∃ bv_1 ov_1 : Nat, t = some ⟨bv_1, ov_1, none⟩ ∧
            CallH Tryz.prog id_slices_Clone_api_Pair_api_Pair [.slice tA tN tC] (fun v_1 h2 =>
              ∃ (tA_1 : Option Addr) (tN_1 tC_1 : Nat), v_1 = .slice tA_1 tN_1 tC_1 ∧
              CallH Tryz.prog id_slices_Delete_api_Pair_api_Pair [.slice tA_1 tN_1 tC_1, .int .i64 t1, .int .i64 (IntKind.wrap .i64 (t1 + (1 : Int)))] (fun v_2 h3 =>
                ∃ (tA_2 : Option Addr) (tN_2 tC_2 : Nat), v_2 = .slice tA_2 tN_2 tC_2 ∧
                (0 ≤ t0 ∧ t0 < (16 : Nat)) ∧
                stH h3 bv_1 (ov_1 + t0.toNat * 1) [.slice tA_2 tN_2 tC_2] fun h4 =>
                ∃ bv_2 ov_2 : Nat, t = some ⟨bv_2, ov_2, none⟩ ∧
                ∃ t_1 : Int, (h4.rds bv_2 (ov_2 + 1040) 1 = some [.int .i64 t_1]) ∧
                ∃ bv_3 ov_3 : Nat, t = some ⟨bv_3, ov_3, none⟩ ∧
                stH h4 bv_3 (ov_3 + 1040) [.int .i64 (IntKind.wrap .i64 (t_1 - (1 : Int)))] fun h5 =>
                CallH Tryz.prog id_tree_Tree_anew [.pointer t, .int .i64 t0] (fun _ h6 =>
                  K (.bool t2) h6) h5) h2) h1) ∧
          (t2 = false →
            K (.bool t2) h1))) h))
theorem F_tree_Tree_Drop_eq {t : Option Addr} {p : ByteArray} {K : Value → PH → Prop} {h : PH} : @Eq Prop (F_tree_Tree_Drop t p K h) (denF Tryz.prog Tryz.f25 ⟨[], [(5, .of [0, 1, 2, 3, 4, 5, 6, 7, 9, 10, 11, 13, 14, 8, 12, 15, 16])], [], []⟩ [.v (.pointer t), .v (.string p)] K h) := by
  kernel_rfl
theorem F_tree_Tree_Drop_ok {t : Option Addr} {p : ByteArray}  {K : Value → PH → Prop} {h : PH} (hh : F_tree_Tree_Drop t p K h) : CallH Tryz.prog id_tree_Tree_Drop [.pointer t, .string p] K h :=
  denF_sound' Tryz.func25 (H := ⟨[], [(5, .of [0, 1, 2, 3, 4, 5, 6, 7, 9, 10, 11, 13, 14, 8, 12, 15, 16])], [], []⟩) (xs := [.v (.pointer t), .v (.string p)]) (by kernel_rfl) (⟨rfl, rfl, trivial⟩) (den_of F_tree_Tree_Drop_eq hh)

/- twinlock/tree.Of -/
def F_tree_Of (lA : Option Addr) (lN lC : Nat) (K : Value → PH → Prop) (h : PH) : Prop :=
  CallH Tryz.prog id_bucket_May [.slice lA lN lC] (fun v h1 =>
    ∃ t : Bool, v = .bool t ∧
    (((!t) = true →
        K (.tuple #[.pointer none, .int .i64 (1 : Int)]) h1) ∧
      ((!t) = false →
        (((decide (((lN : Nat) : Int) > (48 : Int))) = true →
            K (.tuple #[.pointer none, .int .i64 (6 : Int)]) h1) ∧
          ((decide (((lN : Nat) : Int) > (48 : Int))) = false →
            CallH Tryz.prog id_tree_New [] (fun v_1 h2 =>
              ∃ t_1 : Option Addr, v_1 = .pointer t_1 ∧
              LoopP (T := Int × Unit) (fun Jv st h3 =>
                (((decide (st.1 < ((lN : Nat) : Int))) = true →
                    ∃ bv ov : Nat, (lA = some ⟨bv, ov, none⟩ ∧ 0 ≤ st.1 ∧ st.1 < (lN : Nat)) ∧
                    ∃ x0 : ByteArray, ∃ x1 : ByteArray, (h3.rds bv (ov + st.1.toNat * 2) 2 = some [.string x0, .string x1]) ∧
                    CallH Tryz.prog id_tree_Tree_Set [.pointer t_1, .string x0, .string x1] (fun v_2 h4 =>
                      ∃ t_2 : Int, v_2 = .int .i64 t_2 ∧
                      Jv ((IntKind.wrap .i64 (st.1 + (1 : Int))), ()) h4) h3) ∧
                  ((decide (st.1 < ((lN : Nat) : Int))) = false →
                    K (.tuple #[.pointer t_1, .int .i64 (0 : Int)]) h3))) ((0 : Int), ()) h2) h1))))) h
theorem F_tree_Of_eq {lA : Option Addr} {lN lC : Nat} {K : Value → PH → Prop} {h : PH} : @Eq Prop (F_tree_Of lA lN lC K h) (denF Tryz.prog Tryz.f29 ⟨[6], [], [(1, ⟨[(18, .int .i64)], [], []⟩)], []⟩ [.v (.slice lA lN lC)] K h) := by
  kernel_rfl
theorem F_tree_Of_ok {lA : Option Addr} {lN lC : Nat}  {K : Value → PH → Prop} {h : PH} (hh : F_tree_Of lA lN lC K h) : CallH Tryz.prog id_tree_Of [.slice lA lN lC] K h :=
  denF_sound' Tryz.func29 (H := ⟨[6], [], [(1, ⟨[(18, .int .i64)], [], []⟩)], []⟩) (xs := [.v (.slice lA lN lC)]) (by kernel_rfl) (⟨rfl, trivial⟩) (den_of F_tree_Of_eq hh)

/- (*twinlock/tree.Tree).Node -/
def F_tree_Tree_Node (t : Option Addr) (level : Int) (i : Int) (K : Value → PH → Prop) (h : PH) : Prop :=
  ((((((Option.isNone t) || (decide (level < (0 : Int)))) || (decide (level > (4 : Int)))) || (decide (i < (0 : Int)))) = false → 0 ≤ level)) ∧
  (((((((Option.isNone t) || (decide (level < (0 : Int)))) || (decide (level > (4 : Int)))) || (decide (i < (0 : Int)))) || (decide (i ≥ (shlV .i64 (1 : Int) level)))) = true →
      K (.tuple #[.agg (((List.replicate 32 0).map (Value.int .u8) ++ [])).toArray, .bool false]) h) ∧
    ((((((Option.isNone t) || (decide (level < (0 : Int)))) || (decide (level > (4 : Int)))) || (decide (i < (0 : Int)))) || (decide (i ≥ (shlV .i64 (1 : Int) level)))) = false →
      (0 ≤ level) ∧
      ∃ bv ov : Nat, t = some ⟨bv, ov, none⟩ ∧
      (0 ≤ (IntKind.wrap .i64 ((shlV .i64 (1 : Int) level) + i)) ∧ (IntKind.wrap .i64 ((shlV .i64 (1 : Int) level) + i)) < (32 : Nat)) ∧
      ∃ t_1 : List Int, t_1.length = 32 ∧ (h.rds bv ((ov + 16) + (IntKind.wrap .i64 ((shlV .i64 (1 : Int) level) + i)).toNat * 32) 32 = some (t_1.map (Value.int .u8) ++ [])) ∧
      K (.tuple #[.agg ((t_1.map (Value.int .u8) ++ [])).toArray, .bool true]) h))
theorem F_tree_Tree_Node_eq {t : Option Addr} {level : Int} {i : Int} {K : Value → PH → Prop} {h : PH} : @Eq Prop (F_tree_Tree_Node t level i K h) (denF Tryz.prog Tryz.f31 ⟨[6], [], [], []⟩ [.v (.pointer t), .v (.int .i64 level), .v (.int .i64 i)] K h) := by
  kernel_rfl
theorem F_tree_Tree_Node_ok {t : Option Addr} {level : Int} {i : Int}  {K : Value → PH → Prop} {h : PH} (hh : F_tree_Tree_Node t level i K h) : CallH Tryz.prog id_tree_Tree_Node [.pointer t, .int .i64 level, .int .i64 i] K h :=
  denF_sound' Tryz.func31 (H := ⟨[6], [], [], []⟩) (xs := [.v (.pointer t), .v (.int .i64 level), .v (.int .i64 i)]) (by kernel_rfl) (⟨rfl, rfl, rfl, trivial⟩) (den_of F_tree_Tree_Node_eq hh)

/- (*twinlock/tree.Tree).Root -/
def F_tree_Tree_Root (t : Option Addr) (K : Value → PH → Prop) (h : PH) : Prop :=
  CallH Tryz.prog id_tree_Tree_Node [.pointer t, .int .i64 (0 : Int), .int .i64 (0 : Int)] (fun v h1 =>
    ∃ t0 : List Int, t0.length = 32 ∧ ∃ t1 : Bool, v = .tuple #[.agg ((t0.map (Value.int .u8) ++ [])).toArray, .bool t1] ∧
    K (.agg ((t0.map (Value.int .u8) ++ [])).toArray) h1) h
theorem F_tree_Tree_Root_eq {t : Option Addr} {K : Value → PH → Prop} {h : PH} : @Eq Prop (F_tree_Tree_Root t K h) (denF Tryz.prog Tryz.f38 ⟨[2, 3], [], [], []⟩ [.v (.pointer t)] K h) := by
  kernel_rfl
theorem F_tree_Tree_Root_ok {t : Option Addr}  {K : Value → PH → Prop} {h : PH} (hh : F_tree_Tree_Root t K h) : CallH Tryz.prog id_tree_Tree_Root [.pointer t] K h :=
  denF_sound' Tryz.func38 (H := ⟨[2, 3], [], [], []⟩) (xs := [.v (.pointer t)]) (by kernel_rfl) (⟨rfl, trivial⟩) (den_of F_tree_Tree_Root_eq hh)

/- (*twinlock/tree.Tree).All -/
def F_tree_Tree_All (t : Option Addr) (K : Value → PH → Prop) (h : PH) : Prop :=
  (((Option.isNone t) = true →
      K (.slice none 0 0) h) ∧
    ((Option.isNone t) = false →
      ∃ bv ov : Nat, t = some ⟨bv, ov, none⟩ ∧
      (0 ≤ (0 : Int) ∧ (0 : Int) ≤ ((16 : Nat) : Int) ∧ ((16 : Nat) : Int) ≤ ((16 : Nat) : Int) ∧ ((16 : Nat) : Int) ≤ (16 : Nat)) ∧
      CallH Tryz.prog id_slices_Concat_api_Pair_api_Pair [.slice (slA (some ⟨bv, ov, none⟩ : Option Addr) 1 (0 : Int) ((16 : Nat) : Int)) (((16 : Nat) : Int).toNat - (0 : Int).toNat) (((16 : Nat) : Int).toNat - (0 : Int).toNat)] (fun v h1 =>
        ∃ (lA : Option Addr) (lN lC : Nat), v = .slice lA lN lC ∧
        CallH Tryz.prog id_slices_SortFunc_api_Pair_api_Pair [.slice lA lN lC, .func (.func 133) #[] #[]] (fun _ h2 =>
          K (.slice lA lN lC) h2) h1) h))
theorem F_tree_Tree_All_eq {t : Option Addr} {K : Value → PH → Prop} {h : PH} : @Eq Prop (F_tree_Tree_All t K h) (denF Tryz.prog Tryz.f64 ⟨[], [], [], []⟩ [.v (.pointer t)] K h) := by
  kernel_rfl
theorem F_tree_Tree_All_ok {t : Option Addr}  {K : Value → PH → Prop} {h : PH} (hh : F_tree_Tree_All t K h) : CallH Tryz.prog id_tree_Tree_All [.pointer t] K h :=
  denF_sound' Tryz.func64 (H := ⟨[], [], [], []⟩) (xs := [.v (.pointer t)]) (by kernel_rfl) (⟨rfl, trivial⟩) (den_of F_tree_Tree_All_eq hh)

/- twinlock/tree.Leaf -/
def F_tree_Leaf (page : ByteArray) (K : Value → PH → Prop) (h : PH) : Prop :=
  (((ByteArray.size (⟨#[76]⟩ : ByteArray) + ByteArray.size page : Nat) : Int) ≤ 9223372036854775807) ∧
  CallH Tryz.prog id_sha_Sum [.string ((⟨#[76]⟩ : ByteArray) ++ page)] (fun v h1 =>
    ∃ t : List Int, t.length = 32 ∧ v = .agg ((t.map (Value.int .u8) ++ [])).toArray ∧
    K (.agg ((t.map (Value.int .u8) ++ [])).toArray) h1) h
theorem F_tree_Leaf_eq {page : ByteArray} {K : Value → PH → Prop} {h : PH} : @Eq Prop (F_tree_Leaf page K h) (denF Tryz.prog Tryz.f87 ⟨[2], [], [], []⟩ [.v (.string page)] K h) := by
  kernel_rfl
theorem F_tree_Leaf_ok {page : ByteArray}  {K : Value → PH → Prop} {h : PH} (hh : F_tree_Leaf page K h) : CallH Tryz.prog id_tree_Leaf [.string page] K h :=
  denF_sound' Tryz.func87 (H := ⟨[2], [], [], []⟩) (xs := [.v (.string page)]) (by kernel_rfl) (⟨rfl, trivial⟩) (den_of F_tree_Leaf_eq hh)

/- (*twinlock/tree.Tree).page -/
def F_tree_Tree_page (t : Option Addr) (i : Int) (K : Value → PH → Prop) (h : PH) : Prop :=
  ∃ bv ov : Nat, t = some ⟨bv, ov, none⟩ ∧
  (0 ≤ i ∧ i < (16 : Nat)) ∧
  ∃ (tA : Option Addr) (tN tC : Nat), (h.rds bv (ov + i.toNat * 1) 1 = some [.slice tA tN tC]) ∧
  CallH Tryz.prog id_bucket_Page [.int .i64 i, .slice tA tN tC] (fun v h1 =>
    ∃ t0 : ByteArray, ∃ t1 : Int, v = .tuple #[.string t0, .int .i64 t1] ∧
    K (.string t0) h1) h
theorem F_tree_Tree_page_eq {t : Option Addr} {i : Int} {K : Value → PH → Prop} {h : PH} : @Eq Prop (F_tree_Tree_page t i K h) (denF Tryz.prog Tryz.f88 ⟨[], [], [], []⟩ [.v (.pointer t), .v (.int .i64 i)] K h) := by
  kernel_rfl
theorem F_tree_Tree_page_ok {t : Option Addr} {i : Int}  {K : Value → PH → Prop} {h : PH} (hh : F_tree_Tree_page t i K h) : CallH Tryz.prog id_tree_Tree_page [.pointer t, .int .i64 i] K h :=
  denF_sound' Tryz.func88 (H := ⟨[], [], [], []⟩) (xs := [.v (.pointer t), .v (.int .i64 i)]) (by kernel_rfl) (⟨rfl, rfl, trivial⟩) (den_of F_tree_Tree_page_eq hh)

/- twinlock/tree.Inner -/
def F_tree_Inner (leftv : List Int) (rightv : List Int) (K : Value → PH → Prop) (h : PH) : Prop :=
  CallH Tryz.prog id_tree_innerText [.agg ((leftv.map (Value.int .u8) ++ [])).toArray, .agg ((rightv.map (Value.int .u8) ++ [])).toArray] (fun v h1 =>
    ∃ t : ByteArray, v = .string t ∧
    CallH Tryz.prog id_sha_Sum [.string t] (fun v_1 h2 =>
      ∃ t_1 : List Int, t_1.length = 32 ∧ v_1 = .agg ((t_1.map (Value.int .u8) ++ [])).toArray ∧
      K (.agg ((t_1.map (Value.int .u8) ++ [])).toArray) h2) h1) h
theorem F_tree_Inner_eq {leftv : List Int} {rightv : List Int} {K : Value → PH → Prop} {h : PH} : @Eq Prop (F_tree_Inner leftv rightv K h) (denF Tryz.prog Tryz.f89 ⟨[2, 3, 4], [], [], []⟩ [.agg [.ints .u8 32 leftv], .agg [.ints .u8 32 rightv]] K h) := by
  kernel_rfl
theorem F_tree_Inner_ok {leftv : List Int} {rightv : List Int} (hk0 : leftv.length = 32) (hk1 : rightv.length = 32) {K : Value → PH → Prop} {h : PH} (hh : F_tree_Inner leftv rightv K h) : CallH Tryz.prog id_tree_Inner [.agg ((leftv.map (Value.int .u8) ++ [])).toArray, .agg ((rightv.map (Value.int .u8) ++ [])).toArray] K h :=
  denF_sound' Tryz.func89 (H := ⟨[2, 3, 4], [], [], []⟩) (xs := [.agg [.ints .u8 32 leftv], .agg [.ints .u8 32 rightv]]) (by kernel_rfl) (⟨⟨hk0, trivial⟩, ⟨hk1, trivial⟩, trivial⟩) (den_of F_tree_Inner_eq hh)

/- (*twinlock/tree.Tree).find -/
def F_tree_Tree_find (t : Option Addr) (p : ByteArray) (K : Value → PH → Prop) (h : PH) : Prop :=
  CallH Tryz.prog id_bucket_Of [.string p] (fun v h1 =>
    ∃ part : Int, v = .int .i64 part ∧
    ∃ bv ov : Nat, t = some ⟨bv, ov, none⟩ ∧
    (0 ≤ part ∧ part < (16 : Nat)) ∧
    ∃ (tA : Option Addr) (tN tC : Nat), (h1.rds bv (ov + part.toNat * 1) 1 = some [.slice tA tN tC]) ∧
    CallH Tryz.prog id_slices_BinarySearchFunc_api_Pair_api_Pair_string [.slice tA tN tC, .string p, .func (.func 142) #[] #[]] (fun v_1 h2 =>
      ∃ t0 : Int, ∃ t1 : Bool, v_1 = .tuple #[.int .i64 t0, .bool t1] ∧
      K (.tuple #[.int .i64 part, .int .i64 t0, .bool t1]) h2) h1) h
theorem F_tree_Tree_find_eq {t : Option Addr} {p : ByteArray} {K : Value → PH → Prop} {h : PH} : @Eq Prop (F_tree_Tree_find t p K h) (denF Tryz.prog Tryz.f94 ⟨[], [], [], []⟩ [.v (.pointer t), .v (.string p)] K h) := by
  kernel_rfl
theorem F_tree_Tree_find_ok {t : Option Addr} {p : ByteArray}  {K : Value → PH → Prop} {h : PH} (hh : F_tree_Tree_find t p K h) : CallH Tryz.prog id_tree_Tree_find [.pointer t, .string p] K h :=
  denF_sound' Tryz.func94 (H := ⟨[], [], [], []⟩) (xs := [.v (.pointer t), .v (.string p)]) (by kernel_rfl) (⟨rfl, rfl, trivial⟩) (den_of F_tree_Tree_find_eq hh)

/- (*twinlock/tree.Tree).anew -/
def F_tree_Tree_anew (t : Option Addr) (part : Int) (K : Value → PH → Prop) (h : PH) : Prop :=
  newH h (.cells #[.pointer t] 25 (0, 0)) fun bv h1 =>
  ∃ t_1 : Option Addr, (h1.rds bv 0 1 = some [.pointer t_1]) ∧
  ∃ t_2 : Option Addr, (h1.rds bv 0 1 = some [.pointer t_2]) ∧
  ∃ bv_1 ov : Nat, t_1 = some ⟨bv_1, ov, none⟩ ∧
  CallH Tryz.prog id_tree_Tree_page [.pointer t_2, .int .i64 part] (fun v h2 =>
    ∃ t_3 : ByteArray, v = .string t_3 ∧
    (h2.rds bv 0 1 = some [.pointer t_1]) ∧
    CallH Tryz.prog id_tree_Leaf [.string t_3] (fun v_1 h3 =>
      ∃ t_4 : List Int, t_4.length = 32 ∧ v_1 = .agg ((t_4.map (Value.int .u8) ++ [])).toArray ∧
      (h3.rds bv 0 1 = some [.pointer t_1]) ∧
      (0 ≤ (IntKind.wrap .i64 ((16 : Int) + part)) ∧ (IntKind.wrap .i64 ((16 : Int) + part)) < (32 : Nat)) ∧
      stH h3 bv_1 ((ov + 16) + (IntKind.wrap .i64 ((16 : Int) + part)).toNat * 32) (t_4.map (Value.int .u8) ++ []) fun h4 =>
      LoopP (T := Int × Unit) (fun Jv st h5 =>
        (((decide (st.1 > (0 : Int))) = true →
            CallH Tryz.prog id_tree_Tree_anew_1 [.int .i64 st.1, .pointer (some ⟨bv, 0, none⟩)] (fun _ h6 =>
              Jv ((IntKind.wrap .i64 (st.1.tdiv (2 : Int))), ()) h6) h5) ∧
          ((decide (st.1 > (0 : Int))) = false →
            K (.tuple #[]) h5))) ((IntKind.wrap .i64 ((IntKind.wrap .i64 ((16 : Int) + part)).tdiv (2 : Int))), ()) h4) h2) h1
theorem F_tree_Tree_anew_eq {t : Option Addr} {part : Int} {K : Value → PH → Prop} {h : PH} : @Eq Prop (F_tree_Tree_anew t part K h) (denF Tryz.prog Tryz.f98 ⟨[], [(1, .of [0, 1, 2, 3, 4, 7, 8, 5, 6, 9, 10])], [(0, ⟨[(5, .int .i64)], [], []⟩)], []⟩ [.v (.pointer t), .v (.int .i64 part)] K h) := by
  kernel_rfl
theorem F_tree_Tree_anew_ok {t : Option Addr} {part : Int}  {K : Value → PH → Prop} {h : PH} (hh : F_tree_Tree_anew t part K h) : CallH Tryz.prog id_tree_Tree_anew [.pointer t, .int .i64 part] K h :=
  denF_sound' Tryz.func98 (H := ⟨[], [(1, .of [0, 1, 2, 3, 4, 7, 8, 5, 6, 9, 10])], [(0, ⟨[(5, .int .i64)], [], []⟩)], []⟩) (xs := [.v (.pointer t), .v (.int .i64 part)]) (by kernel_rfl) (⟨rfl, rfl, trivial⟩) (den_of F_tree_Tree_anew_eq hh)

/- (*twinlock/tree.Tree).Pairs -/
def F_tree_Tree_Pairs (t : Option Addr) (i : Int) (K : Value → PH → Prop) (h : PH) : Prop :=
  (((((Option.isNone t) || (decide (i < (0 : Int)))) || (decide (i ≥ (16 : Int)))) = true →
      K (.slice none 0 0) h) ∧
    ((((Option.isNone t) || (decide (i < (0 : Int)))) || (decide (i ≥ (16 : Int)))) = false →
      ∃ bv ov : Nat, t = some ⟨bv, ov, none⟩ ∧
      (0 ≤ i ∧ i < (16 : Nat)) ∧
      ∃ (tA : Option Addr) (tN tC : Nat), (h.rds bv (ov + i.toNat * 1) 1 = some [.slice tA tN tC]) ∧
      CallH Tryz.prog id_slices_Clone_api_Pair_api_Pair [.slice tA tN tC] (fun v h1 =>
        ∃ (tA_1 : Option Addr) (tN_1 tC_1 : Nat), v = .slice tA_1 tN_1 tC_1 ∧
        K (.slice tA_1 tN_1 tC_1) h1) h))
theorem F_tree_Tree_Pairs_eq {t : Option Addr} {i : Int} {K : Value → PH → Prop} {h : PH} : @Eq Prop (F_tree_Tree_Pairs t i K h) (denF Tryz.prog Tryz.f101 ⟨[], [], [], []⟩ [.v (.pointer t), .v (.int .i64 i)] K h) := by
  kernel_rfl
theorem F_tree_Tree_Pairs_ok {t : Option Addr} {i : Int}  {K : Value → PH → Prop} {h : PH} (hh : F_tree_Tree_Pairs t i K h) : CallH Tryz.prog id_tree_Tree_Pairs [.pointer t, .int .i64 i] K h :=
  denF_sound' Tryz.func101 (H := ⟨[], [], [], []⟩) (xs := [.v (.pointer t), .v (.int .i64 i)]) (by kernel_rfl) (⟨rfl, rfl, trivial⟩) (den_of F_tree_Tree_Pairs_eq hh)

/- (*twinlock/tree.Tree).Texts -/
def F_tree_Tree_Texts (t : Option Addr) (K : Value → PH → Prop) (h : PH) : Prop :=
  (((Option.isNone t) = true →
      K (.slice none 0 0) h) ∧
    ((Option.isNone t) = false →
      LoopP (T := (Option Addr × Nat × Nat) × Int × Unit) (fun Jv st h1 =>
        (((decide (st.2.1 < (16 : Int))) = true →
            CallH Tryz.prog id_tree_Tree_page [.pointer t, .int .i64 st.2.1] (fun v h2 =>
              ∃ t_1 : ByteArray, v = .string t_1 ∧
              (((ByteArray.size (⟨#[76]⟩ : ByteArray) + ByteArray.size t_1 : Nat) : Int) ≤ 9223372036854775807) ∧
              appH 9 1 16 [.string (⟨#[]⟩ : ByteArray)] st.1.1 st.1.2.1 st.1.2.2 1 [.string ((⟨#[76]⟩ : ByteArray) ++ t_1)] (fun outA outN outC h3 =>
                Jv ((outA, outN, outC), (IntKind.wrap .i64 (st.2.1 + (1 : Int))), ()) h3) h2) h1) ∧
          ((decide (st.2.1 < (16 : Int))) = false →
            LoopP (T := (Option Addr × Nat × Nat) × Int × Unit) (fun Jv_1 st_1 h4 =>
              (((decide (st_1.2.1 ≥ (0 : Int))) = true →
                  (0 ≤ st_1.2.1) ∧
                  LoopP (T := (Option Addr × Nat × Nat) × Int × Unit) (fun Jv_2 st_2 h5 =>
                    (((decide (st_2.2.1 < (shlV .i64 (1 : Int) st_1.2.1))) = true →
                        (0 ≤ st_1.2.1) ∧
                        ∃ bv ov : Nat, t = some ⟨bv, ov, none⟩ ∧
                        (0 ≤ (IntKind.wrap .i64 ((2 : Int) * (IntKind.wrap .i64 ((shlV .i64 (1 : Int) st_1.2.1) + st_2.2.1)))) ∧ (IntKind.wrap .i64 ((2 : Int) * (IntKind.wrap .i64 ((shlV .i64 (1 : Int) st_1.2.1) + st_2.2.1)))) < (32 : Nat)) ∧
                        ∃ t_2 : List Int, t_2.length = 32 ∧ (h5.rds bv ((ov + 16) + (IntKind.wrap .i64 ((2 : Int) * (IntKind.wrap .i64 ((shlV .i64 (1 : Int) st_1.2.1) + st_2.2.1)))).toNat * 32) 32 = some (t_2.map (Value.int .u8) ++ [])) ∧
                        ∃ bv_1 ov_1 : Nat, t = some ⟨bv_1, ov_1, none⟩ ∧
                        (0 ≤ (IntKind.wrap .i64 ((IntKind.wrap .i64 ((2 : Int) * (IntKind.wrap .i64 ((shlV .i64 (1 : Int) st_1.2.1) + st_2.2.1)))) + (1 : Int))) ∧ (IntKind.wrap .i64 ((IntKind.wrap .i64 ((2 : Int) * (IntKind.wrap .i64 ((shlV .i64 (1 : Int) st_1.2.1) + st_2.2.1)))) + (1 : Int))) < (32 : Nat)) ∧
                        ∃ t_3 : List Int, t_3.length = 32 ∧ (h5.rds bv_1 ((ov_1 + 16) + (IntKind.wrap .i64 ((IntKind.wrap .i64 ((2 : Int) * (IntKind.wrap .i64 ((shlV .i64 (1 : Int) st_1.2.1) + st_2.2.1)))) + (1 : Int))).toNat * 32) 32 = some (t_3.map (Value.int .u8) ++ [])) ∧
                        CallH Tryz.prog id_tree_innerText [.agg ((t_2.map (Value.int .u8) ++ [])).toArray, .agg ((t_3.map (Value.int .u8) ++ [])).toArray] (fun v_1 h6 =>
                          ∃ t_4 : ByteArray, v_1 = .string t_4 ∧
                          appH 9 1 16 [.string (⟨#[]⟩ : ByteArray)] st_2.1.1 st_2.1.2.1 st_2.1.2.2 1 [.string t_4] (fun outA_1 outN_1 outC_1 h7 =>
                            Jv_2 ((outA_1, outN_1, outC_1), (IntKind.wrap .i64 (st_2.2.1 + (1 : Int))), ()) h7) h6) h5) ∧
                      ((decide (st_2.2.1 < (shlV .i64 (1 : Int) st_1.2.1))) = false →
                        Jv_1 ((st_2.1.1, st_2.1.2.1, st_2.1.2.2), (IntKind.wrap .i64 (st_1.2.1 - (1 : Int))), ()) h5))) ((st_1.1.1, st_1.1.2.1, st_1.1.2.2), (0 : Int), ()) h4) ∧
                ((decide (st_1.2.1 ≥ (0 : Int))) = false →
                  K (.slice st_1.1.1 st_1.1.2.1 st_1.1.2.2) h4))) ((st.1.1, st.1.2.1, st.1.2.2), (3 : Int), ()) h1))) ((none, 0, 0), (0 : Int), ()) h))
theorem F_tree_Tree_Texts_eq {t : Option Addr} {K : Value → PH → Prop} {h : PH} : @Eq Prop (F_tree_Tree_Texts t K h) (denF Tryz.prog Tryz.f103 ⟨[18, 51], [], [(0, ⟨[(3, .slice), (10, .int .i64)], [], []⟩), (2, ⟨[(3, .slice), (5, .int .i64)], [], []⟩), (4, ⟨[(3, .slice), (27, .int .i64)], [], []⟩)], []⟩ [.v (.pointer t)] K h) := by
  kernel_rfl
theorem F_tree_Tree_Texts_ok {t : Option Addr}  {K : Value → PH → Prop} {h : PH} (hh : F_tree_Tree_Texts t K h) : CallH Tryz.prog id_tree_Tree_Texts [.pointer t] K h :=
  denF_sound' Tryz.func103 (H := ⟨[18, 51], [], [(0, ⟨[(3, .slice), (10, .int .i64)], [], []⟩), (2, ⟨[(3, .slice), (5, .int .i64)], [], []⟩), (4, ⟨[(3, .slice), (27, .int .i64)], [], []⟩)], []⟩) (xs := [.v (.pointer t)]) (by kernel_rfl) (⟨rfl, trivial⟩) (den_of F_tree_Tree_Texts_eq hh)

/- twinlock/tree.innerText -/
def F_tree_innerText (leftv : List Int) (rightv : List Int) (K : Value → PH → Prop) (h : PH) : Prop :=
  newH h (.cells ((leftv.map (Value.int .u8) ++ [])).toArray T_api_Hash (0, 0)) fun bv h1 =>
  newH h1 (.cells ((rightv.map (Value.int .u8) ++ [])).toArray T_api_Hash (0, 0)) fun bv_1 h2 =>
  (0 ≤ (0 : Int) ∧ (0 : Int) ≤ ((32 : Nat) : Int) ∧ ((32 : Nat) : Int) ≤ ((32 : Nat) : Int) ∧ ((32 : Nat) : Int) ≤ (32 : Nat)) ∧
  ∃ t : ByteArray, strH h2 (slA (some ⟨bv, 0, none⟩ : Option Addr) 1 (0 : Int) ((32 : Nat) : Int)) (((32 : Nat) : Int).toNat - (0 : Int).toNat) t ∧
  (((ByteArray.size (⟨#[78]⟩ : ByteArray) + ByteArray.size t : Nat) : Int) ≤ 9223372036854775807) ∧
  (0 ≤ (0 : Int) ∧ (0 : Int) ≤ ((32 : Nat) : Int) ∧ ((32 : Nat) : Int) ≤ ((32 : Nat) : Int) ∧ ((32 : Nat) : Int) ≤ (32 : Nat)) ∧
  ∃ t_1 : ByteArray, strH h2 (slA (some ⟨bv_1, 0, none⟩ : Option Addr) 1 (0 : Int) ((32 : Nat) : Int)) (((32 : Nat) : Int).toNat - (0 : Int).toNat) t_1 ∧
  (((ByteArray.size ((⟨#[78]⟩ : ByteArray) ++ t) + ByteArray.size t_1 : Nat) : Int) ≤ 9223372036854775807) ∧
  K (.string (((⟨#[78]⟩ : ByteArray) ++ t) ++ t_1)) h2
theorem F_tree_innerText_eq {leftv : List Int} {rightv : List Int} {K : Value → PH → Prop} {h : PH} : @Eq Prop (F_tree_innerText leftv rightv K h) (denF Tryz.prog Tryz.f137 ⟨[], [], [], []⟩ [.agg [.ints .u8 32 leftv], .agg [.ints .u8 32 rightv]] K h) := by
  kernel_rfl
theorem F_tree_innerText_ok {leftv : List Int} {rightv : List Int} (hk0 : leftv.length = 32) (hk1 : rightv.length = 32) {K : Value → PH → Prop} {h : PH} (hh : F_tree_innerText leftv rightv K h) : CallH Tryz.prog id_tree_innerText [.agg ((leftv.map (Value.int .u8) ++ [])).toArray, .agg ((rightv.map (Value.int .u8) ++ [])).toArray] K h :=
  denF_sound' Tryz.func137 (H := ⟨[], [], [], []⟩) (xs := [.agg [.ints .u8 32 leftv], .agg [.ints .u8 32 rightv]]) (by kernel_rfl) (⟨⟨hk0, trivial⟩, ⟨hk1, trivial⟩, trivial⟩) (den_of F_tree_innerText_eq hh)

/- (*twinlock/tree.Tree).find-1 -/
def F_tree_Tree_find_1 (x0 : ByteArray) (_ : ByteArray) (p : ByteArray) (K : Value → PH → Prop) (h : PH) : Prop :=
  CallH Tryz.prog id_strings_Compare [.string x0, .string p] (fun v h1 =>
    ∃ t : Int, v = .int .i64 t ∧
    K (.int .i64 t) h1) h
theorem F_tree_Tree_find_1_eq {x0 : ByteArray} {x1 : ByteArray} {p : ByteArray} {K : Value → PH → Prop} {h : PH} : @Eq Prop (F_tree_Tree_find_1 x0 x1 p K h) (denF Tryz.prog Tryz.f142 ⟨[2], [], [], []⟩ [.agg [.one (.string x0), .one (.string x1)], .v (.string p)] K h) := by
  kernel_rfl
theorem F_tree_Tree_find_1_ok {x0 : ByteArray} {x1 : ByteArray} {p : ByteArray}  {K : Value → PH → Prop} {h : PH} (hh : F_tree_Tree_find_1 x0 x1 p K h) : CallH Tryz.prog id_tree_Tree_find_1 [.agg #[.string x0, .string x1], .string p] K h :=
  denF_sound' Tryz.func142 (H := ⟨[2], [], [], []⟩) (xs := [.agg [.one (.string x0), .one (.string x1)], .v (.string p)]) (by kernel_rfl) (⟨⟨rfl, rfl, trivial⟩, rfl, trivial⟩) (den_of F_tree_Tree_find_1_eq hh)

/- (*twinlock/tree.Tree).anew-1 -/
def F_tree_Tree_anew_1 (k : Int) (cap0B : Nat) (K : Value → PH → Prop) (h : PH) : Prop :=
  ∃ t : Option Addr, (h.rds cap0B 0 1 = some [.pointer t]) ∧
  ∃ t_1 : Option Addr, (h.rds cap0B 0 1 = some [.pointer t_1]) ∧
  ∃ bv ov : Nat, t_1 = some ⟨bv, ov, none⟩ ∧
  (0 ≤ (IntKind.wrap .i64 ((2 : Int) * k)) ∧ (IntKind.wrap .i64 ((2 : Int) * k)) < (32 : Nat)) ∧
  ∃ t_2 : List Int, t_2.length = 32 ∧ (h.rds bv ((ov + 16) + (IntKind.wrap .i64 ((2 : Int) * k)).toNat * 32) 32 = some (t_2.map (Value.int .u8) ++ [])) ∧
  ∃ t_3 : Option Addr, (h.rds cap0B 0 1 = some [.pointer t_3]) ∧
  ∃ bv_1 ov_1 : Nat, t_3 = some ⟨bv_1, ov_1, none⟩ ∧
  (0 ≤ (IntKind.wrap .i64 ((IntKind.wrap .i64 ((2 : Int) * k)) + (1 : Int))) ∧ (IntKind.wrap .i64 ((IntKind.wrap .i64 ((2 : Int) * k)) + (1 : Int))) < (32 : Nat)) ∧
  ∃ t_4 : List Int, t_4.length = 32 ∧ (h.rds bv_1 ((ov_1 + 16) + (IntKind.wrap .i64 ((IntKind.wrap .i64 ((2 : Int) * k)) + (1 : Int))).toNat * 32) 32 = some (t_4.map (Value.int .u8) ++ [])) ∧
  ∃ bv_2 ov_2 : Nat, t = some ⟨bv_2, ov_2, none⟩ ∧
  CallH Tryz.prog id_tree_Inner [.agg ((t_2.map (Value.int .u8) ++ [])).toArray, .agg ((t_4.map (Value.int .u8) ++ [])).toArray] (fun v h1 =>
    ∃ t_5 : List Int, t_5.length = 32 ∧ v = .agg ((t_5.map (Value.int .u8) ++ [])).toArray ∧
    (h1.rds cap0B 0 1 = some [.pointer t]) ∧
    (0 ≤ k ∧ k < (32 : Nat)) ∧
    stH h1 bv_2 ((ov_2 + 16) + k.toNat * 32) (t_5.map (Value.int .u8) ++ []) fun h2 =>
    K (.tuple #[]) h2) h
theorem F_tree_Tree_anew_1_eq {k : Int} {cap0B : Nat} {K : Value → PH → Prop} {h : PH} : @Eq Prop (F_tree_Tree_anew_1 k cap0B K h) (denF Tryz.prog Tryz.f146 ⟨[], [(0, .of [0, 1, 2, 3, 4, 5, 6, 7, 8, 9, 10, 11, 12, 13, 14, 15, 16, 18, 19, 17, 20, 21])], [], []⟩ [.v (.int .i64 k), .v (.pointer (some ⟨cap0B, 0, none⟩))] K h) := by
  kernel_rfl
theorem F_tree_Tree_anew_1_ok {k : Int} {cap0B : Nat}  {K : Value → PH → Prop} {h : PH} (hh : F_tree_Tree_anew_1 k cap0B K h) : CallH Tryz.prog id_tree_Tree_anew_1 [.int .i64 k, .pointer (some ⟨cap0B, 0, none⟩)] K h :=
  denF_sound' Tryz.func146 (H := ⟨[], [(0, .of [0, 1, 2, 3, 4, 5, 6, 7, 8, 9, 10, 11, 12, 13, 14, 15, 16, 18, 19, 17, 20, 21])], [], []⟩) (xs := [.v (.int .i64 k), .v (.pointer (some ⟨cap0B, 0, none⟩))]) (by kernel_rfl) (⟨rfl, rfl, trivial⟩) (den_of F_tree_Tree_anew_1_eq hh)


end TL

namespace TL
open Go Go.Proofs
/- twinlock/twinlocklaw15.TreePlays -/
def F_law15_TreePlays (actsA : Option Addr) (actsN actsC : Nat) (K : Value → PH → Prop) (h : PH) : Prop :=
  CallH Tryz.prog id_law15_Great [.slice actsA actsN actsC] (fun v h1 =>
    ∃ t : Bool, v = .bool t ∧
    ((t = true →
        CallH Tryz.prog id_law15_wakes [] (fun v_1 h2 =>
          ∃ t_1 : Bool, v_1 = .bool t_1 ∧
          K (.bool t_1) h2) h1) ∧
      (t = false →
        CallH Tryz.prog id_tree_New [] (fun v_2 h3 =>
          ∃ t_2 : Option Addr, v_2 = .pointer t_2 ∧
          LoopP (T := Int × (Option Addr × Nat × Nat) × Unit) (fun Jv st h4 =>
            (((decide (st.1 < ((actsN : Nat) : Int))) = true →
                JoinP (T := (Option Addr × Nat × Nat) × Unit) (fun Jv_1 =>
                  ∃ bv ov : Nat, (actsA = some ⟨bv, ov, none⟩ ∧ 0 ≤ st.1 ∧ st.1 < (actsN : Nat)) ∧
                  ∃ a0 : Int, ∃ a1 : ByteArray, ∃ a2 : ByteArray, (h4.rds bv (ov + st.1.toNat * 3) 3 = some [.int .u8 a0, .string a1, .string a2]) ∧
                  CallH Tryz.prog id_ref13_Map_Get [.agg #[.slice st.2.1.1 st.2.1.2.1 st.2.1.2.2], .string a1] (fun v_3 h6 =>
                    ∃ t0 : ByteArray, ∃ t1 : Bool, v_3 = .tuple #[.string t0, .bool t1] ∧
                    (((a0 == (0 : Int)) = true →
                        CallH Tryz.prog id_ref11_Cut [.string a1] (fun v_4 h7 =>
                          ∃ t0_1 : ByteArray, ∃ t1_1 : ByteArray, ∃ t2 : Bool, v_4 = .tuple #[.string t0_1, .string t1_1, .bool t2] ∧
                          JoinP (T := Int × (Option Addr × Nat × Nat) × Unit) (fun Jv_2 =>
                            (((!t2) = true →
                                Jv_2 ((20 : Int), (st.2.1.1, st.2.1.2.1, st.2.1.2.2), ()) h7) ∧
                              ((!t2) = false →
                                (((decide ((a2.size : Int) > (32 : Int))) = true →
                                    Jv_2 ((3 : Int), (st.2.1.1, st.2.1.2.1, st.2.1.2.2), ()) h7) ∧
                                  ((decide ((a2.size : Int) > (32 : Int))) = false →
                                    ((((!t1) && (decide (((st.2.1.2.1 : Nat) : Int) ≥ (48 : Int)))) = true →
                                        Jv_2 ((6 : Int), (st.2.1.1, st.2.1.2.1, st.2.1.2.2), ()) h7) ∧
                                      (((!t1) && (decide (((st.2.1.2.1 : Nat) : Int) ≥ (48 : Int)))) = false →
                                        CallH Tryz.prog id_ref13_Map_With [.agg #[.slice st.2.1.1 st.2.1.2.1 st.2.1.2.2], .string a1, .string a2] (fun v_5 h9 =>
                                          ∃ (mA : Option Addr) (mN mC : Nat), v_5 = .agg #[.slice mA mN mC] ∧
                                          Jv_2 ((0 : Int), (mA, mN, mC), ()) h9) h7)))))))
                          (fun st_2 h8 =>
                            CallH Tryz.prog id_tree_Tree_Set [.pointer t_2, .string a1, .string a2] (fun v_6 h10 =>
                              ∃ t_3 : Int, v_6 = .int .i64 t_3 ∧
                              (((t_3 != st_2.1) = true →
                                  K (.bool false) h10) ∧
                                ((t_3 != st_2.1) = false →
                                  Jv_1 ((st_2.2.1.1, st_2.2.1.2.1, st_2.2.1.2.2), ()) h10))) h8)) h6) ∧
                      ((a0 == (0 : Int)) = false →
                        (((a0 == (1 : Int)) = true →
                            CallH Tryz.prog id_tree_Tree_Drop [.pointer t_2, .string a1] (fun v_7 h11 =>
                              ∃ t_4 : Bool, v_7 = .bool t_4 ∧
                              (((!(t_4 == t1)) = true →
                                  K (.bool false) h11) ∧
                                ((!(t_4 == t1)) = false →
                                  CallH Tryz.prog id_ref13_Map_Without [.agg #[.slice st.2.1.1 st.2.1.2.1 st.2.1.2.2], .string a1] (fun v_8 h12 =>
                                    ∃ (mA_1 : Option Addr) (mN_1 mC_1 : Nat), v_8 = .agg #[.slice mA_1 mN_1 mC_1] ∧
                                    Jv_1 ((mA_1, mN_1, mC_1), ()) h12) h11))) h6) ∧
                          ((a0 == (1 : Int)) = false →
                            Jv_1 ((st.2.1.1, st.2.1.2.1, st.2.1.2.2), ()) h6))))) h4)
                (fun st_1 h5 =>
                  Jv ((IntKind.wrap .i64 (st.1 + (1 : Int))), (st_1.1.1, st_1.1.2.1, st_1.1.2.2), ()) h5)) ∧
              ((decide (st.1 < ((actsN : Nat) : Int))) = false →
                CallH Tryz.prog id_law15_stands [.pointer t_2, .slice st.2.1.1 st.2.1.2.1 st.2.1.2.2] (fun v_9 h13 =>
                  ∃ t_5 : Bool, v_9 = .bool t_5 ∧
                  ((t_5 = true →
                      CallH Tryz.prog id_law15_wakes [] (fun v_10 h14 =>
                        ∃ t_6 : Bool, v_10 = .bool t_6 ∧
                        K (.bool t_6) h14) h13) ∧
                    (t_5 = false →
                      K (.bool false) h13))) h4))) ((0 : Int), (none, 0, 0), ()) h3) h1))) h
theorem F_law15_TreePlays_eq {actsA : Option Addr} {actsN actsC : Nat} {K : Value → PH → Prop} {h : PH} : @Eq Prop (F_law15_TreePlays actsA actsN actsC K h) (denF Tryz.prog Tryz.f3 ⟨[4, 6], [], [(0, ⟨[(5, .int .i64)], [], [(0, [.one (.slice)])]⟩)], [(16, ⟨[], [], [(0, [.one (.slice)])]⟩), (44, ⟨[(9, .int .i64)], [], [(0, [.one (.slice)])]⟩)]⟩ [.v (.slice actsA actsN actsC)] K h) := by
  kernel_rfl
theorem F_law15_TreePlays_ok {actsA : Option Addr} {actsN actsC : Nat}  {K : Value → PH → Prop} {h : PH} (hh : F_law15_TreePlays actsA actsN actsC K h) : CallH Tryz.prog id_law15_TreePlays [.slice actsA actsN actsC] K h :=
  denF_sound' Tryz.func3 (H := ⟨[4, 6], [], [(0, ⟨[(5, .int .i64)], [], [(0, [.one (.slice)])]⟩)], [(16, ⟨[], [], [(0, [.one (.slice)])]⟩), (44, ⟨[(9, .int .i64)], [], [(0, [.one (.slice)])]⟩)]⟩) (xs := [.v (.slice actsA actsN actsC)]) (by kernel_rfl) (⟨rfl, trivial⟩) (den_of F_law15_TreePlays_eq hh)

/- twinlock/twinlocklaw15.TreeMakes -/
def F_law15_TreeMakes (lA : Option Addr) (lN lC : Nat) (level : Int) (i : Int) (K : Value → PH → Prop) (h : PH) : Prop :=
  CallH Tryz.prog id_law13_GreatPairs [.slice lA lN lC] (fun v h1 =>
    ∃ t : Bool, v = .bool t ∧
    ((t = true →
        CallH Tryz.prog id_law15_wakes [] (fun v_1 h2 =>
          ∃ t_1 : Bool, v_1 = .bool t_1 ∧
          K (.bool t_1) h2) h1) ∧
      (t = false →
        CallH Tryz.prog id_tree_Of [.slice lA lN lC] (fun v_2 h3 =>
          ∃ t0 : Option Addr, ∃ t1 : Int, v_2 = .tuple #[.pointer t0, .int .i64 t1] ∧
          JoinP (T := Int × Unit) (fun Jv =>
            (((decide (((lN : Nat) : Int) > (48 : Int))) = true →
                Jv ((6 : Int), ()) h3) ∧
              ((decide (((lN : Nat) : Int) > (48 : Int))) = false →
                Jv ((0 : Int), ()) h3)))
          (fun st h4 =>
            JoinP (T := Int × Unit) (fun Jv_1 =>
              CallH Tryz.prog id_ref14_May [.slice lA lN lC] (fun v_3 h6 =>
                ∃ t_2 : Bool, v_3 = .bool t_2 ∧
                (((!t_2) = true →
                    Jv_1 ((1 : Int), ()) h6) ∧
                  ((!t_2) = false →
                    Jv_1 (st.1, ()) h6))) h4)
            (fun st_1 h5 =>
              ((((t1 != st_1.1) || (!((Option.isNone t0) == (t1 != (0 : Int))))) = true →
                  K (.bool false) h5) ∧
                (((t1 != st_1.1) || (!((Option.isNone t0) == (t1 != (0 : Int))))) = false →
                  (((t1 != (0 : Int)) = true →
                      CallH Tryz.prog id_law15_wakes [] (fun v_4 h7 =>
                        ∃ t_3 : Bool, v_4 = .bool t_3 ∧
                        K (.bool t_3) h7) h5) ∧
                    ((t1 != (0 : Int)) = false →
                      CallH Tryz.prog id_tree_Tree_Node [.pointer t0, .int .i64 level, .int .i64 i] (fun v_5 h8 =>
                        ∃ t0_1 : List Int, t0_1.length = 32 ∧ ∃ t1_1 : Bool, v_5 = .tuple #[.agg ((t0_1.map (Value.int .u8) ++ [])).toArray, .bool t1_1] ∧
                        (((((decide (level ≥ (0 : Int))) && (decide (level ≤ (4 : Int)))) && (decide (i ≥ (0 : Int)))) = true → 0 ≤ (IntKind.wrap .u64 (level.tmod (8 : Int))))) ∧
                        (((t1_1 == ((((decide (level ≥ (0 : Int))) && (decide (level ≤ (4 : Int)))) && (decide (i ≥ (0 : Int)))) && (decide (i < (shlV .i64 (1 : Int) (IntKind.wrap .u64 (level.tmod (8 : Int)))))))) = true →
                            ((t1_1 = false →
                                (((t0_1 == (List.replicate 32 0)) = true →
                                    CallH Tryz.prog id_law15_stands [.pointer t0, .slice lA lN lC] (fun v_6 h9 =>
                                      ∃ t_4 : Bool, v_6 = .bool t_4 ∧
                                      ((t_4 = true →
                                          CallH Tryz.prog id_law15_wakes [] (fun v_7 h10 =>
                                            ∃ t_5 : Bool, v_7 = .bool t_5 ∧
                                            K (.bool t_5) h10) h9) ∧
                                        (t_4 = false →
                                          K (.bool false) h9))) h8) ∧
                                  ((t0_1 == (List.replicate 32 0)) = false →
                                    K (.bool false) h8))) ∧
                              (t1_1 = true →
                                CallH Tryz.prog id_law15_stands [.pointer t0, .slice lA lN lC] (fun v_8 h11 =>
                                  ∃ t_6 : Bool, v_8 = .bool t_6 ∧
                                  ((t_6 = true →
                                      CallH Tryz.prog id_law15_wakes [] (fun v_9 h12 =>
                                        ∃ t_7 : Bool, v_9 = .bool t_7 ∧
                                        K (.bool t_7) h12) h11) ∧
                                    (t_6 = false →
                                      K (.bool false) h11))) h8))) ∧
                          ((t1_1 == ((((decide (level ≥ (0 : Int))) && (decide (level ≤ (4 : Int)))) && (decide (i ≥ (0 : Int)))) && (decide (i < (shlV .i64 (1 : Int) (IntKind.wrap .u64 (level.tmod (8 : Int)))))))) = false →
                            K (.bool false) h8))) h5))))))) h1))) h
theorem F_law15_TreeMakes_eq {lA : Option Addr} {lN lC : Nat} {level : Int} {i : Int} {K : Value → PH → Prop} {h : PH} : @Eq Prop (F_law15_TreeMakes lA lN lC level i K h) (denF Tryz.prog Tryz.f4 ⟨[10], [], [], [(16, ⟨[(9, .int .i64)], [], []⟩), (20, ⟨[(9, .int .i64)], [], []⟩)]⟩ [.v (.slice lA lN lC), .v (.int .i64 level), .v (.int .i64 i)] K h) := by
  kernel_rfl
theorem F_law15_TreeMakes_ok {lA : Option Addr} {lN lC : Nat} {level : Int} {i : Int}  {K : Value → PH → Prop} {h : PH} (hh : F_law15_TreeMakes lA lN lC level i K h) : CallH Tryz.prog id_law15_TreeMakes [.slice lA lN lC, .int .i64 level, .int .i64 i] K h :=
  denF_sound' Tryz.func4 (H := ⟨[10], [], [], [(16, ⟨[(9, .int .i64)], [], []⟩), (20, ⟨[(9, .int .i64)], [], []⟩)]⟩) (xs := [.v (.slice lA lN lC), .v (.int .i64 level), .v (.int .i64 i)]) (by kernel_rfl) (⟨rfl, rfl, rfl, trivial⟩) (den_of F_law15_TreeMakes_eq hh)

/- twinlock/twinlocklaw15.Great -/
def F_law15_Great (lA : Option Addr) (lN _ : Nat) (K : Value → PH → Prop) (h : PH) : Prop :=
  (((decide (((lN : Nat) : Int) > (150 : Int))) = true →
      K (.bool true) h) ∧
    ((decide (((lN : Nat) : Int) > (150 : Int))) = false →
      LoopP (T := Int × Unit) (fun Jv st h1 =>
        (((decide (st.1 < ((lN : Nat) : Int))) = true →
            ∃ bv ov : Nat, (lA = some ⟨bv, ov, none⟩ ∧ 0 ≤ st.1 ∧ st.1 < (lN : Nat)) ∧
            ∃ t : ByteArray, (h1.rds bv ((ov + st.1.toNat * 3) + 1) 1 = some [.string t]) ∧
            ∃ bv_1 ov_1 : Nat, (((decide ((t.size : Int) > (1000 : Int))) = false → lA = some ⟨bv_1, ov_1, none⟩ ∧ 0 ≤ st.1 ∧ st.1 < (lN : Nat))) ∧
            ∃ t_1 : ByteArray, (((decide ((t.size : Int) > (1000 : Int))) = false → h1.rds bv_1 ((ov_1 + st.1.toNat * 3) + 2) 1 = some [.string t_1])) ∧
            ((((decide ((t.size : Int) > (1000 : Int))) || (decide ((t_1.size : Int) > (1000 : Int)))) = true →
                K (.bool true) h1) ∧
              (((decide ((t.size : Int) > (1000 : Int))) || (decide ((t_1.size : Int) > (1000 : Int)))) = false →
                Jv ((IntKind.wrap .i64 (st.1 + (1 : Int))), ()) h1))) ∧
          ((decide (st.1 < ((lN : Nat) : Int))) = false →
            K (.bool false) h1))) ((0 : Int), ()) h))
theorem F_law15_Great_eq {lA : Option Addr} {lN lC : Nat} {K : Value → PH → Prop} {h : PH} : @Eq Prop (F_law15_Great lA lN lC K h) (denF Tryz.prog Tryz.f18 ⟨[], [], [(0, ⟨[(3, .int .i64)], [], []⟩)], []⟩ [.v (.slice lA lN lC)] K h) := by
  kernel_rfl
theorem F_law15_Great_ok {lA : Option Addr} {lN lC : Nat}  {K : Value → PH → Prop} {h : PH} (hh : F_law15_Great lA lN lC K h) : CallH Tryz.prog id_law15_Great [.slice lA lN lC] K h :=
  denF_sound' Tryz.func18 (H := ⟨[], [], [(0, ⟨[(3, .int .i64)], [], []⟩)], []⟩) (xs := [.v (.slice lA lN lC)]) (by kernel_rfl) (⟨rfl, trivial⟩) (den_of F_law15_Great_eq hh)

/- twinlock/twinlocklaw15.wakes -/
def F_law15_wakes  (K : Value → PH → Prop) (h : PH) : Prop :=
  CallH Tryz.prog id_tree_New [] (fun v h1 =>
    ∃ t : Option Addr, v = .pointer t ∧
    CallH Tryz.prog id_tree_Tree_Root [.pointer t] (fun v_1 h2 =>
      ∃ nonev : List Int, nonev.length = 32 ∧ v_1 = .agg ((nonev.map (Value.int .u8) ++ [])).toArray ∧
      CallH Tryz.prog id_tree_Tree_Set [.pointer t, .string (⟨#[97, 112, 112, 47, 97]⟩ : ByteArray), .string (⟨#[49]⟩ : ByteArray)] (fun v_2 h3 =>
        ∃ e : Int, v_2 = .int .i64 e ∧
        CallH Tryz.prog id_tree_Tree_Root [.pointer t] (fun v_3 h4 =>
          ∃ one : List Int, one.length = 32 ∧ v_3 = .agg ((one.map (Value.int .u8) ++ [])).toArray ∧
          CallH Tryz.prog id_tree_Tree_Drop [.pointer t, .string (⟨#[97, 112, 112, 47, 97]⟩ : ByteArray)] (fun v_4 h5 =>
            ∃ ok : Bool, v_4 = .bool ok ∧
            ((((e == (0 : Int)) && ok) = true →
                CallH Tryz.prog id_tree_Tree_Root [.pointer t] (fun v_5 h6 =>
                  ∃ t_1 : List Int, t_1.length = 32 ∧ v_5 = .agg ((t_1.map (Value.int .u8) ++ [])).toArray ∧
                  ((((t_1 == nonev) && (!(one == nonev))) = true →
                      K (.bool (!(nonev == (List.replicate 32 0)))) h6) ∧
                    (((t_1 == nonev) && (!(one == nonev))) = false →
                      K (.bool false) h6))) h5) ∧
              (((e == (0 : Int)) && ok) = false →
                K (.bool false) h5))) h4) h3) h2) h1) h
theorem F_law15_wakes_eq  {K : Value → PH → Prop} {h : PH} : @Eq Prop (F_law15_wakes  K h) (denF Tryz.prog Tryz.f19 ⟨[2, 4], [(6, .of [0, 1, 2, 3, 4, 5, 6, 8, 7, 9, 10, 11, 12, 13, 14, 15, 16, 17, 18, 19, 20, 21])], [], []⟩ [] K h) := by
  kernel_rfl
theorem F_law15_wakes_ok   {K : Value → PH → Prop} {h : PH} (hh : F_law15_wakes  K h) : CallH Tryz.prog id_law15_wakes [] K h :=
  denF_sound' Tryz.func19 (H := ⟨[2, 4], [(6, .of [0, 1, 2, 3, 4, 5, 6, 8, 7, 9, 10, 11, 12, 13, 14, 15, 16, 17, 18, 19, 20, 21])], [], []⟩) (xs := []) (by kernel_rfl) (trivial) (den_of F_law15_wakes_eq hh)

/- twinlock/twinlocklaw15.stands -/
def F_law15_stands (t : Option Addr) (lA : Option Addr) (lN lC : Nat) (K : Value → PH → Prop) (h : PH) : Prop :=
  CallH Tryz.prog id_ref15_Levels [.slice lA lN lC] (fun v h1 =>
    ∃ (levelsA : Option Addr) (levelsN levelsC : Nat), v = .slice levelsA levelsN levelsC ∧
    LoopP (T := Int × Unit) (fun Jv st h2 =>
      (((decide (st.1 ≤ (4 : Int))) = true →
          LoopP (T := Int × Unit) (fun Jv_1 st_1 h3 =>
            ∃ bv ov : Nat, (levelsA = some ⟨bv, ov, none⟩ ∧ 0 ≤ st.1 ∧ st.1 < (levelsN : Nat)) ∧
            ∃ (tA : Option Addr) (tN tC : Nat), (h3.rds bv (ov + st.1.toNat * 1) 1 = some [.slice tA tN tC]) ∧
            (((decide (st_1.1 < ((tN : Nat) : Int))) = true →
                CallH Tryz.prog id_tree_Tree_Node [.pointer t, .int .i64 st.1, .int .i64 st_1.1] (fun v_1 h4 =>
                  ∃ t0 : List Int, t0.length = 32 ∧ ∃ t1 : Bool, v_1 = .tuple #[.agg ((t0.map (Value.int .u8) ++ [])).toArray, .bool t1] ∧
                  ∃ bv_1 ov_1 : Nat, (((!t1) = false → levelsA = some ⟨bv_1, ov_1, none⟩ ∧ 0 ≤ st.1 ∧ st.1 < (levelsN : Nat))) ∧
                  ∃ (tA_1 : Option Addr) (tN_1 tC_1 : Nat), (((!t1) = false → h4.rds bv_1 (ov_1 + st.1.toNat * 1) 1 = some [.slice tA_1 tN_1 tC_1])) ∧
                  ∃ bv_2 ov_2 : Nat, (((!t1) = false → tA_1 = some ⟨bv_2, ov_2, none⟩ ∧ 0 ≤ st_1.1 ∧ st_1.1 < (tN_1 : Nat))) ∧
                  ∃ t_1 : List Int, t_1.length = 32 ∧ (((!t1) = false → h4.rds bv_2 (ov_2 + st_1.1.toNat * 32) 32 = some (t_1.map (Value.int .u8) ++ []))) ∧
                  ((((!t1) || (!(t0 == t_1))) = true →
                      K (.bool false) h4) ∧
                    (((!t1) || (!(t0 == t_1))) = false →
                      Jv_1 ((IntKind.wrap .i64 (st_1.1 + (1 : Int))), ()) h4))) h3) ∧
              ((decide (st_1.1 < ((tN : Nat) : Int))) = false →
                Jv ((IntKind.wrap .i64 (st.1 + (1 : Int))), ()) h3))) ((0 : Int), ()) h2) ∧
        ((decide (st.1 ≤ (4 : Int))) = false →
          LoopP (T := Int × Unit) (fun Jv_2 st_2 h5 =>
            (((decide (st_2.1 < (16 : Int))) = true →
                CallH Tryz.prog id_tree_Tree_Pairs [.pointer t, .int .i64 st_2.1] (fun v_2 h6 =>
                  ∃ (tA_2 : Option Addr) (tN_2 tC_2 : Nat), v_2 = .slice tA_2 tN_2 tC_2 ∧
                  CallH Tryz.prog id_ref14_Part [.slice lA lN lC, .int .i64 st_2.1] (fun v_3 h7 =>
                    ∃ (tA_3 : Option Addr) (tN_3 tC_3 : Nat), v_3 = .slice tA_3 tN_3 tC_3 ∧
                    CallH Tryz.prog id_ref13_Same [.slice tA_2 tN_2 tC_2, .slice tA_3 tN_3 tC_3] (fun v_4 h8 =>
                      ∃ t_2 : Bool, v_4 = .bool t_2 ∧
                      (((!t_2) = true →
                          K (.bool false) h8) ∧
                        ((!t_2) = false →
                          Jv_2 ((IntKind.wrap .i64 (st_2.1 + (1 : Int))), ()) h8))) h7) h6) h5) ∧
              ((decide (st_2.1 < (16 : Int))) = false →
                ∃ bv_3 ov_3 : Nat, (levelsA = some ⟨bv_3, ov_3, none⟩ ∧ 0 ≤ (0 : Int) ∧ (0 : Int) < (levelsN : Nat)) ∧
                ∃ (tA_4 : Option Addr) (tN_4 tC_4 : Nat), (h5.rds bv_3 (ov_3 + (0 : Int).toNat * 1) 1 = some [.slice tA_4 tN_4 tC_4]) ∧
                ∃ bv_4 ov_4 : Nat, (tA_4 = some ⟨bv_4, ov_4, none⟩ ∧ 0 ≤ (0 : Int) ∧ (0 : Int) < (tN_4 : Nat)) ∧
                ∃ t_3 : List Int, t_3.length = 32 ∧ (h5.rds bv_4 (ov_4 + (0 : Int).toNat * 32) 32 = some (t_3.map (Value.int .u8) ++ [])) ∧
                CallH Tryz.prog id_tree_Tree_Root [.pointer t] (fun v_5 h9 =>
                  ∃ t_4 : List Int, t_4.length = 32 ∧ v_5 = .agg ((t_4.map (Value.int .u8) ++ [])).toArray ∧
                  (h9.rds bv_4 (ov_4 + (0 : Int).toNat * 32) 32 = some (t_3.map (Value.int .u8) ++ [])) ∧
                  (h9.rds bv_3 (ov_3 + (0 : Int).toNat * 1) 1 = some [.slice tA_4 tN_4 tC_4]) ∧
                  (((t_4 == t_3) = true →
                      CallH Tryz.prog id_tree_Tree_All [.pointer t] (fun v_6 h10 =>
                        ∃ (tA_5 : Option Addr) (tN_5 tC_5 : Nat), v_6 = .slice tA_5 tN_5 tC_5 ∧
                        CallH Tryz.prog id_ref13_Same [.slice tA_5 tN_5 tC_5, .slice lA lN lC] (fun v_7 h11 =>
                          ∃ t_5 : Bool, v_7 = .bool t_5 ∧
                          ((t_5 = true →
                              CallH Tryz.prog id_tree_Tree_Texts [.pointer t] (fun v_8 h12 =>
                                ∃ (tA_6 : Option Addr) (tN_6 tC_6 : Nat), v_8 = .slice tA_6 tN_6 tC_6 ∧
                                CallH Tryz.prog id_ref15_Texts [.slice lA lN lC] (fun v_9 h13 =>
                                  ∃ (tA_7 : Option Addr) (tN_7 tC_7 : Nat), v_9 = .slice tA_7 tN_7 tC_7 ∧
                                  CallH Tryz.prog id_law13_SameTexts [.slice tA_6 tN_6 tC_6, .slice tA_7 tN_7 tC_7] (fun v_10 h14 =>
                                    ∃ t_6 : Bool, v_10 = .bool t_6 ∧
                                    K (.bool t_6) h14) h13) h12) h11) ∧
                            (t_5 = false →
                              K (.bool false) h11))) h10) h9) ∧
                    ((t_4 == t_3) = false →
                      K (.bool false) h9))) h5))) ((0 : Int), ()) h2))) ((0 : Int), ()) h1) h
theorem F_law15_stands_eq {t : Option Addr} {lA : Option Addr} {lN lC : Nat} {K : Value → PH → Prop} {h : PH} : @Eq Prop (F_law15_stands t lA lN lC K h) (denF Tryz.prog Tryz.f27 ⟨[8], [(16, .of [0, 2, 3, 4, 5, 6, 1, 7, 8, 9, 11, 10, 12, 13, 14, 15, 17, 16, 18, 19, 20, 21])], [(0, ⟨[(6, .int .i64)], [], []⟩), (2, ⟨[(7, .int .i64)], [], []⟩), (4, ⟨[(10, .int .i64)], [], []⟩)], []⟩ [.v (.pointer t), .v (.slice lA lN lC)] K h) := by
  kernel_rfl
theorem F_law15_stands_ok {t : Option Addr} {lA : Option Addr} {lN lC : Nat}  {K : Value → PH → Prop} {h : PH} (hh : F_law15_stands t lA lN lC K h) : CallH Tryz.prog id_law15_stands [.pointer t, .slice lA lN lC] K h :=
  denF_sound' Tryz.func27 (H := ⟨[8], [(16, .of [0, 2, 3, 4, 5, 6, 1, 7, 8, 9, 11, 10, 12, 13, 14, 15, 17, 16, 18, 19, 20, 21])], [(0, ⟨[(6, .int .i64)], [], []⟩), (2, ⟨[(7, .int .i64)], [], []⟩), (4, ⟨[(10, .int .i64)], [], []⟩)], []⟩) (xs := [.v (.pointer t), .v (.slice lA lN lC)]) (by kernel_rfl) (⟨rfl, rfl, trivial⟩) (den_of F_law15_stands_eq hh)


end TL


