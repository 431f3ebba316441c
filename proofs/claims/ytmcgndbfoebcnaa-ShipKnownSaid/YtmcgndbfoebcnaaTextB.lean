/-
  The functions of the program as predicates on heap fragments, each tied to its code (a part). No condition.
-/
import Derived.Test.YtmcgndbfoebcnaaTextA
namespace TL
open Go Go.Proofs
/- twinlock/tree.Of -/
def F_tree_Of (lA : Option Addr) (lN lC : Nat) (K : Value → PH → Prop) (h : PH) : Prop :=
  CallH Try.prog id_bucket_May [.slice lA lN lC] (fun v h1 =>
    ∃ t : Bool, v = .bool t ∧
    (((!t) = true →
        K (.tuple #[.pointer none, .int .i64 (1 : Int)]) h1) ∧
      ((!t) = false →
        (((decide (((lN : Nat) : Int) > (48 : Int))) = true →
            K (.tuple #[.pointer none, .int .i64 (6 : Int)]) h1) ∧
          ((decide (((lN : Nat) : Int) > (48 : Int))) = false →
            CallH Try.prog id_tree_New [] (fun v_1 h2 =>
              ∃ t_1 : Option Addr, v_1 = .pointer t_1 ∧
              LoopP (T := Int × Unit) (fun Jv st h3 =>
                (((decide (st.1 < ((lN : Nat) : Int))) = true →
                    ∃ bv ov : Nat, (lA = some ⟨bv, ov, none⟩ ∧ 0 ≤ st.1 ∧ st.1 < (lN : Nat)) ∧
                    ∃ x0 : ByteArray, ∃ x1 : ByteArray, (h3.rds bv (ov + st.1.toNat * 2) 2 = some [.string x0, .string x1]) ∧
                    CallH Try.prog id_tree_Tree_Set [.pointer t_1, .string x0, .string x1] (fun v_2 h4 =>
                      ∃ t_2 : Int, v_2 = .int .i64 t_2 ∧
                      Jv ((IntKind.wrap .i64 (st.1 + (1 : Int))), ()) h4) h3) ∧
                  ((decide (st.1 < ((lN : Nat) : Int))) = false →
                    K (.tuple #[.pointer t_1, .int .i64 (0 : Int)]) h3))) ((0 : Int), ()) h2) h1))))) h
theorem F_tree_Of_eq {lA : Option Addr} {lN lC : Nat} {K : Value → PH → Prop} {h : PH} : @Eq Prop (F_tree_Of lA lN lC K h) (denF Try.prog Try.f15 ⟨[6], [], [(1, ⟨[(18, .int .i64)], [], []⟩)], []⟩ [.v (.slice lA lN lC)] K h) := by
  kernel_rfl
theorem F_tree_Of_ok {lA : Option Addr} {lN lC : Nat}  {K : Value → PH → Prop} {h : PH} (hh : F_tree_Of lA lN lC K h) : CallH Try.prog id_tree_Of [.slice lA lN lC] K h :=
  denF_sound' Try.func15 (H := ⟨[6], [], [(1, ⟨[(18, .int .i64)], [], []⟩)], []⟩) (xs := [.v (.slice lA lN lC)]) (by kernel_rfl) (⟨rfl, trivial⟩) (den_of F_tree_Of_eq hh)

/- twinlock/tree.New -/
def F_tree_New  (K : Value → PH → Prop) (h : PH) : Prop :=
  newH h (.cells (((List.replicate 16 (.slice none 0 0 : Value)) ++ ((List.replicate 1024 (.int .u8 (0 : Int) : Value)) ++ ([.int .i64 (0 : Int)] : List Value)))).toArray T_tree_Tree (0, 0)) fun bv h1 =>
  LoopP (T := Int × Unit) (fun Jv st h2 =>
    (((decide (st.1 < (16 : Int))) = true →
        ∃ bv_1 ov : Nat, (some ⟨bv, 0, none⟩ : Option Addr) = some ⟨bv_1, ov, none⟩ ∧
        CallH Try.prog id_tree_Tree_page [.pointer (some ⟨bv, 0, none⟩), .int .i64 st.1] (fun v h3 =>
          ∃ t : ByteArray, v = .string t ∧
          CallH Try.prog id_tree_Leaf [.string t] (fun v_1 h4 =>
            ∃ t_1 : List Int, t_1.length = 32 ∧ v_1 = .agg ((t_1.map (Value.int .u8) ++ [])).toArray ∧
            (0 ≤ (IntKind.wrap .i64 ((16 : Int) + st.1)) ∧ (IntKind.wrap .i64 ((16 : Int) + st.1)) < (32 : Nat)) ∧
            stH h4 bv_1 ((ov + 16) + (IntKind.wrap .i64 ((16 : Int) + st.1)).toNat * 32) (t_1.map (Value.int .u8) ++ []) fun h5 =>
            Jv ((IntKind.wrap .i64 (st.1 + (1 : Int))), ()) h5) h3) h2) ∧
      ((decide (st.1 < (16 : Int))) = false →
        LoopP (T := Int × Unit) (fun Jv_1 st_1 h6 =>
          (((decide (st_1.1 > (0 : Int))) = true →
              ∃ bv_2 ov_1 : Nat, (some ⟨bv, 0, none⟩ : Option Addr) = some ⟨bv_2, ov_1, none⟩ ∧
              (0 ≤ (IntKind.wrap .i64 ((2 : Int) * st_1.1)) ∧ (IntKind.wrap .i64 ((2 : Int) * st_1.1)) < (32 : Nat)) ∧
              ∃ t_2 : List Int, t_2.length = 32 ∧ (h6.rds bv_2 ((ov_1 + 16) + (IntKind.wrap .i64 ((2 : Int) * st_1.1)).toNat * 32) 32 = some (t_2.map (Value.int .u8) ++ [])) ∧
              ∃ bv_3 ov_2 : Nat, (some ⟨bv, 0, none⟩ : Option Addr) = some ⟨bv_3, ov_2, none⟩ ∧
              (0 ≤ (IntKind.wrap .i64 ((IntKind.wrap .i64 ((2 : Int) * st_1.1)) + (1 : Int))) ∧ (IntKind.wrap .i64 ((IntKind.wrap .i64 ((2 : Int) * st_1.1)) + (1 : Int))) < (32 : Nat)) ∧
              ∃ t_3 : List Int, t_3.length = 32 ∧ (h6.rds bv_3 ((ov_2 + 16) + (IntKind.wrap .i64 ((IntKind.wrap .i64 ((2 : Int) * st_1.1)) + (1 : Int))).toNat * 32) 32 = some (t_3.map (Value.int .u8) ++ [])) ∧
              ∃ bv_4 ov_3 : Nat, (some ⟨bv, 0, none⟩ : Option Addr) = some ⟨bv_4, ov_3, none⟩ ∧
              CallH Try.prog id_tree_Inner [.agg ((t_2.map (Value.int .u8) ++ [])).toArray, .agg ((t_3.map (Value.int .u8) ++ [])).toArray] (fun v_2 h7 =>
                ∃ t_4 : List Int, t_4.length = 32 ∧ v_2 = .agg ((t_4.map (Value.int .u8) ++ [])).toArray ∧
                (0 ≤ st_1.1 ∧ st_1.1 < (32 : Nat)) ∧
                stH h7 bv_4 ((ov_3 + 16) + st_1.1.toNat * 32) (t_4.map (Value.int .u8) ++ []) fun h8 =>
                Jv_1 ((IntKind.wrap .i64 (st_1.1 - (1 : Int))), ()) h8) h6) ∧
            ((decide (st_1.1 > (0 : Int))) = false →
              K (.pointer (some ⟨bv, 0, none⟩)) h6))) ((15 : Int), ()) h2))) ((0 : Int), ()) h1
theorem F_tree_New_eq  {K : Value → PH → Prop} {h : PH} : @Eq Prop (F_tree_New  K h) (denF Try.prog Try.f23 ⟨[], [(5, .of [0, 1, 2, 3, 4, 7, 8, 5, 6, 9, 10]), (10, .of [0, 1, 2, 3, 4, 5, 6, 7, 8, 9, 10, 11, 12, 13, 14, 15, 16, 18, 19, 17, 20, 21])], [(0, ⟨[(6, .int .i64)], [], []⟩), (2, ⟨[(3, .int .i64)], [], []⟩)], []⟩ [] K h) := by
  kernel_rfl
theorem F_tree_New_ok   {K : Value → PH → Prop} {h : PH} (hh : F_tree_New  K h) : CallH Try.prog id_tree_New [] K h :=
  denF_sound' Try.func23 (H := ⟨[], [(5, .of [0, 1, 2, 3, 4, 7, 8, 5, 6, 9, 10]), (10, .of [0, 1, 2, 3, 4, 5, 6, 7, 8, 9, 10, 11, 12, 13, 14, 15, 16, 18, 19, 17, 20, 21])], [(0, ⟨[(6, .int .i64)], [], []⟩), (2, ⟨[(3, .int .i64)], [], []⟩)], []⟩) (xs := []) (by kernel_rfl) (trivial) (den_of F_tree_New_eq hh)

/- (*twinlock/tree.Tree).Root -/
def F_tree_Tree_Root (t : Option Addr) (K : Value → PH → Prop) (h : PH) : Prop :=
  CallH Try.prog id_tree_Tree_Node [.pointer t, .int .i64 (0 : Int), .int .i64 (0 : Int)] (fun v h1 =>
    ∃ t0 : List Int, t0.length = 32 ∧ ∃ t1 : Bool, v = .tuple #[.agg ((t0.map (Value.int .u8) ++ [])).toArray, .bool t1] ∧
    K (.agg ((t0.map (Value.int .u8) ++ [])).toArray) h1) h
theorem F_tree_Tree_Root_eq {t : Option Addr} {K : Value → PH → Prop} {h : PH} : @Eq Prop (F_tree_Tree_Root t K h) (denF Try.prog Try.f24 ⟨[2, 3], [], [], []⟩ [.v (.pointer t)] K h) := by
  kernel_rfl
theorem F_tree_Tree_Root_ok {t : Option Addr}  {K : Value → PH → Prop} {h : PH} (hh : F_tree_Tree_Root t K h) : CallH Try.prog id_tree_Tree_Root [.pointer t] K h :=
  denF_sound' Try.func24 (H := ⟨[2, 3], [], [], []⟩) (xs := [.v (.pointer t)]) (by kernel_rfl) (⟨rfl, trivial⟩) (den_of F_tree_Tree_Root_eq hh)

/- (*twinlock/tree.Tree).Node -/
def F_tree_Tree_Node (t : Option Addr) (level : Int) (i : Int) (K : Value → PH → Prop) (h : PH) : Prop :=
  ((((((Option.isNone t) || (decide (level < (0 : Int)))) || (decide (level > (4 : Int)))) || (decide (i < (0 : Int)))) = false → 0 ≤ level)) ∧
  (((((((Option.isNone t) || (decide (level < (0 : Int)))) || (decide (level > (4 : Int)))) || (decide (i < (0 : Int)))) || (decide (i ≥ (shlV .i64 (1 : Int) level)))) = true →
      K (.tuple #[.agg (((List.replicate 32 0).map (Value.int .u8) ++ [])).toArray, .bool false]) h) ∧
    ((((((Option.isNone t) || (decide (level < (0 : Int)))) || (decide (level > (4 : Int)))) || (decide (i < (0 : Int)))) || (decide (i ≥ (shlV .i64 (1 : Int) level)))) = false →
      (0 ≤ level) ∧
      ∃ bv ov : Nat, t = some ⟨bv, ov, none⟩ ∧
      (0 ≤ (IntKind.wrap .i64 ((shlV .i64 (1 : Int) level) + i)) ∧ (IntKind.wrap .i64 ((shlV .i64 (1 : Int) level) + i)) < (32 : Nat)) ∧
      ∃ t_1 : List Int, t_1.length = 32 ∧ (h.rds bv ((ov + 16) + (IntKind.wrap .i64 ((shlV .i64 (1 : Int) level) + i)).toNat * 32) 32 = some (t_1.map (Value.int .u8) ++ [])) ∧
      K (.tuple #[.agg ((t_1.map (Value.int .u8) ++ [])).toArray, .bool true]) h))
theorem F_tree_Tree_Node_eq {t : Option Addr} {level : Int} {i : Int} {K : Value → PH → Prop} {h : PH} : @Eq Prop (F_tree_Tree_Node t level i K h) (denF Try.prog Try.f26 ⟨[6], [], [], []⟩ [.v (.pointer t), .v (.int .i64 level), .v (.int .i64 i)] K h) := by
  kernel_rfl
theorem F_tree_Tree_Node_ok {t : Option Addr} {level : Int} {i : Int}  {K : Value → PH → Prop} {h : PH} (hh : F_tree_Tree_Node t level i K h) : CallH Try.prog id_tree_Tree_Node [.pointer t, .int .i64 level, .int .i64 i] K h :=
  denF_sound' Try.func26 (H := ⟨[6], [], [], []⟩) (xs := [.v (.pointer t), .v (.int .i64 level), .v (.int .i64 i)]) (by kernel_rfl) (⟨rfl, rfl, rfl, trivial⟩) (den_of F_tree_Tree_Node_eq hh)

/- (*twinlock/tree.Tree).Texts -/
def F_tree_Tree_Texts (t : Option Addr) (K : Value → PH → Prop) (h : PH) : Prop :=
  (((Option.isNone t) = true →
      K (.slice none 0 0) h) ∧
    ((Option.isNone t) = false →
      LoopP (T := (Option Addr × Nat × Nat) × Int × Unit) (fun Jv st h1 =>
        (((decide (st.2.1 < (16 : Int))) = true →
            CallH Try.prog id_tree_Tree_page [.pointer t, .int .i64 st.2.1] (fun v h2 =>
              ∃ t_1 : ByteArray, v = .string t_1 ∧
              (((ByteArray.size (⟨#[76]⟩ : ByteArray) + ByteArray.size t_1 : Nat) : Int) ≤ 9223372036854775807) ∧
              appH 9 1 16 [.string (⟨#[]⟩ : ByteArray)] st.1.1 st.1.2.1 st.1.2.2 1 [.string ((⟨#[76]⟩ : ByteArray) ++ t_1)] (fun outA outN outC h3 =>
                Jv ((outA, outN, outC), (IntKind.wrap .i64 (st.2.1 + (1 : Int))), ()) h3) h2) h1) ∧
          ((decide (st.2.1 < (16 : Int))) = false →
            LoopP (T := (Option Addr × Nat × Nat) × Int × Unit) (fun Jv_1 st_1 h4 =>
              (((decide (st_1.2.1 ≥ (0 : Int))) = true →
                  (0 ≤ st_1.2.1) ∧
                  LoopP (T := (Option Addr × Nat × Nat) × Int × Unit) (fun Jv_2 st_2 h5 =>
                    (((decide (st_2.2.1 < (shlV .i64 (1 : Int) st_1.2.1))) = true →
                        (0 ≤ st_1.2.1) ∧
                        ∃ bv ov : Nat, t = some ⟨bv, ov, none⟩ ∧
                        (0 ≤ (IntKind.wrap .i64 ((2 : Int) * (IntKind.wrap .i64 ((shlV .i64 (1 : Int) st_1.2.1) + st_2.2.1)))) ∧ (IntKind.wrap .i64 ((2 : Int) * (IntKind.wrap .i64 ((shlV .i64 (1 : Int) st_1.2.1) + st_2.2.1)))) < (32 : Nat)) ∧
                        ∃ t_2 : List Int, t_2.length = 32 ∧ (h5.rds bv ((ov + 16) + (IntKind.wrap .i64 ((2 : Int) * (IntKind.wrap .i64 ((shlV .i64 (1 : Int) st_1.2.1) + st_2.2.1)))).toNat * 32) 32 = some (t_2.map (Value.int .u8) ++ [])) ∧
                        ∃ bv_1 ov_1 : Nat, t = some ⟨bv_1, ov_1, none⟩ ∧
                        (0 ≤ (IntKind.wrap .i64 ((IntKind.wrap .i64 ((2 : Int) * (IntKind.wrap .i64 ((shlV .i64 (1 : Int) st_1.2.1) + st_2.2.1)))) + (1 : Int))) ∧ (IntKind.wrap .i64 ((IntKind.wrap .i64 ((2 : Int) * (IntKind.wrap .i64 ((shlV .i64 (1 : Int) st_1.2.1) + st_2.2.1)))) + (1 : Int))) < (32 : Nat)) ∧
                        ∃ t_3 : List Int, t_3.length = 32 ∧ (h5.rds bv_1 ((ov_1 + 16) + (IntKind.wrap .i64 ((IntKind.wrap .i64 ((2 : Int) * (IntKind.wrap .i64 ((shlV .i64 (1 : Int) st_1.2.1) + st_2.2.1)))) + (1 : Int))).toNat * 32) 32 = some (t_3.map (Value.int .u8) ++ [])) ∧
                        CallH Try.prog id_tree_innerText [.agg ((t_2.map (Value.int .u8) ++ [])).toArray, .agg ((t_3.map (Value.int .u8) ++ [])).toArray] (fun v_1 h6 =>
                          ∃ t_4 : ByteArray, v_1 = .string t_4 ∧
                          appH 9 1 16 [.string (⟨#[]⟩ : ByteArray)] st_2.1.1 st_2.1.2.1 st_2.1.2.2 1 [.string t_4] (fun outA_1 outN_1 outC_1 h7 =>
                            Jv_2 ((outA_1, outN_1, outC_1), (IntKind.wrap .i64 (st_2.2.1 + (1 : Int))), ()) h7) h6) h5) ∧
                      ((decide (st_2.2.1 < (shlV .i64 (1 : Int) st_1.2.1))) = false →
                        Jv_1 ((st_2.1.1, st_2.1.2.1, st_2.1.2.2), (IntKind.wrap .i64 (st_1.2.1 - (1 : Int))), ()) h5))) ((st_1.1.1, st_1.1.2.1, st_1.1.2.2), (0 : Int), ()) h4) ∧
                ((decide (st_1.2.1 ≥ (0 : Int))) = false →
                  K (.slice st_1.1.1 st_1.1.2.1 st_1.1.2.2) h4))) ((st.1.1, st.1.2.1, st.1.2.2), (3 : Int), ()) h1))) ((none, 0, 0), (0 : Int), ()) h))
theorem F_tree_Tree_Texts_eq {t : Option Addr} {K : Value → PH → Prop} {h : PH} : @Eq Prop (F_tree_Tree_Texts t K h) (denF Try.prog Try.f32 ⟨[18, 51], [], [(0, ⟨[(3, .slice), (10, .int .i64)], [], []⟩), (2, ⟨[(3, .slice), (5, .int .i64)], [], []⟩), (4, ⟨[(3, .slice), (27, .int .i64)], [], []⟩)], []⟩ [.v (.pointer t)] K h) := by
  kernel_rfl
theorem F_tree_Tree_Texts_ok {t : Option Addr}  {K : Value → PH → Prop} {h : PH} (hh : F_tree_Tree_Texts t K h) : CallH Try.prog id_tree_Tree_Texts [.pointer t] K h :=
  denF_sound' Try.func32 (H := ⟨[18, 51], [], [(0, ⟨[(3, .slice), (10, .int .i64)], [], []⟩), (2, ⟨[(3, .slice), (5, .int .i64)], [], []⟩), (4, ⟨[(3, .slice), (27, .int .i64)], [], []⟩)], []⟩) (xs := [.v (.pointer t)]) (by kernel_rfl) (⟨rfl, trivial⟩) (den_of F_tree_Tree_Texts_eq hh)

/- (*twinlock/tree.Tree).Set -/
set_option maxRecDepth 100000 in
def F_tree_Tree_Set (t : Option Addr) (p : ByteArray) (v : ByteArray) (K : Value → PH → Prop) (h : PH) : Prop :=
  (((Option.isNone t) = true →
      K (.int .i64 (2 : Int)) h) ∧
    ((Option.isNone t) = false →
      CallH Try.prog id_path_Cut [.string p] (fun v_1 h1 =>
        ∃ t0 : ByteArray, ∃ t1 : ByteArray, ∃ t2 : Bool, v_1 = .tuple #[.string t0, .string t1, .bool t2] ∧
        (((!t2) = true →
            K (.int .i64 (20 : Int)) h1) ∧
          ((!t2) = false →
            (((decide ((v.size : Int) > (32 : Int))) = true →
                K (.int .i64 (3 : Int)) h1) ∧
              ((decide ((v.size : Int) > (32 : Int))) = false →
                CallH Try.prog id_tree_Tree_find [.pointer t, .string p] (fun v_2 h2 =>
                  ∃ t0_1 : Int, ∃ t1_1 : Int, ∃ t2_1 : Bool, v_2 = .tuple #[.int .i64 t0_1, .int .i64 t1_1, .bool t2_1] ∧
                  JoinP (T := Unit) (fun Jv =>
                    ((t2_1 = true →
                        ∃ bv ov : Nat, t = some ⟨bv, ov, none⟩ ∧
                        (0 ≤ t0_1 ∧ t0_1 < (16 : Nat)) ∧
                        ∃ (tA : Option Addr) (tN tC : Nat), (h2.rds bv (ov + t0_1.toNat * 1) 1 = some [.slice tA tN tC]) ∧
                        ∃ bv_1 ov_1 : Nat, t = some ⟨bv_1, ov_1, none⟩ ∧
                        (CallH Try.prog id_slices_Clone_api_Pair_api_Pair [.slice tA tN tC] (fun v_3 h4 =>
                            ∃ (tA_1 : Option Addr) (tN_1 tC_1 : Nat), v_3 = .slice tA_1 tN_1 tC_1 ∧
                            newH h4 (.cells #[.string p, .string v] T_api_Pair (0, 0)) fun bv_2 h5 =>
                            CallH Try.prog id_slices_Replace_api_Pair_api_Pair [.slice tA_1 tN_1 tC_1, .int .i64 t1_1, .int .i64 (IntKind.wrap .i64 (t1_1 + (1 : Int))), .slice (some ⟨bv_2, 0, none⟩) 1 1] (fun v_4 h6 =>
                              ∃ (tA_2 : Option Addr) (tN_2 tC_2 : Nat), v_4 = .slice tA_2 tN_2 tC_2 ∧
                              (0 ≤ t0_1 ∧ t0_1 < (16 : Nat)) ∧
                              stH h6 bv_1 (ov_1 + t0_1.toNat * 1) [.slice tA_2 tN_2 tC_2] fun h7 =>
                              Jv (()) h7) h5) h2) ∧
                        (newH h2 (.cells #[.string p, .string v] T_api_Pair (0, 0)) fun bv_3 h8 =>
                          CallH Try.prog id_slices_Clone_api_Pair_api_Pair [.slice tA tN tC] (fun v_5 h9 =>
                            ∃ (tA_3 : Option Addr) (tN_3 tC_3 : Nat), v_5 = .slice tA_3 tN_3 tC_3 ∧
                            CallH Try.prog id_slices_Replace_api_Pair_api_Pair [.slice tA_3 tN_3 tC_3, .int .i64 t1_1, .int .i64 (IntKind.wrap .i64 (t1_1 + (1 : Int))), .slice (some ⟨bv_3, 0, none⟩) 1 1] (fun v_6 h10 =>
                              ∃ (tA_4 : Option Addr) (tN_4 tC_4 : Nat), v_6 = .slice tA_4 tN_4 tC_4 ∧
                              (0 ≤ t0_1 ∧ t0_1 < (16 : Nat)) ∧
                              stH h10 bv_1 (ov_1 + t0_1.toNat * 1) [.slice tA_4 tN_4 tC_4] fun h11 =>
                              Jv (()) h11) h9) h8)) ∧
                      (t2_1 = false →
                        ∃ bv_4 ov_2 : Nat, t = some ⟨bv_4, ov_2, none⟩ ∧
                        ∃ t_1 : Int, (h2.rds bv_4 (ov_2 + 1040) 1 = some [.int .i64 t_1]) ∧
                        (((decide (t_1 ≥ (48 : Int))) = true →
                            K (.int .i64 (6 : Int)) h2) ∧
                          ((decide (t_1 ≥ (48 : Int))) = false →
                            ∃ bv_5 ov_3 : Nat, t = some ⟨bv_5, ov_3, none⟩ ∧
                            (0 ≤ t0_1 ∧ t0_1 < (16 : Nat)) ∧
                            ∃ (tA_5 : Option Addr) (tN_5 tC_5 : Nat), (h2.rds bv_5 (ov_3 + t0_1.toNat * 1) 1 = some [.slice tA_5 tN_5 tC_5]) ∧
                            ∃ bv_6 ov_4 : Nat, t = some ⟨bv_6, ov_4, none⟩ ∧
                            (CallH Try.prog id_slices_Clone_api_Pair_api_Pair [.slice tA_5 tN_5 tC_5] (fun v_7 h12 =>
                                ∃ (tA_6 : Option Addr) (tN_6 tC_6 : Nat), v_7 = .slice tA_6 tN_6 tC_6 ∧
                                newH h12 (.cells #[.string p, .string v] T_api_Pair (0, 0)) fun bv_7 h13 =>
                                CallH Try.prog id_slices_Insert_api_Pair_api_Pair [.slice tA_6 tN_6 tC_6, .int .i64 t1_1, .slice (some ⟨bv_7, 0, none⟩) 1 1] (fun v_8 h14 =>
                                  ∃ (tA_7 : Option Addr) (tN_7 tC_7 : Nat), v_8 = .slice tA_7 tN_7 tC_7 ∧
                                  (0 ≤ t0_1 ∧ t0_1 < (16 : Nat)) ∧
                                  stH h14 bv_6 (ov_4 + t0_1.toNat * 1) [.slice tA_7 tN_7 tC_7] fun h15 =>
                                  ∃ bv_8 ov_5 : Nat, t = some ⟨bv_8, ov_5, none⟩ ∧
                                  ∃ t_2 : Int, (h15.rds bv_8 (ov_5 + 1040) 1 = some [.int .i64 t_2]) ∧
                                  ∃ bv_9 ov_6 : Nat, t = some ⟨bv_9, ov_6, none⟩ ∧
                                  stH h15 bv_9 (ov_6 + 1040) [.int .i64 (IntKind.wrap .i64 (t_2 + (1 : Int)))] fun h16 =>
                                  Jv (()) h16) h13) h2) ∧
                            (newH h2 (.cells #[.string p, .string v] T_api_Pair (0, 0)) fun bv_10 h17 =>
                              CallH Try.prog id_slices_Clone_api_Pair_api_Pair [.slice tA_5 tN_5 tC_5] (fun v_9 h18 =>
                                ∃ (tA_8 : Option Addr) (tN_8 tC_8 : Nat), v_9 = .slice tA_8 tN_8 tC_8 ∧
                                CallH Try.prog id_slices_Insert_api_Pair_api_Pair [.slice tA_8 tN_8 tC_8, .int .i64 t1_1, .slice (some ⟨bv_10, 0, none⟩) 1 1] (fun v_10 h19 =>
                                  ∃ (tA_9 : Option Addr) (tN_9 tC_9 : Nat), v_10 = .slice tA_9 tN_9 tC_9 ∧
                                  (0 ≤ t0_1 ∧ t0_1 < (16 : Nat)) ∧
                                  stH h19 bv_6 (ov_4 + t0_1.toNat * 1) [.slice tA_9 tN_9 tC_9] fun h20 =>
                                  ∃ bv_11 ov_7 : Nat, t = some ⟨bv_11, ov_7, none⟩ ∧
                                  ∃ t_3 : Int, (h20.rds bv_11 (ov_7 + 1040) 1 = some [.int .i64 t_3]) ∧
                                  ∃ bv_12 ov_8 : Nat, t = some ⟨bv_12, ov_8, none⟩ ∧
                                  stH h20 bv_12 (ov_8 + 1040) [.int .i64 (IntKind.wrap .i64 (t_3 + (1 : Int)))] fun h21 =>
                                  Jv (()) h21) h18) h17))))))
                  (fun _ h3 =>
                    CallH Try.prog id_tree_Tree_anew [.pointer t, .int .i64 t0_1] (fun _ h22 =>
                      K (.int .i64 (0 : Int)) h22) h3)) h1))))) h))
set_option maxRecDepth 100000 in
theorem F_tree_Tree_Set_eq {t : Option Addr} {p : ByteArray} {v : ByteArray} {K : Value → PH → Prop} {h : PH} : @Eq Prop (F_tree_Tree_Set t p v K h) (denF Try.prog Try.f34 ⟨[13], [(13, .one 0 (.one 1 (.one 2 (.one 3 (.one 4 (.one 5 (.one 6 (.one 7 (.one 9 (.one 10 (.one 11 (.one 12 (.one 15 (.one 16 (.alt 8 (.of [13, 14, 17, 18]) (.of [13, 8, 14, 17, 18])))))))))))))))), (10, .one 0 (.one 1 (.one 2 (.one 3 (.one 4 (.one 5 (.one 6 (.one 7 (.one 9 (.one 10 (.one 13 (.one 14 (.alt 8 (.of [11, 12, 15, 16]) (.of [11, 8, 12, 15, 16]))))))))))))))], [], [(34, ⟨[], [], []⟩)]⟩ [.v (.pointer t), .v (.string p), .v (.string v)] K h) := by
  kernel_rfl
theorem F_tree_Tree_Set_ok {t : Option Addr} {p : ByteArray} {v : ByteArray}  {K : Value → PH → Prop} {h : PH} (hh : F_tree_Tree_Set t p v K h) : CallH Try.prog id_tree_Tree_Set [.pointer t, .string p, .string v] K h :=
  denF_sound' Try.func34 (H := ⟨[13], [(13, .one 0 (.one 1 (.one 2 (.one 3 (.one 4 (.one 5 (.one 6 (.one 7 (.one 9 (.one 10 (.one 11 (.one 12 (.one 15 (.one 16 (.alt 8 (.of [13, 14, 17, 18]) (.of [13, 8, 14, 17, 18])))))))))))))))), (10, .one 0 (.one 1 (.one 2 (.one 3 (.one 4 (.one 5 (.one 6 (.one 7 (.one 9 (.one 10 (.one 13 (.one 14 (.alt 8 (.of [11, 12, 15, 16]) (.of [11, 8, 12, 15, 16]))))))))))))))], [], [(34, ⟨[], [], []⟩)]⟩) (xs := [.v (.pointer t), .v (.string p), .v (.string v)]) (by kernel_rfl) (⟨rfl, rfl, rfl, trivial⟩) (den_of F_tree_Tree_Set_eq hh)

/- (*twinlock/tree.Tree).Pairs -/
def F_tree_Tree_Pairs (t : Option Addr) (i : Int) (K : Value → PH → Prop) (h : PH) : Prop :=
  (((((Option.isNone t) || (decide (i < (0 : Int)))) || (decide (i ≥ (16 : Int)))) = true →
      K (.slice none 0 0) h) ∧
    ((((Option.isNone t) || (decide (i < (0 : Int)))) || (decide (i ≥ (16 : Int)))) = false →
      ∃ bv ov : Nat, t = some ⟨bv, ov, none⟩ ∧
      (0 ≤ i ∧ i < (16 : Nat)) ∧
      ∃ (tA : Option Addr) (tN tC : Nat), (h.rds bv (ov + i.toNat * 1) 1 = some [.slice tA tN tC]) ∧
      CallH Try.prog id_slices_Clone_api_Pair_api_Pair [.slice tA tN tC] (fun v h1 =>
        ∃ (tA_1 : Option Addr) (tN_1 tC_1 : Nat), v = .slice tA_1 tN_1 tC_1 ∧
        K (.slice tA_1 tN_1 tC_1) h1) h))
theorem F_tree_Tree_Pairs_eq {t : Option Addr} {i : Int} {K : Value → PH → Prop} {h : PH} : @Eq Prop (F_tree_Tree_Pairs t i K h) (denF Try.prog Try.f36 ⟨[], [], [], []⟩ [.v (.pointer t), .v (.int .i64 i)] K h) := by
  kernel_rfl
theorem F_tree_Tree_Pairs_ok {t : Option Addr} {i : Int}  {K : Value → PH → Prop} {h : PH} (hh : F_tree_Tree_Pairs t i K h) : CallH Try.prog id_tree_Tree_Pairs [.pointer t, .int .i64 i] K h :=
  denF_sound' Try.func36 (H := ⟨[], [], [], []⟩) (xs := [.v (.pointer t), .v (.int .i64 i)]) (by kernel_rfl) (⟨rfl, rfl, trivial⟩) (den_of F_tree_Tree_Pairs_eq hh)

/- twinlock/tree.Leaf -/
def F_tree_Leaf (page : ByteArray) (K : Value → PH → Prop) (h : PH) : Prop :=
  (((ByteArray.size (⟨#[76]⟩ : ByteArray) + ByteArray.size page : Nat) : Int) ≤ 9223372036854775807) ∧
  CallH Try.prog id_sha_Sum [.string ((⟨#[76]⟩ : ByteArray) ++ page)] (fun v h1 =>
    ∃ t : List Int, t.length = 32 ∧ v = .agg ((t.map (Value.int .u8) ++ [])).toArray ∧
    K (.agg ((t.map (Value.int .u8) ++ [])).toArray) h1) h
theorem F_tree_Leaf_eq {page : ByteArray} {K : Value → PH → Prop} {h : PH} : @Eq Prop (F_tree_Leaf page K h) (denF Try.prog Try.f37 ⟨[2], [], [], []⟩ [.v (.string page)] K h) := by
  kernel_rfl
theorem F_tree_Leaf_ok {page : ByteArray}  {K : Value → PH → Prop} {h : PH} (hh : F_tree_Leaf page K h) : CallH Try.prog id_tree_Leaf [.string page] K h :=
  denF_sound' Try.func37 (H := ⟨[2], [], [], []⟩) (xs := [.v (.string page)]) (by kernel_rfl) (⟨rfl, trivial⟩) (den_of F_tree_Leaf_eq hh)

/- (*twinlock/tree.Tree).page -/
def F_tree_Tree_page (t : Option Addr) (i : Int) (K : Value → PH → Prop) (h : PH) : Prop :=
  ∃ bv ov : Nat, t = some ⟨bv, ov, none⟩ ∧
  (0 ≤ i ∧ i < (16 : Nat)) ∧
  ∃ (tA : Option Addr) (tN tC : Nat), (h.rds bv (ov + i.toNat * 1) 1 = some [.slice tA tN tC]) ∧
  CallH Try.prog id_bucket_Page [.int .i64 i, .slice tA tN tC] (fun v h1 =>
    ∃ t0 : ByteArray, ∃ t1 : Int, v = .tuple #[.string t0, .int .i64 t1] ∧
    K (.string t0) h1) h
theorem F_tree_Tree_page_eq {t : Option Addr} {i : Int} {K : Value → PH → Prop} {h : PH} : @Eq Prop (F_tree_Tree_page t i K h) (denF Try.prog Try.f38 ⟨[], [], [], []⟩ [.v (.pointer t), .v (.int .i64 i)] K h) := by
  kernel_rfl
theorem F_tree_Tree_page_ok {t : Option Addr} {i : Int}  {K : Value → PH → Prop} {h : PH} (hh : F_tree_Tree_page t i K h) : CallH Try.prog id_tree_Tree_page [.pointer t, .int .i64 i] K h :=
  denF_sound' Try.func38 (H := ⟨[], [], [], []⟩) (xs := [.v (.pointer t), .v (.int .i64 i)]) (by kernel_rfl) (⟨rfl, rfl, trivial⟩) (den_of F_tree_Tree_page_eq hh)

/- twinlock/tree.Inner -/
def F_tree_Inner (leftv : List Int) (rightv : List Int) (K : Value → PH → Prop) (h : PH) : Prop :=
  CallH Try.prog id_tree_innerText [.agg ((leftv.map (Value.int .u8) ++ [])).toArray, .agg ((rightv.map (Value.int .u8) ++ [])).toArray] (fun v h1 =>
    ∃ t : ByteArray, v = .string t ∧
    CallH Try.prog id_sha_Sum [.string t] (fun v_1 h2 =>
      ∃ t_1 : List Int, t_1.length = 32 ∧ v_1 = .agg ((t_1.map (Value.int .u8) ++ [])).toArray ∧
      K (.agg ((t_1.map (Value.int .u8) ++ [])).toArray) h2) h1) h
theorem F_tree_Inner_eq {leftv : List Int} {rightv : List Int} {K : Value → PH → Prop} {h : PH} : @Eq Prop (F_tree_Inner leftv rightv K h) (denF Try.prog Try.f39 ⟨[2, 3, 4], [], [], []⟩ [.agg [.ints .u8 32 leftv], .agg [.ints .u8 32 rightv]] K h) := by
  kernel_rfl
theorem F_tree_Inner_ok {leftv : List Int} {rightv : List Int} (hk0 : leftv.length = 32) (hk1 : rightv.length = 32) {K : Value → PH → Prop} {h : PH} (hh : F_tree_Inner leftv rightv K h) : CallH Try.prog id_tree_Inner [.agg ((leftv.map (Value.int .u8) ++ [])).toArray, .agg ((rightv.map (Value.int .u8) ++ [])).toArray] K h :=
  denF_sound' Try.func39 (H := ⟨[2, 3, 4], [], [], []⟩) (xs := [.agg [.ints .u8 32 leftv], .agg [.ints .u8 32 rightv]]) (by kernel_rfl) (⟨⟨hk0, trivial⟩, ⟨hk1, trivial⟩, trivial⟩) (den_of F_tree_Inner_eq hh)

/- twinlock/tree.innerText -/
def F_tree_innerText (leftv : List Int) (rightv : List Int) (K : Value → PH → Prop) (h : PH) : Prop :=
  newH h (.cells ((leftv.map (Value.int .u8) ++ [])).toArray T_api_Hash (0, 0)) fun bv h1 =>
  newH h1 (.cells ((rightv.map (Value.int .u8) ++ [])).toArray T_api_Hash (0, 0)) fun bv_1 h2 =>
  (0 ≤ (0 : Int) ∧ (0 : Int) ≤ ((32 : Nat) : Int) ∧ ((32 : Nat) : Int) ≤ ((32 : Nat) : Int) ∧ ((32 : Nat) : Int) ≤ (32 : Nat)) ∧
  ∃ t : ByteArray, strH h2 (slA (some ⟨bv, 0, none⟩ : Option Addr) 1 (0 : Int) ((32 : Nat) : Int)) (((32 : Nat) : Int).toNat - (0 : Int).toNat) t ∧
  (((ByteArray.size (⟨#[78]⟩ : ByteArray) + ByteArray.size t : Nat) : Int) ≤ 9223372036854775807) ∧
  (0 ≤ (0 : Int) ∧ (0 : Int) ≤ ((32 : Nat) : Int) ∧ ((32 : Nat) : Int) ≤ ((32 : Nat) : Int) ∧ ((32 : Nat) : Int) ≤ (32 : Nat)) ∧
  ∃ t_1 : ByteArray, strH h2 (slA (some ⟨bv_1, 0, none⟩ : Option Addr) 1 (0 : Int) ((32 : Nat) : Int)) (((32 : Nat) : Int).toNat - (0 : Int).toNat) t_1 ∧
  (((ByteArray.size ((⟨#[78]⟩ : ByteArray) ++ t) + ByteArray.size t_1 : Nat) : Int) ≤ 9223372036854775807) ∧
  K (.string (((⟨#[78]⟩ : ByteArray) ++ t) ++ t_1)) h2
theorem F_tree_innerText_eq {leftv : List Int} {rightv : List Int} {K : Value → PH → Prop} {h : PH} : @Eq Prop (F_tree_innerText leftv rightv K h) (denF Try.prog Try.f42 ⟨[], [], [], []⟩ [.agg [.ints .u8 32 leftv], .agg [.ints .u8 32 rightv]] K h) := by
  kernel_rfl
theorem F_tree_innerText_ok {leftv : List Int} {rightv : List Int} (hk0 : leftv.length = 32) (hk1 : rightv.length = 32) {K : Value → PH → Prop} {h : PH} (hh : F_tree_innerText leftv rightv K h) : CallH Try.prog id_tree_innerText [.agg ((leftv.map (Value.int .u8) ++ [])).toArray, .agg ((rightv.map (Value.int .u8) ++ [])).toArray] K h :=
  denF_sound' Try.func42 (H := ⟨[], [], [], []⟩) (xs := [.agg [.ints .u8 32 leftv], .agg [.ints .u8 32 rightv]]) (by kernel_rfl) (⟨⟨hk0, trivial⟩, ⟨hk1, trivial⟩, trivial⟩) (den_of F_tree_innerText_eq hh)

/- (*twinlock/tree.Tree).find -/
def F_tree_Tree_find (t : Option Addr) (p : ByteArray) (K : Value → PH → Prop) (h : PH) : Prop :=
  CallH Try.prog id_bucket_Of [.string p] (fun v h1 =>
    ∃ part : Int, v = .int .i64 part ∧
    ∃ bv ov : Nat, t = some ⟨bv, ov, none⟩ ∧
    (0 ≤ part ∧ part < (16 : Nat)) ∧
    ∃ (tA : Option Addr) (tN tC : Nat), (h1.rds bv (ov + part.toNat * 1) 1 = some [.slice tA tN tC]) ∧
    CallH Try.prog id_slices_BinarySearchFunc_api_Pair_api_Pair_string [.slice tA tN tC, .string p, .func (.func 56) #[] #[]] (fun v_1 h2 =>
      ∃ t0 : Int, ∃ t1 : Bool, v_1 = .tuple #[.int .i64 t0, .bool t1] ∧
      K (.tuple #[.int .i64 part, .int .i64 t0, .bool t1]) h2) h1) h
theorem F_tree_Tree_find_eq {t : Option Addr} {p : ByteArray} {K : Value → PH → Prop} {h : PH} : @Eq Prop (F_tree_Tree_find t p K h) (denF Try.prog Try.f44 ⟨[], [], [], []⟩ [.v (.pointer t), .v (.string p)] K h) := by
  kernel_rfl
theorem F_tree_Tree_find_ok {t : Option Addr} {p : ByteArray}  {K : Value → PH → Prop} {h : PH} (hh : F_tree_Tree_find t p K h) : CallH Try.prog id_tree_Tree_find [.pointer t, .string p] K h :=
  denF_sound' Try.func44 (H := ⟨[], [], [], []⟩) (xs := [.v (.pointer t), .v (.string p)]) (by kernel_rfl) (⟨rfl, rfl, trivial⟩) (den_of F_tree_Tree_find_eq hh)

/- (*twinlock/tree.Tree).anew -/
def F_tree_Tree_anew (t : Option Addr) (part : Int) (K : Value → PH → Prop) (h : PH) : Prop :=
  newH h (.cells #[.pointer t] 45 (0, 0)) fun bv h1 =>
  ∃ t_1 : Option Addr, (h1.rds bv 0 1 = some [.pointer t_1]) ∧
  ∃ t_2 : Option Addr, (h1.rds bv 0 1 = some [.pointer t_2]) ∧
  ∃ bv_1 ov : Nat, t_1 = some ⟨bv_1, ov, none⟩ ∧
  CallH Try.prog id_tree_Tree_page [.pointer t_2, .int .i64 part] (fun v h2 =>
    ∃ t_3 : ByteArray, v = .string t_3 ∧
    (h2.rds bv 0 1 = some [.pointer t_1]) ∧
    CallH Try.prog id_tree_Leaf [.string t_3] (fun v_1 h3 =>
      ∃ t_4 : List Int, t_4.length = 32 ∧ v_1 = .agg ((t_4.map (Value.int .u8) ++ [])).toArray ∧
      (h3.rds bv 0 1 = some [.pointer t_1]) ∧
      (0 ≤ (IntKind.wrap .i64 ((16 : Int) + part)) ∧ (IntKind.wrap .i64 ((16 : Int) + part)) < (32 : Nat)) ∧
      stH h3 bv_1 ((ov + 16) + (IntKind.wrap .i64 ((16 : Int) + part)).toNat * 32) (t_4.map (Value.int .u8) ++ []) fun h4 =>
      LoopP (T := Int × Unit) (fun Jv st h5 =>
        (((decide (st.1 > (0 : Int))) = true →
            CallH Try.prog id_tree_Tree_anew_1 [.int .i64 st.1, .pointer (some ⟨bv, 0, none⟩)] (fun _ h6 =>
              Jv ((IntKind.wrap .i64 (st.1.tdiv (2 : Int))), ()) h6) h5) ∧
          ((decide (st.1 > (0 : Int))) = false →
            K (.tuple #[]) h5))) ((IntKind.wrap .i64 ((IntKind.wrap .i64 ((16 : Int) + part)).tdiv (2 : Int))), ()) h4) h2) h1
theorem F_tree_Tree_anew_eq {t : Option Addr} {part : Int} {K : Value → PH → Prop} {h : PH} : @Eq Prop (F_tree_Tree_anew t part K h) (denF Try.prog Try.f48 ⟨[], [(1, .of [0, 1, 2, 3, 4, 7, 8, 5, 6, 9, 10])], [(0, ⟨[(5, .int .i64)], [], []⟩)], []⟩ [.v (.pointer t), .v (.int .i64 part)] K h) := by
  kernel_rfl
theorem F_tree_Tree_anew_ok {t : Option Addr} {part : Int}  {K : Value → PH → Prop} {h : PH} (hh : F_tree_Tree_anew t part K h) : CallH Try.prog id_tree_Tree_anew [.pointer t, .int .i64 part] K h :=
  denF_sound' Try.func48 (H := ⟨[], [(1, .of [0, 1, 2, 3, 4, 7, 8, 5, 6, 9, 10])], [(0, ⟨[(5, .int .i64)], [], []⟩)], []⟩) (xs := [.v (.pointer t), .v (.int .i64 part)]) (by kernel_rfl) (⟨rfl, rfl, trivial⟩) (den_of F_tree_Tree_anew_eq hh)

/- (*twinlock/tree.Tree).find-1 -/
def F_tree_Tree_find_1 (x0 : ByteArray) (_ : ByteArray) (p : ByteArray) (K : Value → PH → Prop) (h : PH) : Prop :=
  CallH Try.prog id_strings_Compare [.string x0, .string p] (fun v h1 =>
    ∃ t : Int, v = .int .i64 t ∧
    K (.int .i64 t) h1) h
theorem F_tree_Tree_find_1_eq {x0 : ByteArray} {x1 : ByteArray} {p : ByteArray} {K : Value → PH → Prop} {h : PH} : @Eq Prop (F_tree_Tree_find_1 x0 x1 p K h) (denF Try.prog Try.f56 ⟨[2], [], [], []⟩ [.agg [.one (.string x0), .one (.string x1)], .v (.string p)] K h) := by
  kernel_rfl
theorem F_tree_Tree_find_1_ok {x0 : ByteArray} {x1 : ByteArray} {p : ByteArray}  {K : Value → PH → Prop} {h : PH} (hh : F_tree_Tree_find_1 x0 x1 p K h) : CallH Try.prog id_tree_Tree_find_1 [.agg #[.string x0, .string x1], .string p] K h :=
  denF_sound' Try.func56 (H := ⟨[2], [], [], []⟩) (xs := [.agg [.one (.string x0), .one (.string x1)], .v (.string p)]) (by kernel_rfl) (⟨⟨rfl, rfl, trivial⟩, rfl, trivial⟩) (den_of F_tree_Tree_find_1_eq hh)

/- (*twinlock/tree.Tree).anew-1 -/
def F_tree_Tree_anew_1 (k : Int) (cap0B : Nat) (K : Value → PH → Prop) (h : PH) : Prop :=
  ∃ t : Option Addr, (h.rds cap0B 0 1 = some [.pointer t]) ∧
  ∃ t_1 : Option Addr, (h.rds cap0B 0 1 = some [.pointer t_1]) ∧
  ∃ bv ov : Nat, t_1 = some ⟨bv, ov, none⟩ ∧
  (0 ≤ (IntKind.wrap .i64 ((2 : Int) * k)) ∧ (IntKind.wrap .i64 ((2 : Int) * k)) < (32 : Nat)) ∧
  ∃ t_2 : List Int, t_2.length = 32 ∧ (h.rds bv ((ov + 16) + (IntKind.wrap .i64 ((2 : Int) * k)).toNat * 32) 32 = some (t_2.map (Value.int .u8) ++ [])) ∧
  ∃ t_3 : Option Addr, (h.rds cap0B 0 1 = some [.pointer t_3]) ∧
  ∃ bv_1 ov_1 : Nat, t_3 = some ⟨bv_1, ov_1, none⟩ ∧
  (0 ≤ (IntKind.wrap .i64 ((IntKind.wrap .i64 ((2 : Int) * k)) + (1 : Int))) ∧ (IntKind.wrap .i64 ((IntKind.wrap .i64 ((2 : Int) * k)) + (1 : Int))) < (32 : Nat)) ∧
  ∃ t_4 : List Int, t_4.length = 32 ∧ (h.rds bv_1 ((ov_1 + 16) + (IntKind.wrap .i64 ((IntKind.wrap .i64 ((2 : Int) * k)) + (1 : Int))).toNat * 32) 32 = some (t_4.map (Value.int .u8) ++ [])) ∧
  ∃ bv_2 ov_2 : Nat, t = some ⟨bv_2, ov_2, none⟩ ∧
  CallH Try.prog id_tree_Inner [.agg ((t_2.map (Value.int .u8) ++ [])).toArray, .agg ((t_4.map (Value.int .u8) ++ [])).toArray] (fun v h1 =>
    ∃ t_5 : List Int, t_5.length = 32 ∧ v = .agg ((t_5.map (Value.int .u8) ++ [])).toArray ∧
    (h1.rds cap0B 0 1 = some [.pointer t]) ∧
    (0 ≤ k ∧ k < (32 : Nat)) ∧
    stH h1 bv_2 ((ov_2 + 16) + k.toNat * 32) (t_5.map (Value.int .u8) ++ []) fun h2 =>
    K (.tuple #[]) h2) h
theorem F_tree_Tree_anew_1_eq {k : Int} {cap0B : Nat} {K : Value → PH → Prop} {h : PH} : @Eq Prop (F_tree_Tree_anew_1 k cap0B K h) (denF Try.prog Try.f61 ⟨[], [(0, .of [0, 1, 2, 3, 4, 5, 6, 7, 8, 9, 10, 11, 12, 13, 14, 15, 16, 18, 19, 17, 20, 21])], [], []⟩ [.v (.int .i64 k), .v (.pointer (some ⟨cap0B, 0, none⟩))] K h) := by
  kernel_rfl
theorem F_tree_Tree_anew_1_ok {k : Int} {cap0B : Nat}  {K : Value → PH → Prop} {h : PH} (hh : F_tree_Tree_anew_1 k cap0B K h) : CallH Try.prog id_tree_Tree_anew_1 [.int .i64 k, .pointer (some ⟨cap0B, 0, none⟩)] K h :=
  denF_sound' Try.func61 (H := ⟨[], [(0, .of [0, 1, 2, 3, 4, 5, 6, 7, 8, 9, 10, 11, 12, 13, 14, 15, 16, 18, 19, 17, 20, 21])], [], []⟩) (xs := [.v (.int .i64 k), .v (.pointer (some ⟨cap0B, 0, none⟩))]) (by kernel_rfl) (⟨rfl, rfl, trivial⟩) (den_of F_tree_Tree_anew_1_eq hh)


end TL

namespace TL
open Go Go.Proofs
/- twinlock/twinlocklaw20.Great -/
def F_law20_Great (_ : Int) (_ : Int) (r2A : Option Addr) (r2N _ : Nat) (_ : Option Addr) (r3N _ : Nat) (r4A : Option Addr) (r4N r4C : Nat) (K : Value → PH → Prop) (h : PH) : Prop :=
  JoinP (T := Unit) (fun Jv =>
    ((((decide (((r2N : Nat) : Int) > (80 : Int))) || (decide (((r3N : Nat) : Int) > (200 : Int)))) = false →
        CallH Try.prog id_law13_GreatPairs [.slice r4A r4N r4C] (fun v h2 =>
          ∃ t : Bool, v = .bool t ∧
          ((t = true →
              K (.bool true) h2) ∧
            (t = false →
              Jv (()) h2))) h) ∧
      (((decide (((r2N : Nat) : Int) > (80 : Int))) || (decide (((r3N : Nat) : Int) > (200 : Int)))) = true →
        K (.bool true) h)))
  (fun _ h1 =>
    LoopP (T := Int × Unit) (fun Jv_1 st_1 h3 =>
      (((decide (st_1.1 < ((r2N : Nat) : Int))) = true →
          ∃ bv ov : Nat, (r2A = some ⟨bv, ov, none⟩ ∧ 0 ≤ st_1.1 ∧ st_1.1 < (r2N : Nat)) ∧
          ∃ (tA : Option Addr) (tN tC : Nat), (h3.rds bv (ov + st_1.1.toNat * 1) 1 = some [.slice tA tN tC]) ∧
          CallH Try.prog id_law12_GreatOps [.slice tA tN tC] (fun v_1 h4 =>
            ∃ t_1 : Bool, v_1 = .bool t_1 ∧
            ((t_1 = true →
                K (.bool true) h4) ∧
              (t_1 = false →
                Jv_1 ((IntKind.wrap .i64 (st_1.1 + (1 : Int))), ()) h4))) h3) ∧
        ((decide (st_1.1 < ((r2N : Nat) : Int))) = false →
          K (.bool false) h3))) ((0 : Int), ()) h1)
theorem F_law20_Great_eq {r0 : Int} {r1 : Int} {r2A : Option Addr} {r2N r2C : Nat} {r3A : Option Addr} {r3N r3C : Nat} {r4A : Option Addr} {r4N r4C : Nat} {K : Value → PH → Prop} {h : PH} : @Eq Prop (F_law20_Great r0 r1 r2A r2N r2C r3A r3N r3C r4A r4N r4C K h) (denF Try.prog Try.f9 ⟨[1], [], [(0, ⟨[(3, .int .i64)], [], []⟩)], [(8, ⟨[], [], []⟩)]⟩ [.agg [.one (.int .i64 r0), .one (.int .i64 r1), .one (.slice r2A r2N r2C), .one (.slice r3A r3N r3C), .one (.slice r4A r4N r4C)]] K h) := by
  kernel_rfl
theorem F_law20_Great_ok {r0 : Int} {r1 : Int} {r2A : Option Addr} {r2N r2C : Nat} {r3A : Option Addr} {r3N r3C : Nat} {r4A : Option Addr} {r4N r4C : Nat}  {K : Value → PH → Prop} {h : PH} (hh : F_law20_Great r0 r1 r2A r2N r2C r3A r3N r3C r4A r4N r4C K h) : CallH Try.prog id_law20_Great [.agg #[.int .i64 r0, .int .i64 r1, .slice r2A r2N r2C, .slice r3A r3N r3C, .slice r4A r4N r4C]] K h :=
  denF_sound' Try.func9 (H := ⟨[1], [], [(0, ⟨[(3, .int .i64)], [], []⟩)], [(8, ⟨[], [], []⟩)]⟩) (xs := [.agg [.one (.int .i64 r0), .one (.int .i64 r1), .one (.slice r2A r2N r2C), .one (.slice r3A r3N r3C), .one (.slice r4A r4N r4C)]]) (by kernel_rfl) (⟨⟨rfl, rfl, rfl, rfl, rfl, trivial⟩, trivial⟩) (den_of F_law20_Great_eq hh)

/- twinlock/twinlocklaw20.Made -/
def F_law20_Made (r0 : Int) (r1 : Int) (r2A : Option Addr) (r2N _ : Nat) (r3A : Option Addr) (r3N _ : Nat) (r4A : Option Addr) (r4N r4C : Nat) (epoch : Int) (K : Value → PH → Prop) (h : PH) : Prop :=
  JoinP (T := Int × Unit) (fun Jv =>
    (((decide ((r0.tmod (100 : Int)) < (0 : Int))) = true →
        Jv ((IntKind.wrap .i64 (0 - (r0.tmod (100 : Int)))), ()) h) ∧
      ((decide ((r0.tmod (100 : Int)) < (0 : Int))) = false →
        Jv ((r0.tmod (100 : Int)), ()) h)))
  (fun st h1 =>
    JoinP (T := Int × Unit) (fun Jv_1 =>
      (((decide ((r1.tmod (5 : Int)) < (1 : Int))) = true →
          Jv_1 ((1 : Int), ()) h1) ∧
        ((decide ((r1.tmod (5 : Int)) < (1 : Int))) = false →
          Jv_1 ((r1.tmod (5 : Int)), ()) h1)))
    (fun st_1 h2 =>
      JoinP (T := Int × Unit) (fun Jv_2 =>
        (((st.1 == (0 : Int)) = true →
            Jv_2 ((0 : Int), ()) h2) ∧
          ((st.1 == (0 : Int)) = false →
            Jv_2 (st_1.1, ()) h2)))
      (fun st_2 h3 =>
        LoopP (T := Int × Int × Int × Int × Int × (Option Addr × Nat × Nat) × Int × (Option Addr × Nat × Nat) × Unit) (fun Jv_3 st_3 h4 =>
          (((decide (st_3.2.1 < ((r2N : Nat) : Int))) = true →
              JoinP (T := Int × Unit) (fun Jv_4 =>
                (((decide (st_3.1 < (1 : Int))) = true →
                    Jv_4 ((1 : Int), ()) h4) ∧
                  ((decide (st_3.1 < (1 : Int))) = false →
                    Jv_4 (st_3.1, ()) h4)))
              (fun st_4 h5 =>
                JoinP (T := Int × Unit) (fun Jv_5 =>
                  ∃ bv ov : Nat, (((decide (st_3.2.1 < ((r3N : Nat) : Int))) = true → r3A = some ⟨bv, ov, none⟩ ∧ 0 ≤ st_3.2.1 ∧ st_3.2.1 < (r3N : Nat))) ∧
                  ∃ t : Int, (((decide (st_3.2.1 < ((r3N : Nat) : Int))) = true → h5.rds bv (ov + st_3.2.1.toNat * 1) 1 = some [.int .i64 t])) ∧
                  ((((decide (st_3.2.1 < ((r3N : Nat) : Int))) && (decide (t > (0 : Int)))) = true →
                      ∃ bv_1 ov_1 : Nat, (r3A = some ⟨bv_1, ov_1, none⟩ ∧ 0 ≤ st_3.2.1 ∧ st_3.2.1 < (r3N : Nat)) ∧
                      ∃ t_1 : Int, (h5.rds bv_1 (ov_1 + st_3.2.1.toNat * 1) 1 = some [.int .i64 t_1]) ∧
                      Jv_5 ((IntKind.wrap .i64 (st_4.1 + (t_1.tmod (2 : Int)))), ()) h5) ∧
                    (((decide (st_3.2.1 < ((r3N : Nat) : Int))) && (decide (t > (0 : Int)))) = false →
                      Jv_5 (st_4.1, ()) h5)))
                (fun st_5 h6 =>
                  ∃ bv_2 ov_2 : Nat, (r2A = some ⟨bv_2, ov_2, none⟩ ∧ 0 ≤ st_3.2.1 ∧ st_3.2.1 < (r2N : Nat)) ∧
                  ∃ (tA : Option Addr) (tN tC : Nat), (h6.rds bv_2 (ov_2 + st_3.2.1.toNat * 1) 1 = some [.slice tA tN tC]) ∧
                  appH T_api_Batch 3 40 [.int .i64 (0 : Int), .int .i64 (0 : Int), .slice none 0 0] st_3.2.2.2.2.2.1.1 st_3.2.2.2.2.2.1.2.1 st_3.2.2.2.2.2.1.2.2 1 [.int .i64 (IntKind.wrap .i64 ((IntKind.wrap .i64 (st.1 + st_3.2.1)) + (1 : Int))), .int .i64 st_5.1, .slice tA tN tC] (fun tA_1 tN_1 tC_1 h7 =>
                    Jv_3 (st_5.1, (IntKind.wrap .i64 (st_3.2.1 + (1 : Int))), st_3.2.2.1, (IntKind.wrap .i64 ((IntKind.wrap .i64 (st.1 + st_3.2.1)) + (1 : Int))), st_5.1, (tA_1, tN_1, tC_1), st_3.2.2.2.2.2.2.1, (st_3.2.2.2.2.2.2.2.1.1, st_3.2.2.2.2.2.2.2.1.2.1, st_3.2.2.2.2.2.2.2.1.2.2), ()) h7) h6))) ∧
            ((decide (st_3.2.1 < ((r2N : Nat) : Int))) = false →
              K (.agg #[.int .i64 st_3.2.2.1, .int .i64 st_3.2.2.2.1, .int .i64 st_3.2.2.2.2.1, .slice st_3.2.2.2.2.2.1.1 st_3.2.2.2.2.2.1.2.1 st_3.2.2.2.2.2.1.2.2, .int .i64 st_3.2.2.2.2.2.2.1, .slice st_3.2.2.2.2.2.2.2.1.1 st_3.2.2.2.2.2.2.2.1.2.1 st_3.2.2.2.2.2.2.2.1.2.2]) h4))) (st_2.1, (0 : Int), epoch, st.1, st_2.1, (none, 0, 0), st_2.1, (r4A, r4N, r4C), ()) h3)))
theorem F_law20_Made_eq {r0 : Int} {r1 : Int} {r2A : Option Addr} {r2N r2C : Nat} {r3A : Option Addr} {r3N r3C : Nat} {r4A : Option Addr} {r4N r4C : Nat} {epoch : Int} {K : Value → PH → Prop} {h : PH} : @Eq Prop (F_law20_Made r0 r1 r2A r2N r2C r3A r3N r3C r4A r4N r4C epoch K h) (denF Try.prog Try.f11 ⟨[2, 4, 7, 75], [], [(0, ⟨[(8, .int .i64), (9, .int .i64)], [], [(2, [.one (.int .i64), .one (.int .i64), .one (.int .i64), .one (.slice), .one (.int .i64), .one (.slice)])]⟩)], [(10, ⟨[(5, .int .i64)], [], []⟩), (16, ⟨[(6, .int .i64)], [], []⟩), (20, ⟨[(6, .int .i64)], [], []⟩), (34, ⟨[(8, .int .i64)], [], []⟩), (38, ⟨[(8, .int .i64)], [], []⟩)]⟩ [.agg [.one (.int .i64 r0), .one (.int .i64 r1), .one (.slice r2A r2N r2C), .one (.slice r3A r3N r3C), .one (.slice r4A r4N r4C)], .v (.int .i64 epoch)] K h) := by
  kernel_rfl
theorem F_law20_Made_ok {r0 : Int} {r1 : Int} {r2A : Option Addr} {r2N r2C : Nat} {r3A : Option Addr} {r3N r3C : Nat} {r4A : Option Addr} {r4N r4C : Nat} {epoch : Int}  {K : Value → PH → Prop} {h : PH} (hh : F_law20_Made r0 r1 r2A r2N r2C r3A r3N r3C r4A r4N r4C epoch K h) : CallH Try.prog id_law20_Made [.agg #[.int .i64 r0, .int .i64 r1, .slice r2A r2N r2C, .slice r3A r3N r3C, .slice r4A r4N r4C], .int .i64 epoch] K h :=
  denF_sound' Try.func11 (H := ⟨[2, 4, 7, 75], [], [(0, ⟨[(8, .int .i64), (9, .int .i64)], [], [(2, [.one (.int .i64), .one (.int .i64), .one (.int .i64), .one (.slice), .one (.int .i64), .one (.slice)])]⟩)], [(10, ⟨[(5, .int .i64)], [], []⟩), (16, ⟨[(6, .int .i64)], [], []⟩), (20, ⟨[(6, .int .i64)], [], []⟩), (34, ⟨[(8, .int .i64)], [], []⟩), (38, ⟨[(8, .int .i64)], [], []⟩)]⟩) (xs := [.agg [.one (.int .i64 r0), .one (.int .i64 r1), .one (.slice r2A r2N r2C), .one (.slice r3A r3N r3C), .one (.slice r4A r4N r4C)], .v (.int .i64 epoch)]) (by kernel_rfl) (⟨⟨rfl, rfl, rfl, rfl, rfl, trivial⟩, rfl, trivial⟩) (den_of F_law20_Made_eq hh)

/- twinlock/ship.New -/
def F_ship_New  (K : Value → PH → Prop) (h : PH) : Prop :=
  newH h (.cells #[.pointer none, .pointer none, .slice none 0 0] T_ship_Ship (0, 0)) fun bv h1 =>
  K (.pointer (some ⟨bv, 0, none⟩)) h1
theorem F_ship_New_eq  {K : Value → PH → Prop} {h : PH} : @Eq Prop (F_ship_New  K h) (denF Try.prog Try.f12 ⟨[], [], [], []⟩ [] K h) := by
  kernel_rfl
theorem F_ship_New_ok   {K : Value → PH → Prop} {h : PH} (hh : F_ship_New  K h) : CallH Try.prog id_ship_New [] K h :=
  denF_sound' Try.func12 (H := ⟨[], [], [], []⟩) (xs := []) (by kernel_rfl) (trivial) (den_of F_ship_New_eq hh)

/- (*twinlock/ship.Ship).Ack -/
def F_ship_Ship_Ack (sv : Option Addr) (m0 : Int) (_ : Int) (m2 : Int) (m3 : Int) (_ : Int) (_ : Int) (_ : Option Addr) (_ _ : Nat) (_ : Int) (_ : List Int) (_ : Int) (_ : Int) (_ : List Int) (_ : List Int) (_ : Option Addr) (_ _ : Nat) (K : Value → PH → Prop) (h : PH) : Prop :=
  (((((Option.isNone sv) || (m0 != (3 : Int))) || (decide (m2 < (0 : Int)))) = true →
      K (.bool false) h) ∧
    ((((Option.isNone sv) || (m0 != (3 : Int))) || (decide (m2 < (0 : Int)))) = false →
      newH h (.cells #[.int .i64 m2, .int .i64 m3] T_ship_place (0, 0)) fun bv h1 =>
      ∃ bv_1 ov : Nat, sv = some ⟨bv_1, ov, none⟩ ∧
      stH h1 bv_1 ov [.pointer (some ⟨bv, 0, none⟩)] fun h2 =>
      K (.bool true) h2))
theorem F_ship_Ship_Ack_eq {sv : Option Addr} {m0 : Int} {m1 : Int} {m2 : Int} {m3 : Int} {m4 : Int} {m5 : Int} {m6A : Option Addr} {m6N m6C : Nat} {m7 : Int} {m8 : List Int} {m9 : Int} {m10 : Int} {m11 : List Int} {m12 : List Int} {m13A : Option Addr} {m13N m13C : Nat} {K : Value → PH → Prop} {h : PH} : @Eq Prop (F_ship_Ship_Ack sv m0 m1 m2 m3 m4 m5 m6A m6N m6C m7 m8 m9 m10 m11 m12 m13A m13N m13C K h) (denF Try.prog Try.f13 ⟨[3], [], [], []⟩ [.v (.pointer sv), .agg [.one (.int .u8 m0), .one (.int .i64 m1), .one (.int .i64 m2), .one (.int .i64 m3), .one (.int .i64 m4), .one (.int .i64 m5), .one (.slice m6A m6N m6C), .one (.int .i64 m7), .ints .u8 32 m8, .one (.int .i64 m9), .one (.int .i64 m10), .ints .u8 32 m11, .ints .u8 32 m12, .one (.slice m13A m13N m13C)]] K h) := by
  kernel_rfl
theorem F_ship_Ship_Ack_ok {sv : Option Addr} {m0 : Int} {m1 : Int} {m2 : Int} {m3 : Int} {m4 : Int} {m5 : Int} {m6A : Option Addr} {m6N m6C : Nat} {m7 : Int} {m8 : List Int} {m9 : Int} {m10 : Int} {m11 : List Int} {m12 : List Int} {m13A : Option Addr} {m13N m13C : Nat} (hk0 : m8.length = 32) (hk1 : m11.length = 32) (hk2 : m12.length = 32) {K : Value → PH → Prop} {h : PH} (hh : F_ship_Ship_Ack sv m0 m1 m2 m3 m4 m5 m6A m6N m6C m7 m8 m9 m10 m11 m12 m13A m13N m13C K h) : CallH Try.prog id_ship_Ship_Ack [.pointer sv, .agg ((.int .u8 m0 :: (.int .i64 m1 :: (.int .i64 m2 :: (.int .i64 m3 :: (.int .i64 m4 :: (.int .i64 m5 :: (.slice m6A m6N m6C :: (.int .i64 m7 :: (m8.map (Value.int .u8) ++ (.int .i64 m9 :: (.int .i64 m10 :: (m11.map (Value.int .u8) ++ (m12.map (Value.int .u8) ++ ([.slice m13A m13N m13C] : List Value))))))))))))))).toArray] K h :=
  denF_sound' Try.func13 (H := ⟨[3], [], [], []⟩) (xs := [.v (.pointer sv), .agg [.one (.int .u8 m0), .one (.int .i64 m1), .one (.int .i64 m2), .one (.int .i64 m3), .one (.int .i64 m4), .one (.int .i64 m5), .one (.slice m6A m6N m6C), .one (.int .i64 m7), .ints .u8 32 m8, .one (.int .i64 m9), .one (.int .i64 m10), .ints .u8 32 m11, .ints .u8 32 m12, .one (.slice m13A m13N m13C)]]) (by kernel_rfl) (⟨rfl, ⟨rfl, rfl, rfl, rfl, rfl, rfl, rfl, rfl, hk0, rfl, rfl, hk1, hk2, rfl, trivial⟩, trivial⟩) (den_of F_ship_Ship_Ack_eq hh)

/- (*twinlock/ship.Ship).Tick -/
set_option maxRecDepth 100000 in
def F_ship_Ship_Tick (sv : Option Addr) (v0 : Int) (v1 : Int) (v2 : Int) (v3A : Option Addr) (v3N v3C : Nat) (v4 : Int) (v5A : Option Addr) (v5N v5C : Nat) (K : Value → PH → Prop) (h : PH) : Prop :=
  (((Option.isNone sv) = true →
      K (.slice none 0 0) h) ∧
    ((Option.isNone sv) = false →
      newH h (.cells ((.int .u8 (1 : Int) :: (.int .i64 v0 :: (.int .i64 (0 : Int) :: (.int .i64 (0 : Int) :: (.int .i64 (0 : Int) :: (.int .i64 (0 : Int) :: (.slice none 0 0 :: (.int .i64 (0 : Int) :: ((List.replicate 32 0).map (Value.int .u8) ++ (.int .i64 (0 : Int) :: (.int .i64 (0 : Int) :: ((List.replicate 32 0).map (Value.int .u8) ++ ((List.replicate 32 0).map (Value.int .u8) ++ ([.slice none 0 0] : List Value))))))))))))))).toArray T_api_Msg (0, 0)) fun bv h1 =>
      ∃ bv_1 ov : Nat, sv = some ⟨bv_1, ov, none⟩ ∧
      ∃ t : Option Addr, (h1.rds bv_1 ov 1 = some [.pointer t]) ∧
      (((Option.isNone t) = true →
          K (.slice (some ⟨bv, 0, none⟩) 1 1) h1) ∧
        ((Option.isNone t) = false →
          ∃ bv_2 ov_1 : Nat, sv = some ⟨bv_2, ov_1, none⟩ ∧
          ∃ t_1 : Option Addr, (h1.rds bv_2 ov_1 1 = some [.pointer t_1]) ∧
          ∃ bv_3 ov_2 : Nat, t_1 = some ⟨bv_3, ov_2, none⟩ ∧
          ∃ t0 : Int, ∃ t1 : Int, (h1.rds bv_3 ov_2 2 = some [.int .i64 t0, .int .i64 t1]) ∧
          ((((t0 == v1) && ((t1 == v2) && true)) = true →
              ∃ bv_4 ov_3 : Nat, sv = some ⟨bv_4, ov_3, none⟩ ∧
              stH h1 bv_4 (ov_3 + 1) [.pointer none] fun h2 =>
              K (.slice (some ⟨bv, 0, none⟩) 1 1) h2) ∧
            (((t0 == v1) && ((t1 == v2) && true)) = false →
              ∃ bv_5 ov_4 : Nat, sv = some ⟨bv_5, ov_4, none⟩ ∧
              ∃ t_2 : Option Addr, (h1.rds bv_5 ov_4 1 = some [.pointer t_2]) ∧
              ∃ bv_6 ov_5 : Nat, t_2 = some ⟨bv_6, ov_5, none⟩ ∧
              ∃ t0_1 : Int, ∃ t1_1 : Int, (h1.rds bv_6 ov_5 2 = some [.int .i64 t0_1, .int .i64 t1_1]) ∧
              CallH Try.prog id_ship_next [.agg #[.int .i64 v0, .int .i64 v1, .int .i64 v2, .slice v3A v3N v3C, .int .i64 v4, .slice v5A v5N v5C], .agg #[.int .i64 t0_1, .int .i64 t1_1]] (fun v h3 =>
                ∃ t0_2 : Int, ∃ t1_2 : Bool, v = .tuple #[.int .i64 t0_2, .bool t1_2] ∧
                ((t1_2 = true →
                    CallH Try.prog id_ship_entries [.agg #[.int .i64 v0, .int .i64 v1, .int .i64 v2, .slice v3A v3N v3C, .int .i64 v4, .slice v5A v5N v5C], .int .i64 t0_2] (fun v_1 h4 =>
                      ∃ (tA : Option Addr) (tN tC : Nat), v_1 = .slice tA tN tC ∧
                      ∃ vs : List Value, srcH h4 tA (tN * 107) vs ∧
                      appH T_api_Msg 107 216 [.int .u8 (0 : Int), .int .i64 (0 : Int), .int .i64 (0 : Int), .int .i64 (0 : Int), .int .i64 (0 : Int), .int .i64 (0 : Int), .slice none 0 0, .int .i64 (0 : Int), .int .u8 (0 : Int), .int .u8 (0 : Int), .int .u8 (0 : Int), .int .u8 (0 : Int), .int .u8 (0 : Int), .int .u8 (0 : Int), .int .u8 (0 : Int), .int .u8 (0 : Int), .int .u8 (0 : Int), .int .u8 (0 : Int), .int .u8 (0 : Int), .int .u8 (0 : Int), .int .u8 (0 : Int), .int .u8 (0 : Int), .int .u8 (0 : Int), .int .u8 (0 : Int), .int .u8 (0 : Int), .int .u8 (0 : Int), .int .u8 (0 : Int), .int .u8 (0 : Int), .int .u8 (0 : Int), .int .u8 (0 : Int), .int .u8 (0 : Int), .int .u8 (0 : Int), .int .u8 (0 : Int), .int .u8 (0 : Int), .int .u8 (0 : Int), .int .u8 (0 : Int), .int .u8 (0 : Int), .int .u8 (0 : Int), .int .u8 (0 : Int), .int .u8 (0 : Int), .int .i64 (0 : Int), .int .i64 (0 : Int), .int .u8 (0 : Int), .int .u8 (0 : Int), .int .u8 (0 : Int), .int .u8 (0 : Int), .int .u8 (0 : Int), .int .u8 (0 : Int), .int .u8 (0 : Int), .int .u8 (0 : Int), .int .u8 (0 : Int), .int .u8 (0 : Int), .int .u8 (0 : Int), .int .u8 (0 : Int), .int .u8 (0 : Int), .int .u8 (0 : Int), .int .u8 (0 : Int), .int .u8 (0 : Int), .int .u8 (0 : Int), .int .u8 (0 : Int), .int .u8 (0 : Int), .int .u8 (0 : Int), .int .u8 (0 : Int), .int .u8 (0 : Int), .int .u8 (0 : Int), .int .u8 (0 : Int), .int .u8 (0 : Int), .int .u8 (0 : Int), .int .u8 (0 : Int), .int .u8 (0 : Int), .int .u8 (0 : Int), .int .u8 (0 : Int), .int .u8 (0 : Int), .int .u8 (0 : Int), .int .u8 (0 : Int), .int .u8 (0 : Int), .int .u8 (0 : Int), .int .u8 (0 : Int), .int .u8 (0 : Int), .int .u8 (0 : Int), .int .u8 (0 : Int), .int .u8 (0 : Int), .int .u8 (0 : Int), .int .u8 (0 : Int), .int .u8 (0 : Int), .int .u8 (0 : Int), .int .u8 (0 : Int), .int .u8 (0 : Int), .int .u8 (0 : Int), .int .u8 (0 : Int), .int .u8 (0 : Int), .int .u8 (0 : Int), .int .u8 (0 : Int), .int .u8 (0 : Int), .int .u8 (0 : Int), .int .u8 (0 : Int), .int .u8 (0 : Int), .int .u8 (0 : Int), .int .u8 (0 : Int), .int .u8 (0 : Int), .int .u8 (0 : Int), .int .u8 (0 : Int), .int .u8 (0 : Int), .int .u8 (0 : Int), .int .u8 (0 : Int), .int .u8 (0 : Int), .slice none 0 0] (some ⟨bv, 0, none⟩) 1 1 tN vs (fun tA_1 tN_1 tC_1 h5 =>
                        K (.slice tA_1 tN_1 tC_1) h5) h4) h3) ∧
                  (t1_2 = false →
                    JoinP (T := Unit) (fun Jv =>
                      ∃ bv_7 ov_6 : Nat, sv = some ⟨bv_7, ov_6, none⟩ ∧
                      ∃ t_3 : Option Addr, (h3.rds bv_7 (ov_6 + 1) 1 = some [.pointer t_3]) ∧
                      ∃ bv_8 ov_7 : Nat, ((Option.isNone t_3) = false → sv = some ⟨bv_8, ov_7, none⟩) ∧
                      ∃ t_4 : Option Addr, (((Option.isNone t_3) = false → h3.rds bv_8 (ov_7 + 1) 1 = some [.pointer t_4])) ∧
                      ∃ bv_9 ov_8 : Nat, ((Option.isNone t_3) = false → t_4 = some ⟨bv_9, ov_8, none⟩) ∧
                      ∃ t_5 : Int, (((Option.isNone t_3) = false → h3.rds bv_9 ov_8 1 = some [.int .i64 t_5])) ∧
                      ∃ bv_10 ov_9 : Nat, ((Option.isNone t_3) = false → sv = some ⟨bv_10, ov_9, none⟩) ∧
                      ∃ t_6 : Option Addr, (((Option.isNone t_3) = false → h3.rds bv_10 ov_9 1 = some [.pointer t_6])) ∧
                      ∃ bv_11 ov_10 : Nat, ((Option.isNone t_3) = false → t_6 = some ⟨bv_11, ov_10, none⟩) ∧
                      ∃ t_7 : Int, (((Option.isNone t_3) = false → h3.rds bv_11 ov_10 1 = some [.int .i64 t_7])) ∧
                      (((Option.isNone t_3) = false →
                          ∃ bv_12 ov_11 : Nat, ((decide (t_5 ≤ t_7)) = true → sv = some ⟨bv_12, ov_11, none⟩) ∧
                          ∃ t_8 : Option Addr, (((decide (t_5 ≤ t_7)) = true → h3.rds bv_12 (ov_11 + 1) 1 = some [.pointer t_8])) ∧
                          ∃ bv_13 ov_12 : Nat, ((decide (t_5 ≤ t_7)) = true → t_8 = some ⟨bv_13, ov_12, none⟩) ∧
                          ∃ t_9 : Int, (((decide (t_5 ≤ t_7)) = true → h3.rds bv_13 ov_12 1 = some [.int .i64 t_9])) ∧
                          ∃ bv_14 ov_13 : Nat, (((decide (t_5 ≤ t_7)) && (decide (t_9 < v1))) = false → sv = some ⟨bv_14, ov_13, none⟩) ∧
                          ∃ t_10 : Option Addr, ((((decide (t_5 ≤ t_7)) && (decide (t_9 < v1))) = false → h3.rds bv_14 (ov_13 + 1) 1 = some [.pointer t_10])) ∧
                          ∃ bv_15 ov_14 : Nat, (((decide (t_5 ≤ t_7)) && (decide (t_9 < v1))) = false → t_10 = some ⟨bv_15, ov_14, none⟩) ∧
                          ∃ t_11 : Int, ((((decide (t_5 ≤ t_7)) && (decide (t_9 < v1))) = false → h3.rds bv_15 ov_14 1 = some [.int .i64 t_11])) ∧
                          ((((decide (t_5 ≤ t_7)) && (decide (t_9 < v1))) = false →
                              CallH Try.prog id_ship_above [.int .i64 v1, .int .i64 t_11] (fun v_2 h7 =>
                                ∃ t_12 : Bool, v_2 = .bool t_12 ∧
                                ((t_12 = true →
                                    CallH Try.prog id_tree_Of [.slice v5A v5N v5C] (fun v_3 h8 =>
                                      ∃ t0_3 : Option Addr, ∃ t1_3 : Int, v_3 = .tuple #[.pointer t0_3, .int .i64 t1_3] ∧
                                      (((t1_3 != (0 : Int)) = true →
                                          K (.slice (some ⟨bv, 0, none⟩) 1 1) h8) ∧
                                        ((t1_3 != (0 : Int)) = false →
                                          newH h8 (.cells #[.int .i64 v1, .int .i64 v2, .pointer t0_3] T_ship_shot (0, 0)) fun bv_16 h9 =>
                                          ∃ bv_17 ov_15 : Nat, sv = some ⟨bv_17, ov_15, none⟩ ∧
                                          stH h9 bv_17 (ov_15 + 1) [.pointer (some ⟨bv_16, 0, none⟩)] fun h10 =>
                                          ∃ bv_18 ov_16 : Nat, sv = some ⟨bv_18, ov_16, none⟩ ∧
                                          ∃ (tA_2 : Option Addr) (tN_2 tC_2 : Nat), (h10.rds bv_18 (ov_16 + 2) 1 = some [.slice tA_2 tN_2 tC_2]) ∧
                                          CallH Try.prog id_tree_Tree_Texts [.pointer t0_3] (fun v_4 h11 =>
                                            ∃ (tA_3 : Option Addr) (tN_3 tC_3 : Nat), v_4 = .slice tA_3 tN_3 tC_3 ∧
                                            (h11.rds bv_18 (ov_16 + 2) 1 = some [.slice tA_2 tN_2 tC_2]) ∧
                                            ∃ vs_1 : List Value, srcH h11 tA_3 (tN_3 * 1) vs_1 ∧
                                            appH 9 1 16 [.string (⟨#[]⟩ : ByteArray)] tA_2 tN_2 tC_2 tN_3 vs_1 (fun tA_4 tN_4 tC_4 h12 =>
                                              ∃ bv_19 ov_17 : Nat, sv = some ⟨bv_19, ov_17, none⟩ ∧
                                              stH h12 bv_19 (ov_17 + 2) [.slice tA_4 tN_4 tC_4] fun h13 =>
                                              Jv (()) h13) h11) h10))) h7) ∧
                                  (t_12 = false →
                                    Jv (()) h7))) h3) ∧
                            (((decide (t_5 ≤ t_7)) && (decide (t_9 < v1))) = true →
                              CallH Try.prog id_tree_Of [.slice v5A v5N v5C] (fun v_5 h14 =>
                                ∃ t0_4 : Option Addr, ∃ t1_4 : Int, v_5 = .tuple #[.pointer t0_4, .int .i64 t1_4] ∧
                                (((t1_4 != (0 : Int)) = true →
                                    K (.slice (some ⟨bv, 0, none⟩) 1 1) h14) ∧
                                  ((t1_4 != (0 : Int)) = false →
                                    newH h14 (.cells #[.int .i64 v1, .int .i64 v2, .pointer t0_4] T_ship_shot (0, 0)) fun bv_20 h15 =>
                                    ∃ bv_21 ov_18 : Nat, sv = some ⟨bv_21, ov_18, none⟩ ∧
                                    stH h15 bv_21 (ov_18 + 1) [.pointer (some ⟨bv_20, 0, none⟩)] fun h16 =>
                                    ∃ bv_22 ov_19 : Nat, sv = some ⟨bv_22, ov_19, none⟩ ∧
                                    ∃ (tA_5 : Option Addr) (tN_5 tC_5 : Nat), (h16.rds bv_22 (ov_19 + 2) 1 = some [.slice tA_5 tN_5 tC_5]) ∧
                                    CallH Try.prog id_tree_Tree_Texts [.pointer t0_4] (fun v_6 h17 =>
                                      ∃ (tA_6 : Option Addr) (tN_6 tC_6 : Nat), v_6 = .slice tA_6 tN_6 tC_6 ∧
                                      (h17.rds bv_22 (ov_19 + 2) 1 = some [.slice tA_5 tN_5 tC_5]) ∧
                                      ∃ vs_2 : List Value, srcH h17 tA_6 (tN_6 * 1) vs_2 ∧
                                      appH 9 1 16 [.string (⟨#[]⟩ : ByteArray)] tA_5 tN_5 tC_5 tN_6 vs_2 (fun tA_7 tN_7 tC_7 h18 =>
                                        ∃ bv_23 ov_20 : Nat, sv = some ⟨bv_23, ov_20, none⟩ ∧
                                        stH h18 bv_23 (ov_20 + 2) [.slice tA_7 tN_7 tC_7] fun h19 =>
                                        Jv (()) h19) h17) h16))) h3))) ∧
                        ((Option.isNone t_3) = true →
                          CallH Try.prog id_tree_Of [.slice v5A v5N v5C] (fun v_7 h20 =>
                            ∃ t0_5 : Option Addr, ∃ t1_5 : Int, v_7 = .tuple #[.pointer t0_5, .int .i64 t1_5] ∧
                            (((t1_5 != (0 : Int)) = true →
                                K (.slice (some ⟨bv, 0, none⟩) 1 1) h20) ∧
                              ((t1_5 != (0 : Int)) = false →
                                newH h20 (.cells #[.int .i64 v1, .int .i64 v2, .pointer t0_5] T_ship_shot (0, 0)) fun bv_24 h21 =>
                                ∃ bv_25 ov_21 : Nat, sv = some ⟨bv_25, ov_21, none⟩ ∧
                                stH h21 bv_25 (ov_21 + 1) [.pointer (some ⟨bv_24, 0, none⟩)] fun h22 =>
                                ∃ bv_26 ov_22 : Nat, sv = some ⟨bv_26, ov_22, none⟩ ∧
                                ∃ (tA_8 : Option Addr) (tN_8 tC_8 : Nat), (h22.rds bv_26 (ov_22 + 2) 1 = some [.slice tA_8 tN_8 tC_8]) ∧
                                CallH Try.prog id_tree_Tree_Texts [.pointer t0_5] (fun v_8 h23 =>
                                  ∃ (tA_9 : Option Addr) (tN_9 tC_9 : Nat), v_8 = .slice tA_9 tN_9 tC_9 ∧
                                  (h23.rds bv_26 (ov_22 + 2) 1 = some [.slice tA_8 tN_8 tC_8]) ∧
                                  ∃ vs_3 : List Value, srcH h23 tA_9 (tN_9 * 1) vs_3 ∧
                                  appH 9 1 16 [.string (⟨#[]⟩ : ByteArray)] tA_8 tN_8 tC_8 tN_9 vs_3 (fun tA_10 tN_10 tC_10 h24 =>
                                    ∃ bv_27 ov_23 : Nat, sv = some ⟨bv_27, ov_23, none⟩ ∧
                                    stH h24 bv_27 (ov_23 + 2) [.slice tA_10 tN_10 tC_10] fun h25 =>
                                    Jv (()) h25) h23) h22))) h3)))
                    (fun _ h6 =>
                      ∃ bv_28 ov_24 : Nat, sv = some ⟨bv_28, ov_24, none⟩ ∧
                      ∃ t_13 : Option Addr, (h6.rds bv_28 (ov_24 + 1) 1 = some [.pointer t_13]) ∧
                      ∃ bv_29 ov_25 : Nat, t_13 = some ⟨bv_29, ov_25, none⟩ ∧
                      ∃ t_14 : Int, (h6.rds bv_29 ov_25 1 = some [.int .i64 t_14]) ∧
                      ∃ bv_30 ov_26 : Nat, sv = some ⟨bv_30, ov_26, none⟩ ∧
                      ∃ t_15 : Option Addr, (h6.rds bv_30 (ov_26 + 1) 1 = some [.pointer t_15]) ∧
                      ∃ bv_31 ov_27 : Nat, t_15 = some ⟨bv_31, ov_27, none⟩ ∧
                      ∃ t_16 : Int, (h6.rds bv_31 (ov_27 + 1) 1 = some [.int .i64 t_16]) ∧
                      ∃ bv_32 ov_28 : Nat, sv = some ⟨bv_32, ov_28, none⟩ ∧
                      ∃ t_17 : Option Addr, (h6.rds bv_32 (ov_28 + 1) 1 = some [.pointer t_17]) ∧
                      ∃ bv_33 ov_29 : Nat, t_17 = some ⟨bv_33, ov_29, none⟩ ∧
                      ∃ t_18 : Option Addr, (h6.rds bv_33 (ov_29 + 2) 1 = some [.pointer t_18]) ∧
                      CallH Try.prog id_tree_Tree_Root [.pointer t_18] (fun v_9 h26 =>
                        ∃ t_19 : List Int, t_19.length = 32 ∧ v_9 = .agg ((t_19.map (Value.int .u8) ++ [])).toArray ∧
                        (h26.rds bv_31 (ov_27 + 1) 1 = some [.int .i64 t_16]) ∧
                        (h26.rds bv_30 (ov_26 + 1) 1 = some [.pointer t_15]) ∧
                        (h26.rds bv_29 ov_25 1 = some [.int .i64 t_14]) ∧
                        (h26.rds bv_28 (ov_24 + 1) 1 = some [.pointer t_13]) ∧
                        appH T_api_Msg 107 216 [.int .u8 (0 : Int), .int .i64 (0 : Int), .int .i64 (0 : Int), .int .i64 (0 : Int), .int .i64 (0 : Int), .int .i64 (0 : Int), .slice none 0 0, .int .i64 (0 : Int), .int .u8 (0 : Int), .int .u8 (0 : Int), .int .u8 (0 : Int), .int .u8 (0 : Int), .int .u8 (0 : Int), .int .u8 (0 : Int), .int .u8 (0 : Int), .int .u8 (0 : Int), .int .u8 (0 : Int), .int .u8 (0 : Int), .int .u8 (0 : Int), .int .u8 (0 : Int), .int .u8 (0 : Int), .int .u8 (0 : Int), .int .u8 (0 : Int), .int .u8 (0 : Int), .int .u8 (0 : Int), .int .u8 (0 : Int), .int .u8 (0 : Int), .int .u8 (0 : Int), .int .u8 (0 : Int), .int .u8 (0 : Int), .int .u8 (0 : Int), .int .u8 (0 : Int), .int .u8 (0 : Int), .int .u8 (0 : Int), .int .u8 (0 : Int), .int .u8 (0 : Int), .int .u8 (0 : Int), .int .u8 (0 : Int), .int .u8 (0 : Int), .int .u8 (0 : Int), .int .i64 (0 : Int), .int .i64 (0 : Int), .int .u8 (0 : Int), .int .u8 (0 : Int), .int .u8 (0 : Int), .int .u8 (0 : Int), .int .u8 (0 : Int), .int .u8 (0 : Int), .int .u8 (0 : Int), .int .u8 (0 : Int), .int .u8 (0 : Int), .int .u8 (0 : Int), .int .u8 (0 : Int), .int .u8 (0 : Int), .int .u8 (0 : Int), .int .u8 (0 : Int), .int .u8 (0 : Int), .int .u8 (0 : Int), .int .u8 (0 : Int), .int .u8 (0 : Int), .int .u8 (0 : Int), .int .u8 (0 : Int), .int .u8 (0 : Int), .int .u8 (0 : Int), .int .u8 (0 : Int), .int .u8 (0 : Int), .int .u8 (0 : Int), .int .u8 (0 : Int), .int .u8 (0 : Int), .int .u8 (0 : Int), .int .u8 (0 : Int), .int .u8 (0 : Int), .int .u8 (0 : Int), .int .u8 (0 : Int), .int .u8 (0 : Int), .int .u8 (0 : Int), .int .u8 (0 : Int), .int .u8 (0 : Int), .int .u8 (0 : Int), .int .u8 (0 : Int), .int .u8 (0 : Int), .int .u8 (0 : Int), .int .u8 (0 : Int), .int .u8 (0 : Int), .int .u8 (0 : Int), .int .u8 (0 : Int), .int .u8 (0 : Int), .int .u8 (0 : Int), .int .u8 (0 : Int), .int .u8 (0 : Int), .int .u8 (0 : Int), .int .u8 (0 : Int), .int .u8 (0 : Int), .int .u8 (0 : Int), .int .u8 (0 : Int), .int .u8 (0 : Int), .int .u8 (0 : Int), .int .u8 (0 : Int), .int .u8 (0 : Int), .int .u8 (0 : Int), .int .u8 (0 : Int), .int .u8 (0 : Int), .int .u8 (0 : Int), .int .u8 (0 : Int), .int .u8 (0 : Int), .int .u8 (0 : Int), .slice none 0 0] (some ⟨bv, 0, none⟩) 1 1 1 (.int .u8 (4 : Int) :: (.int .i64 v0 :: (.int .i64 t_14 :: (.int .i64 t_16 :: (.int .i64 (0 : Int) :: (.int .i64 (0 : Int) :: (.slice none 0 0 :: (.int .i64 (0 : Int) :: (t_19.map (Value.int .u8) ++ (.int .i64 (0 : Int) :: (.int .i64 (0 : Int) :: ((List.replicate 32 0).map (Value.int .u8) ++ ((List.replicate 32 0).map (Value.int .u8) ++ ([.slice none 0 0] : List Value)))))))))))))) (fun tA_11 tN_11 tC_11 h27 =>
                          K (.slice tA_11 tN_11 tC_11) h27) h26) h6)))) h1))))))
set_option maxRecDepth 100000 in
theorem F_ship_Ship_Tick_eq {sv : Option Addr} {v0 : Int} {v1 : Int} {v2 : Int} {v3A : Option Addr} {v3N v3C : Nat} {v4 : Int} {v5A : Option Addr} {v5N v5C : Nat} {K : Value → PH → Prop} {h : PH} : @Eq Prop (F_ship_Ship_Tick sv v0 v1 v2 v3A v3N v3C v4 v5A v5N v5C K h) (denF Try.prog Try.f14 ⟨[3, 162], [], [], [(38, ⟨[], [], []⟩)]⟩ [.v (.pointer sv), .agg [.one (.int .i64 v0), .one (.int .i64 v1), .one (.int .i64 v2), .one (.slice v3A v3N v3C), .one (.int .i64 v4), .one (.slice v5A v5N v5C)]] K h) := by
  kernel_rfl
theorem F_ship_Ship_Tick_ok {sv : Option Addr} {v0 : Int} {v1 : Int} {v2 : Int} {v3A : Option Addr} {v3N v3C : Nat} {v4 : Int} {v5A : Option Addr} {v5N v5C : Nat}  {K : Value → PH → Prop} {h : PH} (hh : F_ship_Ship_Tick sv v0 v1 v2 v3A v3N v3C v4 v5A v5N v5C K h) : CallH Try.prog id_ship_Ship_Tick [.pointer sv, .agg #[.int .i64 v0, .int .i64 v1, .int .i64 v2, .slice v3A v3N v3C, .int .i64 v4, .slice v5A v5N v5C]] K h :=
  denF_sound' Try.func14 (H := ⟨[3, 162], [], [], [(38, ⟨[], [], []⟩)]⟩) (xs := [.v (.pointer sv), .agg [.one (.int .i64 v0), .one (.int .i64 v1), .one (.int .i64 v2), .one (.slice v3A v3N v3C), .one (.int .i64 v4), .one (.slice v5A v5N v5C)]]) (by kernel_rfl) (⟨rfl, ⟨rfl, rfl, rfl, rfl, rfl, rfl, trivial⟩, trivial⟩) (den_of F_ship_Ship_Tick_eq hh)

/- twinlock/ship.Has -/
def F_ship_Has (v0 : Int) (v1 : Int) (v2 : Int) (v3A : Option Addr) (v3N v3C : Nat) (v4 : Int) (v5A : Option Addr) (v5N v5C : Nat) (atv : Int) (epoch : Int) (K : Value → PH → Prop) (h : PH) : Prop :=
  CallH Try.prog id_ship_next [.agg #[.int .i64 v0, .int .i64 v1, .int .i64 v2, .slice v3A v3N v3C, .int .i64 v4, .slice v5A v5N v5C], .agg #[.int .i64 atv, .int .i64 epoch]] (fun v h1 =>
    ∃ t0 : Int, ∃ t1 : Bool, v = .tuple #[.int .i64 t0, .bool t1] ∧
    K (.bool t1) h1) h
theorem F_ship_Has_eq {v0 : Int} {v1 : Int} {v2 : Int} {v3A : Option Addr} {v3N v3C : Nat} {v4 : Int} {v5A : Option Addr} {v5N v5C : Nat} {atv : Int} {epoch : Int} {K : Value → PH → Prop} {h : PH} : @Eq Prop (F_ship_Has v0 v1 v2 v3A v3N v3C v4 v5A v5N v5C atv epoch K h) (denF Try.prog Try.f17 ⟨[3], [], [], []⟩ [.agg [.one (.int .i64 v0), .one (.int .i64 v1), .one (.int .i64 v2), .one (.slice v3A v3N v3C), .one (.int .i64 v4), .one (.slice v5A v5N v5C)], .v (.int .i64 atv), .v (.int .i64 epoch)] K h) := by
  kernel_rfl
theorem F_ship_Has_ok {v0 : Int} {v1 : Int} {v2 : Int} {v3A : Option Addr} {v3N v3C : Nat} {v4 : Int} {v5A : Option Addr} {v5N v5C : Nat} {atv : Int} {epoch : Int}  {K : Value → PH → Prop} {h : PH} (hh : F_ship_Has v0 v1 v2 v3A v3N v3C v4 v5A v5N v5C atv epoch K h) : CallH Try.prog id_ship_Has [.agg #[.int .i64 v0, .int .i64 v1, .int .i64 v2, .slice v3A v3N v3C, .int .i64 v4, .slice v5A v5N v5C], .int .i64 atv, .int .i64 epoch] K h :=
  denF_sound' Try.func17 (H := ⟨[3], [], [], []⟩) (xs := [.agg [.one (.int .i64 v0), .one (.int .i64 v1), .one (.int .i64 v2), .one (.slice v3A v3N v3C), .one (.int .i64 v4), .one (.slice v5A v5N v5C)], .v (.int .i64 atv), .v (.int .i64 epoch)]) (by kernel_rfl) (⟨⟨rfl, rfl, rfl, rfl, rfl, rfl, trivial⟩, rfl, rfl, trivial⟩) (den_of F_ship_Has_eq hh)

/- (*twinlock/ship.Ship).Copy -/
def F_ship_Ship_Copy (sv : Option Addr) (K : Value → PH → Prop) (h : PH) : Prop :=
  ∃ bv ov : Nat, ((Option.isNone sv) = false → sv = some ⟨bv, ov, none⟩) ∧
  ∃ t : Option Addr, (((Option.isNone sv) = false → h.rds bv (ov + 1) 1 = some [.pointer t])) ∧
  ((((Option.isNone sv) || (Option.isNone t)) = true →
      K (.tuple #[.int .i64 (0 : Int), .agg (((List.replicate 32 0).map (Value.int .u8) ++ [])).toArray, .bool false]) h) ∧
    (((Option.isNone sv) || (Option.isNone t)) = false →
      ∃ bv_1 ov_1 : Nat, sv = some ⟨bv_1, ov_1, none⟩ ∧
      ∃ t_1 : Option Addr, (h.rds bv_1 (ov_1 + 1) 1 = some [.pointer t_1]) ∧
      ∃ bv_2 ov_2 : Nat, t_1 = some ⟨bv_2, ov_2, none⟩ ∧
      ∃ atv : Int, (h.rds bv_2 ov_2 1 = some [.int .i64 atv]) ∧
      ∃ bv_3 ov_3 : Nat, sv = some ⟨bv_3, ov_3, none⟩ ∧
      ∃ t_2 : Option Addr, (h.rds bv_3 (ov_3 + 1) 1 = some [.pointer t_2]) ∧
      ∃ bv_4 ov_4 : Nat, t_2 = some ⟨bv_4, ov_4, none⟩ ∧
      ∃ t_3 : Option Addr, (h.rds bv_4 (ov_4 + 2) 1 = some [.pointer t_3]) ∧
      CallH Try.prog id_tree_Tree_Root [.pointer t_3] (fun v h1 =>
        ∃ root : List Int, root.length = 32 ∧ v = .agg ((root.map (Value.int .u8) ++ [])).toArray ∧
        (h1.rds bv_2 ov_2 1 = some [.int .i64 atv]) ∧
        (h1.rds bv_1 (ov_1 + 1) 1 = some [.pointer t_1]) ∧
        K (.tuple #[.int .i64 atv, .agg ((root.map (Value.int .u8) ++ [])).toArray, .bool true]) h1) h))
theorem F_ship_Ship_Copy_eq {sv : Option Addr} {K : Value → PH → Prop} {h : PH} : @Eq Prop (F_ship_Ship_Copy sv K h) (denF Try.prog Try.f18 ⟨[3], [], [], []⟩ [.v (.pointer sv)] K h) := by
  kernel_rfl
theorem F_ship_Ship_Copy_ok {sv : Option Addr}  {K : Value → PH → Prop} {h : PH} (hh : F_ship_Ship_Copy sv K h) : CallH Try.prog id_ship_Ship_Copy [.pointer sv] K h :=
  denF_sound' Try.func18 (H := ⟨[3], [], [], []⟩) (xs := [.v (.pointer sv)]) (by kernel_rfl) (⟨rfl, trivial⟩) (den_of F_ship_Ship_Copy_eq hh)

/- (*twinlock/ship.Ship).Ask -/
def F_ship_Ship_Ask (sv : Option Addr) (m0 : Int) (_ : Int) (m2 : Int) (_ : Int) (_ : Int) (_ : Int) (_ : Option Addr) (_ _ : Nat) (_ : Int) (_ : List Int) (m9 : Int) (m10 : Int) (_ : List Int) (_ : List Int) (_ : Option Addr) (_ _ : Nat) (epoch : Int) (K : Value → PH → Prop) (h : PH) : Prop :=
  ∃ bv ov : Nat, ((Option.isNone sv) = false → sv = some ⟨bv, ov, none⟩) ∧
  ∃ t : Option Addr, (((Option.isNone sv) = false → h.rds bv (ov + 1) 1 = some [.pointer t])) ∧
  ∃ bv_1 ov_1 : Nat, ((((Option.isNone sv) || (Option.isNone t)) || (m0 != (5 : Int))) = false → sv = some ⟨bv_1, ov_1, none⟩) ∧
  ∃ t_1 : Option Addr, (((((Option.isNone sv) || (Option.isNone t)) || (m0 != (5 : Int))) = false → h.rds bv_1 (ov_1 + 1) 1 = some [.pointer t_1])) ∧
  ∃ bv_2 ov_2 : Nat, ((((Option.isNone sv) || (Option.isNone t)) || (m0 != (5 : Int))) = false → t_1 = some ⟨bv_2, ov_2, none⟩) ∧
  ∃ t_2 : Int, (((((Option.isNone sv) || (Option.isNone t)) || (m0 != (5 : Int))) = false → h.rds bv_2 ov_2 1 = some [.int .i64 t_2])) ∧
  ((((((Option.isNone sv) || (Option.isNone t)) || (m0 != (5 : Int))) || (m2 != t_2)) = true →
      K (.tuple #[.agg ((.int .u8 (0 : Int) :: (.int .i64 (0 : Int) :: (.int .i64 (0 : Int) :: (.int .i64 (0 : Int) :: (.int .i64 (0 : Int) :: (.int .i64 (0 : Int) :: (.slice none 0 0 :: (.int .i64 (0 : Int) :: ((List.replicate 32 0).map (Value.int .u8) ++ (.int .i64 (0 : Int) :: (.int .i64 (0 : Int) :: ((List.replicate 32 0).map (Value.int .u8) ++ ((List.replicate 32 0).map (Value.int .u8) ++ ([.slice none 0 0] : List Value))))))))))))))).toArray, .bool false]) h) ∧
    (((((Option.isNone sv) || (Option.isNone t)) || (m0 != (5 : Int))) || (m2 != t_2)) = false →
      JoinP (T := Int × Int × Int × Int × Int × Int × (Option Addr × Nat × Nat) × Int × List Int × Int × Int × List Int × List Int × (Option Addr × Nat × Nat) × Unit) (fun Jv =>
        ∃ bv_3 ov_3 : Nat, sv = some ⟨bv_3, ov_3, none⟩ ∧
        ∃ t_3 : Option Addr, (h.rds bv_3 (ov_3 + 1) 1 = some [.pointer t_3]) ∧
        ∃ bv_4 ov_4 : Nat, t_3 = some ⟨bv_4, ov_4, none⟩ ∧
        ∃ t_4 : Option Addr, (h.rds bv_4 (ov_4 + 2) 1 = some [.pointer t_4]) ∧
        (CallH Try.prog id_tree_Tree_Node [.pointer t_4, .int .i64 m9, .int .i64 m10] (fun v h2 =>
            ∃ t0 : List Int, t0.length = 32 ∧ ∃ t1 : Bool, v = .tuple #[.agg ((t0.map (Value.int .u8) ++ [])).toArray, .bool t1] ∧
            (((!t1) = true →
                K (.tuple #[.agg ((.int .u8 (0 : Int) :: (.int .i64 (0 : Int) :: (.int .i64 (0 : Int) :: (.int .i64 (0 : Int) :: (.int .i64 (0 : Int) :: (.int .i64 (0 : Int) :: (.slice none 0 0 :: (.int .i64 (0 : Int) :: ((List.replicate 32 0).map (Value.int .u8) ++ (.int .i64 (0 : Int) :: (.int .i64 (0 : Int) :: ((List.replicate 32 0).map (Value.int .u8) ++ ((List.replicate 32 0).map (Value.int .u8) ++ ([.slice none 0 0] : List Value))))))))))))))).toArray, .bool false]) h2) ∧
              ((!t1) = false →
                Jv ((0 : Int), (0 : Int), (0 : Int), (0 : Int), (0 : Int), (0 : Int), (none, 0, 0), (0 : Int), (List.replicate 32 0), (0 : Int), (0 : Int), (List.replicate 32 0), (List.replicate 32 0), (none, 0, 0), ()) h2))) h) ∧
        (CallH Try.prog id_tree_Tree_Node [.pointer t_4, .int .i64 m9, .int .i64 m10] (fun v_1 h3 =>
            ∃ t0_1 : List Int, t0_1.length = 32 ∧ ∃ t1_1 : Bool, v_1 = .tuple #[.agg ((t0_1.map (Value.int .u8) ++ [])).toArray, .bool t1_1] ∧
            (((!t1_1) = true →
                K (.tuple #[.agg ((.int .u8 (0 : Int) :: (.int .i64 (0 : Int) :: (.int .i64 (0 : Int) :: (.int .i64 (0 : Int) :: (.int .i64 (0 : Int) :: (.int .i64 (0 : Int) :: (.slice none 0 0 :: (.int .i64 (0 : Int) :: ((List.replicate 32 0).map (Value.int .u8) ++ (.int .i64 (0 : Int) :: (.int .i64 (0 : Int) :: ((List.replicate 32 0).map (Value.int .u8) ++ ((List.replicate 32 0).map (Value.int .u8) ++ ([.slice none 0 0] : List Value))))))))))))))).toArray, .bool false]) h3) ∧
              ((!t1_1) = false →
                Jv ((0 : Int), (0 : Int), (0 : Int), (0 : Int), (0 : Int), (0 : Int), (none, 0, 0), (0 : Int), (List.replicate 32 0), (0 : Int), (0 : Int), (List.replicate 32 0), (List.replicate 32 0), (none, 0, 0), ()) h3))) h))
      (fun _ h1 =>
        (((m9 == (4 : Int)) = true →
            ∃ bv_5 ov_5 : Nat, sv = some ⟨bv_5, ov_5, none⟩ ∧
            ∃ t_5 : Option Addr, (h1.rds bv_5 (ov_5 + 1) 1 = some [.pointer t_5]) ∧
            ∃ bv_6 ov_6 : Nat, t_5 = some ⟨bv_6, ov_6, none⟩ ∧
            ∃ t_6 : Option Addr, (h1.rds bv_6 (ov_6 + 2) 1 = some [.pointer t_6]) ∧
            CallH Try.prog id_tree_Tree_Pairs [.pointer t_6, .int .i64 m10] (fun v_2 h4 =>
              ∃ (tA : Option Addr) (tN tC : Nat), v_2 = .slice tA tN tC ∧
              K (.tuple #[.agg ((.int .u8 (7 : Int) :: (.int .i64 epoch :: (.int .i64 m2 :: (.int .i64 (0 : Int) :: (.int .i64 (0 : Int) :: (.int .i64 (0 : Int) :: (.slice none 0 0 :: (.int .i64 (0 : Int) :: ((List.replicate 32 0).map (Value.int .u8) ++ (.int .i64 (0 : Int) :: (.int .i64 m10 :: ((List.replicate 32 0).map (Value.int .u8) ++ ((List.replicate 32 0).map (Value.int .u8) ++ ([.slice tA tN tC] : List Value))))))))))))))).toArray, .bool true]) h4) h1) ∧
          ((m9 == (4 : Int)) = false →
            ∃ bv_7 ov_7 : Nat, sv = some ⟨bv_7, ov_7, none⟩ ∧
            ∃ t_7 : Option Addr, (h1.rds bv_7 (ov_7 + 1) 1 = some [.pointer t_7]) ∧
            ∃ bv_8 ov_8 : Nat, t_7 = some ⟨bv_8, ov_8, none⟩ ∧
            ∃ t_8 : Option Addr, (h1.rds bv_8 (ov_8 + 2) 1 = some [.pointer t_8]) ∧
            (CallH Try.prog id_tree_Tree_Node [.pointer t_8, .int .i64 (IntKind.wrap .i64 (m9 + (1 : Int))), .int .i64 (IntKind.wrap .i64 ((2 : Int) * m10))] (fun v_3 h5 =>
                ∃ t0_2 : List Int, t0_2.length = 32 ∧ ∃ t1_2 : Bool, v_3 = .tuple #[.agg ((t0_2.map (Value.int .u8) ++ [])).toArray, .bool t1_2] ∧
                ∃ bv_9 ov_9 : Nat, sv = some ⟨bv_9, ov_9, none⟩ ∧
                ∃ t_9 : Option Addr, (h5.rds bv_9 (ov_9 + 1) 1 = some [.pointer t_9]) ∧
                ∃ bv_10 ov_10 : Nat, t_9 = some ⟨bv_10, ov_10, none⟩ ∧
                ∃ t_10 : Option Addr, (h5.rds bv_10 (ov_10 + 2) 1 = some [.pointer t_10]) ∧
                (CallH Try.prog id_tree_Tree_Node [.pointer t_10, .int .i64 (IntKind.wrap .i64 (m9 + (1 : Int))), .int .i64 (IntKind.wrap .i64 ((IntKind.wrap .i64 ((2 : Int) * m10)) + (1 : Int)))] (fun v_4 h6 =>
                    ∃ t0_3 : List Int, t0_3.length = 32 ∧ ∃ t1_3 : Bool, v_4 = .tuple #[.agg ((t0_3.map (Value.int .u8) ++ [])).toArray, .bool t1_3] ∧
                    K (.tuple #[.agg ((.int .u8 (6 : Int) :: (.int .i64 epoch :: (.int .i64 m2 :: (.int .i64 (0 : Int) :: (.int .i64 (0 : Int) :: (.int .i64 (0 : Int) :: (.slice none 0 0 :: (.int .i64 (0 : Int) :: ((List.replicate 32 0).map (Value.int .u8) ++ (.int .i64 m9 :: (.int .i64 m10 :: (t0_2.map (Value.int .u8) ++ (t0_3.map (Value.int .u8) ++ ([.slice none 0 0] : List Value))))))))))))))).toArray, .bool true]) h6) h5) ∧
                (CallH Try.prog id_tree_Tree_Node [.pointer t_10, .int .i64 (IntKind.wrap .i64 (m9 + (1 : Int))), .int .i64 (IntKind.wrap .i64 ((IntKind.wrap .i64 ((2 : Int) * m10)) + (1 : Int)))] (fun v_5 h7 =>
                    ∃ t0_4 : List Int, t0_4.length = 32 ∧ ∃ t1_4 : Bool, v_5 = .tuple #[.agg ((t0_4.map (Value.int .u8) ++ [])).toArray, .bool t1_4] ∧
                    K (.tuple #[.agg ((.int .u8 (6 : Int) :: (.int .i64 epoch :: (.int .i64 m2 :: (.int .i64 (0 : Int) :: (.int .i64 (0 : Int) :: (.int .i64 (0 : Int) :: (.slice none 0 0 :: (.int .i64 (0 : Int) :: ((List.replicate 32 0).map (Value.int .u8) ++ (.int .i64 m9 :: (.int .i64 m10 :: (t0_2.map (Value.int .u8) ++ (t0_4.map (Value.int .u8) ++ ([.slice none 0 0] : List Value))))))))))))))).toArray, .bool true]) h7) h5)) h1) ∧
            (CallH Try.prog id_tree_Tree_Node [.pointer t_8, .int .i64 (IntKind.wrap .i64 (m9 + (1 : Int))), .int .i64 (IntKind.wrap .i64 ((2 : Int) * m10))] (fun v_6 h8 =>
                ∃ t0_5 : List Int, t0_5.length = 32 ∧ ∃ t1_5 : Bool, v_6 = .tuple #[.agg ((t0_5.map (Value.int .u8) ++ [])).toArray, .bool t1_5] ∧
                ∃ bv_11 ov_11 : Nat, sv = some ⟨bv_11, ov_11, none⟩ ∧
                ∃ t_11 : Option Addr, (h8.rds bv_11 (ov_11 + 1) 1 = some [.pointer t_11]) ∧
                ∃ bv_12 ov_12 : Nat, t_11 = some ⟨bv_12, ov_12, none⟩ ∧
                ∃ t_12 : Option Addr, (h8.rds bv_12 (ov_12 + 2) 1 = some [.pointer t_12]) ∧
                (CallH Try.prog id_tree_Tree_Node [.pointer t_12, .int .i64 (IntKind.wrap .i64 (m9 + (1 : Int))), .int .i64 (IntKind.wrap .i64 ((IntKind.wrap .i64 ((2 : Int) * m10)) + (1 : Int)))] (fun v_7 h9 =>
                    ∃ t0_6 : List Int, t0_6.length = 32 ∧ ∃ t1_6 : Bool, v_7 = .tuple #[.agg ((t0_6.map (Value.int .u8) ++ [])).toArray, .bool t1_6] ∧
                    K (.tuple #[.agg ((.int .u8 (6 : Int) :: (.int .i64 epoch :: (.int .i64 m2 :: (.int .i64 (0 : Int) :: (.int .i64 (0 : Int) :: (.int .i64 (0 : Int) :: (.slice none 0 0 :: (.int .i64 (0 : Int) :: ((List.replicate 32 0).map (Value.int .u8) ++ (.int .i64 m9 :: (.int .i64 m10 :: (t0_5.map (Value.int .u8) ++ (t0_6.map (Value.int .u8) ++ ([.slice none 0 0] : List Value))))))))))))))).toArray, .bool true]) h9) h8) ∧
                (CallH Try.prog id_tree_Tree_Node [.pointer t_12, .int .i64 (IntKind.wrap .i64 (m9 + (1 : Int))), .int .i64 (IntKind.wrap .i64 ((IntKind.wrap .i64 ((2 : Int) * m10)) + (1 : Int)))] (fun v_8 h10 =>
                    ∃ t0_7 : List Int, t0_7.length = 32 ∧ ∃ t1_7 : Bool, v_8 = .tuple #[.agg ((t0_7.map (Value.int .u8) ++ [])).toArray, .bool t1_7] ∧
                    K (.tuple #[.agg ((.int .u8 (6 : Int) :: (.int .i64 epoch :: (.int .i64 m2 :: (.int .i64 (0 : Int) :: (.int .i64 (0 : Int) :: (.int .i64 (0 : Int) :: (.slice none 0 0 :: (.int .i64 (0 : Int) :: ((List.replicate 32 0).map (Value.int .u8) ++ (.int .i64 m9 :: (.int .i64 m10 :: (t0_5.map (Value.int .u8) ++ (t0_7.map (Value.int .u8) ++ ([.slice none 0 0] : List Value))))))))))))))).toArray, .bool true]) h10) h8)) h1))))))
theorem F_ship_Ship_Ask_eq {sv : Option Addr} {m0 : Int} {m1 : Int} {m2 : Int} {m3 : Int} {m4 : Int} {m5 : Int} {m6A : Option Addr} {m6N m6C : Nat} {m7 : Int} {m8 : List Int} {m9 : Int} {m10 : Int} {m11 : List Int} {m12 : List Int} {m13A : Option Addr} {m13N m13C : Nat} {epoch : Int} {K : Value → PH → Prop} {h : PH} : @Eq Prop (F_ship_Ship_Ask sv m0 m1 m2 m3 m4 m5 m6A m6N m6C m7 m8 m9 m10 m11 m12 m13A m13N m13C epoch K h) (denF Try.prog Try.f20 ⟨[4, 6, 8, 10, 12], [(3, .one 0 (.one 1 (.one 2 (.one 3 (.one 4 (.one 5 (.one 6 (.one 7 (.one 8 (.one 9 (.one 10 (.alt 11 (.of [12, 13, 14, 15, 16, 17]) (.of [15, 11, 12, 13, 14, 16, 17]))))))))))))), (8, .one 0 (.one 1 (.one 2 (.one 3 (.one 4 (.one 5 (.one 6 (.one 7 (.one 8 (.one 9 (.one 10 (.one 11 (.one 12 (.alt 13 (.of [14, 15, 16, 17, 18, 19]) (.of [17, 13, 14, 15, 16, 18, 19]))))))))))))))), (9, .one 0 (.one 1 (.one 2 (.one 3 (.one 4 (.one 5 (.one 6 (.one 7 (.one 8 (.one 9 (.one 10 (.one 11 (.one 12 (.one 13 (.alt 14 (.of [15, 16, 17, 18, 19, 20]) (.of [18, 14, 15, 16, 17, 19, 20]))))))))))))))))], [], [(14, ⟨[], [], [(1, [.one (.int .u8), .one (.int .i64), .one (.int .i64), .one (.int .i64), .one (.int .i64), .one (.int .i64), .one (.slice), .one (.int .i64), .ints .u8 32, .one (.int .i64), .one (.int .i64), .ints .u8 32, .ints .u8 32, .one (.slice)])]⟩)]⟩ [.v (.pointer sv), .agg [.one (.int .u8 m0), .one (.int .i64 m1), .one (.int .i64 m2), .one (.int .i64 m3), .one (.int .i64 m4), .one (.int .i64 m5), .one (.slice m6A m6N m6C), .one (.int .i64 m7), .ints .u8 32 m8, .one (.int .i64 m9), .one (.int .i64 m10), .ints .u8 32 m11, .ints .u8 32 m12, .one (.slice m13A m13N m13C)], .v (.int .i64 epoch)] K h) := by
  kernel_rfl
theorem F_ship_Ship_Ask_ok {sv : Option Addr} {m0 : Int} {m1 : Int} {m2 : Int} {m3 : Int} {m4 : Int} {m5 : Int} {m6A : Option Addr} {m6N m6C : Nat} {m7 : Int} {m8 : List Int} {m9 : Int} {m10 : Int} {m11 : List Int} {m12 : List Int} {m13A : Option Addr} {m13N m13C : Nat} {epoch : Int} (hk0 : m8.length = 32) (hk1 : m11.length = 32) (hk2 : m12.length = 32) {K : Value → PH → Prop} {h : PH} (hh : F_ship_Ship_Ask sv m0 m1 m2 m3 m4 m5 m6A m6N m6C m7 m8 m9 m10 m11 m12 m13A m13N m13C epoch K h) : CallH Try.prog id_ship_Ship_Ask [.pointer sv, .agg ((.int .u8 m0 :: (.int .i64 m1 :: (.int .i64 m2 :: (.int .i64 m3 :: (.int .i64 m4 :: (.int .i64 m5 :: (.slice m6A m6N m6C :: (.int .i64 m7 :: (m8.map (Value.int .u8) ++ (.int .i64 m9 :: (.int .i64 m10 :: (m11.map (Value.int .u8) ++ (m12.map (Value.int .u8) ++ ([.slice m13A m13N m13C] : List Value))))))))))))))).toArray, .int .i64 epoch] K h :=
  denF_sound' Try.func20 (H := ⟨[4, 6, 8, 10, 12], [(3, .one 0 (.one 1 (.one 2 (.one 3 (.one 4 (.one 5 (.one 6 (.one 7 (.one 8 (.one 9 (.one 10 (.alt 11 (.of [12, 13, 14, 15, 16, 17]) (.of [15, 11, 12, 13, 14, 16, 17]))))))))))))), (8, .one 0 (.one 1 (.one 2 (.one 3 (.one 4 (.one 5 (.one 6 (.one 7 (.one 8 (.one 9 (.one 10 (.one 11 (.one 12 (.alt 13 (.of [14, 15, 16, 17, 18, 19]) (.of [17, 13, 14, 15, 16, 18, 19]))))))))))))))), (9, .one 0 (.one 1 (.one 2 (.one 3 (.one 4 (.one 5 (.one 6 (.one 7 (.one 8 (.one 9 (.one 10 (.one 11 (.one 12 (.one 13 (.alt 14 (.of [15, 16, 17, 18, 19, 20]) (.of [18, 14, 15, 16, 17, 19, 20]))))))))))))))))], [], [(14, ⟨[], [], [(1, [.one (.int .u8), .one (.int .i64), .one (.int .i64), .one (.int .i64), .one (.int .i64), .one (.int .i64), .one (.slice), .one (.int .i64), .ints .u8 32, .one (.int .i64), .one (.int .i64), .ints .u8 32, .ints .u8 32, .one (.slice)])]⟩)]⟩) (xs := [.v (.pointer sv), .agg [.one (.int .u8 m0), .one (.int .i64 m1), .one (.int .i64 m2), .one (.int .i64 m3), .one (.int .i64 m4), .one (.int .i64 m5), .one (.slice m6A m6N m6C), .one (.int .i64 m7), .ints .u8 32 m8, .one (.int .i64 m9), .one (.int .i64 m10), .ints .u8 32 m11, .ints .u8 32 m12, .one (.slice m13A m13N m13C)], .v (.int .i64 epoch)]) (by kernel_rfl) (⟨rfl, ⟨rfl, rfl, rfl, rfl, rfl, rfl, rfl, rfl, hk0, rfl, rfl, hk1, hk2, rfl, trivial⟩, rfl, trivial⟩) (den_of F_ship_Ship_Ask_eq hh)

/- (*twinlock/ship.Ship).Forget -/
def F_ship_Ship_Forget (sv : Option Addr) (K : Value → PH → Prop) (h : PH) : Prop :=
  (((!(Option.isNone sv)) = true →
      ∃ bv ov : Nat, sv = some ⟨bv, ov, none⟩ ∧
      stH h bv ov [.pointer none] fun h1 =>
      ∃ bv_1 ov_1 : Nat, sv = some ⟨bv_1, ov_1, none⟩ ∧
      stH h1 bv_1 (ov_1 + 1) [.pointer none] fun h2 =>
      K (.tuple #[]) h2) ∧
    ((!(Option.isNone sv)) = false →
      K (.tuple #[]) h))
theorem F_ship_Ship_Forget_eq {sv : Option Addr} {K : Value → PH → Prop} {h : PH} : @Eq Prop (F_ship_Ship_Forget sv K h) (denF Try.prog Try.f21 ⟨[], [], [], []⟩ [.v (.pointer sv)] K h) := by
  kernel_rfl
theorem F_ship_Ship_Forget_ok {sv : Option Addr}  {K : Value → PH → Prop} {h : PH} (hh : F_ship_Ship_Forget sv K h) : CallH Try.prog id_ship_Ship_Forget [.pointer sv] K h :=
  denF_sound' Try.func21 (H := ⟨[], [], [], []⟩) (xs := [.v (.pointer sv)]) (by kernel_rfl) (⟨rfl, trivial⟩) (den_of F_ship_Ship_Forget_eq hh)

/- (*twinlock/ship.Ship).Texts -/
def F_ship_Ship_Texts (sv : Option Addr) (K : Value → PH → Prop) (h : PH) : Prop :=
  (((Option.isNone sv) = true →
      K (.slice none 0 0) h) ∧
    ((Option.isNone sv) = false →
      ∃ bv ov : Nat, sv = some ⟨bv, ov, none⟩ ∧
      ∃ (tA : Option Addr) (tN tC : Nat), (h.rds bv (ov + 2) 1 = some [.slice tA tN tC]) ∧
      CallH Try.prog id_slices_Clone_string_string [.slice tA tN tC] (fun v h1 =>
        ∃ (tA_1 : Option Addr) (tN_1 tC_1 : Nat), v = .slice tA_1 tN_1 tC_1 ∧
        K (.slice tA_1 tN_1 tC_1) h1) h))
theorem F_ship_Ship_Texts_eq {sv : Option Addr} {K : Value → PH → Prop} {h : PH} : @Eq Prop (F_ship_Ship_Texts sv K h) (denF Try.prog Try.f25 ⟨[], [], [], []⟩ [.v (.pointer sv)] K h) := by
  kernel_rfl
theorem F_ship_Ship_Texts_ok {sv : Option Addr}  {K : Value → PH → Prop} {h : PH} (hh : F_ship_Ship_Texts sv K h) : CallH Try.prog id_ship_Ship_Texts [.pointer sv] K h :=
  denF_sound' Try.func25 (H := ⟨[], [], [], []⟩) (xs := [.v (.pointer sv)]) (by kernel_rfl) (⟨rfl, trivial⟩) (den_of F_ship_Ship_Texts_eq hh)

/- twinlock/twinlocklaw12.GreatOps -/
def F_law12_GreatOps (lA : Option Addr) (lN _ : Nat) (K : Value → PH → Prop) (h : PH) : Prop :=
  (((decide (((lN : Nat) : Int) > (100 : Int))) = true →
      K (.bool true) h) ∧
    ((decide (((lN : Nat) : Int) > (100 : Int))) = false →
      LoopP (T := Int × Unit) (fun Jv st h1 =>
        (((decide (st.1 < ((lN : Nat) : Int))) = true →
            ∃ bv ov : Nat, (lA = some ⟨bv, ov, none⟩ ∧ 0 ≤ st.1 ∧ st.1 < (lN : Nat)) ∧
            ∃ t : ByteArray, (h1.rds bv ((ov + st.1.toNat * 3) + 1) 1 = some [.string t]) ∧
            ∃ bv_1 ov_1 : Nat, (((decide ((t.size : Int) > (1000 : Int))) = false → lA = some ⟨bv_1, ov_1, none⟩ ∧ 0 ≤ st.1 ∧ st.1 < (lN : Nat))) ∧
            ∃ t_1 : ByteArray, (((decide ((t.size : Int) > (1000 : Int))) = false → h1.rds bv_1 ((ov_1 + st.1.toNat * 3) + 2) 1 = some [.string t_1])) ∧
            ((((decide ((t.size : Int) > (1000 : Int))) || (decide ((t_1.size : Int) > (1000 : Int)))) = true →
                K (.bool true) h1) ∧
              (((decide ((t.size : Int) > (1000 : Int))) || (decide ((t_1.size : Int) > (1000 : Int)))) = false →
                Jv ((IntKind.wrap .i64 (st.1 + (1 : Int))), ()) h1))) ∧
          ((decide (st.1 < ((lN : Nat) : Int))) = false →
            K (.bool false) h1))) ((0 : Int), ()) h))
theorem F_law12_GreatOps_eq {lA : Option Addr} {lN lC : Nat} {K : Value → PH → Prop} {h : PH} : @Eq Prop (F_law12_GreatOps lA lN lC K h) (denF Try.prog Try.f28 ⟨[], [], [(0, ⟨[(3, .int .i64)], [], []⟩)], []⟩ [.v (.slice lA lN lC)] K h) := by
  kernel_rfl
theorem F_law12_GreatOps_ok {lA : Option Addr} {lN lC : Nat}  {K : Value → PH → Prop} {h : PH} (hh : F_law12_GreatOps lA lN lC K h) : CallH Try.prog id_law12_GreatOps [.slice lA lN lC] K h :=
  denF_sound' Try.func28 (H := ⟨[], [], [(0, ⟨[(3, .int .i64)], [], []⟩)], []⟩) (xs := [.v (.slice lA lN lC)]) (by kernel_rfl) (⟨rfl, trivial⟩) (den_of F_law12_GreatOps_eq hh)

/- twinlock/ship.next -/
def F_ship_next (_ : Int) (v1 : Int) (v2 : Int) (v3A : Option Addr) (v3N _ : Nat) (v4 : Int) (_ : Option Addr) (_ _ : Nat) (p0 : Int) (p1 : Int) (K : Value → PH → Prop) (h : PH) : Prop :=
  ((((p0 == v1) && ((p1 == v2) && true)) = true →
      K (.tuple #[.int .i64 ((v3N : Nat) : Int), .bool true]) h) ∧
    (((p0 == v1) && ((p1 == v2) && true)) = false →
      LoopP (T := Int × Unit) (fun Jv st h1 =>
        (((decide (st.1 < ((v3N : Nat) : Int))) = true →
            ∃ bv ov : Nat, (v3A = some ⟨bv, ov, none⟩ ∧ 0 ≤ st.1 ∧ st.1 < (v3N : Nat)) ∧
            ∃ b0 : Int, ∃ b1 : Int, ∃ (b2A : Option Addr) (b2N b2C : Nat), (h1.rds bv (ov + st.1.toNat * 3) 3 = some [.int .i64 b0, .int .i64 b1, .slice b2A b2N b2C]) ∧
            (((decide (st.1 > (0 : Int))) = true →
                ∃ bv_1 ov_1 : Nat, (v3A = some ⟨bv_1, ov_1, none⟩ ∧ 0 ≤ (IntKind.wrap .i64 (st.1 - (1 : Int))) ∧ (IntKind.wrap .i64 (st.1 - (1 : Int))) < (v3N : Nat)) ∧
                ∃ ahead : Int, (h1.rds bv_1 ((ov_1 + (IntKind.wrap .i64 (st.1 - (1 : Int))).toNat * 3) + 1) 1 = some [.int .i64 ahead]) ∧
                ((((p0 == (IntKind.wrap .i64 (b0 - (1 : Int)))) && ((p1 == ahead) && true)) = true →
                    K (.tuple #[.int .i64 st.1, .bool true]) h1) ∧
                  (((p0 == (IntKind.wrap .i64 (b0 - (1 : Int)))) && ((p1 == ahead) && true)) = false →
                    Jv ((IntKind.wrap .i64 (st.1 + (1 : Int))), ()) h1))) ∧
              ((decide (st.1 > (0 : Int))) = false →
                ((((p0 == (IntKind.wrap .i64 (b0 - (1 : Int)))) && ((p1 == v4) && true)) = true →
                    K (.tuple #[.int .i64 st.1, .bool true]) h1) ∧
                  (((p0 == (IntKind.wrap .i64 (b0 - (1 : Int)))) && ((p1 == v4) && true)) = false →
                    Jv ((IntKind.wrap .i64 (st.1 + (1 : Int))), ()) h1))))) ∧
          ((decide (st.1 < ((v3N : Nat) : Int))) = false →
            K (.tuple #[.int .i64 (0 : Int), .bool false]) h1))) ((0 : Int), ()) h))
theorem F_ship_next_eq {v0 : Int} {v1 : Int} {v2 : Int} {v3A : Option Addr} {v3N v3C : Nat} {v4 : Int} {v5A : Option Addr} {v5N v5C : Nat} {p0 : Int} {p1 : Int} {K : Value → PH → Prop} {h : PH} : @Eq Prop (F_ship_next v0 v1 v2 v3A v3N v3C v4 v5A v5N v5C p0 p1 K h) (denF Try.prog Try.f29 ⟨[2, 3, 7], [], [(0, ⟨[(22, .int .i64)], [], []⟩)], []⟩ [.agg [.one (.int .i64 v0), .one (.int .i64 v1), .one (.int .i64 v2), .one (.slice v3A v3N v3C), .one (.int .i64 v4), .one (.slice v5A v5N v5C)], .agg [.one (.int .i64 p0), .one (.int .i64 p1)]] K h) := by
  kernel_rfl
theorem F_ship_next_ok {v0 : Int} {v1 : Int} {v2 : Int} {v3A : Option Addr} {v3N v3C : Nat} {v4 : Int} {v5A : Option Addr} {v5N v5C : Nat} {p0 : Int} {p1 : Int}  {K : Value → PH → Prop} {h : PH} (hh : F_ship_next v0 v1 v2 v3A v3N v3C v4 v5A v5N v5C p0 p1 K h) : CallH Try.prog id_ship_next [.agg #[.int .i64 v0, .int .i64 v1, .int .i64 v2, .slice v3A v3N v3C, .int .i64 v4, .slice v5A v5N v5C], .agg #[.int .i64 p0, .int .i64 p1]] K h :=
  denF_sound' Try.func29 (H := ⟨[2, 3, 7], [], [(0, ⟨[(22, .int .i64)], [], []⟩)], []⟩) (xs := [.agg [.one (.int .i64 v0), .one (.int .i64 v1), .one (.int .i64 v2), .one (.slice v3A v3N v3C), .one (.int .i64 v4), .one (.slice v5A v5N v5C)], .agg [.one (.int .i64 p0), .one (.int .i64 p1)]]) (by kernel_rfl) (⟨⟨rfl, rfl, rfl, rfl, rfl, rfl, trivial⟩, ⟨rfl, rfl, trivial⟩, trivial⟩) (den_of F_ship_next_eq hh)

/- twinlock/ship.entries -/
def F_ship_entries (v0 : Int) (_ : Int) (_ : Int) (v3A : Option Addr) (v3N _ : Nat) (v4 : Int) (_ : Option Addr) (_ _ : Nat) (i : Int) (K : Value → PH → Prop) (h : PH) : Prop :=
  LoopP (T := (Option Addr × Nat × Nat) × Int × Unit) (fun Jv st h1 =>
    ((((decide (st.2.1 < ((v3N : Nat) : Int))) && (decide (((st.1.2.1 : Nat) : Int) < (4 : Int)))) = true →
        JoinP (T := Int × Unit) (fun Jv_1 =>
          (((decide (st.2.1 > (0 : Int))) = true →
              ∃ bv ov : Nat, (v3A = some ⟨bv, ov, none⟩ ∧ 0 ≤ (IntKind.wrap .i64 (st.2.1 - (1 : Int))) ∧ (IntKind.wrap .i64 (st.2.1 - (1 : Int))) < (v3N : Nat)) ∧
              ∃ prev : Int, (h1.rds bv ((ov + (IntKind.wrap .i64 (st.2.1 - (1 : Int))).toNat * 3) + 1) 1 = some [.int .i64 prev]) ∧
              Jv_1 (prev, ()) h1) ∧
            ((decide (st.2.1 > (0 : Int))) = false →
              Jv_1 (v4, ()) h1)))
        (fun st_1 h2 =>
          ∃ bv_1 ov_1 : Nat, (v3A = some ⟨bv_1, ov_1, none⟩ ∧ 0 ≤ st.2.1 ∧ st.2.1 < (v3N : Nat)) ∧
          ∃ b0 : Int, ∃ b1 : Int, ∃ (b2A : Option Addr) (b2N b2C : Nat), (h2.rds bv_1 (ov_1 + st.2.1.toNat * 3) 3 = some [.int .i64 b0, .int .i64 b1, .slice b2A b2N b2C]) ∧
          CallH Try.prog id_slices_Clone_api_Op_api_Op [.slice b2A b2N b2C] (fun v h3 =>
            ∃ (tA : Option Addr) (tN tC : Nat), v = .slice tA tN tC ∧
            appH T_api_Msg 107 216 [.int .u8 (0 : Int), .int .i64 (0 : Int), .int .i64 (0 : Int), .int .i64 (0 : Int), .int .i64 (0 : Int), .int .i64 (0 : Int), .slice none 0 0, .int .i64 (0 : Int), .int .u8 (0 : Int), .int .u8 (0 : Int), .int .u8 (0 : Int), .int .u8 (0 : Int), .int .u8 (0 : Int), .int .u8 (0 : Int), .int .u8 (0 : Int), .int .u8 (0 : Int), .int .u8 (0 : Int), .int .u8 (0 : Int), .int .u8 (0 : Int), .int .u8 (0 : Int), .int .u8 (0 : Int), .int .u8 (0 : Int), .int .u8 (0 : Int), .int .u8 (0 : Int), .int .u8 (0 : Int), .int .u8 (0 : Int), .int .u8 (0 : Int), .int .u8 (0 : Int), .int .u8 (0 : Int), .int .u8 (0 : Int), .int .u8 (0 : Int), .int .u8 (0 : Int), .int .u8 (0 : Int), .int .u8 (0 : Int), .int .u8 (0 : Int), .int .u8 (0 : Int), .int .u8 (0 : Int), .int .u8 (0 : Int), .int .u8 (0 : Int), .int .u8 (0 : Int), .int .i64 (0 : Int), .int .i64 (0 : Int), .int .u8 (0 : Int), .int .u8 (0 : Int), .int .u8 (0 : Int), .int .u8 (0 : Int), .int .u8 (0 : Int), .int .u8 (0 : Int), .int .u8 (0 : Int), .int .u8 (0 : Int), .int .u8 (0 : Int), .int .u8 (0 : Int), .int .u8 (0 : Int), .int .u8 (0 : Int), .int .u8 (0 : Int), .int .u8 (0 : Int), .int .u8 (0 : Int), .int .u8 (0 : Int), .int .u8 (0 : Int), .int .u8 (0 : Int), .int .u8 (0 : Int), .int .u8 (0 : Int), .int .u8 (0 : Int), .int .u8 (0 : Int), .int .u8 (0 : Int), .int .u8 (0 : Int), .int .u8 (0 : Int), .int .u8 (0 : Int), .int .u8 (0 : Int), .int .u8 (0 : Int), .int .u8 (0 : Int), .int .u8 (0 : Int), .int .u8 (0 : Int), .int .u8 (0 : Int), .int .u8 (0 : Int), .int .u8 (0 : Int), .int .u8 (0 : Int), .int .u8 (0 : Int), .int .u8 (0 : Int), .int .u8 (0 : Int), .int .u8 (0 : Int), .int .u8 (0 : Int), .int .u8 (0 : Int), .int .u8 (0 : Int), .int .u8 (0 : Int), .int .u8 (0 : Int), .int .u8 (0 : Int), .int .u8 (0 : Int), .int .u8 (0 : Int), .int .u8 (0 : Int), .int .u8 (0 : Int), .int .u8 (0 : Int), .int .u8 (0 : Int), .int .u8 (0 : Int), .int .u8 (0 : Int), .int .u8 (0 : Int), .int .u8 (0 : Int), .int .u8 (0 : Int), .int .u8 (0 : Int), .int .u8 (0 : Int), .int .u8 (0 : Int), .int .u8 (0 : Int), .int .u8 (0 : Int), .int .u8 (0 : Int), .int .u8 (0 : Int), .int .u8 (0 : Int), .slice none 0 0] st.1.1 st.1.2.1 st.1.2.2 1 (.int .u8 (2 : Int) :: (.int .i64 v0 :: (.int .i64 (0 : Int) :: (.int .i64 (0 : Int) :: (.int .i64 b0 :: (.int .i64 b1 :: (.slice tA tN tC :: (.int .i64 st_1.1 :: ((List.replicate 32 0).map (Value.int .u8) ++ (.int .i64 (0 : Int) :: (.int .i64 (0 : Int) :: ((List.replicate 32 0).map (Value.int .u8) ++ ((List.replicate 32 0).map (Value.int .u8) ++ ([.slice none 0 0] : List Value)))))))))))))) (fun outA outN outC h4 =>
              Jv ((outA, outN, outC), (IntKind.wrap .i64 (st.2.1 + (1 : Int))), ()) h4) h3) h2)) ∧
      (((decide (st.2.1 < ((v3N : Nat) : Int))) && (decide (((st.1.2.1 : Nat) : Int) < (4 : Int)))) = false →
        K (.slice st.1.1 st.1.2.1 st.1.2.2) h1))) ((none, 0, 0), i, ()) h
theorem F_ship_entries_eq {v0 : Int} {v1 : Int} {v2 : Int} {v3A : Option Addr} {v3N v3C : Nat} {v4 : Int} {v5A : Option Addr} {v5N v5C : Nat} {i : Int} {K : Value → PH → Prop} {h : PH} : @Eq Prop (F_ship_entries v0 v1 v2 v3A v3N v3C v4 v5A v5N v5C i K h) (denF Try.prog Try.f30 ⟨[2, 7, 46], [], [(0, ⟨[(5, .slice), (1, .int .i64)], [], []⟩)], [(16, ⟨[(6, .int .i64)], [], []⟩)]⟩ [.agg [.one (.int .i64 v0), .one (.int .i64 v1), .one (.int .i64 v2), .one (.slice v3A v3N v3C), .one (.int .i64 v4), .one (.slice v5A v5N v5C)], .v (.int .i64 i)] K h) := by
  kernel_rfl
theorem F_ship_entries_ok {v0 : Int} {v1 : Int} {v2 : Int} {v3A : Option Addr} {v3N v3C : Nat} {v4 : Int} {v5A : Option Addr} {v5N v5C : Nat} {i : Int}  {K : Value → PH → Prop} {h : PH} (hh : F_ship_entries v0 v1 v2 v3A v3N v3C v4 v5A v5N v5C i K h) : CallH Try.prog id_ship_entries [.agg #[.int .i64 v0, .int .i64 v1, .int .i64 v2, .slice v3A v3N v3C, .int .i64 v4, .slice v5A v5N v5C], .int .i64 i] K h :=
  denF_sound' Try.func30 (H := ⟨[2, 7, 46], [], [(0, ⟨[(5, .slice), (1, .int .i64)], [], []⟩)], [(16, ⟨[(6, .int .i64)], [], []⟩)]⟩) (xs := [.agg [.one (.int .i64 v0), .one (.int .i64 v1), .one (.int .i64 v2), .one (.slice v3A v3N v3C), .one (.int .i64 v4), .one (.slice v5A v5N v5C)], .v (.int .i64 i)]) (by kernel_rfl) (⟨⟨rfl, rfl, rfl, rfl, rfl, rfl, trivial⟩, rfl, trivial⟩) (den_of F_ship_entries_eq hh)

/- twinlock/ship.above -/
def F_ship_above (atv : Int) (than : Int) (K : Value → PH → Prop) (h : PH) : Prop :=
  K (.bool ((decide (than ≤ (9223372036854775743 : Int))) && (decide (atv > (IntKind.wrap .i64 (than + (64 : Int))))))) h
theorem F_ship_above_eq {atv : Int} {than : Int} {K : Value → PH → Prop} {h : PH} : @Eq Prop (F_ship_above atv than K h) (denF Try.prog Try.f31 ⟨[], [], [], []⟩ [.v (.int .i64 atv), .v (.int .i64 than)] K h) := by
  kernel_rfl
theorem F_ship_above_ok {atv : Int} {than : Int}  {K : Value → PH → Prop} {h : PH} (hh : F_ship_above atv than K h) : CallH Try.prog id_ship_above [.int .i64 atv, .int .i64 than] K h :=
  denF_sound' Try.func31 (H := ⟨[], [], [], []⟩) (xs := [.v (.int .i64 atv), .v (.int .i64 than)]) (by kernel_rfl) (⟨rfl, rfl, trivial⟩) (den_of F_ship_above_eq hh)


end TL

namespace TL
open Go Go.Proofs
/- twinlock/twinlocklaw20.ShipAnew -/
def F_law20_ShipAnew (r0 : Int) (r1 : Int) (r2A : Option Addr) (r2N r2C : Nat) (r3A : Option Addr) (r3N r3C : Nat) (r4A : Option Addr) (r4N r4C : Nat) (later0 : Int) (later1 : Int) (later2A : Option Addr) (later2N later2C : Nat) (later3A : Option Addr) (later3N later3C : Nat) (later4A : Option Addr) (later4N later4C : Nat) (ack : Int) (K : Value → PH → Prop) (h : PH) : Prop :=
  JoinP (T := Unit) (fun Jv =>
    CallH Try.prog id_law20_Great [.agg #[.int .i64 r0, .int .i64 r1, .slice r2A r2N r2C, .slice r3A r3N r3C, .slice r4A r4N r4C]] (fun v h2 =>
      ∃ t : Bool, v = .bool t ∧
      ((t = false →
          CallH Try.prog id_law20_Great [.agg #[.int .i64 later0, .int .i64 later1, .slice later2A later2N later2C, .slice later3A later3N later3C, .slice later4A later4N later4C]] (fun v_1 h3 =>
            ∃ t_1 : Bool, v_1 = .bool t_1 ∧
            ((t_1 = true →
                CallH Try.prog id_law20_wakes [] (fun v_2 h4 =>
                  ∃ t_2 : Bool, v_2 = .bool t_2 ∧
                  K (.bool t_2) h4) h3) ∧
              (t_1 = false →
                Jv (()) h3))) h2) ∧
        (t = true →
          CallH Try.prog id_law20_wakes [] (fun v_3 h5 =>
            ∃ t_3 : Bool, v_3 = .bool t_3 ∧
            K (.bool t_3) h5) h2))) h)
  (fun _ h1 =>
    CallH Try.prog id_law20_Made [.agg #[.int .i64 r0, .int .i64 r1, .slice r2A r2N r2C, .slice r3A r3N r3C, .slice r4A r4N r4C], .int .i64 (3 : Int)] (fun v_4 h6 =>
      ∃ v0 : Int, ∃ v1 : Int, ∃ v2 : Int, ∃ (v3A : Option Addr) (v3N v3C : Nat), ∃ v4 : Int, ∃ (v5A : Option Addr) (v5N v5C : Nat), v_4 = .agg #[.int .i64 v0, .int .i64 v1, .int .i64 v2, .slice v3A v3N v3C, .int .i64 v4, .slice v5A v5N v5C] ∧
      CallH Try.prog id_law20_Made [.agg #[.int .i64 later0, .int .i64 later1, .slice later2A later2N later2C, .slice later3A later3N later3C, .slice later4A later4N later4C], .int .i64 (3 : Int)] (fun v_5 h7 =>
        ∃ x0 : Int, ∃ x1 : Int, ∃ x2 : Int, ∃ (x3A : Option Addr) (x3N x3C : Nat), ∃ x4 : Int, ∃ (x5A : Option Addr) (x5N x5C : Nat), v_5 = .agg #[.int .i64 x0, .int .i64 x1, .int .i64 x2, .slice x3A x3N x3C, .int .i64 x4, .slice x5A x5N x5C] ∧
        CallH Try.prog id_ship_New [] (fun v_6 h8 =>
          ∃ sv : Option Addr, v_6 = .pointer sv ∧
          CallH Try.prog id_ship_Ship_Ack [.pointer sv, .agg ((.int .u8 (3 : Int) :: (.int .i64 (0 : Int) :: (.int .i64 (0 : Int) :: (.int .i64 (9 : Int) :: (.int .i64 (0 : Int) :: (.int .i64 (0 : Int) :: (.slice none 0 0 :: (.int .i64 (0 : Int) :: ((List.replicate 32 0).map (Value.int .u8) ++ (.int .i64 (0 : Int) :: (.int .i64 (0 : Int) :: ((List.replicate 32 0).map (Value.int .u8) ++ ((List.replicate 32 0).map (Value.int .u8) ++ ([.slice none 0 0] : List Value))))))))))))))).toArray] (fun v_7 h9 =>
            ∃ t_4 : Bool, v_7 = .bool t_4 ∧
            CallH Try.prog id_ship_Ship_Tick [.pointer sv, .agg #[.int .i64 v0, .int .i64 v1, .int .i64 v2, .slice v3A v3N v3C, .int .i64 v4, .slice v5A v5N v5C]] (fun v_8 h10 =>
              ∃ (tA : Option Addr) (tN tC : Nat), v_8 = .slice tA tN tC ∧
              CallH Try.prog id_ship_Ship_Ack [.pointer sv, .agg ((.int .u8 (3 : Int) :: (.int .i64 (0 : Int) :: (.int .i64 (IntKind.wrap .i64 (v1 + (IntKind.wrap .i64 (ack.tmod (40 : Int))))) :: (.int .i64 (1000 : Int) :: (.int .i64 (0 : Int) :: (.int .i64 (0 : Int) :: (.slice none 0 0 :: (.int .i64 (0 : Int) :: ((List.replicate 32 0).map (Value.int .u8) ++ (.int .i64 (0 : Int) :: (.int .i64 (0 : Int) :: ((List.replicate 32 0).map (Value.int .u8) ++ ((List.replicate 32 0).map (Value.int .u8) ++ ([.slice none 0 0] : List Value))))))))))))))).toArray] (fun v_9 h11 =>
                ∃ t_5 : Bool, v_9 = .bool t_5 ∧
                CallH Try.prog id_ship_Ship_Tick [.pointer sv, .agg #[.int .i64 x0, .int .i64 x1, .int .i64 x2, .slice x3A x3N x3C, .int .i64 x4, .slice x5A x5N x5C]] (fun v_10 h12 =>
                  ∃ (lA : Option Addr) (lN lC : Nat), v_10 = .slice lA lN lC ∧
                  CallH Try.prog id_tree_Of [.slice x5A x5N x5C] (fun v_11 h13 =>
                    ∃ t0 : Option Addr, ∃ t1 : Int, v_11 = .tuple #[.pointer t0, .int .i64 t1] ∧
                    ((((decide ((IntKind.wrap .i64 (v1 + (IntKind.wrap .i64 (ack.tmod (40 : Int))))) ≥ x1)) || (t1 != (0 : Int))) = true →
                        CallH Try.prog id_law20_wakes [] (fun v_12 h14 =>
                          ∃ t_6 : Bool, v_12 = .bool t_6 ∧
                          K (.bool t_6) h14) h13) ∧
                      (((decide ((IntKind.wrap .i64 (v1 + (IntKind.wrap .i64 (ack.tmod (40 : Int))))) ≥ x1)) || (t1 != (0 : Int))) = false →
                        ∃ bv ov : Nat, (((((lN : Nat) : Int) == (2 : Int)) = true → lA = some ⟨bv, ov, none⟩ ∧ 0 ≤ (1 : Int) ∧ (1 : Int) < (lN : Nat))) ∧
                        ∃ t_7 : Int, (((((lN : Nat) : Int) == (2 : Int)) = true → h13.rds bv (ov + (1 : Int).toNat * 107) 1 = some [.int .u8 t_7])) ∧
                        ∃ bv_1 ov_1 : Nat, ((((((lN : Nat) : Int) == (2 : Int)) && (t_7 == (4 : Int))) = true → lA = some ⟨bv_1, ov_1, none⟩ ∧ 0 ≤ (1 : Int) ∧ (1 : Int) < (lN : Nat))) ∧
                        ∃ t_8 : Int, ((((((lN : Nat) : Int) == (2 : Int)) && (t_7 == (4 : Int))) = true → h13.rds bv_1 ((ov_1 + (1 : Int).toNat * 107) + 2) 1 = some [.int .i64 t_8])) ∧
                        ∃ bv_2 ov_2 : Nat, (((((((lN : Nat) : Int) == (2 : Int)) && (t_7 == (4 : Int))) && (decide (t_8 > (IntKind.wrap .i64 (v1 + (IntKind.wrap .i64 (ack.tmod (40 : Int)))))))) = true → lA = some ⟨bv_2, ov_2, none⟩ ∧ 0 ≤ (1 : Int) ∧ (1 : Int) < (lN : Nat))) ∧
                        ∃ t_9 : Int, (((((((lN : Nat) : Int) == (2 : Int)) && (t_7 == (4 : Int))) && (decide (t_8 > (IntKind.wrap .i64 (v1 + (IntKind.wrap .i64 (ack.tmod (40 : Int)))))))) = true → h13.rds bv_2 ((ov_2 + (1 : Int).toNat * 107) + 2) 1 = some [.int .i64 t_9])) ∧
                        ((((((((lN : Nat) : Int) == (2 : Int)) && (t_7 == (4 : Int))) && (decide (t_8 > (IntKind.wrap .i64 (v1 + (IntKind.wrap .i64 (ack.tmod (40 : Int)))))))) && (t_9 == x1)) = true →
                            CallH Try.prog id_law20_wakes [] (fun v_13 h15 =>
                              ∃ t_10 : Bool, v_13 = .bool t_10 ∧
                              K (.bool t_10) h15) h13) ∧
                          (((((((lN : Nat) : Int) == (2 : Int)) && (t_7 == (4 : Int))) && (decide (t_8 > (IntKind.wrap .i64 (v1 + (IntKind.wrap .i64 (ack.tmod (40 : Int)))))))) && (t_9 == x1)) = false →
                            K (.bool false) h13))))) h12) h11) h10) h9) h8) h7) h6) h1)
theorem F_law20_ShipAnew_eq {r0 : Int} {r1 : Int} {r2A : Option Addr} {r2N r2C : Nat} {r3A : Option Addr} {r3N r3C : Nat} {r4A : Option Addr} {r4N r4C : Nat} {later0 : Int} {later1 : Int} {later2A : Option Addr} {later2N later2C : Nat} {later3A : Option Addr} {later3N later3C : Nat} {later4A : Option Addr} {later4N later4C : Nat} {ack : Int} {K : Value → PH → Prop} {h : PH} : @Eq Prop (F_law20_ShipAnew r0 r1 r2A r2N r2C r3A r3N r3C r4A r4N r4C later0 later1 later2A later2N later2C later3A later3N later3C later4A later4N later4C ack K h) (denF Try.prog Try.f3 ⟨[3, 4, 7, 8], [], [], [(8, ⟨[], [], []⟩)]⟩ [.agg [.one (.int .i64 r0), .one (.int .i64 r1), .one (.slice r2A r2N r2C), .one (.slice r3A r3N r3C), .one (.slice r4A r4N r4C)], .agg [.one (.int .i64 later0), .one (.int .i64 later1), .one (.slice later2A later2N later2C), .one (.slice later3A later3N later3C), .one (.slice later4A later4N later4C)], .v (.int .u8 ack)] K h) := by
  kernel_rfl
theorem F_law20_ShipAnew_ok {r0 : Int} {r1 : Int} {r2A : Option Addr} {r2N r2C : Nat} {r3A : Option Addr} {r3N r3C : Nat} {r4A : Option Addr} {r4N r4C : Nat} {later0 : Int} {later1 : Int} {later2A : Option Addr} {later2N later2C : Nat} {later3A : Option Addr} {later3N later3C : Nat} {later4A : Option Addr} {later4N later4C : Nat} {ack : Int}  {K : Value → PH → Prop} {h : PH} (hh : F_law20_ShipAnew r0 r1 r2A r2N r2C r3A r3N r3C r4A r4N r4C later0 later1 later2A later2N later2C later3A later3N later3C later4A later4N later4C ack K h) : CallH Try.prog id_law20_ShipAnew [.agg #[.int .i64 r0, .int .i64 r1, .slice r2A r2N r2C, .slice r3A r3N r3C, .slice r4A r4N r4C], .agg #[.int .i64 later0, .int .i64 later1, .slice later2A later2N later2C, .slice later3A later3N later3C, .slice later4A later4N later4C], .int .u8 ack] K h :=
  denF_sound' Try.func3 (H := ⟨[3, 4, 7, 8], [], [], [(8, ⟨[], [], []⟩)]⟩) (xs := [.agg [.one (.int .i64 r0), .one (.int .i64 r1), .one (.slice r2A r2N r2C), .one (.slice r3A r3N r3C), .one (.slice r4A r4N r4C)], .agg [.one (.int .i64 later0), .one (.int .i64 later1), .one (.slice later2A later2N later2C), .one (.slice later3A later3N later3C), .one (.slice later4A later4N later4C)], .v (.int .u8 ack)]) (by kernel_rfl) (⟨⟨rfl, rfl, rfl, rfl, rfl, trivial⟩, ⟨rfl, rfl, rfl, rfl, rfl, trivial⟩, rfl, trivial⟩) (den_of F_law20_ShipAnew_eq hh)

/- twinlock/twinlocklaw20.ShipOwn -/
set_option maxRecDepth 100000 in
def F_law20_ShipOwn (r0 : Int) (r1 : Int) (r2A : Option Addr) (r2N r2C : Nat) (r3A : Option Addr) (r3N r3C : Nat) (r4A : Option Addr) (r4N r4C : Nat) (fromv : Int) (K : Value → PH → Prop) (h : PH) : Prop :=
  JoinP (T := Unit) (fun Jv =>
    CallH Try.prog id_law20_Great [.agg #[.int .i64 r0, .int .i64 r1, .slice r2A r2N r2C, .slice r3A r3N r3C, .slice r4A r4N r4C]] (fun v h2 =>
      ∃ t : Bool, v = .bool t ∧
      ((t = false →
          CallH Try.prog id_law20_had [.agg #[.int .i64 r0, .int .i64 r1, .slice r2A r2N r2C, .slice r3A r3N r3C, .slice r4A r4N r4C]] (fun v_1 h3 =>
            ∃ t_1 : Bool, v_1 = .bool t_1 ∧
            ((t_1 = true →
                CallH Try.prog id_law20_wakes [] (fun v_2 h4 =>
                  ∃ t_2 : Bool, v_2 = .bool t_2 ∧
                  K (.bool t_2) h4) h3) ∧
              (t_1 = false →
                Jv (()) h3))) h2) ∧
        (t = true →
          CallH Try.prog id_law20_wakes [] (fun v_3 h5 =>
            ∃ t_3 : Bool, v_3 = .bool t_3 ∧
            K (.bool t_3) h5) h2))) h)
  (fun _ h1 =>
    CallH Try.prog id_law20_Made [.agg #[.int .i64 r0, .int .i64 r1, .slice r2A r2N r2C, .slice r3A r3N r3C, .slice r4A r4N r4C], .int .i64 (3 : Int)] (fun v_4 h6 =>
      ∃ v0 : Int, ∃ v1 : Int, ∃ v2 : Int, ∃ (v3A : Option Addr) (v3N v3C : Nat), ∃ v4 : Int, ∃ (v5A : Option Addr) (v5N v5C : Nat), v_4 = .agg #[.int .i64 v0, .int .i64 v1, .int .i64 v2, .slice v3A v3N v3C, .int .i64 v4, .slice v5A v5N v5C] ∧
      CallH Try.prog id_ship_New [] (fun v_5 h7 =>
        ∃ sv : Option Addr, v_5 = .pointer sv ∧
        JoinP (T := Int × Unit) (fun Jv_1 =>
          (((decide ((fromv.tmod (100 : Int)) < (0 : Int))) = true →
              Jv_1 ((IntKind.wrap .i64 (0 - (fromv.tmod (100 : Int)))), ()) h7) ∧
            ((decide ((fromv.tmod (100 : Int)) < (0 : Int))) = false →
              Jv_1 ((fromv.tmod (100 : Int)), ()) h7)))
        (fun st_1 h8 =>
          LoopP (T := Int × Unit) (fun Jv_2 st_2 h9 =>
            (((decide (st_2.1 < ((v3N : Nat) : Int))) = true →
                ∃ bv ov : Nat, (v3A = some ⟨bv, ov, none⟩ ∧ 0 ≤ st_2.1 ∧ st_2.1 < (v3N : Nat)) ∧
                ∃ t_4 : Int, (h9.rds bv (ov + st_2.1.toNat * 3) 1 = some [.int .i64 t_4]) ∧
                (((t_4 == st_1.1) = true →
                    ∃ bv_1 ov_1 : Nat, (v3A = some ⟨bv_1, ov_1, none⟩ ∧ 0 ≤ st_2.1 ∧ st_2.1 < (v3N : Nat)) ∧
                    ∃ t_5 : Int, (h9.rds bv_1 ((ov_1 + st_2.1.toNat * 3) + 1) 1 = some [.int .i64 t_5]) ∧
                    CallH Try.prog id_ship_Ship_Ack [.pointer sv, .agg ((.int .u8 (3 : Int) :: (.int .i64 (0 : Int) :: (.int .i64 st_1.1 :: (.int .i64 t_5 :: (.int .i64 (0 : Int) :: (.int .i64 (0 : Int) :: (.slice none 0 0 :: (.int .i64 (0 : Int) :: ((List.replicate 32 0).map (Value.int .u8) ++ (.int .i64 (0 : Int) :: (.int .i64 (0 : Int) :: ((List.replicate 32 0).map (Value.int .u8) ++ ((List.replicate 32 0).map (Value.int .u8) ++ ([.slice none 0 0] : List Value))))))))))))))).toArray] (fun v_6 h10 =>
                      ∃ t_6 : Bool, v_6 = .bool t_6 ∧
                      Jv_2 ((IntKind.wrap .i64 (st_2.1 + (1 : Int))), ()) h10) h9) ∧
                  ((t_4 == st_1.1) = false →
                    Jv_2 ((IntKind.wrap .i64 (st_2.1 + (1 : Int))), ()) h9))) ∧
              ((decide (st_2.1 < ((v3N : Nat) : Int))) = false →
                CallH Try.prog id_ship_Ship_Tick [.pointer sv, .agg #[.int .i64 v0, .int .i64 v1, .int .i64 v2, .slice v3A v3N v3C, .int .i64 v4, .slice v5A v5N v5C]] (fun v_7 h11 =>
                  ∃ (aA : Option Addr) (aN aC : Nat), v_7 = .slice aA aN aC ∧
                  LoopP (T := Int × Unit) (fun Jv_3 st_3 h12 =>
                    (((decide (st_3.1 < ((aN : Nat) : Int))) = true →
                        LoopP (T := Int × Unit) (fun Jv_4 st_4 h13 =>
                          ∃ bv_2 ov_2 : Nat, (aA = some ⟨bv_2, ov_2, none⟩ ∧ 0 ≤ st_3.1 ∧ st_3.1 < (aN : Nat)) ∧
                          ∃ (tA : Option Addr) (tN tC : Nat), (h13.rds bv_2 (((ov_2 + st_3.1.toNat * 107) + 4) + 2) 1 = some [.slice tA tN tC]) ∧
                          (((decide (st_4.1 < ((tN : Nat) : Int))) = true →
                              ∃ bv_3 ov_3 : Nat, (aA = some ⟨bv_3, ov_3, none⟩ ∧ 0 ≤ st_3.1 ∧ st_3.1 < (aN : Nat)) ∧
                              ∃ (tA_1 : Option Addr) (tN_1 tC_1 : Nat), (h13.rds bv_3 (((ov_3 + st_3.1.toNat * 107) + 4) + 2) 1 = some [.slice tA_1 tN_1 tC_1]) ∧
                              ∃ bv_4 ov_4 : Nat, (tA_1 = some ⟨bv_4, ov_4, none⟩ ∧ 0 ≤ st_4.1 ∧ st_4.1 < (tN_1 : Nat)) ∧
                              stH h13 bv_4 ((ov_4 + st_4.1.toNat * 3) + 1) [.string (⟨#[119, 114, 105, 116, 116, 101, 110, 32, 111, 118, 101, 114]⟩ : ByteArray)] fun h14 =>
                              Jv_4 ((IntKind.wrap .i64 (st_4.1 + (1 : Int))), ()) h14) ∧
                            ((decide (st_4.1 < ((tN : Nat) : Int))) = false →
                              Jv_3 ((IntKind.wrap .i64 (st_3.1 + (1 : Int))), ()) h13))) ((0 : Int), ()) h12) ∧
                      ((decide (st_3.1 < ((aN : Nat) : Int))) = false →
                        CallH Try.prog id_law20_Made [.agg #[.int .i64 r0, .int .i64 r1, .slice r2A r2N r2C, .slice r3A r3N r3C, .slice r4A r4N r4C], .int .i64 (3 : Int)] (fun v_8 h15 =>
                          ∃ t0 : Int, ∃ t1 : Int, ∃ t2 : Int, ∃ (t3A : Option Addr) (t3N t3C : Nat), ∃ t4 : Int, ∃ (t5A : Option Addr) (t5N t5C : Nat), v_8 = .agg #[.int .i64 t0, .int .i64 t1, .int .i64 t2, .slice t3A t3N t3C, .int .i64 t4, .slice t5A t5N t5C] ∧
                          CallH Try.prog id_ship_Ship_Tick [.pointer sv, .agg #[.int .i64 t0, .int .i64 t1, .int .i64 t2, .slice t3A t3N t3C, .int .i64 t4, .slice t5A t5N t5C]] (fun v_9 h16 =>
                            ∃ (bA : Option Addr) (bN bC : Nat), v_9 = .slice bA bN bC ∧
                            (((((aN : Nat) : Int) != ((bN : Nat) : Int)) = true →
                                K (.bool false) h16) ∧
                              ((((aN : Nat) : Int) != ((bN : Nat) : Int)) = false →
                                LoopP (T := Int × Unit) (fun Jv_5 st_5 h17 =>
                                  ((((decide (st_5.1 < ((v3N : Nat) : Int))) && (decide (st_5.1 < ((r2N : Nat) : Int)))) = true →
                                      LoopP (T := Int × Unit) (fun Jv_6 st_6 h18 =>
                                        ∃ bv_5 ov_5 : Nat, (r2A = some ⟨bv_5, ov_5, none⟩ ∧ 0 ≤ st_5.1 ∧ st_5.1 < (r2N : Nat)) ∧
                                        ∃ (tA_2 : Option Addr) (tN_2 tC_2 : Nat), (h18.rds bv_5 (ov_5 + st_5.1.toNat * 1) 1 = some [.slice tA_2 tN_2 tC_2]) ∧
                                        (((decide (st_6.1 < ((tN_2 : Nat) : Int))) = true →
                                            ∃ bv_6 ov_6 : Nat, (r2A = some ⟨bv_6, ov_6, none⟩ ∧ 0 ≤ st_5.1 ∧ st_5.1 < (r2N : Nat)) ∧
                                            ∃ (tA_3 : Option Addr) (tN_3 tC_3 : Nat), (h18.rds bv_6 (ov_6 + st_5.1.toNat * 1) 1 = some [.slice tA_3 tN_3 tC_3]) ∧
                                            ∃ bv_7 ov_7 : Nat, (tA_3 = some ⟨bv_7, ov_7, none⟩ ∧ 0 ≤ st_6.1 ∧ st_6.1 < (tN_3 : Nat)) ∧
                                            ∃ t_7 : ByteArray, (h18.rds bv_7 ((ov_7 + st_6.1.toNat * 3) + 1) 1 = some [.string t_7]) ∧
                                            (((strEq t_7 (⟨#[119, 114, 105, 116, 116, 101, 110, 32, 111, 118, 101, 114]⟩ : ByteArray)) = true →
                                                K (.bool false) h18) ∧
                                              ((strEq t_7 (⟨#[119, 114, 105, 116, 116, 101, 110, 32, 111, 118, 101, 114]⟩ : ByteArray)) = false →
                                                Jv_6 ((IntKind.wrap .i64 (st_6.1 + (1 : Int))), ()) h18))) ∧
                                          ((decide (st_6.1 < ((tN_2 : Nat) : Int))) = false →
                                            Jv_5 ((IntKind.wrap .i64 (st_5.1 + (1 : Int))), ()) h18))) ((0 : Int), ()) h17) ∧
                                    (((decide (st_5.1 < ((v3N : Nat) : Int))) && (decide (st_5.1 < ((r2N : Nat) : Int)))) = false →
                                      CallH Try.prog id_law20_wakes [] (fun v_10 h19 =>
                                        ∃ t_8 : Bool, v_10 = .bool t_8 ∧
                                        K (.bool t_8) h19) h17))) ((0 : Int), ()) h16))) h15) h12))) ((0 : Int), ()) h11) h9))) ((0 : Int), ()) h8)) h6) h1)
set_option maxRecDepth 100000 in
theorem F_law20_ShipOwn_eq {r0 : Int} {r1 : Int} {r2A : Option Addr} {r2N r2C : Nat} {r3A : Option Addr} {r3N r3C : Nat} {r4A : Option Addr} {r4N r4C : Nat} {fromv : Int} {K : Value → PH → Prop} {h : PH} : @Eq Prop (F_law20_ShipOwn r0 r1 r2A r2N r2C r3A r3N r3C r4A r4N r4C fromv K h) (denF Try.prog Try.f4 ⟨[2, 5], [], [(0, ⟨[(8, .int .i64)], [], []⟩), (2, ⟨[(10, .int .i64)], [], []⟩), (4, ⟨[(11, .int .i64)], [], []⟩), (6, ⟨[(13, .int .i64)], [], []⟩), (8, ⟨[(14, .int .i64)], [], []⟩)], [(8, ⟨[], [], []⟩), (18, ⟨[(7, .int .i64)], [], []⟩)]⟩ [.agg [.one (.int .i64 r0), .one (.int .i64 r1), .one (.slice r2A r2N r2C), .one (.slice r3A r3N r3C), .one (.slice r4A r4N r4C)], .v (.int .i64 fromv)] K h) := by
  kernel_rfl
theorem F_law20_ShipOwn_ok {r0 : Int} {r1 : Int} {r2A : Option Addr} {r2N r2C : Nat} {r3A : Option Addr} {r3N r3C : Nat} {r4A : Option Addr} {r4N r4C : Nat} {fromv : Int}  {K : Value → PH → Prop} {h : PH} (hh : F_law20_ShipOwn r0 r1 r2A r2N r2C r3A r3N r3C r4A r4N r4C fromv K h) : CallH Try.prog id_law20_ShipOwn [.agg #[.int .i64 r0, .int .i64 r1, .slice r2A r2N r2C, .slice r3A r3N r3C, .slice r4A r4N r4C], .int .i64 fromv] K h :=
  denF_sound' Try.func4 (H := ⟨[2, 5], [], [(0, ⟨[(8, .int .i64)], [], []⟩), (2, ⟨[(10, .int .i64)], [], []⟩), (4, ⟨[(11, .int .i64)], [], []⟩), (6, ⟨[(13, .int .i64)], [], []⟩), (8, ⟨[(14, .int .i64)], [], []⟩)], [(8, ⟨[], [], []⟩), (18, ⟨[(7, .int .i64)], [], []⟩)]⟩) (xs := [.agg [.one (.int .i64 r0), .one (.int .i64 r1), .one (.slice r2A r2N r2C), .one (.slice r3A r3N r3C), .one (.slice r4A r4N r4C)], .v (.int .i64 fromv)]) (by kernel_rfl) (⟨⟨rfl, rfl, rfl, rfl, rfl, trivial⟩, rfl, trivial⟩) (den_of F_law20_ShipOwn_eq hh)

/- twinlock/twinlocklaw20.ShipGoes -/
set_option maxRecDepth 100000 in
def F_law20_ShipGoes (r0 : Int) (r1 : Int) (r2A : Option Addr) (r2N r2C : Nat) (r3A : Option Addr) (r3N r3C : Nat) (r4A : Option Addr) (r4N r4C : Nat) (fromv : Int) (K : Value → PH → Prop) (h : PH) : Prop :=
  CallH Try.prog id_law20_Great [.agg #[.int .i64 r0, .int .i64 r1, .slice r2A r2N r2C, .slice r3A r3N r3C, .slice r4A r4N r4C]] (fun v h1 =>
    ∃ t : Bool, v = .bool t ∧
    ((t = true →
        CallH Try.prog id_law20_wakes [] (fun v_1 h2 =>
          ∃ t_1 : Bool, v_1 = .bool t_1 ∧
          K (.bool t_1) h2) h1) ∧
      (t = false →
        CallH Try.prog id_law20_Made [.agg #[.int .i64 r0, .int .i64 r1, .slice r2A r2N r2C, .slice r3A r3N r3C, .slice r4A r4N r4C], .int .i64 (3 : Int)] (fun v_2 h3 =>
          ∃ v0 : Int, ∃ v1 : Int, ∃ v2 : Int, ∃ (v3A : Option Addr) (v3N v3C : Nat), ∃ v4 : Int, ∃ (v5A : Option Addr) (v5N v5C : Nat), v_2 = .agg #[.int .i64 v0, .int .i64 v1, .int .i64 v2, .slice v3A v3N v3C, .int .i64 v4, .slice v5A v5N v5C] ∧
          JoinP (T := Int × Unit) (fun Jv =>
            (((decide (((v3N : Nat) : Int) > (0 : Int))) = true →
                ((IntKind.wrap .i64 (((v3N : Nat) : Int) + (1 : Int))) ≠ 0) ∧
                (((decide ((fromv.tmod (IntKind.wrap .i64 (((v3N : Nat) : Int) + (1 : Int)))) < (0 : Int))) = true →
                    Jv ((IntKind.wrap .i64 ((IntKind.wrap .i64 ((fromv.tmod (IntKind.wrap .i64 (((v3N : Nat) : Int) + (1 : Int)))) + ((v3N : Nat) : Int))) + (1 : Int))), ()) h3) ∧
                  ((decide ((fromv.tmod (IntKind.wrap .i64 (((v3N : Nat) : Int) + (1 : Int)))) < (0 : Int))) = false →
                    Jv ((fromv.tmod (IntKind.wrap .i64 (((v3N : Nat) : Int) + (1 : Int)))), ()) h3))) ∧
              ((decide (((v3N : Nat) : Int) > (0 : Int))) = false →
                Jv ((0 : Int), ()) h3)))
          (fun st h4 =>
            JoinP (T := Int × Unit) (fun Jv_1 =>
              (((decide (st.1 > (0 : Int))) = true →
                  ∃ bv ov : Nat, (v3A = some ⟨bv, ov, none⟩ ∧ 0 ≤ (IntKind.wrap .i64 (st.1 - (1 : Int))) ∧ (IntKind.wrap .i64 (st.1 - (1 : Int))) < (v3N : Nat)) ∧
                  ∃ epoch : Int, (h4.rds bv ((ov + (IntKind.wrap .i64 (st.1 - (1 : Int))).toNat * 3) + 1) 1 = some [.int .i64 epoch]) ∧
                  Jv_1 (epoch, ()) h4) ∧
                ((decide (st.1 > (0 : Int))) = false →
                  Jv_1 (v4, ()) h4)))
            (fun st_1 h5 =>
              CallH Try.prog id_ship_New [] (fun v_3 h6 =>
                ∃ sv : Option Addr, v_3 = .pointer sv ∧
                LoopP (T := Int × Int × Int × Unit) (fun Jv_2 st_2 h7 =>
                  (((decide (st_2.2.2.1 ≤ (IntKind.wrap .i64 ((IntKind.wrap .i64 (((v3N : Nat) : Int).tdiv (4 : Int))) + (1 : Int))))) = true →
                      JoinP (T := Unit) (fun Jv_3 =>
                        CallH Try.prog id_ship_Has [.agg #[.int .i64 v0, .int .i64 v1, .int .i64 v2, .slice v3A v3N v3C, .int .i64 v4, .slice v5A v5N v5C], .int .i64 st_2.1, .int .i64 st_2.2.1] (fun v_4 h9 =>
                          ∃ t_2 : Bool, v_4 = .bool t_2 ∧
                          (((!t_2) = false →
                              CallH Try.prog id_ship_Ship_Ack [.pointer sv, .agg ((.int .u8 (3 : Int) :: (.int .i64 (0 : Int) :: (.int .i64 st_2.1 :: (.int .i64 st_2.2.1 :: (.int .i64 (0 : Int) :: (.int .i64 (0 : Int) :: (.slice none 0 0 :: (.int .i64 (0 : Int) :: ((List.replicate 32 0).map (Value.int .u8) ++ (.int .i64 (0 : Int) :: (.int .i64 (0 : Int) :: ((List.replicate 32 0).map (Value.int .u8) ++ ((List.replicate 32 0).map (Value.int .u8) ++ ([.slice none 0 0] : List Value))))))))))))))).toArray] (fun v_5 h10 =>
                                ∃ t_3 : Bool, v_5 = .bool t_3 ∧
                                (((!t_3) = true →
                                    K (.bool false) h10) ∧
                                  ((!t_3) = false →
                                    Jv_3 (()) h10))) h9) ∧
                            ((!t_2) = true →
                              K (.bool false) h9))) h7)
                      (fun _ h8 =>
                        CallH Try.prog id_ship_Ship_Tick [.pointer sv, .agg #[.int .i64 v0, .int .i64 v1, .int .i64 v2, .slice v3A v3N v3C, .int .i64 v4, .slice v5A v5N v5C]] (fun v_6 h11 =>
                          ∃ (lA : Option Addr) (lN lC : Nat), v_6 = .slice lA lN lC ∧
                          ∃ bv_1 ov_1 : Nat, (((((lN : Nat) : Int) == (0 : Int)) = false → lA = some ⟨bv_1, ov_1, none⟩ ∧ 0 ≤ (0 : Int) ∧ (0 : Int) < (lN : Nat))) ∧
                          ∃ t_4 : Int, (((((lN : Nat) : Int) == (0 : Int)) = false → h11.rds bv_1 (ov_1 + (0 : Int).toNat * 107) 1 = some [.int .u8 t_4])) ∧
                          (((((((lN : Nat) : Int) == (0 : Int)) || (t_4 != (1 : Int))) || (decide (((lN : Nat) : Int) > (5 : Int)))) = true →
                              K (.bool false) h11) ∧
                            ((((((lN : Nat) : Int) == (0 : Int)) || (t_4 != (1 : Int))) || (decide (((lN : Nat) : Int) > (5 : Int)))) = false →
                              LoopP (T := Int × Int × Int × Unit) (fun Jv_4 st_4 h12 =>
                                (((decide (st_4.2.2.1 < ((lN : Nat) : Int))) = true →
                                    ∃ bv_2 ov_2 : Nat, (lA = some ⟨bv_2, ov_2, none⟩ ∧ 0 ≤ st_4.2.2.1 ∧ st_4.2.2.1 < (lN : Nat)) ∧
                                    ∃ t_5 : Int, (h12.rds bv_2 (ov_2 + st_4.2.2.1.toNat * 107) 1 = some [.int .u8 t_5]) ∧
                                    ∃ bv_3 ov_3 : Nat, (((t_5 != (2 : Int)) = false → lA = some ⟨bv_3, ov_3, none⟩ ∧ 0 ≤ st_4.2.2.1 ∧ st_4.2.2.1 < (lN : Nat))) ∧
                                    ∃ t_6 : Int, (((t_5 != (2 : Int)) = false → h12.rds bv_3 ((ov_3 + st_4.2.2.1.toNat * 107) + 1) 1 = some [.int .i64 t_6])) ∧
                                    ∃ bv_4 ov_4 : Nat, ((((t_5 != (2 : Int)) || (t_6 != (3 : Int))) = false → lA = some ⟨bv_4, ov_4, none⟩ ∧ 0 ≤ st_4.2.2.1 ∧ st_4.2.2.1 < (lN : Nat))) ∧
                                    ∃ t_7 : Int, ((((t_5 != (2 : Int)) || (t_6 != (3 : Int))) = false → h12.rds bv_4 ((ov_4 + st_4.2.2.1.toNat * 107) + 7) 1 = some [.int .i64 t_7])) ∧
                                    ∃ bv_5 ov_5 : Nat, (((((t_5 != (2 : Int)) || (t_6 != (3 : Int))) || (t_7 != st_4.2.1)) = false → lA = some ⟨bv_5, ov_5, none⟩ ∧ 0 ≤ st_4.2.2.1 ∧ st_4.2.2.1 < (lN : Nat))) ∧
                                    ∃ t_8 : Int, (((((t_5 != (2 : Int)) || (t_6 != (3 : Int))) || (t_7 != st_4.2.1)) = false → h12.rds bv_5 ((ov_5 + st_4.2.2.1.toNat * 107) + 4) 1 = some [.int .i64 t_8])) ∧
                                    ((((((t_5 != (2 : Int)) || (t_6 != (3 : Int))) || (t_7 != st_4.2.1)) || (t_8 != (IntKind.wrap .i64 (st_4.1 + (1 : Int))))) = true →
                                        K (.bool false) h12) ∧
                                      (((((t_5 != (2 : Int)) || (t_6 != (3 : Int))) || (t_7 != st_4.2.1)) || (t_8 != (IntKind.wrap .i64 (st_4.1 + (1 : Int))))) = false →
                                        ∃ bv_6 ov_6 : Nat, (lA = some ⟨bv_6, ov_6, none⟩ ∧ 0 ≤ st_4.2.2.1 ∧ st_4.2.2.1 < (lN : Nat)) ∧
                                        ∃ atv : Int, (h12.rds bv_6 ((ov_6 + st_4.2.2.1.toNat * 107) + 4) 1 = some [.int .i64 atv]) ∧
                                        ∃ bv_7 ov_7 : Nat, (lA = some ⟨bv_7, ov_7, none⟩ ∧ 0 ≤ st_4.2.2.1 ∧ st_4.2.2.1 < (lN : Nat)) ∧
                                        ∃ epoch_1 : Int, (h12.rds bv_7 (((ov_7 + st_4.2.2.1.toNat * 107) + 4) + 1) 1 = some [.int .i64 epoch_1]) ∧
                                        Jv_4 (atv, epoch_1, (IntKind.wrap .i64 (st_4.2.2.1 + (1 : Int))), ()) h12))) ∧
                                  ((decide (st_4.2.2.1 < ((lN : Nat) : Int))) = false →
                                    Jv_2 (st_4.1, st_4.2.1, (IntKind.wrap .i64 (st_2.2.2.1 + (1 : Int))), ()) h12))) (st_2.1, st_2.2.1, (1 : Int), ()) h11))) h8)) ∧
                    ((decide (st_2.2.2.1 ≤ (IntKind.wrap .i64 ((IntKind.wrap .i64 (((v3N : Nat) : Int).tdiv (4 : Int))) + (1 : Int))))) = false →
                      CallH Try.prog id_ship_Ship_Copy [.pointer sv] (fun v_7 h13 =>
                        ∃ t0 : Int, ∃ t1 : List Int, t1.length = 32 ∧ ∃ t2 : Bool, v_7 = .tuple #[.int .i64 t0, .agg ((t1.map (Value.int .u8) ++ [])).toArray, .bool t2] ∧
                        (((((st_2.1 == v1) && (st_2.2.1 == v2)) && (!t2)) = true →
                            CallH Try.prog id_law20_wakes [] (fun v_8 h14 =>
                              ∃ t_9 : Bool, v_8 = .bool t_9 ∧
                              K (.bool t_9) h14) h13) ∧
                          ((((st_2.1 == v1) && (st_2.2.1 == v2)) && (!t2)) = false →
                            K (.bool false) h13))) h7))) ((IntKind.wrap .i64 ((IntKind.wrap .i64 (v1 - ((v3N : Nat) : Int))) + st.1)), st_1.1, (0 : Int), ()) h6) h5))) h1))) h
set_option maxRecDepth 100000 in
theorem F_law20_ShipGoes_eq {r0 : Int} {r1 : Int} {r2A : Option Addr} {r2N r2C : Nat} {r3A : Option Addr} {r3N r3C : Nat} {r4A : Option Addr} {r4N r4C : Nat} {fromv : Int} {K : Value → PH → Prop} {h : PH} : @Eq Prop (F_law20_ShipGoes r0 r1 r2A r2N r2C r3A r3N r3C r4A r4N r4C fromv K h) (denF Try.prog Try.f5 ⟨[2, 5, 14], [], [(0, ⟨[(7, .int .i64), (8, .int .i64), (10, .int .i64)], [], []⟩), (2, ⟨[(7, .int .i64), (8, .int .i64), (12, .int .i64)], [], []⟩)], [(20, ⟨[(6, .int .i64)], [], []⟩), (28, ⟨[(8, .int .i64)], [], []⟩), (40, ⟨[], [], []⟩)]⟩ [.agg [.one (.int .i64 r0), .one (.int .i64 r1), .one (.slice r2A r2N r2C), .one (.slice r3A r3N r3C), .one (.slice r4A r4N r4C)], .v (.int .i64 fromv)] K h) := by
  kernel_rfl
theorem F_law20_ShipGoes_ok {r0 : Int} {r1 : Int} {r2A : Option Addr} {r2N r2C : Nat} {r3A : Option Addr} {r3N r3C : Nat} {r4A : Option Addr} {r4N r4C : Nat} {fromv : Int}  {K : Value → PH → Prop} {h : PH} (hh : F_law20_ShipGoes r0 r1 r2A r2N r2C r3A r3N r3C r4A r4N r4C fromv K h) : CallH Try.prog id_law20_ShipGoes [.agg #[.int .i64 r0, .int .i64 r1, .slice r2A r2N r2C, .slice r3A r3N r3C, .slice r4A r4N r4C], .int .i64 fromv] K h :=
  denF_sound' Try.func5 (H := ⟨[2, 5, 14], [], [(0, ⟨[(7, .int .i64), (8, .int .i64), (10, .int .i64)], [], []⟩), (2, ⟨[(7, .int .i64), (8, .int .i64), (12, .int .i64)], [], []⟩)], [(20, ⟨[(6, .int .i64)], [], []⟩), (28, ⟨[(8, .int .i64)], [], []⟩), (40, ⟨[], [], []⟩)]⟩) (xs := [.agg [.one (.int .i64 r0), .one (.int .i64 r1), .one (.slice r2A r2N r2C), .one (.slice r3A r3N r3C), .one (.slice r4A r4N r4C)], .v (.int .i64 fromv)]) (by kernel_rfl) (⟨⟨rfl, rfl, rfl, rfl, rfl, trivial⟩, rfl, trivial⟩) (den_of F_law20_ShipGoes_eq hh)

/- twinlock/twinlocklaw20.ShipQuiet -/
set_option maxRecDepth 100000 in
def F_law20_ShipQuiet (r0 : Int) (r1 : Int) (r2A : Option Addr) (r2N r2C : Nat) (r3A : Option Addr) (r3N r3C : Nat) (r4A : Option Addr) (r4N r4C : Nat) (lA : Option Addr) (lN _ : Nat) (kind : Int) (atv : Int) (K : Value → PH → Prop) (h : PH) : Prop :=
  CallH Try.prog id_law20_Great [.agg #[.int .i64 r0, .int .i64 r1, .slice r2A r2N r2C, .slice r3A r3N r3C, .slice r4A r4N r4C]] (fun v h1 =>
    ∃ t : Bool, v = .bool t ∧
    (((t || (decide (((lN : Nat) : Int) > (150 : Int)))) = true →
        CallH Try.prog id_law20_wakes [] (fun v_1 h2 =>
          ∃ t_1 : Bool, v_1 = .bool t_1 ∧
          K (.bool t_1) h2) h1) ∧
      ((t || (decide (((lN : Nat) : Int) > (150 : Int)))) = false →
        CallH Try.prog id_law20_Made [.agg #[.int .i64 r0, .int .i64 r1, .slice r2A r2N r2C, .slice r3A r3N r3C, .slice r4A r4N r4C], .int .i64 (3 : Int)] (fun v_2 h3 =>
          ∃ v0 : Int, ∃ v1 : Int, ∃ v2 : Int, ∃ (v3A : Option Addr) (v3N v3C : Nat), ∃ v4 : Int, ∃ (v5A : Option Addr) (v5N v5C : Nat), v_2 = .agg #[.int .i64 v0, .int .i64 v1, .int .i64 v2, .slice v3A v3N v3C, .int .i64 v4, .slice v5A v5N v5C] ∧
          CallH Try.prog id_ship_New [] (fun v_3 h4 =>
            ∃ sv : Option Addr, v_3 = .pointer sv ∧
            CallH Try.prog id_ship_New [] (fun v_4 h5 =>
              ∃ u : Option Addr, v_4 = .pointer u ∧
              LoopP (T := Int × Unit) (fun Jv st h6 =>
                (((decide (st.1 < ((lN : Nat) : Int))) = true →
                    ∃ bv ov : Nat, (lA = some ⟨bv, ov, none⟩ ∧ 0 ≤ st.1 ∧ st.1 < (lN : Nat)) ∧
                    ∃ t_2 : Int, (h6.rds bv (ov + st.1.toNat * 6) 1 = some [.int .u8 t_2]) ∧
                    (((t_2 == (0 : Int)) = true →
                        ∃ bv_1 ov_1 : Nat, (lA = some ⟨bv_1, ov_1, none⟩ ∧ 0 ≤ st.1 ∧ st.1 < (lN : Nat)) ∧
                        ∃ t_3 : Int, (h6.rds bv_1 ((ov_1 + st.1.toNat * 6) + 1) 1 = some [.int .i64 t_3]) ∧
                        ∃ bv_2 ov_2 : Nat, (lA = some ⟨bv_2, ov_2, none⟩ ∧ 0 ≤ st.1 ∧ st.1 < (lN : Nat)) ∧
                        ∃ t_4 : Int, (h6.rds bv_2 ((ov_2 + st.1.toNat * 6) + 2) 1 = some [.int .i64 t_4]) ∧
                        CallH Try.prog id_ship_Ship_Ack [.pointer sv, .agg ((.int .u8 (3 : Int) :: (.int .i64 (0 : Int) :: (.int .i64 t_3 :: (.int .i64 t_4 :: (.int .i64 (0 : Int) :: (.int .i64 (0 : Int) :: (.slice none 0 0 :: (.int .i64 (0 : Int) :: ((List.replicate 32 0).map (Value.int .u8) ++ (.int .i64 (0 : Int) :: (.int .i64 (0 : Int) :: ((List.replicate 32 0).map (Value.int .u8) ++ ((List.replicate 32 0).map (Value.int .u8) ++ ([.slice none 0 0] : List Value))))))))))))))).toArray] (fun v_5 h7 =>
                          ∃ t_5 : Bool, v_5 = .bool t_5 ∧
                          CallH Try.prog id_ship_Ship_Ack [.pointer u, .agg ((.int .u8 (3 : Int) :: (.int .i64 (0 : Int) :: (.int .i64 t_3 :: (.int .i64 t_4 :: (.int .i64 (0 : Int) :: (.int .i64 (0 : Int) :: (.slice none 0 0 :: (.int .i64 (0 : Int) :: ((List.replicate 32 0).map (Value.int .u8) ++ (.int .i64 (0 : Int) :: (.int .i64 (0 : Int) :: ((List.replicate 32 0).map (Value.int .u8) ++ ((List.replicate 32 0).map (Value.int .u8) ++ ([.slice none 0 0] : List Value))))))))))))))).toArray] (fun v_6 h8 =>
                            ∃ t_6 : Bool, v_6 = .bool t_6 ∧
                            (((!(t_5 == t_6)) = true →
                                K (.bool false) h8) ∧
                              ((!(t_5 == t_6)) = false →
                                Jv ((IntKind.wrap .i64 (st.1 + (1 : Int))), ()) h8))) h7) h6) ∧
                      ((t_2 == (0 : Int)) = false →
                        (((t_2 == (1 : Int)) = true →
                            CallH Try.prog id_ship_Ship_Tick [.pointer sv, .agg #[.int .i64 v0, .int .i64 v1, .int .i64 v2, .slice v3A v3N v3C, .int .i64 v4, .slice v5A v5N v5C]] (fun v_7 h9 =>
                              ∃ (tA : Option Addr) (tN tC : Nat), v_7 = .slice tA tN tC ∧
                              CallH Try.prog id_ship_Ship_Tick [.pointer u, .agg #[.int .i64 v0, .int .i64 v1, .int .i64 v2, .slice v3A v3N v3C, .int .i64 v4, .slice v5A v5N v5C]] (fun v_8 h10 =>
                                ∃ (tA_1 : Option Addr) (tN_1 tC_1 : Nat), v_8 = .slice tA_1 tN_1 tC_1 ∧
                                CallH Try.prog id_ref20_SameAll [.slice tA tN tC, .slice tA_1 tN_1 tC_1] (fun v_9 h11 =>
                                  ∃ t_7 : Bool, v_9 = .bool t_7 ∧
                                  (((!t_7) = true →
                                      K (.bool false) h11) ∧
                                    ((!t_7) = false →
                                      Jv ((IntKind.wrap .i64 (st.1 + (1 : Int))), ()) h11))) h10) h9) h6) ∧
                          ((t_2 == (1 : Int)) = false →
                            ∃ bv_3 ov_3 : Nat, (lA = some ⟨bv_3, ov_3, none⟩ ∧ 0 ≤ st.1 ∧ st.1 < (lN : Nat)) ∧
                            ∃ t_8 : Int, (h6.rds bv_3 ((ov_3 + st.1.toNat * 6) + 1) 1 = some [.int .i64 t_8]) ∧
                            ∃ bv_4 ov_4 : Nat, (lA = some ⟨bv_4, ov_4, none⟩ ∧ 0 ≤ st.1 ∧ st.1 < (lN : Nat)) ∧
                            ∃ t_9 : Int, (h6.rds bv_4 ((ov_4 + st.1.toNat * 6) + 3) 1 = some [.int .i64 t_9]) ∧
                            ∃ bv_5 ov_5 : Nat, (lA = some ⟨bv_5, ov_5, none⟩ ∧ 0 ≤ st.1 ∧ st.1 < (lN : Nat)) ∧
                            ∃ t_10 : Int, (h6.rds bv_5 ((ov_5 + st.1.toNat * 6) + 4) 1 = some [.int .i64 t_10]) ∧
                            CallH Try.prog id_ship_Ship_Ask [.pointer u, .agg ((.int .u8 (5 : Int) :: (.int .i64 (0 : Int) :: (.int .i64 t_8 :: (.int .i64 (0 : Int) :: (.int .i64 (0 : Int) :: (.int .i64 (0 : Int) :: (.slice none 0 0 :: (.int .i64 (0 : Int) :: ((List.replicate 32 0).map (Value.int .u8) ++ (.int .i64 t_9 :: (.int .i64 t_10 :: ((List.replicate 32 0).map (Value.int .u8) ++ ((List.replicate 32 0).map (Value.int .u8) ++ ([.slice none 0 0] : List Value))))))))))))))).toArray, .int .i64 (3 : Int)] (fun v_10 h12 =>
                              ∃ t00 : Int, ∃ t01 : Int, ∃ t02 : Int, ∃ t03 : Int, ∃ t04 : Int, ∃ t05 : Int, ∃ (t06A : Option Addr) (t06N t06C : Nat), ∃ t07 : Int, ∃ t08 : List Int, t08.length = 32 ∧ ∃ t09 : Int, ∃ t010 : Int, ∃ t011 : List Int, t011.length = 32 ∧ ∃ t012 : List Int, t012.length = 32 ∧ ∃ (t013A : Option Addr) (t013N t013C : Nat), ∃ t1 : Bool, v_10 = .tuple #[.agg ((.int .u8 t00 :: (.int .i64 t01 :: (.int .i64 t02 :: (.int .i64 t03 :: (.int .i64 t04 :: (.int .i64 t05 :: (.slice t06A t06N t06C :: (.int .i64 t07 :: (t08.map (Value.int .u8) ++ (.int .i64 t09 :: (.int .i64 t010 :: (t011.map (Value.int .u8) ++ (t012.map (Value.int .u8) ++ ([.slice t013A t013N t013C] : List Value))))))))))))))).toArray, .bool t1] ∧
                              (((kind != (3 : Int)) = true →
                                  CallH Try.prog id_ship_Ship_Ack [.pointer u, .agg ((.int .u8 kind :: (.int .i64 (0 : Int) :: (.int .i64 atv :: (.int .i64 (0 : Int) :: (.int .i64 (0 : Int) :: (.int .i64 (0 : Int) :: (.slice none 0 0 :: (.int .i64 (0 : Int) :: ((List.replicate 32 0).map (Value.int .u8) ++ (.int .i64 (0 : Int) :: (.int .i64 (0 : Int) :: ((List.replicate 32 0).map (Value.int .u8) ++ ((List.replicate 32 0).map (Value.int .u8) ++ ([.slice none 0 0] : List Value))))))))))))))).toArray] (fun v_11 h13 =>
                                    ∃ t_11 : Bool, v_11 = .bool t_11 ∧
                                    ∃ bv_6 ov_6 : Nat, ((t_11 = false → lA = some ⟨bv_6, ov_6, none⟩ ∧ 0 ≤ st.1 ∧ st.1 < (lN : Nat))) ∧
                                    ∃ t_12 : Int, ((t_11 = false → h13.rds bv_6 ((ov_6 + st.1.toNat * 6) + 4) 1 = some [.int .i64 t_12])) ∧
                                    ((t_11 = false →
                                        CallH Try.prog id_ship_Ship_Ack [.pointer u, .agg ((.int .u8 (3 : Int) :: (.int .i64 (0 : Int) :: (.int .i64 (IntKind.wrap .i64 ((-1 : Int) - (bitsV .and .i64 t_12 (255 : Int)))) :: (.int .i64 (0 : Int) :: (.int .i64 (0 : Int) :: (.int .i64 (0 : Int) :: (.slice none 0 0 :: (.int .i64 (0 : Int) :: ((List.replicate 32 0).map (Value.int .u8) ++ (.int .i64 (0 : Int) :: (.int .i64 (0 : Int) :: ((List.replicate 32 0).map (Value.int .u8) ++ ((List.replicate 32 0).map (Value.int .u8) ++ ([.slice none 0 0] : List Value))))))))))))))).toArray] (fun v_12 h14 =>
                                          ∃ t_13 : Bool, v_12 = .bool t_13 ∧
                                          ((t_13 = true →
                                              K (.bool false) h14) ∧
                                            (t_13 = false →
                                              Jv ((IntKind.wrap .i64 (st.1 + (1 : Int))), ()) h14))) h13) ∧
                                      (t_11 = true →
                                        K (.bool false) h13))) h12) ∧
                                ((kind != (3 : Int)) = false →
                                  ∃ bv_7 ov_7 : Nat, (lA = some ⟨bv_7, ov_7, none⟩ ∧ 0 ≤ st.1 ∧ st.1 < (lN : Nat)) ∧
                                  ∃ t_14 : Int, (h12.rds bv_7 ((ov_7 + st.1.toNat * 6) + 4) 1 = some [.int .i64 t_14]) ∧
                                  CallH Try.prog id_ship_Ship_Ack [.pointer u, .agg ((.int .u8 (3 : Int) :: (.int .i64 (0 : Int) :: (.int .i64 (IntKind.wrap .i64 ((-1 : Int) - (bitsV .and .i64 t_14 (255 : Int)))) :: (.int .i64 (0 : Int) :: (.int .i64 (0 : Int) :: (.int .i64 (0 : Int) :: (.slice none 0 0 :: (.int .i64 (0 : Int) :: ((List.replicate 32 0).map (Value.int .u8) ++ (.int .i64 (0 : Int) :: (.int .i64 (0 : Int) :: ((List.replicate 32 0).map (Value.int .u8) ++ ((List.replicate 32 0).map (Value.int .u8) ++ ([.slice none 0 0] : List Value))))))))))))))).toArray] (fun v_13 h15 =>
                                    ∃ t_15 : Bool, v_13 = .bool t_15 ∧
                                    ((t_15 = true →
                                        K (.bool false) h15) ∧
                                      (t_15 = false →
                                        Jv ((IntKind.wrap .i64 (st.1 + (1 : Int))), ()) h15))) h12))) h6))))) ∧
                  ((decide (st.1 < ((lN : Nat) : Int))) = false →
                    CallH Try.prog id_ship_Ship_Forget [.pointer sv] (fun _ h16 =>
                      CallH Try.prog id_ship_Ship_Tick [.pointer sv, .agg #[.int .i64 v0, .int .i64 v1, .int .i64 v2, .slice v3A v3N v3C, .int .i64 v4, .slice v5A v5N v5C]] (fun v_15 h17 =>
                        ∃ (tA_2 : Option Addr) (tN_2 tC_2 : Nat), v_15 = .slice tA_2 tN_2 tC_2 ∧
                        CallH Try.prog id_ship_New [] (fun v_16 h18 =>
                          ∃ t_16 : Option Addr, v_16 = .pointer t_16 ∧
                          CallH Try.prog id_ship_Ship_Tick [.pointer t_16, .agg #[.int .i64 v0, .int .i64 v1, .int .i64 v2, .slice v3A v3N v3C, .int .i64 v4, .slice v5A v5N v5C]] (fun v_17 h19 =>
                            ∃ (tA_3 : Option Addr) (tN_3 tC_3 : Nat), v_17 = .slice tA_3 tN_3 tC_3 ∧
                            CallH Try.prog id_ref20_SameAll [.slice tA_2 tN_2 tC_2, .slice tA_3 tN_3 tC_3] (fun v_18 h20 =>
                              ∃ t_17 : Bool, v_18 = .bool t_17 ∧
                              ((t_17 = true →
                                  CallH Try.prog id_law20_wakes [] (fun v_19 h21 =>
                                    ∃ t_18 : Bool, v_19 = .bool t_18 ∧
                                    K (.bool t_18) h21) h20) ∧
                                (t_17 = false →
                                  K (.bool false) h20))) h19) h18) h17) h16) h6))) ((0 : Int), ()) h5) h4) h3) h1))) h
set_option maxRecDepth 100000 in
theorem F_law20_ShipQuiet_eq {r0 : Int} {r1 : Int} {r2A : Option Addr} {r2N r2C : Nat} {r3A : Option Addr} {r3N r3C : Nat} {r4A : Option Addr} {r4N r4C : Nat} {lA : Option Addr} {lN lC : Nat} {kind : Int} {atv : Int} {K : Value → PH → Prop} {h : PH} : @Eq Prop (F_law20_ShipQuiet r0 r1 r2A r2N r2C r3A r3N r3C r4A r4N r4C lA lN lC kind atv K h) (denF Try.prog Try.f6 ⟨[4, 9, 13], [(15, .of [0, 1, 3, 4, 2, 5, 6]), (18, .of [0, 1, 3, 4, 2, 5, 6, 7]), (21, .of [0, 1, 4, 2, 3, 5, 6, 7, 8, 9, 10])], [(0, ⟨[(12, .int .i64)], [], []⟩)], []⟩ [.agg [.one (.int .i64 r0), .one (.int .i64 r1), .one (.slice r2A r2N r2C), .one (.slice r3A r3N r3C), .one (.slice r4A r4N r4C)], .v (.slice lA lN lC), .v (.int .u8 kind), .v (.int .i64 atv)] K h) := by
  kernel_rfl
theorem F_law20_ShipQuiet_ok {r0 : Int} {r1 : Int} {r2A : Option Addr} {r2N r2C : Nat} {r3A : Option Addr} {r3N r3C : Nat} {r4A : Option Addr} {r4N r4C : Nat} {lA : Option Addr} {lN lC : Nat} {kind : Int} {atv : Int}  {K : Value → PH → Prop} {h : PH} (hh : F_law20_ShipQuiet r0 r1 r2A r2N r2C r3A r3N r3C r4A r4N r4C lA lN lC kind atv K h) : CallH Try.prog id_law20_ShipQuiet [.agg #[.int .i64 r0, .int .i64 r1, .slice r2A r2N r2C, .slice r3A r3N r3C, .slice r4A r4N r4C], .slice lA lN lC, .int .u8 kind, .int .i64 atv] K h :=
  denF_sound' Try.func6 (H := ⟨[4, 9, 13], [(15, .of [0, 1, 3, 4, 2, 5, 6]), (18, .of [0, 1, 3, 4, 2, 5, 6, 7]), (21, .of [0, 1, 4, 2, 3, 5, 6, 7, 8, 9, 10])], [(0, ⟨[(12, .int .i64)], [], []⟩)], []⟩) (xs := [.agg [.one (.int .i64 r0), .one (.int .i64 r1), .one (.slice r2A r2N r2C), .one (.slice r3A r3N r3C), .one (.slice r4A r4N r4C)], .v (.slice lA lN lC), .v (.int .u8 kind), .v (.int .i64 atv)]) (by kernel_rfl) (⟨⟨rfl, rfl, rfl, rfl, rfl, trivial⟩, rfl, rfl, rfl, trivial⟩) (den_of F_law20_ShipQuiet_eq hh)

/- twinlock/twinlocklaw20.ShipKnown -/
set_option maxRecDepth 100000 in
def F_law20_ShipKnown  (K : Value → PH → Prop) (h : PH) : Prop :=
  CallH Try.prog id_law20_three [] (fun v h1 =>
    ∃ v0 : Int, ∃ v1 : Int, ∃ v2 : Int, ∃ (v3A : Option Addr) (v3N v3C : Nat), ∃ v4 : Int, ∃ (v5A : Option Addr) (v5N v5C : Nat), v = .agg #[.int .i64 v0, .int .i64 v1, .int .i64 v2, .slice v3A v3N v3C, .int .i64 v4, .slice v5A v5N v5C] ∧
    JoinP (T := Bool × Unit) (fun Jv =>
      CallH Try.prog id_ship_Has [.agg #[.int .i64 v0, .int .i64 v1, .int .i64 v2, .slice v3A v3N v3C, .int .i64 v4, .slice v5A v5N v5C], .int .i64 (1 : Int), .int .i64 (1 : Int)] (fun v_1 h3 =>
        ∃ t : Bool, v_1 = .bool t ∧
        ((t = true →
            CallH Try.prog id_ship_Has [.agg #[.int .i64 v0, .int .i64 v1, .int .i64 v2, .slice v3A v3N v3C, .int .i64 v4, .slice v5A v5N v5C], .int .i64 (0 : Int), .int .i64 (0 : Int)] (fun v_2 h4 =>
              ∃ t_1 : Bool, v_2 = .bool t_1 ∧
              (((!t_1) = true →
                  CallH Try.prog id_ship_Has [.agg #[.int .i64 v0, .int .i64 v1, .int .i64 v2, .slice v3A v3N v3C, .int .i64 v4, .slice v5A v5N v5C], .int .i64 (3 : Int), .int .i64 (2 : Int)] (fun v_3 h5 =>
                    ∃ t_2 : Bool, v_3 = .bool t_2 ∧
                    (((!t_2) = true →
                        CallH Try.prog id_ship_Has [.agg #[.int .i64 v0, .int .i64 v1, .int .i64 v2, .slice v3A v3N v3C, .int .i64 v4, .slice v5A v5N v5C], .int .i64 (3 : Int), .int .i64 (1 : Int)] (fun v_4 h6 =>
                          ∃ t_3 : Bool, v_4 = .bool t_3 ∧
                          ((t_3 = true →
                              CallH Try.prog id_ship_Has [.agg #[.int .i64 v0, .int .i64 v1, .int .i64 v2, .slice v3A v3N v3C, .int .i64 v4, .slice v5A v5N v5C], .int .i64 (2 : Int), .int .i64 (1 : Int)] (fun v_5 h7 =>
                                ∃ t_4 : Bool, v_5 = .bool t_4 ∧
                                ((t_4 = true →
                                    CallH Try.prog id_ship_Has [.agg #[.int .i64 v0, .int .i64 v1, .int .i64 v2, .slice v3A v3N v3C, .int .i64 v4, .slice v5A v5N v5C], .int .i64 (1 : Int), .int .i64 (2 : Int)] (fun v_6 h8 =>
                                      ∃ t_5 : Bool, v_6 = .bool t_5 ∧
                                      (((!t_5) = true →
                                          CallH Try.prog id_ship_Has [.agg #[.int .i64 (0 : Int), .int .i64 (0 : Int), .int .i64 (0 : Int), .slice none 0 0, .int .i64 (0 : Int), .slice none 0 0], .int .i64 (0 : Int), .int .i64 (0 : Int)] (fun v_7 h9 =>
                                            ∃ t_6 : Bool, v_7 = .bool t_6 ∧
                                            Jv (t_6, ()) h9) h8) ∧
                                        ((!t_5) = false →
                                          Jv (false, ()) h8))) h7) ∧
                                  (t_4 = false →
                                    Jv (false, ()) h7))) h6) ∧
                            (t_3 = false →
                              Jv (false, ()) h6))) h5) ∧
                      ((!t_2) = false →
                        Jv (false, ()) h5))) h4) ∧
                ((!t_1) = false →
                  Jv (false, ()) h4))) h3) ∧
          (t = false →
            Jv (false, ()) h3))) h1)
    (fun st h2 =>
      CallH Try.prog id_ship_New [] (fun v_8 h10 =>
        ∃ sv : Option Addr, v_8 = .pointer sv ∧
        CallH Try.prog id_ship_Ship_Tick [.pointer sv, .agg #[.int .i64 v0, .int .i64 v1, .int .i64 v2, .slice v3A v3N v3C, .int .i64 v4, .slice v5A v5N v5C]] (fun v_9 h11 =>
          ∃ (aA : Option Addr) (aN aC : Nat), v_9 = .slice aA aN aC ∧
          CallH Try.prog id_ship_Ship_Ack [.pointer sv, .agg ((.int .u8 (3 : Int) :: (.int .i64 (0 : Int) :: (.int .i64 (1 : Int) :: (.int .i64 (1 : Int) :: (.int .i64 (0 : Int) :: (.int .i64 (0 : Int) :: (.slice none 0 0 :: (.int .i64 (0 : Int) :: ((List.replicate 32 0).map (Value.int .u8) ++ (.int .i64 (0 : Int) :: (.int .i64 (0 : Int) :: ((List.replicate 32 0).map (Value.int .u8) ++ ((List.replicate 32 0).map (Value.int .u8) ++ ([.slice none 0 0] : List Value))))))))))))))).toArray] (fun v_10 h12 =>
            ∃ bv : Bool, v_10 = .bool bv ∧
            CallH Try.prog id_ship_Ship_Tick [.pointer sv, .agg #[.int .i64 v0, .int .i64 v1, .int .i64 v2, .slice v3A v3N v3C, .int .i64 v4, .slice v5A v5N v5C]] (fun v_11 h13 =>
              ∃ (cA : Option Addr) (cN cC : Nat), v_11 = .slice cA cN cC ∧
              CallH Try.prog id_ship_Ship_Ack [.pointer sv, .agg ((.int .u8 (3 : Int) :: (.int .i64 (0 : Int) :: (.int .i64 (3 : Int) :: (.int .i64 (1 : Int) :: (.int .i64 (0 : Int) :: (.int .i64 (0 : Int) :: (.slice none 0 0 :: (.int .i64 (0 : Int) :: ((List.replicate 32 0).map (Value.int .u8) ++ (.int .i64 (0 : Int) :: (.int .i64 (0 : Int) :: ((List.replicate 32 0).map (Value.int .u8) ++ ((List.replicate 32 0).map (Value.int .u8) ++ ([.slice none 0 0] : List Value))))))))))))))).toArray] (fun v_12 h14 =>
                ∃ t_7 : Bool, v_12 = .bool t_7 ∧
                CallH Try.prog id_ship_Ship_Tick [.pointer sv, .agg #[.int .i64 v0, .int .i64 v1, .int .i64 v2, .slice v3A v3N v3C, .int .i64 v4, .slice v5A v5N v5C]] (fun v_13 h15 =>
                  ∃ (dA : Option Addr) (dN dC : Nat), v_13 = .slice dA dN dC ∧
                  JoinP (T := Bool × Unit) (fun Jv_1 =>
                    CallH Try.prog id_ship_Ship_Ack [.pointer sv, .agg ((.int .u8 (1 : Int) :: (.int .i64 (0 : Int) :: (.int .i64 (0 : Int) :: (.int .i64 (0 : Int) :: (.int .i64 (0 : Int) :: (.int .i64 (0 : Int) :: (.slice none 0 0 :: (.int .i64 (0 : Int) :: ((List.replicate 32 0).map (Value.int .u8) ++ (.int .i64 (0 : Int) :: (.int .i64 (0 : Int) :: ((List.replicate 32 0).map (Value.int .u8) ++ ((List.replicate 32 0).map (Value.int .u8) ++ ([.slice none 0 0] : List Value))))))))))))))).toArray] (fun v_14 h17 =>
                      ∃ t_8 : Bool, v_14 = .bool t_8 ∧
                      ((t_8 = false →
                          CallH Try.prog id_ship_Ship_Ack [.pointer sv, .agg ((.int .u8 (3 : Int) :: (.int .i64 (0 : Int) :: (.int .i64 (-1 : Int) :: (.int .i64 (0 : Int) :: (.int .i64 (0 : Int) :: (.int .i64 (0 : Int) :: (.slice none 0 0 :: (.int .i64 (0 : Int) :: ((List.replicate 32 0).map (Value.int .u8) ++ (.int .i64 (0 : Int) :: (.int .i64 (0 : Int) :: ((List.replicate 32 0).map (Value.int .u8) ++ ((List.replicate 32 0).map (Value.int .u8) ++ ([.slice none 0 0] : List Value))))))))))))))).toArray] (fun v_15 h18 =>
                            ∃ t_9 : Bool, v_15 = .bool t_9 ∧
                            Jv_1 (t_9, ()) h18) h17) ∧
                        (t_8 = true →
                          Jv_1 (true, ()) h17))) h15)
                  (fun st_1 h16 =>
                    CallH Try.prog id_ship_Ship_Ack [.pointer sv, .agg ((.int .u8 (3 : Int) :: (.int .i64 (0 : Int) :: (.int .i64 (0 : Int) :: (.int .i64 (0 : Int) :: (.int .i64 (0 : Int) :: (.int .i64 (0 : Int) :: (.slice none 0 0 :: (.int .i64 (0 : Int) :: ((List.replicate 32 0).map (Value.int .u8) ++ (.int .i64 (0 : Int) :: (.int .i64 (0 : Int) :: ((List.replicate 32 0).map (Value.int .u8) ++ ((List.replicate 32 0).map (Value.int .u8) ++ ([.slice none 0 0] : List Value))))))))))))))).toArray] (fun v_16 h19 =>
                      ∃ t_10 : Bool, v_16 = .bool t_10 ∧
                      CallH Try.prog id_ship_Ship_Tick [.pointer sv, .agg #[.int .i64 v0, .int .i64 v1, .int .i64 v2, .slice v3A v3N v3C, .int .i64 v4, .slice v5A v5N v5C]] (fun v_17 h20 =>
                        ∃ (fA : Option Addr) (fN fC : Nat), v_17 = .slice fA fN fC ∧
                        CallH Try.prog id_ship_Ship_Copy [.pointer sv] (fun v_18 h21 =>
                          ∃ t0 : Int, ∃ t1 : List Int, t1.length = 32 ∧ ∃ t2 : Bool, v_18 = .tuple #[.int .i64 t0, .agg ((t1.map (Value.int .u8) ++ [])).toArray, .bool t2] ∧
                          CallH Try.prog id_tree_New [] (fun v_19 h22 =>
                            ∃ nonev : Option Addr, v_19 = .pointer nonev ∧
                            ((((((((aN : Nat) : Int) != (1 : Int)) || (((cN : Nat) : Int) != (3 : Int))) || (((dN : Nat) : Int) != (1 : Int))) || (((fN : Nat) : Int) != (2 : Int))) = true →
                                K (.bool false) h22) ∧
                              (((((((aN : Nat) : Int) != (1 : Int)) || (((cN : Nat) : Int) != (3 : Int))) || (((dN : Nat) : Int) != (1 : Int))) || (((fN : Nat) : Int) != (2 : Int))) = false →
                                JoinP (T := Bool × Unit) (fun Jv_2 =>
                                  ∃ bv_1 ov : Nat, (aA = some ⟨bv_1, ov, none⟩ ∧ 0 ≤ (0 : Int) ∧ (0 : Int) < (aN : Nat)) ∧
                                  ∃ t_11 : Int, (h22.rds bv_1 (ov + (0 : Int).toNat * 107) 1 = some [.int .u8 t_11]) ∧
                                  ∃ bv_2 ov_1 : Nat, (((t_11 == (1 : Int)) = true → aA = some ⟨bv_2, ov_1, none⟩ ∧ 0 ≤ (0 : Int) ∧ (0 : Int) < (aN : Nat))) ∧
                                  ∃ t_12 : Int, (((t_11 == (1 : Int)) = true → h22.rds bv_2 ((ov_1 + (0 : Int).toNat * 107) + 1) 1 = some [.int .i64 t_12])) ∧
                                  ∃ bv_3 ov_2 : Nat, (((((t_11 == (1 : Int)) && (t_12 == (2 : Int))) && bv) = true → cA = some ⟨bv_3, ov_2, none⟩ ∧ 0 ≤ (1 : Int) ∧ (1 : Int) < (cN : Nat))) ∧
                                  ∃ t_13 : Int, (((((t_11 == (1 : Int)) && (t_12 == (2 : Int))) && bv) = true → h22.rds bv_3 (ov_2 + (1 : Int).toNat * 107) 1 = some [.int .u8 t_13])) ∧
                                  ∃ bv_4 ov_3 : Nat, ((((((t_11 == (1 : Int)) && (t_12 == (2 : Int))) && bv) && (t_13 == (2 : Int))) = true → cA = some ⟨bv_4, ov_3, none⟩ ∧ 0 ≤ (1 : Int) ∧ (1 : Int) < (cN : Nat))) ∧
                                  ∃ t_14 : Int, ((((((t_11 == (1 : Int)) && (t_12 == (2 : Int))) && bv) && (t_13 == (2 : Int))) = true → h22.rds bv_4 ((ov_3 + (1 : Int).toNat * 107) + 4) 1 = some [.int .i64 t_14])) ∧
                                  ∃ bv_5 ov_4 : Nat, (((((((t_11 == (1 : Int)) && (t_12 == (2 : Int))) && bv) && (t_13 == (2 : Int))) && (t_14 == (2 : Int))) = true → cA = some ⟨bv_5, ov_4, none⟩ ∧ 0 ≤ (1 : Int) ∧ (1 : Int) < (cN : Nat))) ∧
                                  ∃ t_15 : Int, (((((((t_11 == (1 : Int)) && (t_12 == (2 : Int))) && bv) && (t_13 == (2 : Int))) && (t_14 == (2 : Int))) = true → h22.rds bv_5 ((ov_4 + (1 : Int).toNat * 107) + 7) 1 = some [.int .i64 t_15])) ∧
                                  ∃ bv_6 ov_5 : Nat, ((((((((t_11 == (1 : Int)) && (t_12 == (2 : Int))) && bv) && (t_13 == (2 : Int))) && (t_14 == (2 : Int))) && (t_15 == (1 : Int))) = true → cA = some ⟨bv_6, ov_5, none⟩ ∧ 0 ≤ (2 : Int) ∧ (2 : Int) < (cN : Nat))) ∧
                                  ∃ t_16 : Int, ((((((((t_11 == (1 : Int)) && (t_12 == (2 : Int))) && bv) && (t_13 == (2 : Int))) && (t_14 == (2 : Int))) && (t_15 == (1 : Int))) = true → h22.rds bv_6 ((ov_5 + (2 : Int).toNat * 107) + 4) 1 = some [.int .i64 t_16])) ∧
                                  ∃ bv_7 ov_6 : Nat, ((((((((((t_11 == (1 : Int)) && (t_12 == (2 : Int))) && bv) && (t_13 == (2 : Int))) && (t_14 == (2 : Int))) && (t_15 == (1 : Int))) && (t_16 == (3 : Int))) && (!st_1.1)) = true → fA = some ⟨bv_7, ov_6, none⟩ ∧ 0 ≤ (1 : Int) ∧ (1 : Int) < (fN : Nat))) ∧
                                  ∃ t_17 : Int, ((((((((((t_11 == (1 : Int)) && (t_12 == (2 : Int))) && bv) && (t_13 == (2 : Int))) && (t_14 == (2 : Int))) && (t_15 == (1 : Int))) && (t_16 == (3 : Int))) && (!st_1.1)) = true → h22.rds bv_7 (ov_6 + (1 : Int).toNat * 107) 1 = some [.int .u8 t_17])) ∧
                                  ∃ bv_8 ov_7 : Nat, (((((((((((t_11 == (1 : Int)) && (t_12 == (2 : Int))) && bv) && (t_13 == (2 : Int))) && (t_14 == (2 : Int))) && (t_15 == (1 : Int))) && (t_16 == (3 : Int))) && (!st_1.1)) && (t_17 == (4 : Int))) = true → fA = some ⟨bv_8, ov_7, none⟩ ∧ 0 ≤ (1 : Int) ∧ (1 : Int) < (fN : Nat))) ∧
                                  ∃ t_18 : Int, (((((((((((t_11 == (1 : Int)) && (t_12 == (2 : Int))) && bv) && (t_13 == (2 : Int))) && (t_14 == (2 : Int))) && (t_15 == (1 : Int))) && (t_16 == (3 : Int))) && (!st_1.1)) && (t_17 == (4 : Int))) = true → h22.rds bv_8 ((ov_7 + (1 : Int).toNat * 107) + 2) 1 = some [.int .i64 t_18])) ∧
                                  ∃ bv_9 ov_8 : Nat, ((((((((((((t_11 == (1 : Int)) && (t_12 == (2 : Int))) && bv) && (t_13 == (2 : Int))) && (t_14 == (2 : Int))) && (t_15 == (1 : Int))) && (t_16 == (3 : Int))) && (!st_1.1)) && (t_17 == (4 : Int))) && (t_18 == (3 : Int))) = true → fA = some ⟨bv_9, ov_8, none⟩ ∧ 0 ≤ (1 : Int) ∧ (1 : Int) < (fN : Nat))) ∧
                                  ∃ t_19 : Int, ((((((((((((t_11 == (1 : Int)) && (t_12 == (2 : Int))) && bv) && (t_13 == (2 : Int))) && (t_14 == (2 : Int))) && (t_15 == (1 : Int))) && (t_16 == (3 : Int))) && (!st_1.1)) && (t_17 == (4 : Int))) && (t_18 == (3 : Int))) = true → h22.rds bv_9 ((ov_8 + (1 : Int).toNat * 107) + 3) 1 = some [.int .i64 t_19])) ∧
                                  ∃ bv_10 ov_9 : Nat, (((((((((((((t_11 == (1 : Int)) && (t_12 == (2 : Int))) && bv) && (t_13 == (2 : Int))) && (t_14 == (2 : Int))) && (t_15 == (1 : Int))) && (t_16 == (3 : Int))) && (!st_1.1)) && (t_17 == (4 : Int))) && (t_18 == (3 : Int))) && (t_19 == (1 : Int))) = true → fA = some ⟨bv_10, ov_9, none⟩ ∧ 0 ≤ (1 : Int) ∧ (1 : Int) < (fN : Nat))) ∧
                                  ∃ t_20 : List Int, t_20.length = 32 ∧ (((((((((((((t_11 == (1 : Int)) && (t_12 == (2 : Int))) && bv) && (t_13 == (2 : Int))) && (t_14 == (2 : Int))) && (t_15 == (1 : Int))) && (t_16 == (3 : Int))) && (!st_1.1)) && (t_17 == (4 : Int))) && (t_18 == (3 : Int))) && (t_19 == (1 : Int))) = true → h22.rds bv_10 ((ov_9 + (1 : Int).toNat * 107) + 8) 32 = some (t_20.map (Value.int .u8) ++ []))) ∧
                                  (((((((((((((t_11 == (1 : Int)) && (t_12 == (2 : Int))) && bv) && (t_13 == (2 : Int))) && (t_14 == (2 : Int))) && (t_15 == (1 : Int))) && (t_16 == (3 : Int))) && (!st_1.1)) && (t_17 == (4 : Int))) && (t_18 == (3 : Int))) && (t_19 == (1 : Int))) = true →
                                      CallH Try.prog id_tree_Tree_Root [.pointer nonev] (fun v_20 h24 =>
                                        ∃ t_21 : List Int, t_21.length = 32 ∧ v_20 = .agg ((t_21.map (Value.int .u8) ++ [])).toArray ∧
                                        (((((((((((((t_11 == (1 : Int)) && (t_12 == (2 : Int))) && bv) && (t_13 == (2 : Int))) && (t_14 == (2 : Int))) && (t_15 == (1 : Int))) && (t_16 == (3 : Int))) && (!st_1.1)) && (t_17 == (4 : Int))) && (t_18 == (3 : Int))) && (t_19 == (1 : Int))) = true → h24.rds bv_10 ((ov_9 + (1 : Int).toNat * 107) + 8) 32 = some (t_20.map (Value.int .u8) ++ []))) ∧
                                        ((((t_20 == t_21) && (t0 == (3 : Int))) = true →
                                            CallH Try.prog id_tree_Tree_Root [.pointer nonev] (fun v_21 h25 =>
                                              ∃ t_22 : List Int, t_22.length = 32 ∧ v_21 = .agg ((t_22.map (Value.int .u8) ++ [])).toArray ∧
                                              ((((t1 == t_22) && t2) = true →
                                                  CallH Try.prog id_ship_Ship_Texts [.pointer sv] (fun v_22 h26 =>
                                                    ∃ (tA : Option Addr) (tN tC : Nat), v_22 = .slice tA tN tC ∧
                                                    Jv_2 ((((tN : Nat) : Int) == (31 : Int)), ()) h26) h25) ∧
                                                (((t1 == t_22) && t2) = false →
                                                  Jv_2 (false, ()) h25))) h24) ∧
                                          (((t_20 == t_21) && (t0 == (3 : Int))) = false →
                                            Jv_2 (false, ()) h24))) h22) ∧
                                    ((((((((((((t_11 == (1 : Int)) && (t_12 == (2 : Int))) && bv) && (t_13 == (2 : Int))) && (t_14 == (2 : Int))) && (t_15 == (1 : Int))) && (t_16 == (3 : Int))) && (!st_1.1)) && (t_17 == (4 : Int))) && (t_18 == (3 : Int))) && (t_19 == (1 : Int))) = false →
                                      (((((((((((((t_11 == (1 : Int)) && (t_12 == (2 : Int))) && bv) && (t_13 == (2 : Int))) && (t_14 == (2 : Int))) && (t_15 == (1 : Int))) && (t_16 == (3 : Int))) && (!st_1.1)) && (t_17 == (4 : Int))) && (t_18 == (3 : Int))) && (t_19 == (1 : Int))) = true → h22.rds bv_10 ((ov_9 + (1 : Int).toNat * 107) + 8) 32 = some (t_20.map (Value.int .u8) ++ []))) ∧
                                      Jv_2 (false, ()) h22)))
                                (fun st_2 h23 =>
                                  CallH Try.prog id_ship_Ship_Ask [.pointer sv, .agg ((.int .u8 (5 : Int) :: (.int .i64 (0 : Int) :: (.int .i64 (3 : Int) :: (.int .i64 (0 : Int) :: (.int .i64 (0 : Int) :: (.int .i64 (0 : Int) :: (.slice none 0 0 :: (.int .i64 (0 : Int) :: ((List.replicate 32 0).map (Value.int .u8) ++ (.int .i64 (0 : Int) :: (.int .i64 (0 : Int) :: ((List.replicate 32 0).map (Value.int .u8) ++ ((List.replicate 32 0).map (Value.int .u8) ++ ([.slice none 0 0] : List Value))))))))))))))).toArray, .int .i64 (2 : Int)] (fun v_23 h27 =>
                                    ∃ t00 : Int, ∃ t01 : Int, ∃ t02 : Int, ∃ t03 : Int, ∃ t04 : Int, ∃ t05 : Int, ∃ (t06A : Option Addr) (t06N t06C : Nat), ∃ t07 : Int, ∃ t08 : List Int, t08.length = 32 ∧ ∃ t09 : Int, ∃ t010 : Int, ∃ t011 : List Int, t011.length = 32 ∧ ∃ t012 : List Int, t012.length = 32 ∧ ∃ (t013A : Option Addr) (t013N t013C : Nat), ∃ t1_1 : Bool, v_23 = .tuple #[.agg ((.int .u8 t00 :: (.int .i64 t01 :: (.int .i64 t02 :: (.int .i64 t03 :: (.int .i64 t04 :: (.int .i64 t05 :: (.slice t06A t06N t06C :: (.int .i64 t07 :: (t08.map (Value.int .u8) ++ (.int .i64 t09 :: (.int .i64 t010 :: (t011.map (Value.int .u8) ++ (t012.map (Value.int .u8) ++ ([.slice t013A t013N t013C] : List Value))))))))))))))).toArray, .bool t1_1] ∧
                                    CallH Try.prog id_tree_Tree_Node [.pointer nonev, .int .i64 (1 : Int), .int .i64 (0 : Int)] (fun v_24 h28 =>
                                      ∃ t0_1 : List Int, t0_1.length = 32 ∧ ∃ t1_2 : Bool, v_24 = .tuple #[.agg ((t0_1.map (Value.int .u8) ++ [])).toArray, .bool t1_2] ∧
                                      CallH Try.prog id_ship_Ship_Ask [.pointer sv, .agg ((.int .u8 (5 : Int) :: (.int .i64 (0 : Int) :: (.int .i64 (3 : Int) :: (.int .i64 (0 : Int) :: (.int .i64 (0 : Int) :: (.int .i64 (0 : Int) :: (.slice none 0 0 :: (.int .i64 (0 : Int) :: ((List.replicate 32 0).map (Value.int .u8) ++ (.int .i64 (4 : Int) :: (.int .i64 (15 : Int) :: ((List.replicate 32 0).map (Value.int .u8) ++ ((List.replicate 32 0).map (Value.int .u8) ++ ([.slice none 0 0] : List Value))))))))))))))).toArray, .int .i64 (2 : Int)] (fun v_25 h29 =>
                                        ∃ t00_1 : Int, ∃ t01_1 : Int, ∃ t02_1 : Int, ∃ t03_1 : Int, ∃ t04_1 : Int, ∃ t05_1 : Int, ∃ (t06A_1 : Option Addr) (t06N_1 t06C_1 : Nat), ∃ t07_1 : Int, ∃ t08_1 : List Int, t08_1.length = 32 ∧ ∃ t09_1 : Int, ∃ t010_1 : Int, ∃ t011_1 : List Int, t011_1.length = 32 ∧ ∃ t012_1 : List Int, t012_1.length = 32 ∧ ∃ (t013A_1 : Option Addr) (t013N_1 t013C_1 : Nat), ∃ t1_3 : Bool, v_25 = .tuple #[.agg ((.int .u8 t00_1 :: (.int .i64 t01_1 :: (.int .i64 t02_1 :: (.int .i64 t03_1 :: (.int .i64 t04_1 :: (.int .i64 t05_1 :: (.slice t06A_1 t06N_1 t06C_1 :: (.int .i64 t07_1 :: (t08_1.map (Value.int .u8) ++ (.int .i64 t09_1 :: (.int .i64 t010_1 :: (t011_1.map (Value.int .u8) ++ (t012_1.map (Value.int .u8) ++ ([.slice t013A_1 t013N_1 t013C_1] : List Value))))))))))))))).toArray, .bool t1_3] ∧
                                        CallH Try.prog id_ship_Ship_Ask [.pointer sv, .agg ((.int .u8 (5 : Int) :: (.int .i64 (0 : Int) :: (.int .i64 (2 : Int) :: (.int .i64 (0 : Int) :: (.int .i64 (0 : Int) :: (.int .i64 (0 : Int) :: (.slice none 0 0 :: (.int .i64 (0 : Int) :: ((List.replicate 32 0).map (Value.int .u8) ++ (.int .i64 (0 : Int) :: (.int .i64 (0 : Int) :: ((List.replicate 32 0).map (Value.int .u8) ++ ((List.replicate 32 0).map (Value.int .u8) ++ ([.slice none 0 0] : List Value))))))))))))))).toArray, .int .i64 (2 : Int)] (fun v_26 h30 =>
                                          ∃ t00_2 : Int, ∃ t01_2 : Int, ∃ t02_2 : Int, ∃ t03_2 : Int, ∃ t04_2 : Int, ∃ t05_2 : Int, ∃ (t06A_2 : Option Addr) (t06N_2 t06C_2 : Nat), ∃ t07_2 : Int, ∃ t08_2 : List Int, t08_2.length = 32 ∧ ∃ t09_2 : Int, ∃ t010_2 : Int, ∃ t011_2 : List Int, t011_2.length = 32 ∧ ∃ t012_2 : List Int, t012_2.length = 32 ∧ ∃ (t013A_2 : Option Addr) (t013N_2 t013C_2 : Nat), ∃ t1_4 : Bool, v_26 = .tuple #[.agg ((.int .u8 t00_2 :: (.int .i64 t01_2 :: (.int .i64 t02_2 :: (.int .i64 t03_2 :: (.int .i64 t04_2 :: (.int .i64 t05_2 :: (.slice t06A_2 t06N_2 t06C_2 :: (.int .i64 t07_2 :: (t08_2.map (Value.int .u8) ++ (.int .i64 t09_2 :: (.int .i64 t010_2 :: (t011_2.map (Value.int .u8) ++ (t012_2.map (Value.int .u8) ++ ([.slice t013A_2 t013N_2 t013C_2] : List Value))))))))))))))).toArray, .bool t1_4] ∧
                                          CallH Try.prog id_ship_Ship_Ask [.pointer sv, .agg ((.int .u8 (5 : Int) :: (.int .i64 (0 : Int) :: (.int .i64 (3 : Int) :: (.int .i64 (0 : Int) :: (.int .i64 (0 : Int) :: (.int .i64 (0 : Int) :: (.slice none 0 0 :: (.int .i64 (0 : Int) :: ((List.replicate 32 0).map (Value.int .u8) ++ (.int .i64 (5 : Int) :: (.int .i64 (0 : Int) :: ((List.replicate 32 0).map (Value.int .u8) ++ ((List.replicate 32 0).map (Value.int .u8) ++ ([.slice none 0 0] : List Value))))))))))))))).toArray, .int .i64 (2 : Int)] (fun v_27 h31 =>
                                            ∃ t00_3 : Int, ∃ t01_3 : Int, ∃ t02_3 : Int, ∃ t03_3 : Int, ∃ t04_3 : Int, ∃ t05_3 : Int, ∃ (t06A_3 : Option Addr) (t06N_3 t06C_3 : Nat), ∃ t07_3 : Int, ∃ t08_3 : List Int, t08_3.length = 32 ∧ ∃ t09_3 : Int, ∃ t010_3 : Int, ∃ t011_3 : List Int, t011_3.length = 32 ∧ ∃ t012_3 : List Int, t012_3.length = 32 ∧ ∃ (t013A_3 : Option Addr) (t013N_3 t013C_3 : Nat), ∃ t1_5 : Bool, v_27 = .tuple #[.agg ((.int .u8 t00_3 :: (.int .i64 t01_3 :: (.int .i64 t02_3 :: (.int .i64 t03_3 :: (.int .i64 t04_3 :: (.int .i64 t05_3 :: (.slice t06A_3 t06N_3 t06C_3 :: (.int .i64 t07_3 :: (t08_3.map (Value.int .u8) ++ (.int .i64 t09_3 :: (.int .i64 t010_3 :: (t011_3.map (Value.int .u8) ++ (t012_3.map (Value.int .u8) ++ ([.slice t013A_3 t013N_3 t013C_3] : List Value))))))))))))))).toArray, .bool t1_5] ∧
                                            CallH Try.prog id_ship_Ship_Ask [.pointer sv, .agg ((.int .u8 (5 : Int) :: (.int .i64 (0 : Int) :: (.int .i64 (3 : Int) :: (.int .i64 (0 : Int) :: (.int .i64 (0 : Int) :: (.int .i64 (0 : Int) :: (.slice none 0 0 :: (.int .i64 (0 : Int) :: ((List.replicate 32 0).map (Value.int .u8) ++ (.int .i64 (1 : Int) :: (.int .i64 (2 : Int) :: ((List.replicate 32 0).map (Value.int .u8) ++ ((List.replicate 32 0).map (Value.int .u8) ++ ([.slice none 0 0] : List Value))))))))))))))).toArray, .int .i64 (2 : Int)] (fun v_28 h32 =>
                                              ∃ t00_4 : Int, ∃ t01_4 : Int, ∃ t02_4 : Int, ∃ t03_4 : Int, ∃ t04_4 : Int, ∃ t05_4 : Int, ∃ (t06A_4 : Option Addr) (t06N_4 t06C_4 : Nat), ∃ t07_4 : Int, ∃ t08_4 : List Int, t08_4.length = 32 ∧ ∃ t09_4 : Int, ∃ t010_4 : Int, ∃ t011_4 : List Int, t011_4.length = 32 ∧ ∃ t012_4 : List Int, t012_4.length = 32 ∧ ∃ (t013A_4 : Option Addr) (t013N_4 t013C_4 : Nat), ∃ t1_6 : Bool, v_28 = .tuple #[.agg ((.int .u8 t00_4 :: (.int .i64 t01_4 :: (.int .i64 t02_4 :: (.int .i64 t03_4 :: (.int .i64 t04_4 :: (.int .i64 t05_4 :: (.slice t06A_4 t06N_4 t06C_4 :: (.int .i64 t07_4 :: (t08_4.map (Value.int .u8) ++ (.int .i64 t09_4 :: (.int .i64 t010_4 :: (t011_4.map (Value.int .u8) ++ (t012_4.map (Value.int .u8) ++ ([.slice t013A_4 t013N_4 t013C_4] : List Value))))))))))))))).toArray, .bool t1_6] ∧
                                              CallH Try.prog id_ship_Ship_Tick [.pointer sv, .agg #[.int .i64 v0, .int .i64 (67 : Int), .int .i64 v2, .slice v3A v3N v3C, .int .i64 v4, .slice v5A v5N v5C]] (fun v_29 h33 =>
                                                ∃ (tA_1 : Option Addr) (tN_1 tC_1 : Nat), v_29 = .slice tA_1 tN_1 tC_1 ∧
                                                CallH Try.prog id_ship_Ship_Copy [.pointer sv] (fun v_30 h34 =>
                                                  ∃ t0_2 : Int, ∃ t1_7 : List Int, t1_7.length = 32 ∧ ∃ t2_1 : Bool, v_30 = .tuple #[.int .i64 t0_2, .agg ((t1_7.map (Value.int .u8) ++ [])).toArray, .bool t2_1] ∧
                                                  CallH Try.prog id_ship_Ship_Tick [.pointer sv, .agg #[.int .i64 v0, .int .i64 (68 : Int), .int .i64 v2, .slice v3A v3N v3C, .int .i64 v4, .slice v5A v5N v5C]] (fun v_31 h35 =>
                                                    ∃ (tA_2 : Option Addr) (tN_2 tC_2 : Nat), v_31 = .slice tA_2 tN_2 tC_2 ∧
                                                    CallH Try.prog id_ship_Ship_Copy [.pointer sv] (fun v_32 h36 =>
                                                      ∃ t0_3 : Int, ∃ t1_8 : List Int, t1_8.length = 32 ∧ ∃ t2_2 : Bool, v_32 = .tuple #[.int .i64 t0_3, .agg ((t1_8.map (Value.int .u8) ++ [])).toArray, .bool t2_2] ∧
                                                      CallH Try.prog id_ship_Ship_Ack [.pointer sv, .agg ((.int .u8 (3 : Int) :: (.int .i64 (0 : Int) :: (.int .i64 (68 : Int) :: (.int .i64 (1 : Int) :: (.int .i64 (0 : Int) :: (.int .i64 (0 : Int) :: (.slice none 0 0 :: (.int .i64 (0 : Int) :: ((List.replicate 32 0).map (Value.int .u8) ++ (.int .i64 (0 : Int) :: (.int .i64 (0 : Int) :: ((List.replicate 32 0).map (Value.int .u8) ++ ((List.replicate 32 0).map (Value.int .u8) ++ ([.slice none 0 0] : List Value))))))))))))))).toArray] (fun v_33 h37 =>
                                                        ∃ t_23 : Bool, v_33 = .bool t_23 ∧
                                                        CallH Try.prog id_ship_Ship_Tick [.pointer sv, .agg #[.int .i64 v0, .int .i64 (68 : Int), .int .i64 v2, .slice v3A v3N v3C, .int .i64 v4, .slice v5A v5N v5C]] (fun v_34 h38 =>
                                                          ∃ (tA_3 : Option Addr) (tN_3 tC_3 : Nat), v_34 = .slice tA_3 tN_3 tC_3 ∧
                                                          CallH Try.prog id_ship_Ship_Copy [.pointer sv] (fun v_35 h39 =>
                                                            ∃ t0_4 : Int, ∃ t1_9 : List Int, t1_9.length = 32 ∧ ∃ t2_3 : Bool, v_35 = .tuple #[.int .i64 t0_4, .agg ((t1_9.map (Value.int .u8) ++ [])).toArray, .bool t2_3] ∧
                                                            (((((((((((((((st.1 && st_2.1) && t1_1) && (t00 == (6 : Int))) && (t011 == t0_1)) && t1_3) && (t00_1 == (7 : Int))) && (t010_1 == (15 : Int))) && (!t1_4)) && (!t1_5)) && (!t1_6)) && (t0_2 == (3 : Int))) && (t0_3 == (68 : Int))) && (!t2_3)) = true →
                                                                CallH Try.prog id_law20_wakes [] (fun v_36 h40 =>
                                                                  ∃ t_24 : Bool, v_36 = .bool t_24 ∧
                                                                  K (.bool t_24) h40) h39) ∧
                                                              ((((((((((((((st.1 && st_2.1) && t1_1) && (t00 == (6 : Int))) && (t011 == t0_1)) && t1_3) && (t00_1 == (7 : Int))) && (t010_1 == (15 : Int))) && (!t1_4)) && (!t1_5)) && (!t1_6)) && (t0_2 == (3 : Int))) && (t0_3 == (68 : Int))) && (!t2_3)) = false →
                                                                K (.bool false) h39))) h38) h37) h36) h35) h34) h33) h32) h31) h30) h29) h28) h27) h23)))) h21) h20) h19) h16)) h14) h13) h12) h11) h10) h2)) h
set_option maxRecDepth 100000 in
theorem F_law20_ShipKnown_eq  {K : Value → PH → Prop} {h : PH} : @Eq Prop (F_law20_ShipKnown  K h) (denF Try.prog Try.f7 ⟨[1, 11, 15, 17, 19, 21, 23, 25, 28, 31, 34], [], [], [(8, ⟨[(2, .bool)], [], []⟩), (22, ⟨[(8, .bool)], [], []⟩), (36, ⟨[(14, .bool)], [], []⟩)]⟩ [] K h) := by
  kernel_rfl
theorem F_law20_ShipKnown_ok   {K : Value → PH → Prop} {h : PH} (hh : F_law20_ShipKnown  K h) : CallH Try.prog id_law20_ShipKnown [] K h :=
  denF_sound' Try.func7 (H := ⟨[1, 11, 15, 17, 19, 21, 23, 25, 28, 31, 34], [], [], [(8, ⟨[(2, .bool)], [], []⟩), (22, ⟨[(8, .bool)], [], []⟩), (36, ⟨[(14, .bool)], [], []⟩)]⟩) (xs := []) (by kernel_rfl) (trivial) (den_of F_law20_ShipKnown_eq hh)

/- twinlock/twinlocklaw20.ShipNobody -/
def F_law20_ShipNobody (r0 : Int) (r1 : Int) (r2A : Option Addr) (r2N r2C : Nat) (r3A : Option Addr) (r3N r3C : Nat) (r4A : Option Addr) (r4N r4C : Nat) (_ : Int) (a1 : Int) (a2 : Int) (a3 : Int) (a4 : Int) (_ : Int) (K : Value → PH → Prop) (h : PH) : Prop :=
  CallH Try.prog id_law20_Great [.agg #[.int .i64 r0, .int .i64 r1, .slice r2A r2N r2C, .slice r3A r3N r3C, .slice r4A r4N r4C]] (fun v h1 =>
    ∃ t : Bool, v = .bool t ∧
    ((t = true →
        CallH Try.prog id_law20_wakes [] (fun v_1 h2 =>
          ∃ t_1 : Bool, v_1 = .bool t_1 ∧
          K (.bool t_1) h2) h1) ∧
      (t = false →
        CallH Try.prog id_ship_Ship_Forget [.pointer none] (fun _ h3 =>
          CallH Try.prog id_ship_Ship_Ask [.pointer none, .agg ((.int .u8 (5 : Int) :: (.int .i64 (0 : Int) :: (.int .i64 a1 :: (.int .i64 (0 : Int) :: (.int .i64 (0 : Int) :: (.int .i64 (0 : Int) :: (.slice none 0 0 :: (.int .i64 (0 : Int) :: ((List.replicate 32 0).map (Value.int .u8) ++ (.int .i64 a3 :: (.int .i64 a4 :: ((List.replicate 32 0).map (Value.int .u8) ++ ((List.replicate 32 0).map (Value.int .u8) ++ ([.slice none 0 0] : List Value))))))))))))))).toArray, .int .i64 a2] (fun v_3 h4 =>
            ∃ t00 : Int, ∃ t01 : Int, ∃ t02 : Int, ∃ t03 : Int, ∃ t04 : Int, ∃ t05 : Int, ∃ (t06A : Option Addr) (t06N t06C : Nat), ∃ t07 : Int, ∃ t08 : List Int, t08.length = 32 ∧ ∃ t09 : Int, ∃ t010 : Int, ∃ t011 : List Int, t011.length = 32 ∧ ∃ t012 : List Int, t012.length = 32 ∧ ∃ (t013A : Option Addr) (t013N t013C : Nat), ∃ t1 : Bool, v_3 = .tuple #[.agg ((.int .u8 t00 :: (.int .i64 t01 :: (.int .i64 t02 :: (.int .i64 t03 :: (.int .i64 t04 :: (.int .i64 t05 :: (.slice t06A t06N t06C :: (.int .i64 t07 :: (t08.map (Value.int .u8) ++ (.int .i64 t09 :: (.int .i64 t010 :: (t011.map (Value.int .u8) ++ (t012.map (Value.int .u8) ++ ([.slice t013A t013N t013C] : List Value))))))))))))))).toArray, .bool t1] ∧
            CallH Try.prog id_ship_Ship_Copy [.pointer none] (fun v_4 h5 =>
              ∃ t0 : Int, ∃ t1_1 : List Int, t1_1.length = 32 ∧ ∃ t2 : Bool, v_4 = .tuple #[.int .i64 t0, .agg ((t1_1.map (Value.int .u8) ++ [])).toArray, .bool t2] ∧
              CallH Try.prog id_ship_Ship_Ack [.pointer none, .agg ((.int .u8 (3 : Int) :: (.int .i64 (0 : Int) :: (.int .i64 a1 :: (.int .i64 (0 : Int) :: (.int .i64 (0 : Int) :: (.int .i64 (0 : Int) :: (.slice none 0 0 :: (.int .i64 (0 : Int) :: ((List.replicate 32 0).map (Value.int .u8) ++ (.int .i64 (0 : Int) :: (.int .i64 (0 : Int) :: ((List.replicate 32 0).map (Value.int .u8) ++ ((List.replicate 32 0).map (Value.int .u8) ++ ([.slice none 0 0] : List Value))))))))))))))).toArray] (fun v_5 h6 =>
                ∃ t_2 : Bool, v_5 = .bool t_2 ∧
                (((!t_2) = true →
                    CallH Try.prog id_law20_Made [.agg #[.int .i64 r0, .int .i64 r1, .slice r2A r2N r2C, .slice r3A r3N r3C, .slice r4A r4N r4C], .int .i64 a2] (fun v_6 h7 =>
                      ∃ t0_1 : Int, ∃ t1_2 : Int, ∃ t2_1 : Int, ∃ (t3A : Option Addr) (t3N t3C : Nat), ∃ t4 : Int, ∃ (t5A : Option Addr) (t5N t5C : Nat), v_6 = .agg #[.int .i64 t0_1, .int .i64 t1_2, .int .i64 t2_1, .slice t3A t3N t3C, .int .i64 t4, .slice t5A t5N t5C] ∧
                      CallH Try.prog id_ship_Ship_Tick [.pointer none, .agg #[.int .i64 t0_1, .int .i64 t1_2, .int .i64 t2_1, .slice t3A t3N t3C, .int .i64 t4, .slice t5A t5N t5C]] (fun v_7 h8 =>
                        ∃ (tA : Option Addr) (tN tC : Nat), v_7 = .slice tA tN tC ∧
                        ((((((((tN : Nat) : Int) == (0 : Int)) && (!t1)) && (t00 == (0 : Int))) && (t0 == (0 : Int))) = true →
                            ((((t1_1 == (List.replicate 32 0)) && (!t2)) = true →
                                CallH Try.prog id_ship_Ship_Texts [.pointer none] (fun v_8 h9 =>
                                  ∃ (tA_1 : Option Addr) (tN_1 tC_1 : Nat), v_8 = .slice tA_1 tN_1 tC_1 ∧
                                  (((((tN_1 : Nat) : Int) == (0 : Int)) = true →
                                      CallH Try.prog id_law20_wakes [] (fun v_9 h10 =>
                                        ∃ t_3 : Bool, v_9 = .bool t_3 ∧
                                        K (.bool t_3) h10) h9) ∧
                                    ((((tN_1 : Nat) : Int) == (0 : Int)) = false →
                                      K (.bool false) h9))) h8) ∧
                              (((t1_1 == (List.replicate 32 0)) && (!t2)) = false →
                                K (.bool false) h8))) ∧
                          (((((((tN : Nat) : Int) == (0 : Int)) && (!t1)) && (t00 == (0 : Int))) && (t0 == (0 : Int))) = false →
                            K (.bool false) h8))) h7) h6) ∧
                  ((!t_2) = false →
                    K (.bool false) h6))) h5) h4) h3) h1))) h
theorem F_law20_ShipNobody_eq {r0 : Int} {r1 : Int} {r2A : Option Addr} {r2N r2C : Nat} {r3A : Option Addr} {r3N r3C : Nat} {r4A : Option Addr} {r4N r4C : Nat} {a0 : Int} {a1 : Int} {a2 : Int} {a3 : Int} {a4 : Int} {a5 : Int} {K : Value → PH → Prop} {h : PH} : @Eq Prop (F_law20_ShipNobody r0 r1 r2A r2N r2C r3A r3N r3C r4A r4N r4C a0 a1 a2 a3 a4 a5 K h) (denF Try.prog Try.f8 ⟨[2, 3, 6, 9], [], [], []⟩ [.agg [.one (.int .i64 r0), .one (.int .i64 r1), .one (.slice r2A r2N r2C), .one (.slice r3A r3N r3C), .one (.slice r4A r4N r4C)], .agg [.one (.int .u8 a0), .one (.int .i64 a1), .one (.int .i64 a2), .one (.int .i64 a3), .one (.int .i64 a4), .one (.int .i64 a5)]] K h) := by
  kernel_rfl
theorem F_law20_ShipNobody_ok {r0 : Int} {r1 : Int} {r2A : Option Addr} {r2N r2C : Nat} {r3A : Option Addr} {r3N r3C : Nat} {r4A : Option Addr} {r4N r4C : Nat} {a0 : Int} {a1 : Int} {a2 : Int} {a3 : Int} {a4 : Int} {a5 : Int}  {K : Value → PH → Prop} {h : PH} (hh : F_law20_ShipNobody r0 r1 r2A r2N r2C r3A r3N r3C r4A r4N r4C a0 a1 a2 a3 a4 a5 K h) : CallH Try.prog id_law20_ShipNobody [.agg #[.int .i64 r0, .int .i64 r1, .slice r2A r2N r2C, .slice r3A r3N r3C, .slice r4A r4N r4C], .agg #[.int .u8 a0, .int .i64 a1, .int .i64 a2, .int .i64 a3, .int .i64 a4, .int .i64 a5]] K h :=
  denF_sound' Try.func8 (H := ⟨[2, 3, 6, 9], [], [], []⟩) (xs := [.agg [.one (.int .i64 r0), .one (.int .i64 r1), .one (.slice r2A r2N r2C), .one (.slice r3A r3N r3C), .one (.slice r4A r4N r4C)], .agg [.one (.int .u8 a0), .one (.int .i64 a1), .one (.int .i64 a2), .one (.int .i64 a3), .one (.int .i64 a4), .one (.int .i64 a5)]]) (by kernel_rfl) (⟨⟨rfl, rfl, rfl, rfl, rfl, trivial⟩, ⟨rfl, rfl, rfl, rfl, rfl, rfl, trivial⟩, trivial⟩) (den_of F_law20_ShipNobody_eq hh)

/- twinlock/twinlocklaw20.wakes -/
def F_law20_wakes  (K : Value → PH → Prop) (h : PH) : Prop :=
  CallH Try.prog id_ship_New [] (fun v h1 =>
    ∃ sv : Option Addr, v = .pointer sv ∧
    CallH Try.prog id_law20_three [] (fun v_1 h2 =>
      ∃ t0 : Int, ∃ t1 : Int, ∃ t2 : Int, ∃ (t3A : Option Addr) (t3N t3C : Nat), ∃ t4 : Int, ∃ (t5A : Option Addr) (t5N t5C : Nat), v_1 = .agg #[.int .i64 t0, .int .i64 t1, .int .i64 t2, .slice t3A t3N t3C, .int .i64 t4, .slice t5A t5N t5C] ∧
      CallH Try.prog id_ship_Ship_Tick [.pointer sv, .agg #[.int .i64 t0, .int .i64 t1, .int .i64 t2, .slice t3A t3N t3C, .int .i64 t4, .slice t5A t5N t5C]] (fun v_2 h3 =>
        ∃ (aA : Option Addr) (aN aC : Nat), v_2 = .slice aA aN aC ∧
        CallH Try.prog id_ship_Ship_Ack [.pointer sv, .agg ((.int .u8 (3 : Int) :: (.int .i64 (0 : Int) :: (.int .i64 (1 : Int) :: (.int .i64 (1 : Int) :: (.int .i64 (0 : Int) :: (.int .i64 (0 : Int) :: (.slice none 0 0 :: (.int .i64 (0 : Int) :: ((List.replicate 32 0).map (Value.int .u8) ++ (.int .i64 (0 : Int) :: (.int .i64 (0 : Int) :: ((List.replicate 32 0).map (Value.int .u8) ++ ((List.replicate 32 0).map (Value.int .u8) ++ ([.slice none 0 0] : List Value))))))))))))))).toArray] (fun v_3 h4 =>
          ∃ ok : Bool, v_3 = .bool ok ∧
          CallH Try.prog id_law20_three [] (fun v_4 h5 =>
            ∃ t0_1 : Int, ∃ t1_1 : Int, ∃ t2_1 : Int, ∃ (t3A_1 : Option Addr) (t3N_1 t3C_1 : Nat), ∃ t4_1 : Int, ∃ (t5A_1 : Option Addr) (t5N_1 t5C_1 : Nat), v_4 = .agg #[.int .i64 t0_1, .int .i64 t1_1, .int .i64 t2_1, .slice t3A_1 t3N_1 t3C_1, .int .i64 t4_1, .slice t5A_1 t5N_1 t5C_1] ∧
            CallH Try.prog id_ship_Ship_Tick [.pointer sv, .agg #[.int .i64 t0_1, .int .i64 t1_1, .int .i64 t2_1, .slice t3A_1 t3N_1 t3C_1, .int .i64 t4_1, .slice t5A_1 t5N_1 t5C_1]] (fun v_5 h6 =>
              ∃ (bA : Option Addr) (bN bC : Nat), v_5 = .slice bA bN bC ∧
              CallH Try.prog id_ship_Ship_Ack [.pointer sv, .agg ((.int .u8 (3 : Int) :: (.int .i64 (0 : Int) :: (.int .i64 (0 : Int) :: (.int .i64 (0 : Int) :: (.int .i64 (0 : Int) :: (.int .i64 (0 : Int) :: (.slice none 0 0 :: (.int .i64 (0 : Int) :: ((List.replicate 32 0).map (Value.int .u8) ++ (.int .i64 (0 : Int) :: (.int .i64 (0 : Int) :: ((List.replicate 32 0).map (Value.int .u8) ++ ((List.replicate 32 0).map (Value.int .u8) ++ ([.slice none 0 0] : List Value))))))))))))))).toArray] (fun v_6 h7 =>
                ∃ t : Bool, v_6 = .bool t ∧
                CallH Try.prog id_law20_three [] (fun v_7 h8 =>
                  ∃ t0_2 : Int, ∃ t1_2 : Int, ∃ t2_2 : Int, ∃ (t3A_2 : Option Addr) (t3N_2 t3C_2 : Nat), ∃ t4_2 : Int, ∃ (t5A_2 : Option Addr) (t5N_2 t5C_2 : Nat), v_7 = .agg #[.int .i64 t0_2, .int .i64 t1_2, .int .i64 t2_2, .slice t3A_2 t3N_2 t3C_2, .int .i64 t4_2, .slice t5A_2 t5N_2 t5C_2] ∧
                  CallH Try.prog id_ship_Ship_Tick [.pointer sv, .agg #[.int .i64 t0_2, .int .i64 t1_2, .int .i64 t2_2, .slice t3A_2 t3N_2 t3C_2, .int .i64 t4_2, .slice t5A_2 t5N_2 t5C_2]] (fun v_8 h9 =>
                    ∃ (cA : Option Addr) (cN cC : Nat), v_8 = .slice cA cN cC ∧
                    CallH Try.prog id_ship_Ship_Copy [.pointer sv] (fun v_9 h10 =>
                      ∃ t0_3 : Int, ∃ t1_3 : List Int, t1_3.length = 32 ∧ ∃ t2_3 : Bool, v_9 = .tuple #[.int .i64 t0_3, .agg ((t1_3.map (Value.int .u8) ++ [])).toArray, .bool t2_3] ∧
                      ∃ bv ov : Nat, (((((aN : Nat) : Int) == (1 : Int)) = true → aA = some ⟨bv, ov, none⟩ ∧ 0 ≤ (0 : Int) ∧ (0 : Int) < (aN : Nat))) ∧
                      ∃ t_1 : Int, (((((aN : Nat) : Int) == (1 : Int)) = true → h10.rds bv (ov + (0 : Int).toNat * 107) 1 = some [.int .u8 t_1])) ∧
                      ∃ bv_1 ov_1 : Nat, ((((((((aN : Nat) : Int) == (1 : Int)) && (t_1 == (1 : Int))) && ok) && (((bN : Nat) : Int) == (3 : Int))) = true → bA = some ⟨bv_1, ov_1, none⟩ ∧ 0 ≤ (1 : Int) ∧ (1 : Int) < (bN : Nat))) ∧
                      ∃ t_2 : Int, ((((((((aN : Nat) : Int) == (1 : Int)) && (t_1 == (1 : Int))) && ok) && (((bN : Nat) : Int) == (3 : Int))) = true → h10.rds bv_1 ((ov_1 + (1 : Int).toNat * 107) + 4) 1 = some [.int .i64 t_2])) ∧
                      ∃ bv_2 ov_2 : Nat, (((((((((aN : Nat) : Int) == (1 : Int)) && (t_1 == (1 : Int))) && ok) && (((bN : Nat) : Int) == (3 : Int))) && (t_2 == (2 : Int))) = true → bA = some ⟨bv_2, ov_2, none⟩ ∧ 0 ≤ (2 : Int) ∧ (2 : Int) < (bN : Nat))) ∧
                      ∃ t_3 : Int, (((((((((aN : Nat) : Int) == (1 : Int)) && (t_1 == (1 : Int))) && ok) && (((bN : Nat) : Int) == (3 : Int))) && (t_2 == (2 : Int))) = true → h10.rds bv_2 ((ov_2 + (2 : Int).toNat * 107) + 7) 1 = some [.int .i64 t_3])) ∧
                      ∃ bv_3 ov_3 : Nat, (((((((((((aN : Nat) : Int) == (1 : Int)) && (t_1 == (1 : Int))) && ok) && (((bN : Nat) : Int) == (3 : Int))) && (t_2 == (2 : Int))) && (t_3 == (1 : Int))) && (((cN : Nat) : Int) == (2 : Int))) = true → cA = some ⟨bv_3, ov_3, none⟩ ∧ 0 ≤ (1 : Int) ∧ (1 : Int) < (cN : Nat))) ∧
                      ∃ t_4 : Int, (((((((((((aN : Nat) : Int) == (1 : Int)) && (t_1 == (1 : Int))) && ok) && (((bN : Nat) : Int) == (3 : Int))) && (t_2 == (2 : Int))) && (t_3 == (1 : Int))) && (((cN : Nat) : Int) == (2 : Int))) = true → h10.rds bv_3 (ov_3 + (1 : Int).toNat * 107) 1 = some [.int .u8 t_4])) ∧
                      K (.bool ((((((((((((aN : Nat) : Int) == (1 : Int)) && (t_1 == (1 : Int))) && ok) && (((bN : Nat) : Int) == (3 : Int))) && (t_2 == (2 : Int))) && (t_3 == (1 : Int))) && (((cN : Nat) : Int) == (2 : Int))) && (t_4 == (4 : Int))) && (t0_3 == (3 : Int))) && t2_3)) h10) h9) h8) h7) h6) h5) h4) h3) h2) h1) h
theorem F_law20_wakes_eq  {K : Value → PH → Prop} {h : PH} : @Eq Prop (F_law20_wakes  K h) (denF Try.prog Try.f10 ⟨[7], [], [], []⟩ [] K h) := by
  kernel_rfl
theorem F_law20_wakes_ok   {K : Value → PH → Prop} {h : PH} (hh : F_law20_wakes  K h) : CallH Try.prog id_law20_wakes [] K h :=
  denF_sound' Try.func10 (H := ⟨[7], [], [], []⟩) (xs := []) (by kernel_rfl) (trivial) (den_of F_law20_wakes_eq hh)

/- twinlock/twinlocklaw20.had -/
def F_law20_had (_ : Int) (_ : Int) (r2A : Option Addr) (r2N _ : Nat) (_ : Option Addr) (_ _ : Nat) (_ : Option Addr) (_ _ : Nat) (K : Value → PH → Prop) (h : PH) : Prop :=
  LoopP (T := Int × Unit) (fun Jv st h1 =>
    (((decide (st.1 < ((r2N : Nat) : Int))) = true →
        LoopP (T := Int × Unit) (fun Jv_1 st_1 h2 =>
          ∃ bv ov : Nat, (r2A = some ⟨bv, ov, none⟩ ∧ 0 ≤ st.1 ∧ st.1 < (r2N : Nat)) ∧
          ∃ (tA : Option Addr) (tN tC : Nat), (h2.rds bv (ov + st.1.toNat * 1) 1 = some [.slice tA tN tC]) ∧
          (((decide (st_1.1 < ((tN : Nat) : Int))) = true →
              ∃ bv_1 ov_1 : Nat, (r2A = some ⟨bv_1, ov_1, none⟩ ∧ 0 ≤ st.1 ∧ st.1 < (r2N : Nat)) ∧
              ∃ (tA_1 : Option Addr) (tN_1 tC_1 : Nat), (h2.rds bv_1 (ov_1 + st.1.toNat * 1) 1 = some [.slice tA_1 tN_1 tC_1]) ∧
              ∃ bv_2 ov_2 : Nat, (tA_1 = some ⟨bv_2, ov_2, none⟩ ∧ 0 ≤ st_1.1 ∧ st_1.1 < (tN_1 : Nat)) ∧
              ∃ t : ByteArray, (h2.rds bv_2 ((ov_2 + st_1.1.toNat * 3) + 1) 1 = some [.string t]) ∧
              (((strEq t (⟨#[119, 114, 105, 116, 116, 101, 110, 32, 111, 118, 101, 114]⟩ : ByteArray)) = true →
                  K (.bool true) h2) ∧
                ((strEq t (⟨#[119, 114, 105, 116, 116, 101, 110, 32, 111, 118, 101, 114]⟩ : ByteArray)) = false →
                  Jv_1 ((IntKind.wrap .i64 (st_1.1 + (1 : Int))), ()) h2))) ∧
            ((decide (st_1.1 < ((tN : Nat) : Int))) = false →
              Jv ((IntKind.wrap .i64 (st.1 + (1 : Int))), ()) h2))) ((0 : Int), ()) h1) ∧
      ((decide (st.1 < ((r2N : Nat) : Int))) = false →
        K (.bool false) h1))) ((0 : Int), ()) h
theorem F_law20_had_eq {r0 : Int} {r1 : Int} {r2A : Option Addr} {r2N r2C : Nat} {r3A : Option Addr} {r3N r3C : Nat} {r4A : Option Addr} {r4N r4C : Nat} {K : Value → PH → Prop} {h : PH} : @Eq Prop (F_law20_had r0 r1 r2A r2N r2C r3A r3N r3C r4A r4N r4C K h) (denF Try.prog Try.f16 ⟨[1], [], [(0, ⟨[(3, .int .i64)], [], []⟩), (2, ⟨[(4, .int .i64)], [], []⟩)], []⟩ [.agg [.one (.int .i64 r0), .one (.int .i64 r1), .one (.slice r2A r2N r2C), .one (.slice r3A r3N r3C), .one (.slice r4A r4N r4C)]] K h) := by
  kernel_rfl
theorem F_law20_had_ok {r0 : Int} {r1 : Int} {r2A : Option Addr} {r2N r2C : Nat} {r3A : Option Addr} {r3N r3C : Nat} {r4A : Option Addr} {r4N r4C : Nat}  {K : Value → PH → Prop} {h : PH} (hh : F_law20_had r0 r1 r2A r2N r2C r3A r3N r3C r4A r4N r4C K h) : CallH Try.prog id_law20_had [.agg #[.int .i64 r0, .int .i64 r1, .slice r2A r2N r2C, .slice r3A r3N r3C, .slice r4A r4N r4C]] K h :=
  denF_sound' Try.func16 (H := ⟨[1], [], [(0, ⟨[(3, .int .i64)], [], []⟩), (2, ⟨[(4, .int .i64)], [], []⟩)], []⟩) (xs := [.agg [.one (.int .i64 r0), .one (.int .i64 r1), .one (.slice r2A r2N r2C), .one (.slice r3A r3N r3C), .one (.slice r4A r4N r4C)]]) (by kernel_rfl) (⟨⟨rfl, rfl, rfl, rfl, rfl, trivial⟩, trivial⟩) (den_of F_law20_had_eq hh)

/- twinlock/twinlockref20.SameAll -/
def F_ref20_SameAll (aA : Option Addr) (aN _ : Nat) (bA : Option Addr) (bN _ : Nat) (K : Value → PH → Prop) (h : PH) : Prop :=
  (((((aN : Nat) : Int) != ((bN : Nat) : Int)) = true →
      K (.bool false) h) ∧
    ((((aN : Nat) : Int) != ((bN : Nat) : Int)) = false →
      LoopP (T := Int × Unit) (fun Jv st h1 =>
        (((decide (st.1 < ((aN : Nat) : Int))) = true →
            ∃ bv ov : Nat, (aA = some ⟨bv, ov, none⟩ ∧ 0 ≤ st.1 ∧ st.1 < (aN : Nat)) ∧
            ∃ t0 : Int, ∃ t1 : Int, ∃ t2 : Int, ∃ t3 : Int, ∃ t4 : Int, ∃ t5 : Int, ∃ (t6A : Option Addr) (t6N t6C : Nat), ∃ t7 : Int, ∃ t8 : List Int, t8.length = 32 ∧ ∃ t9 : Int, ∃ t10 : Int, ∃ t11 : List Int, t11.length = 32 ∧ ∃ t12 : List Int, t12.length = 32 ∧ ∃ (t13A : Option Addr) (t13N t13C : Nat), (h1.rds bv (ov + st.1.toNat * 107) 107 = some (.int .u8 t0 :: (.int .i64 t1 :: (.int .i64 t2 :: (.int .i64 t3 :: (.int .i64 t4 :: (.int .i64 t5 :: (.slice t6A t6N t6C :: (.int .i64 t7 :: (t8.map (Value.int .u8) ++ (.int .i64 t9 :: (.int .i64 t10 :: (t11.map (Value.int .u8) ++ (t12.map (Value.int .u8) ++ ([.slice t13A t13N t13C] : List Value))))))))))))))) ∧
            ∃ bv_1 ov_1 : Nat, (bA = some ⟨bv_1, ov_1, none⟩ ∧ 0 ≤ st.1 ∧ st.1 < (bN : Nat)) ∧
            ∃ t0_1 : Int, ∃ t1_1 : Int, ∃ t2_1 : Int, ∃ t3_1 : Int, ∃ t4_1 : Int, ∃ t5_1 : Int, ∃ (t6A_1 : Option Addr) (t6N_1 t6C_1 : Nat), ∃ t7_1 : Int, ∃ t8_1 : List Int, t8_1.length = 32 ∧ ∃ t9_1 : Int, ∃ t10_1 : Int, ∃ t11_1 : List Int, t11_1.length = 32 ∧ ∃ t12_1 : List Int, t12_1.length = 32 ∧ ∃ (t13A_1 : Option Addr) (t13N_1 t13C_1 : Nat), (h1.rds bv_1 (ov_1 + st.1.toNat * 107) 107 = some (.int .u8 t0_1 :: (.int .i64 t1_1 :: (.int .i64 t2_1 :: (.int .i64 t3_1 :: (.int .i64 t4_1 :: (.int .i64 t5_1 :: (.slice t6A_1 t6N_1 t6C_1 :: (.int .i64 t7_1 :: (t8_1.map (Value.int .u8) ++ (.int .i64 t9_1 :: (.int .i64 t10_1 :: (t11_1.map (Value.int .u8) ++ (t12_1.map (Value.int .u8) ++ ([.slice t13A_1 t13N_1 t13C_1] : List Value))))))))))))))) ∧
            CallH Try.prog id_ref20_SameMsg [.agg ((.int .u8 t0 :: (.int .i64 t1 :: (.int .i64 t2 :: (.int .i64 t3 :: (.int .i64 t4 :: (.int .i64 t5 :: (.slice t6A t6N t6C :: (.int .i64 t7 :: (t8.map (Value.int .u8) ++ (.int .i64 t9 :: (.int .i64 t10 :: (t11.map (Value.int .u8) ++ (t12.map (Value.int .u8) ++ ([.slice t13A t13N t13C] : List Value))))))))))))))).toArray, .agg ((.int .u8 t0_1 :: (.int .i64 t1_1 :: (.int .i64 t2_1 :: (.int .i64 t3_1 :: (.int .i64 t4_1 :: (.int .i64 t5_1 :: (.slice t6A_1 t6N_1 t6C_1 :: (.int .i64 t7_1 :: (t8_1.map (Value.int .u8) ++ (.int .i64 t9_1 :: (.int .i64 t10_1 :: (t11_1.map (Value.int .u8) ++ (t12_1.map (Value.int .u8) ++ ([.slice t13A_1 t13N_1 t13C_1] : List Value))))))))))))))).toArray] (fun v h2 =>
              ∃ t : Bool, v = .bool t ∧
              (((!t) = true →
                  K (.bool false) h2) ∧
                ((!t) = false →
                  Jv ((IntKind.wrap .i64 (st.1 + (1 : Int))), ()) h2))) h1) ∧
          ((decide (st.1 < ((aN : Nat) : Int))) = false →
            K (.bool true) h1))) ((0 : Int), ()) h))
theorem F_ref20_SameAll_eq {aA : Option Addr} {aN aC : Nat} {bA : Option Addr} {bN bC : Nat} {K : Value → PH → Prop} {h : PH} : @Eq Prop (F_ref20_SameAll aA aN aC bA bN bC K h) (denF Try.prog Try.f19 ⟨[], [], [(0, ⟨[(5, .int .i64)], [], []⟩)], []⟩ [.v (.slice aA aN aC), .v (.slice bA bN bC)] K h) := by
  kernel_rfl
theorem F_ref20_SameAll_ok {aA : Option Addr} {aN aC : Nat} {bA : Option Addr} {bN bC : Nat}  {K : Value → PH → Prop} {h : PH} (hh : F_ref20_SameAll aA aN aC bA bN bC K h) : CallH Try.prog id_ref20_SameAll [.slice aA aN aC, .slice bA bN bC] K h :=
  denF_sound' Try.func19 (H := ⟨[], [], [(0, ⟨[(5, .int .i64)], [], []⟩)], []⟩) (xs := [.v (.slice aA aN aC), .v (.slice bA bN bC)]) (by kernel_rfl) (⟨rfl, rfl, trivial⟩) (den_of F_ref20_SameAll_eq hh)

/- twinlock/twinlocklaw20.three -/
def F_law20_three  (K : Value → PH → Prop) (h : PH) : Prop :=
  newH h (.cells #[.int .i64 (2 : Int), .int .i64 (1 : Int), .slice none 0 0, .int .i64 (3 : Int), .int .i64 (1 : Int), .slice none 0 0] T_api_Batch (0, 0)) fun bv h1 =>
  K (.agg #[.int .i64 (2 : Int), .int .i64 (3 : Int), .int .i64 (1 : Int), .slice (some ⟨bv, 0, none⟩) 2 2, .int .i64 (1 : Int), .slice none 0 0]) h1
theorem F_law20_three_eq  {K : Value → PH → Prop} {h : PH} : @Eq Prop (F_law20_three  K h) (denF Try.prog Try.f22 ⟨[0], [], [], []⟩ [] K h) := by
  kernel_rfl
theorem F_law20_three_ok   {K : Value → PH → Prop} {h : PH} (hh : F_law20_three  K h) : CallH Try.prog id_law20_three [] K h :=
  denF_sound' Try.func22 (H := ⟨[0], [], [], []⟩) (xs := []) (by kernel_rfl) (trivial) (den_of F_law20_three_eq hh)

/- twinlock/twinlockref20.SameMsg -/
def F_ref20_SameMsg (a0 : Int) (a1 : Int) (a2 : Int) (a3 : Int) (a4 : Int) (a5 : Int) (a6A : Option Addr) (a6N _ : Nat) (a7 : Int) (a8 : List Int) (a9 : Int) (a10 : Int) (a11 : List Int) (a12 : List Int) (a13A : Option Addr) (a13N _ : Nat) (b0 : Int) (b1 : Int) (b2 : Int) (b3 : Int) (b4 : Int) (b5 : Int) (b6A : Option Addr) (b6N _ : Nat) (b7 : Int) (b8 : List Int) (b9 : Int) (b10 : Int) (b11 : List Int) (b12 : List Int) (b13A : Option Addr) (b13N _ : Nat) (K : Value → PH → Prop) (h : PH) : Prop :=
  ((((((a6N : Nat) : Int) != ((b6N : Nat) : Int)) || (((a13N : Nat) : Int) != ((b13N : Nat) : Int))) = true →
      K (.bool false) h) ∧
    (((((a6N : Nat) : Int) != ((b6N : Nat) : Int)) || (((a13N : Nat) : Int) != ((b13N : Nat) : Int))) = false →
      LoopP (T := Int × Unit) (fun Jv st h1 =>
        (((decide (st.1 < ((a6N : Nat) : Int))) = true →
            ∃ bv ov : Nat, (a6A = some ⟨bv, ov, none⟩ ∧ 0 ≤ st.1 ∧ st.1 < (a6N : Nat)) ∧
            ∃ t0 : Int, ∃ t1 : ByteArray, ∃ t2 : ByteArray, (h1.rds bv (ov + st.1.toNat * 3) 3 = some [.int .u8 t0, .string t1, .string t2]) ∧
            ∃ bv_1 ov_1 : Nat, (b6A = some ⟨bv_1, ov_1, none⟩ ∧ 0 ≤ st.1 ∧ st.1 < (b6N : Nat)) ∧
            ∃ t0_1 : Int, ∃ t1_1 : ByteArray, ∃ t2_1 : ByteArray, (h1.rds bv_1 (ov_1 + st.1.toNat * 3) 3 = some [.int .u8 t0_1, .string t1_1, .string t2_1]) ∧
            (((!((t0 == t0_1) && ((strEq t1 t1_1) && ((strEq t2 t2_1) && true)))) = true →
                K (.bool false) h1) ∧
              ((!((t0 == t0_1) && ((strEq t1 t1_1) && ((strEq t2 t2_1) && true)))) = false →
                Jv ((IntKind.wrap .i64 (st.1 + (1 : Int))), ()) h1))) ∧
          ((decide (st.1 < ((a6N : Nat) : Int))) = false →
            LoopP (T := Int × Unit) (fun Jv_1 st_1 h2 =>
              (((decide (st_1.1 < ((a13N : Nat) : Int))) = true →
                  ∃ bv_2 ov_2 : Nat, (a13A = some ⟨bv_2, ov_2, none⟩ ∧ 0 ≤ st_1.1 ∧ st_1.1 < (a13N : Nat)) ∧
                  ∃ t0_2 : ByteArray, ∃ t1_2 : ByteArray, (h2.rds bv_2 (ov_2 + st_1.1.toNat * 2) 2 = some [.string t0_2, .string t1_2]) ∧
                  ∃ bv_3 ov_3 : Nat, (b13A = some ⟨bv_3, ov_3, none⟩ ∧ 0 ≤ st_1.1 ∧ st_1.1 < (b13N : Nat)) ∧
                  ∃ t0_3 : ByteArray, ∃ t1_3 : ByteArray, (h2.rds bv_3 (ov_3 + st_1.1.toNat * 2) 2 = some [.string t0_3, .string t1_3]) ∧
                  (((!((strEq t0_2 t0_3) && ((strEq t1_2 t1_3) && true))) = true →
                      K (.bool false) h2) ∧
                    ((!((strEq t0_2 t0_3) && ((strEq t1_2 t1_3) && true))) = false →
                      Jv_1 ((IntKind.wrap .i64 (st_1.1 + (1 : Int))), ()) h2))) ∧
                ((decide (st_1.1 < ((a13N : Nat) : Int))) = false →
                  K (.bool ((((((((((((a0 == b0) && (a1 == b1)) && (a2 == b2)) && (a3 == b3)) && (a4 == b4)) && (a5 == b5)) && (a7 == b7)) && (a8 == b8)) && (a9 == b9)) && (a10 == b10)) && (a11 == b11)) && (a12 == b12))) h2))) ((0 : Int), ()) h1))) ((0 : Int), ()) h))
theorem F_ref20_SameMsg_eq {a0 : Int} {a1 : Int} {a2 : Int} {a3 : Int} {a4 : Int} {a5 : Int} {a6A : Option Addr} {a6N a6C : Nat} {a7 : Int} {a8 : List Int} {a9 : Int} {a10 : Int} {a11 : List Int} {a12 : List Int} {a13A : Option Addr} {a13N a13C : Nat} {b0 : Int} {b1 : Int} {b2 : Int} {b3 : Int} {b4 : Int} {b5 : Int} {b6A : Option Addr} {b6N b6C : Nat} {b7 : Int} {b8 : List Int} {b9 : Int} {b10 : Int} {b11 : List Int} {b12 : List Int} {b13A : Option Addr} {b13N b13C : Nat} {K : Value → PH → Prop} {h : PH} : @Eq Prop (F_ref20_SameMsg a0 a1 a2 a3 a4 a5 a6A a6N a6C a7 a8 a9 a10 a11 a12 a13A a13N a13C b0 b1 b2 b3 b4 b5 b6A b6N b6C b7 b8 b9 b10 b11 b12 b13A b13N b13C K h) (denF Try.prog Try.f35 ⟨[2, 3], [], [(0, ⟨[(5, .int .i64)], [], []⟩), (2, ⟨[(6, .int .i64)], [], []⟩)], []⟩ [.agg [.one (.int .u8 a0), .one (.int .i64 a1), .one (.int .i64 a2), .one (.int .i64 a3), .one (.int .i64 a4), .one (.int .i64 a5), .one (.slice a6A a6N a6C), .one (.int .i64 a7), .ints .u8 32 a8, .one (.int .i64 a9), .one (.int .i64 a10), .ints .u8 32 a11, .ints .u8 32 a12, .one (.slice a13A a13N a13C)], .agg [.one (.int .u8 b0), .one (.int .i64 b1), .one (.int .i64 b2), .one (.int .i64 b3), .one (.int .i64 b4), .one (.int .i64 b5), .one (.slice b6A b6N b6C), .one (.int .i64 b7), .ints .u8 32 b8, .one (.int .i64 b9), .one (.int .i64 b10), .ints .u8 32 b11, .ints .u8 32 b12, .one (.slice b13A b13N b13C)]] K h) := by
  kernel_rfl
theorem F_ref20_SameMsg_ok {a0 : Int} {a1 : Int} {a2 : Int} {a3 : Int} {a4 : Int} {a5 : Int} {a6A : Option Addr} {a6N a6C : Nat} {a7 : Int} {a8 : List Int} {a9 : Int} {a10 : Int} {a11 : List Int} {a12 : List Int} {a13A : Option Addr} {a13N a13C : Nat} {b0 : Int} {b1 : Int} {b2 : Int} {b3 : Int} {b4 : Int} {b5 : Int} {b6A : Option Addr} {b6N b6C : Nat} {b7 : Int} {b8 : List Int} {b9 : Int} {b10 : Int} {b11 : List Int} {b12 : List Int} {b13A : Option Addr} {b13N b13C : Nat} (hk0 : a8.length = 32) (hk1 : a11.length = 32) (hk2 : a12.length = 32) (hk3 : b8.length = 32) (hk4 : b11.length = 32) (hk5 : b12.length = 32) {K : Value → PH → Prop} {h : PH} (hh : F_ref20_SameMsg a0 a1 a2 a3 a4 a5 a6A a6N a6C a7 a8 a9 a10 a11 a12 a13A a13N a13C b0 b1 b2 b3 b4 b5 b6A b6N b6C b7 b8 b9 b10 b11 b12 b13A b13N b13C K h) : CallH Try.prog id_ref20_SameMsg [.agg ((.int .u8 a0 :: (.int .i64 a1 :: (.int .i64 a2 :: (.int .i64 a3 :: (.int .i64 a4 :: (.int .i64 a5 :: (.slice a6A a6N a6C :: (.int .i64 a7 :: (a8.map (Value.int .u8) ++ (.int .i64 a9 :: (.int .i64 a10 :: (a11.map (Value.int .u8) ++ (a12.map (Value.int .u8) ++ ([.slice a13A a13N a13C] : List Value))))))))))))))).toArray, .agg ((.int .u8 b0 :: (.int .i64 b1 :: (.int .i64 b2 :: (.int .i64 b3 :: (.int .i64 b4 :: (.int .i64 b5 :: (.slice b6A b6N b6C :: (.int .i64 b7 :: (b8.map (Value.int .u8) ++ (.int .i64 b9 :: (.int .i64 b10 :: (b11.map (Value.int .u8) ++ (b12.map (Value.int .u8) ++ ([.slice b13A b13N b13C] : List Value))))))))))))))).toArray] K h :=
  denF_sound' Try.func35 (H := ⟨[2, 3], [], [(0, ⟨[(5, .int .i64)], [], []⟩), (2, ⟨[(6, .int .i64)], [], []⟩)], []⟩) (xs := [.agg [.one (.int .u8 a0), .one (.int .i64 a1), .one (.int .i64 a2), .one (.int .i64 a3), .one (.int .i64 a4), .one (.int .i64 a5), .one (.slice a6A a6N a6C), .one (.int .i64 a7), .ints .u8 32 a8, .one (.int .i64 a9), .one (.int .i64 a10), .ints .u8 32 a11, .ints .u8 32 a12, .one (.slice a13A a13N a13C)], .agg [.one (.int .u8 b0), .one (.int .i64 b1), .one (.int .i64 b2), .one (.int .i64 b3), .one (.int .i64 b4), .one (.int .i64 b5), .one (.slice b6A b6N b6C), .one (.int .i64 b7), .ints .u8 32 b8, .one (.int .i64 b9), .one (.int .i64 b10), .ints .u8 32 b11, .ints .u8 32 b12, .one (.slice b13A b13N b13C)]]) (by kernel_rfl) (⟨⟨rfl, rfl, rfl, rfl, rfl, rfl, rfl, rfl, hk0, rfl, rfl, hk1, hk2, rfl, trivial⟩, ⟨rfl, rfl, rfl, rfl, rfl, rfl, rfl, rfl, hk3, rfl, rfl, hk4, hk5, rfl, trivial⟩, trivial⟩) (den_of F_ref20_SameMsg_eq hh)


end TL


