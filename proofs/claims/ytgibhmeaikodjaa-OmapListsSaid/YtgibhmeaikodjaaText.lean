/-
  The functions of the program as predicates on heap fragments, each tied to its code. No condition.
-/
import Derived.Test.YtgibhmeaikodjaaLibC
import Derived.Test.YtgibhmeaikodjaaProg
namespace TL
open Go Go.Proofs
abbrev id_gosem_cut_init : FuncId := 2
abbrev id_law13_OmapLasts : FuncId := 3
abbrev id_law13_OmapLists : FuncId := 4
abbrev id_law13_OmapShips : FuncId := 5
abbrev id_law13_OmapPlays : FuncId := 6
abbrev id_law13_OmapFilters : FuncId := 7
abbrev id_law13_OmapKnown : FuncId := 8
abbrev id_law13_OmapNobody : FuncId := 9
abbrev id_law13_OmapWhole : FuncId := 10
abbrev id_law13_Great : FuncId := 11
abbrev id_law13_wakes : FuncId := 12
abbrev id_omap_New : FuncId := 13
abbrev id_omap_Map_Do : FuncId := 14
abbrev id_omap_Map_Get : FuncId := 15
abbrev id_omap_Map_All : FuncId := 16
abbrev id_omap_Map_Len : FuncId := 17
abbrev id_omap_Map_List : FuncId := 18
abbrev id_path_Cut : FuncId := 19
abbrev id_law11_Great : FuncId := 20
abbrev id_law13_shipped : FuncId := 21
abbrev id_omap_Same : FuncId := 22
abbrev id_omap_Map_Filter : FuncId := 23
abbrev id_law13_GreatPairs : FuncId := 24
abbrev id_omap_Of : FuncId := 25
abbrev id_ref13_Of : FuncId := 26
abbrev id_ref13_Map_Do : FuncId := 27
abbrev id_ref13_Map_Get : FuncId := 28
abbrev id_ref13_Same : FuncId := 29
abbrev id_law13_SameTexts : FuncId := 30
abbrev id_ref13_Map_List : FuncId := 31
abbrev id_ref13_Map_Filter : FuncId := 32
abbrev id_law13_OmapKnown_1 : FuncId := 33
abbrev id_law13_two : FuncId := 34
abbrev id_law12_GreatOps : FuncId := 35
abbrev id_omap_Map_Twin : FuncId := 36
abbrev id_batch_Right : FuncId := 37
abbrev id_maps_Clone_map_string_string_string_string : FuncId := 38
abbrev id_omap_Map_paths : FuncId := 39
abbrev id_slices_DeleteFunc_string_string : FuncId := 40
abbrev id_omap_Map_List_1 : FuncId := 41
abbrev id_strings_HasPrefix : FuncId := 42
abbrev id_strings_Cut : FuncId := 43
abbrev id_path_named : FuncId := 44
abbrev id_path_key : FuncId := 45
abbrev id_path_Ships : FuncId := 46
abbrev id_slices_Equal_api_Pair_api_Pair : FuncId := 47
abbrev id_ref11_Cut : FuncId := 48
abbrev id_ref13_Map_find : FuncId := 49
abbrev id_ref13_Map_With : FuncId := 50
abbrev id_ref12_Right : FuncId := 51
abbrev id_ref13_Map_Does : FuncId := 52
abbrev id_ref11_Ships : FuncId := 53
abbrev id_batch_each : FuncId := 54
abbrev id_batch_Right_1 : FuncId := 55
abbrev id_slices_Sorted_string : FuncId := 57
abbrev id_maps_Keys_map_string_string_string_string : FuncId := 58
abbrev id_slices_IndexFunc_string_string : FuncId := 59
abbrev id_internal_stringslite_HasPrefix : FuncId := 60
abbrev id_internal_stringslite_Cut : FuncId := 61
abbrev id_strings_IndexByte : FuncId := 62
abbrev id_path_Of : FuncId := 63
abbrev id_ref11_Named : FuncId := 64
abbrev id_ref11_Key : FuncId := 65
abbrev id_ref11_Less : FuncId := 66
abbrev id_ref12_value : FuncId := 67
abbrev id_ref13_Map_Without : FuncId := 68
abbrev id_ref11_Of : FuncId := 69
abbrev id_slices_Collect_string : FuncId := 70
abbrev id_slices_Sort_string_string : FuncId := 71
abbrev id_maps_Keys_map_string_string_string_string_1 : FuncId := 72
abbrev id_internal_stringslite_Index : FuncId := 73
abbrev id_internal_stringslite_IndexByte : FuncId := 74
abbrev id_slices_IndexFunc_api_Mount_api_Mount : FuncId := 75
abbrev id_path_Of_1 : FuncId := 76
abbrev id_slices_AppendSeq_string_string : FuncId := 77
abbrev id_slices_pdqsortOrdered_string : FuncId := 78
abbrev id_math_bits_Len : FuncId := 79
abbrev id_internal_bytealg_IndexString : FuncId := 80
abbrev id_internal_bytealg_Cutover : FuncId := 81
abbrev id_internal_bytealg_IndexRabinKarp_string : FuncId := 82
abbrev id_internal_bytealg_IndexByteString : FuncId := 83
abbrev id_slices_insertionSortOrdered_string : FuncId := 84
abbrev id_slices_heapSortOrdered_string : FuncId := 85
abbrev id_slices_breakPatternsOrdered_string : FuncId := 86
abbrev id_slices_choosePivotOrdered_string : FuncId := 87
abbrev id_slices_reverseRangeOrdered_string : FuncId := 88
abbrev id_slices_partialInsertionSortOrdered_string : FuncId := 89
abbrev id_cmp_Less_string : FuncId := 90
abbrev id_slices_partitionEqualOrdered_string : FuncId := 91
abbrev id_slices_partitionOrdered_string : FuncId := 92
abbrev id_math_bits_Len32 : FuncId := 93
abbrev id_math_bits_Len64 : FuncId := 94
abbrev id_internal_bytealg_hashStr_string : FuncId := 95
abbrev id_slices_siftDownOrdered_string : FuncId := 96
abbrev id_slices_nextPowerOfTwo : FuncId := 97
abbrev id_slices_xorshift_Next : FuncId := 98
abbrev id_slices_medianAdjacentOrdered_string : FuncId := 99
abbrev id_slices_medianOrdered_string : FuncId := 100
abbrev id_cmp_isNaN_string : FuncId := 101
abbrev id_slices_order2Ordered_string : FuncId := 102
abbrev T_api_Mount : TypeId := 82
abbrev T_api_Op : TypeId := 31
abbrev T_api_Pair : TypeId := 37
abbrev T_omap_Map : TypeId := 71
/- twinlock/twinlocklaw13.OmapLasts -/
set_option maxRecDepth 100000 in
def F_law13_OmapLasts (rowsA : Option Addr) (rowsN rowsC : Nat) (p : ByteArray) (K : Value → PH → Prop) (h : PH) : Prop :=
  CallH Try.prog id_law13_Great [.slice rowsA rowsN rowsC] (fun v h1 =>
    ∃ t : Bool, v = .bool t ∧
    (((t || (decide ((p.size : Int) > (1000 : Int)))) = true →
        CallH Try.prog id_law13_wakes [] (fun v_1 h2 =>
          ∃ t_1 : Bool, v_1 = .bool t_1 ∧
          K (.bool t_1) h2) h1) ∧
      ((t || (decide ((p.size : Int) > (1000 : Int)))) = false →
        CallH Try.prog id_omap_New [] (fun v_2 h3 =>
          ∃ m : Option Addr, v_2 = .pointer m ∧
          LoopP (T := ByteArray × Bool × Int × Unit) (fun Jv st h4 =>
            (((decide (st.2.2.1 < ((rowsN : Nat) : Int))) = true →
                ∃ bv ov : Nat, (rowsA = some ⟨bv, ov, none⟩ ∧ 0 ≤ st.2.2.1 ∧ st.2.2.1 < (rowsN : Nat)) ∧
                ∃ (tA : Option Addr) (tN tC : Nat), (h4.rds bv (ov + st.2.2.1.toNat * 1) 1 = some [.slice tA tN tC]) ∧
                CallH Try.prog id_omap_Map_Do [.pointer m, .slice tA tN tC] (fun v_3 h5 =>
                  ∃ t_2 : Int, v_3 = .int .i64 t_2 ∧
                  (((t_2 != (0 : Int)) = true →
                      Jv (st.1, st.2.1, (IntKind.wrap .i64 (st.2.2.1 + (1 : Int))), ()) h5) ∧
                    ((t_2 != (0 : Int)) = false →
                      LoopP (T := ByteArray × Bool × Int × Unit) (fun Jv_1 st_1 h6 =>
                        ∃ bv_1 ov_1 : Nat, (rowsA = some ⟨bv_1, ov_1, none⟩ ∧ 0 ≤ st.2.2.1 ∧ st.2.2.1 < (rowsN : Nat)) ∧
                        ∃ (tA_1 : Option Addr) (tN_1 tC_1 : Nat), (h6.rds bv_1 (ov_1 + st.2.2.1.toNat * 1) 1 = some [.slice tA_1 tN_1 tC_1]) ∧
                        (((decide (st_1.2.2.1 < ((tN_1 : Nat) : Int))) = true →
                            ∃ bv_2 ov_2 : Nat, (rowsA = some ⟨bv_2, ov_2, none⟩ ∧ 0 ≤ st.2.2.1 ∧ st.2.2.1 < (rowsN : Nat)) ∧
                            ∃ (tA_2 : Option Addr) (tN_2 tC_2 : Nat), (h6.rds bv_2 (ov_2 + st.2.2.1.toNat * 1) 1 = some [.slice tA_2 tN_2 tC_2]) ∧
                            ∃ bv_3 ov_3 : Nat, (tA_2 = some ⟨bv_3, ov_3, none⟩ ∧ 0 ≤ st_1.2.2.1 ∧ st_1.2.2.1 < (tN_2 : Nat)) ∧
                            ∃ t_3 : ByteArray, (h6.rds bv_3 ((ov_3 + st_1.2.2.1.toNat * 3) + 1) 1 = some [.string t_3]) ∧
                            (((strEq t_3 p) = true →
                                ∃ bv_4 ov_4 : Nat, (rowsA = some ⟨bv_4, ov_4, none⟩ ∧ 0 ≤ st.2.2.1 ∧ st.2.2.1 < (rowsN : Nat)) ∧
                                ∃ (tA_3 : Option Addr) (tN_3 tC_3 : Nat), (h6.rds bv_4 (ov_4 + st.2.2.1.toNat * 1) 1 = some [.slice tA_3 tN_3 tC_3]) ∧
                                ∃ bv_5 ov_5 : Nat, (tA_3 = some ⟨bv_5, ov_5, none⟩ ∧ 0 ≤ st_1.2.2.1 ∧ st_1.2.2.1 < (tN_3 : Nat)) ∧
                                ∃ value : ByteArray, (h6.rds bv_5 ((ov_5 + st_1.2.2.1.toNat * 3) + 2) 1 = some [.string value]) ∧
                                ∃ bv_6 ov_6 : Nat, (rowsA = some ⟨bv_6, ov_6, none⟩ ∧ 0 ≤ st.2.2.1 ∧ st.2.2.1 < (rowsN : Nat)) ∧
                                ∃ (tA_4 : Option Addr) (tN_4 tC_4 : Nat), (h6.rds bv_6 (ov_6 + st.2.2.1.toNat * 1) 1 = some [.slice tA_4 tN_4 tC_4]) ∧
                                ∃ bv_7 ov_7 : Nat, (tA_4 = some ⟨bv_7, ov_7, none⟩ ∧ 0 ≤ st_1.2.2.1 ∧ st_1.2.2.1 < (tN_4 : Nat)) ∧
                                ∃ t_4 : Int, (h6.rds bv_7 (ov_7 + st_1.2.2.1.toNat * 3) 1 = some [.int .u8 t_4]) ∧
                                Jv_1 (value, (t_4 == (1 : Int)), (IntKind.wrap .i64 (st_1.2.2.1 + (1 : Int))), ()) h6) ∧
                              ((strEq t_3 p) = false →
                                Jv_1 (st_1.1, st_1.2.1, (IntKind.wrap .i64 (st_1.2.2.1 + (1 : Int))), ()) h6))) ∧
                          ((decide (st_1.2.2.1 < ((tN_1 : Nat) : Int))) = false →
                            Jv (st_1.1, st_1.2.1, (IntKind.wrap .i64 (st.2.2.1 + (1 : Int))), ()) h6))) (st.1, st.2.1, (0 : Int), ()) h5))) h4) ∧
              ((decide (st.2.2.1 < ((rowsN : Nat) : Int))) = false →
                CallH Try.prog id_omap_Map_Get [.pointer m, .string p] (fun v_4 h7 =>
                  ∃ t0 : ByteArray, ∃ t1 : Bool, v_4 = .tuple #[.string t0, .bool t1] ∧
                  (((!(t1 == st.2.1)) = false →
                      (((t1 && (!(strEq t0 st.1))) = true →
                          K (.bool false) h7) ∧
                        ((t1 && (!(strEq t0 st.1))) = false →
                          CallH Try.prog id_omap_Map_All [.pointer m] (fun v_5 h8 =>
                            ∃ (lA : Option Addr) (lN lC : Nat), v_5 = .slice lA lN lC ∧
                            LoopP (T := Int × Unit) (fun Jv_2 st_2 h9 =>
                              (((decide (st_2.1 < ((lN : Nat) : Int))) = true →
                                  ∃ bv_8 ov_8 : Nat, (lA = some ⟨bv_8, ov_8, none⟩ ∧ 0 ≤ st_2.1 ∧ st_2.1 < (lN : Nat)) ∧
                                  ∃ t_5 : ByteArray, (h9.rds bv_8 (ov_8 + st_2.1.toNat * 2) 1 = some [.string t_5]) ∧
                                  CallH Try.prog id_omap_Map_Get [.pointer m, .string t_5] (fun v_6 h10 =>
                                    ∃ t0_1 : ByteArray, ∃ t1_1 : Bool, v_6 = .tuple #[.string t0_1, .bool t1_1] ∧
                                    ∃ bv_9 ov_9 : Nat, (((!t1_1) = false → lA = some ⟨bv_9, ov_9, none⟩ ∧ 0 ≤ st_2.1 ∧ st_2.1 < (lN : Nat))) ∧
                                    ∃ t_6 : ByteArray, (((!t1_1) = false → h10.rds bv_9 ((ov_9 + st_2.1.toNat * 2) + 1) 1 = some [.string t_6])) ∧
                                    ((((!t1_1) || (!(strEq t0_1 t_6))) = false →
                                        ∃ bv_10 ov_10 : Nat, (((decide (st_2.1 > (0 : Int))) = true → lA = some ⟨bv_10, ov_10, none⟩ ∧ 0 ≤ (IntKind.wrap .i64 (st_2.1 - (1 : Int))) ∧ (IntKind.wrap .i64 (st_2.1 - (1 : Int))) < (lN : Nat))) ∧
                                        ∃ t_7 : ByteArray, (((decide (st_2.1 > (0 : Int))) = true → h10.rds bv_10 (ov_10 + (IntKind.wrap .i64 (st_2.1 - (1 : Int))).toNat * 2) 1 = some [.string t_7])) ∧
                                        ∃ bv_11 ov_11 : Nat, (((decide (st_2.1 > (0 : Int))) = true → lA = some ⟨bv_11, ov_11, none⟩ ∧ 0 ≤ st_2.1 ∧ st_2.1 < (lN : Nat))) ∧
                                        ∃ t_8 : ByteArray, (((decide (st_2.1 > (0 : Int))) = true → h10.rds bv_11 (ov_11 + st_2.1.toNat * 2) 1 = some [.string t_8])) ∧
                                        ((((decide (st_2.1 > (0 : Int))) && (!(strLt t_7 t_8))) = true →
                                            K (.bool false) h10) ∧
                                          (((decide (st_2.1 > (0 : Int))) && (!(strLt t_7 t_8))) = false →
                                            Jv_2 ((IntKind.wrap .i64 (st_2.1 + (1 : Int))), ()) h10))) ∧
                                      (((!t1_1) || (!(strEq t0_1 t_6))) = true →
                                        K (.bool false) h10))) h9) ∧
                                ((decide (st_2.1 < ((lN : Nat) : Int))) = false →
                                  CallH Try.prog id_omap_Map_Len [.pointer m] (fun v_7 h11 =>
                                    ∃ t_9 : Int, v_7 = .int .i64 t_9 ∧
                                    (((((lN : Nat) : Int) == t_9) = true →
                                        CallH Try.prog id_omap_Map_Len [.pointer m] (fun v_8 h12 =>
                                          ∃ t_10 : Int, v_8 = .int .i64 t_10 ∧
                                          (((decide (t_10 ≤ (48 : Int))) = true →
                                              CallH Try.prog id_law13_wakes [] (fun v_9 h13 =>
                                                ∃ t_11 : Bool, v_9 = .bool t_11 ∧
                                                K (.bool t_11) h13) h12) ∧
                                            ((decide (t_10 ≤ (48 : Int))) = false →
                                              K (.bool false) h12))) h11) ∧
                                      ((((lN : Nat) : Int) == t_9) = false →
                                        K (.bool false) h11))) h9))) ((0 : Int), ()) h8) h7))) ∧
                    ((!(t1 == st.2.1)) = true →
                      K (.bool false) h7))) h4))) ((⟨#[]⟩ : ByteArray), false, (0 : Int), ()) h3) h1))) h
set_option maxRecDepth 100000 in
theorem F_law13_OmapLasts_eq {rowsA : Option Addr} {rowsN rowsC : Nat} {p : ByteArray} {K : Value → PH → Prop} {h : PH} : @Eq Prop (F_law13_OmapLasts rowsA rowsN rowsC p K h) (denF Try.prog Try.f3 ⟨[], [], [(0, ⟨[(6, .str), (7, .bool), (8, .int .i64)], [], []⟩), (2, ⟨[(6, .str), (7, .bool), (9, .int .i64)], [], []⟩), (4, ⟨[(13, .int .i64)], [], []⟩)], []⟩ [.v (.slice rowsA rowsN rowsC), .v (.string p)] K h) := by
  kernel_rfl
theorem F_law13_OmapLasts_ok {rowsA : Option Addr} {rowsN rowsC : Nat} {p : ByteArray}  {K : Value → PH → Prop} {h : PH} (hh : F_law13_OmapLasts rowsA rowsN rowsC p K h) : CallH Try.prog id_law13_OmapLasts [.slice rowsA rowsN rowsC, .string p] K h :=
  denF_sound' Try.func3 (H := ⟨[], [], [(0, ⟨[(6, .str), (7, .bool), (8, .int .i64)], [], []⟩), (2, ⟨[(6, .str), (7, .bool), (9, .int .i64)], [], []⟩), (4, ⟨[(13, .int .i64)], [], []⟩)], []⟩) (xs := [.v (.slice rowsA rowsN rowsC), .v (.string p)]) (by kernel_rfl) (⟨rfl, rfl, trivial⟩) (den_of F_law13_OmapLasts_eq hh)

/- twinlock/twinlocklaw13.OmapLists -/
set_option maxRecDepth 100000 in
def F_law13_OmapLists (rowsA : Option Addr) (rowsN rowsC : Nat) (p : ByteArray) (K : Value → PH → Prop) (h : PH) : Prop :=
  CallH Try.prog id_law13_Great [.slice rowsA rowsN rowsC] (fun v h1 =>
    ∃ t : Bool, v = .bool t ∧
    (((t || (decide ((p.size : Int) > (1000 : Int)))) = true →
        CallH Try.prog id_law13_wakes [] (fun v_1 h2 =>
          ∃ t_1 : Bool, v_1 = .bool t_1 ∧
          K (.bool t_1) h2) h1) ∧
      ((t || (decide ((p.size : Int) > (1000 : Int)))) = false →
        CallH Try.prog id_omap_New [] (fun v_2 h3 =>
          ∃ m : Option Addr, v_2 = .pointer m ∧
          LoopP (T := Int × Unit) (fun Jv st h4 =>
            (((decide (st.1 < ((rowsN : Nat) : Int))) = true →
                ∃ bv ov : Nat, (rowsA = some ⟨bv, ov, none⟩ ∧ 0 ≤ st.1 ∧ st.1 < (rowsN : Nat)) ∧
                ∃ (tA : Option Addr) (tN tC : Nat), (h4.rds bv (ov + st.1.toNat * 1) 1 = some [.slice tA tN tC]) ∧
                CallH Try.prog id_omap_Map_Do [.pointer m, .slice tA tN tC] (fun v_3 h5 =>
                  ∃ t_2 : Int, v_3 = .int .i64 t_2 ∧
                  Jv ((IntKind.wrap .i64 (st.1 + (1 : Int))), ()) h5) h4) ∧
              ((decide (st.1 < ((rowsN : Nat) : Int))) = false →
                CallH Try.prog id_omap_Map_List [.pointer m, .string p] (fun v_4 h6 =>
                  ∃ (lA : Option Addr) (lN lC : Nat), v_4 = .slice lA lN lC ∧
                  CallH Try.prog id_omap_Map_List [.pointer m, .string (⟨#[]⟩ : ByteArray)] (fun v_5 h7 =>
                    ∃ (allA : Option Addr) (allN allC : Nat), v_5 = .slice allA allN allC ∧
                    LoopP (T := Int × Int × Unit) (fun Jv_1 st_1 h8 =>
                      (((decide (st_1.2.1 < ((allN : Nat) : Int))) = true →
                          ∃ bv_1 ov_1 : Nat, (allA = some ⟨bv_1, ov_1, none⟩ ∧ 0 ≤ st_1.2.1 ∧ st_1.2.1 < (allN : Nat)) ∧
                          ∃ t_3 : ByteArray, (h8.rds bv_1 (ov_1 + st_1.2.1.toNat * 1) 1 = some [.string t_3]) ∧
                          ∃ bv_2 ov_2 : Nat, (((decide ((t_3.size : Int) ≥ (p.size : Int))) = true → allA = some ⟨bv_2, ov_2, none⟩ ∧ 0 ≤ st_1.2.1 ∧ st_1.2.1 < (allN : Nat))) ∧
                          ∃ t_4 : ByteArray, (((decide ((t_3.size : Int) ≥ (p.size : Int))) = true → h8.rds bv_2 (ov_2 + st_1.2.1.toNat * 1) 1 = some [.string t_4])) ∧
                          (((decide ((t_3.size : Int) ≥ (p.size : Int))) = true → 0 ≤ (0 : Int) ∧ (0 : Int) ≤ (p.size : Int) ∧ (p.size : Int) ≤ (ByteArray.size t_4 : Nat))) ∧
                          ((((decide ((t_3.size : Int) ≥ (p.size : Int))) && (strEq (subS t_4 (0 : Int) (p.size : Int)) p)) = true →
                              ∃ bv_3 ov_3 : Nat, (((decide (st_1.1 ≥ ((lN : Nat) : Int))) = false → lA = some ⟨bv_3, ov_3, none⟩ ∧ 0 ≤ st_1.1 ∧ st_1.1 < (lN : Nat))) ∧
                              ∃ t_5 : ByteArray, (((decide (st_1.1 ≥ ((lN : Nat) : Int))) = false → h8.rds bv_3 (ov_3 + st_1.1.toNat * 1) 1 = some [.string t_5])) ∧
                              ∃ bv_4 ov_4 : Nat, (((decide (st_1.1 ≥ ((lN : Nat) : Int))) = false → allA = some ⟨bv_4, ov_4, none⟩ ∧ 0 ≤ st_1.2.1 ∧ st_1.2.1 < (allN : Nat))) ∧
                              ∃ t_6 : ByteArray, (((decide (st_1.1 ≥ ((lN : Nat) : Int))) = false → h8.rds bv_4 (ov_4 + st_1.2.1.toNat * 1) 1 = some [.string t_6])) ∧
                              ((((decide (st_1.1 ≥ ((lN : Nat) : Int))) || (!(strEq t_5 t_6))) = true →
                                  K (.bool false) h8) ∧
                                (((decide (st_1.1 ≥ ((lN : Nat) : Int))) || (!(strEq t_5 t_6))) = false →
                                  Jv_1 ((IntKind.wrap .i64 (st_1.1 + (1 : Int))), (IntKind.wrap .i64 (st_1.2.1 + (1 : Int))), ()) h8))) ∧
                            (((decide ((t_3.size : Int) ≥ (p.size : Int))) && (strEq (subS t_4 (0 : Int) (p.size : Int)) p)) = false →
                              Jv_1 (st_1.1, (IntKind.wrap .i64 (st_1.2.1 + (1 : Int))), ()) h8))) ∧
                        ((decide (st_1.2.1 < ((allN : Nat) : Int))) = false →
                          CallH Try.prog id_path_Cut [.string p] (fun v_6 h9 =>
                            ∃ t0 : ByteArray, ∃ t1 : ByteArray, ∃ t2 : Bool, v_6 = .tuple #[.string t0, .string t1, .bool t2] ∧
                            JoinP (T := Unit) (fun Jv_2 =>
                              ((t2 = true →
                                  (((ByteArray.size t0 + ByteArray.size (⟨#[47]⟩ : ByteArray) : Nat) : Int) ≤ 9223372036854775807) ∧
                                  CallH Try.prog id_omap_Map_List [.pointer m, .string (t0 ++ (⟨#[47]⟩ : ByteArray))] (fun v_7 h11 =>
                                    ∃ (ownA : Option Addr) (ownN ownC : Nat), v_7 = .slice ownA ownN ownC ∧
                                    LoopP (T := Int × Unit) (fun Jv_3 st_3 h12 =>
                                      (((decide (st_3.1 < ((ownN : Nat) : Int))) = true →
                                          ∃ bv_5 ov_5 : Nat, (ownA = some ⟨bv_5, ov_5, none⟩ ∧ 0 ≤ st_3.1 ∧ st_3.1 < (ownN : Nat)) ∧
                                          ∃ t_7 : ByteArray, (h12.rds bv_5 (ov_5 + st_3.1.toNat * 1) 1 = some [.string t_7]) ∧
                                          CallH Try.prog id_path_Cut [.string t_7] (fun v_8 h13 =>
                                            ∃ t0_1 : ByteArray, ∃ t1_1 : ByteArray, ∃ t2_1 : Bool, v_8 = .tuple #[.string t0_1, .string t1_1, .bool t2_1] ∧
                                            ((((!t2_1) || (!(strEq t0_1 t0))) = true →
                                                K (.bool false) h13) ∧
                                              (((!t2_1) || (!(strEq t0_1 t0))) = false →
                                                Jv_3 ((IntKind.wrap .i64 (st_3.1 + (1 : Int))), ()) h13))) h12) ∧
                                        ((decide (st_3.1 < ((ownN : Nat) : Int))) = false →
                                          Jv_2 (()) h12))) ((0 : Int), ()) h11) h9) ∧
                                (t2 = false →
                                  Jv_2 (()) h9)))
                            (fun _ h10 =>
                              (((st_1.1 == ((lN : Nat) : Int)) = true →
                                  CallH Try.prog id_omap_Map_Len [.pointer m] (fun v_9 h14 =>
                                    ∃ t_8 : Int, v_9 = .int .i64 t_8 ∧
                                    (((((allN : Nat) : Int) == t_8) = true →
                                        CallH Try.prog id_law13_wakes [] (fun v_10 h15 =>
                                          ∃ t_9 : Bool, v_10 = .bool t_9 ∧
                                          K (.bool t_9) h15) h14) ∧
                                      ((((allN : Nat) : Int) == t_8) = false →
                                        K (.bool false) h14))) h10) ∧
                                ((st_1.1 == ((lN : Nat) : Int)) = false →
                                  K (.bool false) h10)))) h8))) ((0 : Int), (0 : Int), ()) h7) h6) h4))) ((0 : Int), ()) h3) h1))) h
set_option maxRecDepth 100000 in
theorem F_law13_OmapLists_eq {rowsA : Option Addr} {rowsN rowsC : Nat} {p : ByteArray} {K : Value → PH → Prop} {h : PH} : @Eq Prop (F_law13_OmapLists rowsA rowsN rowsC p K h) (denF Try.prog Try.f4 ⟨[], [], [(0, ⟨[(6, .int .i64)], [], []⟩), (2, ⟨[(9, .int .i64), (10, .int .i64)], [], []⟩), (4, ⟨[(15, .int .i64)], [], []⟩)], [(56, ⟨[], [], []⟩)]⟩ [.v (.slice rowsA rowsN rowsC), .v (.string p)] K h) := by
  kernel_rfl
theorem F_law13_OmapLists_ok {rowsA : Option Addr} {rowsN rowsC : Nat} {p : ByteArray}  {K : Value → PH → Prop} {h : PH} (hh : F_law13_OmapLists rowsA rowsN rowsC p K h) : CallH Try.prog id_law13_OmapLists [.slice rowsA rowsN rowsC, .string p] K h :=
  denF_sound' Try.func4 (H := ⟨[], [], [(0, ⟨[(6, .int .i64)], [], []⟩), (2, ⟨[(9, .int .i64), (10, .int .i64)], [], []⟩), (4, ⟨[(15, .int .i64)], [], []⟩)], [(56, ⟨[], [], []⟩)]⟩) (xs := [.v (.slice rowsA rowsN rowsC), .v (.string p)]) (by kernel_rfl) (⟨rfl, rfl, trivial⟩) (den_of F_law13_OmapLists_eq hh)

/- twinlock/twinlocklaw13.OmapShips -/
def F_law13_OmapShips (rowsA : Option Addr) (rowsN rowsC : Nat) (lA : Option Addr) (lN lC : Nat) (K : Value → PH → Prop) (h : PH) : Prop :=
  JoinP (T := Unit) (fun Jv =>
    CallH Try.prog id_law13_Great [.slice rowsA rowsN rowsC] (fun v h2 =>
      ∃ t : Bool, v = .bool t ∧
      ((t = false →
          CallH Try.prog id_law11_Great [.slice lA lN lC] (fun v_1 h3 =>
            ∃ t_1 : Bool, v_1 = .bool t_1 ∧
            ((t_1 = true →
                CallH Try.prog id_law13_wakes [] (fun v_2 h4 =>
                  ∃ t_2 : Bool, v_2 = .bool t_2 ∧
                  K (.bool t_2) h4) h3) ∧
              (t_1 = false →
                Jv (()) h3))) h2) ∧
        (t = true →
          CallH Try.prog id_law13_wakes [] (fun v_3 h5 =>
            ∃ t_3 : Bool, v_3 = .bool t_3 ∧
            K (.bool t_3) h5) h2))) h)
  (fun _ h1 =>
    CallH Try.prog id_omap_New [] (fun v_4 h6 =>
      ∃ m : Option Addr, v_4 = .pointer m ∧
      CallH Try.prog id_omap_New [] (fun v_5 h7 =>
        ∃ f : Option Addr, v_5 = .pointer f ∧
        LoopP (T := Int × Unit) (fun Jv_1 st_1 h8 =>
          (((decide (st_1.1 < ((rowsN : Nat) : Int))) = true →
              ∃ bv ov : Nat, (rowsA = some ⟨bv, ov, none⟩ ∧ 0 ≤ st_1.1 ∧ st_1.1 < (rowsN : Nat)) ∧
              ∃ (tA : Option Addr) (tN tC : Nat), (h8.rds bv (ov + st_1.1.toNat * 1) 1 = some [.slice tA tN tC]) ∧
              CallH Try.prog id_omap_Map_Do [.pointer m, .slice tA tN tC] (fun v_6 h9 =>
                ∃ t_4 : Int, v_6 = .int .i64 t_4 ∧
                (((t_4 != (0 : Int)) = true →
                    Jv_1 ((IntKind.wrap .i64 (st_1.1 + (1 : Int))), ()) h9) ∧
                  ((t_4 != (0 : Int)) = false →
                    ∃ bv_1 ov_1 : Nat, (rowsA = some ⟨bv_1, ov_1, none⟩ ∧ 0 ≤ st_1.1 ∧ st_1.1 < (rowsN : Nat)) ∧
                    ∃ (tA_1 : Option Addr) (tN_1 tC_1 : Nat), (h9.rds bv_1 (ov_1 + st_1.1.toNat * 1) 1 = some [.slice tA_1 tN_1 tC_1]) ∧
                    CallH Try.prog id_law13_shipped [.slice lA lN lC, .slice tA_1 tN_1 tC_1] (fun v_7 h10 =>
                      ∃ (tA_2 : Option Addr) (tN_2 tC_2 : Nat), v_7 = .slice tA_2 tN_2 tC_2 ∧
                      CallH Try.prog id_omap_Map_Do [.pointer f, .slice tA_2 tN_2 tC_2] (fun v_8 h11 =>
                        ∃ t_5 : Int, v_8 = .int .i64 t_5 ∧
                        (((t_5 != (0 : Int)) = false →
                            CallH Try.prog id_omap_Map_Filter [.pointer m, .slice lA lN lC] (fun v_9 h12 =>
                              ∃ t_6 : Option Addr, v_9 = .pointer t_6 ∧
                              CallH Try.prog id_omap_Same [.pointer t_6, .pointer f] (fun v_10 h13 =>
                                ∃ t_7 : Bool, v_10 = .bool t_7 ∧
                                (((!t_7) = true →
                                    K (.bool false) h13) ∧
                                  ((!t_7) = false →
                                    Jv_1 ((IntKind.wrap .i64 (st_1.1 + (1 : Int))), ()) h13))) h12) h11) ∧
                          ((t_5 != (0 : Int)) = true →
                            K (.bool false) h11))) h10) h9))) h8) ∧
            ((decide (st_1.1 < ((rowsN : Nat) : Int))) = false →
              CallH Try.prog id_omap_Map_Filter [.pointer f, .slice lA lN lC] (fun v_11 h14 =>
                ∃ t_8 : Option Addr, v_11 = .pointer t_8 ∧
                CallH Try.prog id_omap_Same [.pointer t_8, .pointer f] (fun v_12 h15 =>
                  ∃ t_9 : Bool, v_12 = .bool t_9 ∧
                  ((t_9 = true →
                      CallH Try.prog id_law13_wakes [] (fun v_13 h16 =>
                        ∃ t_10 : Bool, v_13 = .bool t_10 ∧
                        K (.bool t_10) h16) h15) ∧
                    (t_9 = false →
                      K (.bool false) h15))) h14) h8))) ((0 : Int), ()) h7) h6) h1)
theorem F_law13_OmapShips_eq {rowsA : Option Addr} {rowsN rowsC : Nat} {lA : Option Addr} {lN lC : Nat} {K : Value → PH → Prop} {h : PH} : @Eq Prop (F_law13_OmapShips rowsA rowsN rowsC lA lN lC K h) (denF Try.prog Try.f5 ⟨[], [], [(0, ⟨[(7, .int .i64)], [], []⟩)], [(8, ⟨[], [], []⟩)]⟩ [.v (.slice rowsA rowsN rowsC), .v (.slice lA lN lC)] K h) := by
  kernel_rfl
theorem F_law13_OmapShips_ok {rowsA : Option Addr} {rowsN rowsC : Nat} {lA : Option Addr} {lN lC : Nat}  {K : Value → PH → Prop} {h : PH} (hh : F_law13_OmapShips rowsA rowsN rowsC lA lN lC K h) : CallH Try.prog id_law13_OmapShips [.slice rowsA rowsN rowsC, .slice lA lN lC] K h :=
  denF_sound' Try.func5 (H := ⟨[], [], [(0, ⟨[(7, .int .i64)], [], []⟩)], [(8, ⟨[], [], []⟩)]⟩) (xs := [.v (.slice rowsA rowsN rowsC), .v (.slice lA lN lC)]) (by kernel_rfl) (⟨rfl, rfl, trivial⟩) (den_of F_law13_OmapShips_eq hh)

/- twinlock/twinlocklaw13.OmapPlays -/
set_option maxRecDepth 100000 in
def F_law13_OmapPlays (lA : Option Addr) (lN lC : Nat) (rowsA : Option Addr) (rowsN rowsC : Nat) (p : ByteArray) (K : Value → PH → Prop) (h : PH) : Prop :=
  JoinP (T := Unit) (fun Jv =>
    CallH Try.prog id_law13_GreatPairs [.slice lA lN lC] (fun v h2 =>
      ∃ t : Bool, v = .bool t ∧
      ((t = false →
          CallH Try.prog id_law13_Great [.slice rowsA rowsN rowsC] (fun v_1 h3 =>
            ∃ t_1 : Bool, v_1 = .bool t_1 ∧
            (((t_1 || (decide ((p.size : Int) > (1000 : Int)))) = true →
                CallH Try.prog id_law13_wakes [] (fun v_2 h4 =>
                  ∃ t_2 : Bool, v_2 = .bool t_2 ∧
                  K (.bool t_2) h4) h3) ∧
              ((t_1 || (decide ((p.size : Int) > (1000 : Int)))) = false →
                Jv (()) h3))) h2) ∧
        (t = true →
          CallH Try.prog id_law13_wakes [] (fun v_3 h5 =>
            ∃ t_3 : Bool, v_3 = .bool t_3 ∧
            K (.bool t_3) h5) h2))) h)
  (fun _ h1 =>
    CallH Try.prog id_omap_Of [.slice lA lN lC] (fun v_4 h6 =>
      ∃ t0 : Option Addr, ∃ t1 : Int, v_4 = .tuple #[.pointer t0, .int .i64 t1] ∧
      CallH Try.prog id_ref13_Of [.slice lA lN lC] (fun v_5 h7 =>
        ∃ (t0A : Option Addr) (t0N t0C : Nat), ∃ t1_1 : Int, v_5 = .tuple #[.agg #[.slice t0A t0N t0C], .int .i64 t1_1] ∧
        ((((t1 != t1_1) || (!((Option.isNone t0) == (t1 != (0 : Int))))) = true →
            K (.bool false) h7) ∧
          (((t1 != t1_1) || (!((Option.isNone t0) == (t1 != (0 : Int))))) = false →
            JoinP (T := Option Addr × Unit) (fun Jv_1 =>
              (((t1 != (0 : Int)) = true →
                  CallH Try.prog id_omap_New [] (fun v_6 h9 =>
                    ∃ m : Option Addr, v_6 = .pointer m ∧
                    Jv_1 (m, ()) h9) h7) ∧
                ((t1 != (0 : Int)) = false →
                  Jv_1 (t0, ()) h7)))
            (fun st_1 h8 =>
              LoopP (T := Int × (Option Addr × Nat × Nat) × Unit) (fun Jv_2 st_2 h10 =>
                (((decide (st_2.1 < ((rowsN : Nat) : Int))) = true →
                    ∃ bv ov : Nat, (rowsA = some ⟨bv, ov, none⟩ ∧ 0 ≤ st_2.1 ∧ st_2.1 < (rowsN : Nat)) ∧
                    ∃ (tA : Option Addr) (tN tC : Nat), (h10.rds bv (ov + st_2.1.toNat * 1) 1 = some [.slice tA tN tC]) ∧
                    CallH Try.prog id_omap_Map_Do [.pointer st_1.1, .slice tA tN tC] (fun v_7 h11 =>
                      ∃ e : Int, v_7 = .int .i64 e ∧
                      ∃ bv_1 ov_1 : Nat, (rowsA = some ⟨bv_1, ov_1, none⟩ ∧ 0 ≤ st_2.1 ∧ st_2.1 < (rowsN : Nat)) ∧
                      ∃ (tA_1 : Option Addr) (tN_1 tC_1 : Nat), (h11.rds bv_1 (ov_1 + st_2.1.toNat * 1) 1 = some [.slice tA_1 tN_1 tC_1]) ∧
                      CallH Try.prog id_ref13_Map_Do [.agg #[.slice st_2.2.1.1 st_2.2.1.2.1 st_2.2.1.2.2], .slice tA_1 tN_1 tC_1] (fun v_8 h12 =>
                        ∃ (t0A_1 : Option Addr) (t0N_1 t0C_1 : Nat), ∃ t1_2 : Int, v_8 = .tuple #[.agg #[.slice t0A_1 t0N_1 t0C_1], .int .i64 t1_2] ∧
                        CallH Try.prog id_omap_Map_Get [.pointer st_1.1, .string p] (fun v_9 h13 =>
                          ∃ t0_1 : ByteArray, ∃ t1_3 : Bool, v_9 = .tuple #[.string t0_1, .bool t1_3] ∧
                          CallH Try.prog id_ref13_Map_Get [.agg #[.slice t0A_1 t0N_1 t0C_1], .string p] (fun v_10 h14 =>
                            ∃ t0_2 : ByteArray, ∃ t1_4 : Bool, v_10 = .tuple #[.string t0_2, .bool t1_4] ∧
                            (((((e != t1_2) || (!(strEq t0_1 t0_2))) || (!(t1_3 == t1_4))) = false →
                                CallH Try.prog id_omap_Map_Len [.pointer st_1.1] (fun v_11 h15 =>
                                  ∃ t_4 : Int, v_11 = .int .i64 t_4 ∧
                                  (((t_4 != ((t0N_1 : Nat) : Int)) = false →
                                      CallH Try.prog id_omap_Map_All [.pointer st_1.1] (fun v_12 h16 =>
                                        ∃ (tA_2 : Option Addr) (tN_2 tC_2 : Nat), v_12 = .slice tA_2 tN_2 tC_2 ∧
                                        CallH Try.prog id_ref13_Same [.slice tA_2 tN_2 tC_2, .slice t0A_1 t0N_1 t0C_1] (fun v_13 h17 =>
                                          ∃ t_5 : Bool, v_13 = .bool t_5 ∧
                                          (((!t_5) = false →
                                              CallH Try.prog id_omap_Map_List [.pointer st_1.1, .string p] (fun v_14 h18 =>
                                                ∃ (tA_3 : Option Addr) (tN_3 tC_3 : Nat), v_14 = .slice tA_3 tN_3 tC_3 ∧
                                                CallH Try.prog id_ref13_Map_List [.agg #[.slice t0A_1 t0N_1 t0C_1], .string p] (fun v_15 h19 =>
                                                  ∃ (tA_4 : Option Addr) (tN_4 tC_4 : Nat), v_15 = .slice tA_4 tN_4 tC_4 ∧
                                                  CallH Try.prog id_law13_SameTexts [.slice tA_3 tN_3 tC_3, .slice tA_4 tN_4 tC_4] (fun v_16 h20 =>
                                                    ∃ t_6 : Bool, v_16 = .bool t_6 ∧
                                                    (((!t_6) = true →
                                                        K (.bool false) h20) ∧
                                                      ((!t_6) = false →
                                                        Jv_2 ((IntKind.wrap .i64 (st_2.1 + (1 : Int))), (t0A_1, t0N_1, t0C_1), ()) h20))) h19) h18) h17) ∧
                                            ((!t_5) = true →
                                              K (.bool false) h17))) h16) h15) ∧
                                    ((t_4 != ((t0N_1 : Nat) : Int)) = true →
                                      K (.bool false) h15))) h14) ∧
                              ((((e != t1_2) || (!(strEq t0_1 t0_2))) || (!(t1_3 == t1_4))) = true →
                                K (.bool false) h14))) h13) h12) h11) h10) ∧
                  ((decide (st_2.1 < ((rowsN : Nat) : Int))) = false →
                    CallH Try.prog id_law13_wakes [] (fun v_17 h21 =>
                      ∃ t_7 : Bool, v_17 = .bool t_7 ∧
                      K (.bool t_7) h21) h10))) ((0 : Int), (t0A, t0N, t0C), ()) h8)))) h6) h1)
set_option maxRecDepth 100000 in
theorem F_law13_OmapPlays_eq {lA : Option Addr} {lN lC : Nat} {rowsA : Option Addr} {rowsN rowsC : Nat} {p : ByteArray} {K : Value → PH → Prop} {h : PH} : @Eq Prop (F_law13_OmapPlays lA lN lC rowsA rowsN rowsC p K h) (denF Try.prog Try.f6 ⟨[9], [(17, .of [0, 1, 2, 3, 4, 5, 6, 7, 8, 9, 10, 11, 12, 13, 14, 16, 17, 18, 15, 19, 20, 21, 22, 24, 25, 23, 26, 27, 28, 29, 30, 31, 33, 34, 32, 35, 36, 37, 38])], [(0, ⟨[(11, .int .i64)], [], [(0, [.one (.slice)])]⟩)], [(8, ⟨[], [], []⟩), (20, ⟨[(7, .ptr)], [], []⟩)]⟩ [.v (.slice lA lN lC), .v (.slice rowsA rowsN rowsC), .v (.string p)] K h) := by
  kernel_rfl
theorem F_law13_OmapPlays_ok {lA : Option Addr} {lN lC : Nat} {rowsA : Option Addr} {rowsN rowsC : Nat} {p : ByteArray}  {K : Value → PH → Prop} {h : PH} (hh : F_law13_OmapPlays lA lN lC rowsA rowsN rowsC p K h) : CallH Try.prog id_law13_OmapPlays [.slice lA lN lC, .slice rowsA rowsN rowsC, .string p] K h :=
  denF_sound' Try.func6 (H := ⟨[9], [(17, .of [0, 1, 2, 3, 4, 5, 6, 7, 8, 9, 10, 11, 12, 13, 14, 16, 17, 18, 15, 19, 20, 21, 22, 24, 25, 23, 26, 27, 28, 29, 30, 31, 33, 34, 32, 35, 36, 37, 38])], [(0, ⟨[(11, .int .i64)], [], [(0, [.one (.slice)])]⟩)], [(8, ⟨[], [], []⟩), (20, ⟨[(7, .ptr)], [], []⟩)]⟩) (xs := [.v (.slice lA lN lC), .v (.slice rowsA rowsN rowsC), .v (.string p)]) (by kernel_rfl) (⟨rfl, rfl, rfl, trivial⟩) (den_of F_law13_OmapPlays_eq hh)

/- twinlock/twinlocklaw13.OmapFilters -/
def F_law13_OmapFilters (lA : Option Addr) (lN lC : Nat) (mountsA : Option Addr) (mountsN mountsC : Nat) (K : Value → PH → Prop) (h : PH) : Prop :=
  JoinP (T := Unit) (fun Jv =>
    CallH Try.prog id_law13_GreatPairs [.slice lA lN lC] (fun v h2 =>
      ∃ t : Bool, v = .bool t ∧
      ((t = false →
          CallH Try.prog id_law11_Great [.slice mountsA mountsN mountsC] (fun v_1 h3 =>
            ∃ t_1 : Bool, v_1 = .bool t_1 ∧
            ((t_1 = true →
                CallH Try.prog id_law13_wakes [] (fun v_2 h4 =>
                  ∃ t_2 : Bool, v_2 = .bool t_2 ∧
                  K (.bool t_2) h4) h3) ∧
              (t_1 = false →
                Jv (()) h3))) h2) ∧
        (t = true →
          CallH Try.prog id_law13_wakes [] (fun v_3 h5 =>
            ∃ t_3 : Bool, v_3 = .bool t_3 ∧
            K (.bool t_3) h5) h2))) h)
  (fun _ h1 =>
    CallH Try.prog id_omap_Of [.slice lA lN lC] (fun v_4 h6 =>
      ∃ t0 : Option Addr, ∃ t1 : Int, v_4 = .tuple #[.pointer t0, .int .i64 t1] ∧
      CallH Try.prog id_ref13_Of [.slice lA lN lC] (fun v_5 h7 =>
        ∃ (t0A : Option Addr) (t0N t0C : Nat), ∃ t1_1 : Int, v_5 = .tuple #[.agg #[.slice t0A t0N t0C], .int .i64 t1_1] ∧
        (((t1 != t1_1) = true →
            K (.bool false) h7) ∧
          ((t1 != t1_1) = false →
            (((t1 != (0 : Int)) = true →
                CallH Try.prog id_law13_wakes [] (fun v_6 h8 =>
                  ∃ t_4 : Bool, v_6 = .bool t_4 ∧
                  K (.bool t_4) h8) h7) ∧
              ((t1 != (0 : Int)) = false →
                CallH Try.prog id_omap_Map_Filter [.pointer t0, .slice mountsA mountsN mountsC] (fun v_7 h9 =>
                  ∃ xv : Option Addr, v_7 = .pointer xv ∧
                  newH h9 (.cells #[.int .u8 (1 : Int), .string (⟨#[122, 122, 122, 47, 122]⟩ : ByteArray), .string (⟨#[122]⟩ : ByteArray)] T_api_Op (0, 0)) fun bv h10 =>
                  CallH Try.prog id_omap_Map_Do [.pointer xv, .slice (some ⟨bv, 0, none⟩) 1 1] (fun v_8 h11 =>
                    ∃ t_5 : Int, v_8 = .int .i64 t_5 ∧
                    CallH Try.prog id_omap_Map_Filter [.pointer t0, .slice mountsA mountsN mountsC] (fun v_9 h12 =>
                      ∃ t_6 : Option Addr, v_9 = .pointer t_6 ∧
                      CallH Try.prog id_omap_Map_All [.pointer t_6] (fun v_10 h13 =>
                        ∃ (tA : Option Addr) (tN tC : Nat), v_10 = .slice tA tN tC ∧
                        CallH Try.prog id_ref13_Map_Filter [.agg #[.slice t0A t0N t0C], .slice mountsA mountsN mountsC] (fun v_11 h14 =>
                          ∃ (tA_1 : Option Addr) (tN_1 tC_1 : Nat), v_11 = .agg #[.slice tA_1 tN_1 tC_1] ∧
                          CallH Try.prog id_ref13_Same [.slice tA tN tC, .slice tA_1 tN_1 tC_1] (fun v_12 h15 =>
                            ∃ t_7 : Bool, v_12 = .bool t_7 ∧
                            ((t_7 = true →
                                CallH Try.prog id_omap_Map_All [.pointer t0] (fun v_13 h16 =>
                                  ∃ (tA_2 : Option Addr) (tN_2 tC_2 : Nat), v_13 = .slice tA_2 tN_2 tC_2 ∧
                                  CallH Try.prog id_ref13_Same [.slice tA_2 tN_2 tC_2, .slice t0A t0N t0C] (fun v_14 h17 =>
                                    ∃ t_8 : Bool, v_14 = .bool t_8 ∧
                                    ((t_8 = true →
                                        CallH Try.prog id_law13_wakes [] (fun v_15 h18 =>
                                          ∃ t_9 : Bool, v_15 = .bool t_9 ∧
                                          K (.bool t_9) h18) h17) ∧
                                      (t_8 = false →
                                        K (.bool false) h17))) h16) h15) ∧
                              (t_7 = false →
                                K (.bool false) h15))) h14) h13) h12) h11) h10) h7))))) h6) h1)
theorem F_law13_OmapFilters_eq {lA : Option Addr} {lN lC : Nat} {mountsA : Option Addr} {mountsN mountsC : Nat} {K : Value → PH → Prop} {h : PH} : @Eq Prop (F_law13_OmapFilters lA lN lC mountsA mountsN mountsC K h) (denF Try.prog Try.f7 ⟨[7], [(11, .of [0, 1, 4, 5, 2, 3, 6, 7, 8, 9, 10, 12, 13, 11, 14, 15, 16, 17, 18, 19])], [], [(8, ⟨[], [], []⟩)]⟩ [.v (.slice lA lN lC), .v (.slice mountsA mountsN mountsC)] K h) := by
  kernel_rfl
theorem F_law13_OmapFilters_ok {lA : Option Addr} {lN lC : Nat} {mountsA : Option Addr} {mountsN mountsC : Nat}  {K : Value → PH → Prop} {h : PH} (hh : F_law13_OmapFilters lA lN lC mountsA mountsN mountsC K h) : CallH Try.prog id_law13_OmapFilters [.slice lA lN lC, .slice mountsA mountsN mountsC] K h :=
  denF_sound' Try.func7 (H := ⟨[7], [(11, .of [0, 1, 4, 5, 2, 3, 6, 7, 8, 9, 10, 12, 13, 11, 14, 15, 16, 17, 18, 19])], [], [(8, ⟨[], [], []⟩)]⟩) (xs := [.v (.slice lA lN lC), .v (.slice mountsA mountsN mountsC)]) (by kernel_rfl) (⟨rfl, rfl, trivial⟩) (den_of F_law13_OmapFilters_eq hh)

/- twinlock/twinlocklaw13.OmapKnown -/
set_option maxRecDepth 100000 in
def F_law13_OmapKnown  (K : Value → PH → Prop) (h : PH) : Prop :=
  CallH Try.prog id_omap_New [] (fun v h1 =>
    ∃ m : Option Addr, v = .pointer m ∧
    CallH Try.prog id_law13_OmapKnown_1 [.string (⟨#[97, 112, 112, 47, 97]⟩ : ByteArray), .string (⟨#[49]⟩ : ByteArray)] (fun v_1 h2 =>
      ∃ t0 : Int, ∃ t1 : ByteArray, ∃ t2 : ByteArray, v_1 = .agg #[.int .u8 t0, .string t1, .string t2] ∧
      CallH Try.prog id_law13_OmapKnown_1 [.string (⟨#[111, 112, 115, 47, 98]⟩ : ByteArray), .string (⟨#[50]⟩ : ByteArray)] (fun v_2 h3 =>
        ∃ t0_1 : Int, ∃ t1_1 : ByteArray, ∃ t2_1 : ByteArray, v_2 = .agg #[.int .u8 t0_1, .string t1_1, .string t2_1] ∧
        CallH Try.prog id_law13_OmapKnown_1 [.string (⟨#[97, 112, 112, 47, 99]⟩ : ByteArray), .string (⟨#[51]⟩ : ByteArray)] (fun v_3 h4 =>
          ∃ t0_2 : Int, ∃ t1_2 : ByteArray, ∃ t2_2 : ByteArray, v_3 = .agg #[.int .u8 t0_2, .string t1_2, .string t2_2] ∧
          newH h4 (.cells #[.int .u8 t0, .string t1, .string t2, .int .u8 t0_1, .string t1_1, .string t2_1, .int .u8 (2 : Int), .string (⟨#[97, 112, 112, 47, 97]⟩ : ByteArray), .string (⟨#[]⟩ : ByteArray), .int .u8 t0_2, .string t1_2, .string t2_2] T_api_Op (0, 0)) fun bv h5 =>
          CallH Try.prog id_omap_Map_Do [.pointer m, .slice (some ⟨bv, 0, none⟩) 4 4] (fun v_4 h6 =>
            ∃ a : Int, v_4 = .int .i64 a ∧
            CallH Try.prog id_omap_Map_All [.pointer m] (fun v_5 h7 =>
              ∃ (lA : Option Addr) (lN lC : Nat), v_5 = .slice lA lN lC ∧
              CallH Try.prog id_law13_two [] (fun v_6 h8 =>
                ∃ (tA : Option Addr) (tN tC : Nat), v_6 = .slice tA tN tC ∧
                CallH Try.prog id_omap_Map_Filter [.pointer m, .slice tA tN tC] (fun v_7 h9 =>
                  ∃ t : Option Addr, v_7 = .pointer t ∧
                  CallH Try.prog id_omap_Map_All [.pointer t] (fun v_8 h10 =>
                    ∃ (fA : Option Addr) (fN fC : Nat), v_8 = .slice fA fN fC ∧
                    JoinP (T := Bool × Unit) (fun Jv =>
                      ∃ bv_1 ov : Nat, ((((a == (0 : Int)) && (((lN : Nat) : Int) == (2 : Int))) = true → lA = some ⟨bv_1, ov, none⟩ ∧ 0 ≤ (0 : Int) ∧ (0 : Int) < (lN : Nat))) ∧
                      ∃ t0_3 : ByteArray, ∃ t1_3 : ByteArray, ((((a == (0 : Int)) && (((lN : Nat) : Int) == (2 : Int))) = true → h10.rds bv_1 (ov + (0 : Int).toNat * 2) 2 = some [.string t0_3, .string t1_3])) ∧
                      ((((a == (0 : Int)) && (((lN : Nat) : Int) == (2 : Int))) = true →
                          ∃ bv_2 ov_1 : Nat, ((((strEq t0_3 (⟨#[97, 112, 112, 47, 99]⟩ : ByteArray)) && ((strEq t1_3 (⟨#[51]⟩ : ByteArray)) && true)) = true → lA = some ⟨bv_2, ov_1, none⟩ ∧ 0 ≤ (1 : Int) ∧ (1 : Int) < (lN : Nat))) ∧
                          ∃ t_1 : ByteArray, ((((strEq t0_3 (⟨#[97, 112, 112, 47, 99]⟩ : ByteArray)) && ((strEq t1_3 (⟨#[51]⟩ : ByteArray)) && true)) = true → h10.rds bv_2 (ov_1 + (1 : Int).toNat * 2) 1 = some [.string t_1])) ∧
                          ∃ bv_3 ov_2 : Nat, ((((((strEq t0_3 (⟨#[97, 112, 112, 47, 99]⟩ : ByteArray)) && ((strEq t1_3 (⟨#[51]⟩ : ByteArray)) && true)) && (strEq t_1 (⟨#[111, 112, 115, 47, 98]⟩ : ByteArray))) && (((fN : Nat) : Int) == (1 : Int))) = true → fA = some ⟨bv_3, ov_2, none⟩ ∧ 0 ≤ (0 : Int) ∧ (0 : Int) < (fN : Nat))) ∧
                          ∃ t_2 : ByteArray, ((((((strEq t0_3 (⟨#[97, 112, 112, 47, 99]⟩ : ByteArray)) && ((strEq t1_3 (⟨#[51]⟩ : ByteArray)) && true)) && (strEq t_1 (⟨#[111, 112, 115, 47, 98]⟩ : ByteArray))) && (((fN : Nat) : Int) == (1 : Int))) = true → h10.rds bv_3 (ov_2 + (0 : Int).toNat * 2) 1 = some [.string t_2])) ∧
                          Jv ((((((strEq t0_3 (⟨#[97, 112, 112, 47, 99]⟩ : ByteArray)) && ((strEq t1_3 (⟨#[51]⟩ : ByteArray)) && true)) && (strEq t_1 (⟨#[111, 112, 115, 47, 98]⟩ : ByteArray))) && (((fN : Nat) : Int) == (1 : Int))) && (strEq t_2 (⟨#[97, 112, 112, 47, 99]⟩ : ByteArray))), ()) h10) ∧
                        (((a == (0 : Int)) && (((lN : Nat) : Int) == (2 : Int))) = false →
                          Jv (false, ()) h10)))
                    (fun st h11 =>
                      CallH Try.prog id_law13_OmapKnown_1 [.string (⟨#[65, 112, 112, 47, 120]⟩ : ByteArray), .string (⟨#[49]⟩ : ByteArray)] (fun v_9 h12 =>
                        ∃ t0_4 : Int, ∃ t1_4 : ByteArray, ∃ t2_3 : ByteArray, v_9 = .agg #[.int .u8 t0_4, .string t1_4, .string t2_3] ∧
                        newH h12 (.cells #[.int .u8 t0_4, .string t1_4, .string t2_3] T_api_Op (0, 0)) fun bv_4 h13 =>
                        CallH Try.prog id_omap_Map_Do [.pointer m, .slice (some ⟨bv_4, 0, none⟩) 1 1] (fun v_10 h14 =>
                          ∃ bv_5 : Int, v_10 = .int .i64 bv_5 ∧
                          CallH Try.prog id_law13_OmapKnown_1 [.string (⟨#[97, 112, 112, 47, 97]⟩ : ByteArray), .string (⟨#[49]⟩ : ByteArray)] (fun v_11 h15 =>
                            ∃ t0_5 : Int, ∃ t1_5 : ByteArray, ∃ t2_4 : ByteArray, v_11 = .agg #[.int .u8 t0_5, .string t1_5, .string t2_4] ∧
                            CallH Try.prog id_law13_OmapKnown_1 [.string (⟨#[97, 112, 112, 47, 97]⟩ : ByteArray), .string (⟨#[49]⟩ : ByteArray)] (fun v_12 h16 =>
                              ∃ t0_6 : Int, ∃ t1_6 : ByteArray, ∃ t2_5 : ByteArray, v_12 = .agg #[.int .u8 t0_6, .string t1_6, .string t2_5] ∧
                              CallH Try.prog id_law13_OmapKnown_1 [.string (⟨#[97, 112, 112, 47, 97]⟩ : ByteArray), .string (⟨#[49]⟩ : ByteArray)] (fun v_13 h17 =>
                                ∃ t0_7 : Int, ∃ t1_7 : ByteArray, ∃ t2_6 : ByteArray, v_13 = .agg #[.int .u8 t0_7, .string t1_7, .string t2_6] ∧
                                CallH Try.prog id_law13_OmapKnown_1 [.string (⟨#[97, 112, 112, 47, 97]⟩ : ByteArray), .string (⟨#[49]⟩ : ByteArray)] (fun v_14 h18 =>
                                  ∃ t0_8 : Int, ∃ t1_8 : ByteArray, ∃ t2_7 : ByteArray, v_14 = .agg #[.int .u8 t0_8, .string t1_8, .string t2_7] ∧
                                  CallH Try.prog id_law13_OmapKnown_1 [.string (⟨#[97, 112, 112, 47, 97]⟩ : ByteArray), .string (⟨#[49]⟩ : ByteArray)] (fun v_15 h19 =>
                                    ∃ t0_9 : Int, ∃ t1_9 : ByteArray, ∃ t2_8 : ByteArray, v_15 = .agg #[.int .u8 t0_9, .string t1_9, .string t2_8] ∧
                                    newH h19 (.cells #[.int .u8 t0_5, .string t1_5, .string t2_4, .int .u8 t0_6, .string t1_6, .string t2_5, .int .u8 t0_7, .string t1_7, .string t2_6, .int .u8 t0_8, .string t1_8, .string t2_7, .int .u8 t0_9, .string t1_9, .string t2_8] T_api_Op (0, 0)) fun bv_6 h20 =>
                                    CallH Try.prog id_omap_Map_Do [.pointer m, .slice (some ⟨bv_6, 0, none⟩) 5 5] (fun v_16 h21 =>
                                      ∃ cv : Int, v_16 = .int .i64 cv ∧
                                      newH h21 (.cells #[.string (⟨#[97, 112, 112, 47, 97]⟩ : ByteArray), .string (⟨#[]⟩ : ByteArray), .string (⟨#[97, 112, 112, 47, 97]⟩ : ByteArray), .string (⟨#[]⟩ : ByteArray)] T_api_Pair (0, 0)) fun bv_7 h22 =>
                                      CallH Try.prog id_omap_Of [.slice (some ⟨bv_7, 0, none⟩) 2 2] (fun v_17 h23 =>
                                        ∃ t0_10 : Option Addr, ∃ t1_10 : Int, v_17 = .tuple #[.pointer t0_10, .int .i64 t1_10] ∧
                                        newH h23 (.cells #[.string (⟨#[97, 112, 112]⟩ : ByteArray), .string (⟨#[]⟩ : ByteArray)] T_api_Pair (0, 0)) fun bv_8 h24 =>
                                        CallH Try.prog id_omap_Of [.slice (some ⟨bv_8, 0, none⟩) 1 1] (fun v_18 h25 =>
                                          ∃ t0_11 : Option Addr, ∃ t1_11 : Int, v_18 = .tuple #[.pointer t0_11, .int .i64 t1_11] ∧
                                          (0 ≤ (49 : Int) ∧ (49 : Int) ≤ (49 : Int) ∧ (49 : Int) * (32 : Nat) ≤ 140737488355328) ∧
                                          newH h25 (.cells (List.replicate (49 : Int).toNat [.string (⟨#[]⟩ : ByteArray), .string (⟨#[]⟩ : ByteArray)]).flatten.toArray T_api_Pair (0, 0)) fun bv_9 h26 =>
                                          CallH Try.prog id_omap_Of [.slice (some ⟨bv_9, 0, none⟩) (49 : Int).toNat (49 : Int).toNat] (fun v_19 h27 =>
                                            ∃ t0_12 : Option Addr, ∃ t1_12 : Int, v_19 = .tuple #[.pointer t0_12, .int .i64 t1_12] ∧
                                            CallH Try.prog id_omap_New [] (fun v_20 h28 =>
                                              ∃ n : Option Addr, v_20 = .pointer n ∧
                                              LoopP (T := Int × Unit) (fun Jv_1 st_1 h29 =>
                                                (((decide (st_1.1 < (48 : Int))) = true →
                                                    newH h29 (.cells #[.int .u8 (IntKind.wrap .u8 (IntKind.wrap .i64 ((97 : Int) + (st_1.1.tmod (24 : Int))))), .int .u8 (IntKind.wrap .u8 (IntKind.wrap .i64 ((97 : Int) + (IntKind.wrap .i64 (st_1.1.tdiv (24 : Int))))))] 5 (0, 0)) fun bv_10 h30 =>
                                                    ∃ t_3 : ByteArray, strH h30 (some ⟨bv_10, 0, none⟩ : Option Addr) 2 t_3 ∧
                                                    (((ByteArray.size (⟨#[97, 112, 112, 47]⟩ : ByteArray) + ByteArray.size t_3 : Nat) : Int) ≤ 9223372036854775807) ∧
                                                    CallH Try.prog id_law13_OmapKnown_1 [.string ((⟨#[97, 112, 112, 47]⟩ : ByteArray) ++ t_3), .string (⟨#[49]⟩ : ByteArray)] (fun v_21 h31 =>
                                                      ∃ t0_13 : Int, ∃ t1_13 : ByteArray, ∃ t2_9 : ByteArray, v_21 = .agg #[.int .u8 t0_13, .string t1_13, .string t2_9] ∧
                                                      newH h31 (.cells #[.int .u8 t0_13, .string t1_13, .string t2_9] T_api_Op (0, 0)) fun bv_11 h32 =>
                                                      CallH Try.prog id_omap_Map_Do [.pointer n, .slice (some ⟨bv_11, 0, none⟩) 1 1] (fun v_22 h33 =>
                                                        ∃ t_4 : Int, v_22 = .int .i64 t_4 ∧
                                                        (((t_4 != (0 : Int)) = true →
                                                            K (.bool false) h33) ∧
                                                          ((t_4 != (0 : Int)) = false →
                                                            Jv_1 ((IntKind.wrap .i64 (st_1.1 + (1 : Int))), ()) h33))) h32) h30) ∧
                                                  ((decide (st_1.1 < (48 : Int))) = false →
                                                    CallH Try.prog id_law13_OmapKnown_1 [.string (⟨#[97, 112, 112, 47, 97, 97]⟩ : ByteArray), .string (⟨#[57]⟩ : ByteArray)] (fun v_23 h34 =>
                                                      ∃ t0_14 : Int, ∃ t1_14 : ByteArray, ∃ t2_10 : ByteArray, v_23 = .agg #[.int .u8 t0_14, .string t1_14, .string t2_10] ∧
                                                      CallH Try.prog id_law13_OmapKnown_1 [.string (⟨#[97, 112, 112, 47, 122, 122]⟩ : ByteArray), .string (⟨#[49]⟩ : ByteArray)] (fun v_24 h35 =>
                                                        ∃ t0_15 : Int, ∃ t1_15 : ByteArray, ∃ t2_11 : ByteArray, v_24 = .agg #[.int .u8 t0_15, .string t1_15, .string t2_11] ∧
                                                        newH h35 (.cells #[.int .u8 t0_14, .string t1_14, .string t2_10, .int .u8 t0_15, .string t1_15, .string t2_11] T_api_Op (0, 0)) fun bv_12 h36 =>
                                                        CallH Try.prog id_omap_Map_Do [.pointer n, .slice (some ⟨bv_12, 0, none⟩) 2 2] (fun v_25 h37 =>
                                                          ∃ hv : Int, v_25 = .int .i64 hv ∧
                                                          CallH Try.prog id_omap_Map_Get [.pointer n, .string (⟨#[97, 112, 112, 47, 97, 97]⟩ : ByteArray)] (fun v_26 h38 =>
                                                            ∃ t0_16 : ByteArray, ∃ t1_16 : Bool, v_26 = .tuple #[.string t0_16, .bool t1_16] ∧
                                                            CallH Try.prog id_law13_OmapKnown_1 [.string (⟨#[97, 112, 112, 47, 122, 122]⟩ : ByteArray), .string (⟨#[49]⟩ : ByteArray)] (fun v_27 h39 =>
                                                              ∃ t0_17 : Int, ∃ t1_17 : ByteArray, ∃ t2_12 : ByteArray, v_27 = .agg #[.int .u8 t0_17, .string t1_17, .string t2_12] ∧
                                                              newH h39 (.cells #[.int .u8 t0_17, .string t1_17, .string t2_12, .int .u8 (2 : Int), .string (⟨#[97, 112, 112, 47, 97, 97]⟩ : ByteArray), .string (⟨#[]⟩ : ByteArray)] T_api_Op (0, 0)) fun bv_13 h40 =>
                                                              CallH Try.prog id_omap_Map_Do [.pointer n, .slice (some ⟨bv_13, 0, none⟩) 2 2] (fun v_28 h41 =>
                                                                ∃ i : Int, v_28 = .int .i64 i ∧
                                                                CallH Try.prog id_omap_Map_Do [.pointer n, .slice none 0 0] (fun v_29 h42 =>
                                                                  ∃ nonev : Int, v_29 = .int .i64 nonev ∧
                                                                  ((((((((((st.1 && (bv_5 == (20 : Int))) && (cv == (3 : Int))) && (t1_10 == (5 : Int))) && (t1_11 == (1 : Int))) && (t1_12 == (6 : Int))) && (hv == (6 : Int))) && (strEq t0_16 (⟨#[49]⟩ : ByteArray))) && (i == (0 : Int))) = true →
                                                                      CallH Try.prog id_omap_Map_Len [.pointer n] (fun v_30 h43 =>
                                                                        ∃ t_5 : Int, v_30 = .int .i64 t_5 ∧
                                                                        ((((t_5 == (48 : Int)) && (nonev == (0 : Int))) = true →
                                                                            CallH Try.prog id_law13_wakes [] (fun v_31 h44 =>
                                                                              ∃ t_6 : Bool, v_31 = .bool t_6 ∧
                                                                              K (.bool t_6) h44) h43) ∧
                                                                          (((t_5 == (48 : Int)) && (nonev == (0 : Int))) = false →
                                                                            K (.bool false) h43))) h42) ∧
                                                                    (((((((((st.1 && (bv_5 == (20 : Int))) && (cv == (3 : Int))) && (t1_10 == (5 : Int))) && (t1_11 == (1 : Int))) && (t1_12 == (6 : Int))) && (hv == (6 : Int))) && (strEq t0_16 (⟨#[49]⟩ : ByteArray))) && (i == (0 : Int))) = false →
                                                                      K (.bool false) h42))) h41) h40) h38) h37) h36) h34) h29))) ((0 : Int), ()) h28) h27) h26) h24) h22) h20) h18) h17) h16) h15) h14) h13) h11)) h9) h8) h7) h6) h5) h3) h2) h1) h
set_option maxRecDepth 100000 in
theorem F_law13_OmapKnown_eq  {K : Value → PH → Prop} {h : PH} : @Eq Prop (F_law13_OmapKnown  K h) (denF Try.prog Try.f8 ⟨[], [], [(0, ⟨[(16, .int .i64)], [], []⟩)], [(16, ⟨[(6, .bool)], [], []⟩)]⟩ [] K h) := by
  kernel_rfl
theorem F_law13_OmapKnown_ok   {K : Value → PH → Prop} {h : PH} (hh : F_law13_OmapKnown  K h) : CallH Try.prog id_law13_OmapKnown [] K h :=
  denF_sound' Try.func8 (H := ⟨[], [], [(0, ⟨[(16, .int .i64)], [], []⟩)], [(16, ⟨[(6, .bool)], [], []⟩)]⟩) (xs := []) (by kernel_rfl) (trivial) (den_of F_law13_OmapKnown_eq hh)

/- twinlock/twinlocklaw13.OmapNobody -/
def F_law13_OmapNobody (opsA : Option Addr) (opsN opsC : Nat) (p : ByteArray) (K : Value → PH → Prop) (h : PH) : Prop :=
  CallH Try.prog id_law12_GreatOps [.slice opsA opsN opsC] (fun v h1 =>
    ∃ t : Bool, v = .bool t ∧
    (((t || (decide ((p.size : Int) > (1000 : Int)))) = true →
        CallH Try.prog id_law13_wakes [] (fun v_1 h2 =>
          ∃ t_1 : Bool, v_1 = .bool t_1 ∧
          K (.bool t_1) h2) h1) ∧
      ((t || (decide ((p.size : Int) > (1000 : Int)))) = false →
        CallH Try.prog id_omap_Map_Get [.pointer none, .string p] (fun v_2 h3 =>
          ∃ t0 : ByteArray, ∃ t1 : Bool, v_2 = .tuple #[.string t0, .bool t1] ∧
          CallH Try.prog id_omap_Map_Do [.pointer none, .slice opsA opsN opsC] (fun v_3 h4 =>
            ∃ t_2 : Int, v_3 = .int .i64 t_2 ∧
            ((((t_2 == (2 : Int)) && (!t1)) = true →
                CallH Try.prog id_omap_Map_List [.pointer none, .string p] (fun v_4 h5 =>
                  ∃ (tA : Option Addr) (tN tC : Nat), v_4 = .slice tA tN tC ∧
                  (((((tN : Nat) : Int) == (0 : Int)) = true →
                      CallH Try.prog id_omap_Map_All [.pointer none] (fun v_5 h6 =>
                        ∃ (tA_1 : Option Addr) (tN_1 tC_1 : Nat), v_5 = .slice tA_1 tN_1 tC_1 ∧
                        (((((tN_1 : Nat) : Int) == (0 : Int)) = true →
                            CallH Try.prog id_omap_Map_Len [.pointer none] (fun v_6 h7 =>
                              ∃ t_3 : Int, v_6 = .int .i64 t_3 ∧
                              (((t_3 == (0 : Int)) = true →
                                  CallH Try.prog id_omap_Map_Twin [.pointer none] (fun v_7 h8 =>
                                    ∃ t_4 : Option Addr, v_7 = .pointer t_4 ∧
                                    (((Option.isNone t_4) = true →
                                        CallH Try.prog id_law13_two [] (fun v_8 h9 =>
                                          ∃ (tA_2 : Option Addr) (tN_2 tC_2 : Nat), v_8 = .slice tA_2 tN_2 tC_2 ∧
                                          CallH Try.prog id_omap_Map_Filter [.pointer none, .slice tA_2 tN_2 tC_2] (fun v_9 h10 =>
                                            ∃ t_5 : Option Addr, v_9 = .pointer t_5 ∧
                                            CallH Try.prog id_omap_Map_Len [.pointer t_5] (fun v_10 h11 =>
                                              ∃ t_6 : Int, v_10 = .int .i64 t_6 ∧
                                              (((t_6 == (0 : Int)) = true →
                                                  CallH Try.prog id_omap_New [] (fun v_11 h12 =>
                                                    ∃ t_7 : Option Addr, v_11 = .pointer t_7 ∧
                                                    CallH Try.prog id_omap_Same [.pointer none, .pointer t_7] (fun v_12 h13 =>
                                                      ∃ t_8 : Bool, v_12 = .bool t_8 ∧
                                                      ((t_8 = true →
                                                          CallH Try.prog id_law13_wakes [] (fun v_13 h14 =>
                                                            ∃ t_9 : Bool, v_13 = .bool t_9 ∧
                                                            K (.bool t_9) h14) h13) ∧
                                                        (t_8 = false →
                                                          K (.bool false) h13))) h12) h11) ∧
                                                ((t_6 == (0 : Int)) = false →
                                                  K (.bool false) h11))) h10) h9) h8) ∧
                                      ((Option.isNone t_4) = false →
                                        K (.bool false) h8))) h7) ∧
                                ((t_3 == (0 : Int)) = false →
                                  K (.bool false) h7))) h6) ∧
                          ((((tN_1 : Nat) : Int) == (0 : Int)) = false →
                            K (.bool false) h6))) h5) ∧
                    ((((tN : Nat) : Int) == (0 : Int)) = false →
                      K (.bool false) h5))) h4) ∧
              (((t_2 == (2 : Int)) && (!t1)) = false →
                K (.bool false) h4))) h3) h1))) h
theorem F_law13_OmapNobody_eq {opsA : Option Addr} {opsN opsC : Nat} {p : ByteArray} {K : Value → PH → Prop} {h : PH} : @Eq Prop (F_law13_OmapNobody opsA opsN opsC p K h) (denF Try.prog Try.f9 ⟨[], [], [], []⟩ [.v (.slice opsA opsN opsC), .v (.string p)] K h) := by
  kernel_rfl
theorem F_law13_OmapNobody_ok {opsA : Option Addr} {opsN opsC : Nat} {p : ByteArray}  {K : Value → PH → Prop} {h : PH} (hh : F_law13_OmapNobody opsA opsN opsC p K h) : CallH Try.prog id_law13_OmapNobody [.slice opsA opsN opsC, .string p] K h :=
  denF_sound' Try.func9 (H := ⟨[], [], [], []⟩) (xs := [.v (.slice opsA opsN opsC), .v (.string p)]) (by kernel_rfl) (⟨rfl, rfl, trivial⟩) (den_of F_law13_OmapNobody_eq hh)

/- twinlock/twinlocklaw13.OmapWhole -/
set_option maxRecDepth 100000 in
def F_law13_OmapWhole (rowsA : Option Addr) (rowsN rowsC : Nat) (opsA : Option Addr) (opsN opsC : Nat) (K : Value → PH → Prop) (h : PH) : Prop :=
  JoinP (T := Unit) (fun Jv =>
    CallH Try.prog id_law13_Great [.slice rowsA rowsN rowsC] (fun v h2 =>
      ∃ t : Bool, v = .bool t ∧
      ((t = false →
          CallH Try.prog id_law12_GreatOps [.slice opsA opsN opsC] (fun v_1 h3 =>
            ∃ t_1 : Bool, v_1 = .bool t_1 ∧
            ((t_1 = true →
                CallH Try.prog id_law13_wakes [] (fun v_2 h4 =>
                  ∃ t_2 : Bool, v_2 = .bool t_2 ∧
                  K (.bool t_2) h4) h3) ∧
              (t_1 = false →
                Jv (()) h3))) h2) ∧
        (t = true →
          CallH Try.prog id_law13_wakes [] (fun v_3 h5 =>
            ∃ t_3 : Bool, v_3 = .bool t_3 ∧
            K (.bool t_3) h5) h2))) h)
  (fun _ h1 =>
    CallH Try.prog id_omap_New [] (fun v_4 h6 =>
      ∃ m : Option Addr, v_4 = .pointer m ∧
      LoopP (T := Int × Unit) (fun Jv_1 st_1 h7 =>
        (((decide (st_1.1 < ((rowsN : Nat) : Int))) = true →
            ∃ bv ov : Nat, (rowsA = some ⟨bv, ov, none⟩ ∧ 0 ≤ st_1.1 ∧ st_1.1 < (rowsN : Nat)) ∧
            ∃ (tA : Option Addr) (tN tC : Nat), (h7.rds bv (ov + st_1.1.toNat * 1) 1 = some [.slice tA tN tC]) ∧
            CallH Try.prog id_omap_Map_Do [.pointer m, .slice tA tN tC] (fun v_5 h8 =>
              ∃ t_4 : Int, v_5 = .int .i64 t_4 ∧
              Jv_1 ((IntKind.wrap .i64 (st_1.1 + (1 : Int))), ()) h8) h7) ∧
          ((decide (st_1.1 < ((rowsN : Nat) : Int))) = false →
            CallH Try.prog id_omap_Map_Twin [.pointer m] (fun v_6 h9 =>
              ∃ t_5 : Option Addr, v_6 = .pointer t_5 ∧
              CallH Try.prog id_omap_Map_All [.pointer m] (fun v_7 h10 =>
                ∃ (tA_1 : Option Addr) (tN_1 tC_1 : Nat), v_7 = .slice tA_1 tN_1 tC_1 ∧
                CallH Try.prog id_omap_Of [.slice tA_1 tN_1 tC_1] (fun v_8 h11 =>
                  ∃ t0 : Option Addr, ∃ t1 : Int, v_8 = .tuple #[.pointer t0, .int .i64 t1] ∧
                  JoinP (T := Unit) (fun Jv_2 =>
                    (((t1 != (0 : Int)) = false →
                        CallH Try.prog id_omap_Same [.pointer m, .pointer t0] (fun v_9 h13 =>
                          ∃ t_6 : Bool, v_9 = .bool t_6 ∧
                          (((!t_6) = true →
                              K (.bool false) h13) ∧
                            ((!t_6) = false →
                              Jv_2 (()) h13))) h11) ∧
                      ((t1 != (0 : Int)) = true →
                        K (.bool false) h11)))
                  (fun _ h12 =>
                    CallH Try.prog id_omap_Map_Do [.pointer m, .slice opsA opsN opsC] (fun v_10 h14 =>
                      ∃ f : Int, v_10 = .int .i64 f ∧
                      JoinP (T := Unit) (fun Jv_3 =>
                        (((f != (0 : Int)) = true →
                            CallH Try.prog id_omap_Same [.pointer m, .pointer t_5] (fun v_11 h16 =>
                              ∃ t_7 : Bool, v_11 = .bool t_7 ∧
                              (((!t_7) = true →
                                  K (.bool false) h16) ∧
                                ((!t_7) = false →
                                  Jv_3 (()) h16))) h14) ∧
                          ((f != (0 : Int)) = false →
                            Jv_3 (()) h14)))
                      (fun _ h15 =>
                        CallH Try.prog id_omap_Map_Do [.pointer t0, .slice opsA opsN opsC] (fun v_12 h17 =>
                          ∃ g : Int, v_12 = .int .i64 g ∧
                          (((f == g) = true →
                              CallH Try.prog id_omap_Same [.pointer m, .pointer t0] (fun v_13 h18 =>
                                ∃ t_8 : Bool, v_13 = .bool t_8 ∧
                                ((t_8 = true →
                                    CallH Try.prog id_omap_Map_Len [.pointer t_5] (fun v_14 h19 =>
                                      ∃ t_9 : Int, v_14 = .int .i64 t_9 ∧
                                      CallH Try.prog id_omap_Map_All [.pointer t_5] (fun v_15 h20 =>
                                        ∃ (tA_2 : Option Addr) (tN_2 tC_2 : Nat), v_15 = .slice tA_2 tN_2 tC_2 ∧
                                        (((t_9 == ((tN_2 : Nat) : Int)) = true →
                                            CallH Try.prog id_law13_wakes [] (fun v_16 h21 =>
                                              ∃ t_10 : Bool, v_16 = .bool t_10 ∧
                                              K (.bool t_10) h21) h20) ∧
                                          ((t_9 == ((tN_2 : Nat) : Int)) = false →
                                            K (.bool false) h20))) h19) h18) ∧
                                  (t_8 = false →
                                    K (.bool false) h18))) h17) ∧
                            ((f == g) = false →
                              K (.bool false) h17))) h15)) h12)) h10) h9) h7))) ((0 : Int), ()) h6) h1)
set_option maxRecDepth 100000 in
theorem F_law13_OmapWhole_eq {rowsA : Option Addr} {rowsN rowsC : Nat} {opsA : Option Addr} {opsN opsC : Nat} {K : Value → PH → Prop} {h : PH} : @Eq Prop (F_law13_OmapWhole rowsA rowsN rowsC opsA opsN opsC K h) (denF Try.prog Try.f10 ⟨[], [], [(0, ⟨[(6, .int .i64)], [], []⟩)], [(8, ⟨[], [], []⟩), (26, ⟨[], [], []⟩), (32, ⟨[], [], []⟩)]⟩ [.v (.slice rowsA rowsN rowsC), .v (.slice opsA opsN opsC)] K h) := by
  kernel_rfl
theorem F_law13_OmapWhole_ok {rowsA : Option Addr} {rowsN rowsC : Nat} {opsA : Option Addr} {opsN opsC : Nat}  {K : Value → PH → Prop} {h : PH} (hh : F_law13_OmapWhole rowsA rowsN rowsC opsA opsN opsC K h) : CallH Try.prog id_law13_OmapWhole [.slice rowsA rowsN rowsC, .slice opsA opsN opsC] K h :=
  denF_sound' Try.func10 (H := ⟨[], [], [(0, ⟨[(6, .int .i64)], [], []⟩)], [(8, ⟨[], [], []⟩), (26, ⟨[], [], []⟩), (32, ⟨[], [], []⟩)]⟩) (xs := [.v (.slice rowsA rowsN rowsC), .v (.slice opsA opsN opsC)]) (by kernel_rfl) (⟨rfl, rfl, trivial⟩) (den_of F_law13_OmapWhole_eq hh)

/- twinlock/twinlocklaw13.Great -/
def F_law13_Great (lA : Option Addr) (lN _ : Nat) (K : Value → PH → Prop) (h : PH) : Prop :=
  (((decide (((lN : Nat) : Int) > (200 : Int))) = true →
      K (.bool true) h) ∧
    ((decide (((lN : Nat) : Int) > (200 : Int))) = false →
      LoopP (T := Int × Unit) (fun Jv st h1 =>
        (((decide (st.1 < ((lN : Nat) : Int))) = true →
            ∃ bv ov : Nat, (lA = some ⟨bv, ov, none⟩ ∧ 0 ≤ st.1 ∧ st.1 < (lN : Nat)) ∧
            ∃ (tA : Option Addr) (tN tC : Nat), (h1.rds bv (ov + st.1.toNat * 1) 1 = some [.slice tA tN tC]) ∧
            CallH Try.prog id_law12_GreatOps [.slice tA tN tC] (fun v h2 =>
              ∃ t : Bool, v = .bool t ∧
              ((t = true →
                  K (.bool true) h2) ∧
                (t = false →
                  Jv ((IntKind.wrap .i64 (st.1 + (1 : Int))), ()) h2))) h1) ∧
          ((decide (st.1 < ((lN : Nat) : Int))) = false →
            K (.bool false) h1))) ((0 : Int), ()) h))
theorem F_law13_Great_eq {lA : Option Addr} {lN lC : Nat} {K : Value → PH → Prop} {h : PH} : @Eq Prop (F_law13_Great lA lN lC K h) (denF Try.prog Try.f11 ⟨[], [], [(0, ⟨[(3, .int .i64)], [], []⟩)], []⟩ [.v (.slice lA lN lC)] K h) := by
  kernel_rfl
theorem F_law13_Great_ok {lA : Option Addr} {lN lC : Nat}  {K : Value → PH → Prop} {h : PH} (hh : F_law13_Great lA lN lC K h) : CallH Try.prog id_law13_Great [.slice lA lN lC] K h :=
  denF_sound' Try.func11 (H := ⟨[], [], [(0, ⟨[(3, .int .i64)], [], []⟩)], []⟩) (xs := [.v (.slice lA lN lC)]) (by kernel_rfl) (⟨rfl, trivial⟩) (den_of F_law13_Great_eq hh)

/- twinlock/twinlocklaw13.wakes -/
def F_law13_wakes  (K : Value → PH → Prop) (h : PH) : Prop :=
  CallH Try.prog id_omap_New [] (fun v h1 =>
    ∃ m : Option Addr, v = .pointer m ∧
    newH h1 (.cells #[.int .u8 (1 : Int), .string (⟨#[97, 112, 112, 47, 97]⟩ : ByteArray), .string (⟨#[49]⟩ : ByteArray), .int .u8 (1 : Int), .string (⟨#[111, 112, 115, 47, 98]⟩ : ByteArray), .string (⟨#[50]⟩ : ByteArray), .int .u8 (2 : Int), .string (⟨#[97, 112, 112, 47, 97]⟩ : ByteArray), .string (⟨#[]⟩ : ByteArray), .int .u8 (1 : Int), .string (⟨#[97, 112, 112, 47, 99]⟩ : ByteArray), .string (⟨#[51]⟩ : ByteArray)] T_api_Op (0, 0)) fun bv h2 =>
    CallH Try.prog id_omap_Map_Do [.pointer m, .slice (some ⟨bv, 0, none⟩) 4 4] (fun v_1 h3 =>
      ∃ e : Int, v_1 = .int .i64 e ∧
      CallH Try.prog id_omap_Map_Get [.pointer m, .string (⟨#[97, 112, 112, 47, 97]⟩ : ByteArray)] (fun v_2 h4 =>
        ∃ t0 : ByteArray, ∃ t1 : Bool, v_2 = .tuple #[.string t0, .bool t1] ∧
        CallH Try.prog id_omap_Map_List [.pointer m, .string (⟨#[97, 112, 112, 47]⟩ : ByteArray)] (fun v_3 h5 =>
          ∃ (lA : Option Addr) (lN lC : Nat), v_3 = .slice lA lN lC ∧
          ∃ bv_1 ov : Nat, (((((e == (0 : Int)) && (!t1)) && (((lN : Nat) : Int) == (1 : Int))) = true → lA = some ⟨bv_1, ov, none⟩ ∧ 0 ≤ (0 : Int) ∧ (0 : Int) < (lN : Nat))) ∧
          ∃ t : ByteArray, (((((e == (0 : Int)) && (!t1)) && (((lN : Nat) : Int) == (1 : Int))) = true → h5.rds bv_1 (ov + (0 : Int).toNat * 1) 1 = some [.string t])) ∧
          ((((((e == (0 : Int)) && (!t1)) && (((lN : Nat) : Int) == (1 : Int))) && (strEq t (⟨#[97, 112, 112, 47, 99]⟩ : ByteArray))) = true →
              CallH Try.prog id_omap_Map_Len [.pointer m] (fun v_4 h6 =>
                ∃ t_1 : Int, v_4 = .int .i64 t_1 ∧
                (((t_1 == (2 : Int)) = true →
                    CallH Try.prog id_law13_two [] (fun v_5 h7 =>
                      ∃ (tA : Option Addr) (tN tC : Nat), v_5 = .slice tA tN tC ∧
                      CallH Try.prog id_omap_Map_Filter [.pointer m, .slice tA tN tC] (fun v_6 h8 =>
                        ∃ t_2 : Option Addr, v_6 = .pointer t_2 ∧
                        CallH Try.prog id_omap_Map_Len [.pointer t_2] (fun v_7 h9 =>
                          ∃ t_3 : Int, v_7 = .int .i64 t_3 ∧
                          K (.bool (t_3 == (1 : Int))) h9) h8) h7) h6) ∧
                  ((t_1 == (2 : Int)) = false →
                    K (.bool false) h6))) h5) ∧
            (((((e == (0 : Int)) && (!t1)) && (((lN : Nat) : Int) == (1 : Int))) && (strEq t (⟨#[97, 112, 112, 47, 99]⟩ : ByteArray))) = false →
              K (.bool false) h5))) h4) h3) h2) h
theorem F_law13_wakes_eq  {K : Value → PH → Prop} {h : PH} : @Eq Prop (F_law13_wakes  K h) (denF Try.prog Try.f12 ⟨[], [], [], []⟩ [] K h) := by
  kernel_rfl
theorem F_law13_wakes_ok   {K : Value → PH → Prop} {h : PH} (hh : F_law13_wakes  K h) : CallH Try.prog id_law13_wakes [] K h :=
  denF_sound' Try.func12 (H := ⟨[], [], [], []⟩) (xs := []) (by kernel_rfl) (trivial) (den_of F_law13_wakes_eq hh)

/- twinlock/omap.New -/
def F_omap_New  (K : Value → PH → Prop) (h : PH) : Prop :=
  newH h (.map #[] 0) fun bv h1 =>
  newH h1 (.cells #[.map (some bv)] T_omap_Map (0, 0)) fun bv_1 h2 =>
  K (.pointer (some ⟨bv_1, 0, none⟩)) h2
theorem F_omap_New_eq  {K : Value → PH → Prop} {h : PH} : @Eq Prop (F_omap_New  K h) (denF Try.prog Try.f13 ⟨[], [], [], []⟩ [] K h) := by
  kernel_rfl
theorem F_omap_New_ok   {K : Value → PH → Prop} {h : PH} (hh : F_omap_New  K h) : CallH Try.prog id_omap_New [] K h :=
  denF_sound' Try.func13 (H := ⟨[], [], [], []⟩) (xs := []) (by kernel_rfl) (trivial) (den_of F_omap_New_eq hh)

/- (*twinlock/omap.Map).Do -/
def F_omap_Map_Do (m : Option Addr) (opsA : Option Addr) (opsN opsC : Nat) (K : Value → PH → Prop) (h : PH) : Prop :=
  (((Option.isNone m) = true →
      K (.int .i64 (2 : Int)) h) ∧
    ((Option.isNone m) = false →
      CallH Try.prog id_batch_Right [.agg #[.int .i64 (1 : Int), .int .i64 (1 : Int), .slice opsA opsN opsC]] (fun v h1 =>
        ∃ e : Int, v = .int .i64 e ∧
        (((e != (0 : Int)) = true →
            K (.int .i64 e) h1) ∧
          ((e != (0 : Int)) = false →
            ∃ bv ov : Nat, m = some ⟨bv, ov, none⟩ ∧
            ∃ t : Option Nat, (h1.rds bv ov 1 = some [.map t]) ∧
            CallH Try.prog id_maps_Clone_map_string_string_string_string [.map t] (fun v_1 h2 =>
              ∃ next : Option Nat, v_1 = .map next ∧
              JoinP (T := Option Nat × Unit) (fun Jv =>
                (((Option.isNone next) = true →
                    newH h2 (.map #[] 0) fun bv_1 h4 =>
                    Jv ((some bv_1), ()) h4) ∧
                  ((Option.isNone next) = false →
                    Jv (next, ()) h2)))
              (fun st h3 =>
                LoopP (T := Int × Unit) (fun Jv_1 st_1 h5 =>
                  (((decide (st_1.1 < ((opsN : Nat) : Int))) = true →
                      ∃ bv_2 ov_1 : Nat, (opsA = some ⟨bv_2, ov_1, none⟩ ∧ 0 ≤ st_1.1 ∧ st_1.1 < (opsN : Nat)) ∧
                      ∃ o0 : Int, ∃ o1 : ByteArray, ∃ o2 : ByteArray, (h5.rds bv_2 (ov_1 + st_1.1.toNat * 3) 3 = some [.int .u8 o0, .string o1, .string o2]) ∧
                      (((o0 == (2 : Int)) = true →
                          mdH .str h5 st.1 (.string o1) fun h6 =>
                          Jv_1 ((IntKind.wrap .i64 (st_1.1 + (1 : Int))), ()) h6) ∧
                        ((o0 == (2 : Int)) = false →
                          muH .str h5 st.1 (.string o1) (.string o2) fun h7 =>
                          Jv_1 ((IntKind.wrap .i64 (st_1.1 + (1 : Int))), ()) h7))) ∧
                    ((decide (st_1.1 < ((opsN : Nat) : Int))) = false →
                      ∃ tN : Nat, lenM h5 st.1 tN ∧
                      (((decide (((tN : Nat) : Int) > (48 : Int))) = true →
                          K (.int .i64 (6 : Int)) h5) ∧
                        ((decide (((tN : Nat) : Int) > (48 : Int))) = false →
                          ∃ bv_3 ov_2 : Nat, m = some ⟨bv_3, ov_2, none⟩ ∧
                          stH h5 bv_3 ov_2 [.map st.1] fun h8 =>
                          K (.int .i64 (0 : Int)) h8))))) ((0 : Int), ()) h3)) h1))) h))
theorem F_omap_Map_Do_eq {m : Option Addr} {opsA : Option Addr} {opsN opsC : Nat} {K : Value → PH → Prop} {h : PH} : @Eq Prop (F_omap_Map_Do m opsA opsN opsC K h) (denF Try.prog Try.f14 ⟨[8], [], [(0, ⟨[(27, .int .i64)], [], []⟩)], [(20, ⟨[(6, .map)], [], []⟩)]⟩ [.v (.pointer m), .v (.slice opsA opsN opsC)] K h) := by
  kernel_rfl
theorem F_omap_Map_Do_ok {m : Option Addr} {opsA : Option Addr} {opsN opsC : Nat}  {K : Value → PH → Prop} {h : PH} (hh : F_omap_Map_Do m opsA opsN opsC K h) : CallH Try.prog id_omap_Map_Do [.pointer m, .slice opsA opsN opsC] K h :=
  denF_sound' Try.func14 (H := ⟨[8], [], [(0, ⟨[(27, .int .i64)], [], []⟩)], [(20, ⟨[(6, .map)], [], []⟩)]⟩) (xs := [.v (.pointer m), .v (.slice opsA opsN opsC)]) (by kernel_rfl) (⟨rfl, rfl, trivial⟩) (den_of F_omap_Map_Do_eq hh)

/- (*twinlock/omap.Map).Get -/
def F_omap_Map_Get (m : Option Addr) (p : ByteArray) (K : Value → PH → Prop) (h : PH) : Prop :=
  (((Option.isNone m) = true →
      K (.tuple #[.string (⟨#[]⟩ : ByteArray), .bool false]) h) ∧
    ((Option.isNone m) = false →
      ∃ bv ov : Nat, m = some ⟨bv, ov, none⟩ ∧
      ∃ t : Option Nat, (h.rds bv ov 1 = some [.map t]) ∧
      ∃ t_1 : ByteArray, ∃ ok : Bool, lkH .str h t (.string p) (.string (⟨#[]⟩ : ByteArray)) (.string t_1) ok ∧
      K (.tuple #[.string t_1, .bool ok]) h))
theorem F_omap_Map_Get_eq {m : Option Addr} {p : ByteArray} {K : Value → PH → Prop} {h : PH} : @Eq Prop (F_omap_Map_Get m p K h) (denF Try.prog Try.f15 ⟨[], [], [], []⟩ [.v (.pointer m), .v (.string p)] K h) := by
  kernel_rfl
theorem F_omap_Map_Get_ok {m : Option Addr} {p : ByteArray}  {K : Value → PH → Prop} {h : PH} (hh : F_omap_Map_Get m p K h) : CallH Try.prog id_omap_Map_Get [.pointer m, .string p] K h :=
  denF_sound' Try.func15 (H := ⟨[], [], [], []⟩) (xs := [.v (.pointer m), .v (.string p)]) (by kernel_rfl) (⟨rfl, rfl, trivial⟩) (den_of F_omap_Map_Get_eq hh)

/- (*twinlock/omap.Map).All -/
def F_omap_Map_All (m : Option Addr) (K : Value → PH → Prop) (h : PH) : Prop :=
  CallH Try.prog id_omap_Map_paths [.pointer m] (fun v h1 =>
    ∃ (tA : Option Addr) (tN tC : Nat), v = .slice tA tN tC ∧
    LoopP (T := (Option Addr × Nat × Nat) × Int × Unit) (fun Jv st h2 =>
      (((decide (st.2.1 < ((tN : Nat) : Int))) = true →
          ∃ bv ov : Nat, (tA = some ⟨bv, ov, none⟩ ∧ 0 ≤ st.2.1 ∧ st.2.1 < (tN : Nat)) ∧
          ∃ p : ByteArray, (h2.rds bv (ov + st.2.1.toNat * 1) 1 = some [.string p]) ∧
          ∃ bv_1 ov_1 : Nat, m = some ⟨bv_1, ov_1, none⟩ ∧
          ∃ t : Option Nat, (h2.rds bv_1 ov_1 1 = some [.map t]) ∧
          ∃ t_1 : ByteArray, ∃ ok : Bool, lkH .str h2 t (.string p) (.string (⟨#[]⟩ : ByteArray)) (.string t_1) ok ∧
          appH T_api_Pair 2 32 [.string (⟨#[]⟩ : ByteArray), .string (⟨#[]⟩ : ByteArray)] st.1.1 st.1.2.1 st.1.2.2 1 [.string p, .string t_1] (fun outA outN outC h3 =>
            Jv ((outA, outN, outC), (IntKind.wrap .i64 (st.2.1 + (1 : Int))), ()) h3) h2) ∧
        ((decide (st.2.1 < ((tN : Nat) : Int))) = false →
          K (.slice st.1.1 st.1.2.1 st.1.2.2) h2))) ((none, 0, 0), (0 : Int), ()) h1) h
theorem F_omap_Map_All_eq {m : Option Addr} {K : Value → PH → Prop} {h : PH} : @Eq Prop (F_omap_Map_All m K h) (denF Try.prog Try.f16 ⟨[22], [], [(0, ⟨[(3, .slice), (9, .int .i64)], [], []⟩)], []⟩ [.v (.pointer m)] K h) := by
  kernel_rfl
theorem F_omap_Map_All_ok {m : Option Addr}  {K : Value → PH → Prop} {h : PH} (hh : F_omap_Map_All m K h) : CallH Try.prog id_omap_Map_All [.pointer m] K h :=
  denF_sound' Try.func16 (H := ⟨[22], [], [(0, ⟨[(3, .slice), (9, .int .i64)], [], []⟩)], []⟩) (xs := [.v (.pointer m)]) (by kernel_rfl) (⟨rfl, trivial⟩) (den_of F_omap_Map_All_eq hh)

/- (*twinlock/omap.Map).Len -/
def F_omap_Map_Len (m : Option Addr) (K : Value → PH → Prop) (h : PH) : Prop :=
  CallH Try.prog id_omap_Map_paths [.pointer m] (fun v h1 =>
    ∃ (tA : Option Addr) (tN tC : Nat), v = .slice tA tN tC ∧
    K (.int .i64 ((tN : Nat) : Int)) h1) h
theorem F_omap_Map_Len_eq {m : Option Addr} {K : Value → PH → Prop} {h : PH} : @Eq Prop (F_omap_Map_Len m K h) (denF Try.prog Try.f17 ⟨[], [], [], []⟩ [.v (.pointer m)] K h) := by
  kernel_rfl
theorem F_omap_Map_Len_ok {m : Option Addr}  {K : Value → PH → Prop} {h : PH} (hh : F_omap_Map_Len m K h) : CallH Try.prog id_omap_Map_Len [.pointer m] K h :=
  denF_sound' Try.func17 (H := ⟨[], [], [], []⟩) (xs := [.v (.pointer m)]) (by kernel_rfl) (⟨rfl, trivial⟩) (den_of F_omap_Map_Len_eq hh)

/- (*twinlock/omap.Map).List -/
def F_omap_Map_List (m : Option Addr) (prefixv : ByteArray) (K : Value → PH → Prop) (h : PH) : Prop :=
  newH h (.cells #[.string prefixv] 9 (0, 0)) fun bv h1 =>
  CallH Try.prog id_omap_Map_paths [.pointer m] (fun v h2 =>
    ∃ (tA : Option Addr) (tN tC : Nat), v = .slice tA tN tC ∧
    CallH Try.prog id_slices_DeleteFunc_string_string [.slice tA tN tC, .func (.func 41) #[] #[.pointer (some ⟨bv, 0, none⟩)]] (fun v_1 h3 =>
      ∃ (tA_1 : Option Addr) (tN_1 tC_1 : Nat), v_1 = .slice tA_1 tN_1 tC_1 ∧
      K (.slice tA_1 tN_1 tC_1) h3) h2) h1
theorem F_omap_Map_List_eq {m : Option Addr} {prefixv : ByteArray} {K : Value → PH → Prop} {h : PH} : @Eq Prop (F_omap_Map_List m prefixv K h) (denF Try.prog Try.f18 ⟨[], [], [], []⟩ [.v (.pointer m), .v (.string prefixv)] K h) := by
  kernel_rfl
theorem F_omap_Map_List_ok {m : Option Addr} {prefixv : ByteArray}  {K : Value → PH → Prop} {h : PH} (hh : F_omap_Map_List m prefixv K h) : CallH Try.prog id_omap_Map_List [.pointer m, .string prefixv] K h :=
  denF_sound' Try.func18 (H := ⟨[], [], [], []⟩) (xs := [.v (.pointer m), .v (.string prefixv)]) (by kernel_rfl) (⟨rfl, rfl, trivial⟩) (den_of F_omap_Map_List_eq hh)

/- twinlock/path.Cut -/
def F_path_Cut (p : ByteArray) (K : Value → PH → Prop) (h : PH) : Prop :=
  CallH Try.prog id_strings_Cut [.string p, .string (⟨#[47]⟩ : ByteArray)] (fun v h1 =>
    ∃ t0 : ByteArray, ∃ t1 : ByteArray, ∃ t2 : Bool, v = .tuple #[.string t0, .string t1, .bool t2] ∧
    (((!t2) = false →
        CallH Try.prog id_path_named [.string t0] (fun v_1 h2 =>
          ∃ t : Bool, v_1 = .bool t ∧
          (((!t) = false →
              CallH Try.prog id_path_key [.string t1] (fun v_2 h3 =>
                ∃ t_1 : Bool, v_2 = .bool t_1 ∧
                (((!t_1) = true →
                    K (.tuple #[.string (⟨#[]⟩ : ByteArray), .string (⟨#[]⟩ : ByteArray), .bool false]) h3) ∧
                  ((!t_1) = false →
                    K (.tuple #[.string t0, .string t1, .bool true]) h3))) h2) ∧
            ((!t) = true →
              K (.tuple #[.string (⟨#[]⟩ : ByteArray), .string (⟨#[]⟩ : ByteArray), .bool false]) h2))) h1) ∧
      ((!t2) = true →
        K (.tuple #[.string (⟨#[]⟩ : ByteArray), .string (⟨#[]⟩ : ByteArray), .bool false]) h1))) h
theorem F_path_Cut_eq {p : ByteArray} {K : Value → PH → Prop} {h : PH} : @Eq Prop (F_path_Cut p K h) (denF Try.prog Try.f19 ⟨[], [], [], []⟩ [.v (.string p)] K h) := by
  kernel_rfl
theorem F_path_Cut_ok {p : ByteArray}  {K : Value → PH → Prop} {h : PH} (hh : F_path_Cut p K h) : CallH Try.prog id_path_Cut [.string p] K h :=
  denF_sound' Try.func19 (H := ⟨[], [], [], []⟩) (xs := [.v (.string p)]) (by kernel_rfl) (⟨rfl, trivial⟩) (den_of F_path_Cut_eq hh)

/- twinlock/twinlocklaw11.Great -/
def F_law11_Great (lA : Option Addr) (lN _ : Nat) (K : Value → PH → Prop) (h : PH) : Prop :=
  (((decide (((lN : Nat) : Int) > (100 : Int))) = true →
      K (.bool true) h) ∧
    ((decide (((lN : Nat) : Int) > (100 : Int))) = false →
      LoopP (T := Int × Unit) (fun Jv st h1 =>
        (((decide (st.1 < ((lN : Nat) : Int))) = true →
            ∃ bv ov : Nat, (lA = some ⟨bv, ov, none⟩ ∧ 0 ≤ st.1 ∧ st.1 < (lN : Nat)) ∧
            ∃ t : ByteArray, (h1.rds bv (ov + st.1.toNat * 2) 1 = some [.string t]) ∧
            (((decide ((t.size : Int) > (1000 : Int))) = true →
                K (.bool true) h1) ∧
              ((decide ((t.size : Int) > (1000 : Int))) = false →
                Jv ((IntKind.wrap .i64 (st.1 + (1 : Int))), ()) h1))) ∧
          ((decide (st.1 < ((lN : Nat) : Int))) = false →
            K (.bool false) h1))) ((0 : Int), ()) h))
theorem F_law11_Great_eq {lA : Option Addr} {lN lC : Nat} {K : Value → PH → Prop} {h : PH} : @Eq Prop (F_law11_Great lA lN lC K h) (denF Try.prog Try.f20 ⟨[], [], [(0, ⟨[(3, .int .i64)], [], []⟩)], []⟩ [.v (.slice lA lN lC)] K h) := by
  kernel_rfl
theorem F_law11_Great_ok {lA : Option Addr} {lN lC : Nat}  {K : Value → PH → Prop} {h : PH} (hh : F_law11_Great lA lN lC K h) : CallH Try.prog id_law11_Great [.slice lA lN lC] K h :=
  denF_sound' Try.func20 (H := ⟨[], [], [(0, ⟨[(3, .int .i64)], [], []⟩)], []⟩) (xs := [.v (.slice lA lN lC)]) (by kernel_rfl) (⟨rfl, trivial⟩) (den_of F_law11_Great_eq hh)

/- twinlock/twinlocklaw13.shipped -/
def F_law13_shipped (lA : Option Addr) (lN lC : Nat) (opsA : Option Addr) (opsN _ : Nat) (K : Value → PH → Prop) (h : PH) : Prop :=
  LoopP (T := (Option Addr × Nat × Nat) × Int × Unit) (fun Jv st h1 =>
    (((decide (st.2.1 < ((opsN : Nat) : Int))) = true →
        ∃ bv ov : Nat, (opsA = some ⟨bv, ov, none⟩ ∧ 0 ≤ st.2.1 ∧ st.2.1 < (opsN : Nat)) ∧
        ∃ t : ByteArray, (h1.rds bv ((ov + st.2.1.toNat * 3) + 1) 1 = some [.string t]) ∧
        CallH Try.prog id_path_Ships [.slice lA lN lC, .string t] (fun v h2 =>
          ∃ t_1 : Bool, v = .bool t_1 ∧
          ((t_1 = true →
              ∃ bv_1 ov_1 : Nat, (opsA = some ⟨bv_1, ov_1, none⟩ ∧ 0 ≤ st.2.1 ∧ st.2.1 < (opsN : Nat)) ∧
              ∃ t0 : Int, ∃ t1 : ByteArray, ∃ t2 : ByteArray, (h2.rds bv_1 (ov_1 + st.2.1.toNat * 3) 3 = some [.int .u8 t0, .string t1, .string t2]) ∧
              appH T_api_Op 3 40 [.int .u8 (0 : Int), .string (⟨#[]⟩ : ByteArray), .string (⟨#[]⟩ : ByteArray)] st.1.1 st.1.2.1 st.1.2.2 1 [.int .u8 t0, .string t1, .string t2] (fun outA outN outC h3 =>
                Jv ((outA, outN, outC), (IntKind.wrap .i64 (st.2.1 + (1 : Int))), ()) h3) h2) ∧
            (t_1 = false →
              Jv ((st.1.1, st.1.2.1, st.1.2.2), (IntKind.wrap .i64 (st.2.1 + (1 : Int))), ()) h2))) h1) ∧
      ((decide (st.2.1 < ((opsN : Nat) : Int))) = false →
        K (.slice st.1.1 st.1.2.1 st.1.2.2) h1))) ((none, 0, 0), (0 : Int), ()) h
theorem F_law13_shipped_eq {lA : Option Addr} {lN lC : Nat} {opsA : Option Addr} {opsN opsC : Nat} {K : Value → PH → Prop} {h : PH} : @Eq Prop (F_law13_shipped lA lN lC opsA opsN opsC K h) (denF Try.prog Try.f21 ⟨[25], [], [(0, ⟨[(5, .slice), (6, .int .i64)], [], []⟩)], []⟩ [.v (.slice lA lN lC), .v (.slice opsA opsN opsC)] K h) := by
  kernel_rfl
theorem F_law13_shipped_ok {lA : Option Addr} {lN lC : Nat} {opsA : Option Addr} {opsN opsC : Nat}  {K : Value → PH → Prop} {h : PH} (hh : F_law13_shipped lA lN lC opsA opsN opsC K h) : CallH Try.prog id_law13_shipped [.slice lA lN lC, .slice opsA opsN opsC] K h :=
  denF_sound' Try.func21 (H := ⟨[25], [], [(0, ⟨[(5, .slice), (6, .int .i64)], [], []⟩)], []⟩) (xs := [.v (.slice lA lN lC), .v (.slice opsA opsN opsC)]) (by kernel_rfl) (⟨rfl, rfl, trivial⟩) (den_of F_law13_shipped_eq hh)

/- twinlock/omap.Same -/
def F_omap_Same (a : Option Addr) (bv : Option Addr) (K : Value → PH → Prop) (h : PH) : Prop :=
  CallH Try.prog id_omap_Map_All [.pointer a] (fun v h1 =>
    ∃ (tA : Option Addr) (tN tC : Nat), v = .slice tA tN tC ∧
    CallH Try.prog id_omap_Map_All [.pointer bv] (fun v_1 h2 =>
      ∃ (tA_1 : Option Addr) (tN_1 tC_1 : Nat), v_1 = .slice tA_1 tN_1 tC_1 ∧
      CallH Try.prog id_slices_Equal_api_Pair_api_Pair [.slice tA tN tC, .slice tA_1 tN_1 tC_1] (fun v_2 h3 =>
        ∃ t : Bool, v_2 = .bool t ∧
        K (.bool t) h3) h2) h1) h
theorem F_omap_Same_eq {a : Option Addr} {bv : Option Addr} {K : Value → PH → Prop} {h : PH} : @Eq Prop (F_omap_Same a bv K h) (denF Try.prog Try.f22 ⟨[], [], [], []⟩ [.v (.pointer a), .v (.pointer bv)] K h) := by
  kernel_rfl
theorem F_omap_Same_ok {a : Option Addr} {bv : Option Addr}  {K : Value → PH → Prop} {h : PH} (hh : F_omap_Same a bv K h) : CallH Try.prog id_omap_Same [.pointer a, .pointer bv] K h :=
  denF_sound' Try.func22 (H := ⟨[], [], [], []⟩) (xs := [.v (.pointer a), .v (.pointer bv)]) (by kernel_rfl) (⟨rfl, rfl, trivial⟩) (den_of F_omap_Same_eq hh)

/- (*twinlock/omap.Map).Filter -/
def F_omap_Map_Filter (m : Option Addr) (lA : Option Addr) (lN lC : Nat) (K : Value → PH → Prop) (h : PH) : Prop :=
  CallH Try.prog id_omap_New [] (fun v h1 =>
    ∃ out : Option Addr, v = .pointer out ∧
    CallH Try.prog id_omap_Map_All [.pointer m] (fun v_1 h2 =>
      ∃ (tA : Option Addr) (tN tC : Nat), v_1 = .slice tA tN tC ∧
      LoopP (T := Int × Unit) (fun Jv st h3 =>
        (((decide (st.1 < ((tN : Nat) : Int))) = true →
            ∃ bv ov : Nat, (tA = some ⟨bv, ov, none⟩ ∧ 0 ≤ st.1 ∧ st.1 < (tN : Nat)) ∧
            ∃ x0 : ByteArray, ∃ x1 : ByteArray, (h3.rds bv (ov + st.1.toNat * 2) 2 = some [.string x0, .string x1]) ∧
            CallH Try.prog id_path_Ships [.slice lA lN lC, .string x0] (fun v_2 h4 =>
              ∃ t : Bool, v_2 = .bool t ∧
              ((t = true →
                  ∃ bv_1 ov_1 : Nat, out = some ⟨bv_1, ov_1, none⟩ ∧
                  ∃ t_1 : Option Nat, (h4.rds bv_1 ov_1 1 = some [.map t_1]) ∧
                  muH .str h4 t_1 (.string x0) (.string x1) fun h5 =>
                  Jv ((IntKind.wrap .i64 (st.1 + (1 : Int))), ()) h5) ∧
                (t = false →
                  Jv ((IntKind.wrap .i64 (st.1 + (1 : Int))), ()) h4))) h3) ∧
          ((decide (st.1 < ((tN : Nat) : Int))) = false →
            K (.pointer out) h3))) ((0 : Int), ()) h2) h1) h
theorem F_omap_Map_Filter_eq {m : Option Addr} {lA : Option Addr} {lN lC : Nat} {K : Value → PH → Prop} {h : PH} : @Eq Prop (F_omap_Map_Filter m lA lN lC K h) (denF Try.prog Try.f23 ⟨[7], [], [(0, ⟨[(12, .int .i64)], [], []⟩)], []⟩ [.v (.pointer m), .v (.slice lA lN lC)] K h) := by
  kernel_rfl
theorem F_omap_Map_Filter_ok {m : Option Addr} {lA : Option Addr} {lN lC : Nat}  {K : Value → PH → Prop} {h : PH} (hh : F_omap_Map_Filter m lA lN lC K h) : CallH Try.prog id_omap_Map_Filter [.pointer m, .slice lA lN lC] K h :=
  denF_sound' Try.func23 (H := ⟨[7], [], [(0, ⟨[(12, .int .i64)], [], []⟩)], []⟩) (xs := [.v (.pointer m), .v (.slice lA lN lC)]) (by kernel_rfl) (⟨rfl, rfl, trivial⟩) (den_of F_omap_Map_Filter_eq hh)

/- twinlock/twinlocklaw13.GreatPairs -/
def F_law13_GreatPairs (lA : Option Addr) (lN _ : Nat) (K : Value → PH → Prop) (h : PH) : Prop :=
  (((decide (((lN : Nat) : Int) > (200 : Int))) = true →
      K (.bool true) h) ∧
    ((decide (((lN : Nat) : Int) > (200 : Int))) = false →
      LoopP (T := Int × Unit) (fun Jv st h1 =>
        (((decide (st.1 < ((lN : Nat) : Int))) = true →
            ∃ bv ov : Nat, (lA = some ⟨bv, ov, none⟩ ∧ 0 ≤ st.1 ∧ st.1 < (lN : Nat)) ∧
            ∃ t : ByteArray, (h1.rds bv (ov + st.1.toNat * 2) 1 = some [.string t]) ∧
            ∃ bv_1 ov_1 : Nat, (((decide ((t.size : Int) > (1000 : Int))) = false → lA = some ⟨bv_1, ov_1, none⟩ ∧ 0 ≤ st.1 ∧ st.1 < (lN : Nat))) ∧
            ∃ t_1 : ByteArray, (((decide ((t.size : Int) > (1000 : Int))) = false → h1.rds bv_1 ((ov_1 + st.1.toNat * 2) + 1) 1 = some [.string t_1])) ∧
            ((((decide ((t.size : Int) > (1000 : Int))) || (decide ((t_1.size : Int) > (1000 : Int)))) = true →
                K (.bool true) h1) ∧
              (((decide ((t.size : Int) > (1000 : Int))) || (decide ((t_1.size : Int) > (1000 : Int)))) = false →
                Jv ((IntKind.wrap .i64 (st.1 + (1 : Int))), ()) h1))) ∧
          ((decide (st.1 < ((lN : Nat) : Int))) = false →
            K (.bool false) h1))) ((0 : Int), ()) h))
theorem F_law13_GreatPairs_eq {lA : Option Addr} {lN lC : Nat} {K : Value → PH → Prop} {h : PH} : @Eq Prop (F_law13_GreatPairs lA lN lC K h) (denF Try.prog Try.f24 ⟨[], [], [(0, ⟨[(3, .int .i64)], [], []⟩)], []⟩ [.v (.slice lA lN lC)] K h) := by
  kernel_rfl
theorem F_law13_GreatPairs_ok {lA : Option Addr} {lN lC : Nat}  {K : Value → PH → Prop} {h : PH} (hh : F_law13_GreatPairs lA lN lC K h) : CallH Try.prog id_law13_GreatPairs [.slice lA lN lC] K h :=
  denF_sound' Try.func24 (H := ⟨[], [], [(0, ⟨[(3, .int .i64)], [], []⟩)], []⟩) (xs := [.v (.slice lA lN lC)]) (by kernel_rfl) (⟨rfl, trivial⟩) (den_of F_law13_GreatPairs_eq hh)

/- twinlock/omap.Of -/
def F_omap_Of (lA : Option Addr) (lN _ : Nat) (K : Value → PH → Prop) (h : PH) : Prop :=
  (((decide (((lN : Nat) : Int) > (48 : Int))) = true →
      K (.tuple #[.pointer none, .int .i64 (6 : Int)]) h) ∧
    ((decide (((lN : Nat) : Int) > (48 : Int))) = false →
      CallH Try.prog id_omap_New [] (fun v h1 =>
        ∃ m : Option Addr, v = .pointer m ∧
        LoopP (T := Int × Unit) (fun Jv st h2 =>
          (((decide (st.1 < ((lN : Nat) : Int))) = true →
              ∃ bv ov : Nat, (lA = some ⟨bv, ov, none⟩ ∧ 0 ≤ st.1 ∧ st.1 < (lN : Nat)) ∧
              ∃ x0 : ByteArray, ∃ x1 : ByteArray, (h2.rds bv (ov + st.1.toNat * 2) 2 = some [.string x0, .string x1]) ∧
              CallH Try.prog id_path_Cut [.string x0] (fun v_1 h3 =>
                ∃ t0 : ByteArray, ∃ t1 : ByteArray, ∃ t2 : Bool, v_1 = .tuple #[.string t0, .string t1, .bool t2] ∧
                ((((!t2) || (decide ((x1.size : Int) > (32 : Int)))) = true →
                    K (.tuple #[.pointer none, .int .i64 (1 : Int)]) h3) ∧
                  (((!t2) || (decide ((x1.size : Int) > (32 : Int)))) = false →
                    ∃ bv_1 ov_1 : Nat, m = some ⟨bv_1, ov_1, none⟩ ∧
                    ∃ t : Option Nat, (h3.rds bv_1 ov_1 1 = some [.map t]) ∧
                    ∃ t_1 : ByteArray, ∃ ok : Bool, lkH .str h3 t (.string x0) (.string (⟨#[]⟩ : ByteArray)) (.string t_1) ok ∧
                    ((ok = true →
                        K (.tuple #[.pointer none, .int .i64 (5 : Int)]) h3) ∧
                      (ok = false →
                        ∃ bv_2 ov_2 : Nat, m = some ⟨bv_2, ov_2, none⟩ ∧
                        ∃ t_2 : Option Nat, (h3.rds bv_2 ov_2 1 = some [.map t_2]) ∧
                        muH .str h3 t_2 (.string x0) (.string x1) fun h4 =>
                        Jv ((IntKind.wrap .i64 (st.1 + (1 : Int))), ()) h4))))) h2) ∧
            ((decide (st.1 < ((lN : Nat) : Int))) = false →
              K (.tuple #[.pointer m, .int .i64 (0 : Int)]) h2))) ((0 : Int), ()) h1) h))
theorem F_omap_Of_eq {lA : Option Addr} {lN lC : Nat} {K : Value → PH → Prop} {h : PH} : @Eq Prop (F_omap_Of lA lN lC K h) (denF Try.prog Try.f25 ⟨[6], [], [(0, ⟨[(18, .int .i64)], [], []⟩)], []⟩ [.v (.slice lA lN lC)] K h) := by
  kernel_rfl
theorem F_omap_Of_ok {lA : Option Addr} {lN lC : Nat}  {K : Value → PH → Prop} {h : PH} (hh : F_omap_Of lA lN lC K h) : CallH Try.prog id_omap_Of [.slice lA lN lC] K h :=
  denF_sound' Try.func25 (H := ⟨[6], [], [(0, ⟨[(18, .int .i64)], [], []⟩)], []⟩) (xs := [.v (.slice lA lN lC)]) (by kernel_rfl) (⟨rfl, trivial⟩) (den_of F_omap_Of_eq hh)

/- twinlock/twinlockref13.Of -/
def F_ref13_Of (lA : Option Addr) (lN _ : Nat) (K : Value → PH → Prop) (h : PH) : Prop :=
  (((decide (((lN : Nat) : Int) > (48 : Int))) = true →
      K (.tuple #[.agg #[.slice none 0 0], .int .i64 (6 : Int)]) h) ∧
    ((decide (((lN : Nat) : Int) > (48 : Int))) = false →
      LoopP (T := Int × (Option Addr × Nat × Nat) × (Option Addr × Nat × Nat) × Unit) (fun Jv st h1 =>
        (((decide (st.1 < ((lN : Nat) : Int))) = true →
            ∃ bv ov : Nat, (lA = some ⟨bv, ov, none⟩ ∧ 0 ≤ st.1 ∧ st.1 < (lN : Nat)) ∧
            ∃ t : ByteArray, (h1.rds bv (ov + st.1.toNat * 2) 1 = some [.string t]) ∧
            CallH Try.prog id_ref11_Cut [.string t] (fun v h2 =>
              ∃ t0 : ByteArray, ∃ t1 : ByteArray, ∃ t2 : Bool, v = .tuple #[.string t0, .string t1, .bool t2] ∧
              ∃ bv_1 ov_1 : Nat, (((!t2) = false → lA = some ⟨bv_1, ov_1, none⟩ ∧ 0 ≤ st.1 ∧ st.1 < (lN : Nat))) ∧
              ∃ t_1 : ByteArray, (((!t2) = false → h2.rds bv_1 ((ov_1 + st.1.toNat * 2) + 1) 1 = some [.string t_1])) ∧
              ((((!t2) || (decide ((t_1.size : Int) > (32 : Int)))) = true →
                  K (.tuple #[.agg #[.slice none 0 0], .int .i64 (1 : Int)]) h2) ∧
                (((!t2) || (decide ((t_1.size : Int) > (32 : Int)))) = false →
                  ∃ bv_2 ov_2 : Nat, (lA = some ⟨bv_2, ov_2, none⟩ ∧ 0 ≤ st.1 ∧ st.1 < (lN : Nat)) ∧
                  ∃ t_2 : ByteArray, (h2.rds bv_2 (ov_2 + st.1.toNat * 2) 1 = some [.string t_2]) ∧
                  CallH Try.prog id_ref13_Map_find [.agg #[.slice st.2.2.1.1 st.2.2.1.2.1 st.2.2.1.2.2], .string t_2] (fun v_1 h3 =>
                    ∃ t0_1 : Int, ∃ t1_1 : Bool, v_1 = .tuple #[.int .i64 t0_1, .bool t1_1] ∧
                    ((t1_1 = true →
                        K (.tuple #[.agg #[.slice none 0 0], .int .i64 (5 : Int)]) h3) ∧
                      (t1_1 = false →
                        ∃ bv_3 ov_3 : Nat, (lA = some ⟨bv_3, ov_3, none⟩ ∧ 0 ≤ st.1 ∧ st.1 < (lN : Nat)) ∧
                        ∃ t_3 : ByteArray, (h3.rds bv_3 (ov_3 + st.1.toNat * 2) 1 = some [.string t_3]) ∧
                        ∃ bv_4 ov_4 : Nat, (lA = some ⟨bv_4, ov_4, none⟩ ∧ 0 ≤ st.1 ∧ st.1 < (lN : Nat)) ∧
                        ∃ t_4 : ByteArray, (h3.rds bv_4 ((ov_4 + st.1.toNat * 2) + 1) 1 = some [.string t_4]) ∧
                        CallH Try.prog id_ref13_Map_With [.agg #[.slice st.2.2.1.1 st.2.2.1.2.1 st.2.2.1.2.2], .string t_3, .string t_4] (fun v_2 h4 =>
                          ∃ (mA : Option Addr) (mN mC : Nat), v_2 = .agg #[.slice mA mN mC] ∧
                          Jv ((IntKind.wrap .i64 (st.1 + (1 : Int))), (st.2.1.1, st.2.1.2.1, st.2.1.2.2), (mA, mN, mC), ()) h4) h3))) h2))) h1) ∧
          ((decide (st.1 < ((lN : Nat) : Int))) = false →
            K (.tuple #[.agg #[.slice st.2.2.1.1 st.2.2.1.2.1 st.2.2.1.2.2], .int .i64 (0 : Int)]) h1))) ((0 : Int), (none, 0, 0), (none, 0, 0), ()) h))
theorem F_ref13_Of_eq {lA : Option Addr} {lN lC : Nat} {K : Value → PH → Prop} {h : PH} : @Eq Prop (F_ref13_Of lA lN lC K h) (denF Try.prog Try.f26 ⟨[2, 4], [], [(0, ⟨[(5, .int .i64)], [], [(0, [.one (.slice)]), (1, [.one (.slice)])]⟩)], []⟩ [.v (.slice lA lN lC)] K h) := by
  kernel_rfl
theorem F_ref13_Of_ok {lA : Option Addr} {lN lC : Nat}  {K : Value → PH → Prop} {h : PH} (hh : F_ref13_Of lA lN lC K h) : CallH Try.prog id_ref13_Of [.slice lA lN lC] K h :=
  denF_sound' Try.func26 (H := ⟨[2, 4], [], [(0, ⟨[(5, .int .i64)], [], [(0, [.one (.slice)]), (1, [.one (.slice)])]⟩)], []⟩) (xs := [.v (.slice lA lN lC)]) (by kernel_rfl) (⟨rfl, trivial⟩) (den_of F_ref13_Of_eq hh)

/- (twinlock/twinlockref13.Map).Do -/
def F_ref13_Map_Do (mA : Option Addr) (mN mC : Nat) (opsA : Option Addr) (opsN opsC : Nat) (K : Value → PH → Prop) (h : PH) : Prop :=
  CallH Try.prog id_ref12_Right [.agg #[.int .i64 (1 : Int), .int .i64 (1 : Int), .slice opsA opsN opsC]] (fun v h1 =>
    ∃ e : Int, v = .int .i64 e ∧
    (((e != (0 : Int)) = true →
        K (.tuple #[.agg #[.slice mA mN mC], .int .i64 e]) h1) ∧
      ((e != (0 : Int)) = false →
        CallH Try.prog id_ref13_Map_Does [.agg #[.slice mA mN mC], .slice opsA opsN opsC] (fun v_1 h2 =>
          ∃ (nextA : Option Addr) (nextN nextC : Nat), v_1 = .agg #[.slice nextA nextN nextC] ∧
          (((decide (((nextN : Nat) : Int) > (48 : Int))) = true →
              K (.tuple #[.agg #[.slice mA mN mC], .int .i64 (6 : Int)]) h2) ∧
            ((decide (((nextN : Nat) : Int) > (48 : Int))) = false →
              K (.tuple #[.agg #[.slice nextA nextN nextC], .int .i64 (0 : Int)]) h2))) h1))) h
theorem F_ref13_Map_Do_eq {mA : Option Addr} {mN mC : Nat} {opsA : Option Addr} {opsN opsC : Nat} {K : Value → PH → Prop} {h : PH} : @Eq Prop (F_ref13_Map_Do mA mN mC opsA opsN opsC K h) (denF Try.prog Try.f27 ⟨[2, 4, 7], [], [], []⟩ [.agg [.one (.slice mA mN mC)], .v (.slice opsA opsN opsC)] K h) := by
  kernel_rfl
theorem F_ref13_Map_Do_ok {mA : Option Addr} {mN mC : Nat} {opsA : Option Addr} {opsN opsC : Nat}  {K : Value → PH → Prop} {h : PH} (hh : F_ref13_Map_Do mA mN mC opsA opsN opsC K h) : CallH Try.prog id_ref13_Map_Do [.agg #[.slice mA mN mC], .slice opsA opsN opsC] K h :=
  denF_sound' Try.func27 (H := ⟨[2, 4, 7], [], [], []⟩) (xs := [.agg [.one (.slice mA mN mC)], .v (.slice opsA opsN opsC)]) (by kernel_rfl) (⟨⟨rfl, trivial⟩, rfl, trivial⟩) (den_of F_ref13_Map_Do_eq hh)

/- (twinlock/twinlockref13.Map).Get -/
def F_ref13_Map_Get (mA : Option Addr) (mN mC : Nat) (p : ByteArray) (K : Value → PH → Prop) (h : PH) : Prop :=
  CallH Try.prog id_ref13_Map_find [.agg #[.slice mA mN mC], .string p] (fun v h1 =>
    ∃ t0 : Int, ∃ t1 : Bool, v = .tuple #[.int .i64 t0, .bool t1] ∧
    (((!t1) = true →
        K (.tuple #[.string (⟨#[]⟩ : ByteArray), .bool false]) h1) ∧
      ((!t1) = false →
        ∃ bv ov : Nat, (mA = some ⟨bv, ov, none⟩ ∧ 0 ≤ t0 ∧ t0 < (mN : Nat)) ∧
        ∃ t : ByteArray, (h1.rds bv ((ov + t0.toNat * 2) + 1) 1 = some [.string t]) ∧
        K (.tuple #[.string t, .bool true]) h1))) h
theorem F_ref13_Map_Get_eq {mA : Option Addr} {mN mC : Nat} {p : ByteArray} {K : Value → PH → Prop} {h : PH} : @Eq Prop (F_ref13_Map_Get mA mN mC p K h) (denF Try.prog Try.f28 ⟨[2], [], [], []⟩ [.agg [.one (.slice mA mN mC)], .v (.string p)] K h) := by
  kernel_rfl
theorem F_ref13_Map_Get_ok {mA : Option Addr} {mN mC : Nat} {p : ByteArray}  {K : Value → PH → Prop} {h : PH} (hh : F_ref13_Map_Get mA mN mC p K h) : CallH Try.prog id_ref13_Map_Get [.agg #[.slice mA mN mC], .string p] K h :=
  denF_sound' Try.func28 (H := ⟨[2], [], [], []⟩) (xs := [.agg [.one (.slice mA mN mC)], .v (.string p)]) (by kernel_rfl) (⟨⟨rfl, trivial⟩, rfl, trivial⟩) (den_of F_ref13_Map_Get_eq hh)

/- twinlock/twinlockref13.Same -/
def F_ref13_Same (aA : Option Addr) (aN _ : Nat) (bA : Option Addr) (bN _ : Nat) (K : Value → PH → Prop) (h : PH) : Prop :=
  (((((aN : Nat) : Int) != ((bN : Nat) : Int)) = true →
      K (.bool false) h) ∧
    ((((aN : Nat) : Int) != ((bN : Nat) : Int)) = false →
      LoopP (T := Int × Unit) (fun Jv st h1 =>
        (((decide (st.1 < ((aN : Nat) : Int))) = true →
            ∃ bv ov : Nat, (aA = some ⟨bv, ov, none⟩ ∧ 0 ≤ st.1 ∧ st.1 < (aN : Nat)) ∧
            ∃ t0 : ByteArray, ∃ t1 : ByteArray, (h1.rds bv (ov + st.1.toNat * 2) 2 = some [.string t0, .string t1]) ∧
            ∃ bv_1 ov_1 : Nat, (bA = some ⟨bv_1, ov_1, none⟩ ∧ 0 ≤ st.1 ∧ st.1 < (bN : Nat)) ∧
            ∃ t0_1 : ByteArray, ∃ t1_1 : ByteArray, (h1.rds bv_1 (ov_1 + st.1.toNat * 2) 2 = some [.string t0_1, .string t1_1]) ∧
            (((!((strEq t0 t0_1) && ((strEq t1 t1_1) && true))) = true →
                K (.bool false) h1) ∧
              ((!((strEq t0 t0_1) && ((strEq t1 t1_1) && true))) = false →
                Jv ((IntKind.wrap .i64 (st.1 + (1 : Int))), ()) h1))) ∧
          ((decide (st.1 < ((aN : Nat) : Int))) = false →
            K (.bool true) h1))) ((0 : Int), ()) h))
theorem F_ref13_Same_eq {aA : Option Addr} {aN aC : Nat} {bA : Option Addr} {bN bC : Nat} {K : Value → PH → Prop} {h : PH} : @Eq Prop (F_ref13_Same aA aN aC bA bN bC K h) (denF Try.prog Try.f29 ⟨[], [], [(0, ⟨[(5, .int .i64)], [], []⟩)], []⟩ [.v (.slice aA aN aC), .v (.slice bA bN bC)] K h) := by
  kernel_rfl
theorem F_ref13_Same_ok {aA : Option Addr} {aN aC : Nat} {bA : Option Addr} {bN bC : Nat}  {K : Value → PH → Prop} {h : PH} (hh : F_ref13_Same aA aN aC bA bN bC K h) : CallH Try.prog id_ref13_Same [.slice aA aN aC, .slice bA bN bC] K h :=
  denF_sound' Try.func29 (H := ⟨[], [], [(0, ⟨[(5, .int .i64)], [], []⟩)], []⟩) (xs := [.v (.slice aA aN aC), .v (.slice bA bN bC)]) (by kernel_rfl) (⟨rfl, rfl, trivial⟩) (den_of F_ref13_Same_eq hh)

/- twinlock/twinlocklaw13.SameTexts -/
def F_law13_SameTexts (aA : Option Addr) (aN _ : Nat) (bA : Option Addr) (bN _ : Nat) (K : Value → PH → Prop) (h : PH) : Prop :=
  (((((aN : Nat) : Int) != ((bN : Nat) : Int)) = true →
      K (.bool false) h) ∧
    ((((aN : Nat) : Int) != ((bN : Nat) : Int)) = false →
      LoopP (T := Int × Unit) (fun Jv st h1 =>
        (((decide (st.1 < ((aN : Nat) : Int))) = true →
            ∃ bv ov : Nat, (aA = some ⟨bv, ov, none⟩ ∧ 0 ≤ st.1 ∧ st.1 < (aN : Nat)) ∧
            ∃ t : ByteArray, (h1.rds bv (ov + st.1.toNat * 1) 1 = some [.string t]) ∧
            ∃ bv_1 ov_1 : Nat, (bA = some ⟨bv_1, ov_1, none⟩ ∧ 0 ≤ st.1 ∧ st.1 < (bN : Nat)) ∧
            ∃ t_1 : ByteArray, (h1.rds bv_1 (ov_1 + st.1.toNat * 1) 1 = some [.string t_1]) ∧
            (((!(strEq t t_1)) = true →
                K (.bool false) h1) ∧
              ((!(strEq t t_1)) = false →
                Jv ((IntKind.wrap .i64 (st.1 + (1 : Int))), ()) h1))) ∧
          ((decide (st.1 < ((aN : Nat) : Int))) = false →
            K (.bool true) h1))) ((0 : Int), ()) h))
theorem F_law13_SameTexts_eq {aA : Option Addr} {aN aC : Nat} {bA : Option Addr} {bN bC : Nat} {K : Value → PH → Prop} {h : PH} : @Eq Prop (F_law13_SameTexts aA aN aC bA bN bC K h) (denF Try.prog Try.f30 ⟨[], [], [(0, ⟨[(5, .int .i64)], [], []⟩)], []⟩ [.v (.slice aA aN aC), .v (.slice bA bN bC)] K h) := by
  kernel_rfl
theorem F_law13_SameTexts_ok {aA : Option Addr} {aN aC : Nat} {bA : Option Addr} {bN bC : Nat}  {K : Value → PH → Prop} {h : PH} (hh : F_law13_SameTexts aA aN aC bA bN bC K h) : CallH Try.prog id_law13_SameTexts [.slice aA aN aC, .slice bA bN bC] K h :=
  denF_sound' Try.func30 (H := ⟨[], [], [(0, ⟨[(5, .int .i64)], [], []⟩)], []⟩) (xs := [.v (.slice aA aN aC), .v (.slice bA bN bC)]) (by kernel_rfl) (⟨rfl, rfl, trivial⟩) (den_of F_law13_SameTexts_eq hh)

/- (twinlock/twinlockref13.Map).List -/
def F_ref13_Map_List (mA : Option Addr) (mN _ : Nat) (prefixv : ByteArray) (K : Value → PH → Prop) (h : PH) : Prop :=
  LoopP (T := (Option Addr × Nat × Nat) × Int × Unit) (fun Jv st h1 =>
    (((decide (st.2.1 < ((mN : Nat) : Int))) = true →
        ∃ bv ov : Nat, (mA = some ⟨bv, ov, none⟩ ∧ 0 ≤ st.2.1 ∧ st.2.1 < (mN : Nat)) ∧
        ∃ p : ByteArray, (h1.rds bv (ov + st.2.1.toNat * 2) 1 = some [.string p]) ∧
        (((decide ((p.size : Int) ≥ (prefixv.size : Int))) = true → 0 ≤ (0 : Int) ∧ (0 : Int) ≤ (prefixv.size : Int) ∧ (prefixv.size : Int) ≤ (ByteArray.size p : Nat))) ∧
        ((((decide ((p.size : Int) ≥ (prefixv.size : Int))) && (strEq (subS p (0 : Int) (prefixv.size : Int)) prefixv)) = true →
            appH 9 1 16 [.string (⟨#[]⟩ : ByteArray)] st.1.1 st.1.2.1 st.1.2.2 1 [.string p] (fun outA outN outC h2 =>
              Jv ((outA, outN, outC), (IntKind.wrap .i64 (st.2.1 + (1 : Int))), ()) h2) h1) ∧
          (((decide ((p.size : Int) ≥ (prefixv.size : Int))) && (strEq (subS p (0 : Int) (prefixv.size : Int)) prefixv)) = false →
            Jv ((st.1.1, st.1.2.1, st.1.2.2), (IntKind.wrap .i64 (st.2.1 + (1 : Int))), ()) h1))) ∧
      ((decide (st.2.1 < ((mN : Nat) : Int))) = false →
        K (.slice st.1.1 st.1.2.1 st.1.2.2) h1))) ((none, 0, 0), (0 : Int), ()) h
theorem F_ref13_Map_List_eq {mA : Option Addr} {mN mC : Nat} {prefixv : ByteArray} {K : Value → PH → Prop} {h : PH} : @Eq Prop (F_ref13_Map_List mA mN mC prefixv K h) (denF Try.prog Try.f31 ⟨[2, 36], [], [(0, ⟨[(5, .slice), (6, .int .i64)], [], []⟩)], []⟩ [.agg [.one (.slice mA mN mC)], .v (.string prefixv)] K h) := by
  kernel_rfl
theorem F_ref13_Map_List_ok {mA : Option Addr} {mN mC : Nat} {prefixv : ByteArray}  {K : Value → PH → Prop} {h : PH} (hh : F_ref13_Map_List mA mN mC prefixv K h) : CallH Try.prog id_ref13_Map_List [.agg #[.slice mA mN mC], .string prefixv] K h :=
  denF_sound' Try.func31 (H := ⟨[2, 36], [], [(0, ⟨[(5, .slice), (6, .int .i64)], [], []⟩)], []⟩) (xs := [.agg [.one (.slice mA mN mC)], .v (.string prefixv)]) (by kernel_rfl) (⟨⟨rfl, trivial⟩, rfl, trivial⟩) (den_of F_ref13_Map_List_eq hh)

/- (twinlock/twinlockref13.Map).Filter -/
def F_ref13_Map_Filter (mA : Option Addr) (mN _ : Nat) (lA : Option Addr) (lN lC : Nat) (K : Value → PH → Prop) (h : PH) : Prop :=
  LoopP (T := Int × (Option Addr × Nat × Nat) × Unit) (fun Jv st h1 =>
    (((decide (st.1 < ((mN : Nat) : Int))) = true →
        ∃ bv ov : Nat, (mA = some ⟨bv, ov, none⟩ ∧ 0 ≤ st.1 ∧ st.1 < (mN : Nat)) ∧
        ∃ t : ByteArray, (h1.rds bv (ov + st.1.toNat * 2) 1 = some [.string t]) ∧
        CallH Try.prog id_ref11_Ships [.slice lA lN lC, .string t] (fun v h2 =>
          ∃ t_1 : Bool, v = .bool t_1 ∧
          ((t_1 = true →
              ∃ bv_1 ov_1 : Nat, (mA = some ⟨bv_1, ov_1, none⟩ ∧ 0 ≤ st.1 ∧ st.1 < (mN : Nat)) ∧
              ∃ t0 : ByteArray, ∃ t1 : ByteArray, (h2.rds bv_1 (ov_1 + st.1.toNat * 2) 2 = some [.string t0, .string t1]) ∧
              appH T_api_Pair 2 32 [.string (⟨#[]⟩ : ByteArray), .string (⟨#[]⟩ : ByteArray)] st.2.1.1 st.2.1.2.1 st.2.1.2.2 1 [.string t0, .string t1] (fun tA tN tC h3 =>
                Jv ((IntKind.wrap .i64 (st.1 + (1 : Int))), (tA, tN, tC), ()) h3) h2) ∧
            (t_1 = false →
              Jv ((IntKind.wrap .i64 (st.1 + (1 : Int))), (st.2.1.1, st.2.1.2.1, st.2.1.2.2), ()) h2))) h1) ∧
      ((decide (st.1 < ((mN : Nat) : Int))) = false →
        K (.agg #[.slice st.2.1.1 st.2.1.2.1 st.2.1.2.2]) h1))) ((0 : Int), (none, 0, 0), ()) h
theorem F_ref13_Map_Filter_eq {mA : Option Addr} {mN mC : Nat} {lA : Option Addr} {lN lC : Nat} {K : Value → PH → Prop} {h : PH} : @Eq Prop (F_ref13_Map_Filter mA mN mC lA lN lC K h) (denF Try.prog Try.f32 ⟨[2, 4, 5, 29], [], [(0, ⟨[(6, .int .i64)], [], [(2, [.one (.slice)])]⟩)], []⟩ [.agg [.one (.slice mA mN mC)], .v (.slice lA lN lC)] K h) := by
  kernel_rfl
theorem F_ref13_Map_Filter_ok {mA : Option Addr} {mN mC : Nat} {lA : Option Addr} {lN lC : Nat}  {K : Value → PH → Prop} {h : PH} (hh : F_ref13_Map_Filter mA mN mC lA lN lC K h) : CallH Try.prog id_ref13_Map_Filter [.agg #[.slice mA mN mC], .slice lA lN lC] K h :=
  denF_sound' Try.func32 (H := ⟨[2, 4, 5, 29], [], [(0, ⟨[(6, .int .i64)], [], [(2, [.one (.slice)])]⟩)], []⟩) (xs := [.agg [.one (.slice mA mN mC)], .v (.slice lA lN lC)]) (by kernel_rfl) (⟨⟨rfl, trivial⟩, rfl, trivial⟩) (den_of F_ref13_Map_Filter_eq hh)

/- twinlock/twinlocklaw13.OmapKnown-1 -/
def F_law13_OmapKnown_1 (p : ByteArray) (v : ByteArray) (K : Value → PH → Prop) (h : PH) : Prop :=
  K (.agg #[.int .u8 (1 : Int), .string p, .string v]) h
theorem F_law13_OmapKnown_1_eq {p : ByteArray} {v : ByteArray} {K : Value → PH → Prop} {h : PH} : @Eq Prop (F_law13_OmapKnown_1 p v K h) (denF Try.prog Try.f33 ⟨[4], [], [], []⟩ [.v (.string p), .v (.string v)] K h) := by
  kernel_rfl
theorem F_law13_OmapKnown_1_ok {p : ByteArray} {v : ByteArray}  {K : Value → PH → Prop} {h : PH} (hh : F_law13_OmapKnown_1 p v K h) : CallH Try.prog id_law13_OmapKnown_1 [.string p, .string v] K h :=
  denF_sound' Try.func33 (H := ⟨[4], [], [], []⟩) (xs := [.v (.string p), .v (.string v)]) (by kernel_rfl) (⟨rfl, rfl, trivial⟩) (den_of F_law13_OmapKnown_1_eq hh)

/- twinlock/twinlocklaw13.two -/
def F_law13_two  (K : Value → PH → Prop) (h : PH) : Prop :=
  newH h (.cells #[.string (⟨#[97, 112, 112]⟩ : ByteArray), .bool true, .string (⟨#[111, 112, 115]⟩ : ByteArray), .bool false] T_api_Mount (0, 0)) fun bv h1 =>
  K (.slice (some ⟨bv, 0, none⟩) 2 2) h1
theorem F_law13_two_eq  {K : Value → PH → Prop} {h : PH} : @Eq Prop (F_law13_two  K h) (denF Try.prog Try.f34 ⟨[], [], [], []⟩ [] K h) := by
  kernel_rfl
theorem F_law13_two_ok   {K : Value → PH → Prop} {h : PH} (hh : F_law13_two  K h) : CallH Try.prog id_law13_two [] K h :=
  denF_sound' Try.func34 (H := ⟨[], [], [], []⟩) (xs := []) (by kernel_rfl) (trivial) (den_of F_law13_two_eq hh)

/- twinlock/twinlocklaw12.GreatOps -/
def F_law12_GreatOps (lA : Option Addr) (lN _ : Nat) (K : Value → PH → Prop) (h : PH) : Prop :=
  (((decide (((lN : Nat) : Int) > (100 : Int))) = true →
      K (.bool true) h) ∧
    ((decide (((lN : Nat) : Int) > (100 : Int))) = false →
      LoopP (T := Int × Unit) (fun Jv st h1 =>
        (((decide (st.1 < ((lN : Nat) : Int))) = true →
            ∃ bv ov : Nat, (lA = some ⟨bv, ov, none⟩ ∧ 0 ≤ st.1 ∧ st.1 < (lN : Nat)) ∧
            ∃ t : ByteArray, (h1.rds bv ((ov + st.1.toNat * 3) + 1) 1 = some [.string t]) ∧
            ∃ bv_1 ov_1 : Nat, (((decide ((t.size : Int) > (1000 : Int))) = false → lA = some ⟨bv_1, ov_1, none⟩ ∧ 0 ≤ st.1 ∧ st.1 < (lN : Nat))) ∧
            ∃ t_1 : ByteArray, (((decide ((t.size : Int) > (1000 : Int))) = false → h1.rds bv_1 ((ov_1 + st.1.toNat * 3) + 2) 1 = some [.string t_1])) ∧
            ((((decide ((t.size : Int) > (1000 : Int))) || (decide ((t_1.size : Int) > (1000 : Int)))) = true →
                K (.bool true) h1) ∧
              (((decide ((t.size : Int) > (1000 : Int))) || (decide ((t_1.size : Int) > (1000 : Int)))) = false →
                Jv ((IntKind.wrap .i64 (st.1 + (1 : Int))), ()) h1))) ∧
          ((decide (st.1 < ((lN : Nat) : Int))) = false →
            K (.bool false) h1))) ((0 : Int), ()) h))
theorem F_law12_GreatOps_eq {lA : Option Addr} {lN lC : Nat} {K : Value → PH → Prop} {h : PH} : @Eq Prop (F_law12_GreatOps lA lN lC K h) (denF Try.prog Try.f35 ⟨[], [], [(0, ⟨[(3, .int .i64)], [], []⟩)], []⟩ [.v (.slice lA lN lC)] K h) := by
  kernel_rfl
theorem F_law12_GreatOps_ok {lA : Option Addr} {lN lC : Nat}  {K : Value → PH → Prop} {h : PH} (hh : F_law12_GreatOps lA lN lC K h) : CallH Try.prog id_law12_GreatOps [.slice lA lN lC] K h :=
  denF_sound' Try.func35 (H := ⟨[], [], [(0, ⟨[(3, .int .i64)], [], []⟩)], []⟩) (xs := [.v (.slice lA lN lC)]) (by kernel_rfl) (⟨rfl, trivial⟩) (den_of F_law12_GreatOps_eq hh)

/- (*twinlock/omap.Map).Twin -/
def F_omap_Map_Twin (m : Option Addr) (K : Value → PH → Prop) (h : PH) : Prop :=
  (((Option.isNone m) = true →
      K (.pointer none) h) ∧
    ((Option.isNone m) = false →
      ∃ bv ov : Nat, m = some ⟨bv, ov, none⟩ ∧
      ∃ t : Option Nat, (h.rds bv ov 1 = some [.map t]) ∧
      CallH Try.prog id_maps_Clone_map_string_string_string_string [.map t] (fun v h1 =>
        ∃ t_1 : Option Nat, v = .map t_1 ∧
        newH h1 (.cells #[.map t_1] T_omap_Map (0, 0)) fun bv_1 h2 =>
        K (.pointer (some ⟨bv_1, 0, none⟩)) h2) h))
theorem F_omap_Map_Twin_eq {m : Option Addr} {K : Value → PH → Prop} {h : PH} : @Eq Prop (F_omap_Map_Twin m K h) (denF Try.prog Try.f36 ⟨[], [], [], []⟩ [.v (.pointer m)] K h) := by
  kernel_rfl
theorem F_omap_Map_Twin_ok {m : Option Addr}  {K : Value → PH → Prop} {h : PH} (hh : F_omap_Map_Twin m K h) : CallH Try.prog id_omap_Map_Twin [.pointer m] K h :=
  denF_sound' Try.func36 (H := ⟨[], [], [], []⟩) (xs := [.v (.pointer m)]) (by kernel_rfl) (⟨rfl, trivial⟩) (den_of F_omap_Map_Twin_eq hh)

/- twinlock/batch.Right -/
def F_batch_Right (b0 : Int) (b1 : Int) (b2A : Option Addr) (b2N b2C : Nat) (K : Value → PH → Prop) (h : PH) : Prop :=
  (((((decide (b0 < (1 : Int))) || (decide (b0 > (4611686018427387904 : Int)))) || (decide (b1 < (1 : Int)))) = true →
      K (.int .i64 (1 : Int)) h) ∧
    ((((decide (b0 < (1 : Int))) || (decide (b0 > (4611686018427387904 : Int)))) || (decide (b1 < (1 : Int)))) = false →
      (((decide (((b2N : Nat) : Int) > (4 : Int))) = true →
          K (.int .i64 (3 : Int)) h) ∧
        ((decide (((b2N : Nat) : Int) > (4 : Int))) = false →
          CallH Try.prog id_batch_each [.slice b2A b2N b2C, .func (.func 55) #[] #[]] (fun v h1 =>
            ∃ t : Int, v = .int .i64 t ∧
            K (.int .i64 t) h1) h))))
theorem F_batch_Right_eq {b0 : Int} {b1 : Int} {b2A : Option Addr} {b2N b2C : Nat} {K : Value → PH → Prop} {h : PH} : @Eq Prop (F_batch_Right b0 b1 b2A b2N b2C K h) (denF Try.prog Try.f37 ⟨[1], [], [], []⟩ [.agg [.one (.int .i64 b0), .one (.int .i64 b1), .one (.slice b2A b2N b2C)]] K h) := by
  kernel_rfl
theorem F_batch_Right_ok {b0 : Int} {b1 : Int} {b2A : Option Addr} {b2N b2C : Nat}  {K : Value → PH → Prop} {h : PH} (hh : F_batch_Right b0 b1 b2A b2N b2C K h) : CallH Try.prog id_batch_Right [.agg #[.int .i64 b0, .int .i64 b1, .slice b2A b2N b2C]] K h :=
  denF_sound' Try.func37 (H := ⟨[1], [], [], []⟩) (xs := [.agg [.one (.int .i64 b0), .one (.int .i64 b1), .one (.slice b2A b2N b2C)]]) (by kernel_rfl) (⟨⟨rfl, rfl, rfl, trivial⟩, trivial⟩) (den_of F_batch_Right_eq hh)

/- (*twinlock/omap.Map).paths -/
def F_omap_Map_paths (m : Option Addr) (K : Value → PH → Prop) (h : PH) : Prop :=
  (((Option.isNone m) = true →
      K (.slice none 0 0) h) ∧
    ((Option.isNone m) = false →
      ∃ bv ov : Nat, m = some ⟨bv, ov, none⟩ ∧
      ∃ t : Option Nat, (h.rds bv ov 1 = some [.map t]) ∧
      CallH Try.prog id_maps_Keys_map_string_string_string_string [.map t] (fun v h1 =>
        ∃ t_1 : Value, one1 t_1 = true ∧ v = t_1 ∧
        CallH Try.prog id_slices_Sorted_string [t_1] (fun v_1 h2 =>
          ∃ (tA : Option Addr) (tN tC : Nat), v_1 = .slice tA tN tC ∧
          K (.slice tA tN tC) h2) h1) h))
theorem F_omap_Map_paths_eq {m : Option Addr} {K : Value → PH → Prop} {h : PH} : @Eq Prop (F_omap_Map_paths m K h) (denF Try.prog Try.f39 ⟨[], [], [], []⟩ [.v (.pointer m)] K h) := by
  kernel_rfl
theorem F_omap_Map_paths_ok {m : Option Addr}  {K : Value → PH → Prop} {h : PH} (hh : F_omap_Map_paths m K h) : CallH Try.prog id_omap_Map_paths [.pointer m] K h :=
  denF_sound' Try.func39 (H := ⟨[], [], [], []⟩) (xs := [.v (.pointer m)]) (by kernel_rfl) (⟨rfl, trivial⟩) (den_of F_omap_Map_paths_eq hh)

/- slices.DeleteFunc[[]string,string] -/
def F_slices_DeleteFunc_string_string (sA : Option Addr) (sN sC : Nat) (del : Value) (K : Value → PH → Prop) (h : PH) : Prop :=
  CallH Try.prog id_slices_IndexFunc_string_string [.slice sA sN sC, del] (fun v h1 =>
    ∃ i : Int, v = .int .i64 i ∧
    (((i == (-1 : Int)) = true →
        K (.slice sA sN sC) h1) ∧
      ((i == (-1 : Int)) = false →
        LoopP (T := Int × Int × Unit) (fun Jv st h2 =>
          (((decide (st.2.1 < ((sN : Nat) : Int))) = true →
              ∃ bv ov : Nat, (sA = some ⟨bv, ov, none⟩ ∧ 0 ≤ st.2.1 ∧ st.2.1 < (sN : Nat)) ∧
              ∃ v_1 : ByteArray, (h2.rds bv (ov + st.2.1.toNat * 1) 1 = some [.string v_1]) ∧
              CallV Try.prog del [.string v_1] (fun v_2 h3 =>
                ∃ t : Bool, v_2 = .bool t ∧
                (((!t) = true →
                    ∃ bv_1 ov_1 : Nat, (sA = some ⟨bv_1, ov_1, none⟩ ∧ 0 ≤ st.1 ∧ st.1 < (sN : Nat)) ∧
                    stH h3 bv_1 (ov_1 + st.1.toNat * 1) [.string v_1] fun h4 =>
                    Jv ((IntKind.wrap .i64 (st.1 + (1 : Int))), (IntKind.wrap .i64 (st.2.1 + (1 : Int))), ()) h4) ∧
                  ((!t) = false →
                    Jv (st.1, (IntKind.wrap .i64 (st.2.1 + (1 : Int))), ()) h3))) h2) ∧
            ((decide (st.2.1 < ((sN : Nat) : Int))) = false →
              (0 ≤ st.1 ∧ st.1 ≤ ((sN : Nat) : Int) ∧ ((sN : Nat) : Int) ≤ ((sC : Nat) : Int) ∧ ((sC : Nat) : Int) ≤ (sC : Nat)) ∧
              (((((sN : Nat) : Int).toNat - st.1.toNat) * 1 = 0 →
                  (0 ≤ (0 : Int) ∧ (0 : Int) ≤ st.1 ∧ st.1 ≤ ((sC : Nat) : Int) ∧ ((sC : Nat) : Int) ≤ (sC : Nat)) ∧
                  K (.slice (slA sA 1 (0 : Int) ((sC : Nat) : Int)) (st.1.toNat - (0 : Int).toNat) (((sC : Nat) : Int).toNat - (0 : Int).toNat)) h2) ∧
                ((((sN : Nat) : Int).toNat - st.1.toNat) * 1 ≠ 0 → ∃ bv_2 ov_2 : Nat, (slA sA 1 st.1 ((sC : Nat) : Int)) = some ⟨bv_2, ov_2, none⟩ ∧ stH h2 bv_2 ov_2 (List.replicate (((sN : Nat) : Int).toNat - st.1.toNat) [.string (⟨#[]⟩ : ByteArray)]).flatten fun h5 =>
                  (0 ≤ (0 : Int) ∧ (0 : Int) ≤ st.1 ∧ st.1 ≤ ((sC : Nat) : Int) ∧ ((sC : Nat) : Int) ≤ (sC : Nat)) ∧
                  K (.slice (slA sA 1 (0 : Int) ((sC : Nat) : Int)) (st.1.toNat - (0 : Int).toNat) (((sC : Nat) : Int).toNat - (0 : Int).toNat)) h5))))) (i, (IntKind.wrap .i64 (i + (1 : Int))), ()) h1))) h
theorem F_slices_DeleteFunc_string_string_eq {sA : Option Addr} {sN sC : Nat} {del : Value} {K : Value → PH → Prop} {h : PH} : @Eq Prop (F_slices_DeleteFunc_string_string sA sN sC del K h) (denF Try.prog Try.f40 ⟨[], [], [(0, ⟨[(5, .int .i64), (6, .int .i64)], [], []⟩)], []⟩ [.v (.slice sA sN sC), .fn del] K h) := by
  kernel_rfl
theorem F_slices_DeleteFunc_string_string_ok {sA : Option Addr} {sN sC : Nat} {del : Value} (hk0 : one1 del = true) {K : Value → PH → Prop} {h : PH} (hh : F_slices_DeleteFunc_string_string sA sN sC del K h) : CallH Try.prog id_slices_DeleteFunc_string_string [.slice sA sN sC, del] K h :=
  denF_sound' Try.func40 (H := ⟨[], [], [(0, ⟨[(5, .int .i64), (6, .int .i64)], [], []⟩)], []⟩) (xs := [.v (.slice sA sN sC), .fn del]) (by kernel_rfl) (⟨rfl, hk0, trivial⟩) (den_of F_slices_DeleteFunc_string_string_eq hh)

/- (*twinlock/omap.Map).List-1 -/
def F_omap_Map_List_1 (p : ByteArray) (cap0B : Nat) (K : Value → PH → Prop) (h : PH) : Prop :=
  ∃ t : ByteArray, (h.rds cap0B 0 1 = some [.string t]) ∧
  CallH Try.prog id_strings_HasPrefix [.string p, .string t] (fun v h1 =>
    ∃ t_1 : Bool, v = .bool t_1 ∧
    K (.bool (!t_1)) h1) h
theorem F_omap_Map_List_1_eq {p : ByteArray} {cap0B : Nat} {K : Value → PH → Prop} {h : PH} : @Eq Prop (F_omap_Map_List_1 p cap0B K h) (denF Try.prog Try.f41 ⟨[], [], [], []⟩ [.v (.string p), .v (.pointer (some ⟨cap0B, 0, none⟩))] K h) := by
  kernel_rfl
theorem F_omap_Map_List_1_ok {p : ByteArray} {cap0B : Nat}  {K : Value → PH → Prop} {h : PH} (hh : F_omap_Map_List_1 p cap0B K h) : CallH Try.prog id_omap_Map_List_1 [.string p, .pointer (some ⟨cap0B, 0, none⟩)] K h :=
  denF_sound' Try.func41 (H := ⟨[], [], [], []⟩) (xs := [.v (.string p), .v (.pointer (some ⟨cap0B, 0, none⟩))]) (by kernel_rfl) (⟨rfl, rfl, trivial⟩) (den_of F_omap_Map_List_1_eq hh)

/- strings.HasPrefix -/
def F_strings_HasPrefix (sv : ByteArray) (prefixv : ByteArray) (K : Value → PH → Prop) (h : PH) : Prop :=
  CallH Try.prog id_internal_stringslite_HasPrefix [.string sv, .string prefixv] (fun v h1 =>
    ∃ t : Bool, v = .bool t ∧
    K (.bool t) h1) h
theorem F_strings_HasPrefix_eq {sv : ByteArray} {prefixv : ByteArray} {K : Value → PH → Prop} {h : PH} : @Eq Prop (F_strings_HasPrefix sv prefixv K h) (denF Try.prog Try.f42 ⟨[], [], [], []⟩ [.v (.string sv), .v (.string prefixv)] K h) := by
  kernel_rfl
theorem F_strings_HasPrefix_ok {sv : ByteArray} {prefixv : ByteArray}  {K : Value → PH → Prop} {h : PH} (hh : F_strings_HasPrefix sv prefixv K h) : CallH Try.prog id_strings_HasPrefix [.string sv, .string prefixv] K h :=
  denF_sound' Try.func42 (H := ⟨[], [], [], []⟩) (xs := [.v (.string sv), .v (.string prefixv)]) (by kernel_rfl) (⟨rfl, rfl, trivial⟩) (den_of F_strings_HasPrefix_eq hh)

/- strings.Cut -/
def F_strings_Cut (sv : ByteArray) (sep : ByteArray) (K : Value → PH → Prop) (h : PH) : Prop :=
  CallH Try.prog id_internal_stringslite_Cut [.string sv, .string sep] (fun v h1 =>
    ∃ t0 : ByteArray, ∃ t1 : ByteArray, ∃ t2 : Bool, v = .tuple #[.string t0, .string t1, .bool t2] ∧
    K (.tuple #[.string t0, .string t1, .bool t2]) h1) h
theorem F_strings_Cut_eq {sv : ByteArray} {sep : ByteArray} {K : Value → PH → Prop} {h : PH} : @Eq Prop (F_strings_Cut sv sep K h) (denF Try.prog Try.f43 ⟨[], [], [], []⟩ [.v (.string sv), .v (.string sep)] K h) := by
  kernel_rfl
theorem F_strings_Cut_ok {sv : ByteArray} {sep : ByteArray}  {K : Value → PH → Prop} {h : PH} (hh : F_strings_Cut sv sep K h) : CallH Try.prog id_strings_Cut [.string sv, .string sep] K h :=
  denF_sound' Try.func43 (H := ⟨[], [], [], []⟩) (xs := [.v (.string sv), .v (.string sep)]) (by kernel_rfl) (⟨rfl, rfl, trivial⟩) (den_of F_strings_Cut_eq hh)

/- twinlock/path.named -/
def F_path_named (sv : ByteArray) (K : Value → PH → Prop) (h : PH) : Prop :=
  LoopP (T := Int × Unit) (fun Jv st h1 =>
    (((decide (st.1 < (sv.size : Int))) = true →
        (0 ≤ st.1 ∧ st.1 < (ByteArray.size sv : Nat)) ∧
        (((decide ((byteAt sv st.1) < (97 : Int))) = false → 0 ≤ st.1 ∧ st.1 < (ByteArray.size sv : Nat))) ∧
        ((((decide ((byteAt sv st.1) < (97 : Int))) || (decide ((byteAt sv st.1) > (122 : Int)))) = true →
            K (.bool false) h1) ∧
          (((decide ((byteAt sv st.1) < (97 : Int))) || (decide ((byteAt sv st.1) > (122 : Int)))) = false →
            Jv ((IntKind.wrap .i64 (st.1 + (1 : Int))), ()) h1))) ∧
      ((decide (st.1 < (sv.size : Int))) = false →
        K (.bool ((decide ((sv.size : Int) ≥ (1 : Int))) && (decide ((sv.size : Int) ≤ (8 : Int))))) h1))) ((0 : Int), ()) h
theorem F_path_named_eq {sv : ByteArray} {K : Value → PH → Prop} {h : PH} : @Eq Prop (F_path_named sv K h) (denF Try.prog Try.f44 ⟨[], [], [(0, ⟨[(6, .int .i64)], [], []⟩)], []⟩ [.v (.string sv)] K h) := by
  kernel_rfl
theorem F_path_named_ok {sv : ByteArray}  {K : Value → PH → Prop} {h : PH} (hh : F_path_named sv K h) : CallH Try.prog id_path_named [.string sv] K h :=
  denF_sound' Try.func44 (H := ⟨[], [], [(0, ⟨[(6, .int .i64)], [], []⟩)], []⟩) (xs := [.v (.string sv)]) (by kernel_rfl) (⟨rfl, trivial⟩) (den_of F_path_named_eq hh)

/- twinlock/path.key -/
def F_path_key (sv : ByteArray) (K : Value → PH → Prop) (h : PH) : Prop :=
  ((((decide ((sv.size : Int) ≥ (1 : Int))) && (decide ((sv.size : Int) ≤ (24 : Int)))) = true →
      CallH Try.prog id_strings_IndexByte [.string sv, .int .u8 (0 : Int)] (fun v h1 =>
        ∃ t : Int, v = .int .i64 t ∧
        (((decide (t < (0 : Int))) = true →
            CallH Try.prog id_strings_IndexByte [.string sv, .int .u8 (47 : Int)] (fun v_1 h2 =>
              ∃ t_1 : Int, v_1 = .int .i64 t_1 ∧
              K (.bool (decide (t_1 < (0 : Int)))) h2) h1) ∧
          ((decide (t < (0 : Int))) = false →
            K (.bool false) h1))) h) ∧
    (((decide ((sv.size : Int) ≥ (1 : Int))) && (decide ((sv.size : Int) ≤ (24 : Int)))) = false →
      K (.bool false) h))
theorem F_path_key_eq {sv : ByteArray} {K : Value → PH → Prop} {h : PH} : @Eq Prop (F_path_key sv K h) (denF Try.prog Try.f45 ⟨[], [], [], []⟩ [.v (.string sv)] K h) := by
  kernel_rfl
theorem F_path_key_ok {sv : ByteArray}  {K : Value → PH → Prop} {h : PH} (hh : F_path_key sv K h) : CallH Try.prog id_path_key [.string sv] K h :=
  denF_sound' Try.func45 (H := ⟨[], [], [], []⟩) (xs := [.v (.string sv)]) (by kernel_rfl) (⟨rfl, trivial⟩) (den_of F_path_key_eq hh)

/- twinlock/path.Ships -/
def F_path_Ships (lA : Option Addr) (lN lC : Nat) (p : ByteArray) (K : Value → PH → Prop) (h : PH) : Prop :=
  CallH Try.prog id_path_Of [.slice lA lN lC, .string p] (fun v h1 =>
    ∃ t00 : ByteArray, ∃ t01 : Bool, ∃ t1 : Int, v = .tuple #[.agg #[.string t00, .bool t01], .int .i64 t1] ∧
    K (.bool ((t1 == (0 : Int)) && t01)) h1) h
theorem F_path_Ships_eq {lA : Option Addr} {lN lC : Nat} {p : ByteArray} {K : Value → PH → Prop} {h : PH} : @Eq Prop (F_path_Ships lA lN lC p K h) (denF Try.prog Try.f46 ⟨[5], [], [], []⟩ [.v (.slice lA lN lC), .v (.string p)] K h) := by
  kernel_rfl
theorem F_path_Ships_ok {lA : Option Addr} {lN lC : Nat} {p : ByteArray}  {K : Value → PH → Prop} {h : PH} (hh : F_path_Ships lA lN lC p K h) : CallH Try.prog id_path_Ships [.slice lA lN lC, .string p] K h :=
  denF_sound' Try.func46 (H := ⟨[5], [], [], []⟩) (xs := [.v (.slice lA lN lC), .v (.string p)]) (by kernel_rfl) (⟨rfl, rfl, trivial⟩) (den_of F_path_Ships_eq hh)

/- slices.Equal[[]twinlock/api.Pair,twinlock/api.Pair] -/
def F_slices_Equal_api_Pair_api_Pair (s1A : Option Addr) (s1N _ : Nat) (s2A : Option Addr) (s2N _ : Nat) (K : Value → PH → Prop) (h : PH) : Prop :=
  (((((s1N : Nat) : Int) != ((s2N : Nat) : Int)) = true →
      K (.bool false) h) ∧
    ((((s1N : Nat) : Int) != ((s2N : Nat) : Int)) = false →
      LoopP (T := Int × Unit) (fun Jv st h1 =>
        (((decide (st.1 < ((s1N : Nat) : Int))) = true →
            ∃ bv ov : Nat, (s1A = some ⟨bv, ov, none⟩ ∧ 0 ≤ st.1 ∧ st.1 < (s1N : Nat)) ∧
            ∃ t0 : ByteArray, ∃ t1 : ByteArray, (h1.rds bv (ov + st.1.toNat * 2) 2 = some [.string t0, .string t1]) ∧
            ∃ bv_1 ov_1 : Nat, (s2A = some ⟨bv_1, ov_1, none⟩ ∧ 0 ≤ st.1 ∧ st.1 < (s2N : Nat)) ∧
            ∃ t0_1 : ByteArray, ∃ t1_1 : ByteArray, (h1.rds bv_1 (ov_1 + st.1.toNat * 2) 2 = some [.string t0_1, .string t1_1]) ∧
            (((!((strEq t0 t0_1) && ((strEq t1 t1_1) && true))) = true →
                K (.bool false) h1) ∧
              ((!((strEq t0 t0_1) && ((strEq t1 t1_1) && true))) = false →
                Jv ((IntKind.wrap .i64 (st.1 + (1 : Int))), ()) h1))) ∧
          ((decide (st.1 < ((s1N : Nat) : Int))) = false →
            K (.bool true) h1))) ((0 : Int), ()) h))
theorem F_slices_Equal_api_Pair_api_Pair_eq {s1A : Option Addr} {s1N s1C : Nat} {s2A : Option Addr} {s2N s2C : Nat} {K : Value → PH → Prop} {h : PH} : @Eq Prop (F_slices_Equal_api_Pair_api_Pair s1A s1N s1C s2A s2N s2C K h) (denF Try.prog Try.f47 ⟨[], [], [(0, ⟨[(13, .int .i64)], [], []⟩)], []⟩ [.v (.slice s1A s1N s1C), .v (.slice s2A s2N s2C)] K h) := by
  kernel_rfl
theorem F_slices_Equal_api_Pair_api_Pair_ok {s1A : Option Addr} {s1N s1C : Nat} {s2A : Option Addr} {s2N s2C : Nat}  {K : Value → PH → Prop} {h : PH} (hh : F_slices_Equal_api_Pair_api_Pair s1A s1N s1C s2A s2N s2C K h) : CallH Try.prog id_slices_Equal_api_Pair_api_Pair [.slice s1A s1N s1C, .slice s2A s2N s2C] K h :=
  denF_sound' Try.func47 (H := ⟨[], [], [(0, ⟨[(13, .int .i64)], [], []⟩)], []⟩) (xs := [.v (.slice s1A s1N s1C), .v (.slice s2A s2N s2C)]) (by kernel_rfl) (⟨rfl, rfl, trivial⟩) (den_of F_slices_Equal_api_Pair_api_Pair_eq hh)

/- twinlock/twinlockref11.Cut -/
def F_ref11_Cut (p : ByteArray) (K : Value → PH → Prop) (h : PH) : Prop :=
  LoopP (T := Int × Unit) (fun Jv st h1 =>
    (((decide (st.1 < (p.size : Int))) = true →
        (0 ≤ st.1 ∧ st.1 < (ByteArray.size p : Nat)) ∧
        ((((byteAt p st.1) == (47 : Int)) = true →
            (0 ≤ (0 : Int) ∧ (0 : Int) ≤ st.1 ∧ st.1 ≤ (ByteArray.size p : Nat)) ∧
            CallH Try.prog id_ref11_Named [.string (subS p (0 : Int) st.1)] (fun v h2 =>
              ∃ t : Bool, v = .bool t ∧
              ((t = true → 0 ≤ (IntKind.wrap .i64 (st.1 + (1 : Int))) ∧ (IntKind.wrap .i64 (st.1 + (1 : Int))) ≤ ((ByteArray.size p : Nat) : Int) ∧ ((ByteArray.size p : Nat) : Int) ≤ (ByteArray.size p : Nat))) ∧
              ((t = true →
                  CallH Try.prog id_ref11_Key [.string (subS p (IntKind.wrap .i64 (st.1 + (1 : Int))) ((ByteArray.size p : Nat) : Int))] (fun v_1 h3 =>
                    ∃ t_1 : Bool, v_1 = .bool t_1 ∧
                    ((t_1 = true →
                        (0 ≤ (0 : Int) ∧ (0 : Int) ≤ st.1 ∧ st.1 ≤ (ByteArray.size p : Nat)) ∧
                        (0 ≤ (IntKind.wrap .i64 (st.1 + (1 : Int))) ∧ (IntKind.wrap .i64 (st.1 + (1 : Int))) ≤ ((ByteArray.size p : Nat) : Int) ∧ ((ByteArray.size p : Nat) : Int) ≤ (ByteArray.size p : Nat)) ∧
                        K (.tuple #[.string (subS p (0 : Int) st.1), .string (subS p (IntKind.wrap .i64 (st.1 + (1 : Int))) ((ByteArray.size p : Nat) : Int)), .bool true]) h3) ∧
                      (t_1 = false →
                        K (.tuple #[.string (⟨#[]⟩ : ByteArray), .string (⟨#[]⟩ : ByteArray), .bool false]) h3))) h2) ∧
                (t = false →
                  K (.tuple #[.string (⟨#[]⟩ : ByteArray), .string (⟨#[]⟩ : ByteArray), .bool false]) h2))) h1) ∧
          (((byteAt p st.1) == (47 : Int)) = false →
            Jv ((IntKind.wrap .i64 (st.1 + (1 : Int))), ()) h1))) ∧
      ((decide (st.1 < (p.size : Int))) = false →
        K (.tuple #[.string (⟨#[]⟩ : ByteArray), .string (⟨#[]⟩ : ByteArray), .bool false]) h1))) ((0 : Int), ()) h
theorem F_ref11_Cut_eq {p : ByteArray} {K : Value → PH → Prop} {h : PH} : @Eq Prop (F_ref11_Cut p K h) (denF Try.prog Try.f48 ⟨[], [], [(0, ⟨[(5, .int .i64)], [], []⟩)], []⟩ [.v (.string p)] K h) := by
  kernel_rfl
theorem F_ref11_Cut_ok {p : ByteArray}  {K : Value → PH → Prop} {h : PH} (hh : F_ref11_Cut p K h) : CallH Try.prog id_ref11_Cut [.string p] K h :=
  denF_sound' Try.func48 (H := ⟨[], [], [(0, ⟨[(5, .int .i64)], [], []⟩)], []⟩) (xs := [.v (.string p)]) (by kernel_rfl) (⟨rfl, trivial⟩) (den_of F_ref11_Cut_eq hh)

/- (twinlock/twinlockref13.Map).find -/
def F_ref13_Map_find (mA : Option Addr) (mN _ : Nat) (p : ByteArray) (K : Value → PH → Prop) (h : PH) : Prop :=
  JoinP (T := Int × Unit) (fun Jv =>
    LoopP (T := Int × Unit) (fun Jv_1 st_1 h2 =>
      ∃ bv ov : Nat, (((decide (st_1.1 < ((mN : Nat) : Int))) = true → mA = some ⟨bv, ov, none⟩ ∧ 0 ≤ st_1.1 ∧ st_1.1 < (mN : Nat))) ∧
      ∃ t : ByteArray, (((decide (st_1.1 < ((mN : Nat) : Int))) = true → h2.rds bv (ov + st_1.1.toNat * 2) 1 = some [.string t])) ∧
      (((decide (st_1.1 < ((mN : Nat) : Int))) = true →
          CallH Try.prog id_ref11_Less [.string t, .string p] (fun v h3 =>
            ∃ t_1 : Bool, v = .bool t_1 ∧
            ((t_1 = true →
                Jv_1 ((IntKind.wrap .i64 (st_1.1 + (1 : Int))), ()) h3) ∧
              (t_1 = false →
                Jv (st_1.1, ()) h3))) h2) ∧
        ((decide (st_1.1 < ((mN : Nat) : Int))) = false →
          Jv (st_1.1, ()) h2))) ((0 : Int), ()) h)
  (fun st h1 =>
    ∃ bv_1 ov_1 : Nat, (((decide (st.1 < ((mN : Nat) : Int))) = true → mA = some ⟨bv_1, ov_1, none⟩ ∧ 0 ≤ st.1 ∧ st.1 < (mN : Nat))) ∧
    ∃ t_2 : ByteArray, (((decide (st.1 < ((mN : Nat) : Int))) = true → h1.rds bv_1 (ov_1 + st.1.toNat * 2) 1 = some [.string t_2])) ∧
    K (.tuple #[.int .i64 st.1, .bool ((decide (st.1 < ((mN : Nat) : Int))) && (strEq t_2 p))]) h1)
theorem F_ref13_Map_find_eq {mA : Option Addr} {mN mC : Nat} {p : ByteArray} {K : Value → PH → Prop} {h : PH} : @Eq Prop (F_ref13_Map_find mA mN mC p K h) (denF Try.prog Try.f49 ⟨[2], [], [(0, ⟨[(6, .int .i64)], [], []⟩)], [(10, ⟨[(6, .int .i64)], [], []⟩)]⟩ [.agg [.one (.slice mA mN mC)], .v (.string p)] K h) := by
  kernel_rfl
theorem F_ref13_Map_find_ok {mA : Option Addr} {mN mC : Nat} {p : ByteArray}  {K : Value → PH → Prop} {h : PH} (hh : F_ref13_Map_find mA mN mC p K h) : CallH Try.prog id_ref13_Map_find [.agg #[.slice mA mN mC], .string p] K h :=
  denF_sound' Try.func49 (H := ⟨[2], [], [(0, ⟨[(6, .int .i64)], [], []⟩)], [(10, ⟨[(6, .int .i64)], [], []⟩)]⟩) (xs := [.agg [.one (.slice mA mN mC)], .v (.string p)]) (by kernel_rfl) (⟨⟨rfl, trivial⟩, rfl, trivial⟩) (den_of F_ref13_Map_find_eq hh)

/- (twinlock/twinlockref13.Map).With -/
def F_ref13_Map_With (mA : Option Addr) (mN mC : Nat) (p : ByteArray) (v : ByteArray) (K : Value → PH → Prop) (h : PH) : Prop :=
  CallH Try.prog id_ref13_Map_find [.agg #[.slice mA mN mC], .string p] (fun v_1 h1 =>
    ∃ t0 : Int, ∃ t1 : Bool, v_1 = .tuple #[.int .i64 t0, .bool t1] ∧
    (0 ≤ (0 : Int) ∧ (0 : Int) ≤ t0 ∧ t0 ≤ ((mC : Nat) : Int) ∧ ((mC : Nat) : Int) ≤ (mC : Nat)) ∧
    ∃ vs : List Value, srcH h1 (slA mA 2 (0 : Int) ((mC : Nat) : Int)) ((t0.toNat - (0 : Int).toNat) * 2) vs ∧
    appH T_api_Pair 2 32 [.string (⟨#[]⟩ : ByteArray), .string (⟨#[]⟩ : ByteArray)] none 0 0 (t0.toNat - (0 : Int).toNat) vs (fun tA tN tC h2 =>
      appH T_api_Pair 2 32 [.string (⟨#[]⟩ : ByteArray), .string (⟨#[]⟩ : ByteArray)] tA tN tC 1 [.string p, .string v] (fun tA_1 tN_1 tC_1 h3 =>
        ((t1 = true →
            (0 ≤ (IntKind.wrap .i64 (t0 + (1 : Int))) ∧ (IntKind.wrap .i64 (t0 + (1 : Int))) ≤ ((mN : Nat) : Int) ∧ ((mN : Nat) : Int) ≤ ((mC : Nat) : Int) ∧ ((mC : Nat) : Int) ≤ (mC : Nat)) ∧
            ∃ vs_1 : List Value, srcH h3 (slA mA 2 (IntKind.wrap .i64 (t0 + (1 : Int))) ((mC : Nat) : Int)) ((((mN : Nat) : Int).toNat - (IntKind.wrap .i64 (t0 + (1 : Int))).toNat) * 2) vs_1 ∧
            appH T_api_Pair 2 32 [.string (⟨#[]⟩ : ByteArray), .string (⟨#[]⟩ : ByteArray)] tA_1 tN_1 tC_1 (((mN : Nat) : Int).toNat - (IntKind.wrap .i64 (t0 + (1 : Int))).toNat) vs_1 (fun tA_2 tN_2 tC_2 h4 =>
              K (.agg #[.slice tA_2 tN_2 tC_2]) h4) h3) ∧
          (t1 = false →
            (0 ≤ t0 ∧ t0 ≤ ((mN : Nat) : Int) ∧ ((mN : Nat) : Int) ≤ ((mC : Nat) : Int) ∧ ((mC : Nat) : Int) ≤ (mC : Nat)) ∧
            ∃ vs_2 : List Value, srcH h3 (slA mA 2 t0 ((mC : Nat) : Int)) ((((mN : Nat) : Int).toNat - t0.toNat) * 2) vs_2 ∧
            appH T_api_Pair 2 32 [.string (⟨#[]⟩ : ByteArray), .string (⟨#[]⟩ : ByteArray)] tA_1 tN_1 tC_1 (((mN : Nat) : Int).toNat - t0.toNat) vs_2 (fun tA_3 tN_3 tC_3 h5 =>
              K (.agg #[.slice tA_3 tN_3 tC_3]) h5) h3))) h2) h1) h
theorem F_ref13_Map_With_eq {mA : Option Addr} {mN mC : Nat} {p : ByteArray} {v : ByteArray} {K : Value → PH → Prop} {h : PH} : @Eq Prop (F_ref13_Map_With mA mN mC p v K h) (denF Try.prog Try.f50 ⟨[3, 6, 9, 29], [], [], []⟩ [.agg [.one (.slice mA mN mC)], .v (.string p), .v (.string v)] K h) := by
  kernel_rfl
theorem F_ref13_Map_With_ok {mA : Option Addr} {mN mC : Nat} {p : ByteArray} {v : ByteArray}  {K : Value → PH → Prop} {h : PH} (hh : F_ref13_Map_With mA mN mC p v K h) : CallH Try.prog id_ref13_Map_With [.agg #[.slice mA mN mC], .string p, .string v] K h :=
  denF_sound' Try.func50 (H := ⟨[3, 6, 9, 29], [], [], []⟩) (xs := [.agg [.one (.slice mA mN mC)], .v (.string p), .v (.string v)]) (by kernel_rfl) (⟨⟨rfl, trivial⟩, rfl, rfl, trivial⟩) (den_of F_ref13_Map_With_eq hh)

/- twinlock/twinlockref12.Right -/
def F_ref12_Right (b0 : Int) (b1 : Int) (b2A : Option Addr) (b2N _ : Nat) (K : Value → PH → Prop) (h : PH) : Prop :=
  (((((decide (b0 < (1 : Int))) || (decide (b0 > (4611686018427387904 : Int)))) || (decide (b1 < (1 : Int)))) = true →
      K (.int .i64 (1 : Int)) h) ∧
    ((((decide (b0 < (1 : Int))) || (decide (b0 > (4611686018427387904 : Int)))) || (decide (b1 < (1 : Int)))) = false →
      (((decide (((b2N : Nat) : Int) > (4 : Int))) = true →
          K (.int .i64 (3 : Int)) h) ∧
        ((decide (((b2N : Nat) : Int) > (4 : Int))) = false →
          LoopP (T := Int × Unit) (fun Jv st h1 =>
            (((decide (st.1 < ((b2N : Nat) : Int))) = true →
                ∃ bv ov : Nat, (b2A = some ⟨bv, ov, none⟩ ∧ 0 ≤ st.1 ∧ st.1 < (b2N : Nat)) ∧
                ∃ t : Int, (h1.rds bv (ov + st.1.toNat * 3) 1 = some [.int .u8 t]) ∧
                ∃ bv_1 ov_1 : Nat, (((t != (1 : Int)) = true → b2A = some ⟨bv_1, ov_1, none⟩ ∧ 0 ≤ st.1 ∧ st.1 < (b2N : Nat))) ∧
                ∃ t_1 : Int, (((t != (1 : Int)) = true → h1.rds bv_1 (ov_1 + st.1.toNat * 3) 1 = some [.int .u8 t_1])) ∧
                ((((t != (1 : Int)) && (t_1 != (2 : Int))) = true →
                    K (.int .i64 (10 : Int)) h1) ∧
                  (((t != (1 : Int)) && (t_1 != (2 : Int))) = false →
                    ∃ bv_2 ov_2 : Nat, (b2A = some ⟨bv_2, ov_2, none⟩ ∧ 0 ≤ st.1 ∧ st.1 < (b2N : Nat)) ∧
                    ∃ t_2 : ByteArray, (h1.rds bv_2 ((ov_2 + st.1.toNat * 3) + 1) 1 = some [.string t_2]) ∧
                    CallH Try.prog id_ref11_Cut [.string t_2] (fun v h2 =>
                      ∃ t0 : ByteArray, ∃ t1 : ByteArray, ∃ t2 : Bool, v = .tuple #[.string t0, .string t1, .bool t2] ∧
                      (((!t2) = true →
                          K (.int .i64 (20 : Int)) h2) ∧
                        ((!t2) = false →
                          ∃ bv_3 ov_3 : Nat, (b2A = some ⟨bv_3, ov_3, none⟩ ∧ 0 ≤ st.1 ∧ st.1 < (b2N : Nat)) ∧
                          ∃ t0_1 : Int, ∃ t1_1 : ByteArray, ∃ t2_1 : ByteArray, (h2.rds bv_3 (ov_3 + st.1.toNat * 3) 3 = some [.int .u8 t0_1, .string t1_1, .string t2_1]) ∧
                          CallH Try.prog id_ref12_value [.agg #[.int .u8 t0_1, .string t1_1, .string t2_1]] (fun v_1 h3 =>
                            ∃ e : Int, v_1 = .int .i64 e ∧
                            (((e != (0 : Int)) = true →
                                K (.int .i64 e) h3) ∧
                              ((e != (0 : Int)) = false →
                                Jv ((IntKind.wrap .i64 (st.1 + (1 : Int))), ()) h3))) h2))) h1))) ∧
              ((decide (st.1 < ((b2N : Nat) : Int))) = false →
                K (.int .i64 (0 : Int)) h1))) ((0 : Int), ()) h))))
theorem F_ref12_Right_eq {b0 : Int} {b1 : Int} {b2A : Option Addr} {b2N b2C : Nat} {K : Value → PH → Prop} {h : PH} : @Eq Prop (F_ref12_Right b0 b1 b2A b2N b2C K h) (denF Try.prog Try.f51 ⟨[1], [], [(0, ⟨[(3, .int .i64)], [], []⟩)], []⟩ [.agg [.one (.int .i64 b0), .one (.int .i64 b1), .one (.slice b2A b2N b2C)]] K h) := by
  kernel_rfl
theorem F_ref12_Right_ok {b0 : Int} {b1 : Int} {b2A : Option Addr} {b2N b2C : Nat}  {K : Value → PH → Prop} {h : PH} (hh : F_ref12_Right b0 b1 b2A b2N b2C K h) : CallH Try.prog id_ref12_Right [.agg #[.int .i64 b0, .int .i64 b1, .slice b2A b2N b2C]] K h :=
  denF_sound' Try.func51 (H := ⟨[1], [], [(0, ⟨[(3, .int .i64)], [], []⟩)], []⟩) (xs := [.agg [.one (.int .i64 b0), .one (.int .i64 b1), .one (.slice b2A b2N b2C)]]) (by kernel_rfl) (⟨⟨rfl, rfl, rfl, trivial⟩, trivial⟩) (den_of F_ref12_Right_eq hh)

/- (twinlock/twinlockref13.Map).Does -/
def F_ref13_Map_Does (mA : Option Addr) (mN mC : Nat) (opsA : Option Addr) (opsN _ : Nat) (K : Value → PH → Prop) (h : PH) : Prop :=
  LoopP (T := Int × (Option Addr × Nat × Nat) × Unit) (fun Jv st h1 =>
    (((decide (st.1 < ((opsN : Nat) : Int))) = true →
        ∃ bv ov : Nat, (opsA = some ⟨bv, ov, none⟩ ∧ 0 ≤ st.1 ∧ st.1 < (opsN : Nat)) ∧
        ∃ t : Int, (h1.rds bv (ov + st.1.toNat * 3) 1 = some [.int .u8 t]) ∧
        (((t == (2 : Int)) = true →
            ∃ bv_1 ov_1 : Nat, (opsA = some ⟨bv_1, ov_1, none⟩ ∧ 0 ≤ st.1 ∧ st.1 < (opsN : Nat)) ∧
            ∃ t_1 : ByteArray, (h1.rds bv_1 ((ov_1 + st.1.toNat * 3) + 1) 1 = some [.string t_1]) ∧
            CallH Try.prog id_ref13_Map_Without [.agg #[.slice st.2.1.1 st.2.1.2.1 st.2.1.2.2], .string t_1] (fun v h2 =>
              ∃ (mA_1 : Option Addr) (mN_1 mC_1 : Nat), v = .agg #[.slice mA_1 mN_1 mC_1] ∧
              Jv ((IntKind.wrap .i64 (st.1 + (1 : Int))), (mA_1, mN_1, mC_1), ()) h2) h1) ∧
          ((t == (2 : Int)) = false →
            ∃ bv_2 ov_2 : Nat, (opsA = some ⟨bv_2, ov_2, none⟩ ∧ 0 ≤ st.1 ∧ st.1 < (opsN : Nat)) ∧
            ∃ t_2 : ByteArray, (h1.rds bv_2 ((ov_2 + st.1.toNat * 3) + 1) 1 = some [.string t_2]) ∧
            ∃ bv_3 ov_3 : Nat, (opsA = some ⟨bv_3, ov_3, none⟩ ∧ 0 ≤ st.1 ∧ st.1 < (opsN : Nat)) ∧
            ∃ t_3 : ByteArray, (h1.rds bv_3 ((ov_3 + st.1.toNat * 3) + 2) 1 = some [.string t_3]) ∧
            CallH Try.prog id_ref13_Map_With [.agg #[.slice st.2.1.1 st.2.1.2.1 st.2.1.2.2], .string t_2, .string t_3] (fun v_1 h3 =>
              ∃ (mA_2 : Option Addr) (mN_2 mC_2 : Nat), v_1 = .agg #[.slice mA_2 mN_2 mC_2] ∧
              Jv ((IntKind.wrap .i64 (st.1 + (1 : Int))), (mA_2, mN_2, mC_2), ()) h3) h1))) ∧
      ((decide (st.1 < ((opsN : Nat) : Int))) = false →
        K (.agg #[.slice st.2.1.1 st.2.1.2.1 st.2.1.2.2]) h1))) ((0 : Int), (mA, mN, mC), ()) h
theorem F_ref13_Map_Does_eq {mA : Option Addr} {mN mC : Nat} {opsA : Option Addr} {opsN opsC : Nat} {K : Value → PH → Prop} {h : PH} : @Eq Prop (F_ref13_Map_Does mA mN mC opsA opsN opsC K h) (denF Try.prog Try.f52 ⟨[2, 4], [], [(0, ⟨[(5, .int .i64)], [], [(0, [.one (.slice)])]⟩)], []⟩ [.agg [.one (.slice mA mN mC)], .v (.slice opsA opsN opsC)] K h) := by
  kernel_rfl
theorem F_ref13_Map_Does_ok {mA : Option Addr} {mN mC : Nat} {opsA : Option Addr} {opsN opsC : Nat}  {K : Value → PH → Prop} {h : PH} (hh : F_ref13_Map_Does mA mN mC opsA opsN opsC K h) : CallH Try.prog id_ref13_Map_Does [.agg #[.slice mA mN mC], .slice opsA opsN opsC] K h :=
  denF_sound' Try.func52 (H := ⟨[2, 4], [], [(0, ⟨[(5, .int .i64)], [], [(0, [.one (.slice)])]⟩)], []⟩) (xs := [.agg [.one (.slice mA mN mC)], .v (.slice opsA opsN opsC)]) (by kernel_rfl) (⟨⟨rfl, trivial⟩, rfl, trivial⟩) (den_of F_ref13_Map_Does_eq hh)

/- twinlock/twinlockref11.Ships -/
def F_ref11_Ships (lA : Option Addr) (lN lC : Nat) (p : ByteArray) (K : Value → PH → Prop) (h : PH) : Prop :=
  CallH Try.prog id_ref11_Of [.slice lA lN lC, .string p] (fun v h1 =>
    ∃ t00 : ByteArray, ∃ t01 : Bool, ∃ t1 : Int, v = .tuple #[.agg #[.string t00, .bool t01], .int .i64 t1] ∧
    K (.bool ((t1 == (0 : Int)) && t01)) h1) h
theorem F_ref11_Ships_eq {lA : Option Addr} {lN lC : Nat} {p : ByteArray} {K : Value → PH → Prop} {h : PH} : @Eq Prop (F_ref11_Ships lA lN lC p K h) (denF Try.prog Try.f53 ⟨[5], [], [], []⟩ [.v (.slice lA lN lC), .v (.string p)] K h) := by
  kernel_rfl
theorem F_ref11_Ships_ok {lA : Option Addr} {lN lC : Nat} {p : ByteArray}  {K : Value → PH → Prop} {h : PH} (hh : F_ref11_Ships lA lN lC p K h) : CallH Try.prog id_ref11_Ships [.slice lA lN lC, .string p] K h :=
  denF_sound' Try.func53 (H := ⟨[5], [], [], []⟩) (xs := [.v (.slice lA lN lC), .v (.string p)]) (by kernel_rfl) (⟨rfl, rfl, trivial⟩) (den_of F_ref11_Ships_eq hh)

/- twinlock/batch.each -/
def F_batch_each (opsA : Option Addr) (opsN _ : Nat) (ofv : Value) (K : Value → PH → Prop) (h : PH) : Prop :=
  LoopP (T := Int × Unit) (fun Jv st h1 =>
    (((decide (st.1 < ((opsN : Nat) : Int))) = true →
        ∃ bv ov : Nat, (opsA = some ⟨bv, ov, none⟩ ∧ 0 ≤ st.1 ∧ st.1 < (opsN : Nat)) ∧
        ∃ o0 : Int, ∃ o1 : ByteArray, ∃ o2 : ByteArray, (h1.rds bv (ov + st.1.toNat * 3) 3 = some [.int .u8 o0, .string o1, .string o2]) ∧
        ((((o0 != (1 : Int)) && (o0 != (2 : Int))) = true →
            K (.int .i64 (10 : Int)) h1) ∧
          (((o0 != (1 : Int)) && (o0 != (2 : Int))) = false →
            CallV Try.prog ofv [.string o1] (fun v h2 =>
              ∃ e : Int, v = .int .i64 e ∧
              (((e != (0 : Int)) = true →
                  K (.int .i64 e) h2) ∧
                ((e != (0 : Int)) = false →
                  (((decide ((o2.size : Int) > (32 : Int))) = true →
                      K (.int .i64 (3 : Int)) h2) ∧
                    ((decide ((o2.size : Int) > (32 : Int))) = false →
                      ((((o0 == (2 : Int)) && (!(strEq o2 (⟨#[]⟩ : ByteArray)))) = true →
                          K (.int .i64 (1 : Int)) h2) ∧
                        (((o0 == (2 : Int)) && (!(strEq o2 (⟨#[]⟩ : ByteArray)))) = false →
                          Jv ((IntKind.wrap .i64 (st.1 + (1 : Int))), ()) h2))))))) h1))) ∧
      ((decide (st.1 < ((opsN : Nat) : Int))) = false →
        K (.int .i64 (0 : Int)) h1))) ((0 : Int), ()) h
theorem F_batch_each_eq {opsA : Option Addr} {opsN opsC : Nat} {ofv : Value} {K : Value → PH → Prop} {h : PH} : @Eq Prop (F_batch_each opsA opsN opsC ofv K h) (denF Try.prog Try.f54 ⟨[6], [], [(0, ⟨[(10, .int .i64)], [], []⟩)], []⟩ [.v (.slice opsA opsN opsC), .fn ofv] K h) := by
  kernel_rfl
theorem F_batch_each_ok {opsA : Option Addr} {opsN opsC : Nat} {ofv : Value} (hk0 : one1 ofv = true) {K : Value → PH → Prop} {h : PH} (hh : F_batch_each opsA opsN opsC ofv K h) : CallH Try.prog id_batch_each [.slice opsA opsN opsC, ofv] K h :=
  denF_sound' Try.func54 (H := ⟨[6], [], [(0, ⟨[(10, .int .i64)], [], []⟩)], []⟩) (xs := [.v (.slice opsA opsN opsC), .fn ofv]) (by kernel_rfl) (⟨rfl, hk0, trivial⟩) (den_of F_batch_each_eq hh)

/- twinlock/batch.Right-1 -/
def F_batch_Right_1 (p : ByteArray) (K : Value → PH → Prop) (h : PH) : Prop :=
  CallH Try.prog id_path_Cut [.string p] (fun v h1 =>
    ∃ t0 : ByteArray, ∃ t1 : ByteArray, ∃ t2 : Bool, v = .tuple #[.string t0, .string t1, .bool t2] ∧
    (((!t2) = true →
        K (.int .i64 (20 : Int)) h1) ∧
      ((!t2) = false →
        K (.int .i64 (0 : Int)) h1))) h
theorem F_batch_Right_1_eq {p : ByteArray} {K : Value → PH → Prop} {h : PH} : @Eq Prop (F_batch_Right_1 p K h) (denF Try.prog Try.f55 ⟨[], [], [], []⟩ [.v (.string p)] K h) := by
  kernel_rfl
theorem F_batch_Right_1_ok {p : ByteArray}  {K : Value → PH → Prop} {h : PH} (hh : F_batch_Right_1 p K h) : CallH Try.prog id_batch_Right_1 [.string p] K h :=
  denF_sound' Try.func55 (H := ⟨[], [], [], []⟩) (xs := [.v (.string p)]) (by kernel_rfl) (⟨rfl, trivial⟩) (den_of F_batch_Right_1_eq hh)

/- maps.Keys[map[string]string,string,string] -/
def F_maps_Keys_map_string_string_string_string (m : Option Nat) (K : Value → PH → Prop) (h : PH) : Prop :=
  newH h (.cells #[.map m] 69 (0, 0)) fun bv h1 =>
  K (.func (.func 72) #[] #[.pointer (some ⟨bv, 0, none⟩)]) h1
theorem F_maps_Keys_map_string_string_string_string_eq {m : Option Nat} {K : Value → PH → Prop} {h : PH} : @Eq Prop (F_maps_Keys_map_string_string_string_string m K h) (denF Try.prog Try.f58 ⟨[], [], [], []⟩ [.v (.map m)] K h) := by
  kernel_rfl
theorem F_maps_Keys_map_string_string_string_string_ok {m : Option Nat}  {K : Value → PH → Prop} {h : PH} (hh : F_maps_Keys_map_string_string_string_string m K h) : CallH Try.prog id_maps_Keys_map_string_string_string_string [.map m] K h :=
  denF_sound' Try.func58 (H := ⟨[], [], [], []⟩) (xs := [.v (.map m)]) (by kernel_rfl) (⟨rfl, trivial⟩) (den_of F_maps_Keys_map_string_string_string_string_eq hh)

/- slices.IndexFunc[[]string,string] -/
def F_slices_IndexFunc_string_string (sA : Option Addr) (sN _ : Nat) (f : Value) (K : Value → PH → Prop) (h : PH) : Prop :=
  LoopP (T := Int × Unit) (fun Jv st h1 =>
    (((decide (st.1 < ((sN : Nat) : Int))) = true →
        ∃ bv ov : Nat, (sA = some ⟨bv, ov, none⟩ ∧ 0 ≤ st.1 ∧ st.1 < (sN : Nat)) ∧
        ∃ t : ByteArray, (h1.rds bv (ov + st.1.toNat * 1) 1 = some [.string t]) ∧
        CallV Try.prog f [.string t] (fun v h2 =>
          ∃ t_1 : Bool, v = .bool t_1 ∧
          ((t_1 = true →
              K (.int .i64 st.1) h2) ∧
            (t_1 = false →
              Jv ((IntKind.wrap .i64 (st.1 + (1 : Int))), ()) h2))) h1) ∧
      ((decide (st.1 < ((sN : Nat) : Int))) = false →
        K (.int .i64 (-1 : Int)) h1))) ((0 : Int), ()) h
theorem F_slices_IndexFunc_string_string_eq {sA : Option Addr} {sN sC : Nat} {f : Value} {K : Value → PH → Prop} {h : PH} : @Eq Prop (F_slices_IndexFunc_string_string sA sN sC f K h) (denF Try.prog Try.f59 ⟨[], [], [(0, ⟨[(8, .int .i64)], [], []⟩)], []⟩ [.v (.slice sA sN sC), .fn f] K h) := by
  kernel_rfl
theorem F_slices_IndexFunc_string_string_ok {sA : Option Addr} {sN sC : Nat} {f : Value} (hk0 : one1 f = true) {K : Value → PH → Prop} {h : PH} (hh : F_slices_IndexFunc_string_string sA sN sC f K h) : CallH Try.prog id_slices_IndexFunc_string_string [.slice sA sN sC, f] K h :=
  denF_sound' Try.func59 (H := ⟨[], [], [(0, ⟨[(8, .int .i64)], [], []⟩)], []⟩) (xs := [.v (.slice sA sN sC), .fn f]) (by kernel_rfl) (⟨rfl, hk0, trivial⟩) (den_of F_slices_IndexFunc_string_string_eq hh)

/- internal/stringslite.HasPrefix -/
def F_internal_stringslite_HasPrefix (sv : ByteArray) (prefixv : ByteArray) (K : Value → PH → Prop) (h : PH) : Prop :=
  (((decide ((sv.size : Int) ≥ (prefixv.size : Int))) = true → 0 ≤ (0 : Int) ∧ (0 : Int) ≤ (prefixv.size : Int) ∧ (prefixv.size : Int) ≤ (ByteArray.size sv : Nat))) ∧
  K (.bool ((decide ((sv.size : Int) ≥ (prefixv.size : Int))) && (strEq (subS sv (0 : Int) (prefixv.size : Int)) prefixv))) h
theorem F_internal_stringslite_HasPrefix_eq {sv : ByteArray} {prefixv : ByteArray} {K : Value → PH → Prop} {h : PH} : @Eq Prop (F_internal_stringslite_HasPrefix sv prefixv K h) (denF Try.prog Try.f60 ⟨[], [], [], []⟩ [.v (.string sv), .v (.string prefixv)] K h) := by
  kernel_rfl
theorem F_internal_stringslite_HasPrefix_ok {sv : ByteArray} {prefixv : ByteArray}  {K : Value → PH → Prop} {h : PH} (hh : F_internal_stringslite_HasPrefix sv prefixv K h) : CallH Try.prog id_internal_stringslite_HasPrefix [.string sv, .string prefixv] K h :=
  denF_sound' Try.func60 (H := ⟨[], [], [], []⟩) (xs := [.v (.string sv), .v (.string prefixv)]) (by kernel_rfl) (⟨rfl, rfl, trivial⟩) (den_of F_internal_stringslite_HasPrefix_eq hh)

/- internal/stringslite.Cut -/
def F_internal_stringslite_Cut (sv : ByteArray) (sep : ByteArray) (K : Value → PH → Prop) (h : PH) : Prop :=
  CallH Try.prog id_internal_stringslite_Index [.string sv, .string sep] (fun v h1 =>
    ∃ i : Int, v = .int .i64 i ∧
    (((decide (i ≥ (0 : Int))) = true →
        (0 ≤ (0 : Int) ∧ (0 : Int) ≤ i ∧ i ≤ (ByteArray.size sv : Nat)) ∧
        (0 ≤ (IntKind.wrap .i64 (i + (sep.size : Int))) ∧ (IntKind.wrap .i64 (i + (sep.size : Int))) ≤ ((ByteArray.size sv : Nat) : Int) ∧ ((ByteArray.size sv : Nat) : Int) ≤ (ByteArray.size sv : Nat)) ∧
        K (.tuple #[.string (subS sv (0 : Int) i), .string (subS sv (IntKind.wrap .i64 (i + (sep.size : Int))) ((ByteArray.size sv : Nat) : Int)), .bool true]) h1) ∧
      ((decide (i ≥ (0 : Int))) = false →
        K (.tuple #[.string sv, .string (⟨#[]⟩ : ByteArray), .bool false]) h1))) h
theorem F_internal_stringslite_Cut_eq {sv : ByteArray} {sep : ByteArray} {K : Value → PH → Prop} {h : PH} : @Eq Prop (F_internal_stringslite_Cut sv sep K h) (denF Try.prog Try.f61 ⟨[], [], [], []⟩ [.v (.string sv), .v (.string sep)] K h) := by
  kernel_rfl
theorem F_internal_stringslite_Cut_ok {sv : ByteArray} {sep : ByteArray}  {K : Value → PH → Prop} {h : PH} (hh : F_internal_stringslite_Cut sv sep K h) : CallH Try.prog id_internal_stringslite_Cut [.string sv, .string sep] K h :=
  denF_sound' Try.func61 (H := ⟨[], [], [], []⟩) (xs := [.v (.string sv), .v (.string sep)]) (by kernel_rfl) (⟨rfl, rfl, trivial⟩) (den_of F_internal_stringslite_Cut_eq hh)

/- strings.IndexByte -/
def F_strings_IndexByte (sv : ByteArray) (cv : Int) (K : Value → PH → Prop) (h : PH) : Prop :=
  CallH Try.prog id_internal_stringslite_IndexByte [.string sv, .int .u8 cv] (fun v h1 =>
    ∃ t : Int, v = .int .i64 t ∧
    K (.int .i64 t) h1) h
theorem F_strings_IndexByte_eq {sv : ByteArray} {cv : Int} {K : Value → PH → Prop} {h : PH} : @Eq Prop (F_strings_IndexByte sv cv K h) (denF Try.prog Try.f62 ⟨[], [], [], []⟩ [.v (.string sv), .v (.int .u8 cv)] K h) := by
  kernel_rfl
theorem F_strings_IndexByte_ok {sv : ByteArray} {cv : Int}  {K : Value → PH → Prop} {h : PH} (hh : F_strings_IndexByte sv cv K h) : CallH Try.prog id_strings_IndexByte [.string sv, .int .u8 cv] K h :=
  denF_sound' Try.func62 (H := ⟨[], [], [], []⟩) (xs := [.v (.string sv), .v (.int .u8 cv)]) (by kernel_rfl) (⟨rfl, rfl, trivial⟩) (den_of F_strings_IndexByte_eq hh)

/- twinlock/path.Of -/
def F_path_Of (lA : Option Addr) (lN lC : Nat) (p : ByteArray) (K : Value → PH → Prop) (h : PH) : Prop :=
  CallH Try.prog id_path_Cut [.string p] (fun v h1 =>
    ∃ t0 : ByteArray, ∃ t1 : ByteArray, ∃ t2 : Bool, v = .tuple #[.string t0, .string t1, .bool t2] ∧
    newH h1 (.cells #[.string (⟨#[]⟩ : ByteArray)] 9 (0, 0)) fun bv h2 =>
    stH h2 bv 0 [.string t0] fun h3 =>
    (((!t2) = true →
        K (.tuple #[.agg #[.string (⟨#[]⟩ : ByteArray), .bool false], .int .i64 (20 : Int)]) h3) ∧
      ((!t2) = false →
        CallH Try.prog id_slices_IndexFunc_api_Mount_api_Mount [.slice lA lN lC, .func (.func 76) #[] #[.pointer (some ⟨bv, 0, none⟩)]] (fun v_1 h4 =>
          ∃ i : Int, v_1 = .int .i64 i ∧
          (((decide (i < (0 : Int))) = true →
              K (.tuple #[.agg #[.string (⟨#[]⟩ : ByteArray), .bool false], .int .i64 (21 : Int)]) h4) ∧
            ((decide (i < (0 : Int))) = false →
              ∃ bv_1 ov : Nat, (lA = some ⟨bv_1, ov, none⟩ ∧ 0 ≤ i ∧ i < (lN : Nat)) ∧
              ∃ t0_1 : ByteArray, ∃ t1_1 : Bool, (h4.rds bv_1 (ov + i.toNat * 2) 2 = some [.string t0_1, .bool t1_1]) ∧
              K (.tuple #[.agg #[.string t0_1, .bool t1_1], .int .i64 (0 : Int)]) h4))) h3))) h
theorem F_path_Of_eq {lA : Option Addr} {lN lC : Nat} {p : ByteArray} {K : Value → PH → Prop} {h : PH} : @Eq Prop (F_path_Of lA lN lC p K h) (denF Try.prog Try.f63 ⟨[4], [], [], []⟩ [.v (.slice lA lN lC), .v (.string p)] K h) := by
  kernel_rfl
theorem F_path_Of_ok {lA : Option Addr} {lN lC : Nat} {p : ByteArray}  {K : Value → PH → Prop} {h : PH} (hh : F_path_Of lA lN lC p K h) : CallH Try.prog id_path_Of [.slice lA lN lC, .string p] K h :=
  denF_sound' Try.func63 (H := ⟨[4], [], [], []⟩) (xs := [.v (.slice lA lN lC), .v (.string p)]) (by kernel_rfl) (⟨rfl, rfl, trivial⟩) (den_of F_path_Of_eq hh)

/- twinlock/twinlockref11.Named -/
def F_ref11_Named (sv : ByteArray) (K : Value → PH → Prop) (h : PH) : Prop :=
  ((((decide ((sv.size : Int) < (1 : Int))) || (decide ((sv.size : Int) > (8 : Int)))) = true →
      K (.bool false) h) ∧
    (((decide ((sv.size : Int) < (1 : Int))) || (decide ((sv.size : Int) > (8 : Int)))) = false →
      LoopP (T := Int × Unit) (fun Jv st h1 =>
        (((decide (st.1 < (sv.size : Int))) = true →
            (0 ≤ st.1 ∧ st.1 < (ByteArray.size sv : Nat)) ∧
            (((decide ((byteAt sv st.1) < (97 : Int))) = false → 0 ≤ st.1 ∧ st.1 < (ByteArray.size sv : Nat))) ∧
            ((((decide ((byteAt sv st.1) < (97 : Int))) || (decide ((byteAt sv st.1) > (122 : Int)))) = true →
                K (.bool false) h1) ∧
              (((decide ((byteAt sv st.1) < (97 : Int))) || (decide ((byteAt sv st.1) > (122 : Int)))) = false →
                Jv ((IntKind.wrap .i64 (st.1 + (1 : Int))), ()) h1))) ∧
          ((decide (st.1 < (sv.size : Int))) = false →
            K (.bool true) h1))) ((0 : Int), ()) h))
theorem F_ref11_Named_eq {sv : ByteArray} {K : Value → PH → Prop} {h : PH} : @Eq Prop (F_ref11_Named sv K h) (denF Try.prog Try.f64 ⟨[], [], [(0, ⟨[(3, .int .i64)], [], []⟩)], []⟩ [.v (.string sv)] K h) := by
  kernel_rfl
theorem F_ref11_Named_ok {sv : ByteArray}  {K : Value → PH → Prop} {h : PH} (hh : F_ref11_Named sv K h) : CallH Try.prog id_ref11_Named [.string sv] K h :=
  denF_sound' Try.func64 (H := ⟨[], [], [(0, ⟨[(3, .int .i64)], [], []⟩)], []⟩) (xs := [.v (.string sv)]) (by kernel_rfl) (⟨rfl, trivial⟩) (den_of F_ref11_Named_eq hh)

/- twinlock/twinlockref11.Key -/
def F_ref11_Key (sv : ByteArray) (K : Value → PH → Prop) (h : PH) : Prop :=
  ((((decide ((sv.size : Int) < (1 : Int))) || (decide ((sv.size : Int) > (24 : Int)))) = true →
      K (.bool false) h) ∧
    (((decide ((sv.size : Int) < (1 : Int))) || (decide ((sv.size : Int) > (24 : Int)))) = false →
      LoopP (T := Int × Unit) (fun Jv st h1 =>
        (((decide (st.1 < (sv.size : Int))) = true →
            (0 ≤ st.1 ∧ st.1 < (ByteArray.size sv : Nat)) ∧
            ((((byteAt sv st.1) == (0 : Int)) = false → 0 ≤ st.1 ∧ st.1 < (ByteArray.size sv : Nat))) ∧
            (((((byteAt sv st.1) == (0 : Int)) || ((byteAt sv st.1) == (47 : Int))) = true →
                K (.bool false) h1) ∧
              ((((byteAt sv st.1) == (0 : Int)) || ((byteAt sv st.1) == (47 : Int))) = false →
                Jv ((IntKind.wrap .i64 (st.1 + (1 : Int))), ()) h1))) ∧
          ((decide (st.1 < (sv.size : Int))) = false →
            K (.bool true) h1))) ((0 : Int), ()) h))
theorem F_ref11_Key_eq {sv : ByteArray} {K : Value → PH → Prop} {h : PH} : @Eq Prop (F_ref11_Key sv K h) (denF Try.prog Try.f65 ⟨[], [], [(0, ⟨[(3, .int .i64)], [], []⟩)], []⟩ [.v (.string sv)] K h) := by
  kernel_rfl
theorem F_ref11_Key_ok {sv : ByteArray}  {K : Value → PH → Prop} {h : PH} (hh : F_ref11_Key sv K h) : CallH Try.prog id_ref11_Key [.string sv] K h :=
  denF_sound' Try.func65 (H := ⟨[], [], [(0, ⟨[(3, .int .i64)], [], []⟩)], []⟩) (xs := [.v (.string sv)]) (by kernel_rfl) (⟨rfl, trivial⟩) (den_of F_ref11_Key_eq hh)

/- twinlock/twinlockref11.Less -/
def F_ref11_Less (a : ByteArray) (bv : ByteArray) (K : Value → PH → Prop) (h : PH) : Prop :=
  LoopP (T := Int × Unit) (fun Jv st h1 =>
    ((((decide (st.1 < (a.size : Int))) && (decide (st.1 < (bv.size : Int)))) = true →
        (0 ≤ st.1 ∧ st.1 < (ByteArray.size a : Nat)) ∧
        (0 ≤ st.1 ∧ st.1 < (ByteArray.size bv : Nat)) ∧
        ((((byteAt a st.1) != (byteAt bv st.1)) = true →
            (0 ≤ st.1 ∧ st.1 < (ByteArray.size a : Nat)) ∧
            (0 ≤ st.1 ∧ st.1 < (ByteArray.size bv : Nat)) ∧
            K (.bool (decide ((byteAt a st.1) < (byteAt bv st.1)))) h1) ∧
          (((byteAt a st.1) != (byteAt bv st.1)) = false →
            Jv ((IntKind.wrap .i64 (st.1 + (1 : Int))), ()) h1))) ∧
      (((decide (st.1 < (a.size : Int))) && (decide (st.1 < (bv.size : Int)))) = false →
        K (.bool (decide ((a.size : Int) < (bv.size : Int)))) h1))) ((0 : Int), ()) h
theorem F_ref11_Less_eq {a : ByteArray} {bv : ByteArray} {K : Value → PH → Prop} {h : PH} : @Eq Prop (F_ref11_Less a bv K h) (denF Try.prog Try.f66 ⟨[], [], [(0, ⟨[(5, .int .i64)], [], []⟩)], []⟩ [.v (.string a), .v (.string bv)] K h) := by
  kernel_rfl
theorem F_ref11_Less_ok {a : ByteArray} {bv : ByteArray}  {K : Value → PH → Prop} {h : PH} (hh : F_ref11_Less a bv K h) : CallH Try.prog id_ref11_Less [.string a, .string bv] K h :=
  denF_sound' Try.func66 (H := ⟨[], [], [(0, ⟨[(5, .int .i64)], [], []⟩)], []⟩) (xs := [.v (.string a), .v (.string bv)]) (by kernel_rfl) (⟨rfl, rfl, trivial⟩) (den_of F_ref11_Less_eq hh)

/- twinlock/twinlockref12.value -/
def F_ref12_value (o0 : Int) (_ : ByteArray) (o2 : ByteArray) (K : Value → PH → Prop) (h : PH) : Prop :=
  (((decide ((o2.size : Int) > (32 : Int))) = true →
      K (.int .i64 (3 : Int)) h) ∧
    ((decide ((o2.size : Int) > (32 : Int))) = false →
      ((((o0 == (2 : Int)) && (!(strEq o2 (⟨#[]⟩ : ByteArray)))) = true →
          K (.int .i64 (1 : Int)) h) ∧
        (((o0 == (2 : Int)) && (!(strEq o2 (⟨#[]⟩ : ByteArray)))) = false →
          K (.int .i64 (0 : Int)) h))))
theorem F_ref12_value_eq {o0 : Int} {o1 : ByteArray} {o2 : ByteArray} {K : Value → PH → Prop} {h : PH} : @Eq Prop (F_ref12_value o0 o1 o2 K h) (denF Try.prog Try.f67 ⟨[1], [], [], []⟩ [.agg [.one (.int .u8 o0), .one (.string o1), .one (.string o2)]] K h) := by
  kernel_rfl
theorem F_ref12_value_ok {o0 : Int} {o1 : ByteArray} {o2 : ByteArray}  {K : Value → PH → Prop} {h : PH} (hh : F_ref12_value o0 o1 o2 K h) : CallH Try.prog id_ref12_value [.agg #[.int .u8 o0, .string o1, .string o2]] K h :=
  denF_sound' Try.func67 (H := ⟨[1], [], [], []⟩) (xs := [.agg [.one (.int .u8 o0), .one (.string o1), .one (.string o2)]]) (by kernel_rfl) (⟨⟨rfl, rfl, rfl, trivial⟩, trivial⟩) (den_of F_ref12_value_eq hh)

/- (twinlock/twinlockref13.Map).Without -/
def F_ref13_Map_Without (mA : Option Addr) (mN mC : Nat) (p : ByteArray) (K : Value → PH → Prop) (h : PH) : Prop :=
  CallH Try.prog id_ref13_Map_find [.agg #[.slice mA mN mC], .string p] (fun v h1 =>
    ∃ t0 : Int, ∃ t1 : Bool, v = .tuple #[.int .i64 t0, .bool t1] ∧
    (((!t1) = true →
        K (.agg #[.slice mA mN mC]) h1) ∧
      ((!t1) = false →
        (0 ≤ (0 : Int) ∧ (0 : Int) ≤ t0 ∧ t0 ≤ ((mC : Nat) : Int) ∧ ((mC : Nat) : Int) ≤ (mC : Nat)) ∧
        ∃ vs : List Value, srcH h1 (slA mA 2 (0 : Int) ((mC : Nat) : Int)) ((t0.toNat - (0 : Int).toNat) * 2) vs ∧
        appH T_api_Pair 2 32 [.string (⟨#[]⟩ : ByteArray), .string (⟨#[]⟩ : ByteArray)] none 0 0 (t0.toNat - (0 : Int).toNat) vs (fun tA tN tC h2 =>
          (0 ≤ (IntKind.wrap .i64 (t0 + (1 : Int))) ∧ (IntKind.wrap .i64 (t0 + (1 : Int))) ≤ ((mN : Nat) : Int) ∧ ((mN : Nat) : Int) ≤ ((mC : Nat) : Int) ∧ ((mC : Nat) : Int) ≤ (mC : Nat)) ∧
          ∃ vs_1 : List Value, srcH h2 (slA mA 2 (IntKind.wrap .i64 (t0 + (1 : Int))) ((mC : Nat) : Int)) ((((mN : Nat) : Int).toNat - (IntKind.wrap .i64 (t0 + (1 : Int))).toNat) * 2) vs_1 ∧
          appH T_api_Pair 2 32 [.string (⟨#[]⟩ : ByteArray), .string (⟨#[]⟩ : ByteArray)] tA tN tC (((mN : Nat) : Int).toNat - (IntKind.wrap .i64 (t0 + (1 : Int))).toNat) vs_1 (fun tA_1 tN_1 tC_1 h3 =>
            K (.agg #[.slice tA_1 tN_1 tC_1]) h3) h2) h1))) h
theorem F_ref13_Map_Without_eq {mA : Option Addr} {mN mC : Nat} {p : ByteArray} {K : Value → PH → Prop} {h : PH} : @Eq Prop (F_ref13_Map_Without mA mN mC p K h) (denF Try.prog Try.f68 ⟨[2, 4, 7], [], [], []⟩ [.agg [.one (.slice mA mN mC)], .v (.string p)] K h) := by
  kernel_rfl
theorem F_ref13_Map_Without_ok {mA : Option Addr} {mN mC : Nat} {p : ByteArray}  {K : Value → PH → Prop} {h : PH} (hh : F_ref13_Map_Without mA mN mC p K h) : CallH Try.prog id_ref13_Map_Without [.agg #[.slice mA mN mC], .string p] K h :=
  denF_sound' Try.func68 (H := ⟨[2, 4, 7], [], [], []⟩) (xs := [.agg [.one (.slice mA mN mC)], .v (.string p)]) (by kernel_rfl) (⟨⟨rfl, trivial⟩, rfl, trivial⟩) (den_of F_ref13_Map_Without_eq hh)

/- twinlock/twinlockref11.Of -/
def F_ref11_Of (lA : Option Addr) (lN _ : Nat) (p : ByteArray) (K : Value → PH → Prop) (h : PH) : Prop :=
  CallH Try.prog id_ref11_Cut [.string p] (fun v h1 =>
    ∃ t0 : ByteArray, ∃ t1 : ByteArray, ∃ t2 : Bool, v = .tuple #[.string t0, .string t1, .bool t2] ∧
    (((!t2) = true →
        K (.tuple #[.agg #[.string (⟨#[]⟩ : ByteArray), .bool false], .int .i64 (20 : Int)]) h1) ∧
      ((!t2) = false →
        LoopP (T := Int × ByteArray × Bool × Unit) (fun Jv st h2 =>
          (((decide (st.1 < ((lN : Nat) : Int))) = true →
              ∃ bv ov : Nat, (lA = some ⟨bv, ov, none⟩ ∧ 0 ≤ st.1 ∧ st.1 < (lN : Nat)) ∧
              ∃ t : ByteArray, (h2.rds bv (ov + st.1.toNat * 2) 1 = some [.string t]) ∧
              (((strEq t t0) = true →
                  ∃ bv_1 ov_1 : Nat, (lA = some ⟨bv_1, ov_1, none⟩ ∧ 0 ≤ st.1 ∧ st.1 < (lN : Nat)) ∧
                  ∃ t0_1 : ByteArray, ∃ t1_1 : Bool, (h2.rds bv_1 (ov_1 + st.1.toNat * 2) 2 = some [.string t0_1, .bool t1_1]) ∧
                  K (.tuple #[.agg #[.string t0_1, .bool t1_1], .int .i64 (0 : Int)]) h2) ∧
                ((strEq t t0) = false →
                  Jv ((IntKind.wrap .i64 (st.1 + (1 : Int))), st.2.1, st.2.2.1, ()) h2))) ∧
            ((decide (st.1 < ((lN : Nat) : Int))) = false →
              K (.tuple #[.agg #[.string (⟨#[]⟩ : ByteArray), .bool false], .int .i64 (21 : Int)]) h2))) ((0 : Int), (⟨#[]⟩ : ByteArray), false, ()) h1))) h
theorem F_ref11_Of_eq {lA : Option Addr} {lN lC : Nat} {p : ByteArray} {K : Value → PH → Prop} {h : PH} : @Eq Prop (F_ref11_Of lA lN lC p K h) (denF Try.prog Try.f69 ⟨[4], [], [(0, ⟨[(9, .int .i64)], [], [(0, [.one (.str), .one (.bool)])]⟩)], []⟩ [.v (.slice lA lN lC), .v (.string p)] K h) := by
  kernel_rfl
theorem F_ref11_Of_ok {lA : Option Addr} {lN lC : Nat} {p : ByteArray}  {K : Value → PH → Prop} {h : PH} (hh : F_ref11_Of lA lN lC p K h) : CallH Try.prog id_ref11_Of [.slice lA lN lC, .string p] K h :=
  denF_sound' Try.func69 (H := ⟨[4], [], [(0, ⟨[(9, .int .i64)], [], [(0, [.one (.str), .one (.bool)])]⟩)], []⟩) (xs := [.v (.slice lA lN lC), .v (.string p)]) (by kernel_rfl) (⟨rfl, rfl, trivial⟩) (den_of F_ref11_Of_eq hh)

/- internal/stringslite.Index -/
set_option maxRecDepth 100000 in
def F_internal_stringslite_Index (sv : ByteArray) (substr : ByteArray) (K : Value → PH → Prop) (h : PH) : Prop :=
  (((((substr.size : Int) == (0 : Int)) || (strEq substr sv)) = true →
      K (.int .i64 (0 : Int)) h) ∧
    ((((substr.size : Int) == (0 : Int)) || (strEq substr sv)) = false →
      ((((substr.size : Int) == (1 : Int)) = true →
          (0 ≤ (0 : Int) ∧ (0 : Int) < (ByteArray.size substr : Nat)) ∧
          CallH Try.prog id_internal_stringslite_IndexByte [.string sv, .int .u8 (byteAt substr (0 : Int))] (fun v h1 =>
            ∃ t : Int, v = .int .i64 t ∧
            K (.int .i64 t) h1) h) ∧
        (((substr.size : Int) == (1 : Int)) = false →
          (((decide ((substr.size : Int) ≥ (sv.size : Int))) = true →
              K (.int .i64 (-1 : Int)) h) ∧
            ((decide ((substr.size : Int) ≥ (sv.size : Int))) = false →
              ∃ t_1 : Int, (h.rds 0 0 1 = some [.int .i64 t_1]) ∧
              ((((decide ((substr.size : Int) ≤ t_1)) && (decide ((sv.size : Int) ≤ (64 : Int)))) = true →
                  ExtH Try.prog id_internal_bytealg_IndexString [.string sv, .string substr] (fun v_1 h2 =>
                    ∃ t_2 : Int, v_1 = .int .i64 t_2 ∧
                    K (.int .i64 t_2) h2) h) ∧
                (((decide ((substr.size : Int) ≤ t_1)) && (decide ((sv.size : Int) ≤ (64 : Int)))) = false →
                  (0 ≤ (0 : Int) ∧ (0 : Int) < (ByteArray.size substr : Nat)) ∧
                  (0 ≤ (1 : Int) ∧ (1 : Int) < (ByteArray.size substr : Nat)) ∧
                  LoopP (T := Int × Int × Unit) (fun Jv st h3 =>
                    (((decide (st.1 < (IntKind.wrap .i64 ((IntKind.wrap .i64 ((sv.size : Int) - (substr.size : Int))) + (1 : Int))))) = true →
                        JoinP (T := Int × Unit) (fun Jv_1 =>
                          (0 ≤ st.1 ∧ st.1 < (ByteArray.size sv : Nat)) ∧
                          ((((byteAt sv st.1) != (byteAt substr (0 : Int))) = true →
                              (0 ≤ (IntKind.wrap .i64 (st.1 + (1 : Int))) ∧ (IntKind.wrap .i64 (st.1 + (1 : Int))) ≤ (IntKind.wrap .i64 ((IntKind.wrap .i64 ((sv.size : Int) - (substr.size : Int))) + (1 : Int))) ∧ (IntKind.wrap .i64 ((IntKind.wrap .i64 ((sv.size : Int) - (substr.size : Int))) + (1 : Int))) ≤ (ByteArray.size sv : Nat)) ∧
                              CallH Try.prog id_internal_stringslite_IndexByte [.string (subS sv (IntKind.wrap .i64 (st.1 + (1 : Int))) (IntKind.wrap .i64 ((IntKind.wrap .i64 ((sv.size : Int) - (substr.size : Int))) + (1 : Int)))), .int .u8 (byteAt substr (0 : Int))] (fun v_2 h5 =>
                                ∃ ov : Int, v_2 = .int .i64 ov ∧
                                (((decide (ov < (0 : Int))) = true →
                                    K (.int .i64 (-1 : Int)) h5) ∧
                                  ((decide (ov < (0 : Int))) = false →
                                    Jv_1 ((IntKind.wrap .i64 (st.1 + (IntKind.wrap .i64 (ov + (1 : Int))))), ()) h5))) h3) ∧
                            (((byteAt sv st.1) != (byteAt substr (0 : Int))) = false →
                              Jv_1 (st.1, ()) h3)))
                        (fun st_1 h4 =>
                          (0 ≤ (IntKind.wrap .i64 (st_1.1 + (1 : Int))) ∧ (IntKind.wrap .i64 (st_1.1 + (1 : Int))) < (ByteArray.size sv : Nat)) ∧
                          ((((byteAt sv (IntKind.wrap .i64 (st_1.1 + (1 : Int)))) == (byteAt substr (1 : Int))) = true → 0 ≤ st_1.1 ∧ st_1.1 ≤ (IntKind.wrap .i64 (st_1.1 + (substr.size : Int))) ∧ (IntKind.wrap .i64 (st_1.1 + (substr.size : Int))) ≤ (ByteArray.size sv : Nat))) ∧
                          (((((byteAt sv (IntKind.wrap .i64 (st_1.1 + (1 : Int)))) == (byteAt substr (1 : Int))) && (strEq (subS sv st_1.1 (IntKind.wrap .i64 (st_1.1 + (substr.size : Int)))) substr)) = true →
                              K (.int .i64 st_1.1) h4) ∧
                            ((((byteAt sv (IntKind.wrap .i64 (st_1.1 + (1 : Int)))) == (byteAt substr (1 : Int))) && (strEq (subS sv st_1.1 (IntKind.wrap .i64 (st_1.1 + (substr.size : Int)))) substr)) = false →
                              ∃ t_3 : Int, (h4.rds 0 0 1 = some [.int .i64 t_3]) ∧
                              (((decide ((substr.size : Int) ≤ t_3)) = true →
                                  CallH Try.prog id_internal_bytealg_Cutover [.int .i64 (IntKind.wrap .i64 (st_1.1 + (1 : Int)))] (fun v_3 h6 =>
                                    ∃ t_4 : Int, v_3 = .int .i64 t_4 ∧
                                    (((decide ((IntKind.wrap .i64 (st.2.1 + (1 : Int))) > t_4)) = true →
                                        (0 ≤ (IntKind.wrap .i64 (st_1.1 + (1 : Int))) ∧ (IntKind.wrap .i64 (st_1.1 + (1 : Int))) ≤ ((ByteArray.size sv : Nat) : Int) ∧ ((ByteArray.size sv : Nat) : Int) ≤ (ByteArray.size sv : Nat)) ∧
                                        ExtH Try.prog id_internal_bytealg_IndexString [.string (subS sv (IntKind.wrap .i64 (st_1.1 + (1 : Int))) ((ByteArray.size sv : Nat) : Int)), .string substr] (fun v_4 h7 =>
                                          ∃ r : Int, v_4 = .int .i64 r ∧
                                          (((decide (r ≥ (0 : Int))) = true →
                                              K (.int .i64 (IntKind.wrap .i64 (r + (IntKind.wrap .i64 (st_1.1 + (1 : Int)))))) h7) ∧
                                            ((decide (r ≥ (0 : Int))) = false →
                                              K (.int .i64 (-1 : Int)) h7))) h6) ∧
                                      ((decide ((IntKind.wrap .i64 (st.2.1 + (1 : Int))) > t_4)) = false →
                                        ∃ t_5 : Int, (h6.rds 0 0 1 = some [.int .i64 t_5]) ∧
                                        (((((decide ((substr.size : Int) > t_5)) && (decide ((IntKind.wrap .i64 (st.2.1 + (1 : Int))) ≥ (IntKind.wrap .i64 ((4 : Int) + (shrV .i64 (IntKind.wrap .i64 (st_1.1 + (1 : Int))) (4 : Int))))))) && (decide ((IntKind.wrap .i64 (st_1.1 + (1 : Int))) < (IntKind.wrap .i64 ((IntKind.wrap .i64 ((sv.size : Int) - (substr.size : Int))) + (1 : Int)))))) = true →
                                            (0 ≤ (IntKind.wrap .i64 (st_1.1 + (1 : Int))) ∧ (IntKind.wrap .i64 (st_1.1 + (1 : Int))) ≤ ((ByteArray.size sv : Nat) : Int) ∧ ((ByteArray.size sv : Nat) : Int) ≤ (ByteArray.size sv : Nat)) ∧
                                            CallH Try.prog id_internal_bytealg_IndexRabinKarp_string [.string (subS sv (IntKind.wrap .i64 (st_1.1 + (1 : Int))) ((ByteArray.size sv : Nat) : Int)), .string substr] (fun v_5 h8 =>
                                              ∃ j : Int, v_5 = .int .i64 j ∧
                                              (((decide (j < (0 : Int))) = true →
                                                  K (.int .i64 (-1 : Int)) h8) ∧
                                                ((decide (j < (0 : Int))) = false →
                                                  K (.int .i64 (IntKind.wrap .i64 ((IntKind.wrap .i64 (st_1.1 + (1 : Int))) + j))) h8))) h6) ∧
                                          ((((decide ((substr.size : Int) > t_5)) && (decide ((IntKind.wrap .i64 (st.2.1 + (1 : Int))) ≥ (IntKind.wrap .i64 ((4 : Int) + (shrV .i64 (IntKind.wrap .i64 (st_1.1 + (1 : Int))) (4 : Int))))))) && (decide ((IntKind.wrap .i64 (st_1.1 + (1 : Int))) < (IntKind.wrap .i64 ((IntKind.wrap .i64 ((sv.size : Int) - (substr.size : Int))) + (1 : Int)))))) = false →
                                            Jv ((IntKind.wrap .i64 (st_1.1 + (1 : Int))), (IntKind.wrap .i64 (st.2.1 + (1 : Int))), ()) h6))))) h4) ∧
                                ((decide ((substr.size : Int) ≤ t_3)) = false →
                                  ∃ t_6 : Int, (h4.rds 0 0 1 = some [.int .i64 t_6]) ∧
                                  (((((decide ((substr.size : Int) > t_6)) && (decide ((IntKind.wrap .i64 (st.2.1 + (1 : Int))) ≥ (IntKind.wrap .i64 ((4 : Int) + (shrV .i64 (IntKind.wrap .i64 (st_1.1 + (1 : Int))) (4 : Int))))))) && (decide ((IntKind.wrap .i64 (st_1.1 + (1 : Int))) < (IntKind.wrap .i64 ((IntKind.wrap .i64 ((sv.size : Int) - (substr.size : Int))) + (1 : Int)))))) = true →
                                      (0 ≤ (IntKind.wrap .i64 (st_1.1 + (1 : Int))) ∧ (IntKind.wrap .i64 (st_1.1 + (1 : Int))) ≤ ((ByteArray.size sv : Nat) : Int) ∧ ((ByteArray.size sv : Nat) : Int) ≤ (ByteArray.size sv : Nat)) ∧
                                      CallH Try.prog id_internal_bytealg_IndexRabinKarp_string [.string (subS sv (IntKind.wrap .i64 (st_1.1 + (1 : Int))) ((ByteArray.size sv : Nat) : Int)), .string substr] (fun v_6 h9 =>
                                        ∃ j_1 : Int, v_6 = .int .i64 j_1 ∧
                                        (((decide (j_1 < (0 : Int))) = true →
                                            K (.int .i64 (-1 : Int)) h9) ∧
                                          ((decide (j_1 < (0 : Int))) = false →
                                            K (.int .i64 (IntKind.wrap .i64 ((IntKind.wrap .i64 (st_1.1 + (1 : Int))) + j_1))) h9))) h4) ∧
                                    ((((decide ((substr.size : Int) > t_6)) && (decide ((IntKind.wrap .i64 (st.2.1 + (1 : Int))) ≥ (IntKind.wrap .i64 ((4 : Int) + (shrV .i64 (IntKind.wrap .i64 (st_1.1 + (1 : Int))) (4 : Int))))))) && (decide ((IntKind.wrap .i64 (st_1.1 + (1 : Int))) < (IntKind.wrap .i64 ((IntKind.wrap .i64 ((sv.size : Int) - (substr.size : Int))) + (1 : Int)))))) = false →
                                      Jv ((IntKind.wrap .i64 (st_1.1 + (1 : Int))), (IntKind.wrap .i64 (st.2.1 + (1 : Int))), ()) h4)))))))) ∧
                      ((decide (st.1 < (IntKind.wrap .i64 ((IntKind.wrap .i64 ((sv.size : Int) - (substr.size : Int))) + (1 : Int))))) = false →
                        K (.int .i64 (-1 : Int)) h3))) ((0 : Int), (0 : Int), ()) h))))))))
set_option maxRecDepth 100000 in
theorem F_internal_stringslite_Index_eq {sv : ByteArray} {substr : ByteArray} {K : Value → PH → Prop} {h : PH} : @Eq Prop (F_internal_stringslite_Index sv substr K h) (denF Try.prog Try.f73 ⟨[], [], [(1, ⟨[(8, .int .i64), (10, .int .i64)], [], []⟩)], [(44, ⟨[(8, .int .i64)], [], []⟩)]⟩ [.v (.string sv), .v (.string substr)] K h) := by
  kernel_rfl
theorem F_internal_stringslite_Index_ok {sv : ByteArray} {substr : ByteArray}  {K : Value → PH → Prop} {h : PH} (hh : F_internal_stringslite_Index sv substr K h) : CallH Try.prog id_internal_stringslite_Index [.string sv, .string substr] K h :=
  denF_sound' Try.func73 (H := ⟨[], [], [(1, ⟨[(8, .int .i64), (10, .int .i64)], [], []⟩)], [(44, ⟨[(8, .int .i64)], [], []⟩)]⟩) (xs := [.v (.string sv), .v (.string substr)]) (by kernel_rfl) (⟨rfl, rfl, trivial⟩) (den_of F_internal_stringslite_Index_eq hh)

/- internal/stringslite.IndexByte -/
def F_internal_stringslite_IndexByte (sv : ByteArray) (cv : Int) (K : Value → PH → Prop) (h : PH) : Prop :=
  ExtH Try.prog id_internal_bytealg_IndexByteString [.string sv, .int .u8 cv] (fun v h1 =>
    ∃ t : Int, v = .int .i64 t ∧
    K (.int .i64 t) h1) h
theorem F_internal_stringslite_IndexByte_eq {sv : ByteArray} {cv : Int} {K : Value → PH → Prop} {h : PH} : @Eq Prop (F_internal_stringslite_IndexByte sv cv K h) (denF Try.prog Try.f74 ⟨[], [], [], []⟩ [.v (.string sv), .v (.int .u8 cv)] K h) := by
  kernel_rfl
theorem F_internal_stringslite_IndexByte_ok {sv : ByteArray} {cv : Int}  {K : Value → PH → Prop} {h : PH} (hh : F_internal_stringslite_IndexByte sv cv K h) : CallH Try.prog id_internal_stringslite_IndexByte [.string sv, .int .u8 cv] K h :=
  denF_sound' Try.func74 (H := ⟨[], [], [], []⟩) (xs := [.v (.string sv), .v (.int .u8 cv)]) (by kernel_rfl) (⟨rfl, rfl, trivial⟩) (den_of F_internal_stringslite_IndexByte_eq hh)

/- slices.IndexFunc[[]twinlock/api.Mount,twinlock/api.Mount] -/
def F_slices_IndexFunc_api_Mount_api_Mount (sA : Option Addr) (sN _ : Nat) (f : Value) (K : Value → PH → Prop) (h : PH) : Prop :=
  LoopP (T := Int × Unit) (fun Jv st h1 =>
    (((decide (st.1 < ((sN : Nat) : Int))) = true →
        ∃ bv ov : Nat, (sA = some ⟨bv, ov, none⟩ ∧ 0 ≤ st.1 ∧ st.1 < (sN : Nat)) ∧
        ∃ t0 : ByteArray, ∃ t1 : Bool, (h1.rds bv (ov + st.1.toNat * 2) 2 = some [.string t0, .bool t1]) ∧
        CallV Try.prog f [.agg #[.string t0, .bool t1]] (fun v h2 =>
          ∃ t : Bool, v = .bool t ∧
          ((t = true →
              K (.int .i64 st.1) h2) ∧
            (t = false →
              Jv ((IntKind.wrap .i64 (st.1 + (1 : Int))), ()) h2))) h1) ∧
      ((decide (st.1 < ((sN : Nat) : Int))) = false →
        K (.int .i64 (-1 : Int)) h1))) ((0 : Int), ()) h
theorem F_slices_IndexFunc_api_Mount_api_Mount_eq {sA : Option Addr} {sN sC : Nat} {f : Value} {K : Value → PH → Prop} {h : PH} : @Eq Prop (F_slices_IndexFunc_api_Mount_api_Mount sA sN sC f K h) (denF Try.prog Try.f75 ⟨[], [], [(0, ⟨[(8, .int .i64)], [], []⟩)], []⟩ [.v (.slice sA sN sC), .fn f] K h) := by
  kernel_rfl
theorem F_slices_IndexFunc_api_Mount_api_Mount_ok {sA : Option Addr} {sN sC : Nat} {f : Value} (hk0 : one1 f = true) {K : Value → PH → Prop} {h : PH} (hh : F_slices_IndexFunc_api_Mount_api_Mount sA sN sC f K h) : CallH Try.prog id_slices_IndexFunc_api_Mount_api_Mount [.slice sA sN sC, f] K h :=
  denF_sound' Try.func75 (H := ⟨[], [], [(0, ⟨[(8, .int .i64)], [], []⟩)], []⟩) (xs := [.v (.slice sA sN sC), .fn f]) (by kernel_rfl) (⟨rfl, hk0, trivial⟩) (den_of F_slices_IndexFunc_api_Mount_api_Mount_eq hh)

/- twinlock/path.Of-1 -/
def F_path_Of_1 (m0 : ByteArray) (_ : Bool) (cap0B : Nat) (K : Value → PH → Prop) (h : PH) : Prop :=
  ∃ t : ByteArray, (h.rds cap0B 0 1 = some [.string t]) ∧
  K (.bool (strEq m0 t)) h
theorem F_path_Of_1_eq {m0 : ByteArray} {m1 : Bool} {cap0B : Nat} {K : Value → PH → Prop} {h : PH} : @Eq Prop (F_path_Of_1 m0 m1 cap0B K h) (denF Try.prog Try.f76 ⟨[2], [], [], []⟩ [.agg [.one (.string m0), .one (.bool m1)], .v (.pointer (some ⟨cap0B, 0, none⟩))] K h) := by
  kernel_rfl
theorem F_path_Of_1_ok {m0 : ByteArray} {m1 : Bool} {cap0B : Nat}  {K : Value → PH → Prop} {h : PH} (hh : F_path_Of_1 m0 m1 cap0B K h) : CallH Try.prog id_path_Of_1 [.agg #[.string m0, .bool m1], .pointer (some ⟨cap0B, 0, none⟩)] K h :=
  denF_sound' Try.func76 (H := ⟨[2], [], [], []⟩) (xs := [.agg [.one (.string m0), .one (.bool m1)], .v (.pointer (some ⟨cap0B, 0, none⟩))]) (by kernel_rfl) (⟨⟨rfl, rfl, trivial⟩, rfl, trivial⟩) (den_of F_path_Of_1_eq hh)

/- internal/bytealg.Cutover -/
def F_internal_bytealg_Cutover (n : Int) (K : Value → PH → Prop) (h : PH) : Prop :=
  K (.int .i64 (IntKind.wrap .i64 ((IntKind.wrap .i64 (n + (16 : Int))).tdiv (8 : Int)))) h
theorem F_internal_bytealg_Cutover_eq {n : Int} {K : Value → PH → Prop} {h : PH} : @Eq Prop (F_internal_bytealg_Cutover n K h) (denF Try.prog Try.f81 ⟨[], [], [], []⟩ [.v (.int .i64 n)] K h) := by
  kernel_rfl
theorem F_internal_bytealg_Cutover_ok {n : Int}  {K : Value → PH → Prop} {h : PH} (hh : F_internal_bytealg_Cutover n K h) : CallH Try.prog id_internal_bytealg_Cutover [.int .i64 n] K h :=
  denF_sound' Try.func81 (H := ⟨[], [], [], []⟩) (xs := [.v (.int .i64 n)]) (by kernel_rfl) (⟨rfl, trivial⟩) (den_of F_internal_bytealg_Cutover_eq hh)

/- internal/bytealg.hashStr[string] -/
def F_internal_bytealg_hashStr_string (sep : ByteArray) (K : Value → PH → Prop) (h : PH) : Prop :=
  LoopP (T := Int × Int × Unit) (fun Jv st h1 =>
    (((decide (st.2.1 < (sep.size : Int))) = true →
        (0 ≤ st.2.1 ∧ st.2.1 < (ByteArray.size sep : Nat)) ∧
        Jv ((IntKind.wrap .u32 ((IntKind.wrap .u32 (st.1 * (16777619 : Int))) + (IntKind.wrap .u32 (byteAt sep st.2.1)))), (IntKind.wrap .i64 (st.2.1 + (1 : Int))), ()) h1) ∧
      ((decide (st.2.1 < (sep.size : Int))) = false →
        LoopP (T := Int × Int × Int × Unit) (fun Jv_1 st_1 h2 =>
          (((decide (st_1.2.2.1 > (0 : Int))) = true →
              ((((bitsV .and .i64 st_1.2.2.1 (1 : Int)) != (0 : Int)) = true →
                  Jv_1 ((IntKind.wrap .u32 (st_1.1 * st_1.2.1)), (IntKind.wrap .u32 (st_1.2.1 * st_1.2.1)), (shrV .i64 st_1.2.2.1 (1 : Int)), ()) h2) ∧
                (((bitsV .and .i64 st_1.2.2.1 (1 : Int)) != (0 : Int)) = false →
                  Jv_1 (st_1.1, (IntKind.wrap .u32 (st_1.2.1 * st_1.2.1)), (shrV .i64 st_1.2.2.1 (1 : Int)), ()) h2))) ∧
            ((decide (st_1.2.2.1 > (0 : Int))) = false →
              K (.tuple #[.int .u32 st.1, .int .u32 st_1.1]) h2))) ((1 : Int), (16777619 : Int), (sep.size : Int), ()) h1))) ((0 : Int), (0 : Int), ()) h
theorem F_internal_bytealg_hashStr_string_eq {sep : ByteArray} {K : Value → PH → Prop} {h : PH} : @Eq Prop (F_internal_bytealg_hashStr_string sep K h) (denF Try.prog Try.f95 ⟨[], [], [(0, ⟨[(4, .int .u32), (5, .int .i64)], [], []⟩), (2, ⟨[(6, .int .u32), (7, .int .u32), (8, .int .i64)], [], []⟩)], []⟩ [.v (.string sep)] K h) := by
  kernel_rfl
theorem F_internal_bytealg_hashStr_string_ok {sep : ByteArray}  {K : Value → PH → Prop} {h : PH} (hh : F_internal_bytealg_hashStr_string sep K h) : CallH Try.prog id_internal_bytealg_hashStr_string [.string sep] K h :=
  denF_sound' Try.func95 (H := ⟨[], [], [(0, ⟨[(4, .int .u32), (5, .int .i64)], [], []⟩), (2, ⟨[(6, .int .u32), (7, .int .u32), (8, .int .i64)], [], []⟩)], []⟩) (xs := [.v (.string sep)]) (by kernel_rfl) (⟨rfl, trivial⟩) (den_of F_internal_bytealg_hashStr_string_eq hh)


end TL
