/-
  The functions of the program as predicates on heap fragments, each tied to its code. No condition.
-/
import Derived.Test.YtmcgndbfoebcnaaGreatLibC
import Derived.Test.YtmcgndbfoebcnaaGreatProg
namespace TL
open Go Go.Proofs
abbrev id_gosem_cut_init : FuncId := 2
abbrev id_law15_TreePlays : FuncId := 3
abbrev id_law15_TreeMakes : FuncId := 4
abbrev id_law20_ShipCopies : FuncId := 5
abbrev id_law16_WalkNobody : FuncId := 6
abbrev id_law16_WalkQuiet : FuncId := 7
abbrev id_law16_WalkKnown : FuncId := 8
abbrev id_law16_WalkPlays : FuncId := 9
abbrev id_law16_WalkFew : FuncId := 10
abbrev id_law16_WalkLevel : FuncId := 11
abbrev id_law22_StageOthers : FuncId := 12
abbrev id_law22_StageNobody : FuncId := 13
abbrev id_law22_StageAnew : FuncId := 14
abbrev id_law22_StageKnown : FuncId := 15
abbrev id_law22_StagePlays : FuncId := 16
abbrev id_law22_StageShips : FuncId := 17
abbrev id_law15_Great : FuncId := 18
abbrev id_law15_wakes : FuncId := 19
abbrev id_tree_New : FuncId := 20
abbrev id_ref13_Map_Get : FuncId := 21
abbrev id_ref11_Cut : FuncId := 22
abbrev id_ref13_Map_With : FuncId := 23
abbrev id_tree_Tree_Set : FuncId := 24
abbrev id_tree_Tree_Drop : FuncId := 25
abbrev id_ref13_Map_Without : FuncId := 26
abbrev id_law15_stands : FuncId := 27
abbrev id_law13_GreatPairs : FuncId := 28
abbrev id_tree_Of : FuncId := 29
abbrev id_ref14_May : FuncId := 30
abbrev id_tree_Tree_Node : FuncId := 31
abbrev id_law20_Great : FuncId := 32
abbrev id_law20_wakes : FuncId := 33
abbrev id_law20_Made : FuncId := 34
abbrev id_ship_New : FuncId := 35
abbrev id_ship_Ship_Ack : FuncId := 36
abbrev id_ship_Ship_Tick : FuncId := 37
abbrev id_tree_Tree_Root : FuncId := 38
abbrev id_walk_New : FuncId := 39
abbrev id_walk_Walk_Want : FuncId := 40
abbrev id_ship_Ship_Ask : FuncId := 41
abbrev id_walk_Walk_Node : FuncId := 42
abbrev id_walk_Walk_Page : FuncId := 43
abbrev id_walk_Walk_Done : FuncId := 44
abbrev id_ref13_Same : FuncId := 45
abbrev id_ref15_Collides : FuncId := 46
abbrev id_walk_Walk_Texts : FuncId := 47
abbrev id_ship_Ship_Texts : FuncId := 48
abbrev id_ref15_Texts : FuncId := 49
abbrev id_law16_wakes : FuncId := 50
abbrev id_walk_Walk_Root : FuncId := 51
abbrev id_law16_Great : FuncId := 52
abbrev id_law16_begin : FuncId := 53
abbrev id_law16_answer : FuncId := 54
abbrev id_law13_SameTexts : FuncId := 55
abbrev id_bucket_Of : FuncId := 56
abbrev id_ref16_New : FuncId := 57
abbrev id_law16_one : FuncId := 58
abbrev id_ref16_Walk_Done : FuncId := 59
abbrev id_law16_above : FuncId := 60
abbrev id_law16_collides : FuncId := 61
abbrev id_law16_node : FuncId := 62
abbrev id_law16_rest : FuncId := 63
abbrev id_tree_Tree_All : FuncId := 64
abbrev id_law22_Great : FuncId := 65
abbrev id_law22_wakes : FuncId := 66
abbrev id_law22_trees : FuncId := 67
abbrev id_stage_New : FuncId := 68
abbrev id_stage_Stage_Root : FuncId := 69
abbrev id_law22_root : FuncId := 70
abbrev id_law22_turn : FuncId := 71
abbrev id_stage_Stage_Asks : FuncId := 72
abbrev id_stage_Stage_Answer : FuncId := 73
abbrev id_law22_Answer : FuncId := 74
abbrev id_stage_Stage_Done : FuncId := 75
abbrev id_stage_Stage_Begun : FuncId := 76
abbrev id_stage_Stage_Forget : FuncId := 77
abbrev id_stage_Stage_Goal : FuncId := 78
abbrev id_stage_Stage_Texts : FuncId := 79
abbrev id_ref22_Stage_Root : FuncId := 80
abbrev id_ref22_Stage_Asks : FuncId := 81
abbrev id_ref22_Stage_Answer : FuncId := 82
abbrev id_ref22_Stage_Forget : FuncId := 83
abbrev id_ref20_SameAll : FuncId := 84
abbrev id_ref22_Stage_All : FuncId := 85
abbrev id_law22_collides : FuncId := 86
abbrev id_tree_Leaf : FuncId := 87
abbrev id_tree_Tree_page : FuncId := 88
abbrev id_tree_Inner : FuncId := 89
abbrev id_ref13_Map_find : FuncId := 90
abbrev id_ref11_Named : FuncId := 91
abbrev id_ref11_Key : FuncId := 92
abbrev id_path_Cut : FuncId := 93
abbrev id_tree_Tree_find : FuncId := 94
abbrev id_slices_Replace_api_Pair_api_Pair : FuncId := 95
abbrev id_slices_Clone_api_Pair_api_Pair : FuncId := 96
abbrev id_slices_Insert_api_Pair_api_Pair : FuncId := 97
abbrev id_tree_Tree_anew : FuncId := 98
abbrev id_slices_Delete_api_Pair_api_Pair : FuncId := 99
abbrev id_ref15_Levels : FuncId := 100
abbrev id_tree_Tree_Pairs : FuncId := 101
abbrev id_ref14_Part : FuncId := 102
abbrev id_tree_Tree_Texts : FuncId := 103
abbrev id_bucket_May : FuncId := 104
abbrev id_ref11_Less : FuncId := 105
abbrev id_law12_GreatOps : FuncId := 106
abbrev id_law20_three : FuncId := 107
abbrev id_ship_Ship_Copy : FuncId := 108
abbrev id_ship_next : FuncId := 109
abbrev id_ship_entries : FuncId := 110
abbrev id_ship_above : FuncId := 111
abbrev id_walk_Walk_ask : FuncId := 112
abbrev id_walk_Walk_none : FuncId := 113
abbrev id_slices_SortedFunc_walk_Ask : FuncId := 114
abbrev id_maps_Keys_map_walk_Ask_api_Hash_walk_Ask_api_Hash : FuncId := 115
abbrev id_walk_Walk_Want_1 : FuncId := 116
abbrev id_cmp_Or_int : FuncId := 117
abbrev id_cmp_Compare_int : FuncId := 118
abbrev id_walk_Walk_fits : FuncId := 119
abbrev id_bucket_Page : FuncId := 120
abbrev id_slices_SortFunc_api_Pair_api_Pair : FuncId := 121
abbrev id_walk_Walk_Done_1 : FuncId := 122
abbrev id_strings_Compare : FuncId := 123
abbrev id_ref02_Sum : FuncId := 124
abbrev id_slices_Clone_string_string : FuncId := 125
abbrev id_ref15_LeafText : FuncId := 126
abbrev id_ref15_InnerText : FuncId := 127
abbrev id_sha_Sum : FuncId := 128
abbrev id_ref16_Walk_ask : FuncId := 129
abbrev id_ref16_Walk_Page : FuncId := 130
abbrev id_ref16_Walk_Node : FuncId := 131
abbrev id_slices_Concat_api_Pair_api_Pair : FuncId := 132
abbrev id_tree_Tree_All_1 : FuncId := 133
abbrev id_stage_Stage_none : FuncId := 134
abbrev id_slices_Concat_string_string : FuncId := 135
abbrev id_ref20_SameMsg : FuncId := 136
abbrev id_tree_innerText : FuncId := 137
abbrev id_strings_Cut : FuncId := 138
abbrev id_path_named : FuncId := 139
abbrev id_path_key : FuncId := 140
abbrev id_slices_BinarySearchFunc_api_Pair_api_Pair_string : FuncId := 141
abbrev id_tree_Tree_find_1 : FuncId := 142
abbrev id_slices_overlaps_api_Pair : FuncId := 143
abbrev id_slices_rotateRight_api_Pair : FuncId := 144
abbrev id_slices_startIdx_api_Pair : FuncId := 145
abbrev id_tree_Tree_anew_1 : FuncId := 146
abbrev id_ref14_Of : FuncId := 147
abbrev id_slices_Clone_api_Op_api_Op : FuncId := 148
abbrev id_slices_Collect_walk_Ask : FuncId := 149
abbrev id_slices_SortFunc_walk_Ask_walk_Ask : FuncId := 150
abbrev id_maps_Keys_map_walk_Ask_api_Hash_walk_Ask_api_Hash_1 : FuncId := 151
abbrev id_cmp_isNaN_int : FuncId := 152
abbrev id_bucket_bucket : FuncId := 153
abbrev id_bucket_Part : FuncId := 154
abbrev id_pack_Out_Num : FuncId := 155
abbrev id_pack_Out_Text : FuncId := 156
abbrev id_pack_Out_String : FuncId := 157
abbrev id_slices_pdqsortCmpFunc_api_Pair : FuncId := 158
abbrev id_math_bits_Len : FuncId := 159
abbrev id_internal_bytealg_CompareString : FuncId := 160
abbrev id_ref02_primes : FuncId := 161
abbrev id_ref02_behind : FuncId := 162
abbrev id_ref02_turn : FuncId := 163
abbrev id_ref14_Page : FuncId := 164
abbrev id_sha_New : FuncId := 165
abbrev id_sha_Sha_Write : FuncId := 166
abbrev id_sha_Sha_Sum : FuncId := 167
abbrev id_ref16_Walk_fits : FuncId := 168
abbrev id_slices_Grow_api_Pair_api_Pair : FuncId := 169
abbrev id_slices_Grow_string_string : FuncId := 170
abbrev id_internal_stringslite_Cut : FuncId := 171
abbrev id_strings_IndexByte : FuncId := 172
abbrev id_slices_rotateLeft_api_Pair : FuncId := 173
abbrev id_slices_AppendSeq_walk_Ask_walk_Ask : FuncId := 174
abbrev id_slices_pdqsortCmpFunc_walk_Ask : FuncId := 175
abbrev id_pack_size : FuncId := 176
abbrev id_pack_Out_put : FuncId := 177
abbrev id_slices_insertionSortCmpFunc_api_Pair : FuncId := 178
abbrev id_slices_heapSortCmpFunc_api_Pair : FuncId := 179
abbrev id_slices_breakPatternsCmpFunc_api_Pair : FuncId := 180
abbrev id_slices_choosePivotCmpFunc_api_Pair : FuncId := 181
abbrev id_slices_reverseRangeCmpFunc_api_Pair : FuncId := 182
abbrev id_slices_partialInsertionSortCmpFunc_api_Pair : FuncId := 183
abbrev id_slices_partitionEqualCmpFunc_api_Pair : FuncId := 184
abbrev id_slices_partitionCmpFunc_api_Pair : FuncId := 185
abbrev id_math_bits_Len32 : FuncId := 186
abbrev id_math_bits_Len64 : FuncId := 187
abbrev id_internal_bytealg_abigen_runtime_cmpstring : FuncId := 188
abbrev id_ref02_cube : FuncId := 189
abbrev id_ref02_square : FuncId := 190
abbrev id_ref02_rot : FuncId := 191
abbrev id_ref12_Num : FuncId := 192
abbrev id_ref12_Text : FuncId := 193
abbrev id_sha_begin : FuncId := 194
abbrev id_sha_numbers : FuncId := 195
abbrev id_sha_Sha_none : FuncId := 196
abbrev id_sha_turn : FuncId := 197
abbrev id_sha_putBig : FuncId := 198
abbrev id_internal_stringslite_Index : FuncId := 199
abbrev id_internal_stringslite_IndexByte : FuncId := 200
abbrev id_slices_Reverse_api_Pair_api_Pair : FuncId := 201
abbrev id_slices_insertionSortCmpFunc_walk_Ask : FuncId := 202
abbrev id_slices_heapSortCmpFunc_walk_Ask : FuncId := 203
abbrev id_slices_breakPatternsCmpFunc_walk_Ask : FuncId := 204
abbrev id_slices_choosePivotCmpFunc_walk_Ask : FuncId := 205
abbrev id_slices_reverseRangeCmpFunc_walk_Ask : FuncId := 206
abbrev id_slices_partialInsertionSortCmpFunc_walk_Ask : FuncId := 207
abbrev id_slices_partitionEqualCmpFunc_walk_Ask : FuncId := 208
abbrev id_slices_partitionCmpFunc_walk_Ask : FuncId := 209
abbrev id_slices_siftDownCmpFunc_api_Pair : FuncId := 210
abbrev id_slices_nextPowerOfTwo : FuncId := 211
abbrev id_slices_xorshift_Next : FuncId := 212
abbrev id_slices_medianAdjacentCmpFunc_api_Pair : FuncId := 213
abbrev id_slices_medianCmpFunc_api_Pair : FuncId := 214
abbrev id_math_bits_Mul64 : FuncId := 215
abbrev id_sha_getBig : FuncId := 216
abbrev id_math_bits_RotateLeft32 : FuncId := 217
abbrev id_internal_bytealg_IndexString : FuncId := 218
abbrev id_internal_bytealg_Cutover : FuncId := 219
abbrev id_internal_bytealg_IndexRabinKarp_string : FuncId := 220
abbrev id_internal_bytealg_IndexByteString : FuncId := 221
abbrev id_slices_siftDownCmpFunc_walk_Ask : FuncId := 222
abbrev id_slices_medianAdjacentCmpFunc_walk_Ask : FuncId := 223
abbrev id_slices_medianCmpFunc_walk_Ask : FuncId := 224
abbrev id_slices_order2CmpFunc_api_Pair : FuncId := 225
abbrev id_internal_bytealg_hashStr_string : FuncId := 226
abbrev id_slices_order2CmpFunc_walk_Ask : FuncId := 227
abbrev T_api_Batch : TypeId := 65
abbrev T_api_Hash : TypeId := 46
abbrev T_api_Msg : TypeId := 67
abbrev T_api_Op : TypeId := 222
abbrev T_api_Pair : TypeId := 101
abbrev T_pack_Out : TypeId := 230
abbrev T_ref16_Node : TypeId := 114
abbrev T_ref16_Walk : TypeId := 112
abbrev T_ref22_Stage : TypeId := 146
abbrev T_sha_Sha : TypeId := 270
abbrev T_ship_Ship : TypeId := 176
abbrev T_ship_place : TypeId := 178
abbrev T_ship_shot : TypeId := 182
abbrev T_stage_Stage : TypeId := 211
abbrev T_stage_goal : TypeId := 213
abbrev T_tree_Tree : TypeId := 153
abbrev T_walk_Walk : TypeId := 187
/- twinlock/twinlockref02.Sum -/
def F_ref02_Sum (sv : ByteArray) (K : Value → PH → Prop) (h : PH) : Prop :=
  CallH Tryz.prog id_ref02_primes [.int .i64 (64 : Int)] (fun v h1 =>
    ∃ (pA : Option Addr) (pN pC : Nat), v = .slice pA pN pC ∧
    LoopP (T := Int × List Int × List Int × Unit) (fun Jv st h2 =>
      (((decide (st.1 < (64 : Int))) = true →
          ∃ bv ov : Nat, (pA = some ⟨bv, ov, none⟩ ∧ 0 ≤ st.1 ∧ st.1 < (pN : Nat)) ∧
          ∃ t : Int, (h2.rds bv (ov + st.1.toNat * 1) 1 = some [.int .u64 t]) ∧
          CallH Tryz.prog id_ref02_behind [.int .u64 t, .bool true] (fun v_1 h3 =>
            ∃ t_1 : Int, v_1 = .int .u32 t_1 ∧
            (0 ≤ st.1 ∧ st.1 < (64 : Nat)) ∧
            (st.1.toNat * 1) < 64 ∧
            (((decide (st.1 < (8 : Int))) = true →
                ∃ bv_1 ov_1 : Nat, (pA = some ⟨bv_1, ov_1, none⟩ ∧ 0 ≤ st.1 ∧ st.1 < (pN : Nat)) ∧
                ∃ t_2 : Int, (h3.rds bv_1 (ov_1 + st.1.toNat * 1) 1 = some [.int .u64 t_2]) ∧
                CallH Tryz.prog id_ref02_behind [.int .u64 t_2, .bool false] (fun v_2 h4 =>
                  ∃ t_3 : Int, v_2 = .int .u32 t_3 ∧
                  (0 ≤ st.1 ∧ st.1 < (8 : Nat)) ∧
                  (st.1.toNat * 1) < 8 ∧
                  Jv ((IntKind.wrap .i64 (st.1 + (1 : Int))), (st.2.1.set (st.1.toNat * 1) t_1), (st.2.2.1.set (st.1.toNat * 1) t_3), ()) h4) h3) ∧
              ((decide (st.1 < (8 : Int))) = false →
                Jv ((IntKind.wrap .i64 (st.1 + (1 : Int))), (st.2.1.set (st.1.toNat * 1) t_1), st.2.2.1, ()) h3))) h2) ∧
        ((decide (st.1 < (64 : Int))) = false →
          ∀ cap : Nat, ByteArray.size sv ≤ cap → newH h2 (.cells (byteVs sv ++ List.replicate (cap - ByteArray.size sv) (Value.int .u8 0)).toArray 5 (cap, cap + 1)) fun bv_2 h5 =>
          appH 5 1 1 [.int .u8 (0 : Int)] (some ⟨bv_2, 0, none⟩) (ByteArray.size sv) cap 1 [.int .u8 (128 : Int)] (fun bA bN bC h6 =>
            LoopP (T := (Option Addr × Nat × Nat) × Unit) (fun Jv_1 st_1 h7 =>
              ((((((st_1.1.2.1 : Nat) : Int).tmod (64 : Int)) != (56 : Int)) = true →
                  appH 5 1 1 [.int .u8 (0 : Int)] st_1.1.1 st_1.1.2.1 st_1.1.2.2 1 [.int .u8 (0 : Int)] (fun bA_1 bN_1 bC_1 h8 =>
                    Jv_1 ((bA_1, bN_1, bC_1), ()) h8) h7) ∧
                (((((st_1.1.2.1 : Nat) : Int).tmod (64 : Int)) != (56 : Int)) = false →
                  LoopP (T := (Option Addr × Nat × Nat) × Int × Unit) (fun Jv_2 st_2 h9 =>
                    (((decide (st_2.2.1 ≥ (0 : Int))) = true →
                        (0 ≤ (IntKind.wrap .u64 (IntKind.wrap .i64 ((8 : Int) * st_2.2.1)))) ∧
                        appH 5 1 1 [.int .u8 (0 : Int)] st_2.1.1 st_2.1.2.1 st_2.1.2.2 1 [.int .u8 (IntKind.wrap .u8 (shrV .u64 (IntKind.wrap .u64 ((IntKind.wrap .u64 (sv.size : Int)) * (8 : Int))) (IntKind.wrap .u64 (IntKind.wrap .i64 ((8 : Int) * st_2.2.1)))))] (fun bA_2 bN_2 bC_2 h10 =>
                          Jv_2 ((bA_2, bN_2, bC_2), (IntKind.wrap .i64 (st_2.2.1 - (1 : Int))), ()) h10) h9) ∧
                      ((decide (st_2.2.1 ≥ (0 : Int))) = false →
                        LoopP (T := Int × List Int × Unit) (fun Jv_3 st_3 h11 =>
                          (((decide (st_3.1 < ((st_2.1.2.1 : Nat) : Int))) = true →
                              (0 ≤ st_3.1 ∧ st_3.1 ≤ (IntKind.wrap .i64 (st_3.1 + (64 : Int))) ∧ (IntKind.wrap .i64 (st_3.1 + (64 : Int))) ≤ ((st_2.1.2.2 : Nat) : Int) ∧ ((st_2.1.2.2 : Nat) : Int) ≤ (st_2.1.2.2 : Nat)) ∧
                              CallH Tryz.prog id_ref02_turn [.agg ((st_3.2.1.map (Value.int .u32) ++ [])).toArray, .agg ((st.2.1.map (Value.int .u32) ++ [])).toArray, .slice (slA st_2.1.1 1 st_3.1 ((st_2.1.2.2 : Nat) : Int)) ((IntKind.wrap .i64 (st_3.1 + (64 : Int))).toNat - st_3.1.toNat) (((st_2.1.2.2 : Nat) : Int).toNat - st_3.1.toNat)] (fun v_3 h12 =>
                                ∃ hv : List Int, hv.length = 8 ∧ v_3 = .agg ((hv.map (Value.int .u32) ++ [])).toArray ∧
                                Jv_3 ((IntKind.wrap .i64 (st_3.1 + (64 : Int))), hv, ()) h12) h11) ∧
                            ((decide (st_3.1 < ((st_2.1.2.1 : Nat) : Int))) = false →
                              LoopP (T := Int × List Int × Unit) (fun Jv_4 st_4 h13 =>
                                (((decide (st_4.1 < (32 : Int))) = true →
                                    (0 ≤ (IntKind.wrap .i64 (st_4.1.tdiv (4 : Int))) ∧ (IntKind.wrap .i64 (st_4.1.tdiv (4 : Int))) < (8 : Nat)) ∧
                                    (((IntKind.wrap .i64 (st_4.1.tdiv (4 : Int))).toNat * 1) < 8) ∧
                                    (0 ≤ (IntKind.wrap .u64 (IntKind.wrap .i64 ((24 : Int) - (IntKind.wrap .i64 ((8 : Int) * (st_4.1.tmod (4 : Int)))))))) ∧
                                    (0 ≤ st_4.1 ∧ st_4.1 < (32 : Nat)) ∧
                                    (st_4.1.toNat * 1) < 32 ∧
                                    Jv_4 ((IntKind.wrap .i64 (st_4.1 + (1 : Int))), (st_4.2.1.set (st_4.1.toNat * 1) (IntKind.wrap .u8 (shrV .u32 (st_3.2.1.getD ((IntKind.wrap .i64 (st_4.1.tdiv (4 : Int))).toNat * 1) 0) (IntKind.wrap .u64 (IntKind.wrap .i64 ((24 : Int) - (IntKind.wrap .i64 ((8 : Int) * (st_4.1.tmod (4 : Int)))))))))), ()) h13) ∧
                                  ((decide (st_4.1 < (32 : Int))) = false →
                                    K (.agg ((st_4.2.1.map (Value.int .u8) ++ [])).toArray) h13))) ((0 : Int), (List.replicate 32 0), ()) h11))) ((0 : Int), st.2.2.1, ()) h9))) ((st_1.1.1, st_1.1.2.1, st_1.1.2.2), (7 : Int), ()) h7))) ((bA, bN, bC), ()) h6) h5))) ((0 : Int), (List.replicate 64 0), (List.replicate 8 0), ()) h1) h
theorem F_ref02_Sum_eq {sv : ByteArray} {K : Value → PH → Prop} {h : PH} : @Eq Prop (F_ref02_Sum sv K h) (denF Tryz.prog Tryz.f124 ⟨[2, 4, 5, 11, 36, 43, 60], [], [(0, ⟨[(6, .int .i64)], [], [(1, [.ints .u32 64]), (2, [.ints .u32 8])]⟩), (2, ⟨[(7, .slice)], [], []⟩), (4, ⟨[(7, .slice), (9, .int .i64)], [], []⟩), (6, ⟨[(10, .int .i64)], [], [(2, [.ints .u32 8])]⟩), (8, ⟨[(12, .int .i64)], [], [(4, [.ints .u8 32])]⟩)], []⟩ [.v (.string sv)] K h) := by
  kernel_rfl
theorem F_ref02_Sum_ok {sv : ByteArray}  {K : Value → PH → Prop} {h : PH} (hh : F_ref02_Sum sv K h) : CallH Tryz.prog id_ref02_Sum [.string sv] K h :=
  denF_sound' Tryz.func124 (H := ⟨[2, 4, 5, 11, 36, 43, 60], [], [(0, ⟨[(6, .int .i64)], [], [(1, [.ints .u32 64]), (2, [.ints .u32 8])]⟩), (2, ⟨[(7, .slice)], [], []⟩), (4, ⟨[(7, .slice), (9, .int .i64)], [], []⟩), (6, ⟨[(10, .int .i64)], [], [(2, [.ints .u32 8])]⟩), (8, ⟨[(12, .int .i64)], [], [(4, [.ints .u8 32])]⟩)], []⟩) (xs := [.v (.string sv)]) (by kernel_rfl) (⟨rfl, trivial⟩) (den_of F_ref02_Sum_eq hh)

/- twinlock/sha.Sum -/
def F_sha_Sum (sv : ByteArray) (K : Value → PH → Prop) (h : PH) : Prop :=
  CallH Tryz.prog id_sha_New [] (fun v h1 =>
    ∃ xv : Option Addr, v = .pointer xv ∧
    CallH Tryz.prog id_sha_Sha_Write [.pointer xv, .string sv] (fun v_1 h2 =>
      ∃ t : Int, v_1 = .int .i64 t ∧
      CallH Tryz.prog id_sha_Sha_Sum [.pointer xv] (fun v_2 h3 =>
        ∃ t_1 : List Int, t_1.length = 32 ∧ v_2 = .agg ((t_1.map (Value.int .u8) ++ [])).toArray ∧
        K (.agg ((t_1.map (Value.int .u8) ++ [])).toArray) h3) h2) h1) h
theorem F_sha_Sum_eq {sv : ByteArray} {K : Value → PH → Prop} {h : PH} : @Eq Prop (F_sha_Sum sv K h) (denF Tryz.prog Tryz.f128 ⟨[2], [], [], []⟩ [.v (.string sv)] K h) := by
  kernel_rfl
theorem F_sha_Sum_ok {sv : ByteArray}  {K : Value → PH → Prop} {h : PH} (hh : F_sha_Sum sv K h) : CallH Tryz.prog id_sha_Sum [.string sv] K h :=
  denF_sound' Tryz.func128 (H := ⟨[2], [], [], []⟩) (xs := [.v (.string sv)]) (by kernel_rfl) (⟨rfl, trivial⟩) (den_of F_sha_Sum_eq hh)

/- twinlock/twinlockref02.primes -/
def F_ref02_primes (n : Int) (K : Value → PH → Prop) (h : PH) : Prop :=
  LoopP (T := (Option Addr × Nat × Nat) × Int × Unit) (fun Jv st h1 =>
    (((decide (((st.1.2.1 : Nat) : Int) < n)) = true →
        LoopP (T := Bool × Int × Unit) (fun Jv_1 st_1 h2 =>
          (((decide (st_1.2.1 < ((st.1.2.1 : Nat) : Int))) = true →
              ∃ bv ov : Nat, (st.1.1 = some ⟨bv, ov, none⟩ ∧ 0 ≤ st_1.2.1 ∧ st_1.2.1 < (st.1.2.1 : Nat)) ∧
              ∃ t : Int, (h2.rds bv (ov + st_1.2.1.toNat * 1) 1 = some [.int .u64 t]) ∧
              (t ≠ 0) ∧
              ((((st.2.1.tmod t) == (0 : Int)) = true →
                  Jv_1 (false, (IntKind.wrap .i64 (st_1.2.1 + (1 : Int))), ()) h2) ∧
                (((st.2.1.tmod t) == (0 : Int)) = false →
                  Jv_1 (st_1.1, (IntKind.wrap .i64 (st_1.2.1 + (1 : Int))), ()) h2))) ∧
            ((decide (st_1.2.1 < ((st.1.2.1 : Nat) : Int))) = false →
              ((st_1.1 = true →
                  appH 232 1 8 [.int .u64 (0 : Int)] st.1.1 st.1.2.1 st.1.2.2 1 [.int .u64 st.2.1] (fun lA lN lC h3 =>
                    Jv ((lA, lN, lC), (IntKind.wrap .u64 (st.2.1 + (1 : Int))), ()) h3) h2) ∧
                (st_1.1 = false →
                  Jv ((st.1.1, st.1.2.1, st.1.2.2), (IntKind.wrap .u64 (st.2.1 + (1 : Int))), ()) h2))))) (true, (0 : Int), ()) h1) ∧
      ((decide (((st.1.2.1 : Nat) : Int) < n)) = false →
        K (.slice st.1.1 st.1.2.1 st.1.2.2) h1))) ((none, 0, 0), (2 : Int), ()) h
theorem F_ref02_primes_eq {n : Int} {K : Value → PH → Prop} {h : PH} : @Eq Prop (F_ref02_primes n K h) (denF Tryz.prog Tryz.f161 ⟨[29], [], [(0, ⟨[(3, .slice), (4, .int .u64)], [], []⟩), (2, ⟨[(5, .bool), (6, .int .i64)], [], []⟩)], []⟩ [.v (.int .i64 n)] K h) := by
  kernel_rfl
theorem F_ref02_primes_ok {n : Int}  {K : Value → PH → Prop} {h : PH} (hh : F_ref02_primes n K h) : CallH Tryz.prog id_ref02_primes [.int .i64 n] K h :=
  denF_sound' Tryz.func161 (H := ⟨[29], [], [(0, ⟨[(3, .slice), (4, .int .u64)], [], []⟩), (2, ⟨[(5, .bool), (6, .int .i64)], [], []⟩)], []⟩) (xs := [.v (.int .i64 n)]) (by kernel_rfl) (⟨rfl, trivial⟩) (den_of F_ref02_primes_eq hh)

/- twinlock/twinlockref02.behind -/
def F_ref02_behind (p : Int) (three : Bool) (K : Value → PH → Prop) (h : PH) : Prop :=
  LoopP (T := Int × Int × Unit) (fun Jv st h1 =>
    (((decide (st.2.1 ≥ (0 : Int))) = true →
        JoinP (T := Int × Unit) (fun Jv_1 =>
          (0 ≤ (IntKind.wrap .u64 st.2.1)) ∧
          (((three && (decide ((IntKind.wrap .u64 (st.1 + (shlV .u64 (1 : Int) (IntKind.wrap .u64 st.2.1)))) < (68719476736 : Int)))) = true →
              CallH Tryz.prog id_ref02_cube [.int .u64 (IntKind.wrap .u64 (st.1 + (shlV .u64 (1 : Int) (IntKind.wrap .u64 st.2.1)))), .int .u64 p] (fun v h3 =>
                ∃ t : Bool, v = .bool t ∧
                ((t = false →
                    (((!three) = true →
                        CallH Tryz.prog id_ref02_square [.int .u64 (IntKind.wrap .u64 (st.1 + (shlV .u64 (1 : Int) (IntKind.wrap .u64 st.2.1)))), .int .u64 p] (fun v_1 h4 =>
                          ∃ t_1 : Bool, v_1 = .bool t_1 ∧
                          ((t_1 = true →
                              Jv_1 ((IntKind.wrap .u64 (st.1 + (shlV .u64 (1 : Int) (IntKind.wrap .u64 st.2.1)))), ()) h4) ∧
                            (t_1 = false →
                              Jv_1 (st.1, ()) h4))) h3) ∧
                      ((!three) = false →
                        Jv_1 (st.1, ()) h3))) ∧
                  (t = true →
                    Jv_1 ((IntKind.wrap .u64 (st.1 + (shlV .u64 (1 : Int) (IntKind.wrap .u64 st.2.1)))), ()) h3))) h1) ∧
            ((three && (decide ((IntKind.wrap .u64 (st.1 + (shlV .u64 (1 : Int) (IntKind.wrap .u64 st.2.1)))) < (68719476736 : Int)))) = false →
              (((!three) = true →
                  CallH Tryz.prog id_ref02_square [.int .u64 (IntKind.wrap .u64 (st.1 + (shlV .u64 (1 : Int) (IntKind.wrap .u64 st.2.1)))), .int .u64 p] (fun v_2 h5 =>
                    ∃ t_2 : Bool, v_2 = .bool t_2 ∧
                    ((t_2 = true →
                        Jv_1 ((IntKind.wrap .u64 (st.1 + (shlV .u64 (1 : Int) (IntKind.wrap .u64 st.2.1)))), ()) h5) ∧
                      (t_2 = false →
                        Jv_1 (st.1, ()) h5))) h1) ∧
                ((!three) = false →
                  Jv_1 (st.1, ()) h1)))))
        (fun st_1 h2 =>
          Jv (st_1.1, (IntKind.wrap .i64 (st.2.1 - (1 : Int))), ()) h2)) ∧
      ((decide (st.2.1 ≥ (0 : Int))) = false →
        K (.int .u32 (IntKind.wrap .u32 (st.1.tmod (4294967296 : Int)))) h1))) ((0 : Int), (36 : Int), ()) h
theorem F_ref02_behind_eq {p : Int} {three : Bool} {K : Value → PH → Prop} {h : PH} : @Eq Prop (F_ref02_behind p three K h) (denF Tryz.prog Tryz.f162 ⟨[], [], [(0, ⟨[(5, .int .u64), (6, .int .i64)], [], []⟩)], [(10, ⟨[(5, .int .u64)], [], []⟩)]⟩ [.v (.int .u64 p), .v (.bool three)] K h) := by
  kernel_rfl
theorem F_ref02_behind_ok {p : Int} {three : Bool}  {K : Value → PH → Prop} {h : PH} (hh : F_ref02_behind p three K h) : CallH Tryz.prog id_ref02_behind [.int .u64 p, .bool three] K h :=
  denF_sound' Tryz.func162 (H := ⟨[], [], [(0, ⟨[(5, .int .u64), (6, .int .i64)], [], []⟩)], [(10, ⟨[(5, .int .u64)], [], []⟩)]⟩) (xs := [.v (.int .u64 p), .v (.bool three)]) (by kernel_rfl) (⟨rfl, rfl, trivial⟩) (den_of F_ref02_behind_eq hh)

/- twinlock/twinlockref02.turn -/
def F_ref02_turn (hv : List Int) (k : List Int) (bA : Option Addr) (bN _ : Nat) (K : Value → PH → Prop) (h : PH) : Prop :=
  LoopP (T := Int × List Int × Unit) (fun Jv st h1 =>
    (((decide (st.1 < (16 : Int))) = true →
        ∃ bv ov : Nat, (bA = some ⟨bv, ov, none⟩ ∧ 0 ≤ (IntKind.wrap .i64 ((4 : Int) * st.1)) ∧ (IntKind.wrap .i64 ((4 : Int) * st.1)) < (bN : Nat)) ∧
        ∃ t : Int, (h1.rds bv (ov + (IntKind.wrap .i64 ((4 : Int) * st.1)).toNat * 1) 1 = some [.int .u8 t]) ∧
        ∃ bv_1 ov_1 : Nat, (bA = some ⟨bv_1, ov_1, none⟩ ∧ 0 ≤ (IntKind.wrap .i64 ((IntKind.wrap .i64 ((4 : Int) * st.1)) + (1 : Int))) ∧ (IntKind.wrap .i64 ((IntKind.wrap .i64 ((4 : Int) * st.1)) + (1 : Int))) < (bN : Nat)) ∧
        ∃ t_1 : Int, (h1.rds bv_1 (ov_1 + (IntKind.wrap .i64 ((IntKind.wrap .i64 ((4 : Int) * st.1)) + (1 : Int))).toNat * 1) 1 = some [.int .u8 t_1]) ∧
        ∃ bv_2 ov_2 : Nat, (bA = some ⟨bv_2, ov_2, none⟩ ∧ 0 ≤ (IntKind.wrap .i64 ((IntKind.wrap .i64 ((4 : Int) * st.1)) + (2 : Int))) ∧ (IntKind.wrap .i64 ((IntKind.wrap .i64 ((4 : Int) * st.1)) + (2 : Int))) < (bN : Nat)) ∧
        ∃ t_2 : Int, (h1.rds bv_2 (ov_2 + (IntKind.wrap .i64 ((IntKind.wrap .i64 ((4 : Int) * st.1)) + (2 : Int))).toNat * 1) 1 = some [.int .u8 t_2]) ∧
        ∃ bv_3 ov_3 : Nat, (bA = some ⟨bv_3, ov_3, none⟩ ∧ 0 ≤ (IntKind.wrap .i64 ((IntKind.wrap .i64 ((4 : Int) * st.1)) + (3 : Int))) ∧ (IntKind.wrap .i64 ((IntKind.wrap .i64 ((4 : Int) * st.1)) + (3 : Int))) < (bN : Nat)) ∧
        ∃ t_3 : Int, (h1.rds bv_3 (ov_3 + (IntKind.wrap .i64 ((IntKind.wrap .i64 ((4 : Int) * st.1)) + (3 : Int))).toNat * 1) 1 = some [.int .u8 t_3]) ∧
        (0 ≤ st.1 ∧ st.1 < (64 : Nat)) ∧
        (st.1.toNat * 1) < 64 ∧
        Jv ((IntKind.wrap .i64 (st.1 + (1 : Int))), (st.2.1.set (st.1.toNat * 1) (IntKind.wrap .u32 ((IntKind.wrap .u32 ((IntKind.wrap .u32 ((IntKind.wrap .u32 ((IntKind.wrap .u32 t) * (16777216 : Int))) + (IntKind.wrap .u32 ((IntKind.wrap .u32 t_1) * (65536 : Int))))) + (IntKind.wrap .u32 ((IntKind.wrap .u32 t_2) * (256 : Int))))) + (IntKind.wrap .u32 t_3)))), ()) h1) ∧
      ((decide (st.1 < (16 : Int))) = false →
        LoopP (T := Int × List Int × Unit) (fun Jv_1 st_1 h2 =>
          (((decide (st_1.1 < (64 : Int))) = true →
              (0 ≤ (IntKind.wrap .i64 (st_1.1 - (15 : Int))) ∧ (IntKind.wrap .i64 (st_1.1 - (15 : Int))) < (64 : Nat)) ∧
              (((IntKind.wrap .i64 (st_1.1 - (15 : Int))).toNat * 1) < 64) ∧
              (0 ≤ (IntKind.wrap .i64 (st_1.1 - (2 : Int))) ∧ (IntKind.wrap .i64 (st_1.1 - (2 : Int))) < (64 : Nat)) ∧
              (((IntKind.wrap .i64 (st_1.1 - (2 : Int))).toNat * 1) < 64) ∧
              (0 ≤ (IntKind.wrap .i64 (st_1.1 - (16 : Int))) ∧ (IntKind.wrap .i64 (st_1.1 - (16 : Int))) < (64 : Nat)) ∧
              (((IntKind.wrap .i64 (st_1.1 - (16 : Int))).toNat * 1) < 64) ∧
              (0 ≤ (IntKind.wrap .i64 (st_1.1 - (7 : Int))) ∧ (IntKind.wrap .i64 (st_1.1 - (7 : Int))) < (64 : Nat)) ∧
              (((IntKind.wrap .i64 (st_1.1 - (7 : Int))).toNat * 1) < 64) ∧
              CallH Tryz.prog id_ref02_rot [.int .u32 (st_1.2.1.getD ((IntKind.wrap .i64 (st_1.1 - (15 : Int))).toNat * 1) 0), .int .u64 (7 : Int)] (fun v h3 =>
                ∃ t_4 : Int, v = .int .u32 t_4 ∧
                CallH Tryz.prog id_ref02_rot [.int .u32 (st_1.2.1.getD ((IntKind.wrap .i64 (st_1.1 - (15 : Int))).toNat * 1) 0), .int .u64 (18 : Int)] (fun v_1 h4 =>
                  ∃ t_5 : Int, v_1 = .int .u32 t_5 ∧
                  CallH Tryz.prog id_ref02_rot [.int .u32 (st_1.2.1.getD ((IntKind.wrap .i64 (st_1.1 - (2 : Int))).toNat * 1) 0), .int .u64 (17 : Int)] (fun v_2 h5 =>
                    ∃ t_6 : Int, v_2 = .int .u32 t_6 ∧
                    CallH Tryz.prog id_ref02_rot [.int .u32 (st_1.2.1.getD ((IntKind.wrap .i64 (st_1.1 - (2 : Int))).toNat * 1) 0), .int .u64 (19 : Int)] (fun v_3 h6 =>
                      ∃ t_7 : Int, v_3 = .int .u32 t_7 ∧
                      (0 ≤ st_1.1 ∧ st_1.1 < (64 : Nat)) ∧
                      (st_1.1.toNat * 1) < 64 ∧
                      Jv_1 ((IntKind.wrap .i64 (st_1.1 + (1 : Int))), (st_1.2.1.set (st_1.1.toNat * 1) (IntKind.wrap .u32 ((IntKind.wrap .u32 ((IntKind.wrap .u32 ((st_1.2.1.getD ((IntKind.wrap .i64 (st_1.1 - (16 : Int))).toNat * 1) 0) + (bitsV .xor .u32 (bitsV .xor .u32 t_4 t_5) (shrV .u32 (st_1.2.1.getD ((IntKind.wrap .i64 (st_1.1 - (15 : Int))).toNat * 1) 0) (3 : Int))))) + (st_1.2.1.getD ((IntKind.wrap .i64 (st_1.1 - (7 : Int))).toNat * 1) 0))) + (bitsV .xor .u32 (bitsV .xor .u32 t_6 t_7) (shrV .u32 (st_1.2.1.getD ((IntKind.wrap .i64 (st_1.1 - (2 : Int))).toNat * 1) 0) (10 : Int)))))), ()) h6) h5) h4) h3) h2) ∧
            ((decide (st_1.1 < (64 : Int))) = false →
              LoopP (T := Int × List Int × Unit) (fun Jv_2 st_2 h7 =>
                (((decide (st_2.1 < (64 : Int))) = true →
                    (0 ≤ st_2.1 ∧ st_2.1 < (64 : Nat)) ∧
                    ((st_2.1.toNat * 1) < 64) ∧
                    (0 ≤ st_2.1 ∧ st_2.1 < (64 : Nat)) ∧
                    ((st_2.1.toNat * 1) < 64) ∧
                    CallH Tryz.prog id_ref02_rot [.int .u32 (((st_2.2.1.drop 4).take 1).getD 0 0), .int .u64 (6 : Int)] (fun v_4 h8 =>
                      ∃ t_8 : Int, v_4 = .int .u32 t_8 ∧
                      CallH Tryz.prog id_ref02_rot [.int .u32 (((st_2.2.1.drop 4).take 1).getD 0 0), .int .u64 (11 : Int)] (fun v_5 h9 =>
                        ∃ t_9 : Int, v_5 = .int .u32 t_9 ∧
                        CallH Tryz.prog id_ref02_rot [.int .u32 (((st_2.2.1.drop 4).take 1).getD 0 0), .int .u64 (25 : Int)] (fun v_6 h10 =>
                          ∃ t_10 : Int, v_6 = .int .u32 t_10 ∧
                          CallH Tryz.prog id_ref02_rot [.int .u32 ((st_2.2.1.take 1).getD 0 0), .int .u64 (2 : Int)] (fun v_7 h11 =>
                            ∃ t_11 : Int, v_7 = .int .u32 t_11 ∧
                            CallH Tryz.prog id_ref02_rot [.int .u32 ((st_2.2.1.take 1).getD 0 0), .int .u64 (13 : Int)] (fun v_8 h12 =>
                              ∃ t_12 : Int, v_8 = .int .u32 t_12 ∧
                              CallH Tryz.prog id_ref02_rot [.int .u32 ((st_2.2.1.take 1).getD 0 0), .int .u64 (22 : Int)] (fun v_9 h13 =>
                                ∃ t_13 : Int, v_9 = .int .u32 t_13 ∧
                                Jv_2 ((IntKind.wrap .i64 (st_2.1 + (1 : Int))), [(IntKind.wrap .u32 ((IntKind.wrap .u32 ((IntKind.wrap .u32 ((IntKind.wrap .u32 ((IntKind.wrap .u32 (((st_2.2.1.drop 7).getD 0 0) + (bitsV .xor .u32 (bitsV .xor .u32 t_8 t_9) t_10))) + (bitsV .xor .u32 (bitsV .and .u32 (((st_2.2.1.drop 4).take 1).getD 0 0) (((st_2.2.1.drop 5).take 1).getD 0 0)) (bitsV .and .u32 (bitsV .xor .u32 (4294967295 : Int) (((st_2.2.1.drop 4).take 1).getD 0 0)) (((st_2.2.1.drop 6).take 1).getD 0 0))))) + (k.getD (st_2.1.toNat * 1) 0))) + (st_1.2.1.getD (st_2.1.toNat * 1) 0))) + (IntKind.wrap .u32 ((bitsV .xor .u32 (bitsV .xor .u32 t_11 t_12) t_13) + (bitsV .xor .u32 (bitsV .xor .u32 (bitsV .and .u32 ((st_2.2.1.take 1).getD 0 0) (((st_2.2.1.drop 1).take 1).getD 0 0)) (bitsV .and .u32 ((st_2.2.1.take 1).getD 0 0) (((st_2.2.1.drop 2).take 1).getD 0 0))) (bitsV .and .u32 (((st_2.2.1.drop 1).take 1).getD 0 0) (((st_2.2.1.drop 2).take 1).getD 0 0))))))), ((st_2.2.1.take 1).getD 0 0), (((st_2.2.1.drop 1).take 1).getD 0 0), (((st_2.2.1.drop 2).take 1).getD 0 0), (IntKind.wrap .u32 ((((st_2.2.1.drop 3).take 1).getD 0 0) + (IntKind.wrap .u32 ((IntKind.wrap .u32 ((IntKind.wrap .u32 ((IntKind.wrap .u32 (((st_2.2.1.drop 7).getD 0 0) + (bitsV .xor .u32 (bitsV .xor .u32 t_8 t_9) t_10))) + (bitsV .xor .u32 (bitsV .and .u32 (((st_2.2.1.drop 4).take 1).getD 0 0) (((st_2.2.1.drop 5).take 1).getD 0 0)) (bitsV .and .u32 (bitsV .xor .u32 (4294967295 : Int) (((st_2.2.1.drop 4).take 1).getD 0 0)) (((st_2.2.1.drop 6).take 1).getD 0 0))))) + (k.getD (st_2.1.toNat * 1) 0))) + (st_1.2.1.getD (st_2.1.toNat * 1) 0))))), (((st_2.2.1.drop 4).take 1).getD 0 0), (((st_2.2.1.drop 5).take 1).getD 0 0), (((st_2.2.1.drop 6).take 1).getD 0 0)], ()) h13) h12) h11) h10) h9) h8) h7) ∧
                  ((decide (st_2.1 < (64 : Int))) = false →
                    LoopP (T := Int × List Int × Unit) (fun Jv_3 st_3 h14 =>
                      (((decide (st_3.1 < (8 : Int))) = true →
                          (0 ≤ st_3.1 ∧ st_3.1 < (8 : Nat)) ∧
                          ((st_3.1.toNat * 1) < 8) ∧
                          (0 ≤ st_3.1 ∧ st_3.1 < (8 : Nat)) ∧
                          ((st_3.1.toNat * 1) < 8) ∧
                          (0 ≤ st_3.1 ∧ st_3.1 < (8 : Nat)) ∧
                          (st_3.1.toNat * 1) < 8 ∧
                          Jv_3 ((IntKind.wrap .i64 (st_3.1 + (1 : Int))), (st_3.2.1.set (st_3.1.toNat * 1) (IntKind.wrap .u32 ((st_3.2.1.getD (st_3.1.toNat * 1) 0) + (hv.getD (st_3.1.toNat * 1) 0)))), ()) h14) ∧
                        ((decide (st_3.1 < (8 : Int))) = false →
                          K (.agg ((st_3.2.1.map (Value.int .u32) ++ [])).toArray) h14))) ((0 : Int), st_2.2.1, ()) h7))) ((0 : Int), hv, ()) h2))) ((16 : Int), st.2.1, ()) h1))) ((0 : Int), (List.replicate 64 0), ()) h
theorem F_ref02_turn_eq {hv : List Int} {k : List Int} {bA : Option Addr} {bN bC : Nat} {K : Value → PH → Prop} {h : PH} : @Eq Prop (F_ref02_turn hv k bA bN bC K h) (denF Tryz.prog Tryz.f163 ⟨[3, 4, 6, 7, 12], [(11, .of [0, 1, 2, 3, 4, 5, 7, 10, 11, 14, 15, 16, 17, 19, 21, 24, 25, 6, 8, 9, 12, 13, 18, 20, 22, 23, 26, 27, 28, 29]), (17, .of [0, 1, 2, 4, 7, 11, 12, 13, 14, 15, 16, 17, 18, 20, 21, 22, 24, 25, 26, 3, 5, 6, 8, 9, 10, 19, 23, 27, 28])], [(0, ⟨[(8, .int .i64)], [], [(3, [.ints .u32 64])]⟩), (2, ⟨[(9, .int .i64)], [], [(3, [.ints .u32 64])]⟩), (4, ⟨[(13, .int .i64)], [], [(4, [.ints .u32 8])]⟩), (6, ⟨[(22, .int .i64)], [], [(4, [.ints .u32 8])]⟩)], []⟩ [.agg [.ints .u32 8 hv], .agg [.ints .u32 64 k], .v (.slice bA bN bC)] K h) := by
  kernel_rfl
theorem F_ref02_turn_ok {hv : List Int} {k : List Int} {bA : Option Addr} {bN bC : Nat} (hk0 : hv.length = 8) (hk1 : k.length = 64) {K : Value → PH → Prop} {h : PH} (hh : F_ref02_turn hv k bA bN bC K h) : CallH Tryz.prog id_ref02_turn [.agg ((hv.map (Value.int .u32) ++ [])).toArray, .agg ((k.map (Value.int .u32) ++ [])).toArray, .slice bA bN bC] K h :=
  denF_sound' Tryz.func163 (H := ⟨[3, 4, 6, 7, 12], [(11, .of [0, 1, 2, 3, 4, 5, 7, 10, 11, 14, 15, 16, 17, 19, 21, 24, 25, 6, 8, 9, 12, 13, 18, 20, 22, 23, 26, 27, 28, 29]), (17, .of [0, 1, 2, 4, 7, 11, 12, 13, 14, 15, 16, 17, 18, 20, 21, 22, 24, 25, 26, 3, 5, 6, 8, 9, 10, 19, 23, 27, 28])], [(0, ⟨[(8, .int .i64)], [], [(3, [.ints .u32 64])]⟩), (2, ⟨[(9, .int .i64)], [], [(3, [.ints .u32 64])]⟩), (4, ⟨[(13, .int .i64)], [], [(4, [.ints .u32 8])]⟩), (6, ⟨[(22, .int .i64)], [], [(4, [.ints .u32 8])]⟩)], []⟩) (xs := [.agg [.ints .u32 8 hv], .agg [.ints .u32 64 k], .v (.slice bA bN bC)]) (by kernel_rfl) (⟨⟨hk0, trivial⟩, ⟨hk1, trivial⟩, rfl, trivial⟩) (den_of F_ref02_turn_eq hh)

/- twinlock/sha.New -/
def F_sha_New  (K : Value → PH → Prop) (h : PH) : Prop :=
  CallH Tryz.prog id_sha_begin [] (fun v h1 =>
    ∃ t : List Int, t.length = 8 ∧ v = .agg ((t.map (Value.int .u32) ++ [])).toArray ∧
    CallH Tryz.prog id_sha_numbers [] (fun v_1 h2 =>
      ∃ t_1 : List Int, t_1.length = 64 ∧ v_1 = .agg ((t_1.map (Value.int .u32) ++ [])).toArray ∧
      newH h2 (.cells ((t.map (Value.int .u32) ++ (t_1.map (Value.int .u32) ++ ([.slice none 0 0, .int .i64 (0 : Int), .bool true] : List Value)))).toArray T_sha_Sha (0, 0)) fun bv h3 =>
      K (.pointer (some ⟨bv, 0, none⟩)) h3) h1) h
theorem F_sha_New_eq  {K : Value → PH → Prop} {h : PH} : @Eq Prop (F_sha_New  K h) (denF Tryz.prog Tryz.f165 ⟨[], [], [], []⟩ [] K h) := by
  kernel_rfl
theorem F_sha_New_ok   {K : Value → PH → Prop} {h : PH} (hh : F_sha_New  K h) : CallH Tryz.prog id_sha_New [] K h :=
  denF_sound' Tryz.func165 (H := ⟨[], [], [], []⟩) (xs := []) (by kernel_rfl) (trivial) (den_of F_sha_New_eq hh)

/- (*twinlock/sha.Sha).Write -/
def F_sha_Sha_Write (xv : Option Addr) (sv : ByteArray) (K : Value → PH → Prop) (h : PH) : Prop :=
  CallH Tryz.prog id_sha_Sha_none [.pointer xv] (fun v h1 =>
    ∃ t : Bool, v = .bool t ∧
    ((t = true →
        K (.int .i64 (0 : Int)) h1) ∧
      (t = false →
        ∃ bv ov : Nat, xv = some ⟨bv, ov, none⟩ ∧
        ∃ t_1 : Int, (h1.rds bv (ov + 73) 1 = some [.int .i64 t_1]) ∧
        ∃ bv_1 ov_1 : Nat, xv = some ⟨bv_1, ov_1, none⟩ ∧
        stH h1 bv_1 (ov_1 + 73) [.int .i64 (IntKind.wrap .i64 (t_1 + (sv.size : Int)))] fun h2 =>
        ∃ bv_2 ov_2 : Nat, xv = some ⟨bv_2, ov_2, none⟩ ∧
        ∃ (tA : Option Addr) (tN tC : Nat), (h2.rds bv_2 (ov_2 + 72) 1 = some [.slice tA tN tC]) ∧
        appH 5 1 1 [.int .u8 (0 : Int)] tA tN tC (ByteArray.size sv) (byteVs sv) (fun tA_1 tN_1 tC_1 h3 =>
          ∃ bv_3 ov_3 : Nat, xv = some ⟨bv_3, ov_3, none⟩ ∧
          stH h3 bv_3 (ov_3 + 72) [.slice tA_1 tN_1 tC_1] fun h4 =>
          LoopP (T := Unit) (fun Jv _ h5 =>
            ∃ bv_4 ov_4 : Nat, xv = some ⟨bv_4, ov_4, none⟩ ∧
            ∃ (tA_2 : Option Addr) (tN_2 tC_2 : Nat), (h5.rds bv_4 (ov_4 + 72) 1 = some [.slice tA_2 tN_2 tC_2]) ∧
            (((decide (((tN_2 : Nat) : Int) ≥ (64 : Int))) = true →
                ∃ bv_5 ov_5 : Nat, xv = some ⟨bv_5, ov_5, none⟩ ∧
                ∃ t_2 : List Int, t_2.length = 8 ∧ (h5.rds bv_5 ov_5 8 = some (t_2.map (Value.int .u32) ++ [])) ∧
                ∃ bv_6 ov_6 : Nat, xv = some ⟨bv_6, ov_6, none⟩ ∧
                ∃ t_3 : List Int, t_3.length = 8 ∧ (h5.rds bv_6 ov_6 8 = some (t_3.map (Value.int .u32) ++ [])) ∧
                ∃ bv_7 ov_7 : Nat, xv = some ⟨bv_7, ov_7, none⟩ ∧
                ∃ bv_8 ov_8 : Nat, xv = some ⟨bv_8, ov_8, none⟩ ∧
                ∃ (tA_3 : Option Addr) (tN_3 tC_3 : Nat), (h5.rds bv_8 (ov_8 + 72) 1 = some [.slice tA_3 tN_3 tC_3]) ∧
                (0 ≤ (0 : Int) ∧ (0 : Int) ≤ (64 : Int) ∧ (64 : Int) ≤ ((tC_3 : Nat) : Int) ∧ ((tC_3 : Nat) : Int) ≤ (tC_3 : Nat)) ∧
                CallH Tryz.prog id_sha_turn [.agg ((t_2.map (Value.int .u32) ++ [])).toArray, .agg ((t_3.map (Value.int .u32) ++ [])).toArray, .pointer (some ⟨bv_7, (ov_7 + 8), none⟩), .slice (slA tA_3 1 (0 : Int) ((tC_3 : Nat) : Int)) ((64 : Int).toNat - (0 : Int).toNat) (((tC_3 : Nat) : Int).toNat - (0 : Int).toNat)] (fun v_1 h6 =>
                  ∃ t_4 : List Int, t_4.length = 8 ∧ v_1 = .agg ((t_4.map (Value.int .u32) ++ [])).toArray ∧
                  ∃ bv_9 ov_9 : Nat, xv = some ⟨bv_9, ov_9, none⟩ ∧
                  stH h6 bv_9 ov_9 (t_4.map (Value.int .u32) ++ []) fun h7 =>
                  ∃ bv_10 ov_10 : Nat, xv = some ⟨bv_10, ov_10, none⟩ ∧
                  ∃ (tA_4 : Option Addr) (tN_4 tC_4 : Nat), (h7.rds bv_10 (ov_10 + 72) 1 = some [.slice tA_4 tN_4 tC_4]) ∧
                  (0 ≤ (64 : Int) ∧ (64 : Int) ≤ ((tN_4 : Nat) : Int) ∧ ((tN_4 : Nat) : Int) ≤ ((tC_4 : Nat) : Int) ∧ ((tC_4 : Nat) : Int) ≤ (tC_4 : Nat)) ∧
                  ∃ bv_11 ov_11 : Nat, xv = some ⟨bv_11, ov_11, none⟩ ∧
                  stH h7 bv_11 (ov_11 + 72) [.slice (slA tA_4 1 (64 : Int) ((tC_4 : Nat) : Int)) (((tN_4 : Nat) : Int).toNat - (64 : Int).toNat) (((tC_4 : Nat) : Int).toNat - (64 : Int).toNat)] fun h8 =>
                  Jv (()) h8) h5) ∧
              ((decide (((tN_2 : Nat) : Int) ≥ (64 : Int))) = false →
                K (.int .i64 (sv.size : Int)) h5))) (()) h4) h2))) h
theorem F_sha_Sha_Write_eq {xv : Option Addr} {sv : ByteArray} {K : Value → PH → Prop} {h : PH} : @Eq Prop (F_sha_Sha_Write xv sv K h) (denF Tryz.prog Tryz.f166 ⟨[], [], [(0, ⟨[], [], []⟩)], []⟩ [.v (.pointer xv), .v (.string sv)] K h) := by
  kernel_rfl
theorem F_sha_Sha_Write_ok {xv : Option Addr} {sv : ByteArray}  {K : Value → PH → Prop} {h : PH} (hh : F_sha_Sha_Write xv sv K h) : CallH Tryz.prog id_sha_Sha_Write [.pointer xv, .string sv] K h :=
  denF_sound' Tryz.func166 (H := ⟨[], [], [(0, ⟨[], [], []⟩)], []⟩) (xs := [.v (.pointer xv), .v (.string sv)]) (by kernel_rfl) (⟨rfl, rfl, trivial⟩) (den_of F_sha_Sha_Write_eq hh)

/- (*twinlock/sha.Sha).Sum -/
def F_sha_Sha_Sum (xv : Option Addr) (K : Value → PH → Prop) (h : PH) : Prop :=
  newH h (.cells (((List.replicate 32 0).map (Value.int .u8) ++ [])).toArray T_api_Hash (0, 0)) fun bv h1 =>
  CallH Tryz.prog id_sha_Sha_none [.pointer xv] (fun v h2 =>
    ∃ t : Bool, v = .bool t ∧
    ((t = true →
        CallH Tryz.prog id_sha_Sum [.string (⟨#[]⟩ : ByteArray)] (fun v_1 h3 =>
          ∃ out : List Int, out.length = 32 ∧ v_1 = .agg ((out.map (Value.int .u8) ++ [])).toArray ∧
          stH h3 bv 0 (out.map (Value.int .u8) ++ []) fun h4 =>
          ∃ r : List Int, r.length = 32 ∧ (h4.rds bv 0 32 = some (r.map (Value.int .u8) ++ [])) ∧
          K (.agg ((r.map (Value.int .u8) ++ [])).toArray) h4) h2) ∧
      (t = false →
        newH h2 (.cells #[] 5 (0, 0)) fun bv_1 h5 =>
        ∃ bv_2 ov : Nat, xv = some ⟨bv_2, ov, none⟩ ∧
        ∃ (tA : Option Addr) (tN tC : Nat), (h5.rds bv_2 (ov + 72) 1 = some [.slice tA tN tC]) ∧
        ∃ vs : List Value, srcH h5 tA (tN * 1) vs ∧
        appH 5 1 1 [.int .u8 (0 : Int)] (some ⟨bv_1, 0, none⟩) 0 0 tN vs (fun tA_1 tN_1 tC_1 h6 =>
          appH 5 1 1 [.int .u8 (0 : Int)] tA_1 tN_1 tC_1 1 [.int .u8 (128 : Int)] (fun bA bN bC h7 =>
            LoopP (T := (Option Addr × Nat × Nat) × Unit) (fun Jv st h8 =>
              ((((((st.1.2.1 : Nat) : Int).tmod (64 : Int)) != (56 : Int)) = true →
                  appH 5 1 1 [.int .u8 (0 : Int)] st.1.1 st.1.2.1 st.1.2.2 1 [.int .u8 (0 : Int)] (fun bA_1 bN_1 bC_1 h9 =>
                    Jv ((bA_1, bN_1, bC_1), ()) h9) h8) ∧
                (((((st.1.2.1 : Nat) : Int).tmod (64 : Int)) != (56 : Int)) = false →
                  ∃ bv_3 ov_1 : Nat, xv = some ⟨bv_3, ov_1, none⟩ ∧
                  ∃ t_1 : Int, (h8.rds bv_3 (ov_1 + 73) 1 = some [.int .i64 t_1]) ∧
                  CallH Tryz.prog id_sha_putBig [.slice st.1.1 st.1.2.1 st.1.2.2, .int .u64 (IntKind.wrap .u64 ((IntKind.wrap .u64 t_1) * (8 : Int))), .int .i64 (8 : Int)] (fun v_2 h10 =>
                    ∃ (bA_2 : Option Addr) (bN_2 bC_2 : Nat), v_2 = .slice bA_2 bN_2 bC_2 ∧
                    ∃ bv_4 ov_2 : Nat, xv = some ⟨bv_4, ov_2, none⟩ ∧
                    ∃ hv : List Int, hv.length = 8 ∧ (h10.rds bv_4 ov_2 8 = some (hv.map (Value.int .u32) ++ [])) ∧
                    LoopP (T := (Option Addr × Nat × Nat) × List Int × Unit) (fun Jv_1 st_1 h11 =>
                      (((decide (((st_1.1.2.1 : Nat) : Int) > (0 : Int))) = true →
                          ∃ bv_5 ov_3 : Nat, xv = some ⟨bv_5, ov_3, none⟩ ∧
                          (0 ≤ (0 : Int) ∧ (0 : Int) ≤ (64 : Int) ∧ (64 : Int) ≤ ((st_1.1.2.2 : Nat) : Int) ∧ ((st_1.1.2.2 : Nat) : Int) ≤ (st_1.1.2.2 : Nat)) ∧
                          CallH Tryz.prog id_sha_turn [.agg ((st_1.2.1.map (Value.int .u32) ++ [])).toArray, .agg ((st_1.2.1.map (Value.int .u32) ++ [])).toArray, .pointer (some ⟨bv_5, (ov_3 + 8), none⟩), .slice (slA st_1.1.1 1 (0 : Int) ((st_1.1.2.2 : Nat) : Int)) ((64 : Int).toNat - (0 : Int).toNat) (((st_1.1.2.2 : Nat) : Int).toNat - (0 : Int).toNat)] (fun v_3 h12 =>
                            ∃ hv_1 : List Int, hv_1.length = 8 ∧ v_3 = .agg ((hv_1.map (Value.int .u32) ++ [])).toArray ∧
                            (0 ≤ (64 : Int) ∧ (64 : Int) ≤ ((st_1.1.2.1 : Nat) : Int) ∧ ((st_1.1.2.1 : Nat) : Int) ≤ ((st_1.1.2.2 : Nat) : Int) ∧ ((st_1.1.2.2 : Nat) : Int) ≤ (st_1.1.2.2 : Nat)) ∧
                            Jv_1 (((slA st_1.1.1 1 (64 : Int) ((st_1.1.2.2 : Nat) : Int)), (((st_1.1.2.1 : Nat) : Int).toNat - (64 : Int).toNat), (((st_1.1.2.2 : Nat) : Int).toNat - (64 : Int).toNat)), hv_1, ()) h12) h11) ∧
                        ((decide (((st_1.1.2.1 : Nat) : Int) > (0 : Int))) = false →
                          LoopP (T := Int × Unit) (fun Jv_2 st_2 h13 =>
                            (((decide (st_2.1 < (8 : Int))) = true →
                                (0 ≤ st_2.1 ∧ st_2.1 < (8 : Nat) ∧ st_2.1 < (8 : Nat)) ∧
                                (0 ≤ (IntKind.wrap .i64 ((4 : Int) * st_2.1)) ∧ (IntKind.wrap .i64 ((4 : Int) * st_2.1)) ≤ ((32 : Nat) : Int) ∧ ((32 : Nat) : Int) ≤ ((32 : Nat) : Int) ∧ ((32 : Nat) : Int) ≤ (32 : Nat)) ∧
                                CallH Tryz.prog id_sha_putBig [.slice none 0 0, .int .u64 (IntKind.wrap .u64 (st_1.2.1.getD st_2.1.toNat 0)), .int .i64 (4 : Int)] (fun v_4 h14 =>
                                  ∃ (tA_2 : Option Addr) (tN_2 tC_2 : Nat), v_4 = .slice tA_2 tN_2 tC_2 ∧
                                  ∃ vs_1 : List Value, srcH h14 tA_2 (min tN_2 (((32 : Nat) : Int).toNat - (IntKind.wrap .i64 ((4 : Int) * st_2.1)).toNat) * 1) vs_1 ∧
                                  ((vs_1.length = 0 →
                                      Jv_2 ((IntKind.wrap .i64 (st_2.1 + (1 : Int))), ()) h14) ∧
                                    (vs_1.length ≠ 0 → ∃ bv_6 ov_4 : Nat, (slA (some ⟨bv, 0, none⟩ : Option Addr) 1 (IntKind.wrap .i64 ((4 : Int) * st_2.1)) ((32 : Nat) : Int)) = some ⟨bv_6, ov_4, none⟩ ∧ stH h14 bv_6 ov_4 vs_1 fun h15 =>
                                      Jv_2 ((IntKind.wrap .i64 (st_2.1 + (1 : Int))), ()) h15))) h13) ∧
                              ((decide (st_2.1 < (8 : Int))) = false →
                                ∃ out_1 : List Int, out_1.length = 32 ∧ (h13.rds bv 0 32 = some (out_1.map (Value.int .u8) ++ [])) ∧
                                stH h13 bv 0 (out_1.map (Value.int .u8) ++ []) fun h16 =>
                                ∃ r_1 : List Int, r_1.length = 32 ∧ (h16.rds bv 0 32 = some (r_1.map (Value.int .u8) ++ [])) ∧
                                K (.agg ((r_1.map (Value.int .u8) ++ [])).toArray) h16))) ((0 : Int), ()) h11))) ((bA_2, bN_2, bC_2), hv, ()) h10) h8))) ((bA, bN, bC), ()) h7) h6) h5))) h1
theorem F_sha_Sha_Sum_eq {xv : Option Addr} {K : Value → PH → Prop} {h : PH} : @Eq Prop (F_sha_Sha_Sum xv K h) (denF Tryz.prog Tryz.f167 ⟨[4, 16, 23], [], [(0, ⟨[(3, .slice)], [], []⟩), (2, ⟨[(3, .slice)], [], [(1, [.ints .u32 8])]⟩), (4, ⟨[(51, .int .i64)], [], []⟩)], []⟩ [.v (.pointer xv)] K h) := by
  kernel_rfl
theorem F_sha_Sha_Sum_ok {xv : Option Addr}  {K : Value → PH → Prop} {h : PH} (hh : F_sha_Sha_Sum xv K h) : CallH Tryz.prog id_sha_Sha_Sum [.pointer xv] K h :=
  denF_sound' Tryz.func167 (H := ⟨[4, 16, 23], [], [(0, ⟨[(3, .slice)], [], []⟩), (2, ⟨[(3, .slice)], [], [(1, [.ints .u32 8])]⟩), (4, ⟨[(51, .int .i64)], [], []⟩)], []⟩) (xs := [.v (.pointer xv)]) (by kernel_rfl) (⟨rfl, trivial⟩) (den_of F_sha_Sha_Sum_eq hh)

/- math/bits.Len64 -/
def F_math_bits_Len64 (xv : Int) (K : Value → PH → Prop) (h : PH) : Prop :=
  JoinP (T := Int × Int × Unit) (fun Jv =>
    (((decide (xv ≥ (4294967296 : Int))) = true →
        Jv ((shrV .u64 xv (32 : Int)), (32 : Int), ()) h) ∧
      ((decide (xv ≥ (4294967296 : Int))) = false →
        Jv (xv, (0 : Int), ()) h)))
  (fun st h1 =>
    JoinP (T := Int × Int × Unit) (fun Jv_1 =>
      (((decide (st.1 ≥ (65536 : Int))) = true →
          Jv_1 ((shrV .u64 st.1 (16 : Int)), (IntKind.wrap .i64 (st.2.1 + (16 : Int))), ()) h1) ∧
        ((decide (st.1 ≥ (65536 : Int))) = false →
          Jv_1 (st.1, st.2.1, ()) h1)))
    (fun st_1 h2 =>
      (((decide (st_1.1 ≥ (256 : Int))) = true →
          (0 ≤ (IntKind.wrap .u8 (shrV .u64 st_1.1 (8 : Int))) ∧ (IntKind.wrap .u8 (shrV .u64 st_1.1 (8 : Int))) < (ByteArray.size (⟨#[0, 1, 2, 2, 3, 3, 3, 3, 4, 4, 4, 4, 4, 4, 4, 4, 5, 5, 5, 5, 5, 5, 5, 5, 5, 5, 5, 5, 5, 5, 5, 5, 6, 6, 6, 6, 6, 6, 6, 6, 6, 6, 6, 6, 6, 6, 6, 6, 6, 6, 6, 6, 6, 6, 6, 6, 6, 6, 6, 6, 6, 6, 6, 6, 7, 7, 7, 7, 7, 7, 7, 7, 7, 7, 7, 7, 7, 7, 7, 7, 7, 7, 7, 7, 7, 7, 7, 7, 7, 7, 7, 7, 7, 7, 7, 7, 7, 7, 7, 7, 7, 7, 7, 7, 7, 7, 7, 7, 7, 7, 7, 7, 7, 7, 7, 7, 7, 7, 7, 7, 7, 7, 7, 7, 7, 7, 7, 7, 8, 8, 8, 8, 8, 8, 8, 8, 8, 8, 8, 8, 8, 8, 8, 8, 8, 8, 8, 8, 8, 8, 8, 8, 8, 8, 8, 8, 8, 8, 8, 8, 8, 8, 8, 8, 8, 8, 8, 8, 8, 8, 8, 8, 8, 8, 8, 8, 8, 8, 8, 8, 8, 8, 8, 8, 8, 8, 8, 8, 8, 8, 8, 8, 8, 8, 8, 8, 8, 8, 8, 8, 8, 8, 8, 8, 8, 8, 8, 8, 8, 8, 8, 8, 8, 8, 8, 8, 8, 8, 8, 8, 8, 8, 8, 8, 8, 8, 8, 8, 8, 8, 8, 8, 8, 8, 8, 8, 8, 8, 8, 8, 8, 8, 8, 8, 8, 8, 8, 8, 8, 8, 8, 8, 8, 8, 8, 8]⟩ : ByteArray) : Nat)) ∧
          K (.int .i64 (IntKind.wrap .i64 ((IntKind.wrap .i64 (st_1.2.1 + (8 : Int))) + (IntKind.wrap .i64 (byteAt (⟨#[0, 1, 2, 2, 3, 3, 3, 3, 4, 4, 4, 4, 4, 4, 4, 4, 5, 5, 5, 5, 5, 5, 5, 5, 5, 5, 5, 5, 5, 5, 5, 5, 6, 6, 6, 6, 6, 6, 6, 6, 6, 6, 6, 6, 6, 6, 6, 6, 6, 6, 6, 6, 6, 6, 6, 6, 6, 6, 6, 6, 6, 6, 6, 6, 7, 7, 7, 7, 7, 7, 7, 7, 7, 7, 7, 7, 7, 7, 7, 7, 7, 7, 7, 7, 7, 7, 7, 7, 7, 7, 7, 7, 7, 7, 7, 7, 7, 7, 7, 7, 7, 7, 7, 7, 7, 7, 7, 7, 7, 7, 7, 7, 7, 7, 7, 7, 7, 7, 7, 7, 7, 7, 7, 7, 7, 7, 7, 7, 8, 8, 8, 8, 8, 8, 8, 8, 8, 8, 8, 8, 8, 8, 8, 8, 8, 8, 8, 8, 8, 8, 8, 8, 8, 8, 8, 8, 8, 8, 8, 8, 8, 8, 8, 8, 8, 8, 8, 8, 8, 8, 8, 8, 8, 8, 8, 8, 8, 8, 8, 8, 8, 8, 8, 8, 8, 8, 8, 8, 8, 8, 8, 8, 8, 8, 8, 8, 8, 8, 8, 8, 8, 8, 8, 8, 8, 8, 8, 8, 8, 8, 8, 8, 8, 8, 8, 8, 8, 8, 8, 8, 8, 8, 8, 8, 8, 8, 8, 8, 8, 8, 8, 8, 8, 8, 8, 8, 8, 8, 8, 8, 8, 8, 8, 8, 8, 8, 8, 8, 8, 8, 8, 8, 8, 8, 8, 8]⟩ : ByteArray) (IntKind.wrap .u8 (shrV .u64 st_1.1 (8 : Int)))))))) h2) ∧
        ((decide (st_1.1 ≥ (256 : Int))) = false →
          (0 ≤ (IntKind.wrap .u8 st_1.1) ∧ (IntKind.wrap .u8 st_1.1) < (ByteArray.size (⟨#[0, 1, 2, 2, 3, 3, 3, 3, 4, 4, 4, 4, 4, 4, 4, 4, 5, 5, 5, 5, 5, 5, 5, 5, 5, 5, 5, 5, 5, 5, 5, 5, 6, 6, 6, 6, 6, 6, 6, 6, 6, 6, 6, 6, 6, 6, 6, 6, 6, 6, 6, 6, 6, 6, 6, 6, 6, 6, 6, 6, 6, 6, 6, 6, 7, 7, 7, 7, 7, 7, 7, 7, 7, 7, 7, 7, 7, 7, 7, 7, 7, 7, 7, 7, 7, 7, 7, 7, 7, 7, 7, 7, 7, 7, 7, 7, 7, 7, 7, 7, 7, 7, 7, 7, 7, 7, 7, 7, 7, 7, 7, 7, 7, 7, 7, 7, 7, 7, 7, 7, 7, 7, 7, 7, 7, 7, 7, 7, 8, 8, 8, 8, 8, 8, 8, 8, 8, 8, 8, 8, 8, 8, 8, 8, 8, 8, 8, 8, 8, 8, 8, 8, 8, 8, 8, 8, 8, 8, 8, 8, 8, 8, 8, 8, 8, 8, 8, 8, 8, 8, 8, 8, 8, 8, 8, 8, 8, 8, 8, 8, 8, 8, 8, 8, 8, 8, 8, 8, 8, 8, 8, 8, 8, 8, 8, 8, 8, 8, 8, 8, 8, 8, 8, 8, 8, 8, 8, 8, 8, 8, 8, 8, 8, 8, 8, 8, 8, 8, 8, 8, 8, 8, 8, 8, 8, 8, 8, 8, 8, 8, 8, 8, 8, 8, 8, 8, 8, 8, 8, 8, 8, 8, 8, 8, 8, 8, 8, 8, 8, 8, 8, 8, 8, 8, 8, 8]⟩ : ByteArray) : Nat)) ∧
          K (.int .i64 (IntKind.wrap .i64 (st_1.2.1 + (IntKind.wrap .i64 (byteAt (⟨#[0, 1, 2, 2, 3, 3, 3, 3, 4, 4, 4, 4, 4, 4, 4, 4, 5, 5, 5, 5, 5, 5, 5, 5, 5, 5, 5, 5, 5, 5, 5, 5, 6, 6, 6, 6, 6, 6, 6, 6, 6, 6, 6, 6, 6, 6, 6, 6, 6, 6, 6, 6, 6, 6, 6, 6, 6, 6, 6, 6, 6, 6, 6, 6, 7, 7, 7, 7, 7, 7, 7, 7, 7, 7, 7, 7, 7, 7, 7, 7, 7, 7, 7, 7, 7, 7, 7, 7, 7, 7, 7, 7, 7, 7, 7, 7, 7, 7, 7, 7, 7, 7, 7, 7, 7, 7, 7, 7, 7, 7, 7, 7, 7, 7, 7, 7, 7, 7, 7, 7, 7, 7, 7, 7, 7, 7, 7, 7, 8, 8, 8, 8, 8, 8, 8, 8, 8, 8, 8, 8, 8, 8, 8, 8, 8, 8, 8, 8, 8, 8, 8, 8, 8, 8, 8, 8, 8, 8, 8, 8, 8, 8, 8, 8, 8, 8, 8, 8, 8, 8, 8, 8, 8, 8, 8, 8, 8, 8, 8, 8, 8, 8, 8, 8, 8, 8, 8, 8, 8, 8, 8, 8, 8, 8, 8, 8, 8, 8, 8, 8, 8, 8, 8, 8, 8, 8, 8, 8, 8, 8, 8, 8, 8, 8, 8, 8, 8, 8, 8, 8, 8, 8, 8, 8, 8, 8, 8, 8, 8, 8, 8, 8, 8, 8, 8, 8, 8, 8, 8, 8, 8, 8, 8, 8, 8, 8, 8, 8, 8, 8, 8, 8, 8, 8, 8, 8]⟩ : ByteArray) (IntKind.wrap .u8 st_1.1)))))) h2))))
theorem F_math_bits_Len64_eq {xv : Int} {K : Value → PH → Prop} {h : PH} : @Eq Prop (F_math_bits_Len64 xv K h) (denF Tryz.prog Tryz.f187 ⟨[], [], [], [(10, ⟨[(0, .int .u64), (2, .int .i64)], [], []⟩), (16, ⟨[(0, .int .u64), (2, .int .i64)], [], []⟩)]⟩ [.v (.int .u64 xv)] K h) := by
  kernel_rfl
theorem F_math_bits_Len64_ok {xv : Int}  {K : Value → PH → Prop} {h : PH} (hh : F_math_bits_Len64 xv K h) : CallH Tryz.prog id_math_bits_Len64 [.int .u64 xv] K h :=
  denF_sound' Tryz.func187 (H := ⟨[], [], [], [(10, ⟨[(0, .int .u64), (2, .int .i64)], [], []⟩), (16, ⟨[(0, .int .u64), (2, .int .i64)], [], []⟩)]⟩) (xs := [.v (.int .u64 xv)]) (by kernel_rfl) (⟨rfl, trivial⟩) (den_of F_math_bits_Len64_eq hh)

/- twinlock/twinlockref02.cube -/
def F_ref02_cube (n : Int) (p : Int) (K : Value → PH → Prop) (h : PH) : Prop :=
  CallH Tryz.prog id_math_bits_Mul64 [.int .u64 n, .int .u64 n] (fun v h1 =>
    ∃ t0 : Int, ∃ t1 : Int, v = .tuple #[.int .u64 t0, .int .u64 t1] ∧
    CallH Tryz.prog id_math_bits_Mul64 [.int .u64 t0, .int .u64 n] (fun v_1 h2 =>
      ∃ t0_1 : Int, ∃ t1_1 : Int, v_1 = .tuple #[.int .u64 t0_1, .int .u64 t1_1] ∧
      CallH Tryz.prog id_math_bits_Mul64 [.int .u64 t1, .int .u64 n] (fun v_2 h3 =>
        ∃ t0_2 : Int, ∃ t1_2 : Int, v_2 = .tuple #[.int .u64 t0_2, .int .u64 t1_2] ∧
        (((decide ((IntKind.wrap .u64 (t1_1 + t0_2)) < (shlV .u64 p (32 : Int)))) = false →
            K (.bool (((IntKind.wrap .u64 (t1_1 + t0_2)) == (shlV .u64 p (32 : Int))) && (t1_2 == (0 : Int)))) h3) ∧
          ((decide ((IntKind.wrap .u64 (t1_1 + t0_2)) < (shlV .u64 p (32 : Int)))) = true →
            K (.bool true) h3))) h2) h1) h
theorem F_ref02_cube_eq {n : Int} {p : Int} {K : Value → PH → Prop} {h : PH} : @Eq Prop (F_ref02_cube n p K h) (denF Tryz.prog Tryz.f189 ⟨[], [], [], []⟩ [.v (.int .u64 n), .v (.int .u64 p)] K h) := by
  kernel_rfl
theorem F_ref02_cube_ok {n : Int} {p : Int}  {K : Value → PH → Prop} {h : PH} (hh : F_ref02_cube n p K h) : CallH Tryz.prog id_ref02_cube [.int .u64 n, .int .u64 p] K h :=
  denF_sound' Tryz.func189 (H := ⟨[], [], [], []⟩) (xs := [.v (.int .u64 n), .v (.int .u64 p)]) (by kernel_rfl) (⟨rfl, rfl, trivial⟩) (den_of F_ref02_cube_eq hh)

/- twinlock/twinlockref02.square -/
def F_ref02_square (n : Int) (p : Int) (K : Value → PH → Prop) (h : PH) : Prop :=
  CallH Tryz.prog id_math_bits_Mul64 [.int .u64 n, .int .u64 n] (fun v h1 =>
    ∃ t0 : Int, ∃ t1 : Int, v = .tuple #[.int .u64 t0, .int .u64 t1] ∧
    (((decide (t0 < p)) = false →
        K (.bool ((t0 == p) && (t1 == (0 : Int)))) h1) ∧
      ((decide (t0 < p)) = true →
        K (.bool true) h1))) h
theorem F_ref02_square_eq {n : Int} {p : Int} {K : Value → PH → Prop} {h : PH} : @Eq Prop (F_ref02_square n p K h) (denF Tryz.prog Tryz.f190 ⟨[], [], [], []⟩ [.v (.int .u64 n), .v (.int .u64 p)] K h) := by
  kernel_rfl
theorem F_ref02_square_ok {n : Int} {p : Int}  {K : Value → PH → Prop} {h : PH} (hh : F_ref02_square n p K h) : CallH Tryz.prog id_ref02_square [.int .u64 n, .int .u64 p] K h :=
  denF_sound' Tryz.func190 (H := ⟨[], [], [], []⟩) (xs := [.v (.int .u64 n), .v (.int .u64 p)]) (by kernel_rfl) (⟨rfl, rfl, trivial⟩) (den_of F_ref02_square_eq hh)

/- twinlock/twinlockref02.rot -/
def F_ref02_rot (r : Int) (n : Int) (K : Value → PH → Prop) (h : PH) : Prop :=
  (0 ≤ n) ∧
  (0 ≤ (IntKind.wrap .u64 ((32 : Int) - n))) ∧
  K (.int .u32 (bitsV .or .u32 (shrV .u32 r n) (shlV .u32 r (IntKind.wrap .u64 ((32 : Int) - n))))) h
theorem F_ref02_rot_eq {r : Int} {n : Int} {K : Value → PH → Prop} {h : PH} : @Eq Prop (F_ref02_rot r n K h) (denF Tryz.prog Tryz.f191 ⟨[], [], [], []⟩ [.v (.int .u32 r), .v (.int .u64 n)] K h) := by
  kernel_rfl
theorem F_ref02_rot_ok {r : Int} {n : Int}  {K : Value → PH → Prop} {h : PH} (hh : F_ref02_rot r n K h) : CallH Tryz.prog id_ref02_rot [.int .u32 r, .int .u64 n] K h :=
  denF_sound' Tryz.func191 (H := ⟨[], [], [], []⟩) (xs := [.v (.int .u32 r), .v (.int .u64 n)]) (by kernel_rfl) (⟨rfl, rfl, trivial⟩) (den_of F_ref02_rot_eq hh)

/- twinlock/sha.begin -/
def F_sha_begin  (K : Value → PH → Prop) (h : PH) : Prop :=
  K (.agg ((([(1779033703 : Int), (3144134277 : Int), (1013904242 : Int), (2773480762 : Int), (1359893119 : Int), (2600822924 : Int), (528734635 : Int), (1541459225 : Int)]).map (Value.int .u32) ++ [])).toArray) h
theorem F_sha_begin_eq  {K : Value → PH → Prop} {h : PH} : @Eq Prop (F_sha_begin  K h) (denF Tryz.prog Tryz.f194 ⟨[0], [], [], []⟩ [] K h) := by
  kernel_rfl
theorem F_sha_begin_ok   {K : Value → PH → Prop} {h : PH} (hh : F_sha_begin  K h) : CallH Tryz.prog id_sha_begin [] K h :=
  denF_sound' Tryz.func194 (H := ⟨[0], [], [], []⟩) (xs := []) (by kernel_rfl) (trivial) (den_of F_sha_begin_eq hh)

/- twinlock/sha.numbers -/
def F_sha_numbers  (K : Value → PH → Prop) (h : PH) : Prop :=
  K (.agg ((([(1116352408 : Int), (1899447441 : Int), (3049323471 : Int), (3921009573 : Int), (961987163 : Int), (1508970993 : Int), (2453635748 : Int), (2870763221 : Int), (3624381080 : Int), (310598401 : Int), (607225278 : Int), (1426881987 : Int), (1925078388 : Int), (2162078206 : Int), (2614888103 : Int), (3248222580 : Int), (3835390401 : Int), (4022224774 : Int), (264347078 : Int), (604807628 : Int), (770255983 : Int), (1249150122 : Int), (1555081692 : Int), (1996064986 : Int), (2554220882 : Int), (2821834349 : Int), (2952996808 : Int), (3210313671 : Int), (3336571891 : Int), (3584528711 : Int), (113926993 : Int), (338241895 : Int), (666307205 : Int), (773529912 : Int), (1294757372 : Int), (1396182291 : Int), (1695183700 : Int), (1986661051 : Int), (2177026350 : Int), (2456956037 : Int), (2730485921 : Int), (2820302411 : Int), (3259730800 : Int), (3345764771 : Int), (3516065817 : Int), (3600352804 : Int), (4094571909 : Int), (275423344 : Int), (430227734 : Int), (506948616 : Int), (659060556 : Int), (883997877 : Int), (958139571 : Int), (1322822218 : Int), (1537002063 : Int), (1747873779 : Int), (1955562222 : Int), (2024104815 : Int), (2227730452 : Int), (2361852424 : Int), (2428436474 : Int), (2756734187 : Int), (3204031479 : Int), (3329325298 : Int)]).map (Value.int .u32) ++ [])).toArray) h
theorem F_sha_numbers_eq  {K : Value → PH → Prop} {h : PH} : @Eq Prop (F_sha_numbers  K h) (denF Tryz.prog Tryz.f195 ⟨[0], [], [], []⟩ [] K h) := by
  kernel_rfl
theorem F_sha_numbers_ok   {K : Value → PH → Prop} {h : PH} (hh : F_sha_numbers  K h) : CallH Tryz.prog id_sha_numbers [] K h :=
  denF_sound' Tryz.func195 (H := ⟨[0], [], [], []⟩) (xs := []) (by kernel_rfl) (trivial) (den_of F_sha_numbers_eq hh)

/- (*twinlock/sha.Sha).none -/
def F_sha_Sha_none (xv : Option Addr) (K : Value → PH → Prop) (h : PH) : Prop :=
  ∃ bv ov : Nat, ((Option.isNone xv) = false → xv = some ⟨bv, ov, none⟩) ∧
  ∃ t : Bool, (((Option.isNone xv) = false → h.rds bv (ov + 74) 1 = some [.bool t])) ∧
  K (.bool ((Option.isNone xv) || (!t))) h
theorem F_sha_Sha_none_eq {xv : Option Addr} {K : Value → PH → Prop} {h : PH} : @Eq Prop (F_sha_Sha_none xv K h) (denF Tryz.prog Tryz.f196 ⟨[], [], [], []⟩ [.v (.pointer xv)] K h) := by
  kernel_rfl
theorem F_sha_Sha_none_ok {xv : Option Addr}  {K : Value → PH → Prop} {h : PH} (hh : F_sha_Sha_none xv K h) : CallH Tryz.prog id_sha_Sha_none [.pointer xv] K h :=
  denF_sound' Tryz.func196 (H := ⟨[], [], [], []⟩) (xs := [.v (.pointer xv)]) (by kernel_rfl) (⟨rfl, trivial⟩) (den_of F_sha_Sha_none_eq hh)

/- twinlock/sha.turn -/
def F_sha_turn (hv : List Int) (bv : List Int) (k : Option Addr) (sA : Option Addr) (_ sC : Nat) (K : Value → PH → Prop) (h : PH) : Prop :=
  LoopP (T := Int × List Int × Unit) (fun Jv st h1 =>
    (((decide (st.1 < (16 : Int))) = true →
        (0 ≤ (IntKind.wrap .i64 ((4 : Int) * st.1)) ∧ (IntKind.wrap .i64 ((4 : Int) * st.1)) ≤ (IntKind.wrap .i64 ((IntKind.wrap .i64 ((4 : Int) * st.1)) + (4 : Int))) ∧ (IntKind.wrap .i64 ((IntKind.wrap .i64 ((4 : Int) * st.1)) + (4 : Int))) ≤ ((sC : Nat) : Int) ∧ ((sC : Nat) : Int) ≤ (sC : Nat)) ∧
        ∃ t : ByteArray, strH h1 (slA sA 1 (IntKind.wrap .i64 ((4 : Int) * st.1)) ((sC : Nat) : Int)) ((IntKind.wrap .i64 ((IntKind.wrap .i64 ((4 : Int) * st.1)) + (4 : Int))).toNat - (IntKind.wrap .i64 ((4 : Int) * st.1)).toNat) t ∧
        CallH Tryz.prog id_sha_getBig [.string t, .int .i64 (4 : Int)] (fun v h2 =>
          ∃ t_1 : Int, v = .int .u64 t_1 ∧
          (0 ≤ st.1 ∧ st.1 < (64 : Nat)) ∧
          (st.1.toNat * 1) < 64 ∧
          Jv ((IntKind.wrap .i64 (st.1 + (1 : Int))), (st.2.1.set (st.1.toNat * 1) (IntKind.wrap .u32 t_1)), ()) h2) h1) ∧
      ((decide (st.1 < (16 : Int))) = false →
        LoopP (T := Int × List Int × Unit) (fun Jv_1 st_1 h3 =>
          (((decide (st_1.1 < (64 : Int))) = true →
              (0 ≤ (IntKind.wrap .i64 (st_1.1 - (15 : Int))) ∧ (IntKind.wrap .i64 (st_1.1 - (15 : Int))) < (64 : Nat)) ∧
              (((IntKind.wrap .i64 (st_1.1 - (15 : Int))).toNat * 1) < 64) ∧
              (0 ≤ (IntKind.wrap .i64 (st_1.1 - (2 : Int))) ∧ (IntKind.wrap .i64 (st_1.1 - (2 : Int))) < (64 : Nat)) ∧
              (((IntKind.wrap .i64 (st_1.1 - (2 : Int))).toNat * 1) < 64) ∧
              CallH Tryz.prog id_math_bits_RotateLeft32 [.int .u32 (st_1.2.1.getD ((IntKind.wrap .i64 (st_1.1 - (15 : Int))).toNat * 1) 0), .int .i64 (-7 : Int)] (fun v_1 h4 =>
                ∃ t_2 : Int, v_1 = .int .u32 t_2 ∧
                CallH Tryz.prog id_math_bits_RotateLeft32 [.int .u32 (st_1.2.1.getD ((IntKind.wrap .i64 (st_1.1 - (15 : Int))).toNat * 1) 0), .int .i64 (-18 : Int)] (fun v_2 h5 =>
                  ∃ t_3 : Int, v_2 = .int .u32 t_3 ∧
                  CallH Tryz.prog id_math_bits_RotateLeft32 [.int .u32 (st_1.2.1.getD ((IntKind.wrap .i64 (st_1.1 - (2 : Int))).toNat * 1) 0), .int .i64 (-17 : Int)] (fun v_3 h6 =>
                    ∃ t_4 : Int, v_3 = .int .u32 t_4 ∧
                    CallH Tryz.prog id_math_bits_RotateLeft32 [.int .u32 (st_1.2.1.getD ((IntKind.wrap .i64 (st_1.1 - (2 : Int))).toNat * 1) 0), .int .i64 (-19 : Int)] (fun v_4 h7 =>
                      ∃ t_5 : Int, v_4 = .int .u32 t_5 ∧
                      (0 ≤ (IntKind.wrap .i64 (st_1.1 - (16 : Int))) ∧ (IntKind.wrap .i64 (st_1.1 - (16 : Int))) < (64 : Nat)) ∧
                      (((IntKind.wrap .i64 (st_1.1 - (16 : Int))).toNat * 1) < 64) ∧
                      (0 ≤ (IntKind.wrap .i64 (st_1.1 - (7 : Int))) ∧ (IntKind.wrap .i64 (st_1.1 - (7 : Int))) < (64 : Nat)) ∧
                      (((IntKind.wrap .i64 (st_1.1 - (7 : Int))).toNat * 1) < 64) ∧
                      (0 ≤ st_1.1 ∧ st_1.1 < (64 : Nat)) ∧
                      (st_1.1.toNat * 1) < 64 ∧
                      Jv_1 ((IntKind.wrap .i64 (st_1.1 + (1 : Int))), (st_1.2.1.set (st_1.1.toNat * 1) (IntKind.wrap .u32 ((IntKind.wrap .u32 ((IntKind.wrap .u32 ((st_1.2.1.getD ((IntKind.wrap .i64 (st_1.1 - (16 : Int))).toNat * 1) 0) + (bitsV .xor .u32 (bitsV .xor .u32 t_2 t_3) (shrV .u32 (st_1.2.1.getD ((IntKind.wrap .i64 (st_1.1 - (15 : Int))).toNat * 1) 0) (3 : Int))))) + (st_1.2.1.getD ((IntKind.wrap .i64 (st_1.1 - (7 : Int))).toNat * 1) 0))) + (bitsV .xor .u32 (bitsV .xor .u32 t_4 t_5) (shrV .u32 (st_1.2.1.getD ((IntKind.wrap .i64 (st_1.1 - (2 : Int))).toNat * 1) 0) (10 : Int)))))), ()) h7) h6) h5) h4) h3) ∧
            ((decide (st_1.1 < (64 : Int))) = false →
              LoopP (T := Int × List Int × Unit) (fun Jv_2 st_2 h8 =>
                (((decide (st_2.1 < (64 : Int))) = true →
                    ∃ bv_1 ov : Nat, k = some ⟨bv_1, ov, none⟩ ∧
                    (0 ≤ st_2.1 ∧ st_2.1 < (64 : Nat)) ∧
                    ∃ t_6 : Int, (h8.rds bv_1 (ov + st_2.1.toNat * 1) 1 = some [.int .u32 t_6]) ∧
                    (0 ≤ st_2.1 ∧ st_2.1 < (64 : Nat)) ∧
                    ((st_2.1.toNat * 1) < 64) ∧
                    CallH Tryz.prog id_math_bits_RotateLeft32 [.int .u32 (((st_2.2.1.drop 4).take 1).getD 0 0), .int .i64 (-6 : Int)] (fun v_5 h9 =>
                      ∃ t_7 : Int, v_5 = .int .u32 t_7 ∧
                      (h9.rds bv_1 (ov + st_2.1.toNat * 1) 1 = some [.int .u32 t_6]) ∧
                      CallH Tryz.prog id_math_bits_RotateLeft32 [.int .u32 (((st_2.2.1.drop 4).take 1).getD 0 0), .int .i64 (-11 : Int)] (fun v_6 h10 =>
                        ∃ t_8 : Int, v_6 = .int .u32 t_8 ∧
                        (h10.rds bv_1 (ov + st_2.1.toNat * 1) 1 = some [.int .u32 t_6]) ∧
                        CallH Tryz.prog id_math_bits_RotateLeft32 [.int .u32 (((st_2.2.1.drop 4).take 1).getD 0 0), .int .i64 (-25 : Int)] (fun v_7 h11 =>
                          ∃ t_9 : Int, v_7 = .int .u32 t_9 ∧
                          (h11.rds bv_1 (ov + st_2.1.toNat * 1) 1 = some [.int .u32 t_6]) ∧
                          CallH Tryz.prog id_math_bits_RotateLeft32 [.int .u32 ((st_2.2.1.take 1).getD 0 0), .int .i64 (-2 : Int)] (fun v_8 h12 =>
                            ∃ t_10 : Int, v_8 = .int .u32 t_10 ∧
                            CallH Tryz.prog id_math_bits_RotateLeft32 [.int .u32 ((st_2.2.1.take 1).getD 0 0), .int .i64 (-13 : Int)] (fun v_9 h13 =>
                              ∃ t_11 : Int, v_9 = .int .u32 t_11 ∧
                              CallH Tryz.prog id_math_bits_RotateLeft32 [.int .u32 ((st_2.2.1.take 1).getD 0 0), .int .i64 (-22 : Int)] (fun v_10 h14 =>
                                ∃ t_12 : Int, v_10 = .int .u32 t_12 ∧
                                Jv_2 ((IntKind.wrap .i64 (st_2.1 + (1 : Int))), [(IntKind.wrap .u32 ((IntKind.wrap .u32 ((IntKind.wrap .u32 ((IntKind.wrap .u32 ((IntKind.wrap .u32 (((st_2.2.1.drop 7).getD 0 0) + (bitsV .xor .u32 (bitsV .xor .u32 t_7 t_8) t_9))) + (bitsV .xor .u32 (bitsV .and .u32 (((st_2.2.1.drop 4).take 1).getD 0 0) (((st_2.2.1.drop 5).take 1).getD 0 0)) (bitsV .and .u32 (bitsV .xor .u32 (IntKind.max .u32) (((st_2.2.1.drop 4).take 1).getD 0 0)) (((st_2.2.1.drop 6).take 1).getD 0 0))))) + t_6)) + (st_1.2.1.getD (st_2.1.toNat * 1) 0))) + (IntKind.wrap .u32 ((bitsV .xor .u32 (bitsV .xor .u32 t_10 t_11) t_12) + (bitsV .xor .u32 (bitsV .xor .u32 (bitsV .and .u32 ((st_2.2.1.take 1).getD 0 0) (((st_2.2.1.drop 1).take 1).getD 0 0)) (bitsV .and .u32 ((st_2.2.1.take 1).getD 0 0) (((st_2.2.1.drop 2).take 1).getD 0 0))) (bitsV .and .u32 (((st_2.2.1.drop 1).take 1).getD 0 0) (((st_2.2.1.drop 2).take 1).getD 0 0))))))), ((st_2.2.1.take 1).getD 0 0), (((st_2.2.1.drop 1).take 1).getD 0 0), (((st_2.2.1.drop 2).take 1).getD 0 0), (IntKind.wrap .u32 ((((st_2.2.1.drop 3).take 1).getD 0 0) + (IntKind.wrap .u32 ((IntKind.wrap .u32 ((IntKind.wrap .u32 ((IntKind.wrap .u32 (((st_2.2.1.drop 7).getD 0 0) + (bitsV .xor .u32 (bitsV .xor .u32 t_7 t_8) t_9))) + (bitsV .xor .u32 (bitsV .and .u32 (((st_2.2.1.drop 4).take 1).getD 0 0) (((st_2.2.1.drop 5).take 1).getD 0 0)) (bitsV .and .u32 (bitsV .xor .u32 (IntKind.max .u32) (((st_2.2.1.drop 4).take 1).getD 0 0)) (((st_2.2.1.drop 6).take 1).getD 0 0))))) + t_6)) + (st_1.2.1.getD (st_2.1.toNat * 1) 0))))), (((st_2.2.1.drop 4).take 1).getD 0 0), (((st_2.2.1.drop 5).take 1).getD 0 0), (((st_2.2.1.drop 6).take 1).getD 0 0)], ()) h14) h13) h12) h11) h10) h9) h8) ∧
                  ((decide (st_2.1 < (64 : Int))) = false →
                    LoopP (T := Int × List Int × Unit) (fun Jv_3 st_3 h15 =>
                      (((decide (st_3.1 < (8 : Int))) = true →
                          (0 ≤ st_3.1 ∧ st_3.1 < (8 : Nat)) ∧
                          ((st_3.1.toNat * 1) < 8) ∧
                          (0 ≤ st_3.1 ∧ st_3.1 < (8 : Nat)) ∧
                          ((st_3.1.toNat * 1) < 8) ∧
                          (0 ≤ st_3.1 ∧ st_3.1 < (8 : Nat)) ∧
                          (st_3.1.toNat * 1) < 8 ∧
                          Jv_3 ((IntKind.wrap .i64 (st_3.1 + (1 : Int))), (st_3.2.1.set (st_3.1.toNat * 1) (IntKind.wrap .u32 ((st_3.2.1.getD (st_3.1.toNat * 1) 0) + (st_2.2.1.getD (st_3.1.toNat * 1) 0)))), ()) h15) ∧
                        ((decide (st_3.1 < (8 : Int))) = false →
                          K (.agg ((st_3.2.1.map (Value.int .u32) ++ [])).toArray) h15))) ((0 : Int), hv, ()) h8))) ((0 : Int), bv, ()) h3))) ((16 : Int), st.2.1, ()) h1))) ((0 : Int), (List.replicate 64 0), ()) h
theorem F_sha_turn_eq {hv : List Int} {bv : List Int} {k : Option Addr} {sA : Option Addr} {sN sC : Nat} {K : Value → PH → Prop} {h : PH} : @Eq Prop (F_sha_turn hv bv k sA sN sC K h) (denF Tryz.prog Tryz.f197 ⟨[4, 5, 8, 9], [(18, .of [0, 1, 2, 4, 7, 11, 12, 13, 14, 15, 16, 17, 18, 19, 20, 22, 23, 24, 25, 26, 28, 29, 30, 3, 5, 6, 8, 9, 10, 21, 27, 31, 32]), (19, .of [0, 2, 5, 8, 9, 10, 11, 12, 13, 14, 15, 16, 17, 18, 19, 20, 21, 22, 1, 3, 4, 6, 7, 23, 24])], [(0, ⟨[(22, .int .i64)], [], [(3, [.ints .u32 64])]⟩), (2, ⟨[(11, .int .i64)], [], [(3, [.ints .u32 64])]⟩), (4, ⟨[(81, .int .i64)], [], [(1, [.ints .u32 8])]⟩), (6, ⟨[(165, .int .i64)], [], [(0, [.ints .u32 8])]⟩)], []⟩ [.agg [.ints .u32 8 hv], .agg [.ints .u32 8 bv], .v (.pointer k), .v (.slice sA sN sC)] K h) := by
  kernel_rfl
theorem F_sha_turn_ok {hv : List Int} {bv : List Int} {k : Option Addr} {sA : Option Addr} {sN sC : Nat} (hk0 : hv.length = 8) (hk1 : bv.length = 8) {K : Value → PH → Prop} {h : PH} (hh : F_sha_turn hv bv k sA sN sC K h) : CallH Tryz.prog id_sha_turn [.agg ((hv.map (Value.int .u32) ++ [])).toArray, .agg ((bv.map (Value.int .u32) ++ [])).toArray, .pointer k, .slice sA sN sC] K h :=
  denF_sound' Tryz.func197 (H := ⟨[4, 5, 8, 9], [(18, .of [0, 1, 2, 4, 7, 11, 12, 13, 14, 15, 16, 17, 18, 19, 20, 22, 23, 24, 25, 26, 28, 29, 30, 3, 5, 6, 8, 9, 10, 21, 27, 31, 32]), (19, .of [0, 2, 5, 8, 9, 10, 11, 12, 13, 14, 15, 16, 17, 18, 19, 20, 21, 22, 1, 3, 4, 6, 7, 23, 24])], [(0, ⟨[(22, .int .i64)], [], [(3, [.ints .u32 64])]⟩), (2, ⟨[(11, .int .i64)], [], [(3, [.ints .u32 64])]⟩), (4, ⟨[(81, .int .i64)], [], [(1, [.ints .u32 8])]⟩), (6, ⟨[(165, .int .i64)], [], [(0, [.ints .u32 8])]⟩)], []⟩) (xs := [.agg [.ints .u32 8 hv], .agg [.ints .u32 8 bv], .v (.pointer k), .v (.slice sA sN sC)]) (by kernel_rfl) (⟨⟨hk0, trivial⟩, ⟨hk1, trivial⟩, rfl, rfl, trivial⟩) (den_of F_sha_turn_eq hh)

/- twinlock/sha.putBig -/
def F_sha_putBig (bA : Option Addr) (bN bC : Nat) (xv : Int) (n : Int) (K : Value → PH → Prop) (h : PH) : Prop :=
  LoopP (T := (Option Addr × Nat × Nat) × Int × Unit) (fun Jv st h1 =>
    (((decide (st.2.1 ≥ (0 : Int))) = true →
        (0 ≤ (IntKind.wrap .i64 ((8 : Int) * st.2.1))) ∧
        appH 5 1 1 [.int .u8 (0 : Int)] st.1.1 st.1.2.1 st.1.2.2 1 [.int .u8 (IntKind.wrap .u8 (shrV .u64 xv (IntKind.wrap .i64 ((8 : Int) * st.2.1))))] (fun bA_1 bN_1 bC_1 h2 =>
          Jv ((bA_1, bN_1, bC_1), (IntKind.wrap .i64 (st.2.1 - (1 : Int))), ()) h2) h1) ∧
      ((decide (st.2.1 ≥ (0 : Int))) = false →
        K (.slice st.1.1 st.1.2.1 st.1.2.2) h1))) ((bA, bN, bC), (IntKind.wrap .i64 (n - (1 : Int))), ()) h
theorem F_sha_putBig_eq {bA : Option Addr} {bN bC : Nat} {xv : Int} {n : Int} {K : Value → PH → Prop} {h : PH} : @Eq Prop (F_sha_putBig bA bN bC xv n K h) (denF Tryz.prog Tryz.f198 ⟨[20], [], [(0, ⟨[(0, .slice), (7, .int .i64)], [], []⟩)], []⟩ [.v (.slice bA bN bC), .v (.int .u64 xv), .v (.int .i64 n)] K h) := by
  kernel_rfl
theorem F_sha_putBig_ok {bA : Option Addr} {bN bC : Nat} {xv : Int} {n : Int}  {K : Value → PH → Prop} {h : PH} (hh : F_sha_putBig bA bN bC xv n K h) : CallH Tryz.prog id_sha_putBig [.slice bA bN bC, .int .u64 xv, .int .i64 n] K h :=
  denF_sound' Tryz.func198 (H := ⟨[20], [], [(0, ⟨[(0, .slice), (7, .int .i64)], [], []⟩)], []⟩) (xs := [.v (.slice bA bN bC), .v (.int .u64 xv), .v (.int .i64 n)]) (by kernel_rfl) (⟨rfl, rfl, rfl, trivial⟩) (den_of F_sha_putBig_eq hh)

/- math/bits.Mul64 -/
def F_math_bits_Mul64 (xv : Int) (y : Int) (K : Value → PH → Prop) (h : PH) : Prop :=
  K (.tuple #[.int .u64 (IntKind.wrap .u64 ((IntKind.wrap .u64 ((IntKind.wrap .u64 ((shrV .u64 xv (32 : Int)) * (shrV .u64 y (32 : Int)))) + (shrV .u64 (IntKind.wrap .u64 ((IntKind.wrap .u64 ((shrV .u64 xv (32 : Int)) * (bitsV .and .u64 y (4294967295 : Int)))) + (shrV .u64 (IntKind.wrap .u64 ((bitsV .and .u64 xv (4294967295 : Int)) * (bitsV .and .u64 y (4294967295 : Int)))) (32 : Int)))) (32 : Int)))) + (shrV .u64 (IntKind.wrap .u64 ((bitsV .and .u64 (IntKind.wrap .u64 ((IntKind.wrap .u64 ((shrV .u64 xv (32 : Int)) * (bitsV .and .u64 y (4294967295 : Int)))) + (shrV .u64 (IntKind.wrap .u64 ((bitsV .and .u64 xv (4294967295 : Int)) * (bitsV .and .u64 y (4294967295 : Int)))) (32 : Int)))) (4294967295 : Int)) + (IntKind.wrap .u64 ((bitsV .and .u64 xv (4294967295 : Int)) * (shrV .u64 y (32 : Int)))))) (32 : Int)))), .int .u64 (IntKind.wrap .u64 (xv * y))]) h
theorem F_math_bits_Mul64_eq {xv : Int} {y : Int} {K : Value → PH → Prop} {h : PH} : @Eq Prop (F_math_bits_Mul64 xv y K h) (denF Tryz.prog Tryz.f215 ⟨[], [], [], []⟩ [.v (.int .u64 xv), .v (.int .u64 y)] K h) := by
  kernel_rfl
theorem F_math_bits_Mul64_ok {xv : Int} {y : Int}  {K : Value → PH → Prop} {h : PH} (hh : F_math_bits_Mul64 xv y K h) : CallH Tryz.prog id_math_bits_Mul64 [.int .u64 xv, .int .u64 y] K h :=
  denF_sound' Tryz.func215 (H := ⟨[], [], [], []⟩) (xs := [.v (.int .u64 xv), .v (.int .u64 y)]) (by kernel_rfl) (⟨rfl, rfl, trivial⟩) (den_of F_math_bits_Mul64_eq hh)

/- twinlock/sha.getBig -/
def F_sha_getBig (sv : ByteArray) (n : Int) (K : Value → PH → Prop) (h : PH) : Prop :=
  LoopP (T := Int × Int × Unit) (fun Jv st h1 =>
    (((decide (st.2.1 < n)) = true →
        (0 ≤ st.2.1 ∧ st.2.1 < (ByteArray.size sv : Nat)) ∧
        Jv ((bitsV .or .u64 (shlV .u64 st.1 (8 : Int)) (IntKind.wrap .u64 (byteAt sv st.2.1))), (IntKind.wrap .i64 (st.2.1 + (1 : Int))), ()) h1) ∧
      ((decide (st.2.1 < n)) = false →
        K (.int .u64 st.1) h1))) ((0 : Int), (0 : Int), ()) h
theorem F_sha_getBig_eq {sv : ByteArray} {n : Int} {K : Value → PH → Prop} {h : PH} : @Eq Prop (F_sha_getBig sv n K h) (denF Tryz.prog Tryz.f216 ⟨[], [], [(0, ⟨[(4, .int .u64), (7, .int .i64)], [], []⟩)], []⟩ [.v (.string sv), .v (.int .i64 n)] K h) := by
  kernel_rfl
theorem F_sha_getBig_ok {sv : ByteArray} {n : Int}  {K : Value → PH → Prop} {h : PH} (hh : F_sha_getBig sv n K h) : CallH Tryz.prog id_sha_getBig [.string sv, .int .i64 n] K h :=
  denF_sound' Tryz.func216 (H := ⟨[], [], [(0, ⟨[(4, .int .u64), (7, .int .i64)], [], []⟩)], []⟩) (xs := [.v (.string sv), .v (.int .i64 n)]) (by kernel_rfl) (⟨rfl, rfl, trivial⟩) (den_of F_sha_getBig_eq hh)

/- math/bits.RotateLeft32 -/
def F_math_bits_RotateLeft32 (xv : Int) (k : Int) (K : Value → PH → Prop) (h : PH) : Prop :=
  (0 ≤ (bitsV .and .u64 (IntKind.wrap .u64 k) (31 : Int))) ∧
  (0 ≤ (IntKind.wrap .u64 ((32 : Int) - (bitsV .and .u64 (IntKind.wrap .u64 k) (31 : Int))))) ∧
  K (.int .u32 (bitsV .or .u32 (shlV .u32 xv (bitsV .and .u64 (IntKind.wrap .u64 k) (31 : Int))) (shrV .u32 xv (IntKind.wrap .u64 ((32 : Int) - (bitsV .and .u64 (IntKind.wrap .u64 k) (31 : Int))))))) h
theorem F_math_bits_RotateLeft32_eq {xv : Int} {k : Int} {K : Value → PH → Prop} {h : PH} : @Eq Prop (F_math_bits_RotateLeft32 xv k K h) (denF Tryz.prog Tryz.f217 ⟨[], [], [], []⟩ [.v (.int .u32 xv), .v (.int .i64 k)] K h) := by
  kernel_rfl
theorem F_math_bits_RotateLeft32_ok {xv : Int} {k : Int}  {K : Value → PH → Prop} {h : PH} (hh : F_math_bits_RotateLeft32 xv k K h) : CallH Tryz.prog id_math_bits_RotateLeft32 [.int .u32 xv, .int .i64 k] K h :=
  denF_sound' Tryz.func217 (H := ⟨[], [], [], []⟩) (xs := [.v (.int .u32 xv), .v (.int .i64 k)]) (by kernel_rfl) (⟨rfl, rfl, trivial⟩) (den_of F_math_bits_RotateLeft32_eq hh)


end TL
