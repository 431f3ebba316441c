/-
  The functions of the program as predicates on heap fragments, each tied to its code. No condition.
-/
import Derived.Test.YtmcgndbfoebcnaaLibC
import Derived.Test.YtmcgndbfoebcnaaProg
namespace TL
open Go Go.Proofs
abbrev id_gosem_cut_init : FuncId := 2
abbrev id_law20_ShipAnew : FuncId := 3
abbrev id_law20_ShipOwn : FuncId := 4
abbrev id_law20_ShipGoes : FuncId := 5
abbrev id_law20_ShipQuiet : FuncId := 6
abbrev id_law20_ShipKnown : FuncId := 7
abbrev id_law20_ShipNobody : FuncId := 8
abbrev id_law20_Great : FuncId := 9
abbrev id_law20_wakes : FuncId := 10
abbrev id_law20_Made : FuncId := 11
abbrev id_ship_New : FuncId := 12
abbrev id_ship_Ship_Ack : FuncId := 13
abbrev id_ship_Ship_Tick : FuncId := 14
abbrev id_tree_Of : FuncId := 15
abbrev id_law20_had : FuncId := 16
abbrev id_ship_Has : FuncId := 17
abbrev id_ship_Ship_Copy : FuncId := 18
abbrev id_ref20_SameAll : FuncId := 19
abbrev id_ship_Ship_Ask : FuncId := 20
abbrev id_ship_Ship_Forget : FuncId := 21
abbrev id_law20_three : FuncId := 22
abbrev id_tree_New : FuncId := 23
abbrev id_tree_Tree_Root : FuncId := 24
abbrev id_ship_Ship_Texts : FuncId := 25
abbrev id_tree_Tree_Node : FuncId := 26
abbrev id_law13_GreatPairs : FuncId := 27
abbrev id_law12_GreatOps : FuncId := 28
abbrev id_ship_next : FuncId := 29
abbrev id_ship_entries : FuncId := 30
abbrev id_ship_above : FuncId := 31
abbrev id_tree_Tree_Texts : FuncId := 32
abbrev id_bucket_May : FuncId := 33
abbrev id_tree_Tree_Set : FuncId := 34
abbrev id_ref20_SameMsg : FuncId := 35
abbrev id_tree_Tree_Pairs : FuncId := 36
abbrev id_tree_Leaf : FuncId := 37
abbrev id_tree_Tree_page : FuncId := 38
abbrev id_tree_Inner : FuncId := 39
abbrev id_slices_Clone_string_string : FuncId := 40
abbrev id_slices_Clone_api_Op_api_Op : FuncId := 41
abbrev id_tree_innerText : FuncId := 42
abbrev id_path_Cut : FuncId := 43
abbrev id_tree_Tree_find : FuncId := 44
abbrev id_slices_Replace_api_Pair_api_Pair : FuncId := 45
abbrev id_slices_Clone_api_Pair_api_Pair : FuncId := 46
abbrev id_slices_Insert_api_Pair_api_Pair : FuncId := 47
abbrev id_tree_Tree_anew : FuncId := 48
abbrev id_sha_Sum : FuncId := 49
abbrev id_bucket_Page : FuncId := 50
abbrev id_strings_Cut : FuncId := 51
abbrev id_path_named : FuncId := 52
abbrev id_path_key : FuncId := 53
abbrev id_bucket_Of : FuncId := 54
abbrev id_slices_BinarySearchFunc_api_Pair_api_Pair_string : FuncId := 55
abbrev id_tree_Tree_find_1 : FuncId := 56
abbrev id_strings_Compare : FuncId := 57
abbrev id_slices_overlaps_api_Pair : FuncId := 58
abbrev id_slices_rotateRight_api_Pair : FuncId := 59
abbrev id_slices_startIdx_api_Pair : FuncId := 60
abbrev id_tree_Tree_anew_1 : FuncId := 61
abbrev id_sha_New : FuncId := 62
abbrev id_sha_Sha_Write : FuncId := 63
abbrev id_sha_Sha_Sum : FuncId := 64
abbrev id_bucket_bucket : FuncId := 65
abbrev id_bucket_Part : FuncId := 66
abbrev id_pack_Out_Num : FuncId := 67
abbrev id_pack_Out_Text : FuncId := 68
abbrev id_pack_Out_String : FuncId := 69
abbrev id_internal_stringslite_Cut : FuncId := 70
abbrev id_strings_IndexByte : FuncId := 71
abbrev id_internal_bytealg_CompareString : FuncId := 72
abbrev id_slices_rotateLeft_api_Pair : FuncId := 73
abbrev id_sha_begin : FuncId := 74
abbrev id_sha_numbers : FuncId := 75
abbrev id_sha_Sha_none : FuncId := 76
abbrev id_sha_turn : FuncId := 77
abbrev id_sha_putBig : FuncId := 78
abbrev id_pack_size : FuncId := 79
abbrev id_pack_Out_put : FuncId := 80
abbrev id_internal_stringslite_Index : FuncId := 81
abbrev id_internal_stringslite_IndexByte : FuncId := 82
abbrev id_internal_bytealg_abigen_runtime_cmpstring : FuncId := 83
abbrev id_slices_Reverse_api_Pair_api_Pair : FuncId := 84
abbrev id_sha_getBig : FuncId := 85
abbrev id_math_bits_RotateLeft32 : FuncId := 86
abbrev id_math_bits_Len64 : FuncId := 87
abbrev id_internal_bytealg_IndexString : FuncId := 88
abbrev id_internal_bytealg_Cutover : FuncId := 89
abbrev id_internal_bytealg_IndexRabinKarp_string : FuncId := 90
abbrev id_internal_bytealg_IndexByteString : FuncId := 91
abbrev id_internal_bytealg_hashStr_string : FuncId := 92
abbrev T_api_Batch : TypeId := 38
abbrev T_api_Hash : TypeId := 40
abbrev T_api_Msg : TypeId := 42
abbrev T_api_Op : TypeId := 51
abbrev T_api_Pair : TypeId := 86
abbrev T_pack_Out : TypeId := 126
abbrev T_sha_Sha : TypeId := 140
abbrev T_ship_Ship : TypeId := 76
abbrev T_ship_place : TypeId := 78
abbrev T_ship_shot : TypeId := 83
abbrev T_tree_Tree : TypeId := 93
/- twinlock/sha.Sum -/
def F_sha_Sum (sv : ByteArray) (K : Value → PH → Prop) (h : PH) : Prop :=
  CallH Try.prog id_sha_New [] (fun v h1 =>
    ∃ xv : Option Addr, v = .pointer xv ∧
    CallH Try.prog id_sha_Sha_Write [.pointer xv, .string sv] (fun v_1 h2 =>
      ∃ t : Int, v_1 = .int .i64 t ∧
      CallH Try.prog id_sha_Sha_Sum [.pointer xv] (fun v_2 h3 =>
        ∃ t_1 : List Int, t_1.length = 32 ∧ v_2 = .agg ((t_1.map (Value.int .u8) ++ [])).toArray ∧
        K (.agg ((t_1.map (Value.int .u8) ++ [])).toArray) h3) h2) h1) h
theorem F_sha_Sum_eq {sv : ByteArray} {K : Value → PH → Prop} {h : PH} : @Eq Prop (F_sha_Sum sv K h) (denF Try.prog Try.f49 ⟨[2], [], [], []⟩ [.v (.string sv)] K h) := by
  kernel_rfl
theorem F_sha_Sum_ok {sv : ByteArray}  {K : Value → PH → Prop} {h : PH} (hh : F_sha_Sum sv K h) : CallH Try.prog id_sha_Sum [.string sv] K h :=
  denF_sound' Try.func49 (H := ⟨[2], [], [], []⟩) (xs := [.v (.string sv)]) (by kernel_rfl) (⟨rfl, trivial⟩) (den_of F_sha_Sum_eq hh)

/- twinlock/sha.New -/
def F_sha_New  (K : Value → PH → Prop) (h : PH) : Prop :=
  CallH Try.prog id_sha_begin [] (fun v h1 =>
    ∃ t : List Int, t.length = 8 ∧ v = .agg ((t.map (Value.int .u32) ++ [])).toArray ∧
    CallH Try.prog id_sha_numbers [] (fun v_1 h2 =>
      ∃ t_1 : List Int, t_1.length = 64 ∧ v_1 = .agg ((t_1.map (Value.int .u32) ++ [])).toArray ∧
      newH h2 (.cells ((t.map (Value.int .u32) ++ (t_1.map (Value.int .u32) ++ ([.slice none 0 0, .int .i64 (0 : Int), .bool true] : List Value)))).toArray T_sha_Sha (0, 0)) fun bv h3 =>
      K (.pointer (some ⟨bv, 0, none⟩)) h3) h1) h
theorem F_sha_New_eq  {K : Value → PH → Prop} {h : PH} : @Eq Prop (F_sha_New  K h) (denF Try.prog Try.f62 ⟨[], [], [], []⟩ [] K h) := by
  kernel_rfl
theorem F_sha_New_ok   {K : Value → PH → Prop} {h : PH} (hh : F_sha_New  K h) : CallH Try.prog id_sha_New [] K h :=
  denF_sound' Try.func62 (H := ⟨[], [], [], []⟩) (xs := []) (by kernel_rfl) (trivial) (den_of F_sha_New_eq hh)

/- (*twinlock/sha.Sha).Write -/
def F_sha_Sha_Write (xv : Option Addr) (sv : ByteArray) (K : Value → PH → Prop) (h : PH) : Prop :=
  CallH Try.prog id_sha_Sha_none [.pointer xv] (fun v h1 =>
    ∃ t : Bool, v = .bool t ∧
    ((t = true →
        K (.int .i64 (0 : Int)) h1) ∧
      (t = false →
        ∃ bv ov : Nat, xv = some ⟨bv, ov, none⟩ ∧
        ∃ t_1 : Int, (h1.rds bv (ov + 73) 1 = some [.int .i64 t_1]) ∧
        ∃ bv_1 ov_1 : Nat, xv = some ⟨bv_1, ov_1, none⟩ ∧
        stH h1 bv_1 (ov_1 + 73) [.int .i64 (IntKind.wrap .i64 (t_1 + (sv.size : Int)))] fun h2 =>
        ∃ bv_2 ov_2 : Nat, xv = some ⟨bv_2, ov_2, none⟩ ∧
        ∃ (tA : Option Addr) (tN tC : Nat), (h2.rds bv_2 (ov_2 + 72) 1 = some [.slice tA tN tC]) ∧
        appH 5 1 1 [.int .u8 (0 : Int)] tA tN tC (ByteArray.size sv) (byteVs sv) (fun tA_1 tN_1 tC_1 h3 =>
          ∃ bv_3 ov_3 : Nat, xv = some ⟨bv_3, ov_3, none⟩ ∧
          stH h3 bv_3 (ov_3 + 72) [.slice tA_1 tN_1 tC_1] fun h4 =>
          LoopP (T := Unit) (fun Jv _ h5 =>
            ∃ bv_4 ov_4 : Nat, xv = some ⟨bv_4, ov_4, none⟩ ∧
            ∃ (tA_2 : Option Addr) (tN_2 tC_2 : Nat), (h5.rds bv_4 (ov_4 + 72) 1 = some [.slice tA_2 tN_2 tC_2]) ∧
            (((decide (((tN_2 : Nat) : Int) ≥ (64 : Int))) = true →
                ∃ bv_5 ov_5 : Nat, xv = some ⟨bv_5, ov_5, none⟩ ∧
                ∃ t_2 : List Int, t_2.length = 8 ∧ (h5.rds bv_5 ov_5 8 = some (t_2.map (Value.int .u32) ++ [])) ∧
                ∃ bv_6 ov_6 : Nat, xv = some ⟨bv_6, ov_6, none⟩ ∧
                ∃ t_3 : List Int, t_3.length = 8 ∧ (h5.rds bv_6 ov_6 8 = some (t_3.map (Value.int .u32) ++ [])) ∧
                ∃ bv_7 ov_7 : Nat, xv = some ⟨bv_7, ov_7, none⟩ ∧
                ∃ bv_8 ov_8 : Nat, xv = some ⟨bv_8, ov_8, none⟩ ∧
                ∃ (tA_3 : Option Addr) (tN_3 tC_3 : Nat), (h5.rds bv_8 (ov_8 + 72) 1 = some [.slice tA_3 tN_3 tC_3]) ∧
                (0 ≤ (0 : Int) ∧ (0 : Int) ≤ (64 : Int) ∧ (64 : Int) ≤ ((tC_3 : Nat) : Int) ∧ ((tC_3 : Nat) : Int) ≤ (tC_3 : Nat)) ∧
                CallH Try.prog id_sha_turn [.agg ((t_2.map (Value.int .u32) ++ [])).toArray, .agg ((t_3.map (Value.int .u32) ++ [])).toArray, .pointer (some ⟨bv_7, (ov_7 + 8), none⟩), .slice (slA tA_3 1 (0 : Int) ((tC_3 : Nat) : Int)) ((64 : Int).toNat - (0 : Int).toNat) (((tC_3 : Nat) : Int).toNat - (0 : Int).toNat)] (fun v_1 h6 =>
                  ∃ t_4 : List Int, t_4.length = 8 ∧ v_1 = .agg ((t_4.map (Value.int .u32) ++ [])).toArray ∧
                  ∃ bv_9 ov_9 : Nat, xv = some ⟨bv_9, ov_9, none⟩ ∧
                  stH h6 bv_9 ov_9 (t_4.map (Value.int .u32) ++ []) fun h7 =>
                  ∃ bv_10 ov_10 : Nat, xv = some ⟨bv_10, ov_10, none⟩ ∧
                  ∃ (tA_4 : Option Addr) (tN_4 tC_4 : Nat), (h7.rds bv_10 (ov_10 + 72) 1 = some [.slice tA_4 tN_4 tC_4]) ∧
                  (0 ≤ (64 : Int) ∧ (64 : Int) ≤ ((tN_4 : Nat) : Int) ∧ ((tN_4 : Nat) : Int) ≤ ((tC_4 : Nat) : Int) ∧ ((tC_4 : Nat) : Int) ≤ (tC_4 : Nat)) ∧
                  ∃ bv_11 ov_11 : Nat, xv = some ⟨bv_11, ov_11, none⟩ ∧
                  stH h7 bv_11 (ov_11 + 72) [.slice (slA tA_4 1 (64 : Int) ((tC_4 : Nat) : Int)) (((tN_4 : Nat) : Int).toNat - (64 : Int).toNat) (((tC_4 : Nat) : Int).toNat - (64 : Int).toNat)] fun h8 =>
                  Jv (()) h8) h5) ∧
              ((decide (((tN_2 : Nat) : Int) ≥ (64 : Int))) = false →
                K (.int .i64 (sv.size : Int)) h5))) (()) h4) h2))) h
theorem F_sha_Sha_Write_eq {xv : Option Addr} {sv : ByteArray} {K : Value → PH → Prop} {h : PH} : @Eq Prop (F_sha_Sha_Write xv sv K h) (denF Try.prog Try.f63 ⟨[], [], [(0, ⟨[], [], []⟩)], []⟩ [.v (.pointer xv), .v (.string sv)] K h) := by
  kernel_rfl
theorem F_sha_Sha_Write_ok {xv : Option Addr} {sv : ByteArray}  {K : Value → PH → Prop} {h : PH} (hh : F_sha_Sha_Write xv sv K h) : CallH Try.prog id_sha_Sha_Write [.pointer xv, .string sv] K h :=
  denF_sound' Try.func63 (H := ⟨[], [], [(0, ⟨[], [], []⟩)], []⟩) (xs := [.v (.pointer xv), .v (.string sv)]) (by kernel_rfl) (⟨rfl, rfl, trivial⟩) (den_of F_sha_Sha_Write_eq hh)

/- (*twinlock/sha.Sha).Sum -/
def F_sha_Sha_Sum (xv : Option Addr) (K : Value → PH → Prop) (h : PH) : Prop :=
  newH h (.cells (((List.replicate 32 0).map (Value.int .u8) ++ [])).toArray T_api_Hash (0, 0)) fun bv h1 =>
  CallH Try.prog id_sha_Sha_none [.pointer xv] (fun v h2 =>
    ∃ t : Bool, v = .bool t ∧
    ((t = true →
        CallH Try.prog id_sha_Sum [.string (⟨#[]⟩ : ByteArray)] (fun v_1 h3 =>
          ∃ out : List Int, out.length = 32 ∧ v_1 = .agg ((out.map (Value.int .u8) ++ [])).toArray ∧
          stH h3 bv 0 (out.map (Value.int .u8) ++ []) fun h4 =>
          ∃ r : List Int, r.length = 32 ∧ (h4.rds bv 0 32 = some (r.map (Value.int .u8) ++ [])) ∧
          K (.agg ((r.map (Value.int .u8) ++ [])).toArray) h4) h2) ∧
      (t = false →
        newH h2 (.cells #[] 5 (0, 0)) fun bv_1 h5 =>
        ∃ bv_2 ov : Nat, xv = some ⟨bv_2, ov, none⟩ ∧
        ∃ (tA : Option Addr) (tN tC : Nat), (h5.rds bv_2 (ov + 72) 1 = some [.slice tA tN tC]) ∧
        ∃ vs : List Value, srcH h5 tA (tN * 1) vs ∧
        appH 5 1 1 [.int .u8 (0 : Int)] (some ⟨bv_1, 0, none⟩) 0 0 tN vs (fun tA_1 tN_1 tC_1 h6 =>
          appH 5 1 1 [.int .u8 (0 : Int)] tA_1 tN_1 tC_1 1 [.int .u8 (128 : Int)] (fun bA bN bC h7 =>
            LoopP (T := (Option Addr × Nat × Nat) × Unit) (fun Jv st h8 =>
              ((((((st.1.2.1 : Nat) : Int).tmod (64 : Int)) != (56 : Int)) = true →
                  appH 5 1 1 [.int .u8 (0 : Int)] st.1.1 st.1.2.1 st.1.2.2 1 [.int .u8 (0 : Int)] (fun bA_1 bN_1 bC_1 h9 =>
                    Jv ((bA_1, bN_1, bC_1), ()) h9) h8) ∧
                (((((st.1.2.1 : Nat) : Int).tmod (64 : Int)) != (56 : Int)) = false →
                  ∃ bv_3 ov_1 : Nat, xv = some ⟨bv_3, ov_1, none⟩ ∧
                  ∃ t_1 : Int, (h8.rds bv_3 (ov_1 + 73) 1 = some [.int .i64 t_1]) ∧
                  CallH Try.prog id_sha_putBig [.slice st.1.1 st.1.2.1 st.1.2.2, .int .u64 (IntKind.wrap .u64 ((IntKind.wrap .u64 t_1) * (8 : Int))), .int .i64 (8 : Int)] (fun v_2 h10 =>
                    ∃ (bA_2 : Option Addr) (bN_2 bC_2 : Nat), v_2 = .slice bA_2 bN_2 bC_2 ∧
                    ∃ bv_4 ov_2 : Nat, xv = some ⟨bv_4, ov_2, none⟩ ∧
                    ∃ hv : List Int, hv.length = 8 ∧ (h10.rds bv_4 ov_2 8 = some (hv.map (Value.int .u32) ++ [])) ∧
                    LoopP (T := (Option Addr × Nat × Nat) × List Int × Unit) (fun Jv_1 st_1 h11 =>
                      (((decide (((st_1.1.2.1 : Nat) : Int) > (0 : Int))) = true →
                          ∃ bv_5 ov_3 : Nat, xv = some ⟨bv_5, ov_3, none⟩ ∧
                          (0 ≤ (0 : Int) ∧ (0 : Int) ≤ (64 : Int) ∧ (64 : Int) ≤ ((st_1.1.2.2 : Nat) : Int) ∧ ((st_1.1.2.2 : Nat) : Int) ≤ (st_1.1.2.2 : Nat)) ∧
                          CallH Try.prog id_sha_turn [.agg ((st_1.2.1.map (Value.int .u32) ++ [])).toArray, .agg ((st_1.2.1.map (Value.int .u32) ++ [])).toArray, .pointer (some ⟨bv_5, (ov_3 + 8), none⟩), .slice (slA st_1.1.1 1 (0 : Int) ((st_1.1.2.2 : Nat) : Int)) ((64 : Int).toNat - (0 : Int).toNat) (((st_1.1.2.2 : Nat) : Int).toNat - (0 : Int).toNat)] (fun v_3 h12 =>
                            ∃ hv_1 : List Int, hv_1.length = 8 ∧ v_3 = .agg ((hv_1.map (Value.int .u32) ++ [])).toArray ∧
                            (0 ≤ (64 : Int) ∧ (64 : Int) ≤ ((st_1.1.2.1 : Nat) : Int) ∧ ((st_1.1.2.1 : Nat) : Int) ≤ ((st_1.1.2.2 : Nat) : Int) ∧ ((st_1.1.2.2 : Nat) : Int) ≤ (st_1.1.2.2 : Nat)) ∧
                            Jv_1 (((slA st_1.1.1 1 (64 : Int) ((st_1.1.2.2 : Nat) : Int)), (((st_1.1.2.1 : Nat) : Int).toNat - (64 : Int).toNat), (((st_1.1.2.2 : Nat) : Int).toNat - (64 : Int).toNat)), hv_1, ()) h12) h11) ∧
                        ((decide (((st_1.1.2.1 : Nat) : Int) > (0 : Int))) = false →
                          LoopP (T := Int × Unit) (fun Jv_2 st_2 h13 =>
                            (((decide (st_2.1 < (8 : Int))) = true →
                                (0 ≤ st_2.1 ∧ st_2.1 < (8 : Nat) ∧ st_2.1 < (8 : Nat)) ∧
                                (0 ≤ (IntKind.wrap .i64 ((4 : Int) * st_2.1)) ∧ (IntKind.wrap .i64 ((4 : Int) * st_2.1)) ≤ ((32 : Nat) : Int) ∧ ((32 : Nat) : Int) ≤ ((32 : Nat) : Int) ∧ ((32 : Nat) : Int) ≤ (32 : Nat)) ∧
                                CallH Try.prog id_sha_putBig [.slice none 0 0, .int .u64 (IntKind.wrap .u64 (st_1.2.1.getD st_2.1.toNat 0)), .int .i64 (4 : Int)] (fun v_4 h14 =>
                                  ∃ (tA_2 : Option Addr) (tN_2 tC_2 : Nat), v_4 = .slice tA_2 tN_2 tC_2 ∧
                                  ∃ vs_1 : List Value, srcH h14 tA_2 (min tN_2 (((32 : Nat) : Int).toNat - (IntKind.wrap .i64 ((4 : Int) * st_2.1)).toNat) * 1) vs_1 ∧
                                  ((vs_1.length = 0 →
                                      Jv_2 ((IntKind.wrap .i64 (st_2.1 + (1 : Int))), ()) h14) ∧
                                    (vs_1.length ≠ 0 → ∃ bv_6 ov_4 : Nat, (slA (some ⟨bv, 0, none⟩ : Option Addr) 1 (IntKind.wrap .i64 ((4 : Int) * st_2.1)) ((32 : Nat) : Int)) = some ⟨bv_6, ov_4, none⟩ ∧ stH h14 bv_6 ov_4 vs_1 fun h15 =>
                                      Jv_2 ((IntKind.wrap .i64 (st_2.1 + (1 : Int))), ()) h15))) h13) ∧
                              ((decide (st_2.1 < (8 : Int))) = false →
                                ∃ out_1 : List Int, out_1.length = 32 ∧ (h13.rds bv 0 32 = some (out_1.map (Value.int .u8) ++ [])) ∧
                                stH h13 bv 0 (out_1.map (Value.int .u8) ++ []) fun h16 =>
                                ∃ r_1 : List Int, r_1.length = 32 ∧ (h16.rds bv 0 32 = some (r_1.map (Value.int .u8) ++ [])) ∧
                                K (.agg ((r_1.map (Value.int .u8) ++ [])).toArray) h16))) ((0 : Int), ()) h11))) ((bA_2, bN_2, bC_2), hv, ()) h10) h8))) ((bA, bN, bC), ()) h7) h6) h5))) h1
theorem F_sha_Sha_Sum_eq {xv : Option Addr} {K : Value → PH → Prop} {h : PH} : @Eq Prop (F_sha_Sha_Sum xv K h) (denF Try.prog Try.f64 ⟨[4, 16, 23], [], [(0, ⟨[(3, .slice)], [], []⟩), (2, ⟨[(3, .slice)], [], [(1, [.ints .u32 8])]⟩), (4, ⟨[(51, .int .i64)], [], []⟩)], []⟩ [.v (.pointer xv)] K h) := by
  kernel_rfl
theorem F_sha_Sha_Sum_ok {xv : Option Addr}  {K : Value → PH → Prop} {h : PH} (hh : F_sha_Sha_Sum xv K h) : CallH Try.prog id_sha_Sha_Sum [.pointer xv] K h :=
  denF_sound' Try.func64 (H := ⟨[4, 16, 23], [], [(0, ⟨[(3, .slice)], [], []⟩), (2, ⟨[(3, .slice)], [], [(1, [.ints .u32 8])]⟩), (4, ⟨[(51, .int .i64)], [], []⟩)], []⟩) (xs := [.v (.pointer xv)]) (by kernel_rfl) (⟨rfl, trivial⟩) (den_of F_sha_Sha_Sum_eq hh)

/- twinlock/sha.begin -/
def F_sha_begin  (K : Value → PH → Prop) (h : PH) : Prop :=
  K (.agg ((([(1779033703 : Int), (3144134277 : Int), (1013904242 : Int), (2773480762 : Int), (1359893119 : Int), (2600822924 : Int), (528734635 : Int), (1541459225 : Int)]).map (Value.int .u32) ++ [])).toArray) h
theorem F_sha_begin_eq  {K : Value → PH → Prop} {h : PH} : @Eq Prop (F_sha_begin  K h) (denF Try.prog Try.f74 ⟨[0], [], [], []⟩ [] K h) := by
  kernel_rfl
theorem F_sha_begin_ok   {K : Value → PH → Prop} {h : PH} (hh : F_sha_begin  K h) : CallH Try.prog id_sha_begin [] K h :=
  denF_sound' Try.func74 (H := ⟨[0], [], [], []⟩) (xs := []) (by kernel_rfl) (trivial) (den_of F_sha_begin_eq hh)

/- twinlock/sha.numbers -/
def F_sha_numbers  (K : Value → PH → Prop) (h : PH) : Prop :=
  K (.agg ((([(1116352408 : Int), (1899447441 : Int), (3049323471 : Int), (3921009573 : Int), (961987163 : Int), (1508970993 : Int), (2453635748 : Int), (2870763221 : Int), (3624381080 : Int), (310598401 : Int), (607225278 : Int), (1426881987 : Int), (1925078388 : Int), (2162078206 : Int), (2614888103 : Int), (3248222580 : Int), (3835390401 : Int), (4022224774 : Int), (264347078 : Int), (604807628 : Int), (770255983 : Int), (1249150122 : Int), (1555081692 : Int), (1996064986 : Int), (2554220882 : Int), (2821834349 : Int), (2952996808 : Int), (3210313671 : Int), (3336571891 : Int), (3584528711 : Int), (113926993 : Int), (338241895 : Int), (666307205 : Int), (773529912 : Int), (1294757372 : Int), (1396182291 : Int), (1695183700 : Int), (1986661051 : Int), (2177026350 : Int), (2456956037 : Int), (2730485921 : Int), (2820302411 : Int), (3259730800 : Int), (3345764771 : Int), (3516065817 : Int), (3600352804 : Int), (4094571909 : Int), (275423344 : Int), (430227734 : Int), (506948616 : Int), (659060556 : Int), (883997877 : Int), (958139571 : Int), (1322822218 : Int), (1537002063 : Int), (1747873779 : Int), (1955562222 : Int), (2024104815 : Int), (2227730452 : Int), (2361852424 : Int), (2428436474 : Int), (2756734187 : Int), (3204031479 : Int), (3329325298 : Int)]).map (Value.int .u32) ++ [])).toArray) h
theorem F_sha_numbers_eq  {K : Value → PH → Prop} {h : PH} : @Eq Prop (F_sha_numbers  K h) (denF Try.prog Try.f75 ⟨[0], [], [], []⟩ [] K h) := by
  kernel_rfl
theorem F_sha_numbers_ok   {K : Value → PH → Prop} {h : PH} (hh : F_sha_numbers  K h) : CallH Try.prog id_sha_numbers [] K h :=
  denF_sound' Try.func75 (H := ⟨[0], [], [], []⟩) (xs := []) (by kernel_rfl) (trivial) (den_of F_sha_numbers_eq hh)

/- (*twinlock/sha.Sha).none -/
def F_sha_Sha_none (xv : Option Addr) (K : Value → PH → Prop) (h : PH) : Prop :=
  ∃ bv ov : Nat, ((Option.isNone xv) = false → xv = some ⟨bv, ov, none⟩) ∧
  ∃ t : Bool, (((Option.isNone xv) = false → h.rds bv (ov + 74) 1 = some [.bool t])) ∧
  K (.bool ((Option.isNone xv) || (!t))) h
theorem F_sha_Sha_none_eq {xv : Option Addr} {K : Value → PH → Prop} {h : PH} : @Eq Prop (F_sha_Sha_none xv K h) (denF Try.prog Try.f76 ⟨[], [], [], []⟩ [.v (.pointer xv)] K h) := by
  kernel_rfl
theorem F_sha_Sha_none_ok {xv : Option Addr}  {K : Value → PH → Prop} {h : PH} (hh : F_sha_Sha_none xv K h) : CallH Try.prog id_sha_Sha_none [.pointer xv] K h :=
  denF_sound' Try.func76 (H := ⟨[], [], [], []⟩) (xs := [.v (.pointer xv)]) (by kernel_rfl) (⟨rfl, trivial⟩) (den_of F_sha_Sha_none_eq hh)

/- twinlock/sha.turn -/
def F_sha_turn (hv : List Int) (bv : List Int) (k : Option Addr) (sA : Option Addr) (_ sC : Nat) (K : Value → PH → Prop) (h : PH) : Prop :=
  LoopP (T := Int × List Int × Unit) (fun Jv st h1 =>
    (((decide (st.1 < (16 : Int))) = true →
        (0 ≤ (IntKind.wrap .i64 ((4 : Int) * st.1)) ∧ (IntKind.wrap .i64 ((4 : Int) * st.1)) ≤ (IntKind.wrap .i64 ((IntKind.wrap .i64 ((4 : Int) * st.1)) + (4 : Int))) ∧ (IntKind.wrap .i64 ((IntKind.wrap .i64 ((4 : Int) * st.1)) + (4 : Int))) ≤ ((sC : Nat) : Int) ∧ ((sC : Nat) : Int) ≤ (sC : Nat)) ∧
        ∃ t : ByteArray, strH h1 (slA sA 1 (IntKind.wrap .i64 ((4 : Int) * st.1)) ((sC : Nat) : Int)) ((IntKind.wrap .i64 ((IntKind.wrap .i64 ((4 : Int) * st.1)) + (4 : Int))).toNat - (IntKind.wrap .i64 ((4 : Int) * st.1)).toNat) t ∧
        CallH Try.prog id_sha_getBig [.string t, .int .i64 (4 : Int)] (fun v h2 =>
          ∃ t_1 : Int, v = .int .u64 t_1 ∧
          (0 ≤ st.1 ∧ st.1 < (64 : Nat)) ∧
          (st.1.toNat * 1) < 64 ∧
          Jv ((IntKind.wrap .i64 (st.1 + (1 : Int))), (st.2.1.set (st.1.toNat * 1) (IntKind.wrap .u32 t_1)), ()) h2) h1) ∧
      ((decide (st.1 < (16 : Int))) = false →
        LoopP (T := Int × List Int × Unit) (fun Jv_1 st_1 h3 =>
          (((decide (st_1.1 < (64 : Int))) = true →
              (0 ≤ (IntKind.wrap .i64 (st_1.1 - (15 : Int))) ∧ (IntKind.wrap .i64 (st_1.1 - (15 : Int))) < (64 : Nat)) ∧
              (((IntKind.wrap .i64 (st_1.1 - (15 : Int))).toNat * 1) < 64) ∧
              (0 ≤ (IntKind.wrap .i64 (st_1.1 - (2 : Int))) ∧ (IntKind.wrap .i64 (st_1.1 - (2 : Int))) < (64 : Nat)) ∧
              (((IntKind.wrap .i64 (st_1.1 - (2 : Int))).toNat * 1) < 64) ∧
              CallH Try.prog id_math_bits_RotateLeft32 [.int .u32 (st_1.2.1.getD ((IntKind.wrap .i64 (st_1.1 - (15 : Int))).toNat * 1) 0), .int .i64 (-7 : Int)] (fun v_1 h4 =>
                ∃ t_2 : Int, v_1 = .int .u32 t_2 ∧
                CallH Try.prog id_math_bits_RotateLeft32 [.int .u32 (st_1.2.1.getD ((IntKind.wrap .i64 (st_1.1 - (15 : Int))).toNat * 1) 0), .int .i64 (-18 : Int)] (fun v_2 h5 =>
                  ∃ t_3 : Int, v_2 = .int .u32 t_3 ∧
                  CallH Try.prog id_math_bits_RotateLeft32 [.int .u32 (st_1.2.1.getD ((IntKind.wrap .i64 (st_1.1 - (2 : Int))).toNat * 1) 0), .int .i64 (-17 : Int)] (fun v_3 h6 =>
                    ∃ t_4 : Int, v_3 = .int .u32 t_4 ∧
                    CallH Try.prog id_math_bits_RotateLeft32 [.int .u32 (st_1.2.1.getD ((IntKind.wrap .i64 (st_1.1 - (2 : Int))).toNat * 1) 0), .int .i64 (-19 : Int)] (fun v_4 h7 =>
                      ∃ t_5 : Int, v_4 = .int .u32 t_5 ∧
                      (0 ≤ (IntKind.wrap .i64 (st_1.1 - (16 : Int))) ∧ (IntKind.wrap .i64 (st_1.1 - (16 : Int))) < (64 : Nat)) ∧
                      (((IntKind.wrap .i64 (st_1.1 - (16 : Int))).toNat * 1) < 64) ∧
                      (0 ≤ (IntKind.wrap .i64 (st_1.1 - (7 : Int))) ∧ (IntKind.wrap .i64 (st_1.1 - (7 : Int))) < (64 : Nat)) ∧
                      (((IntKind.wrap .i64 (st_1.1 - (7 : Int))).toNat * 1) < 64) ∧
                      (0 ≤ st_1.1 ∧ st_1.1 < (64 : Nat)) ∧
                      (st_1.1.toNat * 1) < 64 ∧
                      Jv_1 ((IntKind.wrap .i64 (st_1.1 + (1 : Int))), (st_1.2.1.set (st_1.1.toNat * 1) (IntKind.wrap .u32 ((IntKind.wrap .u32 ((IntKind.wrap .u32 ((st_1.2.1.getD ((IntKind.wrap .i64 (st_1.1 - (16 : Int))).toNat * 1) 0) + (bitsV .xor .u32 (bitsV .xor .u32 t_2 t_3) (shrV .u32 (st_1.2.1.getD ((IntKind.wrap .i64 (st_1.1 - (15 : Int))).toNat * 1) 0) (3 : Int))))) + (st_1.2.1.getD ((IntKind.wrap .i64 (st_1.1 - (7 : Int))).toNat * 1) 0))) + (bitsV .xor .u32 (bitsV .xor .u32 t_4 t_5) (shrV .u32 (st_1.2.1.getD ((IntKind.wrap .i64 (st_1.1 - (2 : Int))).toNat * 1) 0) (10 : Int)))))), ()) h7) h6) h5) h4) h3) ∧
            ((decide (st_1.1 < (64 : Int))) = false →
              LoopP (T := Int × List Int × Unit) (fun Jv_2 st_2 h8 =>
                (((decide (st_2.1 < (64 : Int))) = true →
                    ∃ bv_1 ov : Nat, k = some ⟨bv_1, ov, none⟩ ∧
                    (0 ≤ st_2.1 ∧ st_2.1 < (64 : Nat)) ∧
                    ∃ t_6 : Int, (h8.rds bv_1 (ov + st_2.1.toNat * 1) 1 = some [.int .u32 t_6]) ∧
                    (0 ≤ st_2.1 ∧ st_2.1 < (64 : Nat)) ∧
                    ((st_2.1.toNat * 1) < 64) ∧
                    CallH Try.prog id_math_bits_RotateLeft32 [.int .u32 (((st_2.2.1.drop 4).take 1).getD 0 0), .int .i64 (-6 : Int)] (fun v_5 h9 =>
                      ∃ t_7 : Int, v_5 = .int .u32 t_7 ∧
                      (h9.rds bv_1 (ov + st_2.1.toNat * 1) 1 = some [.int .u32 t_6]) ∧
                      CallH Try.prog id_math_bits_RotateLeft32 [.int .u32 (((st_2.2.1.drop 4).take 1).getD 0 0), .int .i64 (-11 : Int)] (fun v_6 h10 =>
                        ∃ t_8 : Int, v_6 = .int .u32 t_8 ∧
                        (h10.rds bv_1 (ov + st_2.1.toNat * 1) 1 = some [.int .u32 t_6]) ∧
                        CallH Try.prog id_math_bits_RotateLeft32 [.int .u32 (((st_2.2.1.drop 4).take 1).getD 0 0), .int .i64 (-25 : Int)] (fun v_7 h11 =>
                          ∃ t_9 : Int, v_7 = .int .u32 t_9 ∧
                          (h11.rds bv_1 (ov + st_2.1.toNat * 1) 1 = some [.int .u32 t_6]) ∧
                          CallH Try.prog id_math_bits_RotateLeft32 [.int .u32 ((st_2.2.1.take 1).getD 0 0), .int .i64 (-2 : Int)] (fun v_8 h12 =>
                            ∃ t_10 : Int, v_8 = .int .u32 t_10 ∧
                            CallH Try.prog id_math_bits_RotateLeft32 [.int .u32 ((st_2.2.1.take 1).getD 0 0), .int .i64 (-13 : Int)] (fun v_9 h13 =>
                              ∃ t_11 : Int, v_9 = .int .u32 t_11 ∧
                              CallH Try.prog id_math_bits_RotateLeft32 [.int .u32 ((st_2.2.1.take 1).getD 0 0), .int .i64 (-22 : Int)] (fun v_10 h14 =>
                                ∃ t_12 : Int, v_10 = .int .u32 t_12 ∧
                                Jv_2 ((IntKind.wrap .i64 (st_2.1 + (1 : Int))), [(IntKind.wrap .u32 ((IntKind.wrap .u32 ((IntKind.wrap .u32 ((IntKind.wrap .u32 ((IntKind.wrap .u32 (((st_2.2.1.drop 7).getD 0 0) + (bitsV .xor .u32 (bitsV .xor .u32 t_7 t_8) t_9))) + (bitsV .xor .u32 (bitsV .and .u32 (((st_2.2.1.drop 4).take 1).getD 0 0) (((st_2.2.1.drop 5).take 1).getD 0 0)) (bitsV .and .u32 (bitsV .xor .u32 (IntKind.max .u32) (((st_2.2.1.drop 4).take 1).getD 0 0)) (((st_2.2.1.drop 6).take 1).getD 0 0))))) + t_6)) + (st_1.2.1.getD (st_2.1.toNat * 1) 0))) + (IntKind.wrap .u32 ((bitsV .xor .u32 (bitsV .xor .u32 t_10 t_11) t_12) + (bitsV .xor .u32 (bitsV .xor .u32 (bitsV .and .u32 ((st_2.2.1.take 1).getD 0 0) (((st_2.2.1.drop 1).take 1).getD 0 0)) (bitsV .and .u32 ((st_2.2.1.take 1).getD 0 0) (((st_2.2.1.drop 2).take 1).getD 0 0))) (bitsV .and .u32 (((st_2.2.1.drop 1).take 1).getD 0 0) (((st_2.2.1.drop 2).take 1).getD 0 0))))))), ((st_2.2.1.take 1).getD 0 0), (((st_2.2.1.drop 1).take 1).getD 0 0), (((st_2.2.1.drop 2).take 1).getD 0 0), (IntKind.wrap .u32 ((((st_2.2.1.drop 3).take 1).getD 0 0) + (IntKind.wrap .u32 ((IntKind.wrap .u32 ((IntKind.wrap .u32 ((IntKind.wrap .u32 (((st_2.2.1.drop 7).getD 0 0) + (bitsV .xor .u32 (bitsV .xor .u32 t_7 t_8) t_9))) + (bitsV .xor .u32 (bitsV .and .u32 (((st_2.2.1.drop 4).take 1).getD 0 0) (((st_2.2.1.drop 5).take 1).getD 0 0)) (bitsV .and .u32 (bitsV .xor .u32 (IntKind.max .u32) (((st_2.2.1.drop 4).take 1).getD 0 0)) (((st_2.2.1.drop 6).take 1).getD 0 0))))) + t_6)) + (st_1.2.1.getD (st_2.1.toNat * 1) 0))))), (((st_2.2.1.drop 4).take 1).getD 0 0), (((st_2.2.1.drop 5).take 1).getD 0 0), (((st_2.2.1.drop 6).take 1).getD 0 0)], ()) h14) h13) h12) h11) h10) h9) h8) ∧
                  ((decide (st_2.1 < (64 : Int))) = false →
                    LoopP (T := Int × List Int × Unit) (fun Jv_3 st_3 h15 =>
                      (((decide (st_3.1 < (8 : Int))) = true →
                          (0 ≤ st_3.1 ∧ st_3.1 < (8 : Nat)) ∧
                          ((st_3.1.toNat * 1) < 8) ∧
                          (0 ≤ st_3.1 ∧ st_3.1 < (8 : Nat)) ∧
                          ((st_3.1.toNat * 1) < 8) ∧
                          (0 ≤ st_3.1 ∧ st_3.1 < (8 : Nat)) ∧
                          (st_3.1.toNat * 1) < 8 ∧
                          Jv_3 ((IntKind.wrap .i64 (st_3.1 + (1 : Int))), (st_3.2.1.set (st_3.1.toNat * 1) (IntKind.wrap .u32 ((st_3.2.1.getD (st_3.1.toNat * 1) 0) + (st_2.2.1.getD (st_3.1.toNat * 1) 0)))), ()) h15) ∧
                        ((decide (st_3.1 < (8 : Int))) = false →
                          K (.agg ((st_3.2.1.map (Value.int .u32) ++ [])).toArray) h15))) ((0 : Int), hv, ()) h8))) ((0 : Int), bv, ()) h3))) ((16 : Int), st.2.1, ()) h1))) ((0 : Int), (List.replicate 64 0), ()) h
theorem F_sha_turn_eq {hv : List Int} {bv : List Int} {k : Option Addr} {sA : Option Addr} {sN sC : Nat} {K : Value → PH → Prop} {h : PH} : @Eq Prop (F_sha_turn hv bv k sA sN sC K h) (denF Try.prog Try.f77 ⟨[4, 5, 8, 9], [(18, .of [0, 1, 2, 4, 7, 11, 12, 13, 14, 15, 16, 17, 18, 19, 20, 22, 23, 24, 25, 26, 28, 29, 30, 3, 5, 6, 8, 9, 10, 21, 27, 31, 32]), (19, .of [0, 2, 5, 8, 9, 10, 11, 12, 13, 14, 15, 16, 17, 18, 19, 20, 21, 22, 1, 3, 4, 6, 7, 23, 24])], [(0, ⟨[(22, .int .i64)], [], [(3, [.ints .u32 64])]⟩), (2, ⟨[(11, .int .i64)], [], [(3, [.ints .u32 64])]⟩), (4, ⟨[(81, .int .i64)], [], [(1, [.ints .u32 8])]⟩), (6, ⟨[(165, .int .i64)], [], [(0, [.ints .u32 8])]⟩)], []⟩ [.agg [.ints .u32 8 hv], .agg [.ints .u32 8 bv], .v (.pointer k), .v (.slice sA sN sC)] K h) := by
  kernel_rfl
theorem F_sha_turn_ok {hv : List Int} {bv : List Int} {k : Option Addr} {sA : Option Addr} {sN sC : Nat} (hk0 : hv.length = 8) (hk1 : bv.length = 8) {K : Value → PH → Prop} {h : PH} (hh : F_sha_turn hv bv k sA sN sC K h) : CallH Try.prog id_sha_turn [.agg ((hv.map (Value.int .u32) ++ [])).toArray, .agg ((bv.map (Value.int .u32) ++ [])).toArray, .pointer k, .slice sA sN sC] K h :=
  denF_sound' Try.func77 (H := ⟨[4, 5, 8, 9], [(18, .of [0, 1, 2, 4, 7, 11, 12, 13, 14, 15, 16, 17, 18, 19, 20, 22, 23, 24, 25, 26, 28, 29, 30, 3, 5, 6, 8, 9, 10, 21, 27, 31, 32]), (19, .of [0, 2, 5, 8, 9, 10, 11, 12, 13, 14, 15, 16, 17, 18, 19, 20, 21, 22, 1, 3, 4, 6, 7, 23, 24])], [(0, ⟨[(22, .int .i64)], [], [(3, [.ints .u32 64])]⟩), (2, ⟨[(11, .int .i64)], [], [(3, [.ints .u32 64])]⟩), (4, ⟨[(81, .int .i64)], [], [(1, [.ints .u32 8])]⟩), (6, ⟨[(165, .int .i64)], [], [(0, [.ints .u32 8])]⟩)], []⟩) (xs := [.agg [.ints .u32 8 hv], .agg [.ints .u32 8 bv], .v (.pointer k), .v (.slice sA sN sC)]) (by kernel_rfl) (⟨⟨hk0, trivial⟩, ⟨hk1, trivial⟩, rfl, rfl, trivial⟩) (den_of F_sha_turn_eq hh)

/- twinlock/sha.putBig -/
def F_sha_putBig (bA : Option Addr) (bN bC : Nat) (xv : Int) (n : Int) (K : Value → PH → Prop) (h : PH) : Prop :=
  LoopP (T := (Option Addr × Nat × Nat) × Int × Unit) (fun Jv st h1 =>
    (((decide (st.2.1 ≥ (0 : Int))) = true →
        (0 ≤ (IntKind.wrap .i64 ((8 : Int) * st.2.1))) ∧
        appH 5 1 1 [.int .u8 (0 : Int)] st.1.1 st.1.2.1 st.1.2.2 1 [.int .u8 (IntKind.wrap .u8 (shrV .u64 xv (IntKind.wrap .i64 ((8 : Int) * st.2.1))))] (fun bA_1 bN_1 bC_1 h2 =>
          Jv ((bA_1, bN_1, bC_1), (IntKind.wrap .i64 (st.2.1 - (1 : Int))), ()) h2) h1) ∧
      ((decide (st.2.1 ≥ (0 : Int))) = false →
        K (.slice st.1.1 st.1.2.1 st.1.2.2) h1))) ((bA, bN, bC), (IntKind.wrap .i64 (n - (1 : Int))), ()) h
theorem F_sha_putBig_eq {bA : Option Addr} {bN bC : Nat} {xv : Int} {n : Int} {K : Value → PH → Prop} {h : PH} : @Eq Prop (F_sha_putBig bA bN bC xv n K h) (denF Try.prog Try.f78 ⟨[20], [], [(0, ⟨[(0, .slice), (7, .int .i64)], [], []⟩)], []⟩ [.v (.slice bA bN bC), .v (.int .u64 xv), .v (.int .i64 n)] K h) := by
  kernel_rfl
theorem F_sha_putBig_ok {bA : Option Addr} {bN bC : Nat} {xv : Int} {n : Int}  {K : Value → PH → Prop} {h : PH} (hh : F_sha_putBig bA bN bC xv n K h) : CallH Try.prog id_sha_putBig [.slice bA bN bC, .int .u64 xv, .int .i64 n] K h :=
  denF_sound' Try.func78 (H := ⟨[20], [], [(0, ⟨[(0, .slice), (7, .int .i64)], [], []⟩)], []⟩) (xs := [.v (.slice bA bN bC), .v (.int .u64 xv), .v (.int .i64 n)]) (by kernel_rfl) (⟨rfl, rfl, rfl, trivial⟩) (den_of F_sha_putBig_eq hh)

/- twinlock/sha.getBig -/
def F_sha_getBig (sv : ByteArray) (n : Int) (K : Value → PH → Prop) (h : PH) : Prop :=
  LoopP (T := Int × Int × Unit) (fun Jv st h1 =>
    (((decide (st.2.1 < n)) = true →
        (0 ≤ st.2.1 ∧ st.2.1 < (ByteArray.size sv : Nat)) ∧
        Jv ((bitsV .or .u64 (shlV .u64 st.1 (8 : Int)) (IntKind.wrap .u64 (byteAt sv st.2.1))), (IntKind.wrap .i64 (st.2.1 + (1 : Int))), ()) h1) ∧
      ((decide (st.2.1 < n)) = false →
        K (.int .u64 st.1) h1))) ((0 : Int), (0 : Int), ()) h
theorem F_sha_getBig_eq {sv : ByteArray} {n : Int} {K : Value → PH → Prop} {h : PH} : @Eq Prop (F_sha_getBig sv n K h) (denF Try.prog Try.f85 ⟨[], [], [(0, ⟨[(4, .int .u64), (7, .int .i64)], [], []⟩)], []⟩ [.v (.string sv), .v (.int .i64 n)] K h) := by
  kernel_rfl
theorem F_sha_getBig_ok {sv : ByteArray} {n : Int}  {K : Value → PH → Prop} {h : PH} (hh : F_sha_getBig sv n K h) : CallH Try.prog id_sha_getBig [.string sv, .int .i64 n] K h :=
  denF_sound' Try.func85 (H := ⟨[], [], [(0, ⟨[(4, .int .u64), (7, .int .i64)], [], []⟩)], []⟩) (xs := [.v (.string sv), .v (.int .i64 n)]) (by kernel_rfl) (⟨rfl, rfl, trivial⟩) (den_of F_sha_getBig_eq hh)

/- math/bits.RotateLeft32 -/
def F_math_bits_RotateLeft32 (xv : Int) (k : Int) (K : Value → PH → Prop) (h : PH) : Prop :=
  (0 ≤ (bitsV .and .u64 (IntKind.wrap .u64 k) (31 : Int))) ∧
  (0 ≤ (IntKind.wrap .u64 ((32 : Int) - (bitsV .and .u64 (IntKind.wrap .u64 k) (31 : Int))))) ∧
  K (.int .u32 (bitsV .or .u32 (shlV .u32 xv (bitsV .and .u64 (IntKind.wrap .u64 k) (31 : Int))) (shrV .u32 xv (IntKind.wrap .u64 ((32 : Int) - (bitsV .and .u64 (IntKind.wrap .u64 k) (31 : Int))))))) h
theorem F_math_bits_RotateLeft32_eq {xv : Int} {k : Int} {K : Value → PH → Prop} {h : PH} : @Eq Prop (F_math_bits_RotateLeft32 xv k K h) (denF Try.prog Try.f86 ⟨[], [], [], []⟩ [.v (.int .u32 xv), .v (.int .i64 k)] K h) := by
  kernel_rfl
theorem F_math_bits_RotateLeft32_ok {xv : Int} {k : Int}  {K : Value → PH → Prop} {h : PH} (hh : F_math_bits_RotateLeft32 xv k K h) : CallH Try.prog id_math_bits_RotateLeft32 [.int .u32 xv, .int .i64 k] K h :=
  denF_sound' Try.func86 (H := ⟨[], [], [], []⟩) (xs := [.v (.int .u32 xv), .v (.int .i64 k)]) (by kernel_rfl) (⟨rfl, rfl, trivial⟩) (den_of F_math_bits_RotateLeft32_eq hh)

/- math/bits.Len64 -/
def F_math_bits_Len64 (xv : Int) (K : Value → PH → Prop) (h : PH) : Prop :=
  JoinP (T := Int × Int × Unit) (fun Jv =>
    (((decide (xv ≥ (4294967296 : Int))) = true →
        Jv ((shrV .u64 xv (32 : Int)), (32 : Int), ()) h) ∧
      ((decide (xv ≥ (4294967296 : Int))) = false →
        Jv (xv, (0 : Int), ()) h)))
  (fun st h1 =>
    JoinP (T := Int × Int × Unit) (fun Jv_1 =>
      (((decide (st.1 ≥ (65536 : Int))) = true →
          Jv_1 ((shrV .u64 st.1 (16 : Int)), (IntKind.wrap .i64 (st.2.1 + (16 : Int))), ()) h1) ∧
        ((decide (st.1 ≥ (65536 : Int))) = false →
          Jv_1 (st.1, st.2.1, ()) h1)))
    (fun st_1 h2 =>
      (((decide (st_1.1 ≥ (256 : Int))) = true →
          (0 ≤ (IntKind.wrap .u8 (shrV .u64 st_1.1 (8 : Int))) ∧ (IntKind.wrap .u8 (shrV .u64 st_1.1 (8 : Int))) < (ByteArray.size (⟨#[0, 1, 2, 2, 3, 3, 3, 3, 4, 4, 4, 4, 4, 4, 4, 4, 5, 5, 5, 5, 5, 5, 5, 5, 5, 5, 5, 5, 5, 5, 5, 5, 6, 6, 6, 6, 6, 6, 6, 6, 6, 6, 6, 6, 6, 6, 6, 6, 6, 6, 6, 6, 6, 6, 6, 6, 6, 6, 6, 6, 6, 6, 6, 6, 7, 7, 7, 7, 7, 7, 7, 7, 7, 7, 7, 7, 7, 7, 7, 7, 7, 7, 7, 7, 7, 7, 7, 7, 7, 7, 7, 7, 7, 7, 7, 7, 7, 7, 7, 7, 7, 7, 7, 7, 7, 7, 7, 7, 7, 7, 7, 7, 7, 7, 7, 7, 7, 7, 7, 7, 7, 7, 7, 7, 7, 7, 7, 7, 8, 8, 8, 8, 8, 8, 8, 8, 8, 8, 8, 8, 8, 8, 8, 8, 8, 8, 8, 8, 8, 8, 8, 8, 8, 8, 8, 8, 8, 8, 8, 8, 8, 8, 8, 8, 8, 8, 8, 8, 8, 8, 8, 8, 8, 8, 8, 8, 8, 8, 8, 8, 8, 8, 8, 8, 8, 8, 8, 8, 8, 8, 8, 8, 8, 8, 8, 8, 8, 8, 8, 8, 8, 8, 8, 8, 8, 8, 8, 8, 8, 8, 8, 8, 8, 8, 8, 8, 8, 8, 8, 8, 8, 8, 8, 8, 8, 8, 8, 8, 8, 8, 8, 8, 8, 8, 8, 8, 8, 8, 8, 8, 8, 8, 8, 8, 8, 8, 8, 8, 8, 8, 8, 8, 8, 8, 8, 8]⟩ : ByteArray) : Nat)) ∧
          K (.int .i64 (IntKind.wrap .i64 ((IntKind.wrap .i64 (st_1.2.1 + (8 : Int))) + (IntKind.wrap .i64 (byteAt (⟨#[0, 1, 2, 2, 3, 3, 3, 3, 4, 4, 4, 4, 4, 4, 4, 4, 5, 5, 5, 5, 5, 5, 5, 5, 5, 5, 5, 5, 5, 5, 5, 5, 6, 6, 6, 6, 6, 6, 6, 6, 6, 6, 6, 6, 6, 6, 6, 6, 6, 6, 6, 6, 6, 6, 6, 6, 6, 6, 6, 6, 6, 6, 6, 6, 7, 7, 7, 7, 7, 7, 7, 7, 7, 7, 7, 7, 7, 7, 7, 7, 7, 7, 7, 7, 7, 7, 7, 7, 7, 7, 7, 7, 7, 7, 7, 7, 7, 7, 7, 7, 7, 7, 7, 7, 7, 7, 7, 7, 7, 7, 7, 7, 7, 7, 7, 7, 7, 7, 7, 7, 7, 7, 7, 7, 7, 7, 7, 7, 8, 8, 8, 8, 8, 8, 8, 8, 8, 8, 8, 8, 8, 8, 8, 8, 8, 8, 8, 8, 8, 8, 8, 8, 8, 8, 8, 8, 8, 8, 8, 8, 8, 8, 8, 8, 8, 8, 8, 8, 8, 8, 8, 8, 8, 8, 8, 8, 8, 8, 8, 8, 8, 8, 8, 8, 8, 8, 8, 8, 8, 8, 8, 8, 8, 8, 8, 8, 8, 8, 8, 8, 8, 8, 8, 8, 8, 8, 8, 8, 8, 8, 8, 8, 8, 8, 8, 8, 8, 8, 8, 8, 8, 8, 8, 8, 8, 8, 8, 8, 8, 8, 8, 8, 8, 8, 8, 8, 8, 8, 8, 8, 8, 8, 8, 8, 8, 8, 8, 8, 8, 8, 8, 8, 8, 8, 8, 8]⟩ : ByteArray) (IntKind.wrap .u8 (shrV .u64 st_1.1 (8 : Int)))))))) h2) ∧
        ((decide (st_1.1 ≥ (256 : Int))) = false →
          (0 ≤ (IntKind.wrap .u8 st_1.1) ∧ (IntKind.wrap .u8 st_1.1) < (ByteArray.size (⟨#[0, 1, 2, 2, 3, 3, 3, 3, 4, 4, 4, 4, 4, 4, 4, 4, 5, 5, 5, 5, 5, 5, 5, 5, 5, 5, 5, 5, 5, 5, 5, 5, 6, 6, 6, 6, 6, 6, 6, 6, 6, 6, 6, 6, 6, 6, 6, 6, 6, 6, 6, 6, 6, 6, 6, 6, 6, 6, 6, 6, 6, 6, 6, 6, 7, 7, 7, 7, 7, 7, 7, 7, 7, 7, 7, 7, 7, 7, 7, 7, 7, 7, 7, 7, 7, 7, 7, 7, 7, 7, 7, 7, 7, 7, 7, 7, 7, 7, 7, 7, 7, 7, 7, 7, 7, 7, 7, 7, 7, 7, 7, 7, 7, 7, 7, 7, 7, 7, 7, 7, 7, 7, 7, 7, 7, 7, 7, 7, 8, 8, 8, 8, 8, 8, 8, 8, 8, 8, 8, 8, 8, 8, 8, 8, 8, 8, 8, 8, 8, 8, 8, 8, 8, 8, 8, 8, 8, 8, 8, 8, 8, 8, 8, 8, 8, 8, 8, 8, 8, 8, 8, 8, 8, 8, 8, 8, 8, 8, 8, 8, 8, 8, 8, 8, 8, 8, 8, 8, 8, 8, 8, 8, 8, 8, 8, 8, 8, 8, 8, 8, 8, 8, 8, 8, 8, 8, 8, 8, 8, 8, 8, 8, 8, 8, 8, 8, 8, 8, 8, 8, 8, 8, 8, 8, 8, 8, 8, 8, 8, 8, 8, 8, 8, 8, 8, 8, 8, 8, 8, 8, 8, 8, 8, 8, 8, 8, 8, 8, 8, 8, 8, 8, 8, 8, 8, 8]⟩ : ByteArray) : Nat)) ∧
          K (.int .i64 (IntKind.wrap .i64 (st_1.2.1 + (IntKind.wrap .i64 (byteAt (⟨#[0, 1, 2, 2, 3, 3, 3, 3, 4, 4, 4, 4, 4, 4, 4, 4, 5, 5, 5, 5, 5, 5, 5, 5, 5, 5, 5, 5, 5, 5, 5, 5, 6, 6, 6, 6, 6, 6, 6, 6, 6, 6, 6, 6, 6, 6, 6, 6, 6, 6, 6, 6, 6, 6, 6, 6, 6, 6, 6, 6, 6, 6, 6, 6, 7, 7, 7, 7, 7, 7, 7, 7, 7, 7, 7, 7, 7, 7, 7, 7, 7, 7, 7, 7, 7, 7, 7, 7, 7, 7, 7, 7, 7, 7, 7, 7, 7, 7, 7, 7, 7, 7, 7, 7, 7, 7, 7, 7, 7, 7, 7, 7, 7, 7, 7, 7, 7, 7, 7, 7, 7, 7, 7, 7, 7, 7, 7, 7, 8, 8, 8, 8, 8, 8, 8, 8, 8, 8, 8, 8, 8, 8, 8, 8, 8, 8, 8, 8, 8, 8, 8, 8, 8, 8, 8, 8, 8, 8, 8, 8, 8, 8, 8, 8, 8, 8, 8, 8, 8, 8, 8, 8, 8, 8, 8, 8, 8, 8, 8, 8, 8, 8, 8, 8, 8, 8, 8, 8, 8, 8, 8, 8, 8, 8, 8, 8, 8, 8, 8, 8, 8, 8, 8, 8, 8, 8, 8, 8, 8, 8, 8, 8, 8, 8, 8, 8, 8, 8, 8, 8, 8, 8, 8, 8, 8, 8, 8, 8, 8, 8, 8, 8, 8, 8, 8, 8, 8, 8, 8, 8, 8, 8, 8, 8, 8, 8, 8, 8, 8, 8, 8, 8, 8, 8, 8, 8]⟩ : ByteArray) (IntKind.wrap .u8 st_1.1)))))) h2))))
theorem F_math_bits_Len64_eq {xv : Int} {K : Value → PH → Prop} {h : PH} : @Eq Prop (F_math_bits_Len64 xv K h) (denF Try.prog Try.f87 ⟨[], [], [], [(10, ⟨[(0, .int .u64), (2, .int .i64)], [], []⟩), (16, ⟨[(0, .int .u64), (2, .int .i64)], [], []⟩)]⟩ [.v (.int .u64 xv)] K h) := by
  kernel_rfl
theorem F_math_bits_Len64_ok {xv : Int}  {K : Value → PH → Prop} {h : PH} (hh : F_math_bits_Len64 xv K h) : CallH Try.prog id_math_bits_Len64 [.int .u64 xv] K h :=
  denF_sound' Try.func87 (H := ⟨[], [], [], [(10, ⟨[(0, .int .u64), (2, .int .i64)], [], []⟩), (16, ⟨[(0, .int .u64), (2, .int .i64)], [], []⟩)]⟩) (xs := [.v (.int .u64 xv)]) (by kernel_rfl) (⟨rfl, trivial⟩) (den_of F_math_bits_Len64_eq hh)


end TL

namespace TL
open Go Go.Proofs
/- twinlock/twinlocklaw13.GreatPairs -/
def F_law13_GreatPairs (lA : Option Addr) (lN _ : Nat) (K : Value → PH → Prop) (h : PH) : Prop :=
  (((decide (((lN : Nat) : Int) > (200 : Int))) = true →
      K (.bool true) h) ∧
    ((decide (((lN : Nat) : Int) > (200 : Int))) = false →
      LoopP (T := Int × Unit) (fun Jv st h1 =>
        (((decide (st.1 < ((lN : Nat) : Int))) = true →
            ∃ bv ov : Nat, (lA = some ⟨bv, ov, none⟩ ∧ 0 ≤ st.1 ∧ st.1 < (lN : Nat)) ∧
            ∃ t : ByteArray, (h1.rds bv (ov + st.1.toNat * 2) 1 = some [.string t]) ∧
            ∃ bv_1 ov_1 : Nat, (((decide ((t.size : Int) > (1000 : Int))) = false → lA = some ⟨bv_1, ov_1, none⟩ ∧ 0 ≤ st.1 ∧ st.1 < (lN : Nat))) ∧
            ∃ t_1 : ByteArray, (((decide ((t.size : Int) > (1000 : Int))) = false → h1.rds bv_1 ((ov_1 + st.1.toNat * 2) + 1) 1 = some [.string t_1])) ∧
            ((((decide ((t.size : Int) > (1000 : Int))) || (decide ((t_1.size : Int) > (1000 : Int)))) = true →
                K (.bool true) h1) ∧
              (((decide ((t.size : Int) > (1000 : Int))) || (decide ((t_1.size : Int) > (1000 : Int)))) = false →
                Jv ((IntKind.wrap .i64 (st.1 + (1 : Int))), ()) h1))) ∧
          ((decide (st.1 < ((lN : Nat) : Int))) = false →
            K (.bool false) h1))) ((0 : Int), ()) h))
theorem F_law13_GreatPairs_eq {lA : Option Addr} {lN lC : Nat} {K : Value → PH → Prop} {h : PH} : @Eq Prop (F_law13_GreatPairs lA lN lC K h) (denF Try.prog Try.f27 ⟨[], [], [(0, ⟨[(3, .int .i64)], [], []⟩)], []⟩ [.v (.slice lA lN lC)] K h) := by
  kernel_rfl
theorem F_law13_GreatPairs_ok {lA : Option Addr} {lN lC : Nat}  {K : Value → PH → Prop} {h : PH} (hh : F_law13_GreatPairs lA lN lC K h) : CallH Try.prog id_law13_GreatPairs [.slice lA lN lC] K h :=
  denF_sound' Try.func27 (H := ⟨[], [], [(0, ⟨[(3, .int .i64)], [], []⟩)], []⟩) (xs := [.v (.slice lA lN lC)]) (by kernel_rfl) (⟨rfl, trivial⟩) (den_of F_law13_GreatPairs_eq hh)

/- twinlock/bucket.May -/
def F_bucket_May (lA : Option Addr) (lN _ : Nat) (K : Value → PH → Prop) (h : PH) : Prop :=
  LoopP (T := Int × Unit) (fun Jv st h1 =>
    (((decide (st.1 < ((lN : Nat) : Int))) = true →
        ∃ bv ov : Nat, (lA = some ⟨bv, ov, none⟩ ∧ 0 ≤ st.1 ∧ st.1 < (lN : Nat)) ∧
        ∃ x0 : ByteArray, ∃ x1 : ByteArray, (h1.rds bv (ov + st.1.toNat * 2) 2 = some [.string x0, .string x1]) ∧
        CallH Try.prog id_path_Cut [.string x0] (fun v h2 =>
          ∃ t0 : ByteArray, ∃ t1 : ByteArray, ∃ t2 : Bool, v = .tuple #[.string t0, .string t1, .bool t2] ∧
          ((((!t2) || (decide ((x1.size : Int) > (32 : Int)))) = false →
              ∃ bv_1 ov_1 : Nat, (((decide (st.1 > (0 : Int))) = true → lA = some ⟨bv_1, ov_1, none⟩ ∧ 0 ≤ (IntKind.wrap .i64 (st.1 - (1 : Int))) ∧ (IntKind.wrap .i64 (st.1 - (1 : Int))) < (lN : Nat))) ∧
              ∃ t : ByteArray, (((decide (st.1 > (0 : Int))) = true → h2.rds bv_1 (ov_1 + (IntKind.wrap .i64 (st.1 - (1 : Int))).toNat * 2) 1 = some [.string t])) ∧
              ((((decide (st.1 > (0 : Int))) && (!(strLt t x0))) = true →
                  K (.bool false) h2) ∧
                (((decide (st.1 > (0 : Int))) && (!(strLt t x0))) = false →
                  Jv ((IntKind.wrap .i64 (st.1 + (1 : Int))), ()) h2))) ∧
            (((!t2) || (decide ((x1.size : Int) > (32 : Int)))) = true →
              K (.bool false) h2))) h1) ∧
      ((decide (st.1 < ((lN : Nat) : Int))) = false →
        K (.bool true) h1))) ((0 : Int), ()) h
theorem F_bucket_May_eq {lA : Option Addr} {lN lC : Nat} {K : Value → PH → Prop} {h : PH} : @Eq Prop (F_bucket_May lA lN lC K h) (denF Try.prog Try.f33 ⟨[4], [], [(0, ⟨[(10, .int .i64)], [], []⟩)], []⟩ [.v (.slice lA lN lC)] K h) := by
  kernel_rfl
theorem F_bucket_May_ok {lA : Option Addr} {lN lC : Nat}  {K : Value → PH → Prop} {h : PH} (hh : F_bucket_May lA lN lC K h) : CallH Try.prog id_bucket_May [.slice lA lN lC] K h :=
  denF_sound' Try.func33 (H := ⟨[4], [], [(0, ⟨[(10, .int .i64)], [], []⟩)], []⟩) (xs := [.v (.slice lA lN lC)]) (by kernel_rfl) (⟨rfl, trivial⟩) (den_of F_bucket_May_eq hh)

/- slices.Clone[[]string,string] -/
def F_slices_Clone_string_string (sA : Option Addr) (sN _ : Nat) (K : Value → PH → Prop) (h : PH) : Prop :=
  (((Option.isNone sA) = true →
      K (.slice none 0 0) h) ∧
    ((Option.isNone sA) = false →
      newH h (.cells #[] 9 (0, 0)) fun bv h1 =>
      ∃ vs : List Value, srcH h1 sA (sN * 1) vs ∧
      appH 9 1 16 [.string (⟨#[]⟩ : ByteArray)] (some ⟨bv, 0, none⟩) 0 0 sN vs (fun tA tN tC h2 =>
        K (.slice tA tN tC) h2) h1))
theorem F_slices_Clone_string_string_eq {sA : Option Addr} {sN sC : Nat} {K : Value → PH → Prop} {h : PH} : @Eq Prop (F_slices_Clone_string_string sA sN sC K h) (denF Try.prog Try.f40 ⟨[], [], [], []⟩ [.v (.slice sA sN sC)] K h) := by
  kernel_rfl
theorem F_slices_Clone_string_string_ok {sA : Option Addr} {sN sC : Nat}  {K : Value → PH → Prop} {h : PH} (hh : F_slices_Clone_string_string sA sN sC K h) : CallH Try.prog id_slices_Clone_string_string [.slice sA sN sC] K h :=
  denF_sound' Try.func40 (H := ⟨[], [], [], []⟩) (xs := [.v (.slice sA sN sC)]) (by kernel_rfl) (⟨rfl, trivial⟩) (den_of F_slices_Clone_string_string_eq hh)

/- slices.Clone[[]twinlock/api.Op,twinlock/api.Op] -/
def F_slices_Clone_api_Op_api_Op (sA : Option Addr) (sN _ : Nat) (K : Value → PH → Prop) (h : PH) : Prop :=
  (((Option.isNone sA) = true →
      K (.slice none 0 0) h) ∧
    ((Option.isNone sA) = false →
      newH h (.cells #[] T_api_Op (0, 0)) fun bv h1 =>
      ∃ vs : List Value, srcH h1 sA (sN * 3) vs ∧
      appH T_api_Op 3 40 [.int .u8 (0 : Int), .string (⟨#[]⟩ : ByteArray), .string (⟨#[]⟩ : ByteArray)] (some ⟨bv, 0, none⟩) 0 0 sN vs (fun tA tN tC h2 =>
        K (.slice tA tN tC) h2) h1))
theorem F_slices_Clone_api_Op_api_Op_eq {sA : Option Addr} {sN sC : Nat} {K : Value → PH → Prop} {h : PH} : @Eq Prop (F_slices_Clone_api_Op_api_Op sA sN sC K h) (denF Try.prog Try.f41 ⟨[], [], [], []⟩ [.v (.slice sA sN sC)] K h) := by
  kernel_rfl
theorem F_slices_Clone_api_Op_api_Op_ok {sA : Option Addr} {sN sC : Nat}  {K : Value → PH → Prop} {h : PH} (hh : F_slices_Clone_api_Op_api_Op sA sN sC K h) : CallH Try.prog id_slices_Clone_api_Op_api_Op [.slice sA sN sC] K h :=
  denF_sound' Try.func41 (H := ⟨[], [], [], []⟩) (xs := [.v (.slice sA sN sC)]) (by kernel_rfl) (⟨rfl, trivial⟩) (den_of F_slices_Clone_api_Op_api_Op_eq hh)

/- twinlock/path.Cut -/
def F_path_Cut (p : ByteArray) (K : Value → PH → Prop) (h : PH) : Prop :=
  CallH Try.prog id_strings_Cut [.string p, .string (⟨#[47]⟩ : ByteArray)] (fun v h1 =>
    ∃ t0 : ByteArray, ∃ t1 : ByteArray, ∃ t2 : Bool, v = .tuple #[.string t0, .string t1, .bool t2] ∧
    (((!t2) = false →
        CallH Try.prog id_path_named [.string t0] (fun v_1 h2 =>
          ∃ t : Bool, v_1 = .bool t ∧
          (((!t) = false →
              CallH Try.prog id_path_key [.string t1] (fun v_2 h3 =>
                ∃ t_1 : Bool, v_2 = .bool t_1 ∧
                (((!t_1) = true →
                    K (.tuple #[.string (⟨#[]⟩ : ByteArray), .string (⟨#[]⟩ : ByteArray), .bool false]) h3) ∧
                  ((!t_1) = false →
                    K (.tuple #[.string t0, .string t1, .bool true]) h3))) h2) ∧
            ((!t) = true →
              K (.tuple #[.string (⟨#[]⟩ : ByteArray), .string (⟨#[]⟩ : ByteArray), .bool false]) h2))) h1) ∧
      ((!t2) = true →
        K (.tuple #[.string (⟨#[]⟩ : ByteArray), .string (⟨#[]⟩ : ByteArray), .bool false]) h1))) h
theorem F_path_Cut_eq {p : ByteArray} {K : Value → PH → Prop} {h : PH} : @Eq Prop (F_path_Cut p K h) (denF Try.prog Try.f43 ⟨[], [], [], []⟩ [.v (.string p)] K h) := by
  kernel_rfl
theorem F_path_Cut_ok {p : ByteArray}  {K : Value → PH → Prop} {h : PH} (hh : F_path_Cut p K h) : CallH Try.prog id_path_Cut [.string p] K h :=
  denF_sound' Try.func43 (H := ⟨[], [], [], []⟩) (xs := [.v (.string p)]) (by kernel_rfl) (⟨rfl, trivial⟩) (den_of F_path_Cut_eq hh)

/- slices.Replace[[]twinlock/api.Pair,twinlock/api.Pair] -/
set_option maxRecDepth 100000 in
def F_slices_Replace_api_Pair_api_Pair (sA : Option Addr) (sN sC : Nat) (i : Int) (j : Int) (vA : Option Addr) (vN vC : Nat) (K : Value → PH → Prop) (h : PH) : Prop :=
  (0 ≤ i ∧ i ≤ j ∧ j ≤ ((sC : Nat) : Int) ∧ ((sC : Nat) : Int) ≤ (sC : Nat)) ∧
  (((i == j) = true →
      CallH Try.prog id_slices_Insert_api_Pair_api_Pair [.slice sA sN sC, .int .i64 i, .slice vA vN vC] (fun v h1 =>
        ∃ (tA : Option Addr) (tN tC : Nat), v = .slice tA tN tC ∧
        K (.slice tA tN tC) h1) h) ∧
    ((i == j) = false →
      (((j == ((sN : Nat) : Int)) = true →
          (0 ≤ (0 : Int) ∧ (0 : Int) ≤ i ∧ i ≤ ((sC : Nat) : Int) ∧ ((sC : Nat) : Int) ≤ (sC : Nat)) ∧
          ∃ vs : List Value, srcH h vA (vN * 2) vs ∧
          appH T_api_Pair 2 32 [.string (⟨#[]⟩ : ByteArray), .string (⟨#[]⟩ : ByteArray)] (slA sA 2 (0 : Int) ((sC : Nat) : Int)) (i.toNat - (0 : Int).toNat) (((sC : Nat) : Int).toNat - (0 : Int).toNat) vN vs (fun s2A s2N s2C h2 =>
            (((decide (((s2N : Nat) : Int) < ((sN : Nat) : Int))) = true →
                (0 ≤ ((s2N : Nat) : Int) ∧ ((s2N : Nat) : Int) ≤ ((sN : Nat) : Int) ∧ ((sN : Nat) : Int) ≤ ((sC : Nat) : Int) ∧ ((sC : Nat) : Int) ≤ (sC : Nat)) ∧
                (((((sN : Nat) : Int).toNat - ((s2N : Nat) : Int).toNat) * 2 = 0 →
                    K (.slice s2A s2N s2C) h2) ∧
                  ((((sN : Nat) : Int).toNat - ((s2N : Nat) : Int).toNat) * 2 ≠ 0 → ∃ bv ov : Nat, (slA sA 2 ((s2N : Nat) : Int) ((sC : Nat) : Int)) = some ⟨bv, ov, none⟩ ∧ stH h2 bv ov (List.replicate (((sN : Nat) : Int).toNat - ((s2N : Nat) : Int).toNat) [.string (⟨#[]⟩ : ByteArray), .string (⟨#[]⟩ : ByteArray)]).flatten fun h3 =>
                    K (.slice s2A s2N s2C) h3))) ∧
              ((decide (((s2N : Nat) : Int) < ((sN : Nat) : Int))) = false →
                K (.slice s2A s2N s2C) h2))) h) ∧
        ((j == ((sN : Nat) : Int)) = false →
          (0 ≤ (0 : Int) ∧ (0 : Int) ≤ i ∧ i ≤ ((sC : Nat) : Int) ∧ ((sC : Nat) : Int) ≤ (sC : Nat)) ∧
          (0 ≤ j ∧ j ≤ ((sN : Nat) : Int) ∧ ((sN : Nat) : Int) ≤ ((sC : Nat) : Int) ∧ ((sC : Nat) : Int) ≤ (sC : Nat)) ∧
          (((decide ((IntKind.wrap .i64 ((IntKind.wrap .i64 ((((i.toNat - (0 : Int).toNat) : Nat) : Int) + ((vN : Nat) : Int))) + (((((sN : Nat) : Int).toNat - j.toNat) : Nat) : Int))) > ((sC : Nat) : Int))) = true →
              (0 ≤ (0 : Int) ∧ (0 : Int) ≤ i ∧ i ≤ ((sC : Nat) : Int) ∧ ((sC : Nat) : Int) ≤ (sC : Nat)) ∧
              (0 ≤ (IntKind.wrap .i64 ((IntKind.wrap .i64 ((IntKind.wrap .i64 ((((i.toNat - (0 : Int).toNat) : Nat) : Int) + ((vN : Nat) : Int))) + (((((sN : Nat) : Int).toNat - j.toNat) : Nat) : Int))) - i)) ∧ (IntKind.wrap .i64 ((IntKind.wrap .i64 ((IntKind.wrap .i64 ((((i.toNat - (0 : Int).toNat) : Nat) : Int) + ((vN : Nat) : Int))) + (((((sN : Nat) : Int).toNat - j.toNat) : Nat) : Int))) - i)) * (32 : Nat) ≤ 140737488355328) ∧
              appH T_api_Pair 2 32 [.string (⟨#[]⟩ : ByteArray), .string (⟨#[]⟩ : ByteArray)] (slA sA 2 (0 : Int) ((sC : Nat) : Int)) (i.toNat - (0 : Int).toNat) (((sC : Nat) : Int).toNat - (0 : Int).toNat) ((IntKind.wrap .i64 ((IntKind.wrap .i64 ((IntKind.wrap .i64 ((((i.toNat - (0 : Int).toNat) : Nat) : Int) + ((vN : Nat) : Int))) + (((((sN : Nat) : Int).toNat - j.toNat) : Nat) : Int))) - i))).toNat (List.replicate ((IntKind.wrap .i64 ((IntKind.wrap .i64 ((IntKind.wrap .i64 ((((i.toNat - (0 : Int).toNat) : Nat) : Int) + ((vN : Nat) : Int))) + (((((sN : Nat) : Int).toNat - j.toNat) : Nat) : Int))) - i))).toNat [.string (⟨#[]⟩ : ByteArray), .string (⟨#[]⟩ : ByteArray)]).flatten (fun s2A_1 s2N_1 s2C_1 h4 =>
                (0 ≤ i ∧ i ≤ ((s2N_1 : Nat) : Int) ∧ ((s2N_1 : Nat) : Int) ≤ ((s2C_1 : Nat) : Int) ∧ ((s2C_1 : Nat) : Int) ≤ (s2C_1 : Nat)) ∧
                ∃ vs_1 : List Value, srcH h4 vA (min vN (((s2N_1 : Nat) : Int).toNat - i.toNat) * 2) vs_1 ∧
                ((vs_1.length = 0 →
                    (0 ≤ (IntKind.wrap .i64 (i + ((vN : Nat) : Int))) ∧ (IntKind.wrap .i64 (i + ((vN : Nat) : Int))) ≤ ((s2N_1 : Nat) : Int) ∧ ((s2N_1 : Nat) : Int) ≤ ((s2C_1 : Nat) : Int) ∧ ((s2C_1 : Nat) : Int) ≤ (s2C_1 : Nat)) ∧
                    (0 ≤ j ∧ j ≤ ((sN : Nat) : Int) ∧ ((sN : Nat) : Int) ≤ ((sC : Nat) : Int) ∧ ((sC : Nat) : Int) ≤ (sC : Nat)) ∧
                    ∃ vs_2 : List Value, srcH h4 (slA sA 2 j ((sC : Nat) : Int)) (min (((sN : Nat) : Int).toNat - j.toNat) (((s2N_1 : Nat) : Int).toNat - (IntKind.wrap .i64 (i + ((vN : Nat) : Int))).toNat) * 2) vs_2 ∧
                    ((vs_2.length = 0 →
                        K (.slice s2A_1 s2N_1 s2C_1) h4) ∧
                      (vs_2.length ≠ 0 → ∃ bv_2 ov_2 : Nat, (slA s2A_1 2 (IntKind.wrap .i64 (i + ((vN : Nat) : Int))) ((s2C_1 : Nat) : Int)) = some ⟨bv_2, ov_2, none⟩ ∧ stH h4 bv_2 ov_2 vs_2 fun h6 =>
                        K (.slice s2A_1 s2N_1 s2C_1) h6))) ∧
                  (vs_1.length ≠ 0 → ∃ bv_1 ov_1 : Nat, (slA s2A_1 2 i ((s2C_1 : Nat) : Int)) = some ⟨bv_1, ov_1, none⟩ ∧ stH h4 bv_1 ov_1 vs_1 fun h5 =>
                    (0 ≤ (IntKind.wrap .i64 (i + ((vN : Nat) : Int))) ∧ (IntKind.wrap .i64 (i + ((vN : Nat) : Int))) ≤ ((s2N_1 : Nat) : Int) ∧ ((s2N_1 : Nat) : Int) ≤ ((s2C_1 : Nat) : Int) ∧ ((s2C_1 : Nat) : Int) ≤ (s2C_1 : Nat)) ∧
                    (0 ≤ j ∧ j ≤ ((sN : Nat) : Int) ∧ ((sN : Nat) : Int) ≤ ((sC : Nat) : Int) ∧ ((sC : Nat) : Int) ≤ (sC : Nat)) ∧
                    ∃ vs_3 : List Value, srcH h5 (slA sA 2 j ((sC : Nat) : Int)) (min (((sN : Nat) : Int).toNat - j.toNat) (((s2N_1 : Nat) : Int).toNat - (IntKind.wrap .i64 (i + ((vN : Nat) : Int))).toNat) * 2) vs_3 ∧
                    ((vs_3.length = 0 →
                        K (.slice s2A_1 s2N_1 s2C_1) h5) ∧
                      (vs_3.length ≠ 0 → ∃ bv_3 ov_3 : Nat, (slA s2A_1 2 (IntKind.wrap .i64 (i + ((vN : Nat) : Int))) ((s2C_1 : Nat) : Int)) = some ⟨bv_3, ov_3, none⟩ ∧ stH h5 bv_3 ov_3 vs_3 fun h7 =>
                        K (.slice s2A_1 s2N_1 s2C_1) h7))))) h) ∧
            ((decide ((IntKind.wrap .i64 ((IntKind.wrap .i64 ((((i.toNat - (0 : Int).toNat) : Nat) : Int) + ((vN : Nat) : Int))) + (((((sN : Nat) : Int).toNat - j.toNat) : Nat) : Int))) > ((sC : Nat) : Int))) = false →
              (0 ≤ (0 : Int) ∧ (0 : Int) ≤ (IntKind.wrap .i64 ((IntKind.wrap .i64 ((((i.toNat - (0 : Int).toNat) : Nat) : Int) + ((vN : Nat) : Int))) + (((((sN : Nat) : Int).toNat - j.toNat) : Nat) : Int))) ∧ (IntKind.wrap .i64 ((IntKind.wrap .i64 ((((i.toNat - (0 : Int).toNat) : Nat) : Int) + ((vN : Nat) : Int))) + (((((sN : Nat) : Int).toNat - j.toNat) : Nat) : Int))) ≤ ((sC : Nat) : Int) ∧ ((sC : Nat) : Int) ≤ (sC : Nat)) ∧
              (((decide ((IntKind.wrap .i64 (i + ((vN : Nat) : Int))) ≤ j)) = true →
                  (0 ≤ i ∧ i ≤ ((((IntKind.wrap .i64 ((IntKind.wrap .i64 ((((i.toNat - (0 : Int).toNat) : Nat) : Int) + ((vN : Nat) : Int))) + (((((sN : Nat) : Int).toNat - j.toNat) : Nat) : Int))).toNat - (0 : Int).toNat) : Nat) : Int) ∧ ((((IntKind.wrap .i64 ((IntKind.wrap .i64 ((((i.toNat - (0 : Int).toNat) : Nat) : Int) + ((vN : Nat) : Int))) + (((((sN : Nat) : Int).toNat - j.toNat) : Nat) : Int))).toNat - (0 : Int).toNat) : Nat) : Int) ≤ (((((sC : Nat) : Int).toNat - (0 : Int).toNat) : Nat) : Int) ∧ (((((sC : Nat) : Int).toNat - (0 : Int).toNat) : Nat) : Int) ≤ ((((sC : Nat) : Int).toNat - (0 : Int).toNat) : Nat)) ∧
                  ∃ vs_4 : List Value, srcH h vA (min vN (((((IntKind.wrap .i64 ((IntKind.wrap .i64 ((((i.toNat - (0 : Int).toNat) : Nat) : Int) + ((vN : Nat) : Int))) + (((((sN : Nat) : Int).toNat - j.toNat) : Nat) : Int))).toNat - (0 : Int).toNat) : Nat) : Int).toNat - i.toNat) * 2) vs_4 ∧
                  ((vs_4.length = 0 →
                      (0 ≤ (IntKind.wrap .i64 (i + ((vN : Nat) : Int))) ∧ (IntKind.wrap .i64 (i + ((vN : Nat) : Int))) ≤ ((((IntKind.wrap .i64 ((IntKind.wrap .i64 ((((i.toNat - (0 : Int).toNat) : Nat) : Int) + ((vN : Nat) : Int))) + (((((sN : Nat) : Int).toNat - j.toNat) : Nat) : Int))).toNat - (0 : Int).toNat) : Nat) : Int) ∧ ((((IntKind.wrap .i64 ((IntKind.wrap .i64 ((((i.toNat - (0 : Int).toNat) : Nat) : Int) + ((vN : Nat) : Int))) + (((((sN : Nat) : Int).toNat - j.toNat) : Nat) : Int))).toNat - (0 : Int).toNat) : Nat) : Int) ≤ (((((sC : Nat) : Int).toNat - (0 : Int).toNat) : Nat) : Int) ∧ (((((sC : Nat) : Int).toNat - (0 : Int).toNat) : Nat) : Int) ≤ ((((sC : Nat) : Int).toNat - (0 : Int).toNat) : Nat)) ∧
                      (0 ≤ j ∧ j ≤ ((sN : Nat) : Int) ∧ ((sN : Nat) : Int) ≤ ((sC : Nat) : Int) ∧ ((sC : Nat) : Int) ≤ (sC : Nat)) ∧
                      ∃ vs_5 : List Value, srcH h (slA sA 2 j ((sC : Nat) : Int)) (min (((sN : Nat) : Int).toNat - j.toNat) (((((IntKind.wrap .i64 ((IntKind.wrap .i64 ((((i.toNat - (0 : Int).toNat) : Nat) : Int) + ((vN : Nat) : Int))) + (((((sN : Nat) : Int).toNat - j.toNat) : Nat) : Int))).toNat - (0 : Int).toNat) : Nat) : Int).toNat - (IntKind.wrap .i64 (i + ((vN : Nat) : Int))).toNat) * 2) vs_5 ∧
                      ((vs_5.length = 0 →
                          (0 ≤ (IntKind.wrap .i64 ((IntKind.wrap .i64 ((((i.toNat - (0 : Int).toNat) : Nat) : Int) + ((vN : Nat) : Int))) + (((((sN : Nat) : Int).toNat - j.toNat) : Nat) : Int))) ∧ (IntKind.wrap .i64 ((IntKind.wrap .i64 ((((i.toNat - (0 : Int).toNat) : Nat) : Int) + ((vN : Nat) : Int))) + (((((sN : Nat) : Int).toNat - j.toNat) : Nat) : Int))) ≤ ((sN : Nat) : Int) ∧ ((sN : Nat) : Int) ≤ ((sC : Nat) : Int) ∧ ((sC : Nat) : Int) ≤ (sC : Nat)) ∧
                          (((((sN : Nat) : Int).toNat - (IntKind.wrap .i64 ((IntKind.wrap .i64 ((((i.toNat - (0 : Int).toNat) : Nat) : Int) + ((vN : Nat) : Int))) + (((((sN : Nat) : Int).toNat - j.toNat) : Nat) : Int))).toNat) * 2 = 0 →
                              K (.slice (slA sA 2 (0 : Int) ((sC : Nat) : Int)) ((IntKind.wrap .i64 ((IntKind.wrap .i64 ((((i.toNat - (0 : Int).toNat) : Nat) : Int) + ((vN : Nat) : Int))) + (((((sN : Nat) : Int).toNat - j.toNat) : Nat) : Int))).toNat - (0 : Int).toNat) (((sC : Nat) : Int).toNat - (0 : Int).toNat)) h) ∧
                            ((((sN : Nat) : Int).toNat - (IntKind.wrap .i64 ((IntKind.wrap .i64 ((((i.toNat - (0 : Int).toNat) : Nat) : Int) + ((vN : Nat) : Int))) + (((((sN : Nat) : Int).toNat - j.toNat) : Nat) : Int))).toNat) * 2 ≠ 0 → ∃ bv_6 ov_6 : Nat, (slA sA 2 (IntKind.wrap .i64 ((IntKind.wrap .i64 ((((i.toNat - (0 : Int).toNat) : Nat) : Int) + ((vN : Nat) : Int))) + (((((sN : Nat) : Int).toNat - j.toNat) : Nat) : Int))) ((sC : Nat) : Int)) = some ⟨bv_6, ov_6, none⟩ ∧ stH h bv_6 ov_6 (List.replicate (((sN : Nat) : Int).toNat - (IntKind.wrap .i64 ((IntKind.wrap .i64 ((((i.toNat - (0 : Int).toNat) : Nat) : Int) + ((vN : Nat) : Int))) + (((((sN : Nat) : Int).toNat - j.toNat) : Nat) : Int))).toNat) [.string (⟨#[]⟩ : ByteArray), .string (⟨#[]⟩ : ByteArray)]).flatten fun h10 =>
                              K (.slice (slA sA 2 (0 : Int) ((sC : Nat) : Int)) ((IntKind.wrap .i64 ((IntKind.wrap .i64 ((((i.toNat - (0 : Int).toNat) : Nat) : Int) + ((vN : Nat) : Int))) + (((((sN : Nat) : Int).toNat - j.toNat) : Nat) : Int))).toNat - (0 : Int).toNat) (((sC : Nat) : Int).toNat - (0 : Int).toNat)) h10))) ∧
                        (vs_5.length ≠ 0 → ∃ bv_5 ov_5 : Nat, (slA (slA sA 2 (0 : Int) ((sC : Nat) : Int)) 2 (IntKind.wrap .i64 (i + ((vN : Nat) : Int))) (((((sC : Nat) : Int).toNat - (0 : Int).toNat) : Nat) : Int)) = some ⟨bv_5, ov_5, none⟩ ∧ stH h bv_5 ov_5 vs_5 fun h9 =>
                          (0 ≤ (IntKind.wrap .i64 ((IntKind.wrap .i64 ((((i.toNat - (0 : Int).toNat) : Nat) : Int) + ((vN : Nat) : Int))) + (((((sN : Nat) : Int).toNat - j.toNat) : Nat) : Int))) ∧ (IntKind.wrap .i64 ((IntKind.wrap .i64 ((((i.toNat - (0 : Int).toNat) : Nat) : Int) + ((vN : Nat) : Int))) + (((((sN : Nat) : Int).toNat - j.toNat) : Nat) : Int))) ≤ ((sN : Nat) : Int) ∧ ((sN : Nat) : Int) ≤ ((sC : Nat) : Int) ∧ ((sC : Nat) : Int) ≤ (sC : Nat)) ∧
                          (((((sN : Nat) : Int).toNat - (IntKind.wrap .i64 ((IntKind.wrap .i64 ((((i.toNat - (0 : Int).toNat) : Nat) : Int) + ((vN : Nat) : Int))) + (((((sN : Nat) : Int).toNat - j.toNat) : Nat) : Int))).toNat) * 2 = 0 →
                              K (.slice (slA sA 2 (0 : Int) ((sC : Nat) : Int)) ((IntKind.wrap .i64 ((IntKind.wrap .i64 ((((i.toNat - (0 : Int).toNat) : Nat) : Int) + ((vN : Nat) : Int))) + (((((sN : Nat) : Int).toNat - j.toNat) : Nat) : Int))).toNat - (0 : Int).toNat) (((sC : Nat) : Int).toNat - (0 : Int).toNat)) h9) ∧
                            ((((sN : Nat) : Int).toNat - (IntKind.wrap .i64 ((IntKind.wrap .i64 ((((i.toNat - (0 : Int).toNat) : Nat) : Int) + ((vN : Nat) : Int))) + (((((sN : Nat) : Int).toNat - j.toNat) : Nat) : Int))).toNat) * 2 ≠ 0 → ∃ bv_7 ov_7 : Nat, (slA sA 2 (IntKind.wrap .i64 ((IntKind.wrap .i64 ((((i.toNat - (0 : Int).toNat) : Nat) : Int) + ((vN : Nat) : Int))) + (((((sN : Nat) : Int).toNat - j.toNat) : Nat) : Int))) ((sC : Nat) : Int)) = some ⟨bv_7, ov_7, none⟩ ∧ stH h9 bv_7 ov_7 (List.replicate (((sN : Nat) : Int).toNat - (IntKind.wrap .i64 ((IntKind.wrap .i64 ((((i.toNat - (0 : Int).toNat) : Nat) : Int) + ((vN : Nat) : Int))) + (((((sN : Nat) : Int).toNat - j.toNat) : Nat) : Int))).toNat) [.string (⟨#[]⟩ : ByteArray), .string (⟨#[]⟩ : ByteArray)]).flatten fun h11 =>
                              K (.slice (slA sA 2 (0 : Int) ((sC : Nat) : Int)) ((IntKind.wrap .i64 ((IntKind.wrap .i64 ((((i.toNat - (0 : Int).toNat) : Nat) : Int) + ((vN : Nat) : Int))) + (((((sN : Nat) : Int).toNat - j.toNat) : Nat) : Int))).toNat - (0 : Int).toNat) (((sC : Nat) : Int).toNat - (0 : Int).toNat)) h11))))) ∧
                    (vs_4.length ≠ 0 → ∃ bv_4 ov_4 : Nat, (slA (slA sA 2 (0 : Int) ((sC : Nat) : Int)) 2 i (((((sC : Nat) : Int).toNat - (0 : Int).toNat) : Nat) : Int)) = some ⟨bv_4, ov_4, none⟩ ∧ stH h bv_4 ov_4 vs_4 fun h8 =>
                      (0 ≤ (IntKind.wrap .i64 (i + ((vN : Nat) : Int))) ∧ (IntKind.wrap .i64 (i + ((vN : Nat) : Int))) ≤ ((((IntKind.wrap .i64 ((IntKind.wrap .i64 ((((i.toNat - (0 : Int).toNat) : Nat) : Int) + ((vN : Nat) : Int))) + (((((sN : Nat) : Int).toNat - j.toNat) : Nat) : Int))).toNat - (0 : Int).toNat) : Nat) : Int) ∧ ((((IntKind.wrap .i64 ((IntKind.wrap .i64 ((((i.toNat - (0 : Int).toNat) : Nat) : Int) + ((vN : Nat) : Int))) + (((((sN : Nat) : Int).toNat - j.toNat) : Nat) : Int))).toNat - (0 : Int).toNat) : Nat) : Int) ≤ (((((sC : Nat) : Int).toNat - (0 : Int).toNat) : Nat) : Int) ∧ (((((sC : Nat) : Int).toNat - (0 : Int).toNat) : Nat) : Int) ≤ ((((sC : Nat) : Int).toNat - (0 : Int).toNat) : Nat)) ∧
                      (0 ≤ j ∧ j ≤ ((sN : Nat) : Int) ∧ ((sN : Nat) : Int) ≤ ((sC : Nat) : Int) ∧ ((sC : Nat) : Int) ≤ (sC : Nat)) ∧
                      ∃ vs_6 : List Value, srcH h8 (slA sA 2 j ((sC : Nat) : Int)) (min (((sN : Nat) : Int).toNat - j.toNat) (((((IntKind.wrap .i64 ((IntKind.wrap .i64 ((((i.toNat - (0 : Int).toNat) : Nat) : Int) + ((vN : Nat) : Int))) + (((((sN : Nat) : Int).toNat - j.toNat) : Nat) : Int))).toNat - (0 : Int).toNat) : Nat) : Int).toNat - (IntKind.wrap .i64 (i + ((vN : Nat) : Int))).toNat) * 2) vs_6 ∧
                      ((vs_6.length = 0 →
                          (0 ≤ (IntKind.wrap .i64 ((IntKind.wrap .i64 ((((i.toNat - (0 : Int).toNat) : Nat) : Int) + ((vN : Nat) : Int))) + (((((sN : Nat) : Int).toNat - j.toNat) : Nat) : Int))) ∧ (IntKind.wrap .i64 ((IntKind.wrap .i64 ((((i.toNat - (0 : Int).toNat) : Nat) : Int) + ((vN : Nat) : Int))) + (((((sN : Nat) : Int).toNat - j.toNat) : Nat) : Int))) ≤ ((sN : Nat) : Int) ∧ ((sN : Nat) : Int) ≤ ((sC : Nat) : Int) ∧ ((sC : Nat) : Int) ≤ (sC : Nat)) ∧
                          (((((sN : Nat) : Int).toNat - (IntKind.wrap .i64 ((IntKind.wrap .i64 ((((i.toNat - (0 : Int).toNat) : Nat) : Int) + ((vN : Nat) : Int))) + (((((sN : Nat) : Int).toNat - j.toNat) : Nat) : Int))).toNat) * 2 = 0 →
                              K (.slice (slA sA 2 (0 : Int) ((sC : Nat) : Int)) ((IntKind.wrap .i64 ((IntKind.wrap .i64 ((((i.toNat - (0 : Int).toNat) : Nat) : Int) + ((vN : Nat) : Int))) + (((((sN : Nat) : Int).toNat - j.toNat) : Nat) : Int))).toNat - (0 : Int).toNat) (((sC : Nat) : Int).toNat - (0 : Int).toNat)) h8) ∧
                            ((((sN : Nat) : Int).toNat - (IntKind.wrap .i64 ((IntKind.wrap .i64 ((((i.toNat - (0 : Int).toNat) : Nat) : Int) + ((vN : Nat) : Int))) + (((((sN : Nat) : Int).toNat - j.toNat) : Nat) : Int))).toNat) * 2 ≠ 0 → ∃ bv_9 ov_9 : Nat, (slA sA 2 (IntKind.wrap .i64 ((IntKind.wrap .i64 ((((i.toNat - (0 : Int).toNat) : Nat) : Int) + ((vN : Nat) : Int))) + (((((sN : Nat) : Int).toNat - j.toNat) : Nat) : Int))) ((sC : Nat) : Int)) = some ⟨bv_9, ov_9, none⟩ ∧ stH h8 bv_9 ov_9 (List.replicate (((sN : Nat) : Int).toNat - (IntKind.wrap .i64 ((IntKind.wrap .i64 ((((i.toNat - (0 : Int).toNat) : Nat) : Int) + ((vN : Nat) : Int))) + (((((sN : Nat) : Int).toNat - j.toNat) : Nat) : Int))).toNat) [.string (⟨#[]⟩ : ByteArray), .string (⟨#[]⟩ : ByteArray)]).flatten fun h13 =>
                              K (.slice (slA sA 2 (0 : Int) ((sC : Nat) : Int)) ((IntKind.wrap .i64 ((IntKind.wrap .i64 ((((i.toNat - (0 : Int).toNat) : Nat) : Int) + ((vN : Nat) : Int))) + (((((sN : Nat) : Int).toNat - j.toNat) : Nat) : Int))).toNat - (0 : Int).toNat) (((sC : Nat) : Int).toNat - (0 : Int).toNat)) h13))) ∧
                        (vs_6.length ≠ 0 → ∃ bv_8 ov_8 : Nat, (slA (slA sA 2 (0 : Int) ((sC : Nat) : Int)) 2 (IntKind.wrap .i64 (i + ((vN : Nat) : Int))) (((((sC : Nat) : Int).toNat - (0 : Int).toNat) : Nat) : Int)) = some ⟨bv_8, ov_8, none⟩ ∧ stH h8 bv_8 ov_8 vs_6 fun h12 =>
                          (0 ≤ (IntKind.wrap .i64 ((IntKind.wrap .i64 ((((i.toNat - (0 : Int).toNat) : Nat) : Int) + ((vN : Nat) : Int))) + (((((sN : Nat) : Int).toNat - j.toNat) : Nat) : Int))) ∧ (IntKind.wrap .i64 ((IntKind.wrap .i64 ((((i.toNat - (0 : Int).toNat) : Nat) : Int) + ((vN : Nat) : Int))) + (((((sN : Nat) : Int).toNat - j.toNat) : Nat) : Int))) ≤ ((sN : Nat) : Int) ∧ ((sN : Nat) : Int) ≤ ((sC : Nat) : Int) ∧ ((sC : Nat) : Int) ≤ (sC : Nat)) ∧
                          (((((sN : Nat) : Int).toNat - (IntKind.wrap .i64 ((IntKind.wrap .i64 ((((i.toNat - (0 : Int).toNat) : Nat) : Int) + ((vN : Nat) : Int))) + (((((sN : Nat) : Int).toNat - j.toNat) : Nat) : Int))).toNat) * 2 = 0 →
                              K (.slice (slA sA 2 (0 : Int) ((sC : Nat) : Int)) ((IntKind.wrap .i64 ((IntKind.wrap .i64 ((((i.toNat - (0 : Int).toNat) : Nat) : Int) + ((vN : Nat) : Int))) + (((((sN : Nat) : Int).toNat - j.toNat) : Nat) : Int))).toNat - (0 : Int).toNat) (((sC : Nat) : Int).toNat - (0 : Int).toNat)) h12) ∧
                            ((((sN : Nat) : Int).toNat - (IntKind.wrap .i64 ((IntKind.wrap .i64 ((((i.toNat - (0 : Int).toNat) : Nat) : Int) + ((vN : Nat) : Int))) + (((((sN : Nat) : Int).toNat - j.toNat) : Nat) : Int))).toNat) * 2 ≠ 0 → ∃ bv_10 ov_10 : Nat, (slA sA 2 (IntKind.wrap .i64 ((IntKind.wrap .i64 ((((i.toNat - (0 : Int).toNat) : Nat) : Int) + ((vN : Nat) : Int))) + (((((sN : Nat) : Int).toNat - j.toNat) : Nat) : Int))) ((sC : Nat) : Int)) = some ⟨bv_10, ov_10, none⟩ ∧ stH h12 bv_10 ov_10 (List.replicate (((sN : Nat) : Int).toNat - (IntKind.wrap .i64 ((IntKind.wrap .i64 ((((i.toNat - (0 : Int).toNat) : Nat) : Int) + ((vN : Nat) : Int))) + (((((sN : Nat) : Int).toNat - j.toNat) : Nat) : Int))).toNat) [.string (⟨#[]⟩ : ByteArray), .string (⟨#[]⟩ : ByteArray)]).flatten fun h14 =>
                              K (.slice (slA sA 2 (0 : Int) ((sC : Nat) : Int)) ((IntKind.wrap .i64 ((IntKind.wrap .i64 ((((i.toNat - (0 : Int).toNat) : Nat) : Int) + ((vN : Nat) : Int))) + (((((sN : Nat) : Int).toNat - j.toNat) : Nat) : Int))).toNat - (0 : Int).toNat) (((sC : Nat) : Int).toNat - (0 : Int).toNat)) h14))))))) ∧
                ((decide ((IntKind.wrap .i64 (i + ((vN : Nat) : Int))) ≤ j)) = false →
                  (0 ≤ (IntKind.wrap .i64 (i + ((vN : Nat) : Int))) ∧ (IntKind.wrap .i64 (i + ((vN : Nat) : Int))) ≤ ((((IntKind.wrap .i64 ((IntKind.wrap .i64 ((((i.toNat - (0 : Int).toNat) : Nat) : Int) + ((vN : Nat) : Int))) + (((((sN : Nat) : Int).toNat - j.toNat) : Nat) : Int))).toNat - (0 : Int).toNat) : Nat) : Int) ∧ ((((IntKind.wrap .i64 ((IntKind.wrap .i64 ((((i.toNat - (0 : Int).toNat) : Nat) : Int) + ((vN : Nat) : Int))) + (((((sN : Nat) : Int).toNat - j.toNat) : Nat) : Int))).toNat - (0 : Int).toNat) : Nat) : Int) ≤ (((((sC : Nat) : Int).toNat - (0 : Int).toNat) : Nat) : Int) ∧ (((((sC : Nat) : Int).toNat - (0 : Int).toNat) : Nat) : Int) ≤ ((((sC : Nat) : Int).toNat - (0 : Int).toNat) : Nat)) ∧
                  ExtH Try.prog id_slices_overlaps_api_Pair [.slice (slA (slA sA 2 (0 : Int) ((sC : Nat) : Int)) 2 (IntKind.wrap .i64 (i + ((vN : Nat) : Int))) (((((sC : Nat) : Int).toNat - (0 : Int).toNat) : Nat) : Int)) (((((IntKind.wrap .i64 ((IntKind.wrap .i64 ((((i.toNat - (0 : Int).toNat) : Nat) : Int) + ((vN : Nat) : Int))) + (((((sN : Nat) : Int).toNat - j.toNat) : Nat) : Int))).toNat - (0 : Int).toNat) : Nat) : Int).toNat - (IntKind.wrap .i64 (i + ((vN : Nat) : Int))).toNat) ((((((sC : Nat) : Int).toNat - (0 : Int).toNat) : Nat) : Int).toNat - (IntKind.wrap .i64 (i + ((vN : Nat) : Int))).toNat), .slice vA vN vC] (fun v_1 h15 =>
                    ∃ t : Bool, v_1 = .bool t ∧
                    (((!t) = true →
                        (0 ≤ (IntKind.wrap .i64 (i + ((vN : Nat) : Int))) ∧ (IntKind.wrap .i64 (i + ((vN : Nat) : Int))) ≤ ((((IntKind.wrap .i64 ((IntKind.wrap .i64 ((((i.toNat - (0 : Int).toNat) : Nat) : Int) + ((vN : Nat) : Int))) + (((((sN : Nat) : Int).toNat - j.toNat) : Nat) : Int))).toNat - (0 : Int).toNat) : Nat) : Int) ∧ ((((IntKind.wrap .i64 ((IntKind.wrap .i64 ((((i.toNat - (0 : Int).toNat) : Nat) : Int) + ((vN : Nat) : Int))) + (((((sN : Nat) : Int).toNat - j.toNat) : Nat) : Int))).toNat - (0 : Int).toNat) : Nat) : Int) ≤ (((((sC : Nat) : Int).toNat - (0 : Int).toNat) : Nat) : Int) ∧ (((((sC : Nat) : Int).toNat - (0 : Int).toNat) : Nat) : Int) ≤ ((((sC : Nat) : Int).toNat - (0 : Int).toNat) : Nat)) ∧
                        (0 ≤ j ∧ j ≤ ((sN : Nat) : Int) ∧ ((sN : Nat) : Int) ≤ ((sC : Nat) : Int) ∧ ((sC : Nat) : Int) ≤ (sC : Nat)) ∧
                        ∃ vs_7 : List Value, srcH h15 (slA sA 2 j ((sC : Nat) : Int)) (min (((sN : Nat) : Int).toNat - j.toNat) (((((IntKind.wrap .i64 ((IntKind.wrap .i64 ((((i.toNat - (0 : Int).toNat) : Nat) : Int) + ((vN : Nat) : Int))) + (((((sN : Nat) : Int).toNat - j.toNat) : Nat) : Int))).toNat - (0 : Int).toNat) : Nat) : Int).toNat - (IntKind.wrap .i64 (i + ((vN : Nat) : Int))).toNat) * 2) vs_7 ∧
                        ((vs_7.length = 0 →
                            (0 ≤ i ∧ i ≤ ((((IntKind.wrap .i64 ((IntKind.wrap .i64 ((((i.toNat - (0 : Int).toNat) : Nat) : Int) + ((vN : Nat) : Int))) + (((((sN : Nat) : Int).toNat - j.toNat) : Nat) : Int))).toNat - (0 : Int).toNat) : Nat) : Int) ∧ ((((IntKind.wrap .i64 ((IntKind.wrap .i64 ((((i.toNat - (0 : Int).toNat) : Nat) : Int) + ((vN : Nat) : Int))) + (((((sN : Nat) : Int).toNat - j.toNat) : Nat) : Int))).toNat - (0 : Int).toNat) : Nat) : Int) ≤ (((((sC : Nat) : Int).toNat - (0 : Int).toNat) : Nat) : Int) ∧ (((((sC : Nat) : Int).toNat - (0 : Int).toNat) : Nat) : Int) ≤ ((((sC : Nat) : Int).toNat - (0 : Int).toNat) : Nat)) ∧
                            ∃ vs_8 : List Value, srcH h15 vA (min vN (((((IntKind.wrap .i64 ((IntKind.wrap .i64 ((((i.toNat - (0 : Int).toNat) : Nat) : Int) + ((vN : Nat) : Int))) + (((((sN : Nat) : Int).toNat - j.toNat) : Nat) : Int))).toNat - (0 : Int).toNat) : Nat) : Int).toNat - i.toNat) * 2) vs_8 ∧
                            ((vs_8.length = 0 →
                                K (.slice (slA sA 2 (0 : Int) ((sC : Nat) : Int)) ((IntKind.wrap .i64 ((IntKind.wrap .i64 ((((i.toNat - (0 : Int).toNat) : Nat) : Int) + ((vN : Nat) : Int))) + (((((sN : Nat) : Int).toNat - j.toNat) : Nat) : Int))).toNat - (0 : Int).toNat) (((sC : Nat) : Int).toNat - (0 : Int).toNat)) h15) ∧
                              (vs_8.length ≠ 0 → ∃ bv_12 ov_12 : Nat, (slA (slA sA 2 (0 : Int) ((sC : Nat) : Int)) 2 i (((((sC : Nat) : Int).toNat - (0 : Int).toNat) : Nat) : Int)) = some ⟨bv_12, ov_12, none⟩ ∧ stH h15 bv_12 ov_12 vs_8 fun h17 =>
                                K (.slice (slA sA 2 (0 : Int) ((sC : Nat) : Int)) ((IntKind.wrap .i64 ((IntKind.wrap .i64 ((((i.toNat - (0 : Int).toNat) : Nat) : Int) + ((vN : Nat) : Int))) + (((((sN : Nat) : Int).toNat - j.toNat) : Nat) : Int))).toNat - (0 : Int).toNat) (((sC : Nat) : Int).toNat - (0 : Int).toNat)) h17))) ∧
                          (vs_7.length ≠ 0 → ∃ bv_11 ov_11 : Nat, (slA (slA sA 2 (0 : Int) ((sC : Nat) : Int)) 2 (IntKind.wrap .i64 (i + ((vN : Nat) : Int))) (((((sC : Nat) : Int).toNat - (0 : Int).toNat) : Nat) : Int)) = some ⟨bv_11, ov_11, none⟩ ∧ stH h15 bv_11 ov_11 vs_7 fun h16 =>
                            (0 ≤ i ∧ i ≤ ((((IntKind.wrap .i64 ((IntKind.wrap .i64 ((((i.toNat - (0 : Int).toNat) : Nat) : Int) + ((vN : Nat) : Int))) + (((((sN : Nat) : Int).toNat - j.toNat) : Nat) : Int))).toNat - (0 : Int).toNat) : Nat) : Int) ∧ ((((IntKind.wrap .i64 ((IntKind.wrap .i64 ((((i.toNat - (0 : Int).toNat) : Nat) : Int) + ((vN : Nat) : Int))) + (((((sN : Nat) : Int).toNat - j.toNat) : Nat) : Int))).toNat - (0 : Int).toNat) : Nat) : Int) ≤ (((((sC : Nat) : Int).toNat - (0 : Int).toNat) : Nat) : Int) ∧ (((((sC : Nat) : Int).toNat - (0 : Int).toNat) : Nat) : Int) ≤ ((((sC : Nat) : Int).toNat - (0 : Int).toNat) : Nat)) ∧
                            ∃ vs_9 : List Value, srcH h16 vA (min vN (((((IntKind.wrap .i64 ((IntKind.wrap .i64 ((((i.toNat - (0 : Int).toNat) : Nat) : Int) + ((vN : Nat) : Int))) + (((((sN : Nat) : Int).toNat - j.toNat) : Nat) : Int))).toNat - (0 : Int).toNat) : Nat) : Int).toNat - i.toNat) * 2) vs_9 ∧
                            ((vs_9.length = 0 →
                                K (.slice (slA sA 2 (0 : Int) ((sC : Nat) : Int)) ((IntKind.wrap .i64 ((IntKind.wrap .i64 ((((i.toNat - (0 : Int).toNat) : Nat) : Int) + ((vN : Nat) : Int))) + (((((sN : Nat) : Int).toNat - j.toNat) : Nat) : Int))).toNat - (0 : Int).toNat) (((sC : Nat) : Int).toNat - (0 : Int).toNat)) h16) ∧
                              (vs_9.length ≠ 0 → ∃ bv_13 ov_13 : Nat, (slA (slA sA 2 (0 : Int) ((sC : Nat) : Int)) 2 i (((((sC : Nat) : Int).toNat - (0 : Int).toNat) : Nat) : Int)) = some ⟨bv_13, ov_13, none⟩ ∧ stH h16 bv_13 ov_13 vs_9 fun h18 =>
                                K (.slice (slA sA 2 (0 : Int) ((sC : Nat) : Int)) ((IntKind.wrap .i64 ((IntKind.wrap .i64 ((((i.toNat - (0 : Int).toNat) : Nat) : Int) + ((vN : Nat) : Int))) + (((((sN : Nat) : Int).toNat - j.toNat) : Nat) : Int))).toNat - (0 : Int).toNat) (((sC : Nat) : Int).toNat - (0 : Int).toNat)) h18))))) ∧
                      ((!t) = false →
                        (0 ≤ i ∧ i ≤ j ∧ j ≤ (((((sC : Nat) : Int).toNat - (0 : Int).toNat) : Nat) : Int) ∧ (((((sC : Nat) : Int).toNat - (0 : Int).toNat) : Nat) : Int) ≤ ((((sC : Nat) : Int).toNat - (0 : Int).toNat) : Nat)) ∧
                        ExtH Try.prog id_slices_overlaps_api_Pair [.slice (slA (slA sA 2 (0 : Int) ((sC : Nat) : Int)) 2 i (((((sC : Nat) : Int).toNat - (0 : Int).toNat) : Nat) : Int)) (j.toNat - i.toNat) ((((((sC : Nat) : Int).toNat - (0 : Int).toNat) : Nat) : Int).toNat - i.toNat), .slice vA vN vC] (fun v_2 h19 =>
                          ∃ t_1 : Bool, v_2 = .bool t_1 ∧
                          (((!t_1) = true →
                              (0 ≤ i ∧ i ≤ j ∧ j ≤ (((((sC : Nat) : Int).toNat - (0 : Int).toNat) : Nat) : Int) ∧ (((((sC : Nat) : Int).toNat - (0 : Int).toNat) : Nat) : Int) ≤ ((((sC : Nat) : Int).toNat - (0 : Int).toNat) : Nat)) ∧
                              (0 ≤ (IntKind.wrap .i64 (((vN : Nat) : Int) - (IntKind.wrap .i64 (j - i)))) ∧ (IntKind.wrap .i64 (((vN : Nat) : Int) - (IntKind.wrap .i64 (j - i)))) ≤ ((vN : Nat) : Int) ∧ ((vN : Nat) : Int) ≤ ((vC : Nat) : Int) ∧ ((vC : Nat) : Int) ≤ (vC : Nat)) ∧
                              ∃ vs_10 : List Value, srcH h19 (slA vA 2 (IntKind.wrap .i64 (((vN : Nat) : Int) - (IntKind.wrap .i64 (j - i)))) ((vC : Nat) : Int)) (min (((vN : Nat) : Int).toNat - (IntKind.wrap .i64 (((vN : Nat) : Int) - (IntKind.wrap .i64 (j - i)))).toNat) (j.toNat - i.toNat) * 2) vs_10 ∧
                              ((vs_10.length = 0 →
                                  (0 ≤ ((sN : Nat) : Int) ∧ ((sN : Nat) : Int) ≤ ((((IntKind.wrap .i64 ((IntKind.wrap .i64 ((((i.toNat - (0 : Int).toNat) : Nat) : Int) + ((vN : Nat) : Int))) + (((((sN : Nat) : Int).toNat - j.toNat) : Nat) : Int))).toNat - (0 : Int).toNat) : Nat) : Int) ∧ ((((IntKind.wrap .i64 ((IntKind.wrap .i64 ((((i.toNat - (0 : Int).toNat) : Nat) : Int) + ((vN : Nat) : Int))) + (((((sN : Nat) : Int).toNat - j.toNat) : Nat) : Int))).toNat - (0 : Int).toNat) : Nat) : Int) ≤ (((((sC : Nat) : Int).toNat - (0 : Int).toNat) : Nat) : Int) ∧ (((((sC : Nat) : Int).toNat - (0 : Int).toNat) : Nat) : Int) ≤ ((((sC : Nat) : Int).toNat - (0 : Int).toNat) : Nat)) ∧
                                  (0 ≤ (0 : Int) ∧ (0 : Int) ≤ (IntKind.wrap .i64 (((vN : Nat) : Int) - (IntKind.wrap .i64 (j - i)))) ∧ (IntKind.wrap .i64 (((vN : Nat) : Int) - (IntKind.wrap .i64 (j - i)))) ≤ ((vC : Nat) : Int) ∧ ((vC : Nat) : Int) ≤ (vC : Nat)) ∧
                                  ∃ vs_11 : List Value, srcH h19 (slA vA 2 (0 : Int) ((vC : Nat) : Int)) (min ((IntKind.wrap .i64 (((vN : Nat) : Int) - (IntKind.wrap .i64 (j - i)))).toNat - (0 : Int).toNat) (((((IntKind.wrap .i64 ((IntKind.wrap .i64 ((((i.toNat - (0 : Int).toNat) : Nat) : Int) + ((vN : Nat) : Int))) + (((((sN : Nat) : Int).toNat - j.toNat) : Nat) : Int))).toNat - (0 : Int).toNat) : Nat) : Int).toNat - ((sN : Nat) : Int).toNat) * 2) vs_11 ∧
                                  ((vs_11.length = 0 →
                                      (0 ≤ i ∧ i ≤ ((((IntKind.wrap .i64 ((IntKind.wrap .i64 ((((i.toNat - (0 : Int).toNat) : Nat) : Int) + ((vN : Nat) : Int))) + (((((sN : Nat) : Int).toNat - j.toNat) : Nat) : Int))).toNat - (0 : Int).toNat) : Nat) : Int) ∧ ((((IntKind.wrap .i64 ((IntKind.wrap .i64 ((((i.toNat - (0 : Int).toNat) : Nat) : Int) + ((vN : Nat) : Int))) + (((((sN : Nat) : Int).toNat - j.toNat) : Nat) : Int))).toNat - (0 : Int).toNat) : Nat) : Int) ≤ (((((sC : Nat) : Int).toNat - (0 : Int).toNat) : Nat) : Int) ∧ (((((sC : Nat) : Int).toNat - (0 : Int).toNat) : Nat) : Int) ≤ ((((sC : Nat) : Int).toNat - (0 : Int).toNat) : Nat)) ∧
                                      CallH Try.prog id_slices_rotateRight_api_Pair [.slice (slA (slA sA 2 (0 : Int) ((sC : Nat) : Int)) 2 i (((((sC : Nat) : Int).toNat - (0 : Int).toNat) : Nat) : Int)) (((((IntKind.wrap .i64 ((IntKind.wrap .i64 ((((i.toNat - (0 : Int).toNat) : Nat) : Int) + ((vN : Nat) : Int))) + (((((sN : Nat) : Int).toNat - j.toNat) : Nat) : Int))).toNat - (0 : Int).toNat) : Nat) : Int).toNat - i.toNat) ((((((sC : Nat) : Int).toNat - (0 : Int).toNat) : Nat) : Int).toNat - i.toNat), .int .i64 (IntKind.wrap .i64 (((vN : Nat) : Int) - (IntKind.wrap .i64 (j - i))))] (fun _ h22 =>
                                        K (.slice (slA sA 2 (0 : Int) ((sC : Nat) : Int)) ((IntKind.wrap .i64 ((IntKind.wrap .i64 ((((i.toNat - (0 : Int).toNat) : Nat) : Int) + ((vN : Nat) : Int))) + (((((sN : Nat) : Int).toNat - j.toNat) : Nat) : Int))).toNat - (0 : Int).toNat) (((sC : Nat) : Int).toNat - (0 : Int).toNat)) h22) h19) ∧
                                    (vs_11.length ≠ 0 → ∃ bv_15 ov_15 : Nat, (slA (slA sA 2 (0 : Int) ((sC : Nat) : Int)) 2 ((sN : Nat) : Int) (((((sC : Nat) : Int).toNat - (0 : Int).toNat) : Nat) : Int)) = some ⟨bv_15, ov_15, none⟩ ∧ stH h19 bv_15 ov_15 vs_11 fun h21 =>
                                      (0 ≤ i ∧ i ≤ ((((IntKind.wrap .i64 ((IntKind.wrap .i64 ((((i.toNat - (0 : Int).toNat) : Nat) : Int) + ((vN : Nat) : Int))) + (((((sN : Nat) : Int).toNat - j.toNat) : Nat) : Int))).toNat - (0 : Int).toNat) : Nat) : Int) ∧ ((((IntKind.wrap .i64 ((IntKind.wrap .i64 ((((i.toNat - (0 : Int).toNat) : Nat) : Int) + ((vN : Nat) : Int))) + (((((sN : Nat) : Int).toNat - j.toNat) : Nat) : Int))).toNat - (0 : Int).toNat) : Nat) : Int) ≤ (((((sC : Nat) : Int).toNat - (0 : Int).toNat) : Nat) : Int) ∧ (((((sC : Nat) : Int).toNat - (0 : Int).toNat) : Nat) : Int) ≤ ((((sC : Nat) : Int).toNat - (0 : Int).toNat) : Nat)) ∧
                                      CallH Try.prog id_slices_rotateRight_api_Pair [.slice (slA (slA sA 2 (0 : Int) ((sC : Nat) : Int)) 2 i (((((sC : Nat) : Int).toNat - (0 : Int).toNat) : Nat) : Int)) (((((IntKind.wrap .i64 ((IntKind.wrap .i64 ((((i.toNat - (0 : Int).toNat) : Nat) : Int) + ((vN : Nat) : Int))) + (((((sN : Nat) : Int).toNat - j.toNat) : Nat) : Int))).toNat - (0 : Int).toNat) : Nat) : Int).toNat - i.toNat) ((((((sC : Nat) : Int).toNat - (0 : Int).toNat) : Nat) : Int).toNat - i.toNat), .int .i64 (IntKind.wrap .i64 (((vN : Nat) : Int) - (IntKind.wrap .i64 (j - i))))] (fun _ h23 =>
                                        K (.slice (slA sA 2 (0 : Int) ((sC : Nat) : Int)) ((IntKind.wrap .i64 ((IntKind.wrap .i64 ((((i.toNat - (0 : Int).toNat) : Nat) : Int) + ((vN : Nat) : Int))) + (((((sN : Nat) : Int).toNat - j.toNat) : Nat) : Int))).toNat - (0 : Int).toNat) (((sC : Nat) : Int).toNat - (0 : Int).toNat)) h23) h21))) ∧
                                (vs_10.length ≠ 0 → ∃ bv_14 ov_14 : Nat, (slA (slA sA 2 (0 : Int) ((sC : Nat) : Int)) 2 i (((((sC : Nat) : Int).toNat - (0 : Int).toNat) : Nat) : Int)) = some ⟨bv_14, ov_14, none⟩ ∧ stH h19 bv_14 ov_14 vs_10 fun h20 =>
                                  (0 ≤ ((sN : Nat) : Int) ∧ ((sN : Nat) : Int) ≤ ((((IntKind.wrap .i64 ((IntKind.wrap .i64 ((((i.toNat - (0 : Int).toNat) : Nat) : Int) + ((vN : Nat) : Int))) + (((((sN : Nat) : Int).toNat - j.toNat) : Nat) : Int))).toNat - (0 : Int).toNat) : Nat) : Int) ∧ ((((IntKind.wrap .i64 ((IntKind.wrap .i64 ((((i.toNat - (0 : Int).toNat) : Nat) : Int) + ((vN : Nat) : Int))) + (((((sN : Nat) : Int).toNat - j.toNat) : Nat) : Int))).toNat - (0 : Int).toNat) : Nat) : Int) ≤ (((((sC : Nat) : Int).toNat - (0 : Int).toNat) : Nat) : Int) ∧ (((((sC : Nat) : Int).toNat - (0 : Int).toNat) : Nat) : Int) ≤ ((((sC : Nat) : Int).toNat - (0 : Int).toNat) : Nat)) ∧
                                  (0 ≤ (0 : Int) ∧ (0 : Int) ≤ (IntKind.wrap .i64 (((vN : Nat) : Int) - (IntKind.wrap .i64 (j - i)))) ∧ (IntKind.wrap .i64 (((vN : Nat) : Int) - (IntKind.wrap .i64 (j - i)))) ≤ ((vC : Nat) : Int) ∧ ((vC : Nat) : Int) ≤ (vC : Nat)) ∧
                                  ∃ vs_12 : List Value, srcH h20 (slA vA 2 (0 : Int) ((vC : Nat) : Int)) (min ((IntKind.wrap .i64 (((vN : Nat) : Int) - (IntKind.wrap .i64 (j - i)))).toNat - (0 : Int).toNat) (((((IntKind.wrap .i64 ((IntKind.wrap .i64 ((((i.toNat - (0 : Int).toNat) : Nat) : Int) + ((vN : Nat) : Int))) + (((((sN : Nat) : Int).toNat - j.toNat) : Nat) : Int))).toNat - (0 : Int).toNat) : Nat) : Int).toNat - ((sN : Nat) : Int).toNat) * 2) vs_12 ∧
                                  ((vs_12.length = 0 →
                                      (0 ≤ i ∧ i ≤ ((((IntKind.wrap .i64 ((IntKind.wrap .i64 ((((i.toNat - (0 : Int).toNat) : Nat) : Int) + ((vN : Nat) : Int))) + (((((sN : Nat) : Int).toNat - j.toNat) : Nat) : Int))).toNat - (0 : Int).toNat) : Nat) : Int) ∧ ((((IntKind.wrap .i64 ((IntKind.wrap .i64 ((((i.toNat - (0 : Int).toNat) : Nat) : Int) + ((vN : Nat) : Int))) + (((((sN : Nat) : Int).toNat - j.toNat) : Nat) : Int))).toNat - (0 : Int).toNat) : Nat) : Int) ≤ (((((sC : Nat) : Int).toNat - (0 : Int).toNat) : Nat) : Int) ∧ (((((sC : Nat) : Int).toNat - (0 : Int).toNat) : Nat) : Int) ≤ ((((sC : Nat) : Int).toNat - (0 : Int).toNat) : Nat)) ∧
                                      CallH Try.prog id_slices_rotateRight_api_Pair [.slice (slA (slA sA 2 (0 : Int) ((sC : Nat) : Int)) 2 i (((((sC : Nat) : Int).toNat - (0 : Int).toNat) : Nat) : Int)) (((((IntKind.wrap .i64 ((IntKind.wrap .i64 ((((i.toNat - (0 : Int).toNat) : Nat) : Int) + ((vN : Nat) : Int))) + (((((sN : Nat) : Int).toNat - j.toNat) : Nat) : Int))).toNat - (0 : Int).toNat) : Nat) : Int).toNat - i.toNat) ((((((sC : Nat) : Int).toNat - (0 : Int).toNat) : Nat) : Int).toNat - i.toNat), .int .i64 (IntKind.wrap .i64 (((vN : Nat) : Int) - (IntKind.wrap .i64 (j - i))))] (fun _ h25 =>
                                        K (.slice (slA sA 2 (0 : Int) ((sC : Nat) : Int)) ((IntKind.wrap .i64 ((IntKind.wrap .i64 ((((i.toNat - (0 : Int).toNat) : Nat) : Int) + ((vN : Nat) : Int))) + (((((sN : Nat) : Int).toNat - j.toNat) : Nat) : Int))).toNat - (0 : Int).toNat) (((sC : Nat) : Int).toNat - (0 : Int).toNat)) h25) h20) ∧
                                    (vs_12.length ≠ 0 → ∃ bv_16 ov_16 : Nat, (slA (slA sA 2 (0 : Int) ((sC : Nat) : Int)) 2 ((sN : Nat) : Int) (((((sC : Nat) : Int).toNat - (0 : Int).toNat) : Nat) : Int)) = some ⟨bv_16, ov_16, none⟩ ∧ stH h20 bv_16 ov_16 vs_12 fun h24 =>
                                      (0 ≤ i ∧ i ≤ ((((IntKind.wrap .i64 ((IntKind.wrap .i64 ((((i.toNat - (0 : Int).toNat) : Nat) : Int) + ((vN : Nat) : Int))) + (((((sN : Nat) : Int).toNat - j.toNat) : Nat) : Int))).toNat - (0 : Int).toNat) : Nat) : Int) ∧ ((((IntKind.wrap .i64 ((IntKind.wrap .i64 ((((i.toNat - (0 : Int).toNat) : Nat) : Int) + ((vN : Nat) : Int))) + (((((sN : Nat) : Int).toNat - j.toNat) : Nat) : Int))).toNat - (0 : Int).toNat) : Nat) : Int) ≤ (((((sC : Nat) : Int).toNat - (0 : Int).toNat) : Nat) : Int) ∧ (((((sC : Nat) : Int).toNat - (0 : Int).toNat) : Nat) : Int) ≤ ((((sC : Nat) : Int).toNat - (0 : Int).toNat) : Nat)) ∧
                                      CallH Try.prog id_slices_rotateRight_api_Pair [.slice (slA (slA sA 2 (0 : Int) ((sC : Nat) : Int)) 2 i (((((sC : Nat) : Int).toNat - (0 : Int).toNat) : Nat) : Int)) (((((IntKind.wrap .i64 ((IntKind.wrap .i64 ((((i.toNat - (0 : Int).toNat) : Nat) : Int) + ((vN : Nat) : Int))) + (((((sN : Nat) : Int).toNat - j.toNat) : Nat) : Int))).toNat - (0 : Int).toNat) : Nat) : Int).toNat - i.toNat) ((((((sC : Nat) : Int).toNat - (0 : Int).toNat) : Nat) : Int).toNat - i.toNat), .int .i64 (IntKind.wrap .i64 (((vN : Nat) : Int) - (IntKind.wrap .i64 (j - i))))] (fun _ h26 =>
                                        K (.slice (slA sA 2 (0 : Int) ((sC : Nat) : Int)) ((IntKind.wrap .i64 ((IntKind.wrap .i64 ((((i.toNat - (0 : Int).toNat) : Nat) : Int) + ((vN : Nat) : Int))) + (((((sN : Nat) : Int).toNat - j.toNat) : Nat) : Int))).toNat - (0 : Int).toNat) (((sC : Nat) : Int).toNat - (0 : Int).toNat)) h26) h24))))) ∧
                            ((!t_1) = false →
                              (0 ≤ ((sN : Nat) : Int) ∧ ((sN : Nat) : Int) ≤ ((((IntKind.wrap .i64 ((IntKind.wrap .i64 ((((i.toNat - (0 : Int).toNat) : Nat) : Int) + ((vN : Nat) : Int))) + (((((sN : Nat) : Int).toNat - j.toNat) : Nat) : Int))).toNat - (0 : Int).toNat) : Nat) : Int) ∧ ((((IntKind.wrap .i64 ((IntKind.wrap .i64 ((((i.toNat - (0 : Int).toNat) : Nat) : Int) + ((vN : Nat) : Int))) + (((((sN : Nat) : Int).toNat - j.toNat) : Nat) : Int))).toNat - (0 : Int).toNat) : Nat) : Int) ≤ (((((sC : Nat) : Int).toNat - (0 : Int).toNat) : Nat) : Int) ∧ (((((sC : Nat) : Int).toNat - (0 : Int).toNat) : Nat) : Int) ≤ ((((sC : Nat) : Int).toNat - (0 : Int).toNat) : Nat)) ∧
                              ExtH Try.prog id_slices_overlaps_api_Pair [.slice (slA (slA sA 2 (0 : Int) ((sC : Nat) : Int)) 2 ((sN : Nat) : Int) (((((sC : Nat) : Int).toNat - (0 : Int).toNat) : Nat) : Int)) (((((IntKind.wrap .i64 ((IntKind.wrap .i64 ((((i.toNat - (0 : Int).toNat) : Nat) : Int) + ((vN : Nat) : Int))) + (((((sN : Nat) : Int).toNat - j.toNat) : Nat) : Int))).toNat - (0 : Int).toNat) : Nat) : Int).toNat - ((sN : Nat) : Int).toNat) ((((((sC : Nat) : Int).toNat - (0 : Int).toNat) : Nat) : Int).toNat - ((sN : Nat) : Int).toNat), .slice vA vN vC] (fun v_7 h27 =>
                                ∃ t_2 : Bool, v_7 = .bool t_2 ∧
                                (((!t_2) = true →
                                    (0 ≤ ((sN : Nat) : Int) ∧ ((sN : Nat) : Int) ≤ ((((IntKind.wrap .i64 ((IntKind.wrap .i64 ((((i.toNat - (0 : Int).toNat) : Nat) : Int) + ((vN : Nat) : Int))) + (((((sN : Nat) : Int).toNat - j.toNat) : Nat) : Int))).toNat - (0 : Int).toNat) : Nat) : Int) ∧ ((((IntKind.wrap .i64 ((IntKind.wrap .i64 ((((i.toNat - (0 : Int).toNat) : Nat) : Int) + ((vN : Nat) : Int))) + (((((sN : Nat) : Int).toNat - j.toNat) : Nat) : Int))).toNat - (0 : Int).toNat) : Nat) : Int) ≤ (((((sC : Nat) : Int).toNat - (0 : Int).toNat) : Nat) : Int) ∧ (((((sC : Nat) : Int).toNat - (0 : Int).toNat) : Nat) : Int) ≤ ((((sC : Nat) : Int).toNat - (0 : Int).toNat) : Nat)) ∧
                                    (0 ≤ (0 : Int) ∧ (0 : Int) ≤ (IntKind.wrap .i64 (((vN : Nat) : Int) - (IntKind.wrap .i64 (j - i)))) ∧ (IntKind.wrap .i64 (((vN : Nat) : Int) - (IntKind.wrap .i64 (j - i)))) ≤ ((vC : Nat) : Int) ∧ ((vC : Nat) : Int) ≤ (vC : Nat)) ∧
                                    ∃ vs_13 : List Value, srcH h27 (slA vA 2 (0 : Int) ((vC : Nat) : Int)) (min ((IntKind.wrap .i64 (((vN : Nat) : Int) - (IntKind.wrap .i64 (j - i)))).toNat - (0 : Int).toNat) (((((IntKind.wrap .i64 ((IntKind.wrap .i64 ((((i.toNat - (0 : Int).toNat) : Nat) : Int) + ((vN : Nat) : Int))) + (((((sN : Nat) : Int).toNat - j.toNat) : Nat) : Int))).toNat - (0 : Int).toNat) : Nat) : Int).toNat - ((sN : Nat) : Int).toNat) * 2) vs_13 ∧
                                    ((vs_13.length = 0 →
                                        (0 ≤ i ∧ i ≤ j ∧ j ≤ (((((sC : Nat) : Int).toNat - (0 : Int).toNat) : Nat) : Int) ∧ (((((sC : Nat) : Int).toNat - (0 : Int).toNat) : Nat) : Int) ≤ ((((sC : Nat) : Int).toNat - (0 : Int).toNat) : Nat)) ∧
                                        (0 ≤ (IntKind.wrap .i64 (((vN : Nat) : Int) - (IntKind.wrap .i64 (j - i)))) ∧ (IntKind.wrap .i64 (((vN : Nat) : Int) - (IntKind.wrap .i64 (j - i)))) ≤ ((vN : Nat) : Int) ∧ ((vN : Nat) : Int) ≤ ((vC : Nat) : Int) ∧ ((vC : Nat) : Int) ≤ (vC : Nat)) ∧
                                        ∃ vs_14 : List Value, srcH h27 (slA vA 2 (IntKind.wrap .i64 (((vN : Nat) : Int) - (IntKind.wrap .i64 (j - i)))) ((vC : Nat) : Int)) (min (((vN : Nat) : Int).toNat - (IntKind.wrap .i64 (((vN : Nat) : Int) - (IntKind.wrap .i64 (j - i)))).toNat) (j.toNat - i.toNat) * 2) vs_14 ∧
                                        ((vs_14.length = 0 →
                                            (0 ≤ i ∧ i ≤ ((((IntKind.wrap .i64 ((IntKind.wrap .i64 ((((i.toNat - (0 : Int).toNat) : Nat) : Int) + ((vN : Nat) : Int))) + (((((sN : Nat) : Int).toNat - j.toNat) : Nat) : Int))).toNat - (0 : Int).toNat) : Nat) : Int) ∧ ((((IntKind.wrap .i64 ((IntKind.wrap .i64 ((((i.toNat - (0 : Int).toNat) : Nat) : Int) + ((vN : Nat) : Int))) + (((((sN : Nat) : Int).toNat - j.toNat) : Nat) : Int))).toNat - (0 : Int).toNat) : Nat) : Int) ≤ (((((sC : Nat) : Int).toNat - (0 : Int).toNat) : Nat) : Int) ∧ (((((sC : Nat) : Int).toNat - (0 : Int).toNat) : Nat) : Int) ≤ ((((sC : Nat) : Int).toNat - (0 : Int).toNat) : Nat)) ∧
                                            CallH Try.prog id_slices_rotateRight_api_Pair [.slice (slA (slA sA 2 (0 : Int) ((sC : Nat) : Int)) 2 i (((((sC : Nat) : Int).toNat - (0 : Int).toNat) : Nat) : Int)) (((((IntKind.wrap .i64 ((IntKind.wrap .i64 ((((i.toNat - (0 : Int).toNat) : Nat) : Int) + ((vN : Nat) : Int))) + (((((sN : Nat) : Int).toNat - j.toNat) : Nat) : Int))).toNat - (0 : Int).toNat) : Nat) : Int).toNat - i.toNat) ((((((sC : Nat) : Int).toNat - (0 : Int).toNat) : Nat) : Int).toNat - i.toNat), .int .i64 (IntKind.wrap .i64 (((vN : Nat) : Int) - (IntKind.wrap .i64 (j - i))))] (fun _ h30 =>
                                              K (.slice (slA sA 2 (0 : Int) ((sC : Nat) : Int)) ((IntKind.wrap .i64 ((IntKind.wrap .i64 ((((i.toNat - (0 : Int).toNat) : Nat) : Int) + ((vN : Nat) : Int))) + (((((sN : Nat) : Int).toNat - j.toNat) : Nat) : Int))).toNat - (0 : Int).toNat) (((sC : Nat) : Int).toNat - (0 : Int).toNat)) h30) h27) ∧
                                          (vs_14.length ≠ 0 → ∃ bv_18 ov_18 : Nat, (slA (slA sA 2 (0 : Int) ((sC : Nat) : Int)) 2 i (((((sC : Nat) : Int).toNat - (0 : Int).toNat) : Nat) : Int)) = some ⟨bv_18, ov_18, none⟩ ∧ stH h27 bv_18 ov_18 vs_14 fun h29 =>
                                            (0 ≤ i ∧ i ≤ ((((IntKind.wrap .i64 ((IntKind.wrap .i64 ((((i.toNat - (0 : Int).toNat) : Nat) : Int) + ((vN : Nat) : Int))) + (((((sN : Nat) : Int).toNat - j.toNat) : Nat) : Int))).toNat - (0 : Int).toNat) : Nat) : Int) ∧ ((((IntKind.wrap .i64 ((IntKind.wrap .i64 ((((i.toNat - (0 : Int).toNat) : Nat) : Int) + ((vN : Nat) : Int))) + (((((sN : Nat) : Int).toNat - j.toNat) : Nat) : Int))).toNat - (0 : Int).toNat) : Nat) : Int) ≤ (((((sC : Nat) : Int).toNat - (0 : Int).toNat) : Nat) : Int) ∧ (((((sC : Nat) : Int).toNat - (0 : Int).toNat) : Nat) : Int) ≤ ((((sC : Nat) : Int).toNat - (0 : Int).toNat) : Nat)) ∧
                                            CallH Try.prog id_slices_rotateRight_api_Pair [.slice (slA (slA sA 2 (0 : Int) ((sC : Nat) : Int)) 2 i (((((sC : Nat) : Int).toNat - (0 : Int).toNat) : Nat) : Int)) (((((IntKind.wrap .i64 ((IntKind.wrap .i64 ((((i.toNat - (0 : Int).toNat) : Nat) : Int) + ((vN : Nat) : Int))) + (((((sN : Nat) : Int).toNat - j.toNat) : Nat) : Int))).toNat - (0 : Int).toNat) : Nat) : Int).toNat - i.toNat) ((((((sC : Nat) : Int).toNat - (0 : Int).toNat) : Nat) : Int).toNat - i.toNat), .int .i64 (IntKind.wrap .i64 (((vN : Nat) : Int) - (IntKind.wrap .i64 (j - i))))] (fun _ h31 =>
                                              K (.slice (slA sA 2 (0 : Int) ((sC : Nat) : Int)) ((IntKind.wrap .i64 ((IntKind.wrap .i64 ((((i.toNat - (0 : Int).toNat) : Nat) : Int) + ((vN : Nat) : Int))) + (((((sN : Nat) : Int).toNat - j.toNat) : Nat) : Int))).toNat - (0 : Int).toNat) (((sC : Nat) : Int).toNat - (0 : Int).toNat)) h31) h29))) ∧
                                      (vs_13.length ≠ 0 → ∃ bv_17 ov_17 : Nat, (slA (slA sA 2 (0 : Int) ((sC : Nat) : Int)) 2 ((sN : Nat) : Int) (((((sC : Nat) : Int).toNat - (0 : Int).toNat) : Nat) : Int)) = some ⟨bv_17, ov_17, none⟩ ∧ stH h27 bv_17 ov_17 vs_13 fun h28 =>
                                        (0 ≤ i ∧ i ≤ j ∧ j ≤ (((((sC : Nat) : Int).toNat - (0 : Int).toNat) : Nat) : Int) ∧ (((((sC : Nat) : Int).toNat - (0 : Int).toNat) : Nat) : Int) ≤ ((((sC : Nat) : Int).toNat - (0 : Int).toNat) : Nat)) ∧
                                        (0 ≤ (IntKind.wrap .i64 (((vN : Nat) : Int) - (IntKind.wrap .i64 (j - i)))) ∧ (IntKind.wrap .i64 (((vN : Nat) : Int) - (IntKind.wrap .i64 (j - i)))) ≤ ((vN : Nat) : Int) ∧ ((vN : Nat) : Int) ≤ ((vC : Nat) : Int) ∧ ((vC : Nat) : Int) ≤ (vC : Nat)) ∧
                                        ∃ vs_15 : List Value, srcH h28 (slA vA 2 (IntKind.wrap .i64 (((vN : Nat) : Int) - (IntKind.wrap .i64 (j - i)))) ((vC : Nat) : Int)) (min (((vN : Nat) : Int).toNat - (IntKind.wrap .i64 (((vN : Nat) : Int) - (IntKind.wrap .i64 (j - i)))).toNat) (j.toNat - i.toNat) * 2) vs_15 ∧
                                        ((vs_15.length = 0 →
                                            (0 ≤ i ∧ i ≤ ((((IntKind.wrap .i64 ((IntKind.wrap .i64 ((((i.toNat - (0 : Int).toNat) : Nat) : Int) + ((vN : Nat) : Int))) + (((((sN : Nat) : Int).toNat - j.toNat) : Nat) : Int))).toNat - (0 : Int).toNat) : Nat) : Int) ∧ ((((IntKind.wrap .i64 ((IntKind.wrap .i64 ((((i.toNat - (0 : Int).toNat) : Nat) : Int) + ((vN : Nat) : Int))) + (((((sN : Nat) : Int).toNat - j.toNat) : Nat) : Int))).toNat - (0 : Int).toNat) : Nat) : Int) ≤ (((((sC : Nat) : Int).toNat - (0 : Int).toNat) : Nat) : Int) ∧ (((((sC : Nat) : Int).toNat - (0 : Int).toNat) : Nat) : Int) ≤ ((((sC : Nat) : Int).toNat - (0 : Int).toNat) : Nat)) ∧
                                            CallH Try.prog id_slices_rotateRight_api_Pair [.slice (slA (slA sA 2 (0 : Int) ((sC : Nat) : Int)) 2 i (((((sC : Nat) : Int).toNat - (0 : Int).toNat) : Nat) : Int)) (((((IntKind.wrap .i64 ((IntKind.wrap .i64 ((((i.toNat - (0 : Int).toNat) : Nat) : Int) + ((vN : Nat) : Int))) + (((((sN : Nat) : Int).toNat - j.toNat) : Nat) : Int))).toNat - (0 : Int).toNat) : Nat) : Int).toNat - i.toNat) ((((((sC : Nat) : Int).toNat - (0 : Int).toNat) : Nat) : Int).toNat - i.toNat), .int .i64 (IntKind.wrap .i64 (((vN : Nat) : Int) - (IntKind.wrap .i64 (j - i))))] (fun _ h33 =>
                                              K (.slice (slA sA 2 (0 : Int) ((sC : Nat) : Int)) ((IntKind.wrap .i64 ((IntKind.wrap .i64 ((((i.toNat - (0 : Int).toNat) : Nat) : Int) + ((vN : Nat) : Int))) + (((((sN : Nat) : Int).toNat - j.toNat) : Nat) : Int))).toNat - (0 : Int).toNat) (((sC : Nat) : Int).toNat - (0 : Int).toNat)) h33) h28) ∧
                                          (vs_15.length ≠ 0 → ∃ bv_19 ov_19 : Nat, (slA (slA sA 2 (0 : Int) ((sC : Nat) : Int)) 2 i (((((sC : Nat) : Int).toNat - (0 : Int).toNat) : Nat) : Int)) = some ⟨bv_19, ov_19, none⟩ ∧ stH h28 bv_19 ov_19 vs_15 fun h32 =>
                                            (0 ≤ i ∧ i ≤ ((((IntKind.wrap .i64 ((IntKind.wrap .i64 ((((i.toNat - (0 : Int).toNat) : Nat) : Int) + ((vN : Nat) : Int))) + (((((sN : Nat) : Int).toNat - j.toNat) : Nat) : Int))).toNat - (0 : Int).toNat) : Nat) : Int) ∧ ((((IntKind.wrap .i64 ((IntKind.wrap .i64 ((((i.toNat - (0 : Int).toNat) : Nat) : Int) + ((vN : Nat) : Int))) + (((((sN : Nat) : Int).toNat - j.toNat) : Nat) : Int))).toNat - (0 : Int).toNat) : Nat) : Int) ≤ (((((sC : Nat) : Int).toNat - (0 : Int).toNat) : Nat) : Int) ∧ (((((sC : Nat) : Int).toNat - (0 : Int).toNat) : Nat) : Int) ≤ ((((sC : Nat) : Int).toNat - (0 : Int).toNat) : Nat)) ∧
                                            CallH Try.prog id_slices_rotateRight_api_Pair [.slice (slA (slA sA 2 (0 : Int) ((sC : Nat) : Int)) 2 i (((((sC : Nat) : Int).toNat - (0 : Int).toNat) : Nat) : Int)) (((((IntKind.wrap .i64 ((IntKind.wrap .i64 ((((i.toNat - (0 : Int).toNat) : Nat) : Int) + ((vN : Nat) : Int))) + (((((sN : Nat) : Int).toNat - j.toNat) : Nat) : Int))).toNat - (0 : Int).toNat) : Nat) : Int).toNat - i.toNat) ((((((sC : Nat) : Int).toNat - (0 : Int).toNat) : Nat) : Int).toNat - i.toNat), .int .i64 (IntKind.wrap .i64 (((vN : Nat) : Int) - (IntKind.wrap .i64 (j - i))))] (fun _ h34 =>
                                              K (.slice (slA sA 2 (0 : Int) ((sC : Nat) : Int)) ((IntKind.wrap .i64 ((IntKind.wrap .i64 ((((i.toNat - (0 : Int).toNat) : Nat) : Int) + ((vN : Nat) : Int))) + (((((sN : Nat) : Int).toNat - j.toNat) : Nat) : Int))).toNat - (0 : Int).toNat) (((sC : Nat) : Int).toNat - (0 : Int).toNat)) h34) h32))))) ∧
                                  ((!t_2) = false →
                                    (0 ≤ j ∧ j ≤ ((sN : Nat) : Int) ∧ ((sN : Nat) : Int) ≤ ((sC : Nat) : Int) ∧ ((sC : Nat) : Int) ≤ (sC : Nat)) ∧
                                    CallH Try.prog id_slices_startIdx_api_Pair [.slice vA vN vC, .slice (slA sA 2 j ((sC : Nat) : Int)) (((sN : Nat) : Int).toNat - j.toNat) (((sC : Nat) : Int).toNat - j.toNat)] (fun v_12 h35 =>
                                      ∃ k : Int, v_12 = .int .i64 k ∧
                                      (0 ≤ i ∧ i ≤ ((((IntKind.wrap .i64 ((IntKind.wrap .i64 ((((i.toNat - (0 : Int).toNat) : Nat) : Int) + ((vN : Nat) : Int))) + (((((sN : Nat) : Int).toNat - j.toNat) : Nat) : Int))).toNat - (0 : Int).toNat) : Nat) : Int) ∧ ((((IntKind.wrap .i64 ((IntKind.wrap .i64 ((((i.toNat - (0 : Int).toNat) : Nat) : Int) + ((vN : Nat) : Int))) + (((((sN : Nat) : Int).toNat - j.toNat) : Nat) : Int))).toNat - (0 : Int).toNat) : Nat) : Int) ≤ (((((sC : Nat) : Int).toNat - (0 : Int).toNat) : Nat) : Int) ∧ (((((sC : Nat) : Int).toNat - (0 : Int).toNat) : Nat) : Int) ≤ ((((sC : Nat) : Int).toNat - (0 : Int).toNat) : Nat)) ∧
                                      ∃ vs_16 : List Value, srcH h35 vA (min vN (((((IntKind.wrap .i64 ((IntKind.wrap .i64 ((((i.toNat - (0 : Int).toNat) : Nat) : Int) + ((vN : Nat) : Int))) + (((((sN : Nat) : Int).toNat - j.toNat) : Nat) : Int))).toNat - (0 : Int).toNat) : Nat) : Int).toNat - i.toNat) * 2) vs_16 ∧
                                      ((vs_16.length = 0 →
                                          (0 ≤ (IntKind.wrap .i64 (i + ((vN : Nat) : Int))) ∧ (IntKind.wrap .i64 (i + ((vN : Nat) : Int))) ≤ ((((IntKind.wrap .i64 ((IntKind.wrap .i64 ((((i.toNat - (0 : Int).toNat) : Nat) : Int) + ((vN : Nat) : Int))) + (((((sN : Nat) : Int).toNat - j.toNat) : Nat) : Int))).toNat - (0 : Int).toNat) : Nat) : Int) ∧ ((((IntKind.wrap .i64 ((IntKind.wrap .i64 ((((i.toNat - (0 : Int).toNat) : Nat) : Int) + ((vN : Nat) : Int))) + (((((sN : Nat) : Int).toNat - j.toNat) : Nat) : Int))).toNat - (0 : Int).toNat) : Nat) : Int) ≤ (((((sC : Nat) : Int).toNat - (0 : Int).toNat) : Nat) : Int) ∧ (((((sC : Nat) : Int).toNat - (0 : Int).toNat) : Nat) : Int) ≤ ((((sC : Nat) : Int).toNat - (0 : Int).toNat) : Nat)) ∧
                                          (0 ≤ (IntKind.wrap .i64 (i + k)) ∧ (IntKind.wrap .i64 (i + k)) ≤ ((((IntKind.wrap .i64 ((IntKind.wrap .i64 ((((i.toNat - (0 : Int).toNat) : Nat) : Int) + ((vN : Nat) : Int))) + (((((sN : Nat) : Int).toNat - j.toNat) : Nat) : Int))).toNat - (0 : Int).toNat) : Nat) : Int) ∧ ((((IntKind.wrap .i64 ((IntKind.wrap .i64 ((((i.toNat - (0 : Int).toNat) : Nat) : Int) + ((vN : Nat) : Int))) + (((((sN : Nat) : Int).toNat - j.toNat) : Nat) : Int))).toNat - (0 : Int).toNat) : Nat) : Int) ≤ (((((sC : Nat) : Int).toNat - (0 : Int).toNat) : Nat) : Int) ∧ (((((sC : Nat) : Int).toNat - (0 : Int).toNat) : Nat) : Int) ≤ ((((sC : Nat) : Int).toNat - (0 : Int).toNat) : Nat)) ∧
                                          ∃ vs_17 : List Value, srcH h35 (slA (slA sA 2 (0 : Int) ((sC : Nat) : Int)) 2 (IntKind.wrap .i64 (i + k)) (((((sC : Nat) : Int).toNat - (0 : Int).toNat) : Nat) : Int)) (min (((((IntKind.wrap .i64 ((IntKind.wrap .i64 ((((i.toNat - (0 : Int).toNat) : Nat) : Int) + ((vN : Nat) : Int))) + (((((sN : Nat) : Int).toNat - j.toNat) : Nat) : Int))).toNat - (0 : Int).toNat) : Nat) : Int).toNat - (IntKind.wrap .i64 (i + k)).toNat) (((((IntKind.wrap .i64 ((IntKind.wrap .i64 ((((i.toNat - (0 : Int).toNat) : Nat) : Int) + ((vN : Nat) : Int))) + (((((sN : Nat) : Int).toNat - j.toNat) : Nat) : Int))).toNat - (0 : Int).toNat) : Nat) : Int).toNat - (IntKind.wrap .i64 (i + ((vN : Nat) : Int))).toNat) * 2) vs_17 ∧
                                          ((vs_17.length = 0 →
                                              K (.slice (slA sA 2 (0 : Int) ((sC : Nat) : Int)) ((IntKind.wrap .i64 ((IntKind.wrap .i64 ((((i.toNat - (0 : Int).toNat) : Nat) : Int) + ((vN : Nat) : Int))) + (((((sN : Nat) : Int).toNat - j.toNat) : Nat) : Int))).toNat - (0 : Int).toNat) (((sC : Nat) : Int).toNat - (0 : Int).toNat)) h35) ∧
                                            (vs_17.length ≠ 0 → ∃ bv_21 ov_21 : Nat, (slA (slA sA 2 (0 : Int) ((sC : Nat) : Int)) 2 (IntKind.wrap .i64 (i + ((vN : Nat) : Int))) (((((sC : Nat) : Int).toNat - (0 : Int).toNat) : Nat) : Int)) = some ⟨bv_21, ov_21, none⟩ ∧ stH h35 bv_21 ov_21 vs_17 fun h37 =>
                                              K (.slice (slA sA 2 (0 : Int) ((sC : Nat) : Int)) ((IntKind.wrap .i64 ((IntKind.wrap .i64 ((((i.toNat - (0 : Int).toNat) : Nat) : Int) + ((vN : Nat) : Int))) + (((((sN : Nat) : Int).toNat - j.toNat) : Nat) : Int))).toNat - (0 : Int).toNat) (((sC : Nat) : Int).toNat - (0 : Int).toNat)) h37))) ∧
                                        (vs_16.length ≠ 0 → ∃ bv_20 ov_20 : Nat, (slA (slA sA 2 (0 : Int) ((sC : Nat) : Int)) 2 i (((((sC : Nat) : Int).toNat - (0 : Int).toNat) : Nat) : Int)) = some ⟨bv_20, ov_20, none⟩ ∧ stH h35 bv_20 ov_20 vs_16 fun h36 =>
                                          (0 ≤ (IntKind.wrap .i64 (i + ((vN : Nat) : Int))) ∧ (IntKind.wrap .i64 (i + ((vN : Nat) : Int))) ≤ ((((IntKind.wrap .i64 ((IntKind.wrap .i64 ((((i.toNat - (0 : Int).toNat) : Nat) : Int) + ((vN : Nat) : Int))) + (((((sN : Nat) : Int).toNat - j.toNat) : Nat) : Int))).toNat - (0 : Int).toNat) : Nat) : Int) ∧ ((((IntKind.wrap .i64 ((IntKind.wrap .i64 ((((i.toNat - (0 : Int).toNat) : Nat) : Int) + ((vN : Nat) : Int))) + (((((sN : Nat) : Int).toNat - j.toNat) : Nat) : Int))).toNat - (0 : Int).toNat) : Nat) : Int) ≤ (((((sC : Nat) : Int).toNat - (0 : Int).toNat) : Nat) : Int) ∧ (((((sC : Nat) : Int).toNat - (0 : Int).toNat) : Nat) : Int) ≤ ((((sC : Nat) : Int).toNat - (0 : Int).toNat) : Nat)) ∧
                                          (0 ≤ (IntKind.wrap .i64 (i + k)) ∧ (IntKind.wrap .i64 (i + k)) ≤ ((((IntKind.wrap .i64 ((IntKind.wrap .i64 ((((i.toNat - (0 : Int).toNat) : Nat) : Int) + ((vN : Nat) : Int))) + (((((sN : Nat) : Int).toNat - j.toNat) : Nat) : Int))).toNat - (0 : Int).toNat) : Nat) : Int) ∧ ((((IntKind.wrap .i64 ((IntKind.wrap .i64 ((((i.toNat - (0 : Int).toNat) : Nat) : Int) + ((vN : Nat) : Int))) + (((((sN : Nat) : Int).toNat - j.toNat) : Nat) : Int))).toNat - (0 : Int).toNat) : Nat) : Int) ≤ (((((sC : Nat) : Int).toNat - (0 : Int).toNat) : Nat) : Int) ∧ (((((sC : Nat) : Int).toNat - (0 : Int).toNat) : Nat) : Int) ≤ ((((sC : Nat) : Int).toNat - (0 : Int).toNat) : Nat)) ∧
                                          ∃ vs_18 : List Value, srcH h36 (slA (slA sA 2 (0 : Int) ((sC : Nat) : Int)) 2 (IntKind.wrap .i64 (i + k)) (((((sC : Nat) : Int).toNat - (0 : Int).toNat) : Nat) : Int)) (min (((((IntKind.wrap .i64 ((IntKind.wrap .i64 ((((i.toNat - (0 : Int).toNat) : Nat) : Int) + ((vN : Nat) : Int))) + (((((sN : Nat) : Int).toNat - j.toNat) : Nat) : Int))).toNat - (0 : Int).toNat) : Nat) : Int).toNat - (IntKind.wrap .i64 (i + k)).toNat) (((((IntKind.wrap .i64 ((IntKind.wrap .i64 ((((i.toNat - (0 : Int).toNat) : Nat) : Int) + ((vN : Nat) : Int))) + (((((sN : Nat) : Int).toNat - j.toNat) : Nat) : Int))).toNat - (0 : Int).toNat) : Nat) : Int).toNat - (IntKind.wrap .i64 (i + ((vN : Nat) : Int))).toNat) * 2) vs_18 ∧
                                          ((vs_18.length = 0 →
                                              K (.slice (slA sA 2 (0 : Int) ((sC : Nat) : Int)) ((IntKind.wrap .i64 ((IntKind.wrap .i64 ((((i.toNat - (0 : Int).toNat) : Nat) : Int) + ((vN : Nat) : Int))) + (((((sN : Nat) : Int).toNat - j.toNat) : Nat) : Int))).toNat - (0 : Int).toNat) (((sC : Nat) : Int).toNat - (0 : Int).toNat)) h36) ∧
                                            (vs_18.length ≠ 0 → ∃ bv_22 ov_22 : Nat, (slA (slA sA 2 (0 : Int) ((sC : Nat) : Int)) 2 (IntKind.wrap .i64 (i + ((vN : Nat) : Int))) (((((sC : Nat) : Int).toNat - (0 : Int).toNat) : Nat) : Int)) = some ⟨bv_22, ov_22, none⟩ ∧ stH h36 bv_22 ov_22 vs_18 fun h38 =>
                                              K (.slice (slA sA 2 (0 : Int) ((sC : Nat) : Int)) ((IntKind.wrap .i64 ((IntKind.wrap .i64 ((((i.toNat - (0 : Int).toNat) : Nat) : Int) + ((vN : Nat) : Int))) + (((((sN : Nat) : Int).toNat - j.toNat) : Nat) : Int))).toNat - (0 : Int).toNat) (((sC : Nat) : Int).toNat - (0 : Int).toNat)) h38))))) h27))) h19))) h15))) h))))))))
set_option maxRecDepth 100000 in
theorem F_slices_Replace_api_Pair_api_Pair_eq {sA : Option Addr} {sN sC : Nat} {i : Int} {j : Int} {vA : Option Addr} {vN vC : Nat} {K : Value → PH → Prop} {h : PH} : @Eq Prop (F_slices_Replace_api_Pair_api_Pair sA sN sC i j vA vN vC K h) (denF Try.prog Try.f45 ⟨[], [], [], []⟩ [.v (.slice sA sN sC), .v (.int .i64 i), .v (.int .i64 j), .v (.slice vA vN vC)] K h) := by
  kernel_rfl
theorem F_slices_Replace_api_Pair_api_Pair_ok {sA : Option Addr} {sN sC : Nat} {i : Int} {j : Int} {vA : Option Addr} {vN vC : Nat}  {K : Value → PH → Prop} {h : PH} (hh : F_slices_Replace_api_Pair_api_Pair sA sN sC i j vA vN vC K h) : CallH Try.prog id_slices_Replace_api_Pair_api_Pair [.slice sA sN sC, .int .i64 i, .int .i64 j, .slice vA vN vC] K h :=
  denF_sound' Try.func45 (H := ⟨[], [], [], []⟩) (xs := [.v (.slice sA sN sC), .v (.int .i64 i), .v (.int .i64 j), .v (.slice vA vN vC)]) (by kernel_rfl) (⟨rfl, rfl, rfl, rfl, trivial⟩) (den_of F_slices_Replace_api_Pair_api_Pair_eq hh)

/- slices.Clone[[]twinlock/api.Pair,twinlock/api.Pair] -/
def F_slices_Clone_api_Pair_api_Pair (sA : Option Addr) (sN _ : Nat) (K : Value → PH → Prop) (h : PH) : Prop :=
  (((Option.isNone sA) = true →
      K (.slice none 0 0) h) ∧
    ((Option.isNone sA) = false →
      newH h (.cells #[] T_api_Pair (0, 0)) fun bv h1 =>
      ∃ vs : List Value, srcH h1 sA (sN * 2) vs ∧
      appH T_api_Pair 2 32 [.string (⟨#[]⟩ : ByteArray), .string (⟨#[]⟩ : ByteArray)] (some ⟨bv, 0, none⟩) 0 0 sN vs (fun tA tN tC h2 =>
        K (.slice tA tN tC) h2) h1))
theorem F_slices_Clone_api_Pair_api_Pair_eq {sA : Option Addr} {sN sC : Nat} {K : Value → PH → Prop} {h : PH} : @Eq Prop (F_slices_Clone_api_Pair_api_Pair sA sN sC K h) (denF Try.prog Try.f46 ⟨[], [], [], []⟩ [.v (.slice sA sN sC)] K h) := by
  kernel_rfl
theorem F_slices_Clone_api_Pair_api_Pair_ok {sA : Option Addr} {sN sC : Nat}  {K : Value → PH → Prop} {h : PH} (hh : F_slices_Clone_api_Pair_api_Pair sA sN sC K h) : CallH Try.prog id_slices_Clone_api_Pair_api_Pair [.slice sA sN sC] K h :=
  denF_sound' Try.func46 (H := ⟨[], [], [], []⟩) (xs := [.v (.slice sA sN sC)]) (by kernel_rfl) (⟨rfl, trivial⟩) (den_of F_slices_Clone_api_Pair_api_Pair_eq hh)

/- slices.Insert[[]twinlock/api.Pair,twinlock/api.Pair] -/
def F_slices_Insert_api_Pair_api_Pair (sA : Option Addr) (sN sC : Nat) (i : Int) (vA : Option Addr) (vN vC : Nat) (K : Value → PH → Prop) (h : PH) : Prop :=
  (0 ≤ i ∧ i ≤ ((sN : Nat) : Int) ∧ ((sN : Nat) : Int) ≤ ((sC : Nat) : Int) ∧ ((sC : Nat) : Int) ≤ (sC : Nat)) ∧
  (((((vN : Nat) : Int) == (0 : Int)) = true →
      K (.slice sA sN sC) h) ∧
    ((((vN : Nat) : Int) == (0 : Int)) = false →
      (((i == ((sN : Nat) : Int)) = true →
          ∃ vs : List Value, srcH h vA (vN * 2) vs ∧
          appH T_api_Pair 2 32 [.string (⟨#[]⟩ : ByteArray), .string (⟨#[]⟩ : ByteArray)] sA sN sC vN vs (fun tA tN tC h1 =>
            K (.slice tA tN tC) h1) h) ∧
        ((i == ((sN : Nat) : Int)) = false →
          (((decide ((IntKind.wrap .i64 (((sN : Nat) : Int) + ((vN : Nat) : Int))) > ((sC : Nat) : Int))) = true →
              (0 ≤ (0 : Int) ∧ (0 : Int) ≤ i ∧ i ≤ ((sC : Nat) : Int) ∧ ((sC : Nat) : Int) ≤ (sC : Nat)) ∧
              (0 ≤ (IntKind.wrap .i64 ((IntKind.wrap .i64 (((sN : Nat) : Int) + ((vN : Nat) : Int))) - i)) ∧ (IntKind.wrap .i64 ((IntKind.wrap .i64 (((sN : Nat) : Int) + ((vN : Nat) : Int))) - i)) * (32 : Nat) ≤ 140737488355328) ∧
              appH T_api_Pair 2 32 [.string (⟨#[]⟩ : ByteArray), .string (⟨#[]⟩ : ByteArray)] (slA sA 2 (0 : Int) ((sC : Nat) : Int)) (i.toNat - (0 : Int).toNat) (((sC : Nat) : Int).toNat - (0 : Int).toNat) ((IntKind.wrap .i64 ((IntKind.wrap .i64 (((sN : Nat) : Int) + ((vN : Nat) : Int))) - i))).toNat (List.replicate ((IntKind.wrap .i64 ((IntKind.wrap .i64 (((sN : Nat) : Int) + ((vN : Nat) : Int))) - i))).toNat [.string (⟨#[]⟩ : ByteArray), .string (⟨#[]⟩ : ByteArray)]).flatten (fun s2A s2N s2C h2 =>
                (0 ≤ i ∧ i ≤ ((s2N : Nat) : Int) ∧ ((s2N : Nat) : Int) ≤ ((s2C : Nat) : Int) ∧ ((s2C : Nat) : Int) ≤ (s2C : Nat)) ∧
                ∃ vs_1 : List Value, srcH h2 vA (min vN (((s2N : Nat) : Int).toNat - i.toNat) * 2) vs_1 ∧
                ((vs_1.length = 0 →
                    (0 ≤ (IntKind.wrap .i64 (i + ((vN : Nat) : Int))) ∧ (IntKind.wrap .i64 (i + ((vN : Nat) : Int))) ≤ ((s2N : Nat) : Int) ∧ ((s2N : Nat) : Int) ≤ ((s2C : Nat) : Int) ∧ ((s2C : Nat) : Int) ≤ (s2C : Nat)) ∧
                    (0 ≤ i ∧ i ≤ ((sN : Nat) : Int) ∧ ((sN : Nat) : Int) ≤ ((sC : Nat) : Int) ∧ ((sC : Nat) : Int) ≤ (sC : Nat)) ∧
                    ∃ vs_2 : List Value, srcH h2 (slA sA 2 i ((sC : Nat) : Int)) (min (((sN : Nat) : Int).toNat - i.toNat) (((s2N : Nat) : Int).toNat - (IntKind.wrap .i64 (i + ((vN : Nat) : Int))).toNat) * 2) vs_2 ∧
                    ((vs_2.length = 0 →
                        K (.slice s2A s2N s2C) h2) ∧
                      (vs_2.length ≠ 0 → ∃ bv_1 ov_1 : Nat, (slA s2A 2 (IntKind.wrap .i64 (i + ((vN : Nat) : Int))) ((s2C : Nat) : Int)) = some ⟨bv_1, ov_1, none⟩ ∧ stH h2 bv_1 ov_1 vs_2 fun h4 =>
                        K (.slice s2A s2N s2C) h4))) ∧
                  (vs_1.length ≠ 0 → ∃ bv ov : Nat, (slA s2A 2 i ((s2C : Nat) : Int)) = some ⟨bv, ov, none⟩ ∧ stH h2 bv ov vs_1 fun h3 =>
                    (0 ≤ (IntKind.wrap .i64 (i + ((vN : Nat) : Int))) ∧ (IntKind.wrap .i64 (i + ((vN : Nat) : Int))) ≤ ((s2N : Nat) : Int) ∧ ((s2N : Nat) : Int) ≤ ((s2C : Nat) : Int) ∧ ((s2C : Nat) : Int) ≤ (s2C : Nat)) ∧
                    (0 ≤ i ∧ i ≤ ((sN : Nat) : Int) ∧ ((sN : Nat) : Int) ≤ ((sC : Nat) : Int) ∧ ((sC : Nat) : Int) ≤ (sC : Nat)) ∧
                    ∃ vs_3 : List Value, srcH h3 (slA sA 2 i ((sC : Nat) : Int)) (min (((sN : Nat) : Int).toNat - i.toNat) (((s2N : Nat) : Int).toNat - (IntKind.wrap .i64 (i + ((vN : Nat) : Int))).toNat) * 2) vs_3 ∧
                    ((vs_3.length = 0 →
                        K (.slice s2A s2N s2C) h3) ∧
                      (vs_3.length ≠ 0 → ∃ bv_2 ov_2 : Nat, (slA s2A 2 (IntKind.wrap .i64 (i + ((vN : Nat) : Int))) ((s2C : Nat) : Int)) = some ⟨bv_2, ov_2, none⟩ ∧ stH h3 bv_2 ov_2 vs_3 fun h5 =>
                        K (.slice s2A s2N s2C) h5))))) h) ∧
            ((decide ((IntKind.wrap .i64 (((sN : Nat) : Int) + ((vN : Nat) : Int))) > ((sC : Nat) : Int))) = false →
              (0 ≤ (0 : Int) ∧ (0 : Int) ≤ (IntKind.wrap .i64 (((sN : Nat) : Int) + ((vN : Nat) : Int))) ∧ (IntKind.wrap .i64 (((sN : Nat) : Int) + ((vN : Nat) : Int))) ≤ ((sC : Nat) : Int) ∧ ((sC : Nat) : Int) ≤ (sC : Nat)) ∧
              (0 ≤ (IntKind.wrap .i64 (i + ((vN : Nat) : Int))) ∧ (IntKind.wrap .i64 (i + ((vN : Nat) : Int))) ≤ ((((IntKind.wrap .i64 (((sN : Nat) : Int) + ((vN : Nat) : Int))).toNat - (0 : Int).toNat) : Nat) : Int) ∧ ((((IntKind.wrap .i64 (((sN : Nat) : Int) + ((vN : Nat) : Int))).toNat - (0 : Int).toNat) : Nat) : Int) ≤ (((((sC : Nat) : Int).toNat - (0 : Int).toNat) : Nat) : Int) ∧ (((((sC : Nat) : Int).toNat - (0 : Int).toNat) : Nat) : Int) ≤ ((((sC : Nat) : Int).toNat - (0 : Int).toNat) : Nat)) ∧
              ExtH Try.prog id_slices_overlaps_api_Pair [.slice vA vN vC, .slice (slA (slA sA 2 (0 : Int) ((sC : Nat) : Int)) 2 (IntKind.wrap .i64 (i + ((vN : Nat) : Int))) (((((sC : Nat) : Int).toNat - (0 : Int).toNat) : Nat) : Int)) (((((IntKind.wrap .i64 (((sN : Nat) : Int) + ((vN : Nat) : Int))).toNat - (0 : Int).toNat) : Nat) : Int).toNat - (IntKind.wrap .i64 (i + ((vN : Nat) : Int))).toNat) ((((((sC : Nat) : Int).toNat - (0 : Int).toNat) : Nat) : Int).toNat - (IntKind.wrap .i64 (i + ((vN : Nat) : Int))).toNat)] (fun v h6 =>
                ∃ t : Bool, v = .bool t ∧
                (((!t) = true →
                    (0 ≤ (IntKind.wrap .i64 (i + ((vN : Nat) : Int))) ∧ (IntKind.wrap .i64 (i + ((vN : Nat) : Int))) ≤ ((((IntKind.wrap .i64 (((sN : Nat) : Int) + ((vN : Nat) : Int))).toNat - (0 : Int).toNat) : Nat) : Int) ∧ ((((IntKind.wrap .i64 (((sN : Nat) : Int) + ((vN : Nat) : Int))).toNat - (0 : Int).toNat) : Nat) : Int) ≤ (((((sC : Nat) : Int).toNat - (0 : Int).toNat) : Nat) : Int) ∧ (((((sC : Nat) : Int).toNat - (0 : Int).toNat) : Nat) : Int) ≤ ((((sC : Nat) : Int).toNat - (0 : Int).toNat) : Nat)) ∧
                    (0 ≤ i ∧ i ≤ ((((IntKind.wrap .i64 (((sN : Nat) : Int) + ((vN : Nat) : Int))).toNat - (0 : Int).toNat) : Nat) : Int) ∧ ((((IntKind.wrap .i64 (((sN : Nat) : Int) + ((vN : Nat) : Int))).toNat - (0 : Int).toNat) : Nat) : Int) ≤ (((((sC : Nat) : Int).toNat - (0 : Int).toNat) : Nat) : Int) ∧ (((((sC : Nat) : Int).toNat - (0 : Int).toNat) : Nat) : Int) ≤ ((((sC : Nat) : Int).toNat - (0 : Int).toNat) : Nat)) ∧
                    ∃ vs_4 : List Value, srcH h6 (slA (slA sA 2 (0 : Int) ((sC : Nat) : Int)) 2 i (((((sC : Nat) : Int).toNat - (0 : Int).toNat) : Nat) : Int)) (min (((((IntKind.wrap .i64 (((sN : Nat) : Int) + ((vN : Nat) : Int))).toNat - (0 : Int).toNat) : Nat) : Int).toNat - i.toNat) (((((IntKind.wrap .i64 (((sN : Nat) : Int) + ((vN : Nat) : Int))).toNat - (0 : Int).toNat) : Nat) : Int).toNat - (IntKind.wrap .i64 (i + ((vN : Nat) : Int))).toNat) * 2) vs_4 ∧
                    ((vs_4.length = 0 →
                        (0 ≤ i ∧ i ≤ ((((IntKind.wrap .i64 (((sN : Nat) : Int) + ((vN : Nat) : Int))).toNat - (0 : Int).toNat) : Nat) : Int) ∧ ((((IntKind.wrap .i64 (((sN : Nat) : Int) + ((vN : Nat) : Int))).toNat - (0 : Int).toNat) : Nat) : Int) ≤ (((((sC : Nat) : Int).toNat - (0 : Int).toNat) : Nat) : Int) ∧ (((((sC : Nat) : Int).toNat - (0 : Int).toNat) : Nat) : Int) ≤ ((((sC : Nat) : Int).toNat - (0 : Int).toNat) : Nat)) ∧
                        ∃ vs_5 : List Value, srcH h6 vA (min vN (((((IntKind.wrap .i64 (((sN : Nat) : Int) + ((vN : Nat) : Int))).toNat - (0 : Int).toNat) : Nat) : Int).toNat - i.toNat) * 2) vs_5 ∧
                        ((vs_5.length = 0 →
                            K (.slice (slA sA 2 (0 : Int) ((sC : Nat) : Int)) ((IntKind.wrap .i64 (((sN : Nat) : Int) + ((vN : Nat) : Int))).toNat - (0 : Int).toNat) (((sC : Nat) : Int).toNat - (0 : Int).toNat)) h6) ∧
                          (vs_5.length ≠ 0 → ∃ bv_4 ov_4 : Nat, (slA (slA sA 2 (0 : Int) ((sC : Nat) : Int)) 2 i (((((sC : Nat) : Int).toNat - (0 : Int).toNat) : Nat) : Int)) = some ⟨bv_4, ov_4, none⟩ ∧ stH h6 bv_4 ov_4 vs_5 fun h8 =>
                            K (.slice (slA sA 2 (0 : Int) ((sC : Nat) : Int)) ((IntKind.wrap .i64 (((sN : Nat) : Int) + ((vN : Nat) : Int))).toNat - (0 : Int).toNat) (((sC : Nat) : Int).toNat - (0 : Int).toNat)) h8))) ∧
                      (vs_4.length ≠ 0 → ∃ bv_3 ov_3 : Nat, (slA (slA sA 2 (0 : Int) ((sC : Nat) : Int)) 2 (IntKind.wrap .i64 (i + ((vN : Nat) : Int))) (((((sC : Nat) : Int).toNat - (0 : Int).toNat) : Nat) : Int)) = some ⟨bv_3, ov_3, none⟩ ∧ stH h6 bv_3 ov_3 vs_4 fun h7 =>
                        (0 ≤ i ∧ i ≤ ((((IntKind.wrap .i64 (((sN : Nat) : Int) + ((vN : Nat) : Int))).toNat - (0 : Int).toNat) : Nat) : Int) ∧ ((((IntKind.wrap .i64 (((sN : Nat) : Int) + ((vN : Nat) : Int))).toNat - (0 : Int).toNat) : Nat) : Int) ≤ (((((sC : Nat) : Int).toNat - (0 : Int).toNat) : Nat) : Int) ∧ (((((sC : Nat) : Int).toNat - (0 : Int).toNat) : Nat) : Int) ≤ ((((sC : Nat) : Int).toNat - (0 : Int).toNat) : Nat)) ∧
                        ∃ vs_6 : List Value, srcH h7 vA (min vN (((((IntKind.wrap .i64 (((sN : Nat) : Int) + ((vN : Nat) : Int))).toNat - (0 : Int).toNat) : Nat) : Int).toNat - i.toNat) * 2) vs_6 ∧
                        ((vs_6.length = 0 →
                            K (.slice (slA sA 2 (0 : Int) ((sC : Nat) : Int)) ((IntKind.wrap .i64 (((sN : Nat) : Int) + ((vN : Nat) : Int))).toNat - (0 : Int).toNat) (((sC : Nat) : Int).toNat - (0 : Int).toNat)) h7) ∧
                          (vs_6.length ≠ 0 → ∃ bv_5 ov_5 : Nat, (slA (slA sA 2 (0 : Int) ((sC : Nat) : Int)) 2 i (((((sC : Nat) : Int).toNat - (0 : Int).toNat) : Nat) : Int)) = some ⟨bv_5, ov_5, none⟩ ∧ stH h7 bv_5 ov_5 vs_6 fun h9 =>
                            K (.slice (slA sA 2 (0 : Int) ((sC : Nat) : Int)) ((IntKind.wrap .i64 (((sN : Nat) : Int) + ((vN : Nat) : Int))).toNat - (0 : Int).toNat) (((sC : Nat) : Int).toNat - (0 : Int).toNat)) h9))))) ∧
                  ((!t) = false →
                    (0 ≤ ((sN : Nat) : Int) ∧ ((sN : Nat) : Int) ≤ ((((IntKind.wrap .i64 (((sN : Nat) : Int) + ((vN : Nat) : Int))).toNat - (0 : Int).toNat) : Nat) : Int) ∧ ((((IntKind.wrap .i64 (((sN : Nat) : Int) + ((vN : Nat) : Int))).toNat - (0 : Int).toNat) : Nat) : Int) ≤ (((((sC : Nat) : Int).toNat - (0 : Int).toNat) : Nat) : Int) ∧ (((((sC : Nat) : Int).toNat - (0 : Int).toNat) : Nat) : Int) ≤ ((((sC : Nat) : Int).toNat - (0 : Int).toNat) : Nat)) ∧
                    ∃ vs_7 : List Value, srcH h6 vA (min vN (((((IntKind.wrap .i64 (((sN : Nat) : Int) + ((vN : Nat) : Int))).toNat - (0 : Int).toNat) : Nat) : Int).toNat - ((sN : Nat) : Int).toNat) * 2) vs_7 ∧
                    ((vs_7.length = 0 →
                        (0 ≤ i ∧ i ≤ ((((IntKind.wrap .i64 (((sN : Nat) : Int) + ((vN : Nat) : Int))).toNat - (0 : Int).toNat) : Nat) : Int) ∧ ((((IntKind.wrap .i64 (((sN : Nat) : Int) + ((vN : Nat) : Int))).toNat - (0 : Int).toNat) : Nat) : Int) ≤ (((((sC : Nat) : Int).toNat - (0 : Int).toNat) : Nat) : Int) ∧ (((((sC : Nat) : Int).toNat - (0 : Int).toNat) : Nat) : Int) ≤ ((((sC : Nat) : Int).toNat - (0 : Int).toNat) : Nat)) ∧
                        CallH Try.prog id_slices_rotateRight_api_Pair [.slice (slA (slA sA 2 (0 : Int) ((sC : Nat) : Int)) 2 i (((((sC : Nat) : Int).toNat - (0 : Int).toNat) : Nat) : Int)) (((((IntKind.wrap .i64 (((sN : Nat) : Int) + ((vN : Nat) : Int))).toNat - (0 : Int).toNat) : Nat) : Int).toNat - i.toNat) ((((((sC : Nat) : Int).toNat - (0 : Int).toNat) : Nat) : Int).toNat - i.toNat), .int .i64 ((vN : Nat) : Int)] (fun _ h11 =>
                          K (.slice (slA sA 2 (0 : Int) ((sC : Nat) : Int)) ((IntKind.wrap .i64 (((sN : Nat) : Int) + ((vN : Nat) : Int))).toNat - (0 : Int).toNat) (((sC : Nat) : Int).toNat - (0 : Int).toNat)) h11) h6) ∧
                      (vs_7.length ≠ 0 → ∃ bv_6 ov_6 : Nat, (slA (slA sA 2 (0 : Int) ((sC : Nat) : Int)) 2 ((sN : Nat) : Int) (((((sC : Nat) : Int).toNat - (0 : Int).toNat) : Nat) : Int)) = some ⟨bv_6, ov_6, none⟩ ∧ stH h6 bv_6 ov_6 vs_7 fun h10 =>
                        (0 ≤ i ∧ i ≤ ((((IntKind.wrap .i64 (((sN : Nat) : Int) + ((vN : Nat) : Int))).toNat - (0 : Int).toNat) : Nat) : Int) ∧ ((((IntKind.wrap .i64 (((sN : Nat) : Int) + ((vN : Nat) : Int))).toNat - (0 : Int).toNat) : Nat) : Int) ≤ (((((sC : Nat) : Int).toNat - (0 : Int).toNat) : Nat) : Int) ∧ (((((sC : Nat) : Int).toNat - (0 : Int).toNat) : Nat) : Int) ≤ ((((sC : Nat) : Int).toNat - (0 : Int).toNat) : Nat)) ∧
                        CallH Try.prog id_slices_rotateRight_api_Pair [.slice (slA (slA sA 2 (0 : Int) ((sC : Nat) : Int)) 2 i (((((sC : Nat) : Int).toNat - (0 : Int).toNat) : Nat) : Int)) (((((IntKind.wrap .i64 (((sN : Nat) : Int) + ((vN : Nat) : Int))).toNat - (0 : Int).toNat) : Nat) : Int).toNat - i.toNat) ((((((sC : Nat) : Int).toNat - (0 : Int).toNat) : Nat) : Int).toNat - i.toNat), .int .i64 ((vN : Nat) : Int)] (fun _ h12 =>
                          K (.slice (slA sA 2 (0 : Int) ((sC : Nat) : Int)) ((IntKind.wrap .i64 (((sN : Nat) : Int) + ((vN : Nat) : Int))).toNat - (0 : Int).toNat) (((sC : Nat) : Int).toNat - (0 : Int).toNat)) h12) h10))))) h))))))
theorem F_slices_Insert_api_Pair_api_Pair_eq {sA : Option Addr} {sN sC : Nat} {i : Int} {vA : Option Addr} {vN vC : Nat} {K : Value → PH → Prop} {h : PH} : @Eq Prop (F_slices_Insert_api_Pair_api_Pair sA sN sC i vA vN vC K h) (denF Try.prog Try.f47 ⟨[], [], [], []⟩ [.v (.slice sA sN sC), .v (.int .i64 i), .v (.slice vA vN vC)] K h) := by
  kernel_rfl
theorem F_slices_Insert_api_Pair_api_Pair_ok {sA : Option Addr} {sN sC : Nat} {i : Int} {vA : Option Addr} {vN vC : Nat}  {K : Value → PH → Prop} {h : PH} (hh : F_slices_Insert_api_Pair_api_Pair sA sN sC i vA vN vC K h) : CallH Try.prog id_slices_Insert_api_Pair_api_Pair [.slice sA sN sC, .int .i64 i, .slice vA vN vC] K h :=
  denF_sound' Try.func47 (H := ⟨[], [], [], []⟩) (xs := [.v (.slice sA sN sC), .v (.int .i64 i), .v (.slice vA vN vC)]) (by kernel_rfl) (⟨rfl, rfl, rfl, trivial⟩) (den_of F_slices_Insert_api_Pair_api_Pair_eq hh)

/- twinlock/bucket.Page -/
def F_bucket_Page (i : Int) (lA : Option Addr) (lN lC : Nat) (K : Value → PH → Prop) (h : PH) : Prop :=
  JoinP (T := Unit) (fun Jv =>
    CallH Try.prog id_bucket_bucket [.int .i64 i] (fun v h2 =>
      ∃ t : Bool, v = .bool t ∧
      (((!t) = false →
          CallH Try.prog id_bucket_May [.slice lA lN lC] (fun v_1 h3 =>
            ∃ t_1 : Bool, v_1 = .bool t_1 ∧
            (((!t_1) = false →
                CallH Try.prog id_bucket_Part [.slice lA lN lC, .int .i64 i] (fun v_2 h4 =>
                  ∃ (tA : Option Addr) (tN tC : Nat), v_2 = .slice tA tN tC ∧
                  (((((tN : Nat) : Int) != ((lN : Nat) : Int)) = true →
                      K (.tuple #[.string (⟨#[]⟩ : ByteArray), .int .i64 (1 : Int)]) h4) ∧
                    ((((tN : Nat) : Int) != ((lN : Nat) : Int)) = false →
                      (((decide (((lN : Nat) : Int) > (48 : Int))) = true →
                          K (.tuple #[.string (⟨#[]⟩ : ByteArray), .int .i64 (3 : Int)]) h4) ∧
                        ((decide (((lN : Nat) : Int) > (48 : Int))) = false →
                          Jv (()) h4))))) h3) ∧
              ((!t_1) = true →
                K (.tuple #[.string (⟨#[]⟩ : ByteArray), .int .i64 (1 : Int)]) h3))) h2) ∧
        ((!t) = true →
          K (.tuple #[.string (⟨#[]⟩ : ByteArray), .int .i64 (1 : Int)]) h2))) h)
  (fun _ h1 =>
    newH h1 (.cells #[.slice none 0 0] T_pack_Out (0, 0)) fun bv h5 =>
    CallH Try.prog id_pack_Out_Num [.pointer (some ⟨bv, 0, none⟩), .int .u64 (IntKind.wrap .u64 ((lN : Nat) : Int))] (fun _ h6 =>
      LoopP (T := Int × Unit) (fun Jv_1 st_1 h7 =>
        (((decide (st_1.1 < ((lN : Nat) : Int))) = true →
            ∃ bv_1 ov : Nat, (lA = some ⟨bv_1, ov, none⟩ ∧ 0 ≤ st_1.1 ∧ st_1.1 < (lN : Nat)) ∧
            ∃ x0 : ByteArray, ∃ x1 : ByteArray, (h7.rds bv_1 (ov + st_1.1.toNat * 2) 2 = some [.string x0, .string x1]) ∧
            CallH Try.prog id_pack_Out_Text [.pointer (some ⟨bv, 0, none⟩), .string x0] (fun _ h8 =>
              CallH Try.prog id_pack_Out_Text [.pointer (some ⟨bv, 0, none⟩), .string x1] (fun _ h9 =>
                Jv_1 ((IntKind.wrap .i64 (st_1.1 + (1 : Int))), ()) h9) h8) h7) ∧
          ((decide (st_1.1 < ((lN : Nat) : Int))) = false →
            CallH Try.prog id_pack_Out_String [.pointer (some ⟨bv, 0, none⟩)] (fun v_6 h10 =>
              ∃ t_2 : ByteArray, v_6 = .string t_2 ∧
              K (.tuple #[.string t_2, .int .i64 (0 : Int)]) h10) h7))) ((0 : Int), ()) h6) h5)
theorem F_bucket_Page_eq {i : Int} {lA : Option Addr} {lN lC : Nat} {K : Value → PH → Prop} {h : PH} : @Eq Prop (F_bucket_Page i lA lN lC K h) (denF Try.prog Try.f50 ⟨[8], [], [(1, ⟨[(40, .int .i64)], [], []⟩)], [(12, ⟨[], [], []⟩)]⟩ [.v (.int .i64 i), .v (.slice lA lN lC)] K h) := by
  kernel_rfl
theorem F_bucket_Page_ok {i : Int} {lA : Option Addr} {lN lC : Nat}  {K : Value → PH → Prop} {h : PH} (hh : F_bucket_Page i lA lN lC K h) : CallH Try.prog id_bucket_Page [.int .i64 i, .slice lA lN lC] K h :=
  denF_sound' Try.func50 (H := ⟨[8], [], [(1, ⟨[(40, .int .i64)], [], []⟩)], [(12, ⟨[], [], []⟩)]⟩) (xs := [.v (.int .i64 i), .v (.slice lA lN lC)]) (by kernel_rfl) (⟨rfl, rfl, trivial⟩) (den_of F_bucket_Page_eq hh)

/- strings.Cut -/
def F_strings_Cut (sv : ByteArray) (sep : ByteArray) (K : Value → PH → Prop) (h : PH) : Prop :=
  CallH Try.prog id_internal_stringslite_Cut [.string sv, .string sep] (fun v h1 =>
    ∃ t0 : ByteArray, ∃ t1 : ByteArray, ∃ t2 : Bool, v = .tuple #[.string t0, .string t1, .bool t2] ∧
    K (.tuple #[.string t0, .string t1, .bool t2]) h1) h
theorem F_strings_Cut_eq {sv : ByteArray} {sep : ByteArray} {K : Value → PH → Prop} {h : PH} : @Eq Prop (F_strings_Cut sv sep K h) (denF Try.prog Try.f51 ⟨[], [], [], []⟩ [.v (.string sv), .v (.string sep)] K h) := by
  kernel_rfl
theorem F_strings_Cut_ok {sv : ByteArray} {sep : ByteArray}  {K : Value → PH → Prop} {h : PH} (hh : F_strings_Cut sv sep K h) : CallH Try.prog id_strings_Cut [.string sv, .string sep] K h :=
  denF_sound' Try.func51 (H := ⟨[], [], [], []⟩) (xs := [.v (.string sv), .v (.string sep)]) (by kernel_rfl) (⟨rfl, rfl, trivial⟩) (den_of F_strings_Cut_eq hh)

/- twinlock/path.named -/
def F_path_named (sv : ByteArray) (K : Value → PH → Prop) (h : PH) : Prop :=
  LoopP (T := Int × Unit) (fun Jv st h1 =>
    (((decide (st.1 < (sv.size : Int))) = true →
        (0 ≤ st.1 ∧ st.1 < (ByteArray.size sv : Nat)) ∧
        (((decide ((byteAt sv st.1) < (97 : Int))) = false → 0 ≤ st.1 ∧ st.1 < (ByteArray.size sv : Nat))) ∧
        ((((decide ((byteAt sv st.1) < (97 : Int))) || (decide ((byteAt sv st.1) > (122 : Int)))) = true →
            K (.bool false) h1) ∧
          (((decide ((byteAt sv st.1) < (97 : Int))) || (decide ((byteAt sv st.1) > (122 : Int)))) = false →
            Jv ((IntKind.wrap .i64 (st.1 + (1 : Int))), ()) h1))) ∧
      ((decide (st.1 < (sv.size : Int))) = false →
        K (.bool ((decide ((sv.size : Int) ≥ (1 : Int))) && (decide ((sv.size : Int) ≤ (8 : Int))))) h1))) ((0 : Int), ()) h
theorem F_path_named_eq {sv : ByteArray} {K : Value → PH → Prop} {h : PH} : @Eq Prop (F_path_named sv K h) (denF Try.prog Try.f52 ⟨[], [], [(0, ⟨[(6, .int .i64)], [], []⟩)], []⟩ [.v (.string sv)] K h) := by
  kernel_rfl
theorem F_path_named_ok {sv : ByteArray}  {K : Value → PH → Prop} {h : PH} (hh : F_path_named sv K h) : CallH Try.prog id_path_named [.string sv] K h :=
  denF_sound' Try.func52 (H := ⟨[], [], [(0, ⟨[(6, .int .i64)], [], []⟩)], []⟩) (xs := [.v (.string sv)]) (by kernel_rfl) (⟨rfl, trivial⟩) (den_of F_path_named_eq hh)

/- twinlock/path.key -/
def F_path_key (sv : ByteArray) (K : Value → PH → Prop) (h : PH) : Prop :=
  ((((decide ((sv.size : Int) ≥ (1 : Int))) && (decide ((sv.size : Int) ≤ (24 : Int)))) = true →
      CallH Try.prog id_strings_IndexByte [.string sv, .int .u8 (0 : Int)] (fun v h1 =>
        ∃ t : Int, v = .int .i64 t ∧
        (((decide (t < (0 : Int))) = true →
            CallH Try.prog id_strings_IndexByte [.string sv, .int .u8 (47 : Int)] (fun v_1 h2 =>
              ∃ t_1 : Int, v_1 = .int .i64 t_1 ∧
              K (.bool (decide (t_1 < (0 : Int)))) h2) h1) ∧
          ((decide (t < (0 : Int))) = false →
            K (.bool false) h1))) h) ∧
    (((decide ((sv.size : Int) ≥ (1 : Int))) && (decide ((sv.size : Int) ≤ (24 : Int)))) = false →
      K (.bool false) h))
theorem F_path_key_eq {sv : ByteArray} {K : Value → PH → Prop} {h : PH} : @Eq Prop (F_path_key sv K h) (denF Try.prog Try.f53 ⟨[], [], [], []⟩ [.v (.string sv)] K h) := by
  kernel_rfl
theorem F_path_key_ok {sv : ByteArray}  {K : Value → PH → Prop} {h : PH} (hh : F_path_key sv K h) : CallH Try.prog id_path_key [.string sv] K h :=
  denF_sound' Try.func53 (H := ⟨[], [], [], []⟩) (xs := [.v (.string sv)]) (by kernel_rfl) (⟨rfl, trivial⟩) (den_of F_path_key_eq hh)

/- twinlock/bucket.Of -/
def F_bucket_Of (p : ByteArray) (K : Value → PH → Prop) (h : PH) : Prop :=
  CallH Try.prog id_sha_Sum [.string p] (fun v h1 =>
    ∃ hv : List Int, hv.length = 32 ∧ v = .agg ((hv.map (Value.int .u8) ++ [])).toArray ∧
    K (.int .i64 (IntKind.wrap .i64 (shrV .u8 ((hv.take 1).getD 0 0) (4 : Int)))) h1) h
theorem F_bucket_Of_eq {p : ByteArray} {K : Value → PH → Prop} {h : PH} : @Eq Prop (F_bucket_Of p K h) (denF Try.prog Try.f54 ⟨[3], [], [], []⟩ [.v (.string p)] K h) := by
  kernel_rfl
theorem F_bucket_Of_ok {p : ByteArray}  {K : Value → PH → Prop} {h : PH} (hh : F_bucket_Of p K h) : CallH Try.prog id_bucket_Of [.string p] K h :=
  denF_sound' Try.func54 (H := ⟨[3], [], [], []⟩) (xs := [.v (.string p)]) (by kernel_rfl) (⟨rfl, trivial⟩) (den_of F_bucket_Of_eq hh)

/- slices.BinarySearchFunc[[]twinlock/api.Pair,twinlock/api.Pair,string] -/
def F_slices_BinarySearchFunc_api_Pair_api_Pair_string (xA : Option Addr) (xN _ : Nat) (target : ByteArray) (cmp : Value) (K : Value → PH → Prop) (h : PH) : Prop :=
  LoopP (T := Int × Int × Unit) (fun Jv st h1 =>
    (((decide (st.1 < st.2.1)) = true →
        ∃ bv ov : Nat, (xA = some ⟨bv, ov, none⟩ ∧ 0 ≤ (IntKind.wrap .i64 (shrV .u64 (IntKind.wrap .u64 (IntKind.wrap .i64 (st.1 + st.2.1))) (1 : Int))) ∧ (IntKind.wrap .i64 (shrV .u64 (IntKind.wrap .u64 (IntKind.wrap .i64 (st.1 + st.2.1))) (1 : Int))) < (xN : Nat)) ∧
        ∃ t0 : ByteArray, ∃ t1 : ByteArray, (h1.rds bv (ov + (IntKind.wrap .i64 (shrV .u64 (IntKind.wrap .u64 (IntKind.wrap .i64 (st.1 + st.2.1))) (1 : Int))).toNat * 2) 2 = some [.string t0, .string t1]) ∧
        CallV Try.prog cmp [.agg #[.string t0, .string t1], .string target] (fun v h2 =>
          ∃ t : Int, v = .int .i64 t ∧
          (((decide (t < (0 : Int))) = true →
              Jv ((IntKind.wrap .i64 ((IntKind.wrap .i64 (shrV .u64 (IntKind.wrap .u64 (IntKind.wrap .i64 (st.1 + st.2.1))) (1 : Int))) + (1 : Int))), st.2.1, ()) h2) ∧
            ((decide (t < (0 : Int))) = false →
              Jv (st.1, (IntKind.wrap .i64 (shrV .u64 (IntKind.wrap .u64 (IntKind.wrap .i64 (st.1 + st.2.1))) (1 : Int))), ()) h2))) h1) ∧
      ((decide (st.1 < st.2.1)) = false →
        ∃ bv_1 ov_1 : Nat, (((decide (st.1 < ((xN : Nat) : Int))) = true → xA = some ⟨bv_1, ov_1, none⟩ ∧ 0 ≤ st.1 ∧ st.1 < (xN : Nat))) ∧
        ∃ t0_1 : ByteArray, ∃ t1_1 : ByteArray, (((decide (st.1 < ((xN : Nat) : Int))) = true → h1.rds bv_1 (ov_1 + st.1.toNat * 2) 2 = some [.string t0_1, .string t1_1])) ∧
        (((decide (st.1 < ((xN : Nat) : Int))) = true →
            CallV Try.prog cmp [.agg #[.string t0_1, .string t1_1], .string target] (fun v_1 h3 =>
              ∃ t_1 : Int, v_1 = .int .i64 t_1 ∧
              K (.tuple #[.int .i64 st.1, .bool (t_1 == (0 : Int))]) h3) h1) ∧
          ((decide (st.1 < ((xN : Nat) : Int))) = false →
            K (.tuple #[.int .i64 st.1, .bool false]) h1))))) ((0 : Int), ((xN : Nat) : Int), ()) h
theorem F_slices_BinarySearchFunc_api_Pair_api_Pair_string_eq {xA : Option Addr} {xN xC : Nat} {target : ByteArray} {cmp : Value} {K : Value → PH → Prop} {h : PH} : @Eq Prop (F_slices_BinarySearchFunc_api_Pair_api_Pair_string xA xN xC target cmp K h) (denF Try.prog Try.f55 ⟨[], [], [(0, ⟨[(9, .int .i64), (10, .int .i64)], [], []⟩)], []⟩ [.v (.slice xA xN xC), .v (.string target), .fn cmp] K h) := by
  kernel_rfl
theorem F_slices_BinarySearchFunc_api_Pair_api_Pair_string_ok {xA : Option Addr} {xN xC : Nat} {target : ByteArray} {cmp : Value} (hk0 : one1 cmp = true) {K : Value → PH → Prop} {h : PH} (hh : F_slices_BinarySearchFunc_api_Pair_api_Pair_string xA xN xC target cmp K h) : CallH Try.prog id_slices_BinarySearchFunc_api_Pair_api_Pair_string [.slice xA xN xC, .string target, cmp] K h :=
  denF_sound' Try.func55 (H := ⟨[], [], [(0, ⟨[(9, .int .i64), (10, .int .i64)], [], []⟩)], []⟩) (xs := [.v (.slice xA xN xC), .v (.string target), .fn cmp]) (by kernel_rfl) (⟨rfl, rfl, hk0, trivial⟩) (den_of F_slices_BinarySearchFunc_api_Pair_api_Pair_string_eq hh)

/- strings.Compare -/
def F_strings_Compare (a : ByteArray) (bv : ByteArray) (K : Value → PH → Prop) (h : PH) : Prop :=
  CallH Try.prog id_internal_bytealg_CompareString [.string a, .string bv] (fun v h1 =>
    ∃ t : Int, v = .int .i64 t ∧
    K (.int .i64 t) h1) h
theorem F_strings_Compare_eq {a : ByteArray} {bv : ByteArray} {K : Value → PH → Prop} {h : PH} : @Eq Prop (F_strings_Compare a bv K h) (denF Try.prog Try.f57 ⟨[], [], [], []⟩ [.v (.string a), .v (.string bv)] K h) := by
  kernel_rfl
theorem F_strings_Compare_ok {a : ByteArray} {bv : ByteArray}  {K : Value → PH → Prop} {h : PH} (hh : F_strings_Compare a bv K h) : CallH Try.prog id_strings_Compare [.string a, .string bv] K h :=
  denF_sound' Try.func57 (H := ⟨[], [], [], []⟩) (xs := [.v (.string a), .v (.string bv)]) (by kernel_rfl) (⟨rfl, rfl, trivial⟩) (den_of F_strings_Compare_eq hh)

/- twinlock/bucket.bucket -/
def F_bucket_bucket (i : Int) (K : Value → PH → Prop) (h : PH) : Prop :=
  K (.bool ((decide (i ≥ (0 : Int))) && (decide (i < (16 : Int))))) h
theorem F_bucket_bucket_eq {i : Int} {K : Value → PH → Prop} {h : PH} : @Eq Prop (F_bucket_bucket i K h) (denF Try.prog Try.f65 ⟨[], [], [], []⟩ [.v (.int .i64 i)] K h) := by
  kernel_rfl
theorem F_bucket_bucket_ok {i : Int}  {K : Value → PH → Prop} {h : PH} (hh : F_bucket_bucket i K h) : CallH Try.prog id_bucket_bucket [.int .i64 i] K h :=
  denF_sound' Try.func65 (H := ⟨[], [], [], []⟩) (xs := [.v (.int .i64 i)]) (by kernel_rfl) (⟨rfl, trivial⟩) (den_of F_bucket_bucket_eq hh)

/- twinlock/bucket.Part -/
def F_bucket_Part (lA : Option Addr) (lN _ : Nat) (i : Int) (K : Value → PH → Prop) (h : PH) : Prop :=
  LoopP (T := (Option Addr × Nat × Nat) × Int × Unit) (fun Jv st h1 =>
    (((decide (st.2.1 < ((lN : Nat) : Int))) = true →
        ∃ bv ov : Nat, (lA = some ⟨bv, ov, none⟩ ∧ 0 ≤ st.2.1 ∧ st.2.1 < (lN : Nat)) ∧
        ∃ x0 : ByteArray, ∃ x1 : ByteArray, (h1.rds bv (ov + st.2.1.toNat * 2) 2 = some [.string x0, .string x1]) ∧
        CallH Try.prog id_bucket_Of [.string x0] (fun v h2 =>
          ∃ t : Int, v = .int .i64 t ∧
          (((t == i) = true →
              appH T_api_Pair 2 32 [.string (⟨#[]⟩ : ByteArray), .string (⟨#[]⟩ : ByteArray)] st.1.1 st.1.2.1 st.1.2.2 1 [.string x0, .string x1] (fun outA outN outC h3 =>
                Jv ((outA, outN, outC), (IntKind.wrap .i64 (st.2.1 + (1 : Int))), ()) h3) h2) ∧
            ((t == i) = false →
              Jv ((st.1.1, st.1.2.1, st.1.2.2), (IntKind.wrap .i64 (st.2.1 + (1 : Int))), ()) h2))) h1) ∧
      ((decide (st.2.1 < ((lN : Nat) : Int))) = false →
        K (.slice st.1.1 st.1.2.1 st.1.2.2) h1))) ((none, 0, 0), (0 : Int), ()) h
theorem F_bucket_Part_eq {lA : Option Addr} {lN lC : Nat} {i : Int} {K : Value → PH → Prop} {h : PH} : @Eq Prop (F_bucket_Part lA lN lC i K h) (denF Try.prog Try.f66 ⟨[7, 21], [], [(0, ⟨[(5, .slice), (10, .int .i64)], [], []⟩)], []⟩ [.v (.slice lA lN lC), .v (.int .i64 i)] K h) := by
  kernel_rfl
theorem F_bucket_Part_ok {lA : Option Addr} {lN lC : Nat} {i : Int}  {K : Value → PH → Prop} {h : PH} (hh : F_bucket_Part lA lN lC i K h) : CallH Try.prog id_bucket_Part [.slice lA lN lC, .int .i64 i] K h :=
  denF_sound' Try.func66 (H := ⟨[7, 21], [], [(0, ⟨[(5, .slice), (10, .int .i64)], [], []⟩)], []⟩) (xs := [.v (.slice lA lN lC), .v (.int .i64 i)]) (by kernel_rfl) (⟨rfl, rfl, trivial⟩) (den_of F_bucket_Part_eq hh)

/- (*twinlock/pack.Out).Num -/
def F_pack_Out_Num (ov : Option Addr) (n : Int) (K : Value → PH → Prop) (h : PH) : Prop :=
  CallH Try.prog id_pack_size [.int .u64 n] (fun v h1 =>
    ∃ leftv : Int, v = .int .i64 leftv ∧
    LoopP (T := Int × Int × Unit) (fun Jv st h2 =>
      (((decide (st.2.1 > (1 : Int))) = true →
          newH h2 (.cells #[.int .u8 (bitsV .or .u8 (IntKind.wrap .u8 st.1) (128 : Int))] 5 (0, 0)) fun bv h3 =>
          CallH Try.prog id_pack_Out_put [.pointer ov, .slice (some ⟨bv, 0, none⟩) 1 1] (fun _ h4 =>
            Jv ((shrV .u64 st.1 (7 : Int)), (IntKind.wrap .i64 (st.2.1 - (1 : Int))), ()) h4) h3) ∧
        ((decide (st.2.1 > (1 : Int))) = false →
          newH h2 (.cells #[.int .u8 (IntKind.wrap .u8 st.1)] 5 (0, 0)) fun bv_1 h5 =>
          CallH Try.prog id_pack_Out_put [.pointer ov, .slice (some ⟨bv_1, 0, none⟩) 1 1] (fun _ h6 =>
            K (.tuple #[]) h6) h5))) (n, leftv, ()) h1) h
theorem F_pack_Out_Num_eq {ov : Option Addr} {n : Int} {K : Value → PH → Prop} {h : PH} : @Eq Prop (F_pack_Out_Num ov n K h) (denF Try.prog Try.f67 ⟨[], [], [(0, ⟨[(1, .int .u64), (4, .int .i64)], [], []⟩)], []⟩ [.v (.pointer ov), .v (.int .u64 n)] K h) := by
  kernel_rfl
theorem F_pack_Out_Num_ok {ov : Option Addr} {n : Int}  {K : Value → PH → Prop} {h : PH} (hh : F_pack_Out_Num ov n K h) : CallH Try.prog id_pack_Out_Num [.pointer ov, .int .u64 n] K h :=
  denF_sound' Try.func67 (H := ⟨[], [], [(0, ⟨[(1, .int .u64), (4, .int .i64)], [], []⟩)], []⟩) (xs := [.v (.pointer ov), .v (.int .u64 n)]) (by kernel_rfl) (⟨rfl, rfl, trivial⟩) (den_of F_pack_Out_Num_eq hh)

/- (*twinlock/pack.Out).Text -/
def F_pack_Out_Text (ov : Option Addr) (sv : ByteArray) (K : Value → PH → Prop) (h : PH) : Prop :=
  CallH Try.prog id_pack_Out_Num [.pointer ov, .int .u64 (IntKind.wrap .u64 (sv.size : Int))] (fun _ h1 =>
    ∀ cap : Nat, ByteArray.size sv ≤ cap → newH h1 (.cells (byteVs sv ++ List.replicate (cap - ByteArray.size sv) (Value.int .u8 0)).toArray 5 (cap, cap + 1)) fun bv h2 =>
    CallH Try.prog id_pack_Out_put [.pointer ov, .slice (some ⟨bv, 0, none⟩) (ByteArray.size sv) cap] (fun _ h3 =>
      K (.tuple #[]) h3) h2) h
theorem F_pack_Out_Text_eq {ov : Option Addr} {sv : ByteArray} {K : Value → PH → Prop} {h : PH} : @Eq Prop (F_pack_Out_Text ov sv K h) (denF Try.prog Try.f68 ⟨[], [], [], []⟩ [.v (.pointer ov), .v (.string sv)] K h) := by
  kernel_rfl
theorem F_pack_Out_Text_ok {ov : Option Addr} {sv : ByteArray}  {K : Value → PH → Prop} {h : PH} (hh : F_pack_Out_Text ov sv K h) : CallH Try.prog id_pack_Out_Text [.pointer ov, .string sv] K h :=
  denF_sound' Try.func68 (H := ⟨[], [], [], []⟩) (xs := [.v (.pointer ov), .v (.string sv)]) (by kernel_rfl) (⟨rfl, rfl, trivial⟩) (den_of F_pack_Out_Text_eq hh)

/- (*twinlock/pack.Out).String -/
def F_pack_Out_String (ov : Option Addr) (K : Value → PH → Prop) (h : PH) : Prop :=
  (((Option.isNone ov) = true →
      K (.string (⟨#[]⟩ : ByteArray)) h) ∧
    ((Option.isNone ov) = false →
      ∃ bv ov_1 : Nat, ov = some ⟨bv, ov_1, none⟩ ∧
      ∃ (tA : Option Addr) (tN tC : Nat), (h.rds bv ov_1 1 = some [.slice tA tN tC]) ∧
      ∃ t : ByteArray, strH h tA tN t ∧
      K (.string t) h))
theorem F_pack_Out_String_eq {ov : Option Addr} {K : Value → PH → Prop} {h : PH} : @Eq Prop (F_pack_Out_String ov K h) (denF Try.prog Try.f69 ⟨[], [], [], []⟩ [.v (.pointer ov)] K h) := by
  kernel_rfl
theorem F_pack_Out_String_ok {ov : Option Addr}  {K : Value → PH → Prop} {h : PH} (hh : F_pack_Out_String ov K h) : CallH Try.prog id_pack_Out_String [.pointer ov] K h :=
  denF_sound' Try.func69 (H := ⟨[], [], [], []⟩) (xs := [.v (.pointer ov)]) (by kernel_rfl) (⟨rfl, trivial⟩) (den_of F_pack_Out_String_eq hh)

/- internal/stringslite.Cut -/
def F_internal_stringslite_Cut (sv : ByteArray) (sep : ByteArray) (K : Value → PH → Prop) (h : PH) : Prop :=
  CallH Try.prog id_internal_stringslite_Index [.string sv, .string sep] (fun v h1 =>
    ∃ i : Int, v = .int .i64 i ∧
    (((decide (i ≥ (0 : Int))) = true →
        (0 ≤ (0 : Int) ∧ (0 : Int) ≤ i ∧ i ≤ (ByteArray.size sv : Nat)) ∧
        (0 ≤ (IntKind.wrap .i64 (i + (sep.size : Int))) ∧ (IntKind.wrap .i64 (i + (sep.size : Int))) ≤ ((ByteArray.size sv : Nat) : Int) ∧ ((ByteArray.size sv : Nat) : Int) ≤ (ByteArray.size sv : Nat)) ∧
        K (.tuple #[.string (subS sv (0 : Int) i), .string (subS sv (IntKind.wrap .i64 (i + (sep.size : Int))) ((ByteArray.size sv : Nat) : Int)), .bool true]) h1) ∧
      ((decide (i ≥ (0 : Int))) = false →
        K (.tuple #[.string sv, .string (⟨#[]⟩ : ByteArray), .bool false]) h1))) h
theorem F_internal_stringslite_Cut_eq {sv : ByteArray} {sep : ByteArray} {K : Value → PH → Prop} {h : PH} : @Eq Prop (F_internal_stringslite_Cut sv sep K h) (denF Try.prog Try.f70 ⟨[], [], [], []⟩ [.v (.string sv), .v (.string sep)] K h) := by
  kernel_rfl
theorem F_internal_stringslite_Cut_ok {sv : ByteArray} {sep : ByteArray}  {K : Value → PH → Prop} {h : PH} (hh : F_internal_stringslite_Cut sv sep K h) : CallH Try.prog id_internal_stringslite_Cut [.string sv, .string sep] K h :=
  denF_sound' Try.func70 (H := ⟨[], [], [], []⟩) (xs := [.v (.string sv), .v (.string sep)]) (by kernel_rfl) (⟨rfl, rfl, trivial⟩) (den_of F_internal_stringslite_Cut_eq hh)

/- strings.IndexByte -/
def F_strings_IndexByte (sv : ByteArray) (cv : Int) (K : Value → PH → Prop) (h : PH) : Prop :=
  CallH Try.prog id_internal_stringslite_IndexByte [.string sv, .int .u8 cv] (fun v h1 =>
    ∃ t : Int, v = .int .i64 t ∧
    K (.int .i64 t) h1) h
theorem F_strings_IndexByte_eq {sv : ByteArray} {cv : Int} {K : Value → PH → Prop} {h : PH} : @Eq Prop (F_strings_IndexByte sv cv K h) (denF Try.prog Try.f71 ⟨[], [], [], []⟩ [.v (.string sv), .v (.int .u8 cv)] K h) := by
  kernel_rfl
theorem F_strings_IndexByte_ok {sv : ByteArray} {cv : Int}  {K : Value → PH → Prop} {h : PH} (hh : F_strings_IndexByte sv cv K h) : CallH Try.prog id_strings_IndexByte [.string sv, .int .u8 cv] K h :=
  denF_sound' Try.func71 (H := ⟨[], [], [], []⟩) (xs := [.v (.string sv), .v (.int .u8 cv)]) (by kernel_rfl) (⟨rfl, rfl, trivial⟩) (den_of F_strings_IndexByte_eq hh)

/- internal/bytealg.CompareString -/
def F_internal_bytealg_CompareString (a : ByteArray) (bv : ByteArray) (K : Value → PH → Prop) (h : PH) : Prop :=
  ExtH Try.prog id_internal_bytealg_abigen_runtime_cmpstring [.string a, .string bv] (fun v h1 =>
    ∃ t : Int, v = .int .i64 t ∧
    K (.int .i64 t) h1) h
theorem F_internal_bytealg_CompareString_eq {a : ByteArray} {bv : ByteArray} {K : Value → PH → Prop} {h : PH} : @Eq Prop (F_internal_bytealg_CompareString a bv K h) (denF Try.prog Try.f72 ⟨[], [], [], []⟩ [.v (.string a), .v (.string bv)] K h) := by
  kernel_rfl
theorem F_internal_bytealg_CompareString_ok {a : ByteArray} {bv : ByteArray}  {K : Value → PH → Prop} {h : PH} (hh : F_internal_bytealg_CompareString a bv K h) : CallH Try.prog id_internal_bytealg_CompareString [.string a, .string bv] K h :=
  denF_sound' Try.func72 (H := ⟨[], [], [], []⟩) (xs := [.v (.string a), .v (.string bv)]) (by kernel_rfl) (⟨rfl, rfl, trivial⟩) (den_of F_internal_bytealg_CompareString_eq hh)

/- twinlock/pack.size -/
def F_pack_size (n : Int) (K : Value → PH → Prop) (h : PH) : Prop :=
  CallH Try.prog id_math_bits_Len64 [.int .u64 n] (fun v h1 =>
    ∃ t : Int, v = .int .i64 t ∧
    K (.int .i64 (maxV (1 : Int) (IntKind.wrap .i64 ((IntKind.wrap .i64 ((IntKind.wrap .i64 (t + (7 : Int))) - (1 : Int))).tdiv (7 : Int))))) h1) h
theorem F_pack_size_eq {n : Int} {K : Value → PH → Prop} {h : PH} : @Eq Prop (F_pack_size n K h) (denF Try.prog Try.f79 ⟨[], [], [], []⟩ [.v (.int .u64 n)] K h) := by
  kernel_rfl
theorem F_pack_size_ok {n : Int}  {K : Value → PH → Prop} {h : PH} (hh : F_pack_size n K h) : CallH Try.prog id_pack_size [.int .u64 n] K h :=
  denF_sound' Try.func79 (H := ⟨[], [], [], []⟩) (xs := [.v (.int .u64 n)]) (by kernel_rfl) (⟨rfl, trivial⟩) (den_of F_pack_size_eq hh)

/- (*twinlock/pack.Out).put -/
def F_pack_Out_put (ov : Option Addr) (bA : Option Addr) (bN _ : Nat) (K : Value → PH → Prop) (h : PH) : Prop :=
  (((!(Option.isNone ov)) = true →
      ∃ bv ov_1 : Nat, ov = some ⟨bv, ov_1, none⟩ ∧
      ∃ (tA : Option Addr) (tN tC : Nat), (h.rds bv ov_1 1 = some [.slice tA tN tC]) ∧
      ∃ vs : List Value, srcH h bA (bN * 1) vs ∧
      appH 5 1 1 [.int .u8 (0 : Int)] tA tN tC bN vs (fun tA_1 tN_1 tC_1 h1 =>
        ∃ bv_1 ov_2 : Nat, ov = some ⟨bv_1, ov_2, none⟩ ∧
        stH h1 bv_1 ov_2 [.slice tA_1 tN_1 tC_1] fun h2 =>
        K (.tuple #[]) h2) h) ∧
    ((!(Option.isNone ov)) = false →
      K (.tuple #[]) h))
theorem F_pack_Out_put_eq {ov : Option Addr} {bA : Option Addr} {bN bC : Nat} {K : Value → PH → Prop} {h : PH} : @Eq Prop (F_pack_Out_put ov bA bN bC K h) (denF Try.prog Try.f80 ⟨[], [], [], []⟩ [.v (.pointer ov), .v (.slice bA bN bC)] K h) := by
  kernel_rfl
theorem F_pack_Out_put_ok {ov : Option Addr} {bA : Option Addr} {bN bC : Nat}  {K : Value → PH → Prop} {h : PH} (hh : F_pack_Out_put ov bA bN bC K h) : CallH Try.prog id_pack_Out_put [.pointer ov, .slice bA bN bC] K h :=
  denF_sound' Try.func80 (H := ⟨[], [], [], []⟩) (xs := [.v (.pointer ov), .v (.slice bA bN bC)]) (by kernel_rfl) (⟨rfl, rfl, trivial⟩) (den_of F_pack_Out_put_eq hh)

/- internal/stringslite.Index -/
set_option maxRecDepth 100000 in
def F_internal_stringslite_Index (sv : ByteArray) (substr : ByteArray) (K : Value → PH → Prop) (h : PH) : Prop :=
  (((((substr.size : Int) == (0 : Int)) || (strEq substr sv)) = true →
      K (.int .i64 (0 : Int)) h) ∧
    ((((substr.size : Int) == (0 : Int)) || (strEq substr sv)) = false →
      ((((substr.size : Int) == (1 : Int)) = true →
          (0 ≤ (0 : Int) ∧ (0 : Int) < (ByteArray.size substr : Nat)) ∧
          CallH Try.prog id_internal_stringslite_IndexByte [.string sv, .int .u8 (byteAt substr (0 : Int))] (fun v h1 =>
            ∃ t : Int, v = .int .i64 t ∧
            K (.int .i64 t) h1) h) ∧
        (((substr.size : Int) == (1 : Int)) = false →
          (((decide ((substr.size : Int) ≥ (sv.size : Int))) = true →
              K (.int .i64 (-1 : Int)) h) ∧
            ((decide ((substr.size : Int) ≥ (sv.size : Int))) = false →
              ∃ t_1 : Int, (h.rds 0 0 1 = some [.int .i64 t_1]) ∧
              ((((decide ((substr.size : Int) ≤ t_1)) && (decide ((sv.size : Int) ≤ (64 : Int)))) = true →
                  ExtH Try.prog id_internal_bytealg_IndexString [.string sv, .string substr] (fun v_1 h2 =>
                    ∃ t_2 : Int, v_1 = .int .i64 t_2 ∧
                    K (.int .i64 t_2) h2) h) ∧
                (((decide ((substr.size : Int) ≤ t_1)) && (decide ((sv.size : Int) ≤ (64 : Int)))) = false →
                  (0 ≤ (0 : Int) ∧ (0 : Int) < (ByteArray.size substr : Nat)) ∧
                  (0 ≤ (1 : Int) ∧ (1 : Int) < (ByteArray.size substr : Nat)) ∧
                  LoopP (T := Int × Int × Unit) (fun Jv st h3 =>
                    (((decide (st.1 < (IntKind.wrap .i64 ((IntKind.wrap .i64 ((sv.size : Int) - (substr.size : Int))) + (1 : Int))))) = true →
                        JoinP (T := Int × Unit) (fun Jv_1 =>
                          (0 ≤ st.1 ∧ st.1 < (ByteArray.size sv : Nat)) ∧
                          ((((byteAt sv st.1) != (byteAt substr (0 : Int))) = true →
                              (0 ≤ (IntKind.wrap .i64 (st.1 + (1 : Int))) ∧ (IntKind.wrap .i64 (st.1 + (1 : Int))) ≤ (IntKind.wrap .i64 ((IntKind.wrap .i64 ((sv.size : Int) - (substr.size : Int))) + (1 : Int))) ∧ (IntKind.wrap .i64 ((IntKind.wrap .i64 ((sv.size : Int) - (substr.size : Int))) + (1 : Int))) ≤ (ByteArray.size sv : Nat)) ∧
                              CallH Try.prog id_internal_stringslite_IndexByte [.string (subS sv (IntKind.wrap .i64 (st.1 + (1 : Int))) (IntKind.wrap .i64 ((IntKind.wrap .i64 ((sv.size : Int) - (substr.size : Int))) + (1 : Int)))), .int .u8 (byteAt substr (0 : Int))] (fun v_2 h5 =>
                                ∃ ov : Int, v_2 = .int .i64 ov ∧
                                (((decide (ov < (0 : Int))) = true →
                                    K (.int .i64 (-1 : Int)) h5) ∧
                                  ((decide (ov < (0 : Int))) = false →
                                    Jv_1 ((IntKind.wrap .i64 (st.1 + (IntKind.wrap .i64 (ov + (1 : Int))))), ()) h5))) h3) ∧
                            (((byteAt sv st.1) != (byteAt substr (0 : Int))) = false →
                              Jv_1 (st.1, ()) h3)))
                        (fun st_1 h4 =>
                          (0 ≤ (IntKind.wrap .i64 (st_1.1 + (1 : Int))) ∧ (IntKind.wrap .i64 (st_1.1 + (1 : Int))) < (ByteArray.size sv : Nat)) ∧
                          ((((byteAt sv (IntKind.wrap .i64 (st_1.1 + (1 : Int)))) == (byteAt substr (1 : Int))) = true → 0 ≤ st_1.1 ∧ st_1.1 ≤ (IntKind.wrap .i64 (st_1.1 + (substr.size : Int))) ∧ (IntKind.wrap .i64 (st_1.1 + (substr.size : Int))) ≤ (ByteArray.size sv : Nat))) ∧
                          (((((byteAt sv (IntKind.wrap .i64 (st_1.1 + (1 : Int)))) == (byteAt substr (1 : Int))) && (strEq (subS sv st_1.1 (IntKind.wrap .i64 (st_1.1 + (substr.size : Int)))) substr)) = true →
                              K (.int .i64 st_1.1) h4) ∧
                            ((((byteAt sv (IntKind.wrap .i64 (st_1.1 + (1 : Int)))) == (byteAt substr (1 : Int))) && (strEq (subS sv st_1.1 (IntKind.wrap .i64 (st_1.1 + (substr.size : Int)))) substr)) = false →
                              ∃ t_3 : Int, (h4.rds 0 0 1 = some [.int .i64 t_3]) ∧
                              (((decide ((substr.size : Int) ≤ t_3)) = true →
                                  CallH Try.prog id_internal_bytealg_Cutover [.int .i64 (IntKind.wrap .i64 (st_1.1 + (1 : Int)))] (fun v_3 h6 =>
                                    ∃ t_4 : Int, v_3 = .int .i64 t_4 ∧
                                    (((decide ((IntKind.wrap .i64 (st.2.1 + (1 : Int))) > t_4)) = true →
                                        (0 ≤ (IntKind.wrap .i64 (st_1.1 + (1 : Int))) ∧ (IntKind.wrap .i64 (st_1.1 + (1 : Int))) ≤ ((ByteArray.size sv : Nat) : Int) ∧ ((ByteArray.size sv : Nat) : Int) ≤ (ByteArray.size sv : Nat)) ∧
                                        ExtH Try.prog id_internal_bytealg_IndexString [.string (subS sv (IntKind.wrap .i64 (st_1.1 + (1 : Int))) ((ByteArray.size sv : Nat) : Int)), .string substr] (fun v_4 h7 =>
                                          ∃ r : Int, v_4 = .int .i64 r ∧
                                          (((decide (r ≥ (0 : Int))) = true →
                                              K (.int .i64 (IntKind.wrap .i64 (r + (IntKind.wrap .i64 (st_1.1 + (1 : Int)))))) h7) ∧
                                            ((decide (r ≥ (0 : Int))) = false →
                                              K (.int .i64 (-1 : Int)) h7))) h6) ∧
                                      ((decide ((IntKind.wrap .i64 (st.2.1 + (1 : Int))) > t_4)) = false →
                                        ∃ t_5 : Int, (h6.rds 0 0 1 = some [.int .i64 t_5]) ∧
                                        (((((decide ((substr.size : Int) > t_5)) && (decide ((IntKind.wrap .i64 (st.2.1 + (1 : Int))) ≥ (IntKind.wrap .i64 ((4 : Int) + (shrV .i64 (IntKind.wrap .i64 (st_1.1 + (1 : Int))) (4 : Int))))))) && (decide ((IntKind.wrap .i64 (st_1.1 + (1 : Int))) < (IntKind.wrap .i64 ((IntKind.wrap .i64 ((sv.size : Int) - (substr.size : Int))) + (1 : Int)))))) = true →
                                            (0 ≤ (IntKind.wrap .i64 (st_1.1 + (1 : Int))) ∧ (IntKind.wrap .i64 (st_1.1 + (1 : Int))) ≤ ((ByteArray.size sv : Nat) : Int) ∧ ((ByteArray.size sv : Nat) : Int) ≤ (ByteArray.size sv : Nat)) ∧
                                            CallH Try.prog id_internal_bytealg_IndexRabinKarp_string [.string (subS sv (IntKind.wrap .i64 (st_1.1 + (1 : Int))) ((ByteArray.size sv : Nat) : Int)), .string substr] (fun v_5 h8 =>
                                              ∃ j : Int, v_5 = .int .i64 j ∧
                                              (((decide (j < (0 : Int))) = true →
                                                  K (.int .i64 (-1 : Int)) h8) ∧
                                                ((decide (j < (0 : Int))) = false →
                                                  K (.int .i64 (IntKind.wrap .i64 ((IntKind.wrap .i64 (st_1.1 + (1 : Int))) + j))) h8))) h6) ∧
                                          ((((decide ((substr.size : Int) > t_5)) && (decide ((IntKind.wrap .i64 (st.2.1 + (1 : Int))) ≥ (IntKind.wrap .i64 ((4 : Int) + (shrV .i64 (IntKind.wrap .i64 (st_1.1 + (1 : Int))) (4 : Int))))))) && (decide ((IntKind.wrap .i64 (st_1.1 + (1 : Int))) < (IntKind.wrap .i64 ((IntKind.wrap .i64 ((sv.size : Int) - (substr.size : Int))) + (1 : Int)))))) = false →
                                            Jv ((IntKind.wrap .i64 (st_1.1 + (1 : Int))), (IntKind.wrap .i64 (st.2.1 + (1 : Int))), ()) h6))))) h4) ∧
                                ((decide ((substr.size : Int) ≤ t_3)) = false →
                                  ∃ t_6 : Int, (h4.rds 0 0 1 = some [.int .i64 t_6]) ∧
                                  (((((decide ((substr.size : Int) > t_6)) && (decide ((IntKind.wrap .i64 (st.2.1 + (1 : Int))) ≥ (IntKind.wrap .i64 ((4 : Int) + (shrV .i64 (IntKind.wrap .i64 (st_1.1 + (1 : Int))) (4 : Int))))))) && (decide ((IntKind.wrap .i64 (st_1.1 + (1 : Int))) < (IntKind.wrap .i64 ((IntKind.wrap .i64 ((sv.size : Int) - (substr.size : Int))) + (1 : Int)))))) = true →
                                      (0 ≤ (IntKind.wrap .i64 (st_1.1 + (1 : Int))) ∧ (IntKind.wrap .i64 (st_1.1 + (1 : Int))) ≤ ((ByteArray.size sv : Nat) : Int) ∧ ((ByteArray.size sv : Nat) : Int) ≤ (ByteArray.size sv : Nat)) ∧
                                      CallH Try.prog id_internal_bytealg_IndexRabinKarp_string [.string (subS sv (IntKind.wrap .i64 (st_1.1 + (1 : Int))) ((ByteArray.size sv : Nat) : Int)), .string substr] (fun v_6 h9 =>
                                        ∃ j_1 : Int, v_6 = .int .i64 j_1 ∧
                                        (((decide (j_1 < (0 : Int))) = true →
                                            K (.int .i64 (-1 : Int)) h9) ∧
                                          ((decide (j_1 < (0 : Int))) = false →
                                            K (.int .i64 (IntKind.wrap .i64 ((IntKind.wrap .i64 (st_1.1 + (1 : Int))) + j_1))) h9))) h4) ∧
                                    ((((decide ((substr.size : Int) > t_6)) && (decide ((IntKind.wrap .i64 (st.2.1 + (1 : Int))) ≥ (IntKind.wrap .i64 ((4 : Int) + (shrV .i64 (IntKind.wrap .i64 (st_1.1 + (1 : Int))) (4 : Int))))))) && (decide ((IntKind.wrap .i64 (st_1.1 + (1 : Int))) < (IntKind.wrap .i64 ((IntKind.wrap .i64 ((sv.size : Int) - (substr.size : Int))) + (1 : Int)))))) = false →
                                      Jv ((IntKind.wrap .i64 (st_1.1 + (1 : Int))), (IntKind.wrap .i64 (st.2.1 + (1 : Int))), ()) h4)))))))) ∧
                      ((decide (st.1 < (IntKind.wrap .i64 ((IntKind.wrap .i64 ((sv.size : Int) - (substr.size : Int))) + (1 : Int))))) = false →
                        K (.int .i64 (-1 : Int)) h3))) ((0 : Int), (0 : Int), ()) h))))))))
set_option maxRecDepth 100000 in
theorem F_internal_stringslite_Index_eq {sv : ByteArray} {substr : ByteArray} {K : Value → PH → Prop} {h : PH} : @Eq Prop (F_internal_stringslite_Index sv substr K h) (denF Try.prog Try.f81 ⟨[], [], [(1, ⟨[(8, .int .i64), (10, .int .i64)], [], []⟩)], [(44, ⟨[(8, .int .i64)], [], []⟩)]⟩ [.v (.string sv), .v (.string substr)] K h) := by
  kernel_rfl
theorem F_internal_stringslite_Index_ok {sv : ByteArray} {substr : ByteArray}  {K : Value → PH → Prop} {h : PH} (hh : F_internal_stringslite_Index sv substr K h) : CallH Try.prog id_internal_stringslite_Index [.string sv, .string substr] K h :=
  denF_sound' Try.func81 (H := ⟨[], [], [(1, ⟨[(8, .int .i64), (10, .int .i64)], [], []⟩)], [(44, ⟨[(8, .int .i64)], [], []⟩)]⟩) (xs := [.v (.string sv), .v (.string substr)]) (by kernel_rfl) (⟨rfl, rfl, trivial⟩) (den_of F_internal_stringslite_Index_eq hh)

/- internal/stringslite.IndexByte -/
def F_internal_stringslite_IndexByte (sv : ByteArray) (cv : Int) (K : Value → PH → Prop) (h : PH) : Prop :=
  ExtH Try.prog id_internal_bytealg_IndexByteString [.string sv, .int .u8 cv] (fun v h1 =>
    ∃ t : Int, v = .int .i64 t ∧
    K (.int .i64 t) h1) h
theorem F_internal_stringslite_IndexByte_eq {sv : ByteArray} {cv : Int} {K : Value → PH → Prop} {h : PH} : @Eq Prop (F_internal_stringslite_IndexByte sv cv K h) (denF Try.prog Try.f82 ⟨[], [], [], []⟩ [.v (.string sv), .v (.int .u8 cv)] K h) := by
  kernel_rfl
theorem F_internal_stringslite_IndexByte_ok {sv : ByteArray} {cv : Int}  {K : Value → PH → Prop} {h : PH} (hh : F_internal_stringslite_IndexByte sv cv K h) : CallH Try.prog id_internal_stringslite_IndexByte [.string sv, .int .u8 cv] K h :=
  denF_sound' Try.func82 (H := ⟨[], [], [], []⟩) (xs := [.v (.string sv), .v (.int .u8 cv)]) (by kernel_rfl) (⟨rfl, rfl, trivial⟩) (den_of F_internal_stringslite_IndexByte_eq hh)

/- internal/bytealg.Cutover -/
def F_internal_bytealg_Cutover (n : Int) (K : Value → PH → Prop) (h : PH) : Prop :=
  K (.int .i64 (IntKind.wrap .i64 ((IntKind.wrap .i64 (n + (16 : Int))).tdiv (8 : Int)))) h
theorem F_internal_bytealg_Cutover_eq {n : Int} {K : Value → PH → Prop} {h : PH} : @Eq Prop (F_internal_bytealg_Cutover n K h) (denF Try.prog Try.f89 ⟨[], [], [], []⟩ [.v (.int .i64 n)] K h) := by
  kernel_rfl
theorem F_internal_bytealg_Cutover_ok {n : Int}  {K : Value → PH → Prop} {h : PH} (hh : F_internal_bytealg_Cutover n K h) : CallH Try.prog id_internal_bytealg_Cutover [.int .i64 n] K h :=
  denF_sound' Try.func89 (H := ⟨[], [], [], []⟩) (xs := [.v (.int .i64 n)]) (by kernel_rfl) (⟨rfl, trivial⟩) (den_of F_internal_bytealg_Cutover_eq hh)

/- internal/bytealg.hashStr[string] -/
def F_internal_bytealg_hashStr_string (sep : ByteArray) (K : Value → PH → Prop) (h : PH) : Prop :=
  LoopP (T := Int × Int × Unit) (fun Jv st h1 =>
    (((decide (st.2.1 < (sep.size : Int))) = true →
        (0 ≤ st.2.1 ∧ st.2.1 < (ByteArray.size sep : Nat)) ∧
        Jv ((IntKind.wrap .u32 ((IntKind.wrap .u32 (st.1 * (16777619 : Int))) + (IntKind.wrap .u32 (byteAt sep st.2.1)))), (IntKind.wrap .i64 (st.2.1 + (1 : Int))), ()) h1) ∧
      ((decide (st.2.1 < (sep.size : Int))) = false →
        LoopP (T := Int × Int × Int × Unit) (fun Jv_1 st_1 h2 =>
          (((decide (st_1.2.2.1 > (0 : Int))) = true →
              ((((bitsV .and .i64 st_1.2.2.1 (1 : Int)) != (0 : Int)) = true →
                  Jv_1 ((IntKind.wrap .u32 (st_1.1 * st_1.2.1)), (IntKind.wrap .u32 (st_1.2.1 * st_1.2.1)), (shrV .i64 st_1.2.2.1 (1 : Int)), ()) h2) ∧
                (((bitsV .and .i64 st_1.2.2.1 (1 : Int)) != (0 : Int)) = false →
                  Jv_1 (st_1.1, (IntKind.wrap .u32 (st_1.2.1 * st_1.2.1)), (shrV .i64 st_1.2.2.1 (1 : Int)), ()) h2))) ∧
            ((decide (st_1.2.2.1 > (0 : Int))) = false →
              K (.tuple #[.int .u32 st.1, .int .u32 st_1.1]) h2))) ((1 : Int), (16777619 : Int), (sep.size : Int), ()) h1))) ((0 : Int), (0 : Int), ()) h
theorem F_internal_bytealg_hashStr_string_eq {sep : ByteArray} {K : Value → PH → Prop} {h : PH} : @Eq Prop (F_internal_bytealg_hashStr_string sep K h) (denF Try.prog Try.f92 ⟨[], [], [(0, ⟨[(4, .int .u32), (5, .int .i64)], [], []⟩), (2, ⟨[(6, .int .u32), (7, .int .u32), (8, .int .i64)], [], []⟩)], []⟩ [.v (.string sep)] K h) := by
  kernel_rfl
theorem F_internal_bytealg_hashStr_string_ok {sep : ByteArray}  {K : Value → PH → Prop} {h : PH} (hh : F_internal_bytealg_hashStr_string sep K h) : CallH Try.prog id_internal_bytealg_hashStr_string [.string sep] K h :=
  denF_sound' Try.func92 (H := ⟨[], [], [(0, ⟨[(4, .int .u32), (5, .int .i64)], [], []⟩), (2, ⟨[(6, .int .u32), (7, .int .u32), (8, .int .i64)], [], []⟩)], []⟩) (xs := [.v (.string sep)]) (by kernel_rfl) (⟨rfl, trivial⟩) (den_of F_internal_bytealg_hashStr_string_eq hh)

end TL
