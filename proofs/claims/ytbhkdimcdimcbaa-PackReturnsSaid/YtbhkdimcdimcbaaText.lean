/-
  The functions of the program as predicates on heap fragments, each tied to its code. No condition.
-/
import Derived.Test.YtbhkdimcdimcbaaLibC
import Derived.Test.YtbhkdimcdimcbaaProg
namespace TL
open Go Go.Proofs
abbrev id_gosem_cut_init : FuncId := 2
abbrev id_law01_PackSpells : FuncId := 3
abbrev id_law01_PackSizes : FuncId := 4
abbrev id_law01_PackBounds : FuncId := 5
abbrev id_law01_PackTells : FuncId := 6
abbrev id_law01_PackKnown : FuncId := 7
abbrev id_law01_PackReturns : FuncId := 8
abbrev id_law01_PackCuts : FuncId := 9
abbrev id_law01_PackFollows : FuncId := 10
abbrev id_law01_Great : FuncId := 11
abbrev id_law01_wakes : FuncId := 12
abbrev id_law01_writes : FuncId := 13
abbrev id_ref01_Num : FuncId := 14
abbrev id_ref01_Zig : FuncId := 15
abbrev id_ref01_Text : FuncId := 16
abbrev id_pack_Out_String : FuncId := 17
abbrev id_law01_bytes : FuncId := 18
abbrev id_pack_Of : FuncId := 19
abbrev id_pack_In_Num : FuncId := 20
abbrev id_pack_In_Fault : FuncId := 21
abbrev id_pack_In_Most : FuncId := 22
abbrev id_pack_In_Text : FuncId := 23
abbrev id_pack_In_Left : FuncId := 24
abbrev id_law01_read : FuncId := 25
abbrev id_law01_told : FuncId := 26
abbrev id_pack_In_End : FuncId := 27
abbrev id_pack_In_Byte : FuncId := 28
abbrev id_pack_In_Int : FuncId := 29
abbrev id_law01_written : FuncId := 30
abbrev id_law01_bare : FuncId := 31
abbrev id_pack_Out_Num : FuncId := 32
abbrev id_pack_Out_Int : FuncId := 33
abbrev id_pack_Out_Text : FuncId := 34
abbrev id_pack_Out_Byte : FuncId := 35
abbrev id_pack_In_reads : FuncId := 36
abbrev id_pack_number : FuncId := 37
abbrev id_pack_In_takes : FuncId := 38
abbrev id_pack_bounded : FuncId := 39
abbrev id_ref01_In_Num : FuncId := 40
abbrev id_ref01_Zag : FuncId := 41
abbrev id_ref01_In_Text : FuncId := 42
abbrev id_ref01_In_Byte : FuncId := 43
abbrev id_ref01_In_Most : FuncId := 44
abbrev id_pack_size : FuncId := 45
abbrev id_pack_Out_put : FuncId := 46
abbrev id_ref01_In_next : FuncId := 47
abbrev id_math_bits_Len64 : FuncId := 48
abbrev id_ref01_Value : FuncId := 49
abbrev T_law01_Item : TypeId := 32
abbrev T_pack_In : TypeId := 54
abbrev T_pack_Out : TypeId := 27
abbrev T_ref01_In : TypeId := 52
/- twinlock/twinlocklaw01.PackSpells -/
def F_law01_PackSpells (lA : Option Addr) (lN lC : Nat) (K : Value → PH → Prop) (h : PH) : Prop :=
  CallH Try.prog id_law01_Great [.slice lA lN lC] (fun v h1 =>
    ∃ t : Bool, v = .bool t ∧
    ((t = true →
        CallH Try.prog id_law01_wakes [] (fun v_1 h2 =>
          ∃ t_1 : Bool, v_1 = .bool t_1 ∧
          K (.bool t_1) h2) h1) ∧
      (t = false →
        newH h1 (.cells #[.slice none 0 0] T_pack_Out (0, 0)) fun bv h3 =>
        LoopP (T := ByteArray × Int × Unit) (fun Jv st h4 =>
          (((decide (st.2.1 < ((lN : Nat) : Int))) = true →
              (0 ≤ st.2.1 ∧ st.2.1 ≤ (IntKind.wrap .i64 (st.2.1 + (1 : Int))) ∧ (IntKind.wrap .i64 (st.2.1 + (1 : Int))) ≤ ((lC : Nat) : Int) ∧ ((lC : Nat) : Int) ≤ (lC : Nat)) ∧
              CallH Try.prog id_law01_writes [.pointer (some ⟨bv, 0, none⟩), .slice (slA lA 6 st.2.1 ((lC : Nat) : Int)) ((IntKind.wrap .i64 (st.2.1 + (1 : Int))).toNat - st.2.1.toNat) (((lC : Nat) : Int).toNat - st.2.1.toNat)] (fun _ h5 =>
                (0 ≤ st.2.1 ∧ st.2.1 ≤ (IntKind.wrap .i64 (st.2.1 + (1 : Int))) ∧ (IntKind.wrap .i64 (st.2.1 + (1 : Int))) ≤ ((lC : Nat) : Int) ∧ ((lC : Nat) : Int) ≤ (lC : Nat)) ∧
                CallH Try.prog id_law01_writes [.pointer none, .slice (slA lA 6 st.2.1 ((lC : Nat) : Int)) ((IntKind.wrap .i64 (st.2.1 + (1 : Int))).toNat - st.2.1.toNat) (((lC : Nat) : Int).toNat - st.2.1.toNat)] (fun _ h6 =>
                  JoinP (T := ByteArray × Unit) (fun Jv_1 =>
                    ∃ bv_1 ov : Nat, (lA = some ⟨bv_1, ov, none⟩ ∧ 0 ≤ st.2.1 ∧ st.2.1 < (lN : Nat)) ∧
                    ∃ t_2 : Int, (h6.rds bv_1 (ov + st.2.1.toNat * 6) 1 = some [.int .u8 t_2]) ∧
                    (((t_2 == (0 : Int)) = true →
                        ∃ bv_2 ov_1 : Nat, (lA = some ⟨bv_2, ov_1, none⟩ ∧ 0 ≤ st.2.1 ∧ st.2.1 < (lN : Nat)) ∧
                        ∃ t_3 : Int, (h6.rds bv_2 ((ov_1 + st.2.1.toNat * 6) + 1) 1 = some [.int .u64 t_3]) ∧
                        CallH Try.prog id_ref01_Num [.int .u64 t_3] (fun v_4 h8 =>
                          ∃ t_4 : ByteArray, v_4 = .string t_4 ∧
                          (((ByteArray.size st.1 + ByteArray.size t_4 : Nat) : Int) ≤ 9223372036854775807) ∧
                          Jv_1 ((st.1 ++ t_4), ()) h8) h6) ∧
                      ((t_2 == (0 : Int)) = false →
                        (((t_2 == (1 : Int)) = true →
                            ∃ bv_3 ov_2 : Nat, (lA = some ⟨bv_3, ov_2, none⟩ ∧ 0 ≤ st.2.1 ∧ st.2.1 < (lN : Nat)) ∧
                            ∃ t_5 : Int, (h6.rds bv_3 ((ov_2 + st.2.1.toNat * 6) + 2) 1 = some [.int .i64 t_5]) ∧
                            CallH Try.prog id_ref01_Zig [.int .i64 t_5] (fun v_5 h9 =>
                              ∃ t_6 : Int, v_5 = .int .u64 t_6 ∧
                              CallH Try.prog id_ref01_Num [.int .u64 t_6] (fun v_6 h10 =>
                                ∃ t_7 : ByteArray, v_6 = .string t_7 ∧
                                (((ByteArray.size st.1 + ByteArray.size t_7 : Nat) : Int) ≤ 9223372036854775807) ∧
                                Jv_1 ((st.1 ++ t_7), ()) h10) h9) h6) ∧
                          ((t_2 == (1 : Int)) = false →
                            (((t_2 == (2 : Int)) = true →
                                ∃ bv_4 ov_3 : Nat, (lA = some ⟨bv_4, ov_3, none⟩ ∧ 0 ≤ st.2.1 ∧ st.2.1 < (lN : Nat)) ∧
                                ∃ t_8 : ByteArray, (h6.rds bv_4 ((ov_3 + st.2.1.toNat * 6) + 3) 1 = some [.string t_8]) ∧
                                CallH Try.prog id_ref01_Text [.string t_8] (fun v_7 h11 =>
                                  ∃ t_9 : ByteArray, v_7 = .string t_9 ∧
                                  (((ByteArray.size st.1 + ByteArray.size t_9 : Nat) : Int) ≤ 9223372036854775807) ∧
                                  Jv_1 ((st.1 ++ t_9), ()) h11) h6) ∧
                              ((t_2 == (2 : Int)) = false →
                                (((t_2 == (3 : Int)) = true →
                                    ∃ bv_5 ov_4 : Nat, (lA = some ⟨bv_5, ov_4, none⟩ ∧ 0 ≤ st.2.1 ∧ st.2.1 < (lN : Nat)) ∧
                                    ∃ t_10 : Int, (h6.rds bv_5 ((ov_4 + st.2.1.toNat * 6) + 4) 1 = some [.int .u8 t_10]) ∧
                                    newH h6 (.cells #[.int .u8 t_10] 5 (0, 0)) fun bv_6 h12 =>
                                    ∃ t_11 : ByteArray, strH h12 (some ⟨bv_6, 0, none⟩ : Option Addr) 1 t_11 ∧
                                    (((ByteArray.size st.1 + ByteArray.size t_11 : Nat) : Int) ≤ 9223372036854775807) ∧
                                    Jv_1 ((st.1 ++ t_11), ()) h12) ∧
                                  ((t_2 == (3 : Int)) = false →
                                    Jv_1 (st.1, ()) h6)))))))))
                  (fun st_1 h7 =>
                    CallH Try.prog id_pack_Out_String [.pointer (some ⟨bv, 0, none⟩)] (fun v_8 h13 =>
                      ∃ t_12 : ByteArray, v_8 = .string t_12 ∧
                      (((!(strEq t_12 st_1.1)) = true →
                          K (.bool false) h13) ∧
                        ((!(strEq t_12 st_1.1)) = false →
                          Jv (st_1.1, (IntKind.wrap .i64 (st.2.1 + (1 : Int))), ()) h13))) h7)) h5) h4) ∧
            ((decide (st.2.1 < ((lN : Nat) : Int))) = false →
              CallH Try.prog id_pack_Out_String [.pointer none] (fun v_9 h14 =>
                ∃ t_13 : ByteArray, v_9 = .string t_13 ∧
                (((strEq t_13 (⟨#[]⟩ : ByteArray)) = true →
                    CallH Try.prog id_law01_wakes [] (fun v_10 h15 =>
                      ∃ t_14 : Bool, v_10 = .bool t_14 ∧
                      K (.bool t_14) h15) h14) ∧
                  ((strEq t_13 (⟨#[]⟩ : ByteArray)) = false →
                    K (.bool false) h14))) h4))) ((⟨#[]⟩ : ByteArray), (0 : Int), ()) h3))) h
theorem F_law01_PackSpells_ok {lA : Option Addr} {lN lC : Nat}  {K : Value → PH → Prop} {h : PH} (hh : F_law01_PackSpells lA lN lC K h) : CallH Try.prog id_law01_PackSpells [.slice lA lN lC] K h :=
  denF_sound Try.func3 (H := ⟨[], [], [(0, ⟨[(5, .str), (6, .int .i64)], [], []⟩)], [(42, ⟨[(5, .str)], [], []⟩)]⟩) (xs := [.v (.slice lA lN lC)]) (by kernel_rfl) (by simp [okE0s, okE0, one1]) (cast (by kernel_rfl : F_law01_PackSpells lA lN lC K h = denF Try.prog Try.f3 ⟨[], [], [(0, ⟨[(5, .str), (6, .int .i64)], [], []⟩)], [(42, ⟨[(5, .str)], [], []⟩)]⟩ [.v (.slice lA lN lC)] K h) hh)

/- twinlock/twinlocklaw01.PackSizes -/
def F_law01_PackSizes (n : Int) (i : Int) (sv : ByteArray) (K : Value → PH → Prop) (h : PH) : Prop :=
  (((decide ((sv.size : Int) > (30000 : Int))) = true →
      CallH Try.prog id_law01_wakes [] (fun v h1 =>
        ∃ t : Bool, v = .bool t ∧
        K (.bool t) h1) h) ∧
    ((decide ((sv.size : Int) > (30000 : Int))) = false →
      newH h (.cells #[.int .u8 (0 : Int), .int .u64 n, .int .i64 (0 : Int), .string (⟨#[]⟩ : ByteArray), .int .u8 (0 : Int), .int .i64 (0 : Int)] T_law01_Item (0, 0)) fun bv h2 =>
      CallH Try.prog id_law01_bytes [.slice (some ⟨bv, 0, none⟩) 1 1] (fun v_1 h3 =>
        ∃ t_1 : ByteArray, v_1 = .string t_1 ∧
        LoopP (T := Int × Unit) (fun Jv st h4 =>
          (((decide (st.1 < (10 : Int))) = true →
              (0 ≤ (IntKind.wrap .u64 (IntKind.wrap .i64 ((7 : Int) * st.1)))) ∧
              (((!((decide ((t_1.size : Int) ≤ st.1)) == (decide (n < (shlV .u64 (1 : Int) (IntKind.wrap .u64 (IntKind.wrap .i64 ((7 : Int) * st.1)))))))) = true →
                  K (.bool false) h4) ∧
                ((!((decide ((t_1.size : Int) ≤ st.1)) == (decide (n < (shlV .u64 (1 : Int) (IntKind.wrap .u64 (IntKind.wrap .i64 ((7 : Int) * st.1)))))))) = false →
                  Jv ((IntKind.wrap .i64 (st.1 + (1 : Int))), ()) h4))) ∧
            ((decide (st.1 < (10 : Int))) = false →
              newH h4 (.cells #[.int .u8 (1 : Int), .int .u64 (0 : Int), .int .i64 i, .string (⟨#[]⟩ : ByteArray), .int .u8 (0 : Int), .int .i64 (0 : Int)] T_law01_Item (0, 0)) fun bv_1 h5 =>
              CallH Try.prog id_law01_bytes [.slice (some ⟨bv_1, 0, none⟩) 1 1] (fun v_2 h6 =>
                ∃ t_2 : ByteArray, v_2 = .string t_2 ∧
                newH h6 (.cells #[.int .u8 (1 : Int), .int .u64 (0 : Int), .int .i64 (IntKind.wrap .i64 ((-1 : Int) - i)), .string (⟨#[]⟩ : ByteArray), .int .u8 (0 : Int), .int .i64 (0 : Int)] T_law01_Item (0, 0)) fun bv_2 h7 =>
                CallH Try.prog id_law01_bytes [.slice (some ⟨bv_2, 0, none⟩) 1 1] (fun v_3 h8 =>
                  ∃ t_3 : ByteArray, v_3 = .string t_3 ∧
                  newH h8 (.cells #[.int .u8 (2 : Int), .int .u64 (0 : Int), .int .i64 (0 : Int), .string sv, .int .u8 (0 : Int), .int .i64 (0 : Int)] T_law01_Item (0, 0)) fun bv_3 h9 =>
                  CallH Try.prog id_law01_bytes [.slice (some ⟨bv_3, 0, none⟩) 1 1] (fun v_4 h10 =>
                    ∃ t_4 : ByteArray, v_4 = .string t_4 ∧
                    (((((decide ((t_1.size : Int) ≥ (1 : Int))) && (decide ((t_1.size : Int) ≤ (10 : Int)))) && ((t_2.size : Int) == (t_3.size : Int))) = true →
                        newH h10 (.cells #[.int .u8 (0 : Int), .int .u64 (IntKind.wrap .u64 (sv.size : Int)), .int .i64 (0 : Int), .string (⟨#[]⟩ : ByteArray), .int .u8 (0 : Int), .int .i64 (0 : Int)] T_law01_Item (0, 0)) fun bv_4 h11 =>
                        CallH Try.prog id_law01_bytes [.slice (some ⟨bv_4, 0, none⟩) 1 1] (fun v_5 h12 =>
                          ∃ t_5 : ByteArray, v_5 = .string t_5 ∧
                          ((((t_4.size : Int) == (IntKind.wrap .i64 ((sv.size : Int) + (t_5.size : Int)))) = true →
                              CallH Try.prog id_law01_wakes [] (fun v_6 h13 =>
                                ∃ t_6 : Bool, v_6 = .bool t_6 ∧
                                K (.bool t_6) h13) h12) ∧
                            (((t_4.size : Int) == (IntKind.wrap .i64 ((sv.size : Int) + (t_5.size : Int)))) = false →
                              K (.bool false) h12))) h11) ∧
                      ((((decide ((t_1.size : Int) ≥ (1 : Int))) && (decide ((t_1.size : Int) ≤ (10 : Int)))) && ((t_2.size : Int) == (t_3.size : Int))) = false →
                        K (.bool false) h10))) h9) h7) h5))) ((1 : Int), ()) h3) h2))
theorem F_law01_PackSizes_ok {n : Int} {i : Int} {sv : ByteArray}  {K : Value → PH → Prop} {h : PH} (hh : F_law01_PackSizes n i sv K h) : CallH Try.prog id_law01_PackSizes [.int .u64 n, .int .i64 i, .string sv] K h :=
  denF_sound Try.func4 (H := ⟨[], [], [(0, ⟨[(8, .int .i64)], [], []⟩)], []⟩) (xs := [.v (.int .u64 n), .v (.int .i64 i), .v (.string sv)]) (by kernel_rfl) (by simp [okE0s, okE0, one1]) (cast (by kernel_rfl : F_law01_PackSizes n i sv K h = denF Try.prog Try.f4 ⟨[], [], [(0, ⟨[(8, .int .i64)], [], []⟩)], []⟩ [.v (.int .u64 n), .v (.int .i64 i), .v (.string sv)] K h) hh)

/- twinlock/twinlocklaw01.PackBounds -/
def F_law01_PackBounds (sv : ByteArray) (most : Int) (K : Value → PH → Prop) (h : PH) : Prop :=
  (((decide ((sv.size : Int) > (30000 : Int))) = true →
      CallH Try.prog id_law01_wakes [] (fun v h1 =>
        ∃ t : Bool, v = .bool t ∧
        K (.bool t) h1) h) ∧
    ((decide ((sv.size : Int) > (30000 : Int))) = false →
      CallH Try.prog id_pack_Of [.string sv] (fun v_1 h2 =>
        ∃ xv : Option Addr, v_1 = .pointer xv ∧
        CallH Try.prog id_pack_In_Num [.pointer xv] (fun v_2 h3 =>
          ∃ n : Int, v_2 = .int .u64 n ∧
          CallH Try.prog id_pack_In_Fault [.pointer xv] (fun v_3 h4 =>
            ∃ t0 : Int, ∃ t1 : Int, v_3 = .tuple #[.int .i64 t0, .int .i64 t1] ∧
            CallH Try.prog id_pack_Of [.string sv] (fun v_4 h5 =>
              ∃ y : Option Addr, v_4 = .pointer y ∧
              CallH Try.prog id_pack_In_Most [.pointer y, .int .i64 most] (fun v_5 h6 =>
                ∃ m : Int, v_5 = .int .i64 m ∧
                CallH Try.prog id_pack_In_Fault [.pointer y] (fun v_6 h7 =>
                  ∃ t0_1 : Int, ∃ t1_1 : Int, v_6 = .tuple #[.int .i64 t0_1, .int .i64 t1_1] ∧
                  JoinP (T := Int × Unit) (fun Jv =>
                    (((t0 == (0 : Int)) = true →
                        ((((decide (most < (0 : Int))) || (decide (n > (IntKind.wrap .u64 most)))) = true →
                            Jv ((8 : Int), ()) h7) ∧
                          (((decide (most < (0 : Int))) || (decide (n > (IntKind.wrap .u64 most)))) = false →
                            Jv (t0, ()) h7))) ∧
                      ((t0 == (0 : Int)) = false →
                        Jv (t0, ()) h7)))
                  (fun st h8 =>
                    ((((t0_1 != st.1) || (t1_1 != (0 : Int))) = true →
                        K (.bool false) h8) ∧
                      (((t0_1 != st.1) || (t1_1 != (0 : Int))) = false →
                        CallH Try.prog id_pack_Of [.string sv] (fun v_7 h9 =>
                          ∃ z : Option Addr, v_7 = .pointer z ∧
                          CallH Try.prog id_pack_In_Text [.pointer z, .int .i64 most] (fun v_8 h10 =>
                            ∃ t_1 : ByteArray, v_8 = .string t_1 ∧
                            CallH Try.prog id_pack_In_Fault [.pointer z] (fun v_9 h11 =>
                              ∃ t0_2 : Int, ∃ t1_2 : Int, v_9 = .tuple #[.int .i64 t0_2, .int .i64 t1_2] ∧
                              (((st.1 != (0 : Int)) = true →
                                  (((m == (0 : Int)) = true →
                                      CallH Try.prog id_pack_In_Left [.pointer y] (fun v_10 h12 =>
                                        ∃ t_2 : Int, v_10 = .int .i64 t_2 ∧
                                        ((((((t_2 == (sv.size : Int)) && (strEq t_1 (⟨#[]⟩ : ByteArray))) && (t0_2 == st.1)) && (t1_2 == (0 : Int))) = true →
                                            CallH Try.prog id_pack_In_Left [.pointer z] (fun v_11 h13 =>
                                              ∃ t_3 : Int, v_11 = .int .i64 t_3 ∧
                                              (((t_3 == (sv.size : Int)) = true →
                                                  CallH Try.prog id_law01_wakes [] (fun v_12 h14 =>
                                                    ∃ t_4 : Bool, v_12 = .bool t_4 ∧
                                                    K (.bool t_4) h14) h13) ∧
                                                ((t_3 == (sv.size : Int)) = false →
                                                  K (.bool false) h13))) h12) ∧
                                          (((((t_2 == (sv.size : Int)) && (strEq t_1 (⟨#[]⟩ : ByteArray))) && (t0_2 == st.1)) && (t1_2 == (0 : Int))) = false →
                                            K (.bool false) h12))) h11) ∧
                                    ((m == (0 : Int)) = false →
                                      K (.bool false) h11))) ∧
                                ((st.1 != (0 : Int)) = false →
                                  CallH Try.prog id_pack_In_Left [.pointer y] (fun v_13 h15 =>
                                    ∃ leftv : Int, v_13 = .int .i64 leftv ∧
                                    JoinP (T := Unit) (fun Jv_1 =>
                                      ((((IntKind.wrap .u64 m) != n) = false →
                                          CallH Try.prog id_pack_In_Left [.pointer xv] (fun v_14 h17 =>
                                            ∃ t_5 : Int, v_14 = .int .i64 t_5 ∧
                                            (((((leftv != t_5) || (decide (leftv < (0 : Int)))) || (decide (leftv > (sv.size : Int)))) = true →
                                                K (.bool false) h17) ∧
                                              ((((leftv != t_5) || (decide (leftv < (0 : Int)))) || (decide (leftv > (sv.size : Int)))) = false →
                                                Jv_1 (()) h17))) h15) ∧
                                        (((IntKind.wrap .u64 m) != n) = true →
                                          K (.bool false) h15)))
                                    (fun _ h16 =>
                                      (((decide (m > leftv)) = true →
                                          (((((strEq t_1 (⟨#[]⟩ : ByteArray)) && (t0_2 == (7 : Int))) && (t1_2 == (0 : Int))) = true →
                                              CallH Try.prog id_pack_In_Left [.pointer z] (fun v_15 h18 =>
                                                ∃ t_6 : Int, v_15 = .int .i64 t_6 ∧
                                                (((t_6 == (sv.size : Int)) = true →
                                                    CallH Try.prog id_law01_wakes [] (fun v_16 h19 =>
                                                      ∃ t_7 : Bool, v_16 = .bool t_7 ∧
                                                      K (.bool t_7) h19) h18) ∧
                                                  ((t_6 == (sv.size : Int)) = false →
                                                    K (.bool false) h18))) h16) ∧
                                            ((((strEq t_1 (⟨#[]⟩ : ByteArray)) && (t0_2 == (7 : Int))) && (t1_2 == (0 : Int))) = false →
                                              K (.bool false) h16))) ∧
                                        ((decide (m > leftv)) = false →
                                          (((t0_2 == (0 : Int)) = true → 0 ≤ (IntKind.wrap .i64 ((sv.size : Int) - leftv)) ∧ (IntKind.wrap .i64 ((sv.size : Int) - leftv)) ≤ ((ByteArray.size sv : Nat) : Int) ∧ ((ByteArray.size sv : Nat) : Int) ≤ (ByteArray.size sv : Nat))) ∧
                                          (((t0_2 == (0 : Int)) = true → 0 ≤ (0 : Int) ∧ (0 : Int) ≤ m ∧ m ≤ (ByteArray.size (subS sv (IntKind.wrap .i64 ((sv.size : Int) - leftv)) ((ByteArray.size sv : Nat) : Int)) : Nat))) ∧
                                          ((((t0_2 == (0 : Int)) && (strEq t_1 (subS (subS sv (IntKind.wrap .i64 ((sv.size : Int) - leftv)) ((ByteArray.size sv : Nat) : Int)) (0 : Int) m))) = true →
                                              CallH Try.prog id_pack_In_Left [.pointer z] (fun v_17 h20 =>
                                                ∃ t_8 : Int, v_17 = .int .i64 t_8 ∧
                                                (((t_8 == (IntKind.wrap .i64 (leftv - m))) = true →
                                                    CallH Try.prog id_law01_wakes [] (fun v_18 h21 =>
                                                      ∃ t_9 : Bool, v_18 = .bool t_9 ∧
                                                      K (.bool t_9) h21) h20) ∧
                                                  ((t_8 == (IntKind.wrap .i64 (leftv - m))) = false →
                                                    K (.bool false) h20))) h16) ∧
                                            (((t0_2 == (0 : Int)) && (strEq t_1 (subS (subS sv (IntKind.wrap .i64 ((sv.size : Int) - leftv)) ((ByteArray.size sv : Nat) : Int)) (0 : Int) m))) = false →
                                              K (.bool false) h16)))))) h11))) h10) h9) h8)))) h6) h5) h4) h3) h2) h))
theorem F_law01_PackBounds_ok {sv : ByteArray} {most : Int}  {K : Value → PH → Prop} {h : PH} (hh : F_law01_PackBounds sv most K h) : CallH Try.prog id_law01_PackBounds [.string sv, .int .i64 most] K h :=
  denF_sound Try.func5 (H := ⟨[], [], [], [(24, ⟨[(7, .int .i64)], [], []⟩), (44, ⟨[], [], []⟩)]⟩) (xs := [.v (.string sv), .v (.int .i64 most)]) (by kernel_rfl) (by simp [okE0s, okE0, one1]) (cast (by kernel_rfl : F_law01_PackBounds sv most K h = denF Try.prog Try.f5 ⟨[], [], [], [(24, ⟨[(7, .int .i64)], [], []⟩), (44, ⟨[], [], []⟩)]⟩ [.v (.string sv), .v (.int .i64 most)] K h) hh)

/- twinlock/twinlocklaw01.PackTells -/
def F_law01_PackTells (sv : ByteArray) (lA : Option Addr) (lN lC : Nat) (bare : Bool) (K : Value → PH → Prop) (h : PH) : Prop :=
  CallH Try.prog id_law01_Great [.slice lA lN lC] (fun v h1 =>
    ∃ t : Bool, v = .bool t ∧
    (((t || (decide ((sv.size : Int) > (30000 : Int)))) = true →
        CallH Try.prog id_law01_wakes [] (fun v_1 h2 =>
          ∃ t_1 : Bool, v_1 = .bool t_1 ∧
          K (.bool t_1) h2) h1) ∧
      ((t || (decide ((sv.size : Int) > (30000 : Int)))) = false →
        CallH Try.prog id_pack_Of [.string sv] (fun v_2 h3 =>
          ∃ xv : Option Addr, v_2 = .pointer xv ∧
          newH h3 (.cells #[.string sv, .int .i64 (0 : Int), .int .i64 (0 : Int)] T_ref01_In (0, 0)) fun bv h4 =>
          JoinP (T := Option Addr × Unit) (fun Jv =>
            ((bare = true →
                newH h4 (.cells #[.string (⟨#[]⟩ : ByteArray), .int .i64 (0 : Int), .int .i64 (0 : Int)] T_pack_In (0, 0)) fun bv_1 h6 =>
                ∃ bv_2 ov : Nat, (some ⟨bv, 0, none⟩ : Option Addr) = some ⟨bv_2, ov, none⟩ ∧
                stH h6 bv_2 ov [.string (⟨#[]⟩ : ByteArray)] fun h7 =>
                Jv ((some ⟨bv_1, 0, none⟩), ()) h7) ∧
              (bare = false →
                Jv (xv, ()) h4)))
          (fun st h5 =>
            LoopP (T := Int × Unit) (fun Jv_1 st_1 h8 =>
              (((decide (st_1.1 < ((lN : Nat) : Int))) = true →
                  JoinP (T := Unit) (fun Jv_2 =>
                    ∃ bv_3 ov_1 : Nat, (lA = some ⟨bv_3, ov_1, none⟩ ∧ 0 ≤ st_1.1 ∧ st_1.1 < (lN : Nat)) ∧
                    ∃ t0 : Int, ∃ t1 : Int, ∃ t2 : Int, ∃ t3 : ByteArray, ∃ t4 : Int, ∃ t5 : Int, (h8.rds bv_3 (ov_1 + st_1.1.toNat * 6) 6 = some [.int .u8 t0, .int .u64 t1, .int .i64 t2, .string t3, .int .u8 t4, .int .i64 t5]) ∧
                    ∃ bv_4 ov_2 : Nat, (lA = some ⟨bv_4, ov_2, none⟩ ∧ 0 ≤ st_1.1 ∧ st_1.1 < (lN : Nat)) ∧
                    ∃ t0_1 : Int, ∃ t1_1 : Int, ∃ t2_1 : Int, ∃ t3_1 : ByteArray, ∃ t4_1 : Int, ∃ t5_1 : Int, (h8.rds bv_4 (ov_2 + st_1.1.toNat * 6) 6 = some [.int .u8 t0_1, .int .u64 t1_1, .int .i64 t2_1, .string t3_1, .int .u8 t4_1, .int .i64 t5_1]) ∧
                    CallH Try.prog id_law01_read [.pointer st.1, .agg #[.int .u8 t0, .int .u64 t1, .int .i64 t2, .string t3, .int .u8 t4, .int .i64 t5]] (fun v_3 h10 =>
                      ∃ t0_2 : Int, ∃ t1_2 : Int, ∃ t2_2 : Int, ∃ t3_2 : ByteArray, ∃ t4_2 : Int, ∃ t5_2 : Int, v_3 = .agg #[.int .u8 t0_2, .int .u64 t1_2, .int .i64 t2_2, .string t3_2, .int .u8 t4_2, .int .i64 t5_2] ∧
                      (h10.rds bv_4 (ov_2 + st_1.1.toNat * 6) 6 = some [.int .u8 t0_1, .int .u64 t1_1, .int .i64 t2_1, .string t3_1, .int .u8 t4_1, .int .i64 t5_1]) ∧
                      CallH Try.prog id_law01_told [.pointer (some ⟨bv, 0, none⟩), .agg #[.int .u8 t0_1, .int .u64 t1_1, .int .i64 t2_1, .string t3_1, .int .u8 t4_1, .int .i64 t5_1]] (fun v_4 h11 =>
                        ∃ t0_3 : Int, ∃ t1_3 : Int, ∃ t2_3 : Int, ∃ t3_3 : ByteArray, ∃ t4_3 : Int, ∃ t5_3 : Int, v_4 = .agg #[.int .u8 t0_3, .int .u64 t1_3, .int .i64 t2_3, .string t3_3, .int .u8 t4_3, .int .i64 t5_3] ∧
                        (((!((t0_2 == t0_3) && ((t1_2 == t1_3) && ((t2_2 == t2_3) && ((strEq t3_2 t3_3) && ((t4_2 == t4_3) && ((t5_2 == t5_3) && true))))))) = true →
                            K (.bool false) h11) ∧
                          ((!((t0_2 == t0_3) && ((t1_2 == t1_3) && ((t2_2 == t2_3) && ((strEq t3_2 t3_3) && ((t4_2 == t4_3) && ((t5_2 == t5_3) && true))))))) = false →
                            CallH Try.prog id_pack_In_Fault [.pointer st.1] (fun v_5 h12 =>
                              ∃ t0_4 : Int, ∃ t1_4 : Int, v_5 = .tuple #[.int .i64 t0_4, .int .i64 t1_4] ∧
                              ∃ bv_5 ov_3 : Nat, (some ⟨bv, 0, none⟩ : Option Addr) = some ⟨bv_5, ov_3, none⟩ ∧
                              ∃ endv : Int, (h12.rds bv_5 (ov_3 + 2) 1 = some [.int .i64 endv]) ∧
                              JoinP (T := Int × Unit) (fun Jv_3 =>
                                ∃ bv_6 ov_4 : Nat, ((endv == (0 : Int)) = true → (some ⟨bv, 0, none⟩ : Option Addr) = some ⟨bv_6, ov_4, none⟩) ∧
                                ∃ t_2 : Int, (((endv == (0 : Int)) = true → h12.rds bv_6 (ov_4 + 1) 1 = some [.int .i64 t_2])) ∧
                                ∃ bv_7 ov_5 : Nat, ((endv == (0 : Int)) = true → (some ⟨bv, 0, none⟩ : Option Addr) = some ⟨bv_7, ov_5, none⟩) ∧
                                ∃ t_3 : ByteArray, (((endv == (0 : Int)) = true → h12.rds bv_7 ov_5 1 = some [.string t_3])) ∧
                                ((((endv == (0 : Int)) && (decide (t_2 < (t_3.size : Int)))) = true →
                                    Jv_3 ((8 : Int), ()) h12) ∧
                                  (((endv == (0 : Int)) && (decide (t_2 < (t_3.size : Int)))) = false →
                                    Jv_3 (endv, ()) h12)))
                              (fun st_3 h13 =>
                                ∃ bv_8 ov_6 : Nat, (some ⟨bv, 0, none⟩ : Option Addr) = some ⟨bv_8, ov_6, none⟩ ∧
                                ∃ t_4 : Int, (h13.rds bv_8 (ov_6 + 2) 1 = some [.int .i64 t_4]) ∧
                                (((t0_4 != t_4) = false →
                                    ∃ bv_9 ov_7 : Nat, ((t0_4 != (0 : Int)) = true → (some ⟨bv, 0, none⟩ : Option Addr) = some ⟨bv_9, ov_7, none⟩) ∧
                                    ∃ t_5 : Int, (((t0_4 != (0 : Int)) = true → h13.rds bv_9 (ov_7 + 1) 1 = some [.int .i64 t_5])) ∧
                                    ((((t0_4 != (0 : Int)) && (t1_4 != t_5)) = false →
                                        ∃ bv_10 ov_8 : Nat, (((t0_4 == (0 : Int)) && (t1_4 != (0 : Int))) = false → (some ⟨bv, 0, none⟩ : Option Addr) = some ⟨bv_10, ov_8, none⟩) ∧
                                        ∃ t_6 : ByteArray, ((((t0_4 == (0 : Int)) && (t1_4 != (0 : Int))) = false → h13.rds bv_10 ov_8 1 = some [.string t_6])) ∧
                                        ∃ bv_11 ov_9 : Nat, (((t0_4 == (0 : Int)) && (t1_4 != (0 : Int))) = false → (some ⟨bv, 0, none⟩ : Option Addr) = some ⟨bv_11, ov_9, none⟩) ∧
                                        ∃ t_7 : Int, ((((t0_4 == (0 : Int)) && (t1_4 != (0 : Int))) = false → h13.rds bv_11 (ov_9 + 1) 1 = some [.int .i64 t_7])) ∧
                                        ((((t0_4 == (0 : Int)) && (t1_4 != (0 : Int))) = false →
                                            CallH Try.prog id_pack_In_Left [.pointer st.1] (fun v_6 h14 =>
                                              ∃ t_8 : Int, v_6 = .int .i64 t_8 ∧
                                              ((((t0_4 == (0 : Int)) && (t1_4 != (0 : Int))) = false → h14.rds bv_11 (ov_9 + 1) 1 = some [.int .i64 t_7])) ∧
                                              ((((t0_4 == (0 : Int)) && (t1_4 != (0 : Int))) = false → h14.rds bv_10 ov_8 1 = some [.string t_6])) ∧
                                              (((t_8 != (IntKind.wrap .i64 ((t_6.size : Int) - t_7))) = false →
                                                  CallH Try.prog id_pack_In_End [.pointer st.1] (fun v_7 h15 =>
                                                    ∃ t_9 : Int, v_7 = .int .i64 t_9 ∧
                                                    (((t_9 != st_3.1) = true →
                                                        K (.bool false) h15) ∧
                                                      ((t_9 != st_3.1) = false →
                                                        Jv_2 (()) h15))) h14) ∧
                                                ((t_8 != (IntKind.wrap .i64 ((t_6.size : Int) - t_7))) = true →
                                                  K (.bool false) h14))) h13) ∧
                                          (((t0_4 == (0 : Int)) && (t1_4 != (0 : Int))) = true →
                                            ((((t0_4 == (0 : Int)) && (t1_4 != (0 : Int))) = false → h13.rds bv_11 (ov_9 + 1) 1 = some [.int .i64 t_7])) ∧
                                            ((((t0_4 == (0 : Int)) && (t1_4 != (0 : Int))) = false → h13.rds bv_10 ov_8 1 = some [.string t_6])) ∧
                                            K (.bool false) h13))) ∧
                                      (((t0_4 != (0 : Int)) && (t1_4 != t_5)) = true →
                                        K (.bool false) h13))) ∧
                                  ((t0_4 != t_4) = true →
                                    K (.bool false) h13)))) h11))) h10) h8)
                  (fun _ h9 =>
                    Jv_1 ((IntKind.wrap .i64 (st_1.1 + (1 : Int))), ()) h9)) ∧
                ((decide (st_1.1 < ((lN : Nat) : Int))) = false →
                  CallH Try.prog id_law01_wakes [] (fun v_8 h16 =>
                    ∃ t_10 : Bool, v_8 = .bool t_10 ∧
                    K (.bool t_10) h16) h8))) ((0 : Int), ()) h5)) h1))) h
theorem F_law01_PackTells_ok {sv : ByteArray} {lA : Option Addr} {lN lC : Nat} {bare : Bool}  {K : Value → PH → Prop} {h : PH} (hh : F_law01_PackTells sv lA lN lC bare K h) : CallH Try.prog id_law01_PackTells [.string sv, .slice lA lN lC, .bool bare] K h :=
  denF_sound Try.func6 (H := ⟨[], [(11, [0, 1, 2, 3, 4, 6, 7, 8, 9, 10, 5, 11, 12]), (17, [0, 1, 2, 3, 4, 5, 6, 7, 8, 9, 10, 11, 12, 13, 14, 15, 16, 17, 18, 19, 20, 21, 22, 23, 24, 25, 26, 27, 29, 30, 31, 32, 33, 34, 35, 36, 37, 38, 28, 39, 40, 41, 42, 44, 43, 45, 46])], [(0, ⟨[(9, .int .i64)], [], []⟩)], [(18, ⟨[(7, .ptr)], [], []⟩), (22, ⟨[], [], []⟩), (36, ⟨[(12, .int .i64)], [], []⟩)]⟩) (xs := [.v (.string sv), .v (.slice lA lN lC), .v (.bool bare)]) (by kernel_rfl) (by simp [okE0s, okE0, one1]) (cast (by kernel_rfl : F_law01_PackTells sv lA lN lC bare K h = denF Try.prog Try.f6 ⟨[], [(11, [0, 1, 2, 3, 4, 6, 7, 8, 9, 10, 5, 11, 12]), (17, [0, 1, 2, 3, 4, 5, 6, 7, 8, 9, 10, 11, 12, 13, 14, 15, 16, 17, 18, 19, 20, 21, 22, 23, 24, 25, 26, 27, 29, 30, 31, 32, 33, 34, 35, 36, 37, 38, 28, 39, 40, 41, 42, 44, 43, 45, 46])], [(0, ⟨[(9, .int .i64)], [], []⟩)], [(18, ⟨[(7, .ptr)], [], []⟩), (22, ⟨[], [], []⟩), (36, ⟨[(12, .int .i64)], [], []⟩)]⟩ [.v (.string sv), .v (.slice lA lN lC), .v (.bool bare)] K h) hh)

/- twinlock/twinlocklaw01.PackKnown -/
def F_law01_PackKnown  (K : Value → PH → Prop) (h : PH) : Prop :=
  newH h (.cells #[.int .u8 (0 : Int), .int .u64 (0 : Int), .int .i64 (0 : Int), .string (⟨#[]⟩ : ByteArray), .int .u8 (0 : Int), .int .i64 (0 : Int), .string (⟨#[0]⟩ : ByteArray), .int .u8 (0 : Int), .int .u64 (127 : Int), .int .i64 (0 : Int), .string (⟨#[]⟩ : ByteArray), .int .u8 (0 : Int), .int .i64 (0 : Int), .string (⟨#[127]⟩ : ByteArray), .int .u8 (0 : Int), .int .u64 (128 : Int), .int .i64 (0 : Int), .string (⟨#[]⟩ : ByteArray), .int .u8 (0 : Int), .int .i64 (0 : Int), .string (⟨#[128, 1]⟩ : ByteArray), .int .u8 (0 : Int), .int .u64 (16384 : Int), .int .i64 (0 : Int), .string (⟨#[]⟩ : ByteArray), .int .u8 (0 : Int), .int .i64 (0 : Int), .string (⟨#[128, 128, 1]⟩ : ByteArray), .int .u8 (0 : Int), .int .u64 (18446744073709551615 : Int), .int .i64 (0 : Int), .string (⟨#[]⟩ : ByteArray), .int .u8 (0 : Int), .int .i64 (0 : Int), .string (⟨#[255, 255, 255, 255, 255, 255, 255, 255, 255, 1]⟩ : ByteArray), .int .u8 (1 : Int), .int .u64 (0 : Int), .int .i64 (0 : Int), .string (⟨#[]⟩ : ByteArray), .int .u8 (0 : Int), .int .i64 (0 : Int), .string (⟨#[0]⟩ : ByteArray), .int .u8 (1 : Int), .int .u64 (0 : Int), .int .i64 (-1 : Int), .string (⟨#[]⟩ : ByteArray), .int .u8 (0 : Int), .int .i64 (0 : Int), .string (⟨#[1]⟩ : ByteArray), .int .u8 (1 : Int), .int .u64 (0 : Int), .int .i64 (1 : Int), .string (⟨#[]⟩ : ByteArray), .int .u8 (0 : Int), .int .i64 (0 : Int), .string (⟨#[2]⟩ : ByteArray), .int .u8 (1 : Int), .int .u64 (0 : Int), .int .i64 (-65 : Int), .string (⟨#[]⟩ : ByteArray), .int .u8 (0 : Int), .int .i64 (0 : Int), .string (⟨#[129, 1]⟩ : ByteArray), .int .u8 (1 : Int), .int .u64 (0 : Int), .int .i64 (-9223372036854775808 : Int), .string (⟨#[]⟩ : ByteArray), .int .u8 (0 : Int), .int .i64 (0 : Int), .string (⟨#[255, 255, 255, 255, 255, 255, 255, 255, 255, 1]⟩ : ByteArray), .int .u8 (2 : Int), .int .u64 (0 : Int), .int .i64 (0 : Int), .string (⟨#[97, 98]⟩ : ByteArray), .int .u8 (0 : Int), .int .i64 (2 : Int), .string (⟨#[2, 97, 98]⟩ : ByteArray), .int .u8 (2 : Int), .int .u64 (0 : Int), .int .i64 (0 : Int), .string (⟨#[]⟩ : ByteArray), .int .u8 (0 : Int), .int .i64 (0 : Int), .string (⟨#[0]⟩ : ByteArray), .int .u8 (3 : Int), .int .u64 (0 : Int), .int .i64 (0 : Int), .string (⟨#[]⟩ : ByteArray), .int .u8 (200 : Int), .int .i64 (0 : Int), .string (⟨#[200]⟩ : ByteArray)] 59 (0, 0)) fun bv h1 =>
  LoopP (T := Int × Unit) (fun Jv st h2 =>
    (((decide (st.1 < ((13 : Nat) : Int))) = true →
        newH h2 (.cells #[.slice none 0 0] T_pack_Out (0, 0)) fun bv_1 h3 =>
        ∃ bv_2 ov : Nat, ((some ⟨bv, 0, none⟩ : Option Addr) = some ⟨bv_2, ov, none⟩ ∧ 0 ≤ st.1 ∧ st.1 < (13 : Nat)) ∧
        ∃ t0 : Int, ∃ t1 : Int, ∃ t2 : Int, ∃ t3 : ByteArray, ∃ t4 : Int, ∃ t5 : Int, (h3.rds bv_2 (ov + st.1.toNat * 7) 6 = some [.int .u8 t0, .int .u64 t1, .int .i64 t2, .string t3, .int .u8 t4, .int .i64 t5]) ∧
        newH h3 (.cells #[.int .u8 t0, .int .u64 t1, .int .i64 t2, .string t3, .int .u8 t4, .int .i64 t5] T_law01_Item (0, 0)) fun bv_3 h4 =>
        CallH Try.prog id_law01_writes [.pointer (some ⟨bv_1, 0, none⟩), .slice (some ⟨bv_3, 0, none⟩) 1 1] (fun _ h5 =>
          ∃ bv_4 ov_1 : Nat, ((some ⟨bv, 0, none⟩ : Option Addr) = some ⟨bv_4, ov_1, none⟩ ∧ 0 ≤ st.1 ∧ st.1 < (13 : Nat)) ∧
          ∃ t : ByteArray, (h5.rds bv_4 ((ov_1 + st.1.toNat * 7) + 6) 1 = some [.string t]) ∧
          CallH Try.prog id_pack_Of [.string t] (fun v_1 h6 =>
            ∃ xv : Option Addr, v_1 = .pointer xv ∧
            ∃ bv_5 ov_2 : Nat, ((some ⟨bv, 0, none⟩ : Option Addr) = some ⟨bv_5, ov_2, none⟩ ∧ 0 ≤ st.1 ∧ st.1 < (13 : Nat)) ∧
            ∃ t0_1 : Int, ∃ t1_1 : Int, ∃ t2_1 : Int, ∃ t3_1 : ByteArray, ∃ t4_1 : Int, ∃ t5_1 : Int, (h6.rds bv_5 (ov_2 + st.1.toNat * 7) 6 = some [.int .u8 t0_1, .int .u64 t1_1, .int .i64 t2_1, .string t3_1, .int .u8 t4_1, .int .i64 t5_1]) ∧
            CallH Try.prog id_law01_read [.pointer xv, .agg #[.int .u8 t0_1, .int .u64 t1_1, .int .i64 t2_1, .string t3_1, .int .u8 t4_1, .int .i64 t5_1]] (fun v_2 h7 =>
              ∃ b0 : Int, ∃ b1 : Int, ∃ b2 : Int, ∃ b3 : ByteArray, ∃ b4 : Int, ∃ b5 : Int, v_2 = .agg #[.int .u8 b0, .int .u64 b1, .int .i64 b2, .string b3, .int .u8 b4, .int .i64 b5] ∧
              ∃ bv_6 ov_3 : Nat, ((some ⟨bv, 0, none⟩ : Option Addr) = some ⟨bv_6, ov_3, none⟩ ∧ 0 ≤ st.1 ∧ st.1 < (13 : Nat)) ∧
              ∃ t_1 : Int, (h7.rds bv_6 (ov_3 + st.1.toNat * 7) 1 = some [.int .u8 t_1]) ∧
              ∃ bv_7 ov_4 : Nat, ((some ⟨bv, 0, none⟩ : Option Addr) = some ⟨bv_7, ov_4, none⟩ ∧ 0 ≤ st.1 ∧ st.1 < (13 : Nat)) ∧
              ∃ t_2 : Int, (h7.rds bv_7 ((ov_4 + st.1.toNat * 7) + 5) 1 = some [.int .i64 t_2]) ∧
              ∃ bv_8 ov_5 : Nat, ((some ⟨bv, 0, none⟩ : Option Addr) = some ⟨bv_8, ov_5, none⟩ ∧ 0 ≤ st.1 ∧ st.1 < (13 : Nat)) ∧
              ∃ t_3 : ByteArray, (h7.rds bv_8 ((ov_5 + st.1.toNat * 7) + 6) 1 = some [.string t_3]) ∧
              CallH Try.prog id_pack_Out_String [.pointer (some ⟨bv_1, 0, none⟩)] (fun v_3 h8 =>
                ∃ t_4 : ByteArray, v_3 = .string t_4 ∧
                (h8.rds bv_8 ((ov_5 + st.1.toNat * 7) + 6) 1 = some [.string t_3]) ∧
                ∃ bv_9 ov_6 : Nat, (((!(strEq t_4 t_3)) = false → (some ⟨bv, 0, none⟩ : Option Addr) = some ⟨bv_9, ov_6, none⟩ ∧ 0 ≤ st.1 ∧ st.1 < (13 : Nat))) ∧
                ∃ t0_2 : Int, ∃ t1_2 : Int, ∃ t2_2 : Int, ∃ t3_2 : ByteArray, ∃ t4_2 : Int, ∃ t5_2 : Int, (((!(strEq t_4 t_3)) = false → h8.rds bv_9 (ov_6 + st.1.toNat * 7) 6 = some [.int .u8 t0_2, .int .u64 t1_2, .int .i64 t2_2, .string t3_2, .int .u8 t4_2, .int .i64 t5_2])) ∧
                ((((!(strEq t_4 t_3)) || (!((t_1 == t0_2) && ((b1 == t1_2) && ((b2 == t2_2) && ((strEq b3 t3_2) && ((b4 == t4_2) && ((t_2 == t5_2) && true)))))))) = false →
                    CallH Try.prog id_pack_In_End [.pointer xv] (fun v_4 h9 =>
                      ∃ t_5 : Int, v_4 = .int .i64 t_5 ∧
                      (((t_5 != (0 : Int)) = true →
                          K (.bool false) h9) ∧
                        ((t_5 != (0 : Int)) = false →
                          Jv ((IntKind.wrap .i64 (st.1 + (1 : Int))), ()) h9))) h8) ∧
                  (((!(strEq t_4 t_3)) || (!((t_1 == t0_2) && ((b1 == t1_2) && ((b2 == t2_2) && ((strEq b3 t3_2) && ((b4 == t4_2) && ((t_2 == t5_2) && true)))))))) = true →
                    K (.bool false) h8))) h7) h6) h5) h4) ∧
      ((decide (st.1 < ((13 : Nat) : Int))) = false →
        newH h2 (.cells #[.string (⟨#[]⟩ : ByteArray), .int .i64 (7 : Int), .string (⟨#[129]⟩ : ByteArray), .int .i64 (7 : Int), .string (⟨#[129, 0]⟩ : ByteArray), .int .i64 (8 : Int), .string (⟨#[255, 255, 255, 255, 255, 255, 255, 255, 255]⟩ : ByteArray), .int .i64 (7 : Int), .string (⟨#[255, 255, 255, 255, 255, 255, 255, 255, 255, 2]⟩ : ByteArray), .int .i64 (8 : Int), .string (⟨#[255, 255, 255, 255, 255, 255, 255, 255, 255, 129]⟩ : ByteArray), .int .i64 (8 : Int), .string (⟨#[128, 128, 128, 128, 128, 128, 128, 128, 128, 128, 1]⟩ : ByteArray), .int .i64 (8 : Int)] 61 (0, 0)) fun bv_10 h10 =>
        LoopP (T := Int × Unit) (fun Jv_1 st_1 h11 =>
          (((decide (st_1.1 < ((7 : Nat) : Int))) = true →
              ∃ bv_11 ov_7 : Nat, ((some ⟨bv_10, 0, none⟩ : Option Addr) = some ⟨bv_11, ov_7, none⟩ ∧ 0 ≤ st_1.1 ∧ st_1.1 < (7 : Nat)) ∧
              ∃ t_6 : ByteArray, (h11.rds bv_11 (ov_7 + st_1.1.toNat * 2) 1 = some [.string t_6]) ∧
              CallH Try.prog id_pack_Of [.string t_6] (fun v_5 h12 =>
                ∃ xv_1 : Option Addr, v_5 = .pointer xv_1 ∧
                CallH Try.prog id_pack_In_Num [.pointer xv_1] (fun v_6 h13 =>
                  ∃ n : Int, v_6 = .int .u64 n ∧
                  CallH Try.prog id_pack_In_Fault [.pointer xv_1] (fun v_7 h14 =>
                    ∃ t0_3 : Int, ∃ t1_3 : Int, v_7 = .tuple #[.int .i64 t0_3, .int .i64 t1_3] ∧
                    ∃ bv_12 ov_8 : Nat, (((n != (0 : Int)) = false → (some ⟨bv_10, 0, none⟩ : Option Addr) = some ⟨bv_12, ov_8, none⟩ ∧ 0 ≤ st_1.1 ∧ st_1.1 < (7 : Nat))) ∧
                    ∃ t_7 : Int, (((n != (0 : Int)) = false → h14.rds bv_12 ((ov_8 + st_1.1.toNat * 2) + 1) 1 = some [.int .i64 t_7])) ∧
                    ∃ bv_13 ov_9 : Nat, (((((n != (0 : Int)) || (t0_3 != t_7)) || (t1_3 != (0 : Int))) = false → (some ⟨bv_10, 0, none⟩ : Option Addr) = some ⟨bv_13, ov_9, none⟩ ∧ 0 ≤ st_1.1 ∧ st_1.1 < (7 : Nat))) ∧
                    ∃ t_8 : ByteArray, (((((n != (0 : Int)) || (t0_3 != t_7)) || (t1_3 != (0 : Int))) = false → h14.rds bv_13 (ov_9 + st_1.1.toNat * 2) 1 = some [.string t_8])) ∧
                    (((((n != (0 : Int)) || (t0_3 != t_7)) || (t1_3 != (0 : Int))) = false →
                        CallH Try.prog id_pack_In_Left [.pointer xv_1] (fun v_8 h15 =>
                          ∃ t_9 : Int, v_8 = .int .i64 t_9 ∧
                          (((((n != (0 : Int)) || (t0_3 != t_7)) || (t1_3 != (0 : Int))) = false → h15.rds bv_13 (ov_9 + st_1.1.toNat * 2) 1 = some [.string t_8])) ∧
                          (((t_9 != (t_8.size : Int)) = false →
                              CallH Try.prog id_pack_In_Byte [.pointer xv_1] (fun v_9 h16 =>
                                ∃ t_10 : Int, v_9 = .int .u8 t_10 ∧
                                (((t_10 != (0 : Int)) = true →
                                    K (.bool false) h16) ∧
                                  ((t_10 != (0 : Int)) = false →
                                    Jv_1 ((IntKind.wrap .i64 (st_1.1 + (1 : Int))), ()) h16))) h15) ∧
                            ((t_9 != (t_8.size : Int)) = true →
                              K (.bool false) h15))) h14) ∧
                      ((((n != (0 : Int)) || (t0_3 != t_7)) || (t1_3 != (0 : Int))) = true →
                        (((((n != (0 : Int)) || (t0_3 != t_7)) || (t1_3 != (0 : Int))) = false → h14.rds bv_13 (ov_9 + st_1.1.toNat * 2) 1 = some [.string t_8])) ∧
                        K (.bool false) h14))) h13) h12) h11) ∧
            ((decide (st_1.1 < ((7 : Nat) : Int))) = false →
              CallH Try.prog id_pack_Of [.string (⟨#[7, 2, 97]⟩ : ByteArray)] (fun v_10 h17 =>
                ∃ y : Option Addr, v_10 = .pointer y ∧
                CallH Try.prog id_pack_In_Num [.pointer y] (fun v_11 h18 =>
                  ∃ n_1 : Int, v_11 = .int .u64 n_1 ∧
                  CallH Try.prog id_pack_In_Text [.pointer y, .int .i64 (9 : Int)] (fun v_12 h19 =>
                    ∃ sv : ByteArray, v_12 = .string sv ∧
                    CallH Try.prog id_pack_In_Fault [.pointer y] (fun v_13 h20 =>
                      ∃ t0_4 : Int, ∃ t1_4 : Int, v_13 = .tuple #[.int .i64 t0_4, .int .i64 t1_4] ∧
                      CallH Try.prog id_pack_Of [.string (⟨#[7]⟩ : ByteArray)] (fun v_14 h21 =>
                        ∃ z : Option Addr, v_14 = .pointer z ∧
                        CallH Try.prog id_pack_In_Most [.pointer z, .int .i64 (6 : Int)] (fun v_15 h22 =>
                          ∃ m : Int, v_15 = .int .i64 m ∧
                          CallH Try.prog id_pack_In_Fault [.pointer none] (fun v_16 h23 =>
                            ∃ t0_5 : Int, ∃ t1_5 : Int, v_16 = .tuple #[.int .i64 t0_5, .int .i64 t1_5] ∧
                            JoinP (T := Bool × Unit) (fun Jv_2 =>
                              CallH Try.prog id_pack_In_Num [.pointer none] (fun v_17 h25 =>
                                ∃ t_11 : Int, v_17 = .int .u64 t_11 ∧
                                (((t_11 == (0 : Int)) = true →
                                    CallH Try.prog id_pack_In_Int [.pointer none] (fun v_18 h26 =>
                                      ∃ t_12 : Int, v_18 = .int .i64 t_12 ∧
                                      (((t_12 == (0 : Int)) = true →
                                          CallH Try.prog id_pack_In_Most [.pointer none, .int .i64 (1 : Int)] (fun v_19 h27 =>
                                            ∃ t_13 : Int, v_19 = .int .i64 t_13 ∧
                                            (((t_13 == (0 : Int)) = true →
                                                CallH Try.prog id_pack_In_Text [.pointer none, .int .i64 (1 : Int)] (fun v_20 h28 =>
                                                  ∃ t_14 : ByteArray, v_20 = .string t_14 ∧
                                                  (((strEq t_14 (⟨#[]⟩ : ByteArray)) = true →
                                                      CallH Try.prog id_pack_In_Byte [.pointer none] (fun v_21 h29 =>
                                                        ∃ t_15 : Int, v_21 = .int .u8 t_15 ∧
                                                        (((t_15 == (0 : Int)) = true →
                                                            CallH Try.prog id_pack_In_Left [.pointer none] (fun v_22 h30 =>
                                                              ∃ t_16 : Int, v_22 = .int .i64 t_16 ∧
                                                              ((((t_16 == (0 : Int)) && (t0_5 == (0 : Int))) = true →
                                                                  CallH Try.prog id_pack_In_End [.pointer none] (fun v_23 h31 =>
                                                                    ∃ t_17 : Int, v_23 = .int .i64 t_17 ∧
                                                                    Jv_2 ((t_17 == (0 : Int)), ()) h31) h30) ∧
                                                                (((t_16 == (0 : Int)) && (t0_5 == (0 : Int))) = false →
                                                                  Jv_2 (false, ()) h30))) h29) ∧
                                                          ((t_15 == (0 : Int)) = false →
                                                            Jv_2 (false, ()) h29))) h28) ∧
                                                    ((strEq t_14 (⟨#[]⟩ : ByteArray)) = false →
                                                      Jv_2 (false, ()) h28))) h27) ∧
                                              ((t_13 == (0 : Int)) = false →
                                                Jv_2 (false, ()) h27))) h26) ∧
                                        ((t_12 == (0 : Int)) = false →
                                          Jv_2 (false, ()) h26))) h25) ∧
                                  ((t_11 == (0 : Int)) = false →
                                    Jv_2 (false, ()) h25))) h23)
                            (fun st_2 h24 =>
                              ((((((n_1 == (7 : Int)) && (strEq sv (⟨#[]⟩ : ByteArray))) && (t0_4 == (7 : Int))) && (t1_4 == (1 : Int))) = true →
                                  CallH Try.prog id_pack_In_Left [.pointer y] (fun v_24 h32 =>
                                    ∃ t_18 : Int, v_24 = .int .i64 t_18 ∧
                                    ((((t_18 == (2 : Int)) && (m == (0 : Int))) = true →
                                        CallH Try.prog id_pack_In_End [.pointer z] (fun v_25 h33 =>
                                          ∃ t_19 : Int, v_25 = .int .i64 t_19 ∧
                                          (((t_19 == (8 : Int)) = true →
                                              CallH Try.prog id_pack_Of [.string (⟨#[120]⟩ : ByteArray)] (fun v_26 h34 =>
                                                ∃ t_20 : Option Addr, v_26 = .pointer t_20 ∧
                                                CallH Try.prog id_pack_In_End [.pointer t_20] (fun v_27 h35 =>
                                                  ∃ t_21 : Int, v_27 = .int .i64 t_21 ∧
                                                  ((((t_21 == (8 : Int)) && st_2.1) = true →
                                                      CallH Try.prog id_law01_wakes [] (fun v_28 h36 =>
                                                        ∃ t_22 : Bool, v_28 = .bool t_22 ∧
                                                        K (.bool t_22) h36) h35) ∧
                                                    (((t_21 == (8 : Int)) && st_2.1) = false →
                                                      K (.bool false) h35))) h34) h33) ∧
                                            ((t_19 == (8 : Int)) = false →
                                              K (.bool false) h33))) h32) ∧
                                      (((t_18 == (2 : Int)) && (m == (0 : Int))) = false →
                                        K (.bool false) h32))) h24) ∧
                                (((((n_1 == (7 : Int)) && (strEq sv (⟨#[]⟩ : ByteArray))) && (t0_4 == (7 : Int))) && (t1_4 == (1 : Int))) = false →
                                  K (.bool false) h24)))) h22) h21) h20) h19) h18) h17) h11))) ((0 : Int), ()) h10))) ((0 : Int), ()) h1
theorem F_law01_PackKnown_ok   {K : Value → PH → Prop} {h : PH} (hh : F_law01_PackKnown  K h) : CallH Try.prog id_law01_PackKnown [] K h :=
  denF_sound Try.func7 (H := ⟨[5], [(11, [1, 2, 3, 4, 5, 0, 6, 7, 8, 9, 10, 11, 12, 13, 14, 15, 16, 17, 18, 19, 20]), (20, [0, 1, 2, 3, 4, 5, 6, 7, 8, 9, 10, 11, 12, 13, 14, 15, 16, 18, 19, 20, 21, 22, 23, 17, 24, 25, 26, 27, 28, 29, 30])], [(0, ⟨[(2, .int .i64)], [], []⟩), (2, ⟨[(7, .int .i64)], [], []⟩)], [(64, ⟨[(22, .bool)], [], []⟩)]⟩) (xs := []) (by kernel_rfl) (by simp [okE0s]) (cast (by kernel_rfl : F_law01_PackKnown  K h = denF Try.prog Try.f7 ⟨[5], [(11, [1, 2, 3, 4, 5, 0, 6, 7, 8, 9, 10, 11, 12, 13, 14, 15, 16, 17, 18, 19, 20]), (20, [0, 1, 2, 3, 4, 5, 6, 7, 8, 9, 10, 11, 12, 13, 14, 15, 16, 18, 19, 20, 21, 22, 23, 17, 24, 25, 26, 27, 28, 29, 30])], [(0, ⟨[(2, .int .i64)], [], []⟩), (2, ⟨[(7, .int .i64)], [], []⟩)], [(64, ⟨[(22, .bool)], [], []⟩)]⟩ [] K h) hh)

/- twinlock/twinlocklaw01.PackReturns -/
def F_law01_PackReturns (lA : Option Addr) (lN lC : Nat) (sv : ByteArray) (t : ByteArray) (K : Value → PH → Prop) (h : PH) : Prop :=
  CallH Try.prog id_law01_Great [.slice lA lN lC] (fun v h1 =>
    ∃ t_1 : Bool, v = .bool t_1 ∧
    ((((t_1 || (decide ((sv.size : Int) > (30000 : Int)))) || (decide ((t.size : Int) > (30000 : Int)))) = true →
        CallH Try.prog id_law01_wakes [] (fun v_1 h2 =>
          ∃ t_2 : Bool, v_1 = .bool t_2 ∧
          K (.bool t_2) h2) h1) ∧
      (((t_1 || (decide ((sv.size : Int) > (30000 : Int)))) || (decide ((t.size : Int) > (30000 : Int)))) = false →
        CallH Try.prog id_law01_written [.slice lA lN lC] (fun v_2 h3 =>
          ∃ (wA : Option Addr) (wN wC : Nat), v_2 = .slice wA wN wC ∧
          CallH Try.prog id_law01_bytes [.slice wA wN wC] (fun v_3 h4 =>
            ∃ t_3 : ByteArray, v_3 = .string t_3 ∧
            CallH Try.prog id_pack_Of [.string t_3] (fun v_4 h5 =>
              ∃ xv : Option Addr, v_4 = .pointer xv ∧
              LoopP (T := Int × Unit) (fun Jv st h6 =>
                (((decide (st.1 < ((wN : Nat) : Int))) = true →
                    ∃ bv ov : Nat, (wA = some ⟨bv, ov, none⟩ ∧ 0 ≤ st.1 ∧ st.1 < (wN : Nat)) ∧
                    ∃ t0 : Int, ∃ t1 : Int, ∃ t2 : Int, ∃ t3 : ByteArray, ∃ t4 : Int, ∃ t5 : Int, (h6.rds bv (ov + st.1.toNat * 6) 6 = some [.int .u8 t0, .int .u64 t1, .int .i64 t2, .string t3, .int .u8 t4, .int .i64 t5]) ∧
                    ∃ bv_1 ov_1 : Nat, (wA = some ⟨bv_1, ov_1, none⟩ ∧ 0 ≤ st.1 ∧ st.1 < (wN : Nat)) ∧
                    ∃ t0_1 : Int, ∃ t1_1 : Int, ∃ t2_1 : Int, ∃ t3_1 : ByteArray, ∃ t4_1 : Int, ∃ t5_1 : Int, (h6.rds bv_1 (ov_1 + st.1.toNat * 6) 6 = some [.int .u8 t0_1, .int .u64 t1_1, .int .i64 t2_1, .string t3_1, .int .u8 t4_1, .int .i64 t5_1]) ∧
                    CallH Try.prog id_law01_read [.pointer xv, .agg #[.int .u8 t0, .int .u64 t1, .int .i64 t2, .string t3, .int .u8 t4, .int .i64 t5]] (fun v_5 h7 =>
                      ∃ t0_2 : Int, ∃ t1_2 : Int, ∃ t2_2 : Int, ∃ t3_2 : ByteArray, ∃ t4_2 : Int, ∃ t5_2 : Int, v_5 = .agg #[.int .u8 t0_2, .int .u64 t1_2, .int .i64 t2_2, .string t3_2, .int .u8 t4_2, .int .i64 t5_2] ∧
                      (h7.rds bv_1 (ov_1 + st.1.toNat * 6) 6 = some [.int .u8 t0_1, .int .u64 t1_1, .int .i64 t2_1, .string t3_1, .int .u8 t4_1, .int .i64 t5_1]) ∧
                      CallH Try.prog id_law01_bare [.agg #[.int .u8 t0_1, .int .u64 t1_1, .int .i64 t2_1, .string t3_1, .int .u8 t4_1, .int .i64 t5_1]] (fun v_6 h8 =>
                        ∃ t0_3 : Int, ∃ t1_3 : Int, ∃ t2_3 : Int, ∃ t3_3 : ByteArray, ∃ t4_3 : Int, ∃ t5_3 : Int, v_6 = .agg #[.int .u8 t0_3, .int .u64 t1_3, .int .i64 t2_3, .string t3_3, .int .u8 t4_3, .int .i64 t5_3] ∧
                        (((!((t0_2 == t0_3) && ((t1_2 == t1_3) && ((t2_2 == t2_3) && ((strEq t3_2 t3_3) && ((t4_2 == t4_3) && ((t5_2 == t5_3) && true))))))) = true →
                            K (.bool false) h8) ∧
                          ((!((t0_2 == t0_3) && ((t1_2 == t1_3) && ((t2_2 == t2_3) && ((strEq t3_2 t3_3) && ((t4_2 == t4_3) && ((t5_2 == t5_3) && true))))))) = false →
                            Jv ((IntKind.wrap .i64 (st.1 + (1 : Int))), ()) h8))) h7) h6) ∧
                  ((decide (st.1 < ((wN : Nat) : Int))) = false →
                    CallH Try.prog id_pack_In_End [.pointer xv] (fun v_7 h9 =>
                      ∃ t_4 : Int, v_7 = .int .i64 t_4 ∧
                      (((t_4 != (0 : Int)) = true →
                          K (.bool false) h9) ∧
                        ((t_4 != (0 : Int)) = false →
                          CallH Try.prog id_pack_Of [.string sv] (fun v_8 h10 =>
                            ∃ y : Option Addr, v_8 = .pointer y ∧
                            CallH Try.prog id_pack_Of [.string t] (fun v_9 h11 =>
                              ∃ z : Option Addr, v_9 = .pointer z ∧
                              LoopP (T := Int × Unit) (fun Jv_1 st_1 h12 =>
                                (((decide (st_1.1 < ((lN : Nat) : Int))) = true →
                                    ∃ bv_2 ov_2 : Nat, (lA = some ⟨bv_2, ov_2, none⟩ ∧ 0 ≤ st_1.1 ∧ st_1.1 < (lN : Nat)) ∧
                                    ∃ t0_4 : Int, ∃ t1_4 : Int, ∃ t2_4 : Int, ∃ t3_4 : ByteArray, ∃ t4_4 : Int, ∃ t5_4 : Int, (h12.rds bv_2 (ov_2 + st_1.1.toNat * 6) 6 = some [.int .u8 t0_4, .int .u64 t1_4, .int .i64 t2_4, .string t3_4, .int .u8 t4_4, .int .i64 t5_4]) ∧
                                    ∃ bv_3 ov_3 : Nat, (lA = some ⟨bv_3, ov_3, none⟩ ∧ 0 ≤ st_1.1 ∧ st_1.1 < (lN : Nat)) ∧
                                    ∃ t0_5 : Int, ∃ t1_5 : Int, ∃ t2_5 : Int, ∃ t3_5 : ByteArray, ∃ t4_5 : Int, ∃ t5_5 : Int, (h12.rds bv_3 (ov_3 + st_1.1.toNat * 6) 6 = some [.int .u8 t0_5, .int .u64 t1_5, .int .i64 t2_5, .string t3_5, .int .u8 t4_5, .int .i64 t5_5]) ∧
                                    CallH Try.prog id_law01_read [.pointer y, .agg #[.int .u8 t0_4, .int .u64 t1_4, .int .i64 t2_4, .string t3_4, .int .u8 t4_4, .int .i64 t5_4]] (fun v_10 h13 =>
                                      ∃ t0_6 : Int, ∃ t1_6 : Int, ∃ t2_6 : Int, ∃ t3_6 : ByteArray, ∃ t4_6 : Int, ∃ t5_6 : Int, v_10 = .agg #[.int .u8 t0_6, .int .u64 t1_6, .int .i64 t2_6, .string t3_6, .int .u8 t4_6, .int .i64 t5_6] ∧
                                      (h13.rds bv_3 (ov_3 + st_1.1.toNat * 6) 6 = some [.int .u8 t0_5, .int .u64 t1_5, .int .i64 t2_5, .string t3_5, .int .u8 t4_5, .int .i64 t5_5]) ∧
                                      CallH Try.prog id_law01_read [.pointer z, .agg #[.int .u8 t0_5, .int .u64 t1_5, .int .i64 t2_5, .string t3_5, .int .u8 t4_5, .int .i64 t5_5]] (fun v_11 h14 =>
                                        ∃ t0_7 : Int, ∃ t1_7 : Int, ∃ t2_7 : Int, ∃ t3_7 : ByteArray, ∃ t4_7 : Int, ∃ t5_7 : Int, v_11 = .agg #[.int .u8 t0_7, .int .u64 t1_7, .int .i64 t2_7, .string t3_7, .int .u8 t4_7, .int .i64 t5_7] ∧
                                        (((!((t0_6 == t0_7) && ((t1_6 == t1_7) && ((t2_6 == t2_7) && ((strEq t3_6 t3_7) && ((t4_6 == t4_7) && ((t5_6 == t5_7) && true))))))) = true →
                                            CallH Try.prog id_law01_wakes [] (fun v_12 h15 =>
                                              ∃ t_5 : Bool, v_12 = .bool t_5 ∧
                                              K (.bool t_5) h15) h14) ∧
                                          ((!((t0_6 == t0_7) && ((t1_6 == t1_7) && ((t2_6 == t2_7) && ((strEq t3_6 t3_7) && ((t4_6 == t4_7) && ((t5_6 == t5_7) && true))))))) = false →
                                            Jv_1 ((IntKind.wrap .i64 (st_1.1 + (1 : Int))), ()) h14))) h13) h12) ∧
                                  ((decide (st_1.1 < ((lN : Nat) : Int))) = false →
                                    CallH Try.prog id_pack_In_End [.pointer y] (fun v_13 h16 =>
                                      ∃ t_6 : Int, v_13 = .int .i64 t_6 ∧
                                      (((t_6 != (0 : Int)) = false →
                                          CallH Try.prog id_pack_In_End [.pointer z] (fun v_14 h17 =>
                                            ∃ t_7 : Int, v_14 = .int .i64 t_7 ∧
                                            ((((t_7 != (0 : Int)) || (strEq sv t)) = true →
                                                CallH Try.prog id_law01_wakes [] (fun v_15 h18 =>
                                                  ∃ t_8 : Bool, v_15 = .bool t_8 ∧
                                                  K (.bool t_8) h18) h17) ∧
                                              (((t_7 != (0 : Int)) || (strEq sv t)) = false →
                                                K (.bool false) h17))) h16) ∧
                                        ((t_6 != (0 : Int)) = true →
                                          CallH Try.prog id_law01_wakes [] (fun v_16 h19 =>
                                            ∃ t_9 : Bool, v_16 = .bool t_9 ∧
                                            K (.bool t_9) h19) h16))) h12))) ((0 : Int), ()) h11) h10) h9))) h6))) ((0 : Int), ()) h5) h4) h3) h1))) h
theorem F_law01_PackReturns_ok {lA : Option Addr} {lN lC : Nat} {sv : ByteArray} {t : ByteArray}  {K : Value → PH → Prop} {h : PH} (hh : F_law01_PackReturns lA lN lC sv t K h) : CallH Try.prog id_law01_PackReturns [.slice lA lN lC, .string sv, .string t] K h :=
  denF_sound Try.func8 (H := ⟨[], [(8, [0, 1, 2, 3, 4, 6, 7, 8, 9, 5, 10, 11]), (17, [0, 1, 2, 3, 4, 6, 7, 8, 9, 10, 5, 11, 12])], [(0, ⟨[(9, .int .i64)], [], []⟩), (2, ⟨[(12, .int .i64)], [], []⟩)], []⟩) (xs := [.v (.slice lA lN lC), .v (.string sv), .v (.string t)]) (by kernel_rfl) (by simp [okE0s, okE0, one1]) (cast (by kernel_rfl : F_law01_PackReturns lA lN lC sv t K h = denF Try.prog Try.f8 ⟨[], [(8, [0, 1, 2, 3, 4, 6, 7, 8, 9, 5, 10, 11]), (17, [0, 1, 2, 3, 4, 6, 7, 8, 9, 10, 5, 11, 12])], [(0, ⟨[(9, .int .i64)], [], []⟩), (2, ⟨[(12, .int .i64)], [], []⟩)], []⟩ [.v (.slice lA lN lC), .v (.string sv), .v (.string t)] K h) hh)

/- twinlock/twinlocklaw01.PackCuts -/
def F_law01_PackCuts (lA : Option Addr) (lN lC : Nat) (cut : Int) (K : Value → PH → Prop) (h : PH) : Prop :=
  CallH Try.prog id_law01_Great [.slice lA lN lC] (fun v h1 =>
    ∃ t : Bool, v = .bool t ∧
    ((t = true →
        CallH Try.prog id_law01_wakes [] (fun v_1 h2 =>
          ∃ t_1 : Bool, v_1 = .bool t_1 ∧
          K (.bool t_1) h2) h1) ∧
      (t = false →
        CallH Try.prog id_law01_written [.slice lA lN lC] (fun v_2 h3 =>
          ∃ (wA : Option Addr) (wN wC : Nat), v_2 = .slice wA wN wC ∧
          CallH Try.prog id_law01_bytes [.slice wA wN wC] (fun v_3 h4 =>
            ∃ sv : ByteArray, v_3 = .string sv ∧
            ((IntKind.wrap .i64 ((sv.size : Int) + (1 : Int))) ≠ 0) ∧
            JoinP (T := Int × Unit) (fun Jv =>
              (((decide ((cut.tmod (IntKind.wrap .i64 ((sv.size : Int) + (1 : Int)))) < (0 : Int))) = true →
                  Jv ((IntKind.wrap .i64 ((IntKind.wrap .i64 ((cut.tmod (IntKind.wrap .i64 ((sv.size : Int) + (1 : Int)))) + (sv.size : Int))) + (1 : Int))), ()) h4) ∧
                ((decide ((cut.tmod (IntKind.wrap .i64 ((sv.size : Int) + (1 : Int)))) < (0 : Int))) = false →
                  Jv ((cut.tmod (IntKind.wrap .i64 ((sv.size : Int) + (1 : Int)))), ()) h4)))
            (fun st h5 =>
              (0 ≤ (0 : Int) ∧ (0 : Int) ≤ st.1 ∧ st.1 ≤ (ByteArray.size sv : Nat)) ∧
              CallH Try.prog id_pack_Of [.string (subS sv (0 : Int) st.1)] (fun v_4 h6 =>
                ∃ xv : Option Addr, v_4 = .pointer xv ∧
                LoopP (T := Int × Int × Unit) (fun Jv_1 st_1 h7 =>
                  (((decide (st_1.2.1 < ((wN : Nat) : Int))) = true →
                      (0 ≤ st_1.2.1 ∧ st_1.2.1 ≤ (IntKind.wrap .i64 (st_1.2.1 + (1 : Int))) ∧ (IntKind.wrap .i64 (st_1.2.1 + (1 : Int))) ≤ ((wC : Nat) : Int) ∧ ((wC : Nat) : Int) ≤ (wC : Nat)) ∧
                      CallH Try.prog id_law01_bytes [.slice (slA wA 6 st_1.2.1 ((wC : Nat) : Int)) ((IntKind.wrap .i64 (st_1.2.1 + (1 : Int))).toNat - st_1.2.1.toNat) (((wC : Nat) : Int).toNat - st_1.2.1.toNat)] (fun v_5 h8 =>
                        ∃ t_2 : ByteArray, v_5 = .string t_2 ∧
                        ∃ bv ov : Nat, (wA = some ⟨bv, ov, none⟩ ∧ 0 ≤ st_1.2.1 ∧ st_1.2.1 < (wN : Nat)) ∧
                        ∃ t0 : Int, ∃ t1 : Int, ∃ t2 : Int, ∃ t3 : ByteArray, ∃ t4 : Int, ∃ t5 : Int, (h8.rds bv (ov + st_1.2.1.toNat * 6) 6 = some [.int .u8 t0, .int .u64 t1, .int .i64 t2, .string t3, .int .u8 t4, .int .i64 t5]) ∧
                        CallH Try.prog id_law01_read [.pointer xv, .agg #[.int .u8 t0, .int .u64 t1, .int .i64 t2, .string t3, .int .u8 t4, .int .i64 t5]] (fun v_6 h9 =>
                          ∃ a0 : Int, ∃ a1 : Int, ∃ a2 : Int, ∃ a3 : ByteArray, ∃ a4 : Int, ∃ a5 : Int, v_6 = .agg #[.int .u8 a0, .int .u64 a1, .int .i64 a2, .string a3, .int .u8 a4, .int .i64 a5] ∧
                          CallH Try.prog id_pack_In_Fault [.pointer xv] (fun v_7 h10 =>
                            ∃ t0_1 : Int, ∃ t1_1 : Int, v_7 = .tuple #[.int .i64 t0_1, .int .i64 t1_1] ∧
                            (((decide ((IntKind.wrap .i64 (st_1.1 + (t_2.size : Int))) ≤ st.1)) = true →
                                ∃ bv_1 ov_1 : Nat, (wA = some ⟨bv_1, ov_1, none⟩ ∧ 0 ≤ st_1.2.1 ∧ st_1.2.1 < (wN : Nat)) ∧
                                ∃ t0_2 : Int, ∃ t1_2 : Int, ∃ t2_1 : Int, ∃ t3_1 : ByteArray, ∃ t4_1 : Int, ∃ t5_1 : Int, (h10.rds bv_1 (ov_1 + st_1.2.1.toNat * 6) 6 = some [.int .u8 t0_2, .int .u64 t1_2, .int .i64 t2_1, .string t3_1, .int .u8 t4_1, .int .i64 t5_1]) ∧
                                CallH Try.prog id_law01_bare [.agg #[.int .u8 t0_2, .int .u64 t1_2, .int .i64 t2_1, .string t3_1, .int .u8 t4_1, .int .i64 t5_1]] (fun v_8 h11 =>
                                  ∃ t0_3 : Int, ∃ t1_3 : Int, ∃ t2_2 : Int, ∃ t3_2 : ByteArray, ∃ t4_2 : Int, ∃ t5_2 : Int, v_8 = .agg #[.int .u8 t0_3, .int .u64 t1_3, .int .i64 t2_2, .string t3_2, .int .u8 t4_2, .int .i64 t5_2] ∧
                                  ((((!((a0 == t0_3) && ((a1 == t1_3) && ((a2 == t2_2) && ((strEq a3 t3_2) && ((a4 == t4_2) && ((a5 == t5_2) && true))))))) || (t0_1 != (0 : Int))) = false →
                                      CallH Try.prog id_pack_In_Left [.pointer xv] (fun v_9 h12 =>
                                        ∃ t_3 : Int, v_9 = .int .i64 t_3 ∧
                                        (((t_3 != (IntKind.wrap .i64 (st.1 - (IntKind.wrap .i64 (st_1.1 + (t_2.size : Int)))))) = true →
                                            K (.bool false) h12) ∧
                                          ((t_3 != (IntKind.wrap .i64 (st.1 - (IntKind.wrap .i64 (st_1.1 + (t_2.size : Int)))))) = false →
                                            Jv_1 ((IntKind.wrap .i64 (st_1.1 + (t_2.size : Int))), (IntKind.wrap .i64 (st_1.2.1 + (1 : Int))), ()) h12))) h11) ∧
                                    (((!((a0 == t0_3) && ((a1 == t1_3) && ((a2 == t2_2) && ((strEq a3 t3_2) && ((a4 == t4_2) && ((a5 == t5_2) && true))))))) || (t0_1 != (0 : Int))) = true →
                                      K (.bool false) h11))) h10) ∧
                              ((decide ((IntKind.wrap .i64 (st_1.1 + (t_2.size : Int))) ≤ st.1)) = false →
                                JoinP (T := Unit) (fun Jv_2 =>
                                  (((((!((a0 == (0 : Int)) && ((a1 == (0 : Int)) && ((a2 == (0 : Int)) && ((strEq a3 (⟨#[]⟩ : ByteArray)) && ((a4 == (0 : Int)) && ((a5 == (0 : Int)) && true))))))) || (t0_1 != (7 : Int))) || (t1_1 != st_1.1)) = false →
                                      CallH Try.prog id_pack_In_Left [.pointer xv] (fun v_10 h14 =>
                                        ∃ t_4 : Int, v_10 = .int .i64 t_4 ∧
                                        (((t_4 != (IntKind.wrap .i64 (st.1 - st_1.1))) = true →
                                            K (.bool false) h14) ∧
                                          ((t_4 != (IntKind.wrap .i64 (st.1 - st_1.1))) = false →
                                            Jv_2 (()) h14))) h10) ∧
                                    ((((!((a0 == (0 : Int)) && ((a1 == (0 : Int)) && ((a2 == (0 : Int)) && ((strEq a3 (⟨#[]⟩ : ByteArray)) && ((a4 == (0 : Int)) && ((a5 == (0 : Int)) && true))))))) || (t0_1 != (7 : Int))) || (t1_1 != st_1.1)) = true →
                                      K (.bool false) h10)))
                                (fun _ h13 =>
                                  CallH Try.prog id_pack_In_Num [.pointer xv] (fun v_11 h15 =>
                                    ∃ t_5 : Int, v_11 = .int .u64 t_5 ∧
                                    (((t_5 == (0 : Int)) = true →
                                        CallH Try.prog id_pack_In_Int [.pointer xv] (fun v_12 h16 =>
                                          ∃ t_6 : Int, v_12 = .int .i64 t_6 ∧
                                          (((t_6 == (0 : Int)) = true →
                                              CallH Try.prog id_pack_In_Byte [.pointer xv] (fun v_13 h17 =>
                                                ∃ t_7 : Int, v_13 = .int .u8 t_7 ∧
                                                (((t_7 == (0 : Int)) = true →
                                                    CallH Try.prog id_pack_In_Text [.pointer xv, .int .i64 (9 : Int)] (fun v_14 h18 =>
                                                      ∃ t_8 : ByteArray, v_14 = .string t_8 ∧
                                                      (((strEq t_8 (⟨#[]⟩ : ByteArray)) = true →
                                                          CallH Try.prog id_pack_In_Most [.pointer xv, .int .i64 (9 : Int)] (fun v_15 h19 =>
                                                            ∃ t_9 : Int, v_15 = .int .i64 t_9 ∧
                                                            (((t_9 == (0 : Int)) = true →
                                                                CallH Try.prog id_pack_In_Left [.pointer xv] (fun v_16 h20 =>
                                                                  ∃ t_10 : Int, v_16 = .int .i64 t_10 ∧
                                                                  (((t_10 == (IntKind.wrap .i64 (st.1 - st_1.1))) = true →
                                                                      CallH Try.prog id_pack_In_End [.pointer xv] (fun v_17 h21 =>
                                                                        ∃ t_11 : Int, v_17 = .int .i64 t_11 ∧
                                                                        (((t_11 == (7 : Int)) = true →
                                                                            CallH Try.prog id_law01_wakes [] (fun v_18 h22 =>
                                                                              ∃ t_12 : Bool, v_18 = .bool t_12 ∧
                                                                              K (.bool t_12) h22) h21) ∧
                                                                          ((t_11 == (7 : Int)) = false →
                                                                            K (.bool false) h21))) h20) ∧
                                                                    ((t_10 == (IntKind.wrap .i64 (st.1 - st_1.1))) = false →
                                                                      K (.bool false) h20))) h19) ∧
                                                              ((t_9 == (0 : Int)) = false →
                                                                K (.bool false) h19))) h18) ∧
                                                        ((strEq t_8 (⟨#[]⟩ : ByteArray)) = false →
                                                          K (.bool false) h18))) h17) ∧
                                                  ((t_7 == (0 : Int)) = false →
                                                    K (.bool false) h17))) h16) ∧
                                            ((t_6 == (0 : Int)) = false →
                                              K (.bool false) h16))) h15) ∧
                                      ((t_5 == (0 : Int)) = false →
                                        K (.bool false) h15))) h13)))) h9) h8) h7) ∧
                    ((decide (st_1.2.1 < ((wN : Nat) : Int))) = false →
                      CallH Try.prog id_pack_In_End [.pointer xv] (fun v_19 h23 =>
                        ∃ t_13 : Int, v_19 = .int .i64 t_13 ∧
                        (((t_13 == (0 : Int)) = true →
                            CallH Try.prog id_law01_wakes [] (fun v_20 h24 =>
                              ∃ t_14 : Bool, v_20 = .bool t_14 ∧
                              K (.bool t_14) h24) h23) ∧
                          ((t_13 == (0 : Int)) = false →
                            K (.bool false) h23))) h7))) ((0 : Int), (0 : Int), ()) h6) h5)) h3) h1))) h
theorem F_law01_PackCuts_ok {lA : Option Addr} {lN lC : Nat} {cut : Int}  {K : Value → PH → Prop} {h : PH} (hh : F_law01_PackCuts lA lN lC cut K h) : CallH Try.prog id_law01_PackCuts [.slice lA lN lC, .int .i64 cut] K h :=
  denF_sound Try.func9 (H := ⟨[12], [(18, [0, 1, 2, 3, 4, 5, 6, 7, 8, 9, 10, 11, 12, 14, 15, 16, 13, 17, 18])], [(0, ⟨[(9, .int .i64), (10, .int .i64)], [], []⟩)], [(18, ⟨[(7, .int .i64)], [], []⟩), (46, ⟨[], [], []⟩)]⟩) (xs := [.v (.slice lA lN lC), .v (.int .i64 cut)]) (by kernel_rfl) (by simp [okE0s, okE0, one1]) (cast (by kernel_rfl : F_law01_PackCuts lA lN lC cut K h = denF Try.prog Try.f9 ⟨[12], [(18, [0, 1, 2, 3, 4, 5, 6, 7, 8, 9, 10, 11, 12, 14, 15, 16, 13, 17, 18])], [(0, ⟨[(9, .int .i64), (10, .int .i64)], [], []⟩)], [(18, ⟨[(7, .int .i64)], [], []⟩), (46, ⟨[], [], []⟩)]⟩ [.v (.slice lA lN lC), .v (.int .i64 cut)] K h) hh)

/- twinlock/twinlocklaw01.PackFollows -/
def F_law01_PackFollows (lA : Option Addr) (lN lC : Nat) (mA : Option Addr) (mN mC : Nat) (K : Value → PH → Prop) (h : PH) : Prop :=
  JoinP (T := Unit) (fun Jv =>
    CallH Try.prog id_law01_Great [.slice lA lN lC] (fun v h2 =>
      ∃ t : Bool, v = .bool t ∧
      ((t = false →
          CallH Try.prog id_law01_Great [.slice mA mN mC] (fun v_1 h3 =>
            ∃ t_1 : Bool, v_1 = .bool t_1 ∧
            ((t_1 = true →
                CallH Try.prog id_law01_wakes [] (fun v_2 h4 =>
                  ∃ t_2 : Bool, v_2 = .bool t_2 ∧
                  K (.bool t_2) h4) h3) ∧
              (t_1 = false →
                Jv (()) h3))) h2) ∧
        (t = true →
          CallH Try.prog id_law01_wakes [] (fun v_3 h5 =>
            ∃ t_3 : Bool, v_3 = .bool t_3 ∧
            K (.bool t_3) h5) h2))) h)
  (fun _ h1 =>
    CallH Try.prog id_law01_written [.slice lA lN lC] (fun v_4 h6 =>
      ∃ (aA : Option Addr) (aN aC : Nat), v_4 = .slice aA aN aC ∧
      CallH Try.prog id_law01_written [.slice mA mN mC] (fun v_5 h7 =>
        ∃ (bA : Option Addr) (bN bC : Nat), v_5 = .slice bA bN bC ∧
        newH h7 (.cells #[.slice none 0 0] T_pack_Out (0, 0)) fun bv h8 =>
        CallH Try.prog id_law01_writes [.pointer (some ⟨bv, 0, none⟩), .slice aA aN aC] (fun _ h9 =>
          CallH Try.prog id_pack_Out_String [.pointer (some ⟨bv, 0, none⟩)] (fun v_7 h10 =>
            ∃ sv : ByteArray, v_7 = .string sv ∧
            CallH Try.prog id_law01_writes [.pointer (some ⟨bv, 0, none⟩), .slice bA bN bC] (fun _ h11 =>
              JoinP (T := Unit) (fun Jv_1 =>
                CallH Try.prog id_law01_bytes [.slice aA aN aC] (fun v_9 h13 =>
                  ∃ t_4 : ByteArray, v_9 = .string t_4 ∧
                  (((!(strEq sv t_4)) = false →
                      CallH Try.prog id_pack_Out_String [.pointer (some ⟨bv, 0, none⟩)] (fun v_10 h14 =>
                        ∃ t_5 : ByteArray, v_10 = .string t_5 ∧
                        CallH Try.prog id_law01_bytes [.slice bA bN bC] (fun v_11 h15 =>
                          ∃ t_6 : ByteArray, v_11 = .string t_6 ∧
                          (((ByteArray.size sv + ByteArray.size t_6 : Nat) : Int) ≤ 9223372036854775807) ∧
                          (((!(strEq t_5 (sv ++ t_6))) = true →
                              K (.bool false) h15) ∧
                            ((!(strEq t_5 (sv ++ t_6))) = false →
                              Jv_1 (()) h15))) h14) h13) ∧
                    ((!(strEq sv t_4)) = true →
                      K (.bool false) h13))) h11)
              (fun _ h12 =>
                CallH Try.prog id_pack_Out_String [.pointer (some ⟨bv, 0, none⟩)] (fun v_12 h16 =>
                  ∃ t_7 : ByteArray, v_12 = .string t_7 ∧
                  CallH Try.prog id_pack_Of [.string t_7] (fun v_13 h17 =>
                    ∃ xv : Option Addr, v_13 = .pointer xv ∧
                    LoopP (T := Int × Unit) (fun Jv_2 st_2 h18 =>
                      (((decide (st_2.1 < ((aN : Nat) : Int))) = true →
                          ∃ bv_1 ov : Nat, (aA = some ⟨bv_1, ov, none⟩ ∧ 0 ≤ st_2.1 ∧ st_2.1 < (aN : Nat)) ∧
                          ∃ t0 : Int, ∃ t1 : Int, ∃ t2 : Int, ∃ t3 : ByteArray, ∃ t4 : Int, ∃ t5 : Int, (h18.rds bv_1 (ov + st_2.1.toNat * 6) 6 = some [.int .u8 t0, .int .u64 t1, .int .i64 t2, .string t3, .int .u8 t4, .int .i64 t5]) ∧
                          CallH Try.prog id_law01_read [.pointer xv, .agg #[.int .u8 t0, .int .u64 t1, .int .i64 t2, .string t3, .int .u8 t4, .int .i64 t5]] (fun v_14 h19 =>
                            ∃ t0_1 : Int, ∃ t1_1 : Int, ∃ t2_1 : Int, ∃ t3_1 : ByteArray, ∃ t4_1 : Int, ∃ t5_1 : Int, v_14 = .agg #[.int .u8 t0_1, .int .u64 t1_1, .int .i64 t2_1, .string t3_1, .int .u8 t4_1, .int .i64 t5_1] ∧
                            Jv_2 ((IntKind.wrap .i64 (st_2.1 + (1 : Int))), ()) h19) h18) ∧
                        ((decide (st_2.1 < ((aN : Nat) : Int))) = false →
                          CallH Try.prog id_pack_In_Fault [.pointer xv] (fun v_15 h20 =>
                            ∃ t0_2 : Int, ∃ t1_2 : Int, v_15 = .tuple #[.int .i64 t0_2, .int .i64 t1_2] ∧
                            JoinP (T := Unit) (fun Jv_3 =>
                              (((t0_2 != (0 : Int)) = false →
                                  CallH Try.prog id_pack_In_Left [.pointer xv] (fun v_16 h22 =>
                                    ∃ t_8 : Int, v_16 = .int .i64 t_8 ∧
                                    CallH Try.prog id_law01_bytes [.slice bA bN bC] (fun v_17 h23 =>
                                      ∃ t_9 : ByteArray, v_17 = .string t_9 ∧
                                      (((t_8 != (t_9.size : Int)) = true →
                                          K (.bool false) h23) ∧
                                        ((t_8 != (t_9.size : Int)) = false →
                                          Jv_3 (()) h23))) h22) h20) ∧
                                ((t0_2 != (0 : Int)) = true →
                                  K (.bool false) h20)))
                            (fun _ h21 =>
                              LoopP (T := Int × Unit) (fun Jv_4 st_4 h24 =>
                                (((decide (st_4.1 < ((bN : Nat) : Int))) = true →
                                    ∃ bv_2 ov_1 : Nat, (bA = some ⟨bv_2, ov_1, none⟩ ∧ 0 ≤ st_4.1 ∧ st_4.1 < (bN : Nat)) ∧
                                    ∃ t0_3 : Int, ∃ t1_3 : Int, ∃ t2_2 : Int, ∃ t3_2 : ByteArray, ∃ t4_2 : Int, ∃ t5_2 : Int, (h24.rds bv_2 (ov_1 + st_4.1.toNat * 6) 6 = some [.int .u8 t0_3, .int .u64 t1_3, .int .i64 t2_2, .string t3_2, .int .u8 t4_2, .int .i64 t5_2]) ∧
                                    ∃ bv_3 ov_2 : Nat, (bA = some ⟨bv_3, ov_2, none⟩ ∧ 0 ≤ st_4.1 ∧ st_4.1 < (bN : Nat)) ∧
                                    ∃ t0_4 : Int, ∃ t1_4 : Int, ∃ t2_3 : Int, ∃ t3_3 : ByteArray, ∃ t4_3 : Int, ∃ t5_3 : Int, (h24.rds bv_3 (ov_2 + st_4.1.toNat * 6) 6 = some [.int .u8 t0_4, .int .u64 t1_4, .int .i64 t2_3, .string t3_3, .int .u8 t4_3, .int .i64 t5_3]) ∧
                                    CallH Try.prog id_law01_read [.pointer xv, .agg #[.int .u8 t0_3, .int .u64 t1_3, .int .i64 t2_2, .string t3_2, .int .u8 t4_2, .int .i64 t5_2]] (fun v_18 h25 =>
                                      ∃ t0_5 : Int, ∃ t1_5 : Int, ∃ t2_4 : Int, ∃ t3_4 : ByteArray, ∃ t4_4 : Int, ∃ t5_4 : Int, v_18 = .agg #[.int .u8 t0_5, .int .u64 t1_5, .int .i64 t2_4, .string t3_4, .int .u8 t4_4, .int .i64 t5_4] ∧
                                      (h25.rds bv_3 (ov_2 + st_4.1.toNat * 6) 6 = some [.int .u8 t0_4, .int .u64 t1_4, .int .i64 t2_3, .string t3_3, .int .u8 t4_3, .int .i64 t5_3]) ∧
                                      CallH Try.prog id_law01_bare [.agg #[.int .u8 t0_4, .int .u64 t1_4, .int .i64 t2_3, .string t3_3, .int .u8 t4_3, .int .i64 t5_3]] (fun v_19 h26 =>
                                        ∃ t0_6 : Int, ∃ t1_6 : Int, ∃ t2_5 : Int, ∃ t3_5 : ByteArray, ∃ t4_5 : Int, ∃ t5_5 : Int, v_19 = .agg #[.int .u8 t0_6, .int .u64 t1_6, .int .i64 t2_5, .string t3_5, .int .u8 t4_5, .int .i64 t5_5] ∧
                                        (((!((t0_5 == t0_6) && ((t1_5 == t1_6) && ((t2_4 == t2_5) && ((strEq t3_4 t3_5) && ((t4_4 == t4_5) && ((t5_4 == t5_5) && true))))))) = true →
                                            K (.bool false) h26) ∧
                                          ((!((t0_5 == t0_6) && ((t1_5 == t1_6) && ((t2_4 == t2_5) && ((strEq t3_4 t3_5) && ((t4_4 == t4_5) && ((t5_4 == t5_5) && true))))))) = false →
                                            Jv_4 ((IntKind.wrap .i64 (st_4.1 + (1 : Int))), ()) h26))) h25) h24) ∧
                                  ((decide (st_4.1 < ((bN : Nat) : Int))) = false →
                                    CallH Try.prog id_pack_In_End [.pointer xv] (fun v_20 h27 =>
                                      ∃ t_10 : Int, v_20 = .int .i64 t_10 ∧
                                      (((t_10 == (0 : Int)) = true →
                                          CallH Try.prog id_law01_wakes [] (fun v_21 h28 =>
                                            ∃ t_11 : Bool, v_21 = .bool t_11 ∧
                                            K (.bool t_11) h28) h27) ∧
                                        ((t_10 == (0 : Int)) = false →
                                          K (.bool false) h27))) h24))) ((0 : Int), ()) h21)) h18))) ((0 : Int), ()) h17) h16) h12)) h10) h9) h8) h6) h1)
theorem F_law01_PackFollows_ok {lA : Option Addr} {lN lC : Nat} {mA : Option Addr} {mN mC : Nat}  {K : Value → PH → Prop} {h : PH} (hh : F_law01_PackFollows lA lN lC mA mN mC K h) : CallH Try.prog id_law01_PackFollows [.slice lA lN lC, .slice mA mN mC] K h :=
  denF_sound Try.func10 (H := ⟨[], [(22, [0, 1, 2, 3, 4, 6, 7, 8, 9, 5, 10, 11])], [(0, ⟨[(10, .int .i64)], [], []⟩), (2, ⟨[(13, .int .i64)], [], []⟩)], [(8, ⟨[], [], []⟩), (24, ⟨[], [], []⟩), (40, ⟨[], [], []⟩)]⟩) (xs := [.v (.slice lA lN lC), .v (.slice mA mN mC)]) (by kernel_rfl) (by simp [okE0s, okE0, one1]) (cast (by kernel_rfl : F_law01_PackFollows lA lN lC mA mN mC K h = denF Try.prog Try.f10 ⟨[], [(22, [0, 1, 2, 3, 4, 6, 7, 8, 9, 5, 10, 11])], [(0, ⟨[(10, .int .i64)], [], []⟩), (2, ⟨[(13, .int .i64)], [], []⟩)], [(8, ⟨[], [], []⟩), (24, ⟨[], [], []⟩), (40, ⟨[], [], []⟩)]⟩ [.v (.slice lA lN lC), .v (.slice mA mN mC)] K h) hh)

/- twinlock/twinlocklaw01.Great -/
def F_law01_Great (lA : Option Addr) (lN _ : Nat) (K : Value → PH → Prop) (h : PH) : Prop :=
  (((decide (((lN : Nat) : Int) > (200 : Int))) = true →
      K (.bool true) h) ∧
    ((decide (((lN : Nat) : Int) > (200 : Int))) = false →
      LoopP (T := Int × Int × Unit) (fun Jv st h1 =>
        (((decide (st.2.1 < ((lN : Nat) : Int))) = true →
            ∃ bv ov : Nat, (lA = some ⟨bv, ov, none⟩ ∧ 0 ≤ st.2.1 ∧ st.2.1 < (lN : Nat)) ∧
            ∃ t : ByteArray, (h1.rds bv ((ov + st.2.1.toNat * 6) + 3) 1 = some [.string t]) ∧
            (((decide ((t.size : Int) > (30000 : Int))) = true →
                K (.bool true) h1) ∧
              ((decide ((t.size : Int) > (30000 : Int))) = false →
                ∃ bv_1 ov_1 : Nat, (lA = some ⟨bv_1, ov_1, none⟩ ∧ 0 ≤ st.2.1 ∧ st.2.1 < (lN : Nat)) ∧
                ∃ t_1 : ByteArray, (h1.rds bv_1 ((ov_1 + st.2.1.toNat * 6) + 3) 1 = some [.string t_1]) ∧
                Jv ((IntKind.wrap .i64 (st.1 + (t_1.size : Int))), (IntKind.wrap .i64 (st.2.1 + (1 : Int))), ()) h1))) ∧
          ((decide (st.2.1 < ((lN : Nat) : Int))) = false →
            K (.bool (decide (st.1 > (30000 : Int)))) h1))) ((0 : Int), (0 : Int), ()) h))
theorem F_law01_Great_ok {lA : Option Addr} {lN lC : Nat}  {K : Value → PH → Prop} {h : PH} (hh : F_law01_Great lA lN lC K h) : CallH Try.prog id_law01_Great [.slice lA lN lC] K h :=
  denF_sound Try.func11 (H := ⟨[], [], [(0, ⟨[(3, .int .i64), (4, .int .i64)], [], []⟩)], []⟩) (xs := [.v (.slice lA lN lC)]) (by kernel_rfl) (by simp [okE0s, okE0, one1]) (cast (by kernel_rfl : F_law01_Great lA lN lC K h = denF Try.prog Try.f11 ⟨[], [], [(0, ⟨[(3, .int .i64), (4, .int .i64)], [], []⟩)], []⟩ [.v (.slice lA lN lC)] K h) hh)

/- twinlock/twinlocklaw01.wakes -/
def F_law01_wakes  (K : Value → PH → Prop) (h : PH) : Prop :=
  newH h (.cells #[.slice none 0 0] T_pack_Out (0, 0)) fun bv h1 =>
  CallH Try.prog id_pack_Out_Num [.pointer (some ⟨bv, 0, none⟩), .int .u64 (128 : Int)] (fun _ h2 =>
    CallH Try.prog id_pack_Out_Int [.pointer (some ⟨bv, 0, none⟩), .int .i64 (-65 : Int)] (fun _ h3 =>
      CallH Try.prog id_pack_Out_Text [.pointer (some ⟨bv, 0, none⟩), .string (⟨#[97, 98]⟩ : ByteArray)] (fun _ h4 =>
        CallH Try.prog id_pack_Out_String [.pointer (some ⟨bv, 0, none⟩)] (fun v_3 h5 =>
          ∃ t : ByteArray, v_3 = .string t ∧
          CallH Try.prog id_pack_Of [.string t] (fun v_4 h6 =>
            ∃ xv : Option Addr, v_4 = .pointer xv ∧
            CallH Try.prog id_pack_In_Num [.pointer xv] (fun v_5 h7 =>
              ∃ n : Int, v_5 = .int .u64 n ∧
              CallH Try.prog id_pack_In_Int [.pointer xv] (fun v_6 h8 =>
                ∃ i : Int, v_6 = .int .i64 i ∧
                CallH Try.prog id_pack_In_Text [.pointer xv, .int .i64 (2 : Int)] (fun v_7 h9 =>
                  ∃ sv : ByteArray, v_7 = .string sv ∧
                  CallH Try.prog id_pack_Out_String [.pointer (some ⟨bv, 0, none⟩)] (fun v_8 h10 =>
                    ∃ t_1 : ByteArray, v_8 = .string t_1 ∧
                    ((((((strEq t_1 (⟨#[128, 1, 129, 1, 2, 97, 98]⟩ : ByteArray)) && (n == (128 : Int))) && (i == (-65 : Int))) && (strEq sv (⟨#[97, 98]⟩ : ByteArray))) = true →
                        CallH Try.prog id_pack_In_End [.pointer xv] (fun v_9 h11 =>
                          ∃ t_2 : Int, v_9 = .int .i64 t_2 ∧
                          K (.bool (t_2 == (0 : Int))) h11) h10) ∧
                      (((((strEq t_1 (⟨#[128, 1, 129, 1, 2, 97, 98]⟩ : ByteArray)) && (n == (128 : Int))) && (i == (-65 : Int))) && (strEq sv (⟨#[97, 98]⟩ : ByteArray))) = false →
                        K (.bool false) h10))) h9) h8) h7) h6) h5) h4) h3) h2) h1
theorem F_law01_wakes_ok   {K : Value → PH → Prop} {h : PH} (hh : F_law01_wakes  K h) : CallH Try.prog id_law01_wakes [] K h :=
  denF_sound Try.func12 (H := ⟨[], [], [], []⟩) (xs := []) (by kernel_rfl) (by simp [okE0s]) (cast (by kernel_rfl : F_law01_wakes  K h = denF Try.prog Try.f12 ⟨[], [], [], []⟩ [] K h) hh)

/- twinlock/twinlocklaw01.writes -/
def F_law01_writes (ov : Option Addr) (lA : Option Addr) (lN _ : Nat) (K : Value → PH → Prop) (h : PH) : Prop :=
  LoopP (T := Int × Unit) (fun Jv st h1 =>
    (((decide (st.1 < ((lN : Nat) : Int))) = true →
        ∃ bv ov_1 : Nat, (lA = some ⟨bv, ov_1, none⟩ ∧ 0 ≤ st.1 ∧ st.1 < (lN : Nat)) ∧
        ∃ t : Int, (h1.rds bv (ov_1 + st.1.toNat * 6) 1 = some [.int .u8 t]) ∧
        (((t == (0 : Int)) = true →
            ∃ bv_1 ov_2 : Nat, (lA = some ⟨bv_1, ov_2, none⟩ ∧ 0 ≤ st.1 ∧ st.1 < (lN : Nat)) ∧
            ∃ t_1 : Int, (h1.rds bv_1 ((ov_2 + st.1.toNat * 6) + 1) 1 = some [.int .u64 t_1]) ∧
            CallH Try.prog id_pack_Out_Num [.pointer ov, .int .u64 t_1] (fun _ h2 =>
              Jv ((IntKind.wrap .i64 (st.1 + (1 : Int))), ()) h2) h1) ∧
          ((t == (0 : Int)) = false →
            (((t == (1 : Int)) = true →
                ∃ bv_2 ov_3 : Nat, (lA = some ⟨bv_2, ov_3, none⟩ ∧ 0 ≤ st.1 ∧ st.1 < (lN : Nat)) ∧
                ∃ t_2 : Int, (h1.rds bv_2 ((ov_3 + st.1.toNat * 6) + 2) 1 = some [.int .i64 t_2]) ∧
                CallH Try.prog id_pack_Out_Int [.pointer ov, .int .i64 t_2] (fun _ h3 =>
                  Jv ((IntKind.wrap .i64 (st.1 + (1 : Int))), ()) h3) h1) ∧
              ((t == (1 : Int)) = false →
                (((t == (2 : Int)) = true →
                    ∃ bv_3 ov_4 : Nat, (lA = some ⟨bv_3, ov_4, none⟩ ∧ 0 ≤ st.1 ∧ st.1 < (lN : Nat)) ∧
                    ∃ t_3 : ByteArray, (h1.rds bv_3 ((ov_4 + st.1.toNat * 6) + 3) 1 = some [.string t_3]) ∧
                    CallH Try.prog id_pack_Out_Text [.pointer ov, .string t_3] (fun _ h4 =>
                      Jv ((IntKind.wrap .i64 (st.1 + (1 : Int))), ()) h4) h1) ∧
                  ((t == (2 : Int)) = false →
                    (((t == (3 : Int)) = true →
                        ∃ bv_4 ov_5 : Nat, (lA = some ⟨bv_4, ov_5, none⟩ ∧ 0 ≤ st.1 ∧ st.1 < (lN : Nat)) ∧
                        ∃ t_4 : Int, (h1.rds bv_4 ((ov_5 + st.1.toNat * 6) + 4) 1 = some [.int .u8 t_4]) ∧
                        CallH Try.prog id_pack_Out_Byte [.pointer ov, .int .u8 t_4] (fun _ h5 =>
                          Jv ((IntKind.wrap .i64 (st.1 + (1 : Int))), ()) h5) h1) ∧
                      ((t == (3 : Int)) = false →
                        Jv ((IntKind.wrap .i64 (st.1 + (1 : Int))), ()) h1))))))))) ∧
      ((decide (st.1 < ((lN : Nat) : Int))) = false →
        K (.tuple #[]) h1))) ((0 : Int), ()) h
theorem F_law01_writes_ok {ov : Option Addr} {lA : Option Addr} {lN lC : Nat}  {K : Value → PH → Prop} {h : PH} (hh : F_law01_writes ov lA lN lC K h) : CallH Try.prog id_law01_writes [.pointer ov, .slice lA lN lC] K h :=
  denF_sound Try.func13 (H := ⟨[], [], [(0, ⟨[(4, .int .i64)], [], []⟩)], []⟩) (xs := [.v (.pointer ov), .v (.slice lA lN lC)]) (by kernel_rfl) (by simp [okE0s, okE0, one1]) (cast (by kernel_rfl : F_law01_writes ov lA lN lC K h = denF Try.prog Try.f13 ⟨[], [], [(0, ⟨[(4, .int .i64)], [], []⟩)], []⟩ [.v (.pointer ov), .v (.slice lA lN lC)] K h) hh)

/- twinlock/twinlockref01.Num -/
def F_ref01_Num (n : Int) (K : Value → PH → Prop) (h : PH) : Prop :=
  LoopP (T := ByteArray × Int × Unit) (fun Jv st h1 =>
    (((decide (st.2.1 > (127 : Int))) = true →
        newH h1 (.cells #[.int .u8 (IntKind.wrap .u8 (IntKind.wrap .u64 ((128 : Int) + (st.2.1.tmod (128 : Int)))))] 5 (0, 0)) fun bv h2 =>
        ∃ t : ByteArray, strH h2 (some ⟨bv, 0, none⟩ : Option Addr) 1 t ∧
        (((ByteArray.size st.1 + ByteArray.size t : Nat) : Int) ≤ 9223372036854775807) ∧
        Jv ((st.1 ++ t), (IntKind.wrap .u64 (st.2.1.tdiv (128 : Int))), ()) h2) ∧
      ((decide (st.2.1 > (127 : Int))) = false →
        newH h1 (.cells #[.int .u8 (IntKind.wrap .u8 st.2.1)] 5 (0, 0)) fun bv_1 h3 =>
        ∃ t_1 : ByteArray, strH h3 (some ⟨bv_1, 0, none⟩ : Option Addr) 1 t_1 ∧
        (((ByteArray.size st.1 + ByteArray.size t_1 : Nat) : Int) ≤ 9223372036854775807) ∧
        K (.string (st.1 ++ t_1)) h3))) ((⟨#[]⟩ : ByteArray), n, ()) h
theorem F_ref01_Num_ok {n : Int}  {K : Value → PH → Prop} {h : PH} (hh : F_ref01_Num n K h) : CallH Try.prog id_ref01_Num [.int .u64 n] K h :=
  denF_sound Try.func14 (H := ⟨[], [], [(0, ⟨[(3, .str), (0, .int .u64)], [], []⟩)], []⟩) (xs := [.v (.int .u64 n)]) (by kernel_rfl) (by simp [okE0s, okE0, one1]) (cast (by kernel_rfl : F_ref01_Num n K h = denF Try.prog Try.f14 ⟨[], [], [(0, ⟨[(3, .str), (0, .int .u64)], [], []⟩)], []⟩ [.v (.int .u64 n)] K h) hh)

/- twinlock/twinlockref01.Zig -/
def F_ref01_Zig (n : Int) (K : Value → PH → Prop) (h : PH) : Prop :=
  (((decide (n < (0 : Int))) = true →
      K (.int .u64 (IntKind.wrap .u64 ((IntKind.wrap .u64 ((2 : Int) * (IntKind.wrap .u64 (IntKind.wrap .i64 (0 - (IntKind.wrap .i64 (n + (1 : Int)))))))) + (1 : Int)))) h) ∧
    ((decide (n < (0 : Int))) = false →
      K (.int .u64 (IntKind.wrap .u64 ((2 : Int) * (IntKind.wrap .u64 n)))) h))
theorem F_ref01_Zig_ok {n : Int}  {K : Value → PH → Prop} {h : PH} (hh : F_ref01_Zig n K h) : CallH Try.prog id_ref01_Zig [.int .i64 n] K h :=
  denF_sound Try.func15 (H := ⟨[], [], [], []⟩) (xs := [.v (.int .i64 n)]) (by kernel_rfl) (by simp [okE0s, okE0, one1]) (cast (by kernel_rfl : F_ref01_Zig n K h = denF Try.prog Try.f15 ⟨[], [], [], []⟩ [.v (.int .i64 n)] K h) hh)

/- twinlock/twinlockref01.Text -/
def F_ref01_Text (sv : ByteArray) (K : Value → PH → Prop) (h : PH) : Prop :=
  CallH Try.prog id_ref01_Num [.int .u64 (IntKind.wrap .u64 (sv.size : Int))] (fun v h1 =>
    ∃ t : ByteArray, v = .string t ∧
    (((ByteArray.size t + ByteArray.size sv : Nat) : Int) ≤ 9223372036854775807) ∧
    K (.string (t ++ sv)) h1) h
theorem F_ref01_Text_ok {sv : ByteArray}  {K : Value → PH → Prop} {h : PH} (hh : F_ref01_Text sv K h) : CallH Try.prog id_ref01_Text [.string sv] K h :=
  denF_sound Try.func16 (H := ⟨[], [], [], []⟩) (xs := [.v (.string sv)]) (by kernel_rfl) (by simp [okE0s, okE0, one1]) (cast (by kernel_rfl : F_ref01_Text sv K h = denF Try.prog Try.f16 ⟨[], [], [], []⟩ [.v (.string sv)] K h) hh)

/- (*twinlock/pack.Out).String -/
def F_pack_Out_String (ov : Option Addr) (K : Value → PH → Prop) (h : PH) : Prop :=
  (((Option.isNone ov) = true →
      K (.string (⟨#[]⟩ : ByteArray)) h) ∧
    ((Option.isNone ov) = false →
      ∃ bv ov_1 : Nat, ov = some ⟨bv, ov_1, none⟩ ∧
      ∃ (tA : Option Addr) (tN tC : Nat), (h.rds bv ov_1 1 = some [.slice tA tN tC]) ∧
      ∃ t : ByteArray, strH h tA tN t ∧
      K (.string t) h))
theorem F_pack_Out_String_ok {ov : Option Addr}  {K : Value → PH → Prop} {h : PH} (hh : F_pack_Out_String ov K h) : CallH Try.prog id_pack_Out_String [.pointer ov] K h :=
  denF_sound Try.func17 (H := ⟨[], [], [], []⟩) (xs := [.v (.pointer ov)]) (by kernel_rfl) (by simp [okE0s, okE0, one1]) (cast (by kernel_rfl : F_pack_Out_String ov K h = denF Try.prog Try.f17 ⟨[], [], [], []⟩ [.v (.pointer ov)] K h) hh)

/- twinlock/twinlocklaw01.bytes -/
def F_law01_bytes (lA : Option Addr) (lN lC : Nat) (K : Value → PH → Prop) (h : PH) : Prop :=
  newH h (.cells #[.slice none 0 0] T_pack_Out (0, 0)) fun bv h1 =>
  CallH Try.prog id_law01_writes [.pointer (some ⟨bv, 0, none⟩), .slice lA lN lC] (fun _ h2 =>
    CallH Try.prog id_pack_Out_String [.pointer (some ⟨bv, 0, none⟩)] (fun v_1 h3 =>
      ∃ t : ByteArray, v_1 = .string t ∧
      K (.string t) h3) h2) h1
theorem F_law01_bytes_ok {lA : Option Addr} {lN lC : Nat}  {K : Value → PH → Prop} {h : PH} (hh : F_law01_bytes lA lN lC K h) : CallH Try.prog id_law01_bytes [.slice lA lN lC] K h :=
  denF_sound Try.func18 (H := ⟨[], [], [], []⟩) (xs := [.v (.slice lA lN lC)]) (by kernel_rfl) (by simp [okE0s, okE0, one1]) (cast (by kernel_rfl : F_law01_bytes lA lN lC K h = denF Try.prog Try.f18 ⟨[], [], [], []⟩ [.v (.slice lA lN lC)] K h) hh)

/- twinlock/pack.Of -/
def F_pack_Of (sv : ByteArray) (K : Value → PH → Prop) (h : PH) : Prop :=
  newH h (.cells #[.string sv, .int .i64 (0 : Int), .int .i64 (0 : Int)] T_pack_In (0, 0)) fun bv h1 =>
  K (.pointer (some ⟨bv, 0, none⟩)) h1
theorem F_pack_Of_ok {sv : ByteArray}  {K : Value → PH → Prop} {h : PH} (hh : F_pack_Of sv K h) : CallH Try.prog id_pack_Of [.string sv] K h :=
  denF_sound Try.func19 (H := ⟨[], [], [], []⟩) (xs := [.v (.string sv)]) (by kernel_rfl) (by simp [okE0s, okE0, one1]) (cast (by kernel_rfl : F_pack_Of sv K h = denF Try.prog Try.f19 ⟨[], [], [], []⟩ [.v (.string sv)] K h) hh)

/- (*twinlock/pack.In).Num -/
def F_pack_In_Num (xv : Option Addr) (K : Value → PH → Prop) (h : PH) : Prop :=
  CallH Try.prog id_pack_In_reads [.pointer xv] (fun v h1 =>
    ∃ t : Bool, v = .bool t ∧
    ((t = true →
        ∃ bv ov : Nat, xv = some ⟨bv, ov, none⟩ ∧
        ∃ t_1 : ByteArray, (h1.rds bv ov 1 = some [.string t_1]) ∧
        CallH Try.prog id_pack_number [.string t_1] (fun v_1 h2 =>
          ∃ t0 : Int, ∃ t1 : Int, ∃ t2 : Int, v_1 = .tuple #[.int .u64 t0, .int .i64 t1, .int .i64 t2] ∧
          CallH Try.prog id_pack_In_takes [.pointer xv, .int .i64 t1, .int .i64 t2] (fun v_2 h3 =>
            ∃ t_2 : Bool, v_2 = .bool t_2 ∧
            ((t_2 = true →
                K (.int .u64 t0) h3) ∧
              (t_2 = false →
                K (.int .u64 (0 : Int)) h3))) h2) h1) ∧
      (t = false →
        K (.int .u64 (0 : Int)) h1))) h
theorem F_pack_In_Num_ok {xv : Option Addr}  {K : Value → PH → Prop} {h : PH} (hh : F_pack_In_Num xv K h) : CallH Try.prog id_pack_In_Num [.pointer xv] K h :=
  denF_sound Try.func20 (H := ⟨[], [], [], []⟩) (xs := [.v (.pointer xv)]) (by kernel_rfl) (by simp [okE0s, okE0, one1]) (cast (by kernel_rfl : F_pack_In_Num xv K h = denF Try.prog Try.f20 ⟨[], [], [], []⟩ [.v (.pointer xv)] K h) hh)

/- (*twinlock/pack.In).Fault -/
def F_pack_In_Fault (xv : Option Addr) (K : Value → PH → Prop) (h : PH) : Prop :=
  CallH Try.prog id_pack_In_reads [.pointer xv] (fun v h1 =>
    ∃ t : Bool, v = .bool t ∧
    (((t || (Option.isNone xv)) = true →
        K (.tuple #[.int .i64 (0 : Int), .int .i64 (0 : Int)]) h1) ∧
      ((t || (Option.isNone xv)) = false →
        ∃ bv ov : Nat, xv = some ⟨bv, ov, none⟩ ∧
        ∃ t_1 : Int, (h1.rds bv (ov + 2) 1 = some [.int .i64 t_1]) ∧
        ∃ bv_1 ov_1 : Nat, xv = some ⟨bv_1, ov_1, none⟩ ∧
        ∃ t_2 : Int, (h1.rds bv_1 (ov_1 + 1) 1 = some [.int .i64 t_2]) ∧
        K (.tuple #[.int .i64 t_1, .int .i64 t_2]) h1))) h
theorem F_pack_In_Fault_ok {xv : Option Addr}  {K : Value → PH → Prop} {h : PH} (hh : F_pack_In_Fault xv K h) : CallH Try.prog id_pack_In_Fault [.pointer xv] K h :=
  denF_sound Try.func21 (H := ⟨[], [], [], []⟩) (xs := [.v (.pointer xv)]) (by kernel_rfl) (by simp [okE0s, okE0, one1]) (cast (by kernel_rfl : F_pack_In_Fault xv K h = denF Try.prog Try.f21 ⟨[], [], [], []⟩ [.v (.pointer xv)] K h) hh)

/- (*twinlock/pack.In).Most -/
def F_pack_In_Most (xv : Option Addr) (most : Int) (K : Value → PH → Prop) (h : PH) : Prop :=
  CallH Try.prog id_pack_In_reads [.pointer xv] (fun v h1 =>
    ∃ t : Bool, v = .bool t ∧
    ((t = true →
        ∃ bv ov : Nat, xv = some ⟨bv, ov, none⟩ ∧
        ∃ t_1 : ByteArray, (h1.rds bv ov 1 = some [.string t_1]) ∧
        CallH Try.prog id_pack_bounded [.string t_1, .int .i64 most] (fun v_1 h2 =>
          ∃ t0 : Int, ∃ t1 : Int, ∃ t2 : Int, v_1 = .tuple #[.int .i64 t0, .int .i64 t1, .int .i64 t2] ∧
          CallH Try.prog id_pack_In_takes [.pointer xv, .int .i64 t1, .int .i64 t2] (fun v_2 h3 =>
            ∃ t_2 : Bool, v_2 = .bool t_2 ∧
            ((t_2 = true →
                K (.int .i64 t0) h3) ∧
              (t_2 = false →
                K (.int .i64 (0 : Int)) h3))) h2) h1) ∧
      (t = false →
        K (.int .i64 (0 : Int)) h1))) h
theorem F_pack_In_Most_ok {xv : Option Addr} {most : Int}  {K : Value → PH → Prop} {h : PH} (hh : F_pack_In_Most xv most K h) : CallH Try.prog id_pack_In_Most [.pointer xv, .int .i64 most] K h :=
  denF_sound Try.func22 (H := ⟨[], [], [], []⟩) (xs := [.v (.pointer xv), .v (.int .i64 most)]) (by kernel_rfl) (by simp [okE0s, okE0, one1]) (cast (by kernel_rfl : F_pack_In_Most xv most K h = denF Try.prog Try.f22 ⟨[], [], [], []⟩ [.v (.pointer xv), .v (.int .i64 most)] K h) hh)

/- (*twinlock/pack.In).Text -/
def F_pack_In_Text (xv : Option Addr) (most : Int) (K : Value → PH → Prop) (h : PH) : Prop :=
  CallH Try.prog id_pack_In_reads [.pointer xv] (fun v h1 =>
    ∃ t : Bool, v = .bool t ∧
    (((!t) = true →
        K (.string (⟨#[]⟩ : ByteArray)) h1) ∧
      ((!t) = false →
        ∃ bv ov : Nat, xv = some ⟨bv, ov, none⟩ ∧
        ∃ t_1 : ByteArray, (h1.rds bv ov 1 = some [.string t_1]) ∧
        CallH Try.prog id_pack_bounded [.string t_1, .int .i64 most] (fun v_1 h2 =>
          ∃ t0 : Int, ∃ t1 : Int, ∃ t2 : Int, v_1 = .tuple #[.int .i64 t0, .int .i64 t1, .int .i64 t2] ∧
          JoinP (T := Int × Unit) (fun Jv =>
            ∃ bv_1 ov_1 : Nat, ((t2 == (0 : Int)) = true → xv = some ⟨bv_1, ov_1, none⟩) ∧
            ∃ t_2 : ByteArray, (((t2 == (0 : Int)) = true → h2.rds bv_1 ov_1 1 = some [.string t_2])) ∧
            ((((t2 == (0 : Int)) && (decide (t0 > (IntKind.wrap .i64 ((t_2.size : Int) - t1))))) = true →
                Jv ((7 : Int), ()) h2) ∧
              (((t2 == (0 : Int)) && (decide (t0 > (IntKind.wrap .i64 ((t_2.size : Int) - t1))))) = false →
                Jv (t2, ()) h2)))
          (fun st h3 =>
            ∃ bv_2 ov_2 : Nat, xv = some ⟨bv_2, ov_2, none⟩ ∧
            ∃ text : ByteArray, (h3.rds bv_2 ov_2 1 = some [.string text]) ∧
            CallH Try.prog id_pack_In_takes [.pointer xv, .int .i64 (IntKind.wrap .i64 (t1 + t0)), .int .i64 st.1] (fun v_2 h4 =>
              ∃ t_3 : Bool, v_2 = .bool t_3 ∧
              (((!t_3) = true →
                  K (.string (⟨#[]⟩ : ByteArray)) h4) ∧
                ((!t_3) = false →
                  (0 ≤ t1 ∧ t1 ≤ (IntKind.wrap .i64 (t1 + t0)) ∧ (IntKind.wrap .i64 (t1 + t0)) ≤ (ByteArray.size text : Nat)) ∧
                  K (.string (subS text t1 (IntKind.wrap .i64 (t1 + t0)))) h4))) h3)) h1))) h
theorem F_pack_In_Text_ok {xv : Option Addr} {most : Int}  {K : Value → PH → Prop} {h : PH} (hh : F_pack_In_Text xv most K h) : CallH Try.prog id_pack_In_Text [.pointer xv, .int .i64 most] K h :=
  denF_sound Try.func23 (H := ⟨[], [], [], [(14, ⟨[(7, .int .i64)], [], []⟩)]⟩) (xs := [.v (.pointer xv), .v (.int .i64 most)]) (by kernel_rfl) (by simp [okE0s, okE0, one1]) (cast (by kernel_rfl : F_pack_In_Text xv most K h = denF Try.prog Try.f23 ⟨[], [], [], [(14, ⟨[(7, .int .i64)], [], []⟩)]⟩ [.v (.pointer xv), .v (.int .i64 most)] K h) hh)

/- (*twinlock/pack.In).Left -/
def F_pack_In_Left (xv : Option Addr) (K : Value → PH → Prop) (h : PH) : Prop :=
  (((Option.isNone xv) = true →
      K (.int .i64 (0 : Int)) h) ∧
    ((Option.isNone xv) = false →
      ∃ bv ov : Nat, xv = some ⟨bv, ov, none⟩ ∧
      ∃ t : ByteArray, (h.rds bv ov 1 = some [.string t]) ∧
      K (.int .i64 (t.size : Int)) h))
theorem F_pack_In_Left_ok {xv : Option Addr}  {K : Value → PH → Prop} {h : PH} (hh : F_pack_In_Left xv K h) : CallH Try.prog id_pack_In_Left [.pointer xv] K h :=
  denF_sound Try.func24 (H := ⟨[], [], [], []⟩) (xs := [.v (.pointer xv)]) (by kernel_rfl) (by simp [okE0s, okE0, one1]) (cast (by kernel_rfl : F_pack_In_Left xv K h = denF Try.prog Try.f24 ⟨[], [], [], []⟩ [.v (.pointer xv)] K h) hh)

/- twinlock/twinlocklaw01.read -/
def F_law01_read (xv : Option Addr) (a0 : Int) (_ : Int) (_ : Int) (_ : ByteArray) (_ : Int) (a5 : Int) (K : Value → PH → Prop) (h : PH) : Prop :=
  (((a0 == (0 : Int)) = true →
      CallH Try.prog id_pack_In_Num [.pointer xv] (fun v h1 =>
        ∃ t : Int, v = .int .u64 t ∧
        K (.agg #[.int .u8 (0 : Int), .int .u64 t, .int .i64 (0 : Int), .string (⟨#[]⟩ : ByteArray), .int .u8 (0 : Int), .int .i64 (0 : Int)]) h1) h) ∧
    ((a0 == (0 : Int)) = false →
      (((a0 == (1 : Int)) = true →
          CallH Try.prog id_pack_In_Int [.pointer xv] (fun v_1 h2 =>
            ∃ t_1 : Int, v_1 = .int .i64 t_1 ∧
            K (.agg #[.int .u8 (0 : Int), .int .u64 (0 : Int), .int .i64 t_1, .string (⟨#[]⟩ : ByteArray), .int .u8 (0 : Int), .int .i64 (0 : Int)]) h2) h) ∧
        ((a0 == (1 : Int)) = false →
          (((a0 == (2 : Int)) = true →
              CallH Try.prog id_pack_In_Text [.pointer xv, .int .i64 a5] (fun v_2 h3 =>
                ∃ t_2 : ByteArray, v_2 = .string t_2 ∧
                K (.agg #[.int .u8 (0 : Int), .int .u64 (0 : Int), .int .i64 (0 : Int), .string t_2, .int .u8 (0 : Int), .int .i64 (0 : Int)]) h3) h) ∧
            ((a0 == (2 : Int)) = false →
              (((a0 == (3 : Int)) = true →
                  CallH Try.prog id_pack_In_Byte [.pointer xv] (fun v_3 h4 =>
                    ∃ t_3 : Int, v_3 = .int .u8 t_3 ∧
                    K (.agg #[.int .u8 (0 : Int), .int .u64 (0 : Int), .int .i64 (0 : Int), .string (⟨#[]⟩ : ByteArray), .int .u8 t_3, .int .i64 (0 : Int)]) h4) h) ∧
                ((a0 == (3 : Int)) = false →
                  CallH Try.prog id_pack_In_Most [.pointer xv, .int .i64 a5] (fun v_4 h5 =>
                    ∃ t_4 : Int, v_4 = .int .i64 t_4 ∧
                    K (.agg #[.int .u8 (0 : Int), .int .u64 (IntKind.wrap .u64 t_4), .int .i64 (0 : Int), .string (⟨#[]⟩ : ByteArray), .int .u8 (0 : Int), .int .i64 (0 : Int)]) h5) h))))))))
theorem F_law01_read_ok {xv : Option Addr} {a0 : Int} {a1 : Int} {a2 : Int} {a3 : ByteArray} {a4 : Int} {a5 : Int}  {K : Value → PH → Prop} {h : PH} (hh : F_law01_read xv a0 a1 a2 a3 a4 a5 K h) : CallH Try.prog id_law01_read [.pointer xv, .agg #[.int .u8 a0, .int .u64 a1, .int .i64 a2, .string a3, .int .u8 a4, .int .i64 a5]] K h :=
  denF_sound Try.func25 (H := ⟨[3, 4], [], [], []⟩) (xs := [.v (.pointer xv), .agg [.one (.int .u8 a0), .one (.int .u64 a1), .one (.int .i64 a2), .one (.string a3), .one (.int .u8 a4), .one (.int .i64 a5)]]) (by kernel_rfl) (by simp [okE0s, okE0, chOk, one1]) (cast (by kernel_rfl : F_law01_read xv a0 a1 a2 a3 a4 a5 K h = denF Try.prog Try.f25 ⟨[3, 4], [], [], []⟩ [.v (.pointer xv), .agg [.one (.int .u8 a0), .one (.int .u64 a1), .one (.int .i64 a2), .one (.string a3), .one (.int .u8 a4), .one (.int .i64 a5)]] K h) hh)

/- twinlock/twinlocklaw01.told -/
def F_law01_told (w : Option Addr) (a0 : Int) (_ : Int) (_ : Int) (_ : ByteArray) (_ : Int) (a5 : Int) (K : Value → PH → Prop) (h : PH) : Prop :=
  (((a0 == (0 : Int)) = true →
      CallH Try.prog id_ref01_In_Num [.pointer w] (fun v h1 =>
        ∃ t : Int, v = .int .u64 t ∧
        K (.agg #[.int .u8 (0 : Int), .int .u64 t, .int .i64 (0 : Int), .string (⟨#[]⟩ : ByteArray), .int .u8 (0 : Int), .int .i64 (0 : Int)]) h1) h) ∧
    ((a0 == (0 : Int)) = false →
      (((a0 == (1 : Int)) = true →
          CallH Try.prog id_ref01_In_Num [.pointer w] (fun v_1 h2 =>
            ∃ t_1 : Int, v_1 = .int .u64 t_1 ∧
            CallH Try.prog id_ref01_Zag [.int .u64 t_1] (fun v_2 h3 =>
              ∃ t_2 : Int, v_2 = .int .i64 t_2 ∧
              K (.agg #[.int .u8 (0 : Int), .int .u64 (0 : Int), .int .i64 t_2, .string (⟨#[]⟩ : ByteArray), .int .u8 (0 : Int), .int .i64 (0 : Int)]) h3) h2) h) ∧
        ((a0 == (1 : Int)) = false →
          (((a0 == (2 : Int)) = true →
              CallH Try.prog id_ref01_In_Text [.pointer w, .int .i64 a5] (fun v_3 h4 =>
                ∃ t_3 : ByteArray, v_3 = .string t_3 ∧
                K (.agg #[.int .u8 (0 : Int), .int .u64 (0 : Int), .int .i64 (0 : Int), .string t_3, .int .u8 (0 : Int), .int .i64 (0 : Int)]) h4) h) ∧
            ((a0 == (2 : Int)) = false →
              (((a0 == (3 : Int)) = true →
                  CallH Try.prog id_ref01_In_Byte [.pointer w] (fun v_4 h5 =>
                    ∃ t_4 : Int, v_4 = .int .u8 t_4 ∧
                    K (.agg #[.int .u8 (0 : Int), .int .u64 (0 : Int), .int .i64 (0 : Int), .string (⟨#[]⟩ : ByteArray), .int .u8 t_4, .int .i64 (0 : Int)]) h5) h) ∧
                ((a0 == (3 : Int)) = false →
                  CallH Try.prog id_ref01_In_Most [.pointer w, .int .i64 a5] (fun v_5 h6 =>
                    ∃ t_5 : Int, v_5 = .int .i64 t_5 ∧
                    K (.agg #[.int .u8 (0 : Int), .int .u64 (IntKind.wrap .u64 t_5), .int .i64 (0 : Int), .string (⟨#[]⟩ : ByteArray), .int .u8 (0 : Int), .int .i64 (0 : Int)]) h6) h))))))))
theorem F_law01_told_ok {w : Option Addr} {a0 : Int} {a1 : Int} {a2 : Int} {a3 : ByteArray} {a4 : Int} {a5 : Int}  {K : Value → PH → Prop} {h : PH} (hh : F_law01_told w a0 a1 a2 a3 a4 a5 K h) : CallH Try.prog id_law01_told [.pointer w, .agg #[.int .u8 a0, .int .u64 a1, .int .i64 a2, .string a3, .int .u8 a4, .int .i64 a5]] K h :=
  denF_sound Try.func26 (H := ⟨[3, 4], [], [], []⟩) (xs := [.v (.pointer w), .agg [.one (.int .u8 a0), .one (.int .u64 a1), .one (.int .i64 a2), .one (.string a3), .one (.int .u8 a4), .one (.int .i64 a5)]]) (by kernel_rfl) (by simp [okE0s, okE0, chOk, one1]) (cast (by kernel_rfl : F_law01_told w a0 a1 a2 a3 a4 a5 K h = denF Try.prog Try.f26 ⟨[3, 4], [], [], []⟩ [.v (.pointer w), .agg [.one (.int .u8 a0), .one (.int .u64 a1), .one (.int .i64 a2), .one (.string a3), .one (.int .u8 a4), .one (.int .i64 a5)]] K h) hh)

/- (*twinlock/pack.In).End -/
def F_pack_In_End (xv : Option Addr) (K : Value → PH → Prop) (h : PH) : Prop :=
  CallH Try.prog id_pack_In_Fault [.pointer xv] (fun v h1 =>
    ∃ t0 : Int, ∃ t1 : Int, v = .tuple #[.int .i64 t0, .int .i64 t1] ∧
    (((t0 == (0 : Int)) = true →
        CallH Try.prog id_pack_In_Left [.pointer xv] (fun v_1 h2 =>
          ∃ t : Int, v_1 = .int .i64 t ∧
          (((decide (t > (0 : Int))) = true →
              K (.int .i64 (8 : Int)) h2) ∧
            ((decide (t > (0 : Int))) = false →
              K (.int .i64 t0) h2))) h1) ∧
      ((t0 == (0 : Int)) = false →
        K (.int .i64 t0) h1))) h
theorem F_pack_In_End_ok {xv : Option Addr}  {K : Value → PH → Prop} {h : PH} (hh : F_pack_In_End xv K h) : CallH Try.prog id_pack_In_End [.pointer xv] K h :=
  denF_sound Try.func27 (H := ⟨[], [], [], []⟩) (xs := [.v (.pointer xv)]) (by kernel_rfl) (by simp [okE0s, okE0, one1]) (cast (by kernel_rfl : F_pack_In_End xv K h = denF Try.prog Try.f27 ⟨[], [], [], []⟩ [.v (.pointer xv)] K h) hh)

/- (*twinlock/pack.In).Byte -/
def F_pack_In_Byte (xv : Option Addr) (K : Value → PH → Prop) (h : PH) : Prop :=
  CallH Try.prog id_pack_In_reads [.pointer xv] (fun v h1 =>
    ∃ t : Bool, v = .bool t ∧
    (((!t) = true →
        K (.int .u8 (0 : Int)) h1) ∧
      ((!t) = false →
        ∃ bv ov : Nat, xv = some ⟨bv, ov, none⟩ ∧
        ∃ t_1 : ByteArray, (h1.rds bv ov 1 = some [.string t_1]) ∧
        (((strEq t_1 (⟨#[]⟩ : ByteArray)) = true →
            ∃ bv_1 ov_1 : Nat, xv = some ⟨bv_1, ov_1, none⟩ ∧
            stH h1 bv_1 (ov_1 + 2) [.int .i64 (7 : Int)] fun h2 =>
            K (.int .u8 (0 : Int)) h2) ∧
          ((strEq t_1 (⟨#[]⟩ : ByteArray)) = false →
            ∃ bv_2 ov_2 : Nat, xv = some ⟨bv_2, ov_2, none⟩ ∧
            ∃ t_2 : ByteArray, (h1.rds bv_2 ov_2 1 = some [.string t_2]) ∧
            (0 ≤ (0 : Int) ∧ (0 : Int) < (ByteArray.size t_2 : Nat)) ∧
            CallH Try.prog id_pack_In_takes [.pointer xv, .int .i64 (1 : Int), .int .i64 (0 : Int)] (fun v_1 h3 =>
              ∃ t_3 : Bool, v_1 = .bool t_3 ∧
              K (.int .u8 (byteAt t_2 (0 : Int))) h3) h1))))) h
theorem F_pack_In_Byte_ok {xv : Option Addr}  {K : Value → PH → Prop} {h : PH} (hh : F_pack_In_Byte xv K h) : CallH Try.prog id_pack_In_Byte [.pointer xv] K h :=
  denF_sound Try.func28 (H := ⟨[], [], [], []⟩) (xs := [.v (.pointer xv)]) (by kernel_rfl) (by simp [okE0s, okE0, one1]) (cast (by kernel_rfl : F_pack_In_Byte xv K h = denF Try.prog Try.f28 ⟨[], [], [], []⟩ [.v (.pointer xv)] K h) hh)

/- (*twinlock/pack.In).Int -/
def F_pack_In_Int (xv : Option Addr) (K : Value → PH → Prop) (h : PH) : Prop :=
  CallH Try.prog id_pack_In_Num [.pointer xv] (fun v h1 =>
    ∃ n : Int, v = .int .u64 n ∧
    ((((n.tmod (2 : Int)) == (1 : Int)) = true →
        K (.int .i64 (IntKind.wrap .i64 (bitsV .xor .u64 (IntKind.max .u64) (IntKind.wrap .u64 (n.tdiv (2 : Int)))))) h1) ∧
      (((n.tmod (2 : Int)) == (1 : Int)) = false →
        K (.int .i64 (IntKind.wrap .i64 (IntKind.wrap .u64 (n.tdiv (2 : Int))))) h1))) h
theorem F_pack_In_Int_ok {xv : Option Addr}  {K : Value → PH → Prop} {h : PH} (hh : F_pack_In_Int xv K h) : CallH Try.prog id_pack_In_Int [.pointer xv] K h :=
  denF_sound Try.func29 (H := ⟨[], [], [], []⟩) (xs := [.v (.pointer xv)]) (by kernel_rfl) (by simp [okE0s, okE0, one1]) (cast (by kernel_rfl : F_pack_In_Int xv K h = denF Try.prog Try.f29 ⟨[], [], [], []⟩ [.v (.pointer xv)] K h) hh)

/- twinlock/twinlocklaw01.written -/
def F_law01_written (lA : Option Addr) (lN _ : Nat) (K : Value → PH → Prop) (h : PH) : Prop :=
  LoopP (T := (Option Addr × Nat × Nat) × Int × Unit) (fun Jv st h1 =>
    (((decide (st.2.1 < ((lN : Nat) : Int))) = true →
        ∃ bv ov : Nat, (lA = some ⟨bv, ov, none⟩ ∧ 0 ≤ st.2.1 ∧ st.2.1 < (lN : Nat)) ∧
        ∃ t : Int, (h1.rds bv (ov + st.2.1.toNat * 6) 1 = some [.int .u8 t]) ∧
        (((decide (t < (4 : Int))) = true →
            ∃ bv_1 ov_1 : Nat, (lA = some ⟨bv_1, ov_1, none⟩ ∧ 0 ≤ st.2.1 ∧ st.2.1 < (lN : Nat)) ∧
            ∃ a0 : Int, ∃ a1 : Int, ∃ a2 : Int, ∃ a3 : ByteArray, ∃ a4 : Int, ∃ a5 : Int, (h1.rds bv_1 (ov_1 + st.2.1.toNat * 6) 6 = some [.int .u8 a0, .int .u64 a1, .int .i64 a2, .string a3, .int .u8 a4, .int .i64 a5]) ∧
            appH T_law01_Item 6 56 [.int .u8 (0 : Int), .int .u64 (0 : Int), .int .i64 (0 : Int), .string (⟨#[]⟩ : ByteArray), .int .u8 (0 : Int), .int .i64 (0 : Int)] st.1.1 st.1.2.1 st.1.2.2 1 [.int .u8 a0, .int .u64 a1, .int .i64 a2, .string a3, .int .u8 a4, .int .i64 (a3.size : Int)] (fun outA outN outC h2 =>
              Jv ((outA, outN, outC), (IntKind.wrap .i64 (st.2.1 + (1 : Int))), ()) h2) h1) ∧
          ((decide (t < (4 : Int))) = false →
            Jv ((st.1.1, st.1.2.1, st.1.2.2), (IntKind.wrap .i64 (st.2.1 + (1 : Int))), ()) h1))) ∧
      ((decide (st.2.1 < ((lN : Nat) : Int))) = false →
        K (.slice st.1.1 st.1.2.1 st.1.2.2) h1))) ((none, 0, 0), (0 : Int), ()) h
theorem F_law01_written_ok {lA : Option Addr} {lN lC : Nat}  {K : Value → PH → Prop} {h : PH} (hh : F_law01_written lA lN lC K h) : CallH Try.prog id_law01_written [.slice lA lN lC] K h :=
  denF_sound Try.func30 (H := ⟨[5, 28], [], [(0, ⟨[(3, .slice), (4, .int .i64)], [], []⟩)], []⟩) (xs := [.v (.slice lA lN lC)]) (by kernel_rfl) (by simp [okE0s, okE0, one1]) (cast (by kernel_rfl : F_law01_written lA lN lC K h = denF Try.prog Try.f30 ⟨[5, 28], [], [(0, ⟨[(3, .slice), (4, .int .i64)], [], []⟩)], []⟩ [.v (.slice lA lN lC)] K h) hh)

/- twinlock/twinlocklaw01.bare -/
def F_law01_bare (a0 : Int) (a1 : Int) (a2 : Int) (a3 : ByteArray) (a4 : Int) (_ : Int) (K : Value → PH → Prop) (h : PH) : Prop :=
  (((a0 == (0 : Int)) = true →
      K (.agg #[.int .u8 (0 : Int), .int .u64 a1, .int .i64 (0 : Int), .string (⟨#[]⟩ : ByteArray), .int .u8 (0 : Int), .int .i64 (0 : Int)]) h) ∧
    ((a0 == (0 : Int)) = false →
      (((a0 == (1 : Int)) = true →
          K (.agg #[.int .u8 (0 : Int), .int .u64 (0 : Int), .int .i64 a2, .string (⟨#[]⟩ : ByteArray), .int .u8 (0 : Int), .int .i64 (0 : Int)]) h) ∧
        ((a0 == (1 : Int)) = false →
          (((a0 == (2 : Int)) = true →
              K (.agg #[.int .u8 (0 : Int), .int .u64 (0 : Int), .int .i64 (0 : Int), .string a3, .int .u8 (0 : Int), .int .i64 (0 : Int)]) h) ∧
            ((a0 == (2 : Int)) = false →
              (((a0 == (3 : Int)) = true →
                  K (.agg #[.int .u8 (0 : Int), .int .u64 (0 : Int), .int .i64 (0 : Int), .string (⟨#[]⟩ : ByteArray), .int .u8 a4, .int .i64 (0 : Int)]) h) ∧
                ((a0 == (3 : Int)) = false →
                  K (.agg #[.int .u8 (0 : Int), .int .u64 (0 : Int), .int .i64 (0 : Int), .string (⟨#[]⟩ : ByteArray), .int .u8 (0 : Int), .int .i64 (0 : Int)]) h))))))))
theorem F_law01_bare_ok {a0 : Int} {a1 : Int} {a2 : Int} {a3 : ByteArray} {a4 : Int} {a5 : Int}  {K : Value → PH → Prop} {h : PH} (hh : F_law01_bare a0 a1 a2 a3 a4 a5 K h) : CallH Try.prog id_law01_bare [.agg #[.int .u8 a0, .int .u64 a1, .int .i64 a2, .string a3, .int .u8 a4, .int .i64 a5]] K h :=
  denF_sound Try.func31 (H := ⟨[1, 2], [], [], []⟩) (xs := [.agg [.one (.int .u8 a0), .one (.int .u64 a1), .one (.int .i64 a2), .one (.string a3), .one (.int .u8 a4), .one (.int .i64 a5)]]) (by kernel_rfl) (by simp [okE0s, okE0, chOk, one1]) (cast (by kernel_rfl : F_law01_bare a0 a1 a2 a3 a4 a5 K h = denF Try.prog Try.f31 ⟨[1, 2], [], [], []⟩ [.agg [.one (.int .u8 a0), .one (.int .u64 a1), .one (.int .i64 a2), .one (.string a3), .one (.int .u8 a4), .one (.int .i64 a5)]] K h) hh)

/- (*twinlock/pack.Out).Num -/
def F_pack_Out_Num (ov : Option Addr) (n : Int) (K : Value → PH → Prop) (h : PH) : Prop :=
  CallH Try.prog id_pack_size [.int .u64 n] (fun v h1 =>
    ∃ leftv : Int, v = .int .i64 leftv ∧
    LoopP (T := Int × Int × Unit) (fun Jv st h2 =>
      (((decide (st.2.1 > (1 : Int))) = true →
          newH h2 (.cells #[.int .u8 (bitsV .or .u8 (IntKind.wrap .u8 st.1) (128 : Int))] 5 (0, 0)) fun bv h3 =>
          CallH Try.prog id_pack_Out_put [.pointer ov, .slice (some ⟨bv, 0, none⟩) 1 1] (fun _ h4 =>
            Jv ((shrV .u64 st.1 (7 : Int)), (IntKind.wrap .i64 (st.2.1 - (1 : Int))), ()) h4) h3) ∧
        ((decide (st.2.1 > (1 : Int))) = false →
          newH h2 (.cells #[.int .u8 (IntKind.wrap .u8 st.1)] 5 (0, 0)) fun bv_1 h5 =>
          CallH Try.prog id_pack_Out_put [.pointer ov, .slice (some ⟨bv_1, 0, none⟩) 1 1] (fun _ h6 =>
            K (.tuple #[]) h6) h5))) (n, leftv, ()) h1) h
theorem F_pack_Out_Num_ok {ov : Option Addr} {n : Int}  {K : Value → PH → Prop} {h : PH} (hh : F_pack_Out_Num ov n K h) : CallH Try.prog id_pack_Out_Num [.pointer ov, .int .u64 n] K h :=
  denF_sound Try.func32 (H := ⟨[], [], [(0, ⟨[(1, .int .u64), (4, .int .i64)], [], []⟩)], []⟩) (xs := [.v (.pointer ov), .v (.int .u64 n)]) (by kernel_rfl) (by simp [okE0s, okE0, one1]) (cast (by kernel_rfl : F_pack_Out_Num ov n K h = denF Try.prog Try.f32 ⟨[], [], [(0, ⟨[(1, .int .u64), (4, .int .i64)], [], []⟩)], []⟩ [.v (.pointer ov), .v (.int .u64 n)] K h) hh)

/- (*twinlock/pack.Out).Int -/
def F_pack_Out_Int (ov : Option Addr) (n : Int) (K : Value → PH → Prop) (h : PH) : Prop :=
  (((decide (n < (0 : Int))) = true →
      CallH Try.prog id_pack_Out_Num [.pointer ov, .int .u64 (IntKind.wrap .u64 ((IntKind.wrap .u64 ((2 : Int) * (bitsV .xor .u64 (IntKind.max .u64) (IntKind.wrap .u64 n)))) + (1 : Int)))] (fun _ h1 =>
        K (.tuple #[]) h1) h) ∧
    ((decide (n < (0 : Int))) = false →
      CallH Try.prog id_pack_Out_Num [.pointer ov, .int .u64 (IntKind.wrap .u64 ((2 : Int) * (IntKind.wrap .u64 n)))] (fun _ h2 =>
        K (.tuple #[]) h2) h))
theorem F_pack_Out_Int_ok {ov : Option Addr} {n : Int}  {K : Value → PH → Prop} {h : PH} (hh : F_pack_Out_Int ov n K h) : CallH Try.prog id_pack_Out_Int [.pointer ov, .int .i64 n] K h :=
  denF_sound Try.func33 (H := ⟨[], [], [], []⟩) (xs := [.v (.pointer ov), .v (.int .i64 n)]) (by kernel_rfl) (by simp [okE0s, okE0, one1]) (cast (by kernel_rfl : F_pack_Out_Int ov n K h = denF Try.prog Try.f33 ⟨[], [], [], []⟩ [.v (.pointer ov), .v (.int .i64 n)] K h) hh)

/- (*twinlock/pack.Out).Text -/
def F_pack_Out_Text (ov : Option Addr) (sv : ByteArray) (K : Value → PH → Prop) (h : PH) : Prop :=
  CallH Try.prog id_pack_Out_Num [.pointer ov, .int .u64 (IntKind.wrap .u64 (sv.size : Int))] (fun _ h1 =>
    ∀ cap : Nat, ByteArray.size sv ≤ cap → newH h1 (.cells (byteVs sv ++ List.replicate (cap - ByteArray.size sv) (Value.int .u8 0)).toArray 5 (cap, cap + 1)) fun bv h2 =>
    CallH Try.prog id_pack_Out_put [.pointer ov, .slice (some ⟨bv, 0, none⟩) (ByteArray.size sv) cap] (fun _ h3 =>
      K (.tuple #[]) h3) h2) h
theorem F_pack_Out_Text_ok {ov : Option Addr} {sv : ByteArray}  {K : Value → PH → Prop} {h : PH} (hh : F_pack_Out_Text ov sv K h) : CallH Try.prog id_pack_Out_Text [.pointer ov, .string sv] K h :=
  denF_sound Try.func34 (H := ⟨[], [], [], []⟩) (xs := [.v (.pointer ov), .v (.string sv)]) (by kernel_rfl) (by simp [okE0s, okE0, one1]) (cast (by kernel_rfl : F_pack_Out_Text ov sv K h = denF Try.prog Try.f34 ⟨[], [], [], []⟩ [.v (.pointer ov), .v (.string sv)] K h) hh)

/- (*twinlock/pack.Out).Byte -/
def F_pack_Out_Byte (ov : Option Addr) (bv : Int) (K : Value → PH → Prop) (h : PH) : Prop :=
  newH h (.cells #[.int .u8 bv] 5 (0, 0)) fun bv_1 h1 =>
  CallH Try.prog id_pack_Out_put [.pointer ov, .slice (some ⟨bv_1, 0, none⟩) 1 1] (fun _ h2 =>
    K (.tuple #[]) h2) h1
theorem F_pack_Out_Byte_ok {ov : Option Addr} {bv : Int}  {K : Value → PH → Prop} {h : PH} (hh : F_pack_Out_Byte ov bv K h) : CallH Try.prog id_pack_Out_Byte [.pointer ov, .int .u8 bv] K h :=
  denF_sound Try.func35 (H := ⟨[], [], [], []⟩) (xs := [.v (.pointer ov), .v (.int .u8 bv)]) (by kernel_rfl) (by simp [okE0s, okE0, one1]) (cast (by kernel_rfl : F_pack_Out_Byte ov bv K h = denF Try.prog Try.f35 ⟨[], [], [], []⟩ [.v (.pointer ov), .v (.int .u8 bv)] K h) hh)

/- (*twinlock/pack.In).reads -/
def F_pack_In_reads (xv : Option Addr) (K : Value → PH → Prop) (h : PH) : Prop :=
  ∃ bv ov : Nat, ((!(Option.isNone xv)) = true → xv = some ⟨bv, ov, none⟩) ∧
  ∃ t : Int, (((!(Option.isNone xv)) = true → h.rds bv (ov + 2) 1 = some [.int .i64 t])) ∧
  K (.bool ((!(Option.isNone xv)) && (t == (0 : Int)))) h
theorem F_pack_In_reads_ok {xv : Option Addr}  {K : Value → PH → Prop} {h : PH} (hh : F_pack_In_reads xv K h) : CallH Try.prog id_pack_In_reads [.pointer xv] K h :=
  denF_sound Try.func36 (H := ⟨[], [], [], []⟩) (xs := [.v (.pointer xv)]) (by kernel_rfl) (by simp [okE0s, okE0, one1]) (cast (by kernel_rfl : F_pack_In_reads xv K h = denF Try.prog Try.f36 ⟨[], [], [], []⟩ [.v (.pointer xv)] K h) hh)

/- twinlock/pack.number -/
def F_pack_number (sv : ByteArray) (K : Value → PH → Prop) (h : PH) : Prop :=
  LoopP (T := Int × Unit) (fun Jv st h1 =>
    (((decide (st.1 < (minV (sv.size : Int) (10 : Int)))) = true → 0 ≤ st.1 ∧ st.1 < (ByteArray.size sv : Nat))) ∧
    ((((decide (st.1 < (minV (sv.size : Int) (10 : Int)))) && (decide ((byteAt sv st.1) ≥ (128 : Int)))) = true →
        Jv ((IntKind.wrap .i64 (st.1 + (1 : Int))), ()) h1) ∧
      (((decide (st.1 < (minV (sv.size : Int) (10 : Int)))) && (decide ((byteAt sv st.1) ≥ (128 : Int)))) = false →
        (((st.1 == (10 : Int)) = true →
            K (.tuple #[.int .u64 (0 : Int), .int .i64 (0 : Int), .int .i64 (8 : Int)]) h1) ∧
          ((st.1 == (10 : Int)) = false →
            (((st.1 == (sv.size : Int)) = true →
                K (.tuple #[.int .u64 (0 : Int), .int .i64 (0 : Int), .int .i64 (7 : Int)]) h1) ∧
              ((st.1 == (sv.size : Int)) = false →
                (((st.1 == (9 : Int)) = true → 0 ≤ st.1 ∧ st.1 < (ByteArray.size sv : Nat))) ∧
                ((((st.1 == (9 : Int)) && (decide ((byteAt sv st.1) > (1 : Int)))) = true →
                    K (.tuple #[.int .u64 (0 : Int), .int .i64 (0 : Int), .int .i64 (8 : Int)]) h1) ∧
                  (((st.1 == (9 : Int)) && (decide ((byteAt sv st.1) > (1 : Int)))) = false →
                    LoopP (T := Int × Int × Unit) (fun Jv_1 st_1 h2 =>
                      (((decide (st_1.2.1 ≥ (0 : Int))) = true →
                          (0 ≤ st_1.2.1 ∧ st_1.2.1 < (ByteArray.size sv : Nat)) ∧
                          Jv_1 ((bitsV .or .u64 (shlV .u64 st_1.1 (7 : Int)) (IntKind.wrap .u64 ((byteAt sv st_1.2.1).tmod (128 : Int)))), (IntKind.wrap .i64 (st_1.2.1 - (1 : Int))), ()) h2) ∧
                        ((decide (st_1.2.1 ≥ (0 : Int))) = false →
                          CallH Try.prog id_pack_size [.int .u64 st_1.1] (fun v h3 =>
                            ∃ t : Int, v = .int .i64 t ∧
                            (((t != (IntKind.wrap .i64 (st.1 + (1 : Int)))) = true →
                                K (.tuple #[.int .u64 (0 : Int), .int .i64 (0 : Int), .int .i64 (8 : Int)]) h3) ∧
                              ((t != (IntKind.wrap .i64 (st.1 + (1 : Int)))) = false →
                                K (.tuple #[.int .u64 st_1.1, .int .i64 (IntKind.wrap .i64 (st.1 + (1 : Int))), .int .i64 (0 : Int)]) h3))) h2))) ((0 : Int), (IntKind.wrap .i64 ((IntKind.wrap .i64 (st.1 + (1 : Int))) - (1 : Int))), ()) h1))))))))) ((0 : Int), ()) h
theorem F_pack_number_ok {sv : ByteArray}  {K : Value → PH → Prop} {h : PH} (hh : F_pack_number sv K h) : CallH Try.prog id_pack_number [.string sv] K h :=
  denF_sound Try.func37 (H := ⟨[], [], [(0, ⟨[(3, .int .i64)], [], []⟩), (3, ⟨[(2, .int .u64), (5, .int .i64)], [], []⟩)], []⟩) (xs := [.v (.string sv)]) (by kernel_rfl) (by simp [okE0s, okE0, one1]) (cast (by kernel_rfl : F_pack_number sv K h = denF Try.prog Try.f37 ⟨[], [], [(0, ⟨[(3, .int .i64)], [], []⟩), (3, ⟨[(2, .int .u64), (5, .int .i64)], [], []⟩)], []⟩ [.v (.string sv)] K h) hh)

/- (*twinlock/pack.In).takes -/
def F_pack_In_takes (xv : Option Addr) (bytes : Int) (e : Int) (K : Value → PH → Prop) (h : PH) : Prop :=
  ∃ bv ov : Nat, xv = some ⟨bv, ov, none⟩ ∧
  stH h bv (ov + 2) [.int .i64 e] fun h1 =>
  (((e == (0 : Int)) = true →
      ∃ bv_1 ov_1 : Nat, xv = some ⟨bv_1, ov_1, none⟩ ∧
      ∃ t : ByteArray, (h1.rds bv_1 ov_1 1 = some [.string t]) ∧
      (0 ≤ bytes ∧ bytes ≤ ((ByteArray.size t : Nat) : Int) ∧ ((ByteArray.size t : Nat) : Int) ≤ (ByteArray.size t : Nat)) ∧
      ∃ bv_2 ov_2 : Nat, xv = some ⟨bv_2, ov_2, none⟩ ∧
      stH h1 bv_2 ov_2 [.string (subS t bytes ((ByteArray.size t : Nat) : Int))] fun h2 =>
      ∃ bv_3 ov_3 : Nat, xv = some ⟨bv_3, ov_3, none⟩ ∧
      ∃ t_1 : Int, (h2.rds bv_3 (ov_3 + 1) 1 = some [.int .i64 t_1]) ∧
      ∃ bv_4 ov_4 : Nat, xv = some ⟨bv_4, ov_4, none⟩ ∧
      stH h2 bv_4 (ov_4 + 1) [.int .i64 (IntKind.wrap .i64 (t_1 + bytes))] fun h3 =>
      K (.bool (e == (0 : Int))) h3) ∧
    ((e == (0 : Int)) = false →
      K (.bool (e == (0 : Int))) h1))
theorem F_pack_In_takes_ok {xv : Option Addr} {bytes : Int} {e : Int}  {K : Value → PH → Prop} {h : PH} (hh : F_pack_In_takes xv bytes e K h) : CallH Try.prog id_pack_In_takes [.pointer xv, .int .i64 bytes, .int .i64 e] K h :=
  denF_sound Try.func38 (H := ⟨[], [], [], []⟩) (xs := [.v (.pointer xv), .v (.int .i64 bytes), .v (.int .i64 e)]) (by kernel_rfl) (by simp [okE0s, okE0, one1]) (cast (by kernel_rfl : F_pack_In_takes xv bytes e K h = denF Try.prog Try.f38 ⟨[], [], [], []⟩ [.v (.pointer xv), .v (.int .i64 bytes), .v (.int .i64 e)] K h) hh)

/- twinlock/pack.bounded -/
def F_pack_bounded (sv : ByteArray) (most : Int) (K : Value → PH → Prop) (h : PH) : Prop :=
  CallH Try.prog id_pack_number [.string sv] (fun v h1 =>
    ∃ t0 : Int, ∃ t1 : Int, ∃ t2 : Int, v = .tuple #[.int .u64 t0, .int .i64 t1, .int .i64 t2] ∧
    (((t2 == (0 : Int)) = true →
        ((((decide (most < (0 : Int))) || (decide (t0 > (IntKind.wrap .u64 most)))) = true →
            ((((8 : Int) != (0 : Int)) = true →
                K (.tuple #[.int .i64 (0 : Int), .int .i64 (0 : Int), .int .i64 (8 : Int)]) h1) ∧
              (((8 : Int) != (0 : Int)) = false →
                K (.tuple #[.int .i64 (IntKind.wrap .i64 t0), .int .i64 t1, .int .i64 (0 : Int)]) h1))) ∧
          (((decide (most < (0 : Int))) || (decide (t0 > (IntKind.wrap .u64 most)))) = false →
            (((t2 != (0 : Int)) = true →
                K (.tuple #[.int .i64 (0 : Int), .int .i64 (0 : Int), .int .i64 t2]) h1) ∧
              ((t2 != (0 : Int)) = false →
                K (.tuple #[.int .i64 (IntKind.wrap .i64 t0), .int .i64 t1, .int .i64 (0 : Int)]) h1))))) ∧
      ((t2 == (0 : Int)) = false →
        (((t2 != (0 : Int)) = true →
            K (.tuple #[.int .i64 (0 : Int), .int .i64 (0 : Int), .int .i64 t2]) h1) ∧
          ((t2 != (0 : Int)) = false →
            K (.tuple #[.int .i64 (IntKind.wrap .i64 t0), .int .i64 t1, .int .i64 (0 : Int)]) h1))))) h
theorem F_pack_bounded_ok {sv : ByteArray} {most : Int}  {K : Value → PH → Prop} {h : PH} (hh : F_pack_bounded sv most K h) : CallH Try.prog id_pack_bounded [.string sv, .int .i64 most] K h :=
  denF_sound Try.func39 (H := ⟨[], [], [], []⟩) (xs := [.v (.string sv), .v (.int .i64 most)]) (by kernel_rfl) (by simp [okE0s, okE0, one1]) (cast (by kernel_rfl : F_pack_bounded sv most K h = denF Try.prog Try.f39 ⟨[], [], [], []⟩ [.v (.string sv), .v (.int .i64 most)] K h) hh)

/- (*twinlock/twinlockref01.In).Num -/
def F_ref01_In_Num (xv : Option Addr) (K : Value → PH → Prop) (h : PH) : Prop :=
  ∃ bv ov : Nat, xv = some ⟨bv, ov, none⟩ ∧
  ∃ t : Int, (h.rds bv (ov + 2) 1 = some [.int .i64 t]) ∧
  (((t != (0 : Int)) = true →
      K (.int .u64 (0 : Int)) h) ∧
    ((t != (0 : Int)) = false →
      CallH Try.prog id_ref01_In_next [.pointer xv] (fun v h1 =>
        ∃ t0 : Int, ∃ t1 : Int, ∃ t2 : Int, v = .tuple #[.int .u64 t0, .int .i64 t1, .int .i64 t2] ∧
        ∃ bv_1 ov_1 : Nat, xv = some ⟨bv_1, ov_1, none⟩ ∧
        stH h1 bv_1 (ov_1 + 2) [.int .i64 t2] fun h2 =>
        ∃ bv_2 ov_2 : Nat, xv = some ⟨bv_2, ov_2, none⟩ ∧
        ∃ t_1 : Int, (h2.rds bv_2 (ov_2 + 1) 1 = some [.int .i64 t_1]) ∧
        ∃ bv_3 ov_3 : Nat, xv = some ⟨bv_3, ov_3, none⟩ ∧
        stH h2 bv_3 (ov_3 + 1) [.int .i64 (IntKind.wrap .i64 (t_1 + t1))] fun h3 =>
        K (.int .u64 t0) h3) h))
theorem F_ref01_In_Num_ok {xv : Option Addr}  {K : Value → PH → Prop} {h : PH} (hh : F_ref01_In_Num xv K h) : CallH Try.prog id_ref01_In_Num [.pointer xv] K h :=
  denF_sound Try.func40 (H := ⟨[], [], [], []⟩) (xs := [.v (.pointer xv)]) (by kernel_rfl) (by simp [okE0s, okE0, one1]) (cast (by kernel_rfl : F_ref01_In_Num xv K h = denF Try.prog Try.f40 ⟨[], [], [], []⟩ [.v (.pointer xv)] K h) hh)

/- twinlock/twinlockref01.Zag -/
def F_ref01_Zag (n : Int) (K : Value → PH → Prop) (h : PH) : Prop :=
  ((((n.tmod (2 : Int)) == (1 : Int)) = true →
      K (.int .i64 (IntKind.wrap .i64 ((-1 : Int) - (IntKind.wrap .i64 (IntKind.wrap .u64 (n.tdiv (2 : Int))))))) h) ∧
    (((n.tmod (2 : Int)) == (1 : Int)) = false →
      K (.int .i64 (IntKind.wrap .i64 (IntKind.wrap .u64 (n.tdiv (2 : Int))))) h))
theorem F_ref01_Zag_ok {n : Int}  {K : Value → PH → Prop} {h : PH} (hh : F_ref01_Zag n K h) : CallH Try.prog id_ref01_Zag [.int .u64 n] K h :=
  denF_sound Try.func41 (H := ⟨[], [], [], []⟩) (xs := [.v (.int .u64 n)]) (by kernel_rfl) (by simp [okE0s, okE0, one1]) (cast (by kernel_rfl : F_ref01_Zag n K h = denF Try.prog Try.f41 ⟨[], [], [], []⟩ [.v (.int .u64 n)] K h) hh)

/- (*twinlock/twinlockref01.In).Text -/
def F_ref01_In_Text (xv : Option Addr) (most : Int) (K : Value → PH → Prop) (h : PH) : Prop :=
  ∃ bv ov : Nat, xv = some ⟨bv, ov, none⟩ ∧
  ∃ was : Int, (h.rds bv (ov + 1) 1 = some [.int .i64 was]) ∧
  CallH Try.prog id_ref01_In_Most [.pointer xv, .int .i64 most] (fun v h1 =>
    ∃ n : Int, v = .int .i64 n ∧
    JoinP (T := Unit) (fun Jv =>
      ∃ bv_1 ov_1 : Nat, xv = some ⟨bv_1, ov_1, none⟩ ∧
      ∃ t : Int, (h1.rds bv_1 (ov_1 + 2) 1 = some [.int .i64 t]) ∧
      ∃ bv_2 ov_2 : Nat, ((t == (0 : Int)) = true → xv = some ⟨bv_2, ov_2, none⟩) ∧
      ∃ t_1 : ByteArray, (((t == (0 : Int)) = true → h1.rds bv_2 ov_2 1 = some [.string t_1])) ∧
      ∃ bv_3 ov_3 : Nat, ((t == (0 : Int)) = true → xv = some ⟨bv_3, ov_3, none⟩) ∧
      ∃ t_2 : Int, (((t == (0 : Int)) = true → h1.rds bv_3 (ov_3 + 1) 1 = some [.int .i64 t_2])) ∧
      ((((t == (0 : Int)) && (decide ((IntKind.wrap .i64 ((t_1.size : Int) - t_2)) < n))) = true →
          ∃ bv_4 ov_4 : Nat, xv = some ⟨bv_4, ov_4, none⟩ ∧
          stH h1 bv_4 (ov_4 + 1) [.int .i64 was] fun h3 =>
          ∃ bv_5 ov_5 : Nat, xv = some ⟨bv_5, ov_5, none⟩ ∧
          stH h3 bv_5 (ov_5 + 2) [.int .i64 (7 : Int)] fun h4 =>
          Jv (()) h4) ∧
        (((t == (0 : Int)) && (decide ((IntKind.wrap .i64 ((t_1.size : Int) - t_2)) < n))) = false →
          Jv (()) h1)))
    (fun _ h2 =>
      ∃ bv_6 ov_6 : Nat, xv = some ⟨bv_6, ov_6, none⟩ ∧
      ∃ t_3 : Int, (h2.rds bv_6 (ov_6 + 2) 1 = some [.int .i64 t_3]) ∧
      (((t_3 != (0 : Int)) = true →
          K (.string (⟨#[]⟩ : ByteArray)) h2) ∧
        ((t_3 != (0 : Int)) = false →
          ∃ bv_7 ov_7 : Nat, xv = some ⟨bv_7, ov_7, none⟩ ∧
          ∃ t_4 : Int, (h2.rds bv_7 (ov_7 + 1) 1 = some [.int .i64 t_4]) ∧
          ∃ bv_8 ov_8 : Nat, xv = some ⟨bv_8, ov_8, none⟩ ∧
          stH h2 bv_8 (ov_8 + 1) [.int .i64 (IntKind.wrap .i64 (t_4 + n))] fun h5 =>
          ∃ bv_9 ov_9 : Nat, xv = some ⟨bv_9, ov_9, none⟩ ∧
          ∃ t_5 : ByteArray, (h5.rds bv_9 ov_9 1 = some [.string t_5]) ∧
          ∃ bv_10 ov_10 : Nat, xv = some ⟨bv_10, ov_10, none⟩ ∧
          ∃ t_6 : Int, (h5.rds bv_10 (ov_10 + 1) 1 = some [.int .i64 t_6]) ∧
          ∃ bv_11 ov_11 : Nat, xv = some ⟨bv_11, ov_11, none⟩ ∧
          ∃ t_7 : Int, (h5.rds bv_11 (ov_11 + 1) 1 = some [.int .i64 t_7]) ∧
          (0 ≤ (IntKind.wrap .i64 (t_6 - n)) ∧ (IntKind.wrap .i64 (t_6 - n)) ≤ t_7 ∧ t_7 ≤ (ByteArray.size t_5 : Nat)) ∧
          K (.string (subS t_5 (IntKind.wrap .i64 (t_6 - n)) t_7)) h5)))) h
theorem F_ref01_In_Text_ok {xv : Option Addr} {most : Int}  {K : Value → PH → Prop} {h : PH} (hh : F_ref01_In_Text xv most K h) : CallH Try.prog id_ref01_In_Text [.pointer xv, .int .i64 most] K h :=
  denF_sound Try.func42 (H := ⟨[], [], [], [(14, ⟨[], [], []⟩)]⟩) (xs := [.v (.pointer xv), .v (.int .i64 most)]) (by kernel_rfl) (by simp [okE0s, okE0, one1]) (cast (by kernel_rfl : F_ref01_In_Text xv most K h = denF Try.prog Try.f42 ⟨[], [], [], [(14, ⟨[], [], []⟩)]⟩ [.v (.pointer xv), .v (.int .i64 most)] K h) hh)

/- (*twinlock/twinlockref01.In).Byte -/
def F_ref01_In_Byte (xv : Option Addr) (K : Value → PH → Prop) (h : PH) : Prop :=
  JoinP (T := Unit) (fun Jv =>
    ∃ bv ov : Nat, xv = some ⟨bv, ov, none⟩ ∧
    ∃ t : Int, (h.rds bv (ov + 2) 1 = some [.int .i64 t]) ∧
    ∃ bv_1 ov_1 : Nat, ((t == (0 : Int)) = true → xv = some ⟨bv_1, ov_1, none⟩) ∧
    ∃ t_1 : Int, (((t == (0 : Int)) = true → h.rds bv_1 (ov_1 + 1) 1 = some [.int .i64 t_1])) ∧
    ∃ bv_2 ov_2 : Nat, ((t == (0 : Int)) = true → xv = some ⟨bv_2, ov_2, none⟩) ∧
    ∃ t_2 : ByteArray, (((t == (0 : Int)) = true → h.rds bv_2 ov_2 1 = some [.string t_2])) ∧
    ((((t == (0 : Int)) && (decide (t_1 ≥ (t_2.size : Int)))) = true →
        ∃ bv_3 ov_3 : Nat, xv = some ⟨bv_3, ov_3, none⟩ ∧
        stH h bv_3 (ov_3 + 2) [.int .i64 (7 : Int)] fun h2 =>
        Jv (()) h2) ∧
      (((t == (0 : Int)) && (decide (t_1 ≥ (t_2.size : Int)))) = false →
        Jv (()) h)))
  (fun _ h1 =>
    ∃ bv_4 ov_4 : Nat, xv = some ⟨bv_4, ov_4, none⟩ ∧
    ∃ t_3 : Int, (h1.rds bv_4 (ov_4 + 2) 1 = some [.int .i64 t_3]) ∧
    (((t_3 != (0 : Int)) = true →
        K (.int .u8 (0 : Int)) h1) ∧
      ((t_3 != (0 : Int)) = false →
        ∃ bv_5 ov_5 : Nat, xv = some ⟨bv_5, ov_5, none⟩ ∧
        ∃ t_4 : Int, (h1.rds bv_5 (ov_5 + 1) 1 = some [.int .i64 t_4]) ∧
        ∃ bv_6 ov_6 : Nat, xv = some ⟨bv_6, ov_6, none⟩ ∧
        stH h1 bv_6 (ov_6 + 1) [.int .i64 (IntKind.wrap .i64 (t_4 + (1 : Int)))] fun h3 =>
        ∃ bv_7 ov_7 : Nat, xv = some ⟨bv_7, ov_7, none⟩ ∧
        ∃ t_5 : ByteArray, (h3.rds bv_7 ov_7 1 = some [.string t_5]) ∧
        ∃ bv_8 ov_8 : Nat, xv = some ⟨bv_8, ov_8, none⟩ ∧
        ∃ t_6 : Int, (h3.rds bv_8 (ov_8 + 1) 1 = some [.int .i64 t_6]) ∧
        (0 ≤ (IntKind.wrap .i64 (t_6 - (1 : Int))) ∧ (IntKind.wrap .i64 (t_6 - (1 : Int))) < (ByteArray.size t_5 : Nat)) ∧
        K (.int .u8 (byteAt t_5 (IntKind.wrap .i64 (t_6 - (1 : Int))))) h3)))
theorem F_ref01_In_Byte_ok {xv : Option Addr}  {K : Value → PH → Prop} {h : PH} (hh : F_ref01_In_Byte xv K h) : CallH Try.prog id_ref01_In_Byte [.pointer xv] K h :=
  denF_sound Try.func43 (H := ⟨[], [], [], [(8, ⟨[], [], []⟩)]⟩) (xs := [.v (.pointer xv)]) (by kernel_rfl) (by simp [okE0s, okE0, one1]) (cast (by kernel_rfl : F_ref01_In_Byte xv K h = denF Try.prog Try.f43 ⟨[], [], [], [(8, ⟨[], [], []⟩)]⟩ [.v (.pointer xv)] K h) hh)

/- (*twinlock/twinlockref01.In).Most -/
def F_ref01_In_Most (xv : Option Addr) (most : Int) (K : Value → PH → Prop) (h : PH) : Prop :=
  ∃ bv ov : Nat, xv = some ⟨bv, ov, none⟩ ∧
  ∃ was : Int, (h.rds bv (ov + 1) 1 = some [.int .i64 was]) ∧
  CallH Try.prog id_ref01_In_Num [.pointer xv] (fun v h1 =>
    ∃ v_1 : Int, v = .int .u64 v_1 ∧
    ∃ bv_1 ov_1 : Nat, xv = some ⟨bv_1, ov_1, none⟩ ∧
    ∃ t : Int, (h1.rds bv_1 (ov_1 + 2) 1 = some [.int .i64 t]) ∧
    (((t != (0 : Int)) = true →
        K (.int .i64 (0 : Int)) h1) ∧
      ((t != (0 : Int)) = false →
        ((((decide (most < (0 : Int))) || (decide (v_1 > (IntKind.wrap .u64 most)))) = true →
            ∃ bv_2 ov_2 : Nat, xv = some ⟨bv_2, ov_2, none⟩ ∧
            stH h1 bv_2 (ov_2 + 1) [.int .i64 was] fun h2 =>
            ∃ bv_3 ov_3 : Nat, xv = some ⟨bv_3, ov_3, none⟩ ∧
            stH h2 bv_3 (ov_3 + 2) [.int .i64 (8 : Int)] fun h3 =>
            K (.int .i64 (0 : Int)) h3) ∧
          (((decide (most < (0 : Int))) || (decide (v_1 > (IntKind.wrap .u64 most)))) = false →
            K (.int .i64 (IntKind.wrap .i64 v_1)) h1))))) h
theorem F_ref01_In_Most_ok {xv : Option Addr} {most : Int}  {K : Value → PH → Prop} {h : PH} (hh : F_ref01_In_Most xv most K h) : CallH Try.prog id_ref01_In_Most [.pointer xv, .int .i64 most] K h :=
  denF_sound Try.func44 (H := ⟨[], [], [], []⟩) (xs := [.v (.pointer xv), .v (.int .i64 most)]) (by kernel_rfl) (by simp [okE0s, okE0, one1]) (cast (by kernel_rfl : F_ref01_In_Most xv most K h = denF Try.prog Try.f44 ⟨[], [], [], []⟩ [.v (.pointer xv), .v (.int .i64 most)] K h) hh)

/- twinlock/pack.size -/
def F_pack_size (n : Int) (K : Value → PH → Prop) (h : PH) : Prop :=
  CallH Try.prog id_math_bits_Len64 [.int .u64 n] (fun v h1 =>
    ∃ t : Int, v = .int .i64 t ∧
    K (.int .i64 (maxV (1 : Int) (IntKind.wrap .i64 ((IntKind.wrap .i64 ((IntKind.wrap .i64 (t + (7 : Int))) - (1 : Int))).tdiv (7 : Int))))) h1) h
theorem F_pack_size_ok {n : Int}  {K : Value → PH → Prop} {h : PH} (hh : F_pack_size n K h) : CallH Try.prog id_pack_size [.int .u64 n] K h :=
  denF_sound Try.func45 (H := ⟨[], [], [], []⟩) (xs := [.v (.int .u64 n)]) (by kernel_rfl) (by simp [okE0s, okE0, one1]) (cast (by kernel_rfl : F_pack_size n K h = denF Try.prog Try.f45 ⟨[], [], [], []⟩ [.v (.int .u64 n)] K h) hh)

/- (*twinlock/pack.Out).put -/
def F_pack_Out_put (ov : Option Addr) (bA : Option Addr) (bN _ : Nat) (K : Value → PH → Prop) (h : PH) : Prop :=
  (((!(Option.isNone ov)) = true →
      ∃ bv ov_1 : Nat, ov = some ⟨bv, ov_1, none⟩ ∧
      ∃ (tA : Option Addr) (tN tC : Nat), (h.rds bv ov_1 1 = some [.slice tA tN tC]) ∧
      ∃ vs : List Value, srcH h bA (bN * 1) vs ∧
      appH 5 1 1 [.int .u8 (0 : Int)] tA tN tC bN vs (fun tA_1 tN_1 tC_1 h1 =>
        ∃ bv_1 ov_2 : Nat, ov = some ⟨bv_1, ov_2, none⟩ ∧
        stH h1 bv_1 ov_2 [.slice tA_1 tN_1 tC_1] fun h2 =>
        K (.tuple #[]) h2) h) ∧
    ((!(Option.isNone ov)) = false →
      K (.tuple #[]) h))
theorem F_pack_Out_put_ok {ov : Option Addr} {bA : Option Addr} {bN bC : Nat}  {K : Value → PH → Prop} {h : PH} (hh : F_pack_Out_put ov bA bN bC K h) : CallH Try.prog id_pack_Out_put [.pointer ov, .slice bA bN bC] K h :=
  denF_sound Try.func46 (H := ⟨[], [], [], []⟩) (xs := [.v (.pointer ov), .v (.slice bA bN bC)]) (by kernel_rfl) (by simp [okE0s, okE0, one1]) (cast (by kernel_rfl : F_pack_Out_put ov bA bN bC K h = denF Try.prog Try.f46 ⟨[], [], [], []⟩ [.v (.pointer ov), .v (.slice bA bN bC)] K h) hh)

/- (*twinlock/twinlockref01.In).next -/
def F_ref01_In_next (xv : Option Addr) (K : Value → PH → Prop) (h : PH) : Prop :=
  LoopP (T := Int × Unit) (fun Jv st h1 =>
    (((decide (st.1 ≤ (10 : Int))) = true →
        ∃ bv ov : Nat, xv = some ⟨bv, ov, none⟩ ∧
        ∃ t : Int, (h1.rds bv (ov + 1) 1 = some [.int .i64 t]) ∧
        ∃ bv_1 ov_1 : Nat, xv = some ⟨bv_1, ov_1, none⟩ ∧
        ∃ t_1 : ByteArray, (h1.rds bv_1 ov_1 1 = some [.string t_1]) ∧
        (((decide ((IntKind.wrap .i64 (t + st.1)) > (t_1.size : Int))) = true →
            K (.tuple #[.int .u64 (0 : Int), .int .i64 (0 : Int), .int .i64 (7 : Int)]) h1) ∧
          ((decide ((IntKind.wrap .i64 (t + st.1)) > (t_1.size : Int))) = false →
            ∃ bv_2 ov_2 : Nat, xv = some ⟨bv_2, ov_2, none⟩ ∧
            ∃ t_2 : ByteArray, (h1.rds bv_2 ov_2 1 = some [.string t_2]) ∧
            ∃ bv_3 ov_3 : Nat, xv = some ⟨bv_3, ov_3, none⟩ ∧
            ∃ t_3 : Int, (h1.rds bv_3 (ov_3 + 1) 1 = some [.int .i64 t_3]) ∧
            (0 ≤ (IntKind.wrap .i64 ((IntKind.wrap .i64 (t_3 + st.1)) - (1 : Int))) ∧ (IntKind.wrap .i64 ((IntKind.wrap .i64 (t_3 + st.1)) - (1 : Int))) < (ByteArray.size t_2 : Nat)) ∧
            (((decide ((byteAt t_2 (IntKind.wrap .i64 ((IntKind.wrap .i64 (t_3 + st.1)) - (1 : Int)))) < (128 : Int))) = true →
                ∃ bv_4 ov_4 : Nat, xv = some ⟨bv_4, ov_4, none⟩ ∧
                ∃ t_4 : ByteArray, (h1.rds bv_4 ov_4 1 = some [.string t_4]) ∧
                ∃ bv_5 ov_5 : Nat, xv = some ⟨bv_5, ov_5, none⟩ ∧
                ∃ t_5 : Int, (h1.rds bv_5 (ov_5 + 1) 1 = some [.int .i64 t_5]) ∧
                ∃ bv_6 ov_6 : Nat, xv = some ⟨bv_6, ov_6, none⟩ ∧
                ∃ t_6 : Int, (h1.rds bv_6 (ov_6 + 1) 1 = some [.int .i64 t_6]) ∧
                (0 ≤ t_5 ∧ t_5 ≤ (IntKind.wrap .i64 (t_6 + st.1)) ∧ (IntKind.wrap .i64 (t_6 + st.1)) ≤ (ByteArray.size t_4 : Nat)) ∧
                CallH Try.prog id_ref01_Value [.string (subS t_4 t_5 (IntKind.wrap .i64 (t_6 + st.1)))] (fun v h2 =>
                  ∃ t0 : Int, ∃ t1 : Bool, v = .tuple #[.int .u64 t0, .bool t1] ∧
                  (((!t1) = true →
                      K (.tuple #[.int .u64 (0 : Int), .int .i64 (0 : Int), .int .i64 (8 : Int)]) h2) ∧
                    ((!t1) = false →
                      K (.tuple #[.int .u64 t0, .int .i64 st.1, .int .i64 (0 : Int)]) h2))) h1) ∧
              ((decide ((byteAt t_2 (IntKind.wrap .i64 ((IntKind.wrap .i64 (t_3 + st.1)) - (1 : Int)))) < (128 : Int))) = false →
                Jv ((IntKind.wrap .i64 (st.1 + (1 : Int))), ()) h1))))) ∧
      ((decide (st.1 ≤ (10 : Int))) = false →
        K (.tuple #[.int .u64 (0 : Int), .int .i64 (0 : Int), .int .i64 (8 : Int)]) h1))) ((1 : Int), ()) h
theorem F_ref01_In_next_ok {xv : Option Addr}  {K : Value → PH → Prop} {h : PH} (hh : F_ref01_In_next xv K h) : CallH Try.prog id_ref01_In_next [.pointer xv] K h :=
  denF_sound Try.func47 (H := ⟨[], [], [(0, ⟨[(5, .int .i64)], [], []⟩)], []⟩) (xs := [.v (.pointer xv)]) (by kernel_rfl) (by simp [okE0s, okE0, one1]) (cast (by kernel_rfl : F_ref01_In_next xv K h = denF Try.prog Try.f47 ⟨[], [], [(0, ⟨[(5, .int .i64)], [], []⟩)], []⟩ [.v (.pointer xv)] K h) hh)

/- math/bits.Len64 -/
def F_math_bits_Len64 (xv : Int) (K : Value → PH → Prop) (h : PH) : Prop :=
  JoinP (T := Int × Int × Unit) (fun Jv =>
    (((decide (xv ≥ (4294967296 : Int))) = true →
        Jv ((shrV .u64 xv (32 : Int)), (32 : Int), ()) h) ∧
      ((decide (xv ≥ (4294967296 : Int))) = false →
        Jv (xv, (0 : Int), ()) h)))
  (fun st h1 =>
    JoinP (T := Int × Int × Unit) (fun Jv_1 =>
      (((decide (st.1 ≥ (65536 : Int))) = true →
          Jv_1 ((shrV .u64 st.1 (16 : Int)), (IntKind.wrap .i64 (st.2.1 + (16 : Int))), ()) h1) ∧
        ((decide (st.1 ≥ (65536 : Int))) = false →
          Jv_1 (st.1, st.2.1, ()) h1)))
    (fun st_1 h2 =>
      (((decide (st_1.1 ≥ (256 : Int))) = true →
          (0 ≤ (IntKind.wrap .u8 (shrV .u64 st_1.1 (8 : Int))) ∧ (IntKind.wrap .u8 (shrV .u64 st_1.1 (8 : Int))) < (ByteArray.size (⟨#[0, 1, 2, 2, 3, 3, 3, 3, 4, 4, 4, 4, 4, 4, 4, 4, 5, 5, 5, 5, 5, 5, 5, 5, 5, 5, 5, 5, 5, 5, 5, 5, 6, 6, 6, 6, 6, 6, 6, 6, 6, 6, 6, 6, 6, 6, 6, 6, 6, 6, 6, 6, 6, 6, 6, 6, 6, 6, 6, 6, 6, 6, 6, 6, 7, 7, 7, 7, 7, 7, 7, 7, 7, 7, 7, 7, 7, 7, 7, 7, 7, 7, 7, 7, 7, 7, 7, 7, 7, 7, 7, 7, 7, 7, 7, 7, 7, 7, 7, 7, 7, 7, 7, 7, 7, 7, 7, 7, 7, 7, 7, 7, 7, 7, 7, 7, 7, 7, 7, 7, 7, 7, 7, 7, 7, 7, 7, 7, 8, 8, 8, 8, 8, 8, 8, 8, 8, 8, 8, 8, 8, 8, 8, 8, 8, 8, 8, 8, 8, 8, 8, 8, 8, 8, 8, 8, 8, 8, 8, 8, 8, 8, 8, 8, 8, 8, 8, 8, 8, 8, 8, 8, 8, 8, 8, 8, 8, 8, 8, 8, 8, 8, 8, 8, 8, 8, 8, 8, 8, 8, 8, 8, 8, 8, 8, 8, 8, 8, 8, 8, 8, 8, 8, 8, 8, 8, 8, 8, 8, 8, 8, 8, 8, 8, 8, 8, 8, 8, 8, 8, 8, 8, 8, 8, 8, 8, 8, 8, 8, 8, 8, 8, 8, 8, 8, 8, 8, 8, 8, 8, 8, 8, 8, 8, 8, 8, 8, 8, 8, 8, 8, 8, 8, 8, 8, 8]⟩ : ByteArray) : Nat)) ∧
          K (.int .i64 (IntKind.wrap .i64 ((IntKind.wrap .i64 (st_1.2.1 + (8 : Int))) + (IntKind.wrap .i64 (byteAt (⟨#[0, 1, 2, 2, 3, 3, 3, 3, 4, 4, 4, 4, 4, 4, 4, 4, 5, 5, 5, 5, 5, 5, 5, 5, 5, 5, 5, 5, 5, 5, 5, 5, 6, 6, 6, 6, 6, 6, 6, 6, 6, 6, 6, 6, 6, 6, 6, 6, 6, 6, 6, 6, 6, 6, 6, 6, 6, 6, 6, 6, 6, 6, 6, 6, 7, 7, 7, 7, 7, 7, 7, 7, 7, 7, 7, 7, 7, 7, 7, 7, 7, 7, 7, 7, 7, 7, 7, 7, 7, 7, 7, 7, 7, 7, 7, 7, 7, 7, 7, 7, 7, 7, 7, 7, 7, 7, 7, 7, 7, 7, 7, 7, 7, 7, 7, 7, 7, 7, 7, 7, 7, 7, 7, 7, 7, 7, 7, 7, 8, 8, 8, 8, 8, 8, 8, 8, 8, 8, 8, 8, 8, 8, 8, 8, 8, 8, 8, 8, 8, 8, 8, 8, 8, 8, 8, 8, 8, 8, 8, 8, 8, 8, 8, 8, 8, 8, 8, 8, 8, 8, 8, 8, 8, 8, 8, 8, 8, 8, 8, 8, 8, 8, 8, 8, 8, 8, 8, 8, 8, 8, 8, 8, 8, 8, 8, 8, 8, 8, 8, 8, 8, 8, 8, 8, 8, 8, 8, 8, 8, 8, 8, 8, 8, 8, 8, 8, 8, 8, 8, 8, 8, 8, 8, 8, 8, 8, 8, 8, 8, 8, 8, 8, 8, 8, 8, 8, 8, 8, 8, 8, 8, 8, 8, 8, 8, 8, 8, 8, 8, 8, 8, 8, 8, 8, 8, 8]⟩ : ByteArray) (IntKind.wrap .u8 (shrV .u64 st_1.1 (8 : Int)))))))) h2) ∧
        ((decide (st_1.1 ≥ (256 : Int))) = false →
          (0 ≤ (IntKind.wrap .u8 st_1.1) ∧ (IntKind.wrap .u8 st_1.1) < (ByteArray.size (⟨#[0, 1, 2, 2, 3, 3, 3, 3, 4, 4, 4, 4, 4, 4, 4, 4, 5, 5, 5, 5, 5, 5, 5, 5, 5, 5, 5, 5, 5, 5, 5, 5, 6, 6, 6, 6, 6, 6, 6, 6, 6, 6, 6, 6, 6, 6, 6, 6, 6, 6, 6, 6, 6, 6, 6, 6, 6, 6, 6, 6, 6, 6, 6, 6, 7, 7, 7, 7, 7, 7, 7, 7, 7, 7, 7, 7, 7, 7, 7, 7, 7, 7, 7, 7, 7, 7, 7, 7, 7, 7, 7, 7, 7, 7, 7, 7, 7, 7, 7, 7, 7, 7, 7, 7, 7, 7, 7, 7, 7, 7, 7, 7, 7, 7, 7, 7, 7, 7, 7, 7, 7, 7, 7, 7, 7, 7, 7, 7, 8, 8, 8, 8, 8, 8, 8, 8, 8, 8, 8, 8, 8, 8, 8, 8, 8, 8, 8, 8, 8, 8, 8, 8, 8, 8, 8, 8, 8, 8, 8, 8, 8, 8, 8, 8, 8, 8, 8, 8, 8, 8, 8, 8, 8, 8, 8, 8, 8, 8, 8, 8, 8, 8, 8, 8, 8, 8, 8, 8, 8, 8, 8, 8, 8, 8, 8, 8, 8, 8, 8, 8, 8, 8, 8, 8, 8, 8, 8, 8, 8, 8, 8, 8, 8, 8, 8, 8, 8, 8, 8, 8, 8, 8, 8, 8, 8, 8, 8, 8, 8, 8, 8, 8, 8, 8, 8, 8, 8, 8, 8, 8, 8, 8, 8, 8, 8, 8, 8, 8, 8, 8, 8, 8, 8, 8, 8, 8]⟩ : ByteArray) : Nat)) ∧
          K (.int .i64 (IntKind.wrap .i64 (st_1.2.1 + (IntKind.wrap .i64 (byteAt (⟨#[0, 1, 2, 2, 3, 3, 3, 3, 4, 4, 4, 4, 4, 4, 4, 4, 5, 5, 5, 5, 5, 5, 5, 5, 5, 5, 5, 5, 5, 5, 5, 5, 6, 6, 6, 6, 6, 6, 6, 6, 6, 6, 6, 6, 6, 6, 6, 6, 6, 6, 6, 6, 6, 6, 6, 6, 6, 6, 6, 6, 6, 6, 6, 6, 7, 7, 7, 7, 7, 7, 7, 7, 7, 7, 7, 7, 7, 7, 7, 7, 7, 7, 7, 7, 7, 7, 7, 7, 7, 7, 7, 7, 7, 7, 7, 7, 7, 7, 7, 7, 7, 7, 7, 7, 7, 7, 7, 7, 7, 7, 7, 7, 7, 7, 7, 7, 7, 7, 7, 7, 7, 7, 7, 7, 7, 7, 7, 7, 8, 8, 8, 8, 8, 8, 8, 8, 8, 8, 8, 8, 8, 8, 8, 8, 8, 8, 8, 8, 8, 8, 8, 8, 8, 8, 8, 8, 8, 8, 8, 8, 8, 8, 8, 8, 8, 8, 8, 8, 8, 8, 8, 8, 8, 8, 8, 8, 8, 8, 8, 8, 8, 8, 8, 8, 8, 8, 8, 8, 8, 8, 8, 8, 8, 8, 8, 8, 8, 8, 8, 8, 8, 8, 8, 8, 8, 8, 8, 8, 8, 8, 8, 8, 8, 8, 8, 8, 8, 8, 8, 8, 8, 8, 8, 8, 8, 8, 8, 8, 8, 8, 8, 8, 8, 8, 8, 8, 8, 8, 8, 8, 8, 8, 8, 8, 8, 8, 8, 8, 8, 8, 8, 8, 8, 8, 8, 8]⟩ : ByteArray) (IntKind.wrap .u8 st_1.1)))))) h2))))
theorem F_math_bits_Len64_ok {xv : Int}  {K : Value → PH → Prop} {h : PH} (hh : F_math_bits_Len64 xv K h) : CallH Try.prog id_math_bits_Len64 [.int .u64 xv] K h :=
  denF_sound Try.func48 (H := ⟨[], [], [], [(10, ⟨[(0, .int .u64), (2, .int .i64)], [], []⟩), (16, ⟨[(0, .int .u64), (2, .int .i64)], [], []⟩)]⟩) (xs := [.v (.int .u64 xv)]) (by kernel_rfl) (by simp [okE0s, okE0, one1]) (cast (by kernel_rfl : F_math_bits_Len64 xv K h = denF Try.prog Try.f48 ⟨[], [], [], [(10, ⟨[(0, .int .u64), (2, .int .i64)], [], []⟩), (16, ⟨[(0, .int .u64), (2, .int .i64)], [], []⟩)]⟩ [.v (.int .u64 xv)] K h) hh)

/- twinlock/twinlockref01.Value -/
def F_ref01_Value (sv : ByteArray) (K : Value → PH → Prop) (h : PH) : Prop :=
  LoopP (T := Int × Int × Unit) (fun Jv st h1 =>
    (((decide (st.2.1 ≥ (0 : Int))) = true →
        (0 ≤ st.2.1 ∧ st.2.1 < (ByteArray.size sv : Nat)) ∧
        Jv ((IntKind.wrap .u64 ((IntKind.wrap .u64 ((128 : Int) * st.1)) + (IntKind.wrap .u64 ((byteAt sv st.2.1).tmod (128 : Int))))), (IntKind.wrap .i64 (st.2.1 - (1 : Int))), ()) h1) ∧
      ((decide (st.2.1 ≥ (0 : Int))) = false →
        CallH Try.prog id_ref01_Num [.int .u64 st.1] (fun v h2 =>
          ∃ t : ByteArray, v = .string t ∧
          K (.tuple #[.int .u64 st.1, .bool (strEq t sv)]) h2) h1))) ((0 : Int), (IntKind.wrap .i64 ((sv.size : Int) - (1 : Int))), ()) h
theorem F_ref01_Value_ok {sv : ByteArray}  {K : Value → PH → Prop} {h : PH} (hh : F_ref01_Value sv K h) : CallH Try.prog id_ref01_Value [.string sv] K h :=
  denF_sound Try.func49 (H := ⟨[], [], [(0, ⟨[(4, .int .u64), (5, .int .i64)], [], []⟩)], []⟩) (xs := [.v (.string sv)]) (by kernel_rfl) (by simp [okE0s, okE0, one1]) (cast (by kernel_rfl : F_ref01_Value sv K h = denF Try.prog Try.f49 ⟨[], [], [(0, ⟨[(4, .int .u64), (5, .int .i64)], [], []⟩)], []⟩ [.v (.string sv)] K h) hh)


end TL
