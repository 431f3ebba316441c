/-
  The functions of the program as predicates on heap fragments, each tied to its code. No condition.
-/
import Derived.Test.YtgopbgapkohoeaaLibC
import Derived.Test.YtgopbgapkohoeaaProg
namespace TL
open Go Go.Proofs
abbrev id_gosem_cut_init : FuncId := 2
abbrev id_law21_TakeQuiet : FuncId := 3
abbrev id_law21_TakeKnown : FuncId := 4
abbrev id_law21_TakeRows : FuncId := 5
abbrev id_law21_TakeOwn : FuncId := 6
abbrev id_law21_Great : FuncId := 7
abbrev id_law21_GreatMsg : FuncId := 8
abbrev id_law21_wakes : FuncId := 9
abbrev id_take_New : FuncId := 10
abbrev id_take_Take_Put : FuncId := 11
abbrev id_take_Take_Done : FuncId := 12
abbrev id_take_Take_Waits : FuncId := 13
abbrev id_take_Take_Place : FuncId := 14
abbrev id_batch_Right : FuncId := 15
abbrev id_law21_entry : FuncId := 16
abbrev id_take_Take_Gap : FuncId := 17
abbrev id_take_Take_Next : FuncId := 18
abbrev id_take_Take_Ack : FuncId := 19
abbrev id_law20_Great : FuncId := 20
abbrev id_law20_Made : FuncId := 21
abbrev id_batch_Same : FuncId := 22
abbrev id_law12_GreatOps : FuncId := 23
abbrev id_take_Take_none : FuncId := 24
abbrev id_slices_Clone_api_Op_api_Op : FuncId := 25
abbrev id_batch_each : FuncId := 26
abbrev id_batch_Right_1 : FuncId := 27
abbrev id_path_Cut : FuncId := 28
abbrev id_law13_GreatPairs : FuncId := 29
abbrev id_slices_Equal_api_Op_api_Op : FuncId := 30
abbrev id_strings_Cut : FuncId := 31
abbrev id_path_named : FuncId := 32
abbrev id_path_key : FuncId := 33
abbrev id_internal_stringslite_Cut : FuncId := 34
abbrev id_strings_IndexByte : FuncId := 35
abbrev id_internal_stringslite_Index : FuncId := 36
abbrev id_internal_stringslite_IndexByte : FuncId := 37
abbrev id_internal_bytealg_IndexString : FuncId := 38
abbrev id_internal_bytealg_Cutover : FuncId := 39
abbrev id_internal_bytealg_IndexRabinKarp_string : FuncId := 40
abbrev id_internal_bytealg_IndexByteString : FuncId := 41
abbrev id_internal_bytealg_hashStr_string : FuncId := 42
abbrev T_api_Batch : TypeId := 25
abbrev T_api_Op : TypeId := 62
abbrev T_take_Take : TypeId := 66
/- twinlock/twinlocklaw21.TakeQuiet -/
set_option maxRecDepth 100000 in
def F_law21_TakeQuiet (atv : Int) (epoch : Int) (lA : Option Addr) (lN lC : Nat) (m0 : Int) (m1 : Int) (m2 : Int) (m3 : Int) (m4 : Int) (m5 : Int) (m6A : Option Addr) (m6N m6C : Nat) (m7 : Int) (m8 : List Int) (m9 : Int) (m10 : Int) (m11 : List Int) (m12 : List Int) (m13A : Option Addr) (m13N m13C : Nat) (K : Value → PH → Prop) (h : PH) : Prop :=
  JoinP (T := Unit) (fun Jv =>
    CallH Try.prog id_law21_Great [.slice lA lN lC] (fun v h2 =>
      ∃ t : Bool, v = .bool t ∧
      ((t = false →
          CallH Try.prog id_law21_GreatMsg [.agg ((.int .u8 m0 :: (.int .i64 m1 :: (.int .i64 m2 :: (.int .i64 m3 :: (.int .i64 m4 :: (.int .i64 m5 :: (.slice m6A m6N m6C :: (.int .i64 m7 :: (m8.map (Value.int .u8) ++ (.int .i64 m9 :: (.int .i64 m10 :: (m11.map (Value.int .u8) ++ (m12.map (Value.int .u8) ++ [.slice m13A m13N m13C])))))))))))))).toArray] (fun v_1 h3 =>
            ∃ t_1 : Bool, v_1 = .bool t_1 ∧
            ((t_1 = true →
                CallH Try.prog id_law21_wakes [] (fun v_2 h4 =>
                  ∃ t_2 : Bool, v_2 = .bool t_2 ∧
                  K (.bool t_2) h4) h3) ∧
              (t_1 = false →
                Jv (()) h3))) h2) ∧
        (t = true →
          CallH Try.prog id_law21_wakes [] (fun v_3 h5 =>
            ∃ t_3 : Bool, v_3 = .bool t_3 ∧
            K (.bool t_3) h5) h2))) h)
  (fun _ h1 =>
    CallH Try.prog id_take_New [.int .i64 atv, .int .i64 epoch] (fun v_4 h6 =>
      ∃ t_4 : Option Addr, v_4 = .pointer t_4 ∧
      LoopP (T := Int × Unit) (fun Jv_1 st_1 h7 =>
        (((decide (st_1.1 < ((lN : Nat) : Int))) = true →
            ∃ bv ov : Nat, (lA = some ⟨bv, ov, none⟩ ∧ 0 ≤ st_1.1 ∧ st_1.1 < (lN : Nat)) ∧
            ∃ t_5 : Int, (h7.rds bv (ov + st_1.1.toNat * 108) 1 = some [.int .u8 t_5]) ∧
            (((t_5 == (0 : Int)) = true →
                ∃ bv_1 ov_1 : Nat, (lA = some ⟨bv_1, ov_1, none⟩ ∧ 0 ≤ st_1.1 ∧ st_1.1 < (lN : Nat)) ∧
                ∃ t0 : Int, ∃ t1 : Int, ∃ t2 : Int, ∃ t3 : Int, ∃ t4 : Int, ∃ t5 : Int, ∃ (t6A : Option Addr) (t6N t6C : Nat), ∃ t7 : Int, ∃ t8 : List Int, t8.length = 32 ∧ ∃ t9 : Int, ∃ t10 : Int, ∃ t11 : List Int, t11.length = 32 ∧ ∃ t12 : List Int, t12.length = 32 ∧ ∃ (t13A : Option Addr) (t13N t13C : Nat), (h7.rds bv_1 ((ov_1 + st_1.1.toNat * 108) + 1) 107 = some (.int .u8 t0 :: (.int .i64 t1 :: (.int .i64 t2 :: (.int .i64 t3 :: (.int .i64 t4 :: (.int .i64 t5 :: (.slice t6A t6N t6C :: (.int .i64 t7 :: (t8.map (Value.int .u8) ++ (.int .i64 t9 :: (.int .i64 t10 :: (t11.map (Value.int .u8) ++ (t12.map (Value.int .u8) ++ [.slice t13A t13N t13C])))))))))))))) ∧
                CallH Try.prog id_take_Take_Put [.pointer t_4, .agg ((.int .u8 t0 :: (.int .i64 t1 :: (.int .i64 t2 :: (.int .i64 t3 :: (.int .i64 t4 :: (.int .i64 t5 :: (.slice t6A t6N t6C :: (.int .i64 t7 :: (t8.map (Value.int .u8) ++ (.int .i64 t9 :: (.int .i64 t10 :: (t11.map (Value.int .u8) ++ (t12.map (Value.int .u8) ++ [.slice t13A t13N t13C])))))))))))))).toArray] (fun v_5 h8 =>
                  ∃ t_6 : Bool, v_5 = .bool t_6 ∧
                  Jv_1 ((IntKind.wrap .i64 (st_1.1 + (1 : Int))), ()) h8) h7) ∧
              ((t_5 == (0 : Int)) = false →
                (((t_5 == (2 : Int)) = true →
                    CallH Try.prog id_take_Take_Done [.pointer t_4] (fun v_6 h9 =>
                      ∃ t_7 : Int, v_6 = .int .i64 t_7 ∧
                      Jv_1 ((IntKind.wrap .i64 (st_1.1 + (1 : Int))), ()) h9) h7) ∧
                  ((t_5 == (2 : Int)) = false →
                    Jv_1 ((IntKind.wrap .i64 (st_1.1 + (1 : Int))), ()) h7))))) ∧
          ((decide (st_1.1 < ((lN : Nat) : Int))) = false →
            CallH Try.prog id_take_Take_Waits [.pointer t_4] (fun v_7 h10 =>
              ∃ n : Int, v_7 = .int .i64 n ∧
              CallH Try.prog id_take_Take_Place [.pointer t_4] (fun v_8 h11 =>
                ∃ t0_1 : Int, ∃ t1_1 : Int, v_8 = .tuple #[.int .i64 t0_1, .int .i64 t1_1] ∧
                CallH Try.prog id_take_Take_Put [.pointer t_4, .agg ((.int .u8 m0 :: (.int .i64 m1 :: (.int .i64 m2 :: (.int .i64 m3 :: (.int .i64 m4 :: (.int .i64 m5 :: (.slice m6A m6N m6C :: (.int .i64 m7 :: (m8.map (Value.int .u8) ++ (.int .i64 m9 :: (.int .i64 m10 :: (m11.map (Value.int .u8) ++ (m12.map (Value.int .u8) ++ [.slice m13A m13N m13C])))))))))))))).toArray] (fun v_9 h12 =>
                  ∃ ok : Bool, v_9 = .bool ok ∧
                  CallH Try.prog id_take_Take_Place [.pointer t_4] (fun v_10 h13 =>
                    ∃ t0_2 : Int, ∃ t1_2 : Int, v_10 = .tuple #[.int .i64 t0_2, .int .i64 t1_2] ∧
                    ((((t0_1 != t0_2) || (t1_1 != t1_2)) = true →
                        K (.bool false) h13) ∧
                      (((t0_1 != t0_2) || (t1_1 != t1_2)) = false →
                        (((!ok) = true →
                            CallH Try.prog id_take_Take_Waits [.pointer t_4] (fun v_11 h14 =>
                              ∃ t_8 : Int, v_11 = .int .i64 t_8 ∧
                              (((t_8 == n) = true →
                                  CallH Try.prog id_law21_wakes [] (fun v_12 h15 =>
                                    ∃ t_9 : Bool, v_12 = .bool t_9 ∧
                                    K (.bool t_9) h15) h14) ∧
                                ((t_8 == n) = false →
                                  K (.bool false) h14))) h13) ∧
                          ((!ok) = false →
                            (((m0 == (2 : Int)) = true →
                                CallH Try.prog id_batch_Right [.agg #[.int .i64 m4, .int .i64 m5, .slice m6A m6N m6C]] (fun v_13 h16 =>
                                  ∃ t_10 : Int, v_13 = .int .i64 t_10 ∧
                                  ((((((t_10 == (0 : Int)) && (decide (m4 > t0_1))) && (decide ((IntKind.wrap .i64 (m4 - t0_1)) ≤ (64 : Int)))) && (decide (m7 ≥ (0 : Int)))) = true →
                                      CallH Try.prog id_take_Take_Waits [.pointer t_4] (fun v_14 h17 =>
                                        ∃ t_11 : Int, v_14 = .int .i64 t_11 ∧
                                        (((t_11 == (IntKind.wrap .i64 (n + (1 : Int)))) = true →
                                            CallH Try.prog id_take_Take_Put [.pointer t_4, .agg ((.int .u8 m0 :: (.int .i64 m1 :: (.int .i64 m2 :: (.int .i64 m3 :: (.int .i64 m4 :: (.int .i64 m5 :: (.slice m6A m6N m6C :: (.int .i64 m7 :: (m8.map (Value.int .u8) ++ (.int .i64 m9 :: (.int .i64 m10 :: (m11.map (Value.int .u8) ++ (m12.map (Value.int .u8) ++ [.slice m13A m13N m13C])))))))))))))).toArray] (fun v_15 h18 =>
                                              ∃ t_12 : Bool, v_15 = .bool t_12 ∧
                                              (((!t_12) = true →
                                                  CallH Try.prog id_law21_wakes [] (fun v_16 h19 =>
                                                    ∃ t_13 : Bool, v_16 = .bool t_13 ∧
                                                    K (.bool t_13) h19) h18) ∧
                                                ((!t_12) = false →
                                                  K (.bool false) h18))) h17) ∧
                                          ((t_11 == (IntKind.wrap .i64 (n + (1 : Int)))) = false →
                                            K (.bool false) h17))) h16) ∧
                                    (((((t_10 == (0 : Int)) && (decide (m4 > t0_1))) && (decide ((IntKind.wrap .i64 (m4 - t0_1)) ≤ (64 : Int)))) && (decide (m7 ≥ (0 : Int)))) = false →
                                      K (.bool false) h16))) h13) ∧
                              ((m0 == (2 : Int)) = false →
                                K (.bool false) h13))))))) h12) h11) h10) h7))) ((0 : Int), ()) h6) h1)
set_option maxRecDepth 100000 in
theorem F_law21_TakeQuiet_eq {atv : Int} {epoch : Int} {lA : Option Addr} {lN lC : Nat} {m0 : Int} {m1 : Int} {m2 : Int} {m3 : Int} {m4 : Int} {m5 : Int} {m6A : Option Addr} {m6N m6C : Nat} {m7 : Int} {m8 : List Int} {m9 : Int} {m10 : Int} {m11 : List Int} {m12 : List Int} {m13A : Option Addr} {m13N m13C : Nat} {K : Value → PH → Prop} {h : PH} : @Eq Prop (F_law21_TakeQuiet atv epoch lA lN lC m0 m1 m2 m3 m4 m5 m6A m6N m6C m7 m8 m9 m10 m11 m12 m13A m13N m13C K h) (denF Try.prog Try.f3 ⟨[7], [], [(0, ⟨[(10, .int .i64)], [], []⟩)], [(8, ⟨[], [], []⟩)]⟩ [.v (.int .i64 atv), .v (.int .i64 epoch), .v (.slice lA lN lC), .agg [.one (.int .u8 m0), .one (.int .i64 m1), .one (.int .i64 m2), .one (.int .i64 m3), .one (.int .i64 m4), .one (.int .i64 m5), .one (.slice m6A m6N m6C), .one (.int .i64 m7), .ints .u8 32 m8, .one (.int .i64 m9), .one (.int .i64 m10), .ints .u8 32 m11, .ints .u8 32 m12, .one (.slice m13A m13N m13C)]] K h) := by
  kernel_rfl
theorem F_law21_TakeQuiet_ok {atv : Int} {epoch : Int} {lA : Option Addr} {lN lC : Nat} {m0 : Int} {m1 : Int} {m2 : Int} {m3 : Int} {m4 : Int} {m5 : Int} {m6A : Option Addr} {m6N m6C : Nat} {m7 : Int} {m8 : List Int} {m9 : Int} {m10 : Int} {m11 : List Int} {m12 : List Int} {m13A : Option Addr} {m13N m13C : Nat} (hk0 : m8.length = 32) (hk1 : m11.length = 32) (hk2 : m12.length = 32) {K : Value → PH → Prop} {h : PH} (hh : F_law21_TakeQuiet atv epoch lA lN lC m0 m1 m2 m3 m4 m5 m6A m6N m6C m7 m8 m9 m10 m11 m12 m13A m13N m13C K h) : CallH Try.prog id_law21_TakeQuiet [.int .i64 atv, .int .i64 epoch, .slice lA lN lC, .agg ((.int .u8 m0 :: (.int .i64 m1 :: (.int .i64 m2 :: (.int .i64 m3 :: (.int .i64 m4 :: (.int .i64 m5 :: (.slice m6A m6N m6C :: (.int .i64 m7 :: (m8.map (Value.int .u8) ++ (.int .i64 m9 :: (.int .i64 m10 :: (m11.map (Value.int .u8) ++ (m12.map (Value.int .u8) ++ [.slice m13A m13N m13C])))))))))))))).toArray] K h :=
  denF_sound' Try.func3 (H := ⟨[7], [], [(0, ⟨[(10, .int .i64)], [], []⟩)], [(8, ⟨[], [], []⟩)]⟩) (xs := [.v (.int .i64 atv), .v (.int .i64 epoch), .v (.slice lA lN lC), .agg [.one (.int .u8 m0), .one (.int .i64 m1), .one (.int .i64 m2), .one (.int .i64 m3), .one (.int .i64 m4), .one (.int .i64 m5), .one (.slice m6A m6N m6C), .one (.int .i64 m7), .ints .u8 32 m8, .one (.int .i64 m9), .one (.int .i64 m10), .ints .u8 32 m11, .ints .u8 32 m12, .one (.slice m13A m13N m13C)]]) (by kernel_rfl) (⟨rfl, rfl, rfl, ⟨rfl, rfl, rfl, rfl, rfl, rfl, rfl, rfl, hk0, rfl, rfl, hk1, hk2, rfl, trivial⟩, trivial⟩) (den_of F_law21_TakeQuiet_eq hh)

/- twinlock/twinlocklaw21.TakeKnown -/
set_option maxRecDepth 100000 in
def F_law21_TakeKnown  (K : Value → PH → Prop) (h : PH) : Prop :=
  CallH Try.prog id_take_New [.int .i64 (0 : Int), .int .i64 (0 : Int)] (fun v h1 =>
    ∃ t : Option Addr, v = .pointer t ∧
    CallH Try.prog id_law21_entry [.int .i64 (2 : Int), .int .i64 (1 : Int), .int .i64 (1 : Int), .slice none 0 0] (fun v_1 h2 =>
      ∃ t0 : Int, ∃ t1 : Int, ∃ t2 : Int, ∃ t3 : Int, ∃ t4 : Int, ∃ t5 : Int, ∃ (t6A : Option Addr) (t6N t6C : Nat), ∃ t7 : Int, ∃ t8 : List Int, t8.length = 32 ∧ ∃ t9 : Int, ∃ t10 : Int, ∃ t11 : List Int, t11.length = 32 ∧ ∃ t12 : List Int, t12.length = 32 ∧ ∃ (t13A : Option Addr) (t13N t13C : Nat), v_1 = .agg ((.int .u8 t0 :: (.int .i64 t1 :: (.int .i64 t2 :: (.int .i64 t3 :: (.int .i64 t4 :: (.int .i64 t5 :: (.slice t6A t6N t6C :: (.int .i64 t7 :: (t8.map (Value.int .u8) ++ (.int .i64 t9 :: (.int .i64 t10 :: (t11.map (Value.int .u8) ++ (t12.map (Value.int .u8) ++ [.slice t13A t13N t13C])))))))))))))).toArray ∧
      CallH Try.prog id_take_Take_Put [.pointer t, .agg ((.int .u8 t0 :: (.int .i64 t1 :: (.int .i64 t2 :: (.int .i64 t3 :: (.int .i64 t4 :: (.int .i64 t5 :: (.slice t6A t6N t6C :: (.int .i64 t7 :: (t8.map (Value.int .u8) ++ (.int .i64 t9 :: (.int .i64 t10 :: (t11.map (Value.int .u8) ++ (t12.map (Value.int .u8) ++ [.slice t13A t13N t13C])))))))))))))).toArray] (fun v_2 h3 =>
        ∃ a : Bool, v_2 = .bool a ∧
        CallH Try.prog id_take_Take_Gap [.pointer t] (fun v_3 h4 =>
          ∃ gap : Bool, v_3 = .bool gap ∧
          CallH Try.prog id_take_Take_Next [.pointer t] (fun v_4 h5 =>
            ∃ t00 : Int, ∃ t01 : Int, ∃ (t02A : Option Addr) (t02N t02C : Nat), ∃ t1_1 : Bool, v_4 = .tuple #[.agg #[.int .i64 t00, .int .i64 t01, .slice t02A t02N t02C], .bool t1_1] ∧
            CallH Try.prog id_law21_entry [.int .i64 (1 : Int), .int .i64 (1 : Int), .int .i64 (0 : Int), .slice none 0 0] (fun v_5 h6 =>
              ∃ t0_1 : Int, ∃ t1_2 : Int, ∃ t2_1 : Int, ∃ t3_1 : Int, ∃ t4_1 : Int, ∃ t5_1 : Int, ∃ (t6A_1 : Option Addr) (t6N_1 t6C_1 : Nat), ∃ t7_1 : Int, ∃ t8_1 : List Int, t8_1.length = 32 ∧ ∃ t9_1 : Int, ∃ t10_1 : Int, ∃ t11_1 : List Int, t11_1.length = 32 ∧ ∃ t12_1 : List Int, t12_1.length = 32 ∧ ∃ (t13A_1 : Option Addr) (t13N_1 t13C_1 : Nat), v_5 = .agg ((.int .u8 t0_1 :: (.int .i64 t1_2 :: (.int .i64 t2_1 :: (.int .i64 t3_1 :: (.int .i64 t4_1 :: (.int .i64 t5_1 :: (.slice t6A_1 t6N_1 t6C_1 :: (.int .i64 t7_1 :: (t8_1.map (Value.int .u8) ++ (.int .i64 t9_1 :: (.int .i64 t10_1 :: (t11_1.map (Value.int .u8) ++ (t12_1.map (Value.int .u8) ++ [.slice t13A_1 t13N_1 t13C_1])))))))))))))).toArray ∧
              CallH Try.prog id_take_Take_Put [.pointer t, .agg ((.int .u8 t0_1 :: (.int .i64 t1_2 :: (.int .i64 t2_1 :: (.int .i64 t3_1 :: (.int .i64 t4_1 :: (.int .i64 t5_1 :: (.slice t6A_1 t6N_1 t6C_1 :: (.int .i64 t7_1 :: (t8_1.map (Value.int .u8) ++ (.int .i64 t9_1 :: (.int .i64 t10_1 :: (t11_1.map (Value.int .u8) ++ (t12_1.map (Value.int .u8) ++ [.slice t13A_1 t13N_1 t13C_1])))))))))))))).toArray] (fun v_6 h7 =>
                ∃ bv : Bool, v_6 = .bool bv ∧
                CallH Try.prog id_law21_entry [.int .i64 (1 : Int), .int .i64 (1 : Int), .int .i64 (0 : Int), .slice none 0 0] (fun v_7 h8 =>
                  ∃ t0_2 : Int, ∃ t1_3 : Int, ∃ t2_2 : Int, ∃ t3_2 : Int, ∃ t4_2 : Int, ∃ t5_2 : Int, ∃ (t6A_2 : Option Addr) (t6N_2 t6C_2 : Nat), ∃ t7_2 : Int, ∃ t8_2 : List Int, t8_2.length = 32 ∧ ∃ t9_2 : Int, ∃ t10_2 : Int, ∃ t11_2 : List Int, t11_2.length = 32 ∧ ∃ t12_2 : List Int, t12_2.length = 32 ∧ ∃ (t13A_2 : Option Addr) (t13N_2 t13C_2 : Nat), v_7 = .agg ((.int .u8 t0_2 :: (.int .i64 t1_3 :: (.int .i64 t2_2 :: (.int .i64 t3_2 :: (.int .i64 t4_2 :: (.int .i64 t5_2 :: (.slice t6A_2 t6N_2 t6C_2 :: (.int .i64 t7_2 :: (t8_2.map (Value.int .u8) ++ (.int .i64 t9_2 :: (.int .i64 t10_2 :: (t11_2.map (Value.int .u8) ++ (t12_2.map (Value.int .u8) ++ [.slice t13A_2 t13N_2 t13C_2])))))))))))))).toArray ∧
                  CallH Try.prog id_take_Take_Put [.pointer t, .agg ((.int .u8 t0_2 :: (.int .i64 t1_3 :: (.int .i64 t2_2 :: (.int .i64 t3_2 :: (.int .i64 t4_2 :: (.int .i64 t5_2 :: (.slice t6A_2 t6N_2 t6C_2 :: (.int .i64 t7_2 :: (t8_2.map (Value.int .u8) ++ (.int .i64 t9_2 :: (.int .i64 t10_2 :: (t11_2.map (Value.int .u8) ++ (t12_2.map (Value.int .u8) ++ [.slice t13A_2 t13N_2 t13C_2])))))))))))))).toArray] (fun v_8 h9 =>
                    ∃ cv : Bool, v_8 = .bool cv ∧
                    CallH Try.prog id_take_Take_Next [.pointer t] (fun v_9 h10 =>
                      ∃ t00_1 : Int, ∃ t01_1 : Int, ∃ (t02A_1 : Option Addr) (t02N_1 t02C_1 : Nat), ∃ t1_4 : Bool, v_9 = .tuple #[.agg #[.int .i64 t00_1, .int .i64 t01_1, .slice t02A_1 t02N_1 t02C_1], .bool t1_4] ∧
                      CallH Try.prog id_take_Take_Done [.pointer t] (fun v_10 h11 =>
                        ∃ d : Int, v_10 = .int .i64 d ∧
                        CallH Try.prog id_take_Take_Place [.pointer t] (fun v_11 h12 =>
                          ∃ t0_3 : Int, ∃ t1_5 : Int, v_11 = .tuple #[.int .i64 t0_3, .int .i64 t1_5] ∧
                          CallH Try.prog id_take_Take_Next [.pointer t] (fun v_12 h13 =>
                            ∃ t00_2 : Int, ∃ t01_2 : Int, ∃ (t02A_2 : Option Addr) (t02N_2 t02C_2 : Nat), ∃ t1_6 : Bool, v_12 = .tuple #[.agg #[.int .i64 t00_2, .int .i64 t01_2, .slice t02A_2 t02N_2 t02C_2], .bool t1_6] ∧
                            CallH Try.prog id_take_Take_Done [.pointer t] (fun v_13 h14 =>
                              ∃ e : Int, v_13 = .int .i64 e ∧
                              CallH Try.prog id_take_Take_Done [.pointer t] (fun v_14 h15 =>
                                ∃ f : Int, v_14 = .int .i64 f ∧
                                CallH Try.prog id_take_Take_Ack [.pointer t, .int .i64 (5 : Int)] (fun v_15 h16 =>
                                  ∃ m0 : Int, ∃ m1 : Int, ∃ m2 : Int, ∃ m3 : Int, ∃ m4 : Int, ∃ m5 : Int, ∃ (m6A : Option Addr) (m6N m6C : Nat), ∃ m7 : Int, ∃ m8 : List Int, m8.length = 32 ∧ ∃ m9 : Int, ∃ m10 : Int, ∃ m11 : List Int, m11.length = 32 ∧ ∃ m12 : List Int, m12.length = 32 ∧ ∃ (m13A : Option Addr) (m13N m13C : Nat), v_15 = .agg ((.int .u8 m0 :: (.int .i64 m1 :: (.int .i64 m2 :: (.int .i64 m3 :: (.int .i64 m4 :: (.int .i64 m5 :: (.slice m6A m6N m6C :: (.int .i64 m7 :: (m8.map (Value.int .u8) ++ (.int .i64 m9 :: (.int .i64 m10 :: (m11.map (Value.int .u8) ++ (m12.map (Value.int .u8) ++ [.slice m13A m13N m13C])))))))))))))).toArray ∧
                                  CallH Try.prog id_law21_entry [.int .i64 (1 : Int), .int .i64 (1 : Int), .int .i64 (0 : Int), .slice none 0 0] (fun v_16 h17 =>
                                    ∃ t0_4 : Int, ∃ t1_7 : Int, ∃ t2_3 : Int, ∃ t3_3 : Int, ∃ t4_3 : Int, ∃ t5_3 : Int, ∃ (t6A_3 : Option Addr) (t6N_3 t6C_3 : Nat), ∃ t7_3 : Int, ∃ t8_3 : List Int, t8_3.length = 32 ∧ ∃ t9_3 : Int, ∃ t10_3 : Int, ∃ t11_3 : List Int, t11_3.length = 32 ∧ ∃ t12_3 : List Int, t12_3.length = 32 ∧ ∃ (t13A_3 : Option Addr) (t13N_3 t13C_3 : Nat), v_16 = .agg ((.int .u8 t0_4 :: (.int .i64 t1_7 :: (.int .i64 t2_3 :: (.int .i64 t3_3 :: (.int .i64 t4_3 :: (.int .i64 t5_3 :: (.slice t6A_3 t6N_3 t6C_3 :: (.int .i64 t7_3 :: (t8_3.map (Value.int .u8) ++ (.int .i64 t9_3 :: (.int .i64 t10_3 :: (t11_3.map (Value.int .u8) ++ (t12_3.map (Value.int .u8) ++ [.slice t13A_3 t13N_3 t13C_3])))))))))))))).toArray ∧
                                    CallH Try.prog id_take_Take_Put [.pointer t, .agg ((.int .u8 t0_4 :: (.int .i64 t1_7 :: (.int .i64 t2_3 :: (.int .i64 t3_3 :: (.int .i64 t4_3 :: (.int .i64 t5_3 :: (.slice t6A_3 t6N_3 t6C_3 :: (.int .i64 t7_3 :: (t8_3.map (Value.int .u8) ++ (.int .i64 t9_3 :: (.int .i64 t10_3 :: (t11_3.map (Value.int .u8) ++ (t12_3.map (Value.int .u8) ++ [.slice t13A_3 t13N_3 t13C_3])))))))))))))).toArray] (fun v_17 h18 =>
                                      ∃ g : Bool, v_17 = .bool g ∧
                                      CallH Try.prog id_law21_entry [.int .i64 (67 : Int), .int .i64 (1 : Int), .int .i64 (1 : Int), .slice none 0 0] (fun v_18 h19 =>
                                        ∃ t0_5 : Int, ∃ t1_8 : Int, ∃ t2_4 : Int, ∃ t3_4 : Int, ∃ t4_4 : Int, ∃ t5_4 : Int, ∃ (t6A_4 : Option Addr) (t6N_4 t6C_4 : Nat), ∃ t7_4 : Int, ∃ t8_4 : List Int, t8_4.length = 32 ∧ ∃ t9_4 : Int, ∃ t10_4 : Int, ∃ t11_4 : List Int, t11_4.length = 32 ∧ ∃ t12_4 : List Int, t12_4.length = 32 ∧ ∃ (t13A_4 : Option Addr) (t13N_4 t13C_4 : Nat), v_18 = .agg ((.int .u8 t0_5 :: (.int .i64 t1_8 :: (.int .i64 t2_4 :: (.int .i64 t3_4 :: (.int .i64 t4_4 :: (.int .i64 t5_4 :: (.slice t6A_4 t6N_4 t6C_4 :: (.int .i64 t7_4 :: (t8_4.map (Value.int .u8) ++ (.int .i64 t9_4 :: (.int .i64 t10_4 :: (t11_4.map (Value.int .u8) ++ (t12_4.map (Value.int .u8) ++ [.slice t13A_4 t13N_4 t13C_4])))))))))))))).toArray ∧
                                        CallH Try.prog id_take_Take_Put [.pointer t, .agg ((.int .u8 t0_5 :: (.int .i64 t1_8 :: (.int .i64 t2_4 :: (.int .i64 t3_4 :: (.int .i64 t4_4 :: (.int .i64 t5_4 :: (.slice t6A_4 t6N_4 t6C_4 :: (.int .i64 t7_4 :: (t8_4.map (Value.int .u8) ++ (.int .i64 t9_4 :: (.int .i64 t10_4 :: (t11_4.map (Value.int .u8) ++ (t12_4.map (Value.int .u8) ++ [.slice t13A_4 t13N_4 t13C_4])))))))))))))).toArray] (fun v_19 h20 =>
                                          ∃ hv : Bool, v_19 = .bool hv ∧
                                          CallH Try.prog id_law21_entry [.int .i64 (66 : Int), .int .i64 (1 : Int), .int .i64 (1 : Int), .slice none 0 0] (fun v_20 h21 =>
                                            ∃ t0_6 : Int, ∃ t1_9 : Int, ∃ t2_5 : Int, ∃ t3_5 : Int, ∃ t4_5 : Int, ∃ t5_5 : Int, ∃ (t6A_5 : Option Addr) (t6N_5 t6C_5 : Nat), ∃ t7_5 : Int, ∃ t8_5 : List Int, t8_5.length = 32 ∧ ∃ t9_5 : Int, ∃ t10_5 : Int, ∃ t11_5 : List Int, t11_5.length = 32 ∧ ∃ t12_5 : List Int, t12_5.length = 32 ∧ ∃ (t13A_5 : Option Addr) (t13N_5 t13C_5 : Nat), v_20 = .agg ((.int .u8 t0_6 :: (.int .i64 t1_9 :: (.int .i64 t2_5 :: (.int .i64 t3_5 :: (.int .i64 t4_5 :: (.int .i64 t5_5 :: (.slice t6A_5 t6N_5 t6C_5 :: (.int .i64 t7_5 :: (t8_5.map (Value.int .u8) ++ (.int .i64 t9_5 :: (.int .i64 t10_5 :: (t11_5.map (Value.int .u8) ++ (t12_5.map (Value.int .u8) ++ [.slice t13A_5 t13N_5 t13C_5])))))))))))))).toArray ∧
                                            CallH Try.prog id_take_Take_Put [.pointer t, .agg ((.int .u8 t0_6 :: (.int .i64 t1_9 :: (.int .i64 t2_5 :: (.int .i64 t3_5 :: (.int .i64 t4_5 :: (.int .i64 t5_5 :: (.slice t6A_5 t6N_5 t6C_5 :: (.int .i64 t7_5 :: (t8_5.map (Value.int .u8) ++ (.int .i64 t9_5 :: (.int .i64 t10_5 :: (t11_5.map (Value.int .u8) ++ (t12_5.map (Value.int .u8) ++ [.slice t13A_5 t13N_5 t13C_5])))))))))))))).toArray] (fun v_21 h22 =>
                                              ∃ i : Bool, v_21 = .bool i ∧
                                              CallH Try.prog id_law21_entry [.int .i64 (3 : Int), .int .i64 (2 : Int), .int .i64 (9 : Int), .slice none 0 0] (fun v_22 h23 =>
                                                ∃ t0_7 : Int, ∃ t1_10 : Int, ∃ t2_6 : Int, ∃ t3_6 : Int, ∃ t4_6 : Int, ∃ t5_6 : Int, ∃ (t6A_6 : Option Addr) (t6N_6 t6C_6 : Nat), ∃ t7_6 : Int, ∃ t8_6 : List Int, t8_6.length = 32 ∧ ∃ t9_6 : Int, ∃ t10_6 : Int, ∃ t11_6 : List Int, t11_6.length = 32 ∧ ∃ t12_6 : List Int, t12_6.length = 32 ∧ ∃ (t13A_6 : Option Addr) (t13N_6 t13C_6 : Nat), v_22 = .agg ((.int .u8 t0_7 :: (.int .i64 t1_10 :: (.int .i64 t2_6 :: (.int .i64 t3_6 :: (.int .i64 t4_6 :: (.int .i64 t5_6 :: (.slice t6A_6 t6N_6 t6C_6 :: (.int .i64 t7_6 :: (t8_6.map (Value.int .u8) ++ (.int .i64 t9_6 :: (.int .i64 t10_6 :: (t11_6.map (Value.int .u8) ++ (t12_6.map (Value.int .u8) ++ [.slice t13A_6 t13N_6 t13C_6])))))))))))))).toArray ∧
                                                CallH Try.prog id_take_Take_Put [.pointer t, .agg ((.int .u8 t0_7 :: (.int .i64 t1_10 :: (.int .i64 t2_6 :: (.int .i64 t3_6 :: (.int .i64 t4_6 :: (.int .i64 t5_6 :: (.slice t6A_6 t6N_6 t6C_6 :: (.int .i64 t7_6 :: (t8_6.map (Value.int .u8) ++ (.int .i64 t9_6 :: (.int .i64 t10_6 :: (t11_6.map (Value.int .u8) ++ (t12_6.map (Value.int .u8) ++ [.slice t13A_6 t13N_6 t13C_6])))))))))))))).toArray] (fun v_23 h24 =>
                                                  ∃ j : Bool, v_23 = .bool j ∧
                                                  CallH Try.prog id_take_Take_Waits [.pointer t] (fun v_24 h25 =>
                                                    ∃ n : Int, v_24 = .int .i64 n ∧
                                                    CallH Try.prog id_take_Take_Next [.pointer t] (fun v_25 h26 =>
                                                      ∃ t00_3 : Int, ∃ t01_3 : Int, ∃ (t02A_3 : Option Addr) (t02N_3 t02C_3 : Nat), ∃ t1_11 : Bool, v_25 = .tuple #[.agg #[.int .i64 t00_3, .int .i64 t01_3, .slice t02A_3 t02N_3 t02C_3], .bool t1_11] ∧
                                                      CallH Try.prog id_law21_entry [.int .i64 (3 : Int), .int .i64 (2 : Int), .int .i64 (1 : Int), .slice none 0 0] (fun v_26 h27 =>
                                                        ∃ t0_8 : Int, ∃ t1_12 : Int, ∃ t2_7 : Int, ∃ t3_7 : Int, ∃ t4_7 : Int, ∃ t5_7 : Int, ∃ (t6A_7 : Option Addr) (t6N_7 t6C_7 : Nat), ∃ t7_7 : Int, ∃ t8_7 : List Int, t8_7.length = 32 ∧ ∃ t9_7 : Int, ∃ t10_7 : Int, ∃ t11_7 : List Int, t11_7.length = 32 ∧ ∃ t12_7 : List Int, t12_7.length = 32 ∧ ∃ (t13A_7 : Option Addr) (t13N_7 t13C_7 : Nat), v_26 = .agg ((.int .u8 t0_8 :: (.int .i64 t1_12 :: (.int .i64 t2_7 :: (.int .i64 t3_7 :: (.int .i64 t4_7 :: (.int .i64 t5_7 :: (.slice t6A_7 t6N_7 t6C_7 :: (.int .i64 t7_7 :: (t8_7.map (Value.int .u8) ++ (.int .i64 t9_7 :: (.int .i64 t10_7 :: (t11_7.map (Value.int .u8) ++ (t12_7.map (Value.int .u8) ++ [.slice t13A_7 t13N_7 t13C_7])))))))))))))).toArray ∧
                                                        CallH Try.prog id_take_Take_Put [.pointer t, .agg ((.int .u8 t0_8 :: (.int .i64 t1_12 :: (.int .i64 t2_7 :: (.int .i64 t3_7 :: (.int .i64 t4_7 :: (.int .i64 t5_7 :: (.slice t6A_7 t6N_7 t6C_7 :: (.int .i64 t7_7 :: (t8_7.map (Value.int .u8) ++ (.int .i64 t9_7 :: (.int .i64 t10_7 :: (t11_7.map (Value.int .u8) ++ (t12_7.map (Value.int .u8) ++ [.slice t13A_7 t13N_7 t13C_7])))))))))))))).toArray] (fun v_27 h28 =>
                                                          ∃ k : Bool, v_27 = .bool k ∧
                                                          CallH Try.prog id_take_Take_Put [.pointer t, .agg ((.int .u8 (4 : Int) :: (.int .i64 (0 : Int) :: (.int .i64 (0 : Int) :: (.int .i64 (0 : Int) :: (.int .i64 (4 : Int) :: (.int .i64 (2 : Int) :: (.slice none 0 0 :: (.int .i64 (0 : Int) :: ((List.replicate 32 0).map (Value.int .u8) ++ (.int .i64 (0 : Int) :: (.int .i64 (0 : Int) :: ((List.replicate 32 0).map (Value.int .u8) ++ ((List.replicate 32 0).map (Value.int .u8) ++ [.slice none 0 0])))))))))))))).toArray] (fun v_28 h29 =>
                                                            ∃ l : Bool, v_28 = .bool l ∧
                                                            JoinP (T := Bool × Unit) (fun Jv =>
                                                              CallH Try.prog id_law21_entry [.int .i64 (4 : Int), .int .i64 (0 : Int), .int .i64 (1 : Int), .slice none 0 0] (fun v_29 h31 =>
                                                                ∃ t0_9 : Int, ∃ t1_13 : Int, ∃ t2_8 : Int, ∃ t3_8 : Int, ∃ t4_8 : Int, ∃ t5_8 : Int, ∃ (t6A_8 : Option Addr) (t6N_8 t6C_8 : Nat), ∃ t7_8 : Int, ∃ t8_8 : List Int, t8_8.length = 32 ∧ ∃ t9_8 : Int, ∃ t10_8 : Int, ∃ t11_8 : List Int, t11_8.length = 32 ∧ ∃ t12_8 : List Int, t12_8.length = 32 ∧ ∃ (t13A_8 : Option Addr) (t13N_8 t13C_8 : Nat), v_29 = .agg ((.int .u8 t0_9 :: (.int .i64 t1_13 :: (.int .i64 t2_8 :: (.int .i64 t3_8 :: (.int .i64 t4_8 :: (.int .i64 t5_8 :: (.slice t6A_8 t6N_8 t6C_8 :: (.int .i64 t7_8 :: (t8_8.map (Value.int .u8) ++ (.int .i64 t9_8 :: (.int .i64 t10_8 :: (t11_8.map (Value.int .u8) ++ (t12_8.map (Value.int .u8) ++ [.slice t13A_8 t13N_8 t13C_8])))))))))))))).toArray ∧
                                                                CallH Try.prog id_take_Take_Put [.pointer t, .agg ((.int .u8 t0_9 :: (.int .i64 t1_13 :: (.int .i64 t2_8 :: (.int .i64 t3_8 :: (.int .i64 t4_8 :: (.int .i64 t5_8 :: (.slice t6A_8 t6N_8 t6C_8 :: (.int .i64 t7_8 :: (t8_8.map (Value.int .u8) ++ (.int .i64 t9_8 :: (.int .i64 t10_8 :: (t11_8.map (Value.int .u8) ++ (t12_8.map (Value.int .u8) ++ [.slice t13A_8 t13N_8 t13C_8])))))))))))))).toArray] (fun v_30 h32 =>
                                                                  ∃ t_1 : Bool, v_30 = .bool t_1 ∧
                                                                  ((t_1 = false →
                                                                      CallH Try.prog id_law21_entry [.int .i64 (4 : Int), .int .i64 (1 : Int), .int .i64 (-1 : Int), .slice none 0 0] (fun v_31 h33 =>
                                                                        ∃ t0_10 : Int, ∃ t1_14 : Int, ∃ t2_9 : Int, ∃ t3_9 : Int, ∃ t4_9 : Int, ∃ t5_9 : Int, ∃ (t6A_9 : Option Addr) (t6N_9 t6C_9 : Nat), ∃ t7_9 : Int, ∃ t8_9 : List Int, t8_9.length = 32 ∧ ∃ t9_9 : Int, ∃ t10_9 : Int, ∃ t11_9 : List Int, t11_9.length = 32 ∧ ∃ t12_9 : List Int, t12_9.length = 32 ∧ ∃ (t13A_9 : Option Addr) (t13N_9 t13C_9 : Nat), v_31 = .agg ((.int .u8 t0_10 :: (.int .i64 t1_14 :: (.int .i64 t2_9 :: (.int .i64 t3_9 :: (.int .i64 t4_9 :: (.int .i64 t5_9 :: (.slice t6A_9 t6N_9 t6C_9 :: (.int .i64 t7_9 :: (t8_9.map (Value.int .u8) ++ (.int .i64 t9_9 :: (.int .i64 t10_9 :: (t11_9.map (Value.int .u8) ++ (t12_9.map (Value.int .u8) ++ [.slice t13A_9 t13N_9 t13C_9])))))))))))))).toArray ∧
                                                                        CallH Try.prog id_take_Take_Put [.pointer t, .agg ((.int .u8 t0_10 :: (.int .i64 t1_14 :: (.int .i64 t2_9 :: (.int .i64 t3_9 :: (.int .i64 t4_9 :: (.int .i64 t5_9 :: (.slice t6A_9 t6N_9 t6C_9 :: (.int .i64 t7_9 :: (t8_9.map (Value.int .u8) ++ (.int .i64 t9_9 :: (.int .i64 t10_9 :: (t11_9.map (Value.int .u8) ++ (t12_9.map (Value.int .u8) ++ [.slice t13A_9 t13N_9 t13C_9])))))))))))))).toArray] (fun v_32 h34 =>
                                                                          ∃ t_2 : Bool, v_32 = .bool t_2 ∧
                                                                          Jv (t_2, ()) h34) h33) h32) ∧
                                                                    (t_1 = true →
                                                                      Jv (true, ()) h32))) h31) h29)
                                                            (fun st h30 =>
                                                              CallH Try.prog id_take_New [.int .i64 (-5 : Int), .int .i64 (3 : Int)] (fun v_33 h35 =>
                                                                ∃ u : Option Addr, v_33 = .pointer u ∧
                                                                CallH Try.prog id_take_Take_Place [.pointer u] (fun v_34 h36 =>
                                                                  ∃ t0_11 : Int, ∃ t1_15 : Int, v_34 = .tuple #[.int .i64 t0_11, .int .i64 t1_15] ∧
                                                                  (((((((((((((((((((((((((a && gap) && (!t1_1)) && bv) && (!cv)) && t1_4) && (t00_1 == (1 : Int))) && (d == (0 : Int))) && (t0_3 == (1 : Int))) && (t1_5 == (1 : Int))) && t1_6) && (t00_2 == (2 : Int))) && (e == (0 : Int))) && (f == (4 : Int))) && (m0 == (3 : Int))) && (m1 == (5 : Int))) && (m2 == (2 : Int))) && (m3 == (1 : Int))) && (!g)) && (!hv)) && i) && j) && (n == (2 : Int))) && (!t1_11)) = true →
                                                                      CallH Try.prog id_take_Take_Waits [.pointer t] (fun v_35 h37 =>
                                                                        ∃ t_3 : Int, v_35 = .int .i64 t_3 ∧
                                                                        ((((((((t_3 == (2 : Int)) && k) && (!l)) && (!st.1)) && (t0_11 == (0 : Int))) && (t1_15 == (3 : Int))) = true →
                                                                            CallH Try.prog id_law21_wakes [] (fun v_36 h38 =>
                                                                              ∃ t_4 : Bool, v_36 = .bool t_4 ∧
                                                                              K (.bool t_4) h38) h37) ∧
                                                                          (((((((t_3 == (2 : Int)) && k) && (!l)) && (!st.1)) && (t0_11 == (0 : Int))) && (t1_15 == (3 : Int))) = false →
                                                                            K (.bool false) h37))) h36) ∧
                                                                    ((((((((((((((((((((((((a && gap) && (!t1_1)) && bv) && (!cv)) && t1_4) && (t00_1 == (1 : Int))) && (d == (0 : Int))) && (t0_3 == (1 : Int))) && (t1_5 == (1 : Int))) && t1_6) && (t00_2 == (2 : Int))) && (e == (0 : Int))) && (f == (4 : Int))) && (m0 == (3 : Int))) && (m1 == (5 : Int))) && (m2 == (2 : Int))) && (m3 == (1 : Int))) && (!g)) && (!hv)) && i) && j) && (n == (2 : Int))) && (!t1_11)) = false →
                                                                      K (.bool false) h36))) h35) h30)) h28) h27) h26) h25) h24) h23) h22) h21) h20) h19) h18) h17) h16) h15) h14) h13) h12) h11) h10) h9) h8) h7) h6) h5) h4) h3) h2) h1) h
set_option maxRecDepth 100000 in
theorem F_law21_TakeKnown_eq  {K : Value → PH → Prop} {h : PH} : @Eq Prop (F_law21_TakeKnown  K h) (denF Try.prog Try.f4 ⟨[4, 8, 13, 17, 24], [], [], [(50, ⟨[(28, .bool)], [], []⟩)]⟩ [] K h) := by
  kernel_rfl
theorem F_law21_TakeKnown_ok   {K : Value → PH → Prop} {h : PH} (hh : F_law21_TakeKnown  K h) : CallH Try.prog id_law21_TakeKnown [] K h :=
  denF_sound' Try.func4 (H := ⟨[4, 8, 13, 17, 24], [], [], [(50, ⟨[(28, .bool)], [], []⟩)]⟩) (xs := []) (by kernel_rfl) (trivial) (den_of F_law21_TakeKnown_eq hh)

/- twinlock/twinlocklaw21.TakeRows -/
set_option maxRecDepth 100000 in
def F_law21_TakeRows (r0 : Int) (r1 : Int) (r2A : Option Addr) (r2N r2C : Nat) (r3A : Option Addr) (r3N r3C : Nat) (r4A : Option Addr) (r4N r4C : Nat) (orderA : Option Addr) (orderN _ : Nat) (K : Value → PH → Prop) (h : PH) : Prop :=
  CallH Try.prog id_law20_Great [.agg #[.int .i64 r0, .int .i64 r1, .slice r2A r2N r2C, .slice r3A r3N r3C, .slice r4A r4N r4C]] (fun v h1 =>
    ∃ t : Bool, v = .bool t ∧
    ((((t || (decide (((r2N : Nat) : Int) > (60 : Int)))) || (decide (((orderN : Nat) : Int) > (300 : Int)))) = true →
        CallH Try.prog id_law21_wakes [] (fun v_1 h2 =>
          ∃ t_1 : Bool, v_1 = .bool t_1 ∧
          K (.bool t_1) h2) h1) ∧
      (((t || (decide (((r2N : Nat) : Int) > (60 : Int)))) || (decide (((orderN : Nat) : Int) > (300 : Int)))) = false →
        CallH Try.prog id_law20_Made [.agg #[.int .i64 r0, .int .i64 r1, .slice r2A r2N r2C, .slice r3A r3N r3C, .slice r4A r4N r4C], .int .i64 (3 : Int)] (fun v_2 h3 =>
          ∃ v0 : Int, ∃ v1 : Int, ∃ v2 : Int, ∃ (v3A : Option Addr) (v3N v3C : Nat), ∃ v4 : Int, ∃ (v5A : Option Addr) (v5N v5C : Nat), v_2 = .agg #[.int .i64 v0, .int .i64 v1, .int .i64 v2, .slice v3A v3N v3C, .int .i64 v4, .slice v5A v5N v5C] ∧
          CallH Try.prog id_take_New [.int .i64 (IntKind.wrap .i64 (v1 - ((v3N : Nat) : Int))), .int .i64 v4] (fun v_3 h4 =>
            ∃ t_2 : Option Addr, v_3 = .pointer t_2 ∧
            newH h4 (.map #[] 0) fun bv h5 =>
            LoopP (T := Int × Unit) (fun Jv st h6 =>
              ((((decide (st.1 < ((orderN : Nat) : Int))) && (decide (((v3N : Nat) : Int) > (0 : Int)))) = true →
                  JoinP (T := Unit) (fun Jv_1 =>
                    ∃ bv_1 ov : Nat, (orderA = some ⟨bv_1, ov, none⟩ ∧ 0 ≤ st.1 ∧ st.1 < (orderN : Nat)) ∧
                    ∃ t_3 : Int, (h6.rds bv_1 (ov + st.1.toNat * 1) 1 = some [.int .i64 t_3]) ∧
                    (((v3N : Nat) : Int) ≠ 0) ∧
                    JoinP (T := Int × Unit) (fun Jv_2 =>
                      (((decide ((t_3.tmod ((v3N : Nat) : Int)) < (0 : Int))) = true →
                          Jv_2 ((IntKind.wrap .i64 ((t_3.tmod ((v3N : Nat) : Int)) + ((v3N : Nat) : Int))), ()) h6) ∧
                        ((decide ((t_3.tmod ((v3N : Nat) : Int)) < (0 : Int))) = false →
                          Jv_2 ((t_3.tmod ((v3N : Nat) : Int)), ()) h6)))
                    (fun st_2 h8 =>
                      ∃ bv_2 ov_1 : Nat, (v3A = some ⟨bv_2, ov_1, none⟩ ∧ 0 ≤ st_2.1 ∧ st_2.1 < (v3N : Nat)) ∧
                      ∃ b0 : Int, ∃ b1 : Int, ∃ (b2A : Option Addr) (b2N b2C : Nat), (h8.rds bv_2 (ov_1 + st_2.1.toNat * 3) 3 = some [.int .i64 b0, .int .i64 b1, .slice b2A b2N b2C]) ∧
                      JoinP (T := Int × Unit) (fun Jv_3 =>
                        (((decide (st_2.1 > (0 : Int))) = true →
                            ∃ bv_3 ov_2 : Nat, (v3A = some ⟨bv_3, ov_2, none⟩ ∧ 0 ≤ (IntKind.wrap .i64 (st_2.1 - (1 : Int))) ∧ (IntKind.wrap .i64 (st_2.1 - (1 : Int))) < (v3N : Nat)) ∧
                            ∃ prev : Int, (h8.rds bv_3 ((ov_2 + (IntKind.wrap .i64 (st_2.1 - (1 : Int))).toNat * 3) + 1) 1 = some [.int .i64 prev]) ∧
                            Jv_3 (prev, ()) h8) ∧
                          ((decide (st_2.1 > (0 : Int))) = false →
                            Jv_3 (v4, ()) h8)))
                      (fun st_3 h9 =>
                        CallH Try.prog id_take_Take_Place [.pointer t_2] (fun v_4 h10 =>
                          ∃ t0 : Int, ∃ t1 : Int, v_4 = .tuple #[.int .i64 t0, .int .i64 t1] ∧
                          CallH Try.prog id_batch_Right [.agg #[.int .i64 b0, .int .i64 b1, .slice b2A b2N b2C]] (fun v_5 h11 =>
                            ∃ t_4 : Int, v_5 = .int .i64 t_4 ∧
                            JoinP (T := Unit) (fun Jv_4 =>
                              CallH Try.prog id_take_Take_Put [.pointer t_2, .agg ((.int .u8 (2 : Int) :: (.int .i64 (3 : Int) :: (.int .i64 (0 : Int) :: (.int .i64 (0 : Int) :: (.int .i64 b0 :: (.int .i64 b1 :: (.slice b2A b2N b2C :: (.int .i64 st_3.1 :: ((List.replicate 32 0).map (Value.int .u8) ++ (.int .i64 (0 : Int) :: (.int .i64 (0 : Int) :: ((List.replicate 32 0).map (Value.int .u8) ++ ((List.replicate 32 0).map (Value.int .u8) ++ [.slice none 0 0])))))))))))))).toArray] (fun v_6 h13 =>
                                ∃ t_5 : Bool, v_6 = .bool t_5 ∧
                                ((((t_4 == (0 : Int)) && (decide (b0 > t0))) = true →
                                    ∃ t_6 : Int, ∃ ok : Bool, lkH (.int .i64) h13 (some bv) (.int .i64 b0) (.int .i64 (0 : Int)) (.int .i64 t_6) ok ∧
                                    (((!(t_5 == (t_6 == (0 : Int)))) = true →
                                        K (.bool false) h13) ∧
                                      ((!(t_5 == (t_6 == (0 : Int)))) = false →
                                        Jv_4 (()) h13))) ∧
                                  (((t_4 == (0 : Int)) && (decide (b0 > t0))) = false →
                                    (((!(t_5 == false)) = true →
                                        K (.bool false) h13) ∧
                                      ((!(t_5 == false)) = false →
                                        Jv_4 (()) h13))))) h11)
                            (fun _ h12 =>
                              JoinP (T := Unit) (fun Jv_5 =>
                                (((t_4 == (0 : Int)) = true →
                                    muH (.int .i64) h12 (some bv) (.int .i64 b0) (.int .i64 (1 : Int)) fun h15 =>
                                    Jv_5 (()) h15) ∧
                                  ((t_4 == (0 : Int)) = false →
                                    Jv_5 (()) h12)))
                              (fun _ h14 =>
                                ((((st.1.tmod (3 : Int)) != (0 : Int)) = true →
                                    Jv_1 (()) h14) ∧
                                  (((st.1.tmod (3 : Int)) != (0 : Int)) = false →
                                    LoopP (T := Unit) (fun Jv_6 _ h16 =>
                                      CallH Try.prog id_take_Take_Next [.pointer t_2] (fun v_7 h17 =>
                                        ∃ t00 : Int, ∃ t01 : Int, ∃ (t02A : Option Addr) (t02N t02C : Nat), ∃ t1_1 : Bool, v_7 = .tuple #[.agg #[.int .i64 t00, .int .i64 t01, .slice t02A t02N t02C], .bool t1_1] ∧
                                        (((!t1_1) = true →
                                            Jv_1 (()) h17) ∧
                                          ((!t1_1) = false →
                                            CallH Try.prog id_take_Take_Place [.pointer t_2] (fun v_8 h18 =>
                                              ∃ t0_1 : Int, ∃ t1_2 : Int, v_8 = .tuple #[.int .i64 t0_1, .int .i64 t1_2] ∧
                                              JoinP (T := Unit) (fun Jv_7 =>
                                                (((t00 != (IntKind.wrap .i64 (t0_1 + (1 : Int)))) = false →
                                                    ∃ t_7 : Int, ∃ ok_1 : Bool, lkH (.int .i64) h18 (some bv) (.int .i64 t00) (.int .i64 (0 : Int)) (.int .i64 t_7) ok_1 ∧
                                                    ∃ bv_4 ov_3 : Nat, (((t_7 == (0 : Int)) = false → v3A = some ⟨bv_4, ov_3, none⟩ ∧ 0 ≤ (IntKind.wrap .i64 ((IntKind.wrap .i64 (t00 - (IntKind.wrap .i64 (v1 - ((v3N : Nat) : Int))))) - (1 : Int))) ∧ (IntKind.wrap .i64 ((IntKind.wrap .i64 (t00 - (IntKind.wrap .i64 (v1 - ((v3N : Nat) : Int))))) - (1 : Int))) < (v3N : Nat))) ∧
                                                    ∃ t0_2 : Int, ∃ t1_3 : Int, ∃ (t2A : Option Addr) (t2N t2C : Nat), (((t_7 == (0 : Int)) = false → h18.rds bv_4 (ov_3 + (IntKind.wrap .i64 ((IntKind.wrap .i64 (t00 - (IntKind.wrap .i64 (v1 - ((v3N : Nat) : Int))))) - (1 : Int))).toNat * 3) 3 = some [.int .i64 t0_2, .int .i64 t1_3, .slice t2A t2N t2C])) ∧
                                                    (((t_7 == (0 : Int)) = false →
                                                        CallH Try.prog id_batch_Same [.agg #[.int .i64 t00, .int .i64 t01, .slice t02A t02N t02C], .agg #[.int .i64 t0_2, .int .i64 t1_3, .slice t2A t2N t2C]] (fun v_9 h20 =>
                                                          ∃ t_8 : Bool, v_9 = .bool t_8 ∧
                                                          (((!t_8) = false →
                                                              CallH Try.prog id_take_Take_Done [.pointer t_2] (fun v_10 h21 =>
                                                                ∃ t_9 : Int, v_10 = .int .i64 t_9 ∧
                                                                (((t_9 != (0 : Int)) = true →
                                                                    K (.bool false) h21) ∧
                                                                  ((t_9 != (0 : Int)) = false →
                                                                    Jv_7 (()) h21))) h20) ∧
                                                            ((!t_8) = true →
                                                              K (.bool false) h20))) h18) ∧
                                                      ((t_7 == (0 : Int)) = true →
                                                        K (.bool false) h18))) ∧
                                                  ((t00 != (IntKind.wrap .i64 (t0_1 + (1 : Int)))) = true →
                                                    K (.bool false) h18)))
                                              (fun _ h19 =>
                                                CallH Try.prog id_take_Take_Place [.pointer t_2] (fun v_11 h22 =>
                                                  ∃ t0_3 : Int, ∃ t1_4 : Int, v_11 = .tuple #[.int .i64 t0_3, .int .i64 t1_4] ∧
                                                  (((((t0_3 != (IntKind.wrap .i64 (t0_1 + (1 : Int)))) || (t1_4 != t01)) || (decide (t1_2 > t1_4))) = true →
                                                      K (.bool false) h22) ∧
                                                    ((((t0_3 != (IntKind.wrap .i64 (t0_1 + (1 : Int)))) || (t1_4 != t01)) || (decide (t1_2 > t1_4))) = false →
                                                      Jv_6 (()) h22))) h19)) h17))) h16) (()) h14))))) h10) h9)))
                  (fun _ h7 =>
                    Jv ((IntKind.wrap .i64 (st.1 + (1 : Int))), ()) h7)) ∧
                (((decide (st.1 < ((orderN : Nat) : Int))) && (decide (((v3N : Nat) : Int) > (0 : Int)))) = false →
                  JoinP (T := Unit) (fun Jv_8 =>
                    LoopP (T := Int × Unit) (fun Jv_9 st_9 h24 =>
                      (((decide (st_9.1 ≤ ((v3N : Nat) : Int))) = true →
                          CallH Try.prog id_take_Take_Done [.pointer t_2] (fun v_12 h25 =>
                            ∃ t_10 : Int, v_12 = .int .i64 t_10 ∧
                            (((t_10 == (0 : Int)) = true →
                                (((st_9.1 == ((v3N : Nat) : Int)) = true →
                                    K (.bool false) h25) ∧
                                  ((st_9.1 == ((v3N : Nat) : Int)) = false →
                                    Jv_9 ((IntKind.wrap .i64 (st_9.1 + (1 : Int))), ()) h25))) ∧
                              ((t_10 == (0 : Int)) = false →
                                Jv_8 (()) h25))) h24) ∧
                        ((decide (st_9.1 ≤ ((v3N : Nat) : Int))) = false →
                          Jv_8 (()) h24))) ((0 : Int), ()) h6)
                  (fun _ h23 =>
                    CallH Try.prog id_take_Take_Place [.pointer t_2] (fun v_13 h26 =>
                      ∃ t0_4 : Int, ∃ t1_5 : Int, v_13 = .tuple #[.int .i64 t0_4, .int .i64 t1_5] ∧
                      ∃ t_11 : Int, ∃ ok_2 : Bool, lkH (.int .i64) h26 (some bv) (.int .i64 (IntKind.wrap .i64 (t0_4 + (1 : Int)))) (.int .i64 (0 : Int)) (.int .i64 t_11) ok_2 ∧
                      (((t_11 == (0 : Int)) = true →
                          ((((t0_4 == v1) || (decide (((v3N : Nat) : Int) > (0 : Int)))) = true →
                              CallH Try.prog id_law21_wakes [] (fun v_14 h27 =>
                                ∃ t_12 : Bool, v_14 = .bool t_12 ∧
                                K (.bool t_12) h27) h26) ∧
                            (((t0_4 == v1) || (decide (((v3N : Nat) : Int) > (0 : Int)))) = false →
                              K (.bool false) h26))) ∧
                        ((t_11 == (0 : Int)) = false →
                          K (.bool false) h26))) h23)))) ((0 : Int), ()) h5) h3) h1))) h
set_option maxRecDepth 100000 in
theorem F_law21_TakeRows_eq {r0 : Int} {r1 : Int} {r2A : Option Addr} {r2N r2C : Nat} {r3A : Option Addr} {r3N r3C : Nat} {r4A : Option Addr} {r4N r4C : Nat} {orderA : Option Addr} {orderN orderC : Nat} {K : Value → PH → Prop} {h : PH} : @Eq Prop (F_law21_TakeRows r0 r1 r2A r2N r2C r3A r3N r3C r4A r4N r4C orderA orderN orderC K h) (denF Try.prog Try.f5 ⟨[2, 5, 11, 16], [], [(0, ⟨[(9, .int .i64)], [], []⟩), (2, ⟨[], [], []⟩), (4, ⟨[(22, .int .i64)], [], []⟩)], [(20, ⟨[], [], []⟩), (28, ⟨[(10, .int .i64)], [], []⟩), (36, ⟨[(12, .int .i64)], [], []⟩), (44, ⟨[], [], []⟩), (48, ⟨[], [], []⟩), (60, ⟨[], [], []⟩), (76, ⟨[], [], []⟩)]⟩ [.agg [.one (.int .i64 r0), .one (.int .i64 r1), .one (.slice r2A r2N r2C), .one (.slice r3A r3N r3C), .one (.slice r4A r4N r4C)], .v (.slice orderA orderN orderC)] K h) := by
  kernel_rfl
theorem F_law21_TakeRows_ok {r0 : Int} {r1 : Int} {r2A : Option Addr} {r2N r2C : Nat} {r3A : Option Addr} {r3N r3C : Nat} {r4A : Option Addr} {r4N r4C : Nat} {orderA : Option Addr} {orderN orderC : Nat}  {K : Value → PH → Prop} {h : PH} (hh : F_law21_TakeRows r0 r1 r2A r2N r2C r3A r3N r3C r4A r4N r4C orderA orderN orderC K h) : CallH Try.prog id_law21_TakeRows [.agg #[.int .i64 r0, .int .i64 r1, .slice r2A r2N r2C, .slice r3A r3N r3C, .slice r4A r4N r4C], .slice orderA orderN orderC] K h :=
  denF_sound' Try.func5 (H := ⟨[2, 5, 11, 16], [], [(0, ⟨[(9, .int .i64)], [], []⟩), (2, ⟨[], [], []⟩), (4, ⟨[(22, .int .i64)], [], []⟩)], [(20, ⟨[], [], []⟩), (28, ⟨[(10, .int .i64)], [], []⟩), (36, ⟨[(12, .int .i64)], [], []⟩), (44, ⟨[], [], []⟩), (48, ⟨[], [], []⟩), (60, ⟨[], [], []⟩), (76, ⟨[], [], []⟩)]⟩) (xs := [.agg [.one (.int .i64 r0), .one (.int .i64 r1), .one (.slice r2A r2N r2C), .one (.slice r3A r3N r3C), .one (.slice r4A r4N r4C)], .v (.slice orderA orderN orderC)]) (by kernel_rfl) (⟨⟨rfl, rfl, rfl, rfl, rfl, trivial⟩, rfl, trivial⟩) (den_of F_law21_TakeRows_eq hh)

/- twinlock/twinlocklaw21.TakeOwn -/
def F_law21_TakeOwn (opsA : Option Addr) (opsN opsC : Nat) (K : Value → PH → Prop) (h : PH) : Prop :=
  newH h (.cells #[.slice opsA opsN opsC] 23 (0, 0)) fun bv h1 =>
  CallH Try.prog id_law20_Great [.agg #[.int .i64 (0 : Int), .int .i64 (0 : Int), .slice (some ⟨bv, 0, none⟩) 1 1, .slice none 0 0, .slice none 0 0]] (fun v h2 =>
    ∃ t : Bool, v = .bool t ∧
    ((t = true →
        CallH Try.prog id_law21_wakes [] (fun v_1 h3 =>
          ∃ t_1 : Bool, v_1 = .bool t_1 ∧
          K (.bool t_1) h3) h2) ∧
      (t = false →
        newH h2 (.cells #[] T_api_Op (0, 0)) fun bv_1 h4 =>
        ∃ vs : List Value, srcH h4 opsA (opsN * 3) vs ∧
        appH T_api_Op 3 40 [.int .u8 (0 : Int), .string (⟨#[]⟩ : ByteArray), .string (⟨#[]⟩ : ByteArray)] (some ⟨bv_1, 0, none⟩) 0 0 opsN vs (fun inA inN inC h5 =>
          CallH Try.prog id_take_New [.int .i64 (0 : Int), .int .i64 (0 : Int)] (fun v_2 h6 =>
            ∃ t_2 : Option Addr, v_2 = .pointer t_2 ∧
            CallH Try.prog id_law21_entry [.int .i64 (1 : Int), .int .i64 (1 : Int), .int .i64 (0 : Int), .slice inA inN inC] (fun v_3 h7 =>
              ∃ t0 : Int, ∃ t1 : Int, ∃ t2 : Int, ∃ t3 : Int, ∃ t4 : Int, ∃ t5 : Int, ∃ (t6A : Option Addr) (t6N t6C : Nat), ∃ t7 : Int, ∃ t8 : List Int, t8.length = 32 ∧ ∃ t9 : Int, ∃ t10 : Int, ∃ t11 : List Int, t11.length = 32 ∧ ∃ t12 : List Int, t12.length = 32 ∧ ∃ (t13A : Option Addr) (t13N t13C : Nat), v_3 = .agg ((.int .u8 t0 :: (.int .i64 t1 :: (.int .i64 t2 :: (.int .i64 t3 :: (.int .i64 t4 :: (.int .i64 t5 :: (.slice t6A t6N t6C :: (.int .i64 t7 :: (t8.map (Value.int .u8) ++ (.int .i64 t9 :: (.int .i64 t10 :: (t11.map (Value.int .u8) ++ (t12.map (Value.int .u8) ++ [.slice t13A t13N t13C])))))))))))))).toArray ∧
              CallH Try.prog id_take_Take_Put [.pointer t_2, .agg ((.int .u8 t0 :: (.int .i64 t1 :: (.int .i64 t2 :: (.int .i64 t3 :: (.int .i64 t4 :: (.int .i64 t5 :: (.slice t6A t6N t6C :: (.int .i64 t7 :: (t8.map (Value.int .u8) ++ (.int .i64 t9 :: (.int .i64 t10 :: (t11.map (Value.int .u8) ++ (t12.map (Value.int .u8) ++ [.slice t13A t13N t13C])))))))))))))).toArray] (fun v_4 h8 =>
                ∃ t_3 : Bool, v_4 = .bool t_3 ∧
                (((!t_3) = true →
                    CallH Try.prog id_batch_Right [.agg #[.int .i64 (1 : Int), .int .i64 (1 : Int), .slice opsA opsN opsC]] (fun v_5 h9 =>
                      ∃ t_4 : Int, v_5 = .int .i64 t_4 ∧
                      (((t_4 != (0 : Int)) = true →
                          CallH Try.prog id_law21_wakes [] (fun v_6 h10 =>
                            ∃ t_5 : Bool, v_6 = .bool t_5 ∧
                            K (.bool t_5) h10) h9) ∧
                        ((t_4 != (0 : Int)) = false →
                          K (.bool false) h9))) h8) ∧
                  ((!t_3) = false →
                    LoopP (T := Int × Unit) (fun Jv st h11 =>
                      (((decide (st.1 < ((inN : Nat) : Int))) = true →
                          ∃ bv_2 ov : Nat, (inA = some ⟨bv_2, ov, none⟩ ∧ 0 ≤ st.1 ∧ st.1 < (inN : Nat)) ∧
                          stH h11 bv_2 ((ov + st.1.toNat * 3) + 1) [.string (⟨#[119, 114, 105, 116, 116, 101, 110, 32, 111, 118, 101, 114]⟩ : ByteArray)] fun h12 =>
                          Jv ((IntKind.wrap .i64 (st.1 + (1 : Int))), ()) h12) ∧
                        ((decide (st.1 < ((inN : Nat) : Int))) = false →
                          CallH Try.prog id_take_Take_Next [.pointer t_2] (fun v_7 h13 =>
                            ∃ t00 : Int, ∃ t01 : Int, ∃ (t02A : Option Addr) (t02N t02C : Nat), ∃ t1_1 : Bool, v_7 = .tuple #[.agg #[.int .i64 t00, .int .i64 t01, .slice t02A t02N t02C], .bool t1_1] ∧
                            LoopP (T := Int × Unit) (fun Jv_1 st_1 h14 =>
                              (((decide (st_1.1 < ((t02N : Nat) : Int))) = true →
                                  ∃ bv_3 ov_1 : Nat, (t02A = some ⟨bv_3, ov_1, none⟩ ∧ 0 ≤ st_1.1 ∧ st_1.1 < (t02N : Nat)) ∧
                                  ∃ t0_1 : Int, ∃ t1_2 : ByteArray, ∃ t2_1 : ByteArray, (h14.rds bv_3 (ov_1 + st_1.1.toNat * 3) 3 = some [.int .u8 t0_1, .string t1_2, .string t2_1]) ∧
                                  ∃ bv_4 ov_2 : Nat, (opsA = some ⟨bv_4, ov_2, none⟩ ∧ 0 ≤ st_1.1 ∧ st_1.1 < (opsN : Nat)) ∧
                                  ∃ t0_2 : Int, ∃ t1_3 : ByteArray, ∃ t2_2 : ByteArray, (h14.rds bv_4 (ov_2 + st_1.1.toNat * 3) 3 = some [.int .u8 t0_2, .string t1_3, .string t2_2]) ∧
                                  (((!((t0_1 == t0_2) && ((strEq t1_2 t1_3) && ((strEq t2_1 t2_2) && true)))) = true →
                                      K (.bool false) h14) ∧
                                    ((!((t0_1 == t0_2) && ((strEq t1_2 t1_3) && ((strEq t2_1 t2_2) && true)))) = false →
                                      ∃ bv_5 ov_3 : Nat, (t02A = some ⟨bv_5, ov_3, none⟩ ∧ 0 ≤ st_1.1 ∧ st_1.1 < (t02N : Nat)) ∧
                                      stH h14 bv_5 ((ov_3 + st_1.1.toNat * 3) + 1) [.string (⟨#[119, 114, 105, 116, 116, 101, 110, 32, 111, 118, 101, 114]⟩ : ByteArray)] fun h15 =>
                                      Jv_1 ((IntKind.wrap .i64 (st_1.1 + (1 : Int))), ()) h15))) ∧
                                ((decide (st_1.1 < ((t02N : Nat) : Int))) = false →
                                  CallH Try.prog id_take_Take_Next [.pointer t_2] (fun v_8 h16 =>
                                    ∃ t00_1 : Int, ∃ t01_1 : Int, ∃ (t02A_1 : Option Addr) (t02N_1 t02C_1 : Nat), ∃ t1_4 : Bool, v_8 = .tuple #[.agg #[.int .i64 t00_1, .int .i64 t01_1, .slice t02A_1 t02N_1 t02C_1], .bool t1_4] ∧
                                    ((((t1_1 && t1_4) && (((t02N : Nat) : Int) == ((opsN : Nat) : Int))) = true →
                                        CallH Try.prog id_batch_Same [.agg #[.int .i64 t00_1, .int .i64 t01_1, .slice t02A_1 t02N_1 t02C_1], .agg #[.int .i64 (1 : Int), .int .i64 (1 : Int), .slice opsA opsN opsC]] (fun v_9 h17 =>
                                          ∃ t_6 : Bool, v_9 = .bool t_6 ∧
                                          ((t_6 = true →
                                              CallH Try.prog id_law21_wakes [] (fun v_10 h18 =>
                                                ∃ t_7 : Bool, v_10 = .bool t_7 ∧
                                                K (.bool t_7) h18) h17) ∧
                                            (t_6 = false →
                                              K (.bool false) h17))) h16) ∧
                                      (((t1_1 && t1_4) && (((t02N : Nat) : Int) == ((opsN : Nat) : Int))) = false →
                                        K (.bool false) h16))) h14))) ((0 : Int), ()) h13) h11))) ((0 : Int), ()) h8))) h7) h6) h5) h4))) h1
theorem F_law21_TakeOwn_eq {opsA : Option Addr} {opsN opsC : Nat} {K : Value → PH → Prop} {h : PH} : @Eq Prop (F_law21_TakeOwn opsA opsN opsC K h) (denF Try.prog Try.f6 ⟨[6, 9], [], [(0, ⟨[(5, .int .i64)], [], []⟩), (2, ⟨[(8, .int .i64)], [], []⟩)], []⟩ [.v (.slice opsA opsN opsC)] K h) := by
  kernel_rfl
theorem F_law21_TakeOwn_ok {opsA : Option Addr} {opsN opsC : Nat}  {K : Value → PH → Prop} {h : PH} (hh : F_law21_TakeOwn opsA opsN opsC K h) : CallH Try.prog id_law21_TakeOwn [.slice opsA opsN opsC] K h :=
  denF_sound' Try.func6 (H := ⟨[6, 9], [], [(0, ⟨[(5, .int .i64)], [], []⟩), (2, ⟨[(8, .int .i64)], [], []⟩)], []⟩) (xs := [.v (.slice opsA opsN opsC)]) (by kernel_rfl) (⟨rfl, trivial⟩) (den_of F_law21_TakeOwn_eq hh)

/- twinlock/twinlocklaw21.Great -/
def F_law21_Great (lA : Option Addr) (lN _ : Nat) (K : Value → PH → Prop) (h : PH) : Prop :=
  (((decide (((lN : Nat) : Int) > (300 : Int))) = true →
      K (.bool true) h) ∧
    ((decide (((lN : Nat) : Int) > (300 : Int))) = false →
      LoopP (T := Int × Unit) (fun Jv st h1 =>
        (((decide (st.1 < ((lN : Nat) : Int))) = true →
            ∃ bv ov : Nat, (lA = some ⟨bv, ov, none⟩ ∧ 0 ≤ st.1 ∧ st.1 < (lN : Nat)) ∧
            ∃ t0 : Int, ∃ t1 : Int, ∃ t2 : Int, ∃ t3 : Int, ∃ t4 : Int, ∃ t5 : Int, ∃ (t6A : Option Addr) (t6N t6C : Nat), ∃ t7 : Int, ∃ t8 : List Int, t8.length = 32 ∧ ∃ t9 : Int, ∃ t10 : Int, ∃ t11 : List Int, t11.length = 32 ∧ ∃ t12 : List Int, t12.length = 32 ∧ ∃ (t13A : Option Addr) (t13N t13C : Nat), (h1.rds bv ((ov + st.1.toNat * 108) + 1) 107 = some (.int .u8 t0 :: (.int .i64 t1 :: (.int .i64 t2 :: (.int .i64 t3 :: (.int .i64 t4 :: (.int .i64 t5 :: (.slice t6A t6N t6C :: (.int .i64 t7 :: (t8.map (Value.int .u8) ++ (.int .i64 t9 :: (.int .i64 t10 :: (t11.map (Value.int .u8) ++ (t12.map (Value.int .u8) ++ [.slice t13A t13N t13C])))))))))))))) ∧
            CallH Try.prog id_law21_GreatMsg [.agg ((.int .u8 t0 :: (.int .i64 t1 :: (.int .i64 t2 :: (.int .i64 t3 :: (.int .i64 t4 :: (.int .i64 t5 :: (.slice t6A t6N t6C :: (.int .i64 t7 :: (t8.map (Value.int .u8) ++ (.int .i64 t9 :: (.int .i64 t10 :: (t11.map (Value.int .u8) ++ (t12.map (Value.int .u8) ++ [.slice t13A t13N t13C])))))))))))))).toArray] (fun v h2 =>
              ∃ t : Bool, v = .bool t ∧
              ((t = true →
                  K (.bool true) h2) ∧
                (t = false →
                  Jv ((IntKind.wrap .i64 (st.1 + (1 : Int))), ()) h2))) h1) ∧
          ((decide (st.1 < ((lN : Nat) : Int))) = false →
            K (.bool false) h1))) ((0 : Int), ()) h))
theorem F_law21_Great_eq {lA : Option Addr} {lN lC : Nat} {K : Value → PH → Prop} {h : PH} : @Eq Prop (F_law21_Great lA lN lC K h) (denF Try.prog Try.f7 ⟨[], [], [(0, ⟨[(3, .int .i64)], [], []⟩)], []⟩ [.v (.slice lA lN lC)] K h) := by
  kernel_rfl
theorem F_law21_Great_ok {lA : Option Addr} {lN lC : Nat}  {K : Value → PH → Prop} {h : PH} (hh : F_law21_Great lA lN lC K h) : CallH Try.prog id_law21_Great [.slice lA lN lC] K h :=
  denF_sound' Try.func7 (H := ⟨[], [], [(0, ⟨[(3, .int .i64)], [], []⟩)], []⟩) (xs := [.v (.slice lA lN lC)]) (by kernel_rfl) (⟨rfl, trivial⟩) (den_of F_law21_Great_eq hh)

/- twinlock/twinlocklaw21.GreatMsg -/
def F_law21_GreatMsg (_ : Int) (_ : Int) (_ : Int) (_ : Int) (_ : Int) (_ : Int) (m6A : Option Addr) (m6N m6C : Nat) (_ : Int) (_ : List Int) (_ : Int) (_ : Int) (_ : List Int) (_ : List Int) (_ : Option Addr) (m13N _ : Nat) (K : Value → PH → Prop) (h : PH) : Prop :=
  CallH Try.prog id_law12_GreatOps [.slice m6A m6N m6C] (fun v h1 =>
    ∃ t : Bool, v = .bool t ∧
    K (.bool (t || (decide (((m13N : Nat) : Int) > (100 : Int))))) h1) h
theorem F_law21_GreatMsg_eq {m0 : Int} {m1 : Int} {m2 : Int} {m3 : Int} {m4 : Int} {m5 : Int} {m6A : Option Addr} {m6N m6C : Nat} {m7 : Int} {m8 : List Int} {m9 : Int} {m10 : Int} {m11 : List Int} {m12 : List Int} {m13A : Option Addr} {m13N m13C : Nat} {K : Value → PH → Prop} {h : PH} : @Eq Prop (F_law21_GreatMsg m0 m1 m2 m3 m4 m5 m6A m6N m6C m7 m8 m9 m10 m11 m12 m13A m13N m13C K h) (denF Try.prog Try.f8 ⟨[1], [], [], []⟩ [.agg [.one (.int .u8 m0), .one (.int .i64 m1), .one (.int .i64 m2), .one (.int .i64 m3), .one (.int .i64 m4), .one (.int .i64 m5), .one (.slice m6A m6N m6C), .one (.int .i64 m7), .ints .u8 32 m8, .one (.int .i64 m9), .one (.int .i64 m10), .ints .u8 32 m11, .ints .u8 32 m12, .one (.slice m13A m13N m13C)]] K h) := by
  kernel_rfl
theorem F_law21_GreatMsg_ok {m0 : Int} {m1 : Int} {m2 : Int} {m3 : Int} {m4 : Int} {m5 : Int} {m6A : Option Addr} {m6N m6C : Nat} {m7 : Int} {m8 : List Int} {m9 : Int} {m10 : Int} {m11 : List Int} {m12 : List Int} {m13A : Option Addr} {m13N m13C : Nat} (hk0 : m8.length = 32) (hk1 : m11.length = 32) (hk2 : m12.length = 32) {K : Value → PH → Prop} {h : PH} (hh : F_law21_GreatMsg m0 m1 m2 m3 m4 m5 m6A m6N m6C m7 m8 m9 m10 m11 m12 m13A m13N m13C K h) : CallH Try.prog id_law21_GreatMsg [.agg ((.int .u8 m0 :: (.int .i64 m1 :: (.int .i64 m2 :: (.int .i64 m3 :: (.int .i64 m4 :: (.int .i64 m5 :: (.slice m6A m6N m6C :: (.int .i64 m7 :: (m8.map (Value.int .u8) ++ (.int .i64 m9 :: (.int .i64 m10 :: (m11.map (Value.int .u8) ++ (m12.map (Value.int .u8) ++ [.slice m13A m13N m13C])))))))))))))).toArray] K h :=
  denF_sound' Try.func8 (H := ⟨[1], [], [], []⟩) (xs := [.agg [.one (.int .u8 m0), .one (.int .i64 m1), .one (.int .i64 m2), .one (.int .i64 m3), .one (.int .i64 m4), .one (.int .i64 m5), .one (.slice m6A m6N m6C), .one (.int .i64 m7), .ints .u8 32 m8, .one (.int .i64 m9), .one (.int .i64 m10), .ints .u8 32 m11, .ints .u8 32 m12, .one (.slice m13A m13N m13C)]]) (by kernel_rfl) (⟨⟨rfl, rfl, rfl, rfl, rfl, rfl, rfl, rfl, hk0, rfl, rfl, hk1, hk2, rfl, trivial⟩, trivial⟩) (den_of F_law21_GreatMsg_eq hh)

/- twinlock/twinlocklaw21.wakes -/
def F_law21_wakes  (K : Value → PH → Prop) (h : PH) : Prop :=
  CallH Try.prog id_take_New [.int .i64 (0 : Int), .int .i64 (0 : Int)] (fun v h1 =>
    ∃ t : Option Addr, v = .pointer t ∧
    CallH Try.prog id_law21_entry [.int .i64 (2 : Int), .int .i64 (1 : Int), .int .i64 (1 : Int), .slice none 0 0] (fun v_1 h2 =>
      ∃ t0 : Int, ∃ t1 : Int, ∃ t2 : Int, ∃ t3 : Int, ∃ t4 : Int, ∃ t5 : Int, ∃ (t6A : Option Addr) (t6N t6C : Nat), ∃ t7 : Int, ∃ t8 : List Int, t8.length = 32 ∧ ∃ t9 : Int, ∃ t10 : Int, ∃ t11 : List Int, t11.length = 32 ∧ ∃ t12 : List Int, t12.length = 32 ∧ ∃ (t13A : Option Addr) (t13N t13C : Nat), v_1 = .agg ((.int .u8 t0 :: (.int .i64 t1 :: (.int .i64 t2 :: (.int .i64 t3 :: (.int .i64 t4 :: (.int .i64 t5 :: (.slice t6A t6N t6C :: (.int .i64 t7 :: (t8.map (Value.int .u8) ++ (.int .i64 t9 :: (.int .i64 t10 :: (t11.map (Value.int .u8) ++ (t12.map (Value.int .u8) ++ [.slice t13A t13N t13C])))))))))))))).toArray ∧
      CallH Try.prog id_take_Take_Put [.pointer t, .agg ((.int .u8 t0 :: (.int .i64 t1 :: (.int .i64 t2 :: (.int .i64 t3 :: (.int .i64 t4 :: (.int .i64 t5 :: (.slice t6A t6N t6C :: (.int .i64 t7 :: (t8.map (Value.int .u8) ++ (.int .i64 t9 :: (.int .i64 t10 :: (t11.map (Value.int .u8) ++ (t12.map (Value.int .u8) ++ [.slice t13A t13N t13C])))))))))))))).toArray] (fun v_2 h3 =>
        ∃ a : Bool, v_2 = .bool a ∧
        CallH Try.prog id_take_Take_Gap [.pointer t] (fun v_3 h4 =>
          ∃ bv : Bool, v_3 = .bool bv ∧
          CallH Try.prog id_law21_entry [.int .i64 (1 : Int), .int .i64 (1 : Int), .int .i64 (0 : Int), .slice none 0 0] (fun v_4 h5 =>
            ∃ t0_1 : Int, ∃ t1_1 : Int, ∃ t2_1 : Int, ∃ t3_1 : Int, ∃ t4_1 : Int, ∃ t5_1 : Int, ∃ (t6A_1 : Option Addr) (t6N_1 t6C_1 : Nat), ∃ t7_1 : Int, ∃ t8_1 : List Int, t8_1.length = 32 ∧ ∃ t9_1 : Int, ∃ t10_1 : Int, ∃ t11_1 : List Int, t11_1.length = 32 ∧ ∃ t12_1 : List Int, t12_1.length = 32 ∧ ∃ (t13A_1 : Option Addr) (t13N_1 t13C_1 : Nat), v_4 = .agg ((.int .u8 t0_1 :: (.int .i64 t1_1 :: (.int .i64 t2_1 :: (.int .i64 t3_1 :: (.int .i64 t4_1 :: (.int .i64 t5_1 :: (.slice t6A_1 t6N_1 t6C_1 :: (.int .i64 t7_1 :: (t8_1.map (Value.int .u8) ++ (.int .i64 t9_1 :: (.int .i64 t10_1 :: (t11_1.map (Value.int .u8) ++ (t12_1.map (Value.int .u8) ++ [.slice t13A_1 t13N_1 t13C_1])))))))))))))).toArray ∧
            CallH Try.prog id_take_Take_Put [.pointer t, .agg ((.int .u8 t0_1 :: (.int .i64 t1_1 :: (.int .i64 t2_1 :: (.int .i64 t3_1 :: (.int .i64 t4_1 :: (.int .i64 t5_1 :: (.slice t6A_1 t6N_1 t6C_1 :: (.int .i64 t7_1 :: (t8_1.map (Value.int .u8) ++ (.int .i64 t9_1 :: (.int .i64 t10_1 :: (t11_1.map (Value.int .u8) ++ (t12_1.map (Value.int .u8) ++ [.slice t13A_1 t13N_1 t13C_1])))))))))))))).toArray] (fun v_5 h6 =>
              ∃ cv : Bool, v_5 = .bool cv ∧
              CallH Try.prog id_law21_entry [.int .i64 (1 : Int), .int .i64 (1 : Int), .int .i64 (0 : Int), .slice none 0 0] (fun v_6 h7 =>
                ∃ t0_2 : Int, ∃ t1_2 : Int, ∃ t2_2 : Int, ∃ t3_2 : Int, ∃ t4_2 : Int, ∃ t5_2 : Int, ∃ (t6A_2 : Option Addr) (t6N_2 t6C_2 : Nat), ∃ t7_2 : Int, ∃ t8_2 : List Int, t8_2.length = 32 ∧ ∃ t9_2 : Int, ∃ t10_2 : Int, ∃ t11_2 : List Int, t11_2.length = 32 ∧ ∃ t12_2 : List Int, t12_2.length = 32 ∧ ∃ (t13A_2 : Option Addr) (t13N_2 t13C_2 : Nat), v_6 = .agg ((.int .u8 t0_2 :: (.int .i64 t1_2 :: (.int .i64 t2_2 :: (.int .i64 t3_2 :: (.int .i64 t4_2 :: (.int .i64 t5_2 :: (.slice t6A_2 t6N_2 t6C_2 :: (.int .i64 t7_2 :: (t8_2.map (Value.int .u8) ++ (.int .i64 t9_2 :: (.int .i64 t10_2 :: (t11_2.map (Value.int .u8) ++ (t12_2.map (Value.int .u8) ++ [.slice t13A_2 t13N_2 t13C_2])))))))))))))).toArray ∧
                CallH Try.prog id_take_Take_Put [.pointer t, .agg ((.int .u8 t0_2 :: (.int .i64 t1_2 :: (.int .i64 t2_2 :: (.int .i64 t3_2 :: (.int .i64 t4_2 :: (.int .i64 t5_2 :: (.slice t6A_2 t6N_2 t6C_2 :: (.int .i64 t7_2 :: (t8_2.map (Value.int .u8) ++ (.int .i64 t9_2 :: (.int .i64 t10_2 :: (t11_2.map (Value.int .u8) ++ (t12_2.map (Value.int .u8) ++ [.slice t13A_2 t13N_2 t13C_2])))))))))))))).toArray] (fun v_7 h8 =>
                  ∃ d : Bool, v_7 = .bool d ∧
                  CallH Try.prog id_take_Take_Next [.pointer t] (fun v_8 h9 =>
                    ∃ t00 : Int, ∃ t01 : Int, ∃ (t02A : Option Addr) (t02N t02C : Nat), ∃ t1_3 : Bool, v_8 = .tuple #[.agg #[.int .i64 t00, .int .i64 t01, .slice t02A t02N t02C], .bool t1_3] ∧
                    CallH Try.prog id_take_Take_Done [.pointer t] (fun v_9 h10 =>
                      ∃ e : Int, v_9 = .int .i64 e ∧
                      CallH Try.prog id_take_Take_Done [.pointer t] (fun v_10 h11 =>
                        ∃ f : Int, v_10 = .int .i64 f ∧
                        CallH Try.prog id_take_Take_Place [.pointer t] (fun v_11 h12 =>
                          ∃ t0_3 : Int, ∃ t1_4 : Int, v_11 = .tuple #[.int .i64 t0_3, .int .i64 t1_4] ∧
                          (((((((((((a && bv) && cv) && (!d)) && t1_3) && (t00 == (1 : Int))) && (e == (0 : Int))) && (f == (0 : Int))) && (t0_3 == (2 : Int))) && (t1_4 == (1 : Int))) = true →
                              CallH Try.prog id_take_Take_Waits [.pointer t] (fun v_12 h13 =>
                                ∃ t_1 : Int, v_12 = .int .i64 t_1 ∧
                                K (.bool (t_1 == (0 : Int))) h13) h12) ∧
                            ((((((((((a && bv) && cv) && (!d)) && t1_3) && (t00 == (1 : Int))) && (e == (0 : Int))) && (f == (0 : Int))) && (t0_3 == (2 : Int))) && (t1_4 == (1 : Int))) = false →
                              K (.bool false) h12))) h11) h10) h9) h8) h7) h6) h5) h4) h3) h2) h1) h
theorem F_law21_wakes_eq  {K : Value → PH → Prop} {h : PH} : @Eq Prop (F_law21_wakes  K h) (denF Try.prog Try.f9 ⟨[6], [], [], []⟩ [] K h) := by
  kernel_rfl
theorem F_law21_wakes_ok   {K : Value → PH → Prop} {h : PH} (hh : F_law21_wakes  K h) : CallH Try.prog id_law21_wakes [] K h :=
  denF_sound' Try.func9 (H := ⟨[6], [], [], []⟩) (xs := []) (by kernel_rfl) (trivial) (den_of F_law21_wakes_eq hh)

/- twinlock/take.New -/
def F_take_New (atv : Int) (epoch : Int) (K : Value → PH → Prop) (h : PH) : Prop :=
  newH h (.map #[] 0) fun bv h1 =>
  newH h1 (.cells #[.int .i64 (maxV atv (0 : Int)), .int .i64 epoch, .map (some bv)] T_take_Take (0, 0)) fun bv_1 h2 =>
  K (.pointer (some ⟨bv_1, 0, none⟩)) h2
theorem F_take_New_eq {atv : Int} {epoch : Int} {K : Value → PH → Prop} {h : PH} : @Eq Prop (F_take_New atv epoch K h) (denF Try.prog Try.f10 ⟨[], [], [], []⟩ [.v (.int .i64 atv), .v (.int .i64 epoch)] K h) := by
  kernel_rfl
theorem F_take_New_ok {atv : Int} {epoch : Int}  {K : Value → PH → Prop} {h : PH} (hh : F_take_New atv epoch K h) : CallH Try.prog id_take_New [.int .i64 atv, .int .i64 epoch] K h :=
  denF_sound' Try.func10 (H := ⟨[], [], [], []⟩) (xs := [.v (.int .i64 atv), .v (.int .i64 epoch)]) (by kernel_rfl) (⟨rfl, rfl, trivial⟩) (den_of F_take_New_eq hh)

/- (*twinlock/take.Take).Put -/
def F_take_Take_Put (t : Option Addr) (m0 : Int) (m1 : Int) (m2 : Int) (m3 : Int) (m4 : Int) (m5 : Int) (m6A : Option Addr) (m6N m6C : Nat) (m7 : Int) (m8 : List Int) (m9 : Int) (m10 : Int) (m11 : List Int) (m12 : List Int) (m13A : Option Addr) (m13N m13C : Nat) (K : Value → PH → Prop) (h : PH) : Prop :=
  JoinP (T := Unit) (fun Jv =>
    CallH Try.prog id_take_Take_none [.pointer t] (fun v h2 =>
      ∃ t_1 : Bool, v = .bool t_1 ∧
      (((t_1 || (m0 != (2 : Int))) = false →
          CallH Try.prog id_batch_Right [.agg #[.int .i64 m4, .int .i64 m5, .slice m6A m6N m6C]] (fun v_1 h3 =>
            ∃ t_2 : Int, v_1 = .int .i64 t_2 ∧
            ∃ bv ov : Nat, (((t_2 != (0 : Int)) || (decide (m7 < (0 : Int)))) = false → t = some ⟨bv, ov, none⟩) ∧
            ∃ t_3 : Int, ((((t_2 != (0 : Int)) || (decide (m7 < (0 : Int)))) = false → h3.rds bv ov 1 = some [.int .i64 t_3])) ∧
            ∃ bv_1 ov_1 : Nat, ((((t_2 != (0 : Int)) || (decide (m7 < (0 : Int)))) || (decide (m4 ≤ t_3))) = false → t = some ⟨bv_1, ov_1, none⟩) ∧
            ∃ t_4 : Int, (((((t_2 != (0 : Int)) || (decide (m7 < (0 : Int)))) || (decide (m4 ≤ t_3))) = false → h3.rds bv_1 ov_1 1 = some [.int .i64 t_4])) ∧
            ((((((t_2 != (0 : Int)) || (decide (m7 < (0 : Int)))) || (decide (m4 ≤ t_3))) || (decide ((IntKind.wrap .i64 (m4 - t_4)) > (64 : Int)))) = true →
                K (.bool false) h3) ∧
              (((((t_2 != (0 : Int)) || (decide (m7 < (0 : Int)))) || (decide (m4 ≤ t_3))) || (decide ((IntKind.wrap .i64 (m4 - t_4)) > (64 : Int)))) = false →
                Jv (()) h3))) h2) ∧
        ((t_1 || (m0 != (2 : Int))) = true →
          K (.bool false) h2))) h)
  (fun _ h1 =>
    ∃ bv_2 ov_2 : Nat, t = some ⟨bv_2, ov_2, none⟩ ∧
    ∃ t_5 : Option Nat, (h1.rds bv_2 (ov_2 + 2) 1 = some [.map t_5]) ∧
    ∃ t0 : Int, ∃ t1 : Int, ∃ t2 : Int, ∃ t3 : Int, ∃ t4 : Int, ∃ t5 : Int, ∃ (t6A : Option Addr) (t6N t6C : Nat), ∃ t7 : Int, ∃ t8 : List Int, t8.length = 32 ∧ ∃ t9 : Int, ∃ t10 : Int, ∃ t11 : List Int, t11.length = 32 ∧ ∃ t12 : List Int, t12.length = 32 ∧ ∃ (t13A : Option Addr) (t13N t13C : Nat), ∃ ok : Bool, lkH (.int .i64) h1 t_5 (.int .i64 m4) (.agg ((.int .u8 (0 : Int) :: (.int .i64 (0 : Int) :: (.int .i64 (0 : Int) :: (.int .i64 (0 : Int) :: (.int .i64 (0 : Int) :: (.int .i64 (0 : Int) :: (.slice none 0 0 :: (.int .i64 (0 : Int) :: ((List.replicate 32 0).map (Value.int .u8) ++ (.int .i64 (0 : Int) :: (.int .i64 (0 : Int) :: ((List.replicate 32 0).map (Value.int .u8) ++ ((List.replicate 32 0).map (Value.int .u8) ++ [.slice none 0 0])))))))))))))).toArray) (.agg ((.int .u8 t0 :: (.int .i64 t1 :: (.int .i64 t2 :: (.int .i64 t3 :: (.int .i64 t4 :: (.int .i64 t5 :: (.slice t6A t6N t6C :: (.int .i64 t7 :: (t8.map (Value.int .u8) ++ (.int .i64 t9 :: (.int .i64 t10 :: (t11.map (Value.int .u8) ++ (t12.map (Value.int .u8) ++ [.slice t13A t13N t13C])))))))))))))).toArray) ok ∧
    ((ok = true →
        K (.bool false) h1) ∧
      (ok = false →
        CallH Try.prog id_slices_Clone_api_Op_api_Op [.slice m6A m6N m6C] (fun v_2 h4 =>
          ∃ (tA : Option Addr) (tN tC : Nat), v_2 = .slice tA tN tC ∧
          ∃ bv_3 ov_3 : Nat, t = some ⟨bv_3, ov_3, none⟩ ∧
          ∃ t_6 : Option Nat, (h4.rds bv_3 (ov_3 + 2) 1 = some [.map t_6]) ∧
          muH (.int .i64) h4 t_6 (.int .i64 m4) (.agg ((.int .u8 m0 :: (.int .i64 m1 :: (.int .i64 m2 :: (.int .i64 m3 :: (.int .i64 m4 :: (.int .i64 m5 :: (.slice tA tN tC :: (.int .i64 m7 :: (m8.map (Value.int .u8) ++ (.int .i64 m9 :: (.int .i64 m10 :: (m11.map (Value.int .u8) ++ (m12.map (Value.int .u8) ++ [.slice m13A m13N m13C])))))))))))))).toArray) fun h5 =>
          K (.bool true) h5) h1)))
theorem F_take_Take_Put_eq {t : Option Addr} {m0 : Int} {m1 : Int} {m2 : Int} {m3 : Int} {m4 : Int} {m5 : Int} {m6A : Option Addr} {m6N m6C : Nat} {m7 : Int} {m8 : List Int} {m9 : Int} {m10 : Int} {m11 : List Int} {m12 : List Int} {m13A : Option Addr} {m13N m13C : Nat} {K : Value → PH → Prop} {h : PH} : @Eq Prop (F_take_Take_Put t m0 m1 m2 m3 m4 m5 m6A m6N m6C m7 m8 m9 m10 m11 m12 m13A m13N m13C K h) (denF Try.prog Try.f11 ⟨[3, 6], [], [], [(10, ⟨[], [], []⟩)]⟩ [.v (.pointer t), .agg [.one (.int .u8 m0), .one (.int .i64 m1), .one (.int .i64 m2), .one (.int .i64 m3), .one (.int .i64 m4), .one (.int .i64 m5), .one (.slice m6A m6N m6C), .one (.int .i64 m7), .ints .u8 32 m8, .one (.int .i64 m9), .one (.int .i64 m10), .ints .u8 32 m11, .ints .u8 32 m12, .one (.slice m13A m13N m13C)]] K h) := by
  kernel_rfl
theorem F_take_Take_Put_ok {t : Option Addr} {m0 : Int} {m1 : Int} {m2 : Int} {m3 : Int} {m4 : Int} {m5 : Int} {m6A : Option Addr} {m6N m6C : Nat} {m7 : Int} {m8 : List Int} {m9 : Int} {m10 : Int} {m11 : List Int} {m12 : List Int} {m13A : Option Addr} {m13N m13C : Nat} (hk0 : m8.length = 32) (hk1 : m11.length = 32) (hk2 : m12.length = 32) {K : Value → PH → Prop} {h : PH} (hh : F_take_Take_Put t m0 m1 m2 m3 m4 m5 m6A m6N m6C m7 m8 m9 m10 m11 m12 m13A m13N m13C K h) : CallH Try.prog id_take_Take_Put [.pointer t, .agg ((.int .u8 m0 :: (.int .i64 m1 :: (.int .i64 m2 :: (.int .i64 m3 :: (.int .i64 m4 :: (.int .i64 m5 :: (.slice m6A m6N m6C :: (.int .i64 m7 :: (m8.map (Value.int .u8) ++ (.int .i64 m9 :: (.int .i64 m10 :: (m11.map (Value.int .u8) ++ (m12.map (Value.int .u8) ++ [.slice m13A m13N m13C])))))))))))))).toArray] K h :=
  denF_sound' Try.func11 (H := ⟨[3, 6], [], [], [(10, ⟨[], [], []⟩)]⟩) (xs := [.v (.pointer t), .agg [.one (.int .u8 m0), .one (.int .i64 m1), .one (.int .i64 m2), .one (.int .i64 m3), .one (.int .i64 m4), .one (.int .i64 m5), .one (.slice m6A m6N m6C), .one (.int .i64 m7), .ints .u8 32 m8, .one (.int .i64 m9), .one (.int .i64 m10), .ints .u8 32 m11, .ints .u8 32 m12, .one (.slice m13A m13N m13C)]]) (by kernel_rfl) (⟨rfl, ⟨rfl, rfl, rfl, rfl, rfl, rfl, rfl, rfl, hk0, rfl, rfl, hk1, hk2, rfl, trivial⟩, trivial⟩) (den_of F_take_Take_Put_eq hh)

/- (*twinlock/take.Take).Done -/
def F_take_Take_Done (t : Option Addr) (K : Value → PH → Prop) (h : PH) : Prop :=
  CallH Try.prog id_take_Take_none [.pointer t] (fun v h1 =>
    ∃ t_1 : Bool, v = .bool t_1 ∧
    ((t_1 = true →
        K (.int .i64 (2 : Int)) h1) ∧
      (t_1 = false →
        CallH Try.prog id_take_Take_Next [.pointer t] (fun v_1 h2 =>
          ∃ t00 : Int, ∃ t01 : Int, ∃ (t02A : Option Addr) (t02N t02C : Nat), ∃ t1 : Bool, v_1 = .tuple #[.agg #[.int .i64 t00, .int .i64 t01, .slice t02A t02N t02C], .bool t1] ∧
          (((!t1) = true →
              K (.int .i64 (4 : Int)) h2) ∧
            ((!t1) = false →
              ∃ bv ov : Nat, t = some ⟨bv, ov, none⟩ ∧
              ∃ t_2 : Option Nat, (h2.rds bv (ov + 2) 1 = some [.map t_2]) ∧
              mdH (.int .i64) h2 t_2 (.int .i64 t00) fun h3 =>
              ∃ bv_1 ov_1 : Nat, t = some ⟨bv_1, ov_1, none⟩ ∧
              stH h3 bv_1 ov_1 [.int .i64 t00] fun h4 =>
              ∃ bv_2 ov_2 : Nat, t = some ⟨bv_2, ov_2, none⟩ ∧
              stH h4 bv_2 (ov_2 + 1) [.int .i64 t01] fun h5 =>
              K (.int .i64 (0 : Int)) h5))) h1))) h
theorem F_take_Take_Done_eq {t : Option Addr} {K : Value → PH → Prop} {h : PH} : @Eq Prop (F_take_Take_Done t K h) (denF Try.prog Try.f12 ⟨[3], [], [], []⟩ [.v (.pointer t)] K h) := by
  kernel_rfl
theorem F_take_Take_Done_ok {t : Option Addr}  {K : Value → PH → Prop} {h : PH} (hh : F_take_Take_Done t K h) : CallH Try.prog id_take_Take_Done [.pointer t] K h :=
  denF_sound' Try.func12 (H := ⟨[3], [], [], []⟩) (xs := [.v (.pointer t)]) (by kernel_rfl) (⟨rfl, trivial⟩) (den_of F_take_Take_Done_eq hh)

/- (*twinlock/take.Take).Waits -/
def F_take_Take_Waits (t : Option Addr) (K : Value → PH → Prop) (h : PH) : Prop :=
  CallH Try.prog id_take_Take_none [.pointer t] (fun v h1 =>
    ∃ t_1 : Bool, v = .bool t_1 ∧
    ((t_1 = true →
        K (.int .i64 (0 : Int)) h1) ∧
      (t_1 = false →
        ∃ bv ov : Nat, t = some ⟨bv, ov, none⟩ ∧
        ∃ t_2 : Option Nat, (h1.rds bv (ov + 2) 1 = some [.map t_2]) ∧
        ∃ tN : Nat, lenM h1 t_2 tN ∧
        K (.int .i64 ((tN : Nat) : Int)) h1))) h
theorem F_take_Take_Waits_eq {t : Option Addr} {K : Value → PH → Prop} {h : PH} : @Eq Prop (F_take_Take_Waits t K h) (denF Try.prog Try.f13 ⟨[], [], [], []⟩ [.v (.pointer t)] K h) := by
  kernel_rfl
theorem F_take_Take_Waits_ok {t : Option Addr}  {K : Value → PH → Prop} {h : PH} (hh : F_take_Take_Waits t K h) : CallH Try.prog id_take_Take_Waits [.pointer t] K h :=
  denF_sound' Try.func13 (H := ⟨[], [], [], []⟩) (xs := [.v (.pointer t)]) (by kernel_rfl) (⟨rfl, trivial⟩) (den_of F_take_Take_Waits_eq hh)

/- (*twinlock/take.Take).Place -/
def F_take_Take_Place (t : Option Addr) (K : Value → PH → Prop) (h : PH) : Prop :=
  CallH Try.prog id_take_Take_none [.pointer t] (fun v h1 =>
    ∃ t_1 : Bool, v = .bool t_1 ∧
    ((t_1 = true →
        K (.tuple #[.int .i64 (0 : Int), .int .i64 (0 : Int)]) h1) ∧
      (t_1 = false →
        ∃ bv ov : Nat, t = some ⟨bv, ov, none⟩ ∧
        ∃ atv : Int, (h1.rds bv ov 1 = some [.int .i64 atv]) ∧
        ∃ bv_1 ov_1 : Nat, t = some ⟨bv_1, ov_1, none⟩ ∧
        ∃ epoch : Int, (h1.rds bv_1 (ov_1 + 1) 1 = some [.int .i64 epoch]) ∧
        K (.tuple #[.int .i64 atv, .int .i64 epoch]) h1))) h
theorem F_take_Take_Place_eq {t : Option Addr} {K : Value → PH → Prop} {h : PH} : @Eq Prop (F_take_Take_Place t K h) (denF Try.prog Try.f14 ⟨[], [], [], []⟩ [.v (.pointer t)] K h) := by
  kernel_rfl
theorem F_take_Take_Place_ok {t : Option Addr}  {K : Value → PH → Prop} {h : PH} (hh : F_take_Take_Place t K h) : CallH Try.prog id_take_Take_Place [.pointer t] K h :=
  denF_sound' Try.func14 (H := ⟨[], [], [], []⟩) (xs := [.v (.pointer t)]) (by kernel_rfl) (⟨rfl, trivial⟩) (den_of F_take_Take_Place_eq hh)

/- twinlock/batch.Right -/
def F_batch_Right (b0 : Int) (b1 : Int) (b2A : Option Addr) (b2N b2C : Nat) (K : Value → PH → Prop) (h : PH) : Prop :=
  (((((decide (b0 < (1 : Int))) || (decide (b0 > (4611686018427387904 : Int)))) || (decide (b1 < (1 : Int)))) = true →
      K (.int .i64 (1 : Int)) h) ∧
    ((((decide (b0 < (1 : Int))) || (decide (b0 > (4611686018427387904 : Int)))) || (decide (b1 < (1 : Int)))) = false →
      (((decide (((b2N : Nat) : Int) > (4 : Int))) = true →
          K (.int .i64 (3 : Int)) h) ∧
        ((decide (((b2N : Nat) : Int) > (4 : Int))) = false →
          CallH Try.prog id_batch_each [.slice b2A b2N b2C, .func (.func 27) #[] #[]] (fun v h1 =>
            ∃ t : Int, v = .int .i64 t ∧
            K (.int .i64 t) h1) h))))
theorem F_batch_Right_eq {b0 : Int} {b1 : Int} {b2A : Option Addr} {b2N b2C : Nat} {K : Value → PH → Prop} {h : PH} : @Eq Prop (F_batch_Right b0 b1 b2A b2N b2C K h) (denF Try.prog Try.f15 ⟨[1], [], [], []⟩ [.agg [.one (.int .i64 b0), .one (.int .i64 b1), .one (.slice b2A b2N b2C)]] K h) := by
  kernel_rfl
theorem F_batch_Right_ok {b0 : Int} {b1 : Int} {b2A : Option Addr} {b2N b2C : Nat}  {K : Value → PH → Prop} {h : PH} (hh : F_batch_Right b0 b1 b2A b2N b2C K h) : CallH Try.prog id_batch_Right [.agg #[.int .i64 b0, .int .i64 b1, .slice b2A b2N b2C]] K h :=
  denF_sound' Try.func15 (H := ⟨[1], [], [], []⟩) (xs := [.agg [.one (.int .i64 b0), .one (.int .i64 b1), .one (.slice b2A b2N b2C)]]) (by kernel_rfl) (⟨⟨rfl, rfl, rfl, trivial⟩, trivial⟩) (den_of F_batch_Right_eq hh)

/- twinlock/twinlocklaw21.entry -/
def F_law21_entry (index : Int) (epoch : Int) (prev : Int) (opsA : Option Addr) (opsN opsC : Nat) (K : Value → PH → Prop) (h : PH) : Prop :=
  K (.agg ((.int .u8 (2 : Int) :: (.int .i64 epoch :: (.int .i64 (0 : Int) :: (.int .i64 (0 : Int) :: (.int .i64 index :: (.int .i64 epoch :: (.slice opsA opsN opsC :: (.int .i64 prev :: ((List.replicate 32 0).map (Value.int .u8) ++ (.int .i64 (0 : Int) :: (.int .i64 (0 : Int) :: ((List.replicate 32 0).map (Value.int .u8) ++ ((List.replicate 32 0).map (Value.int .u8) ++ [.slice none 0 0])))))))))))))).toArray) h
theorem F_law21_entry_eq {index : Int} {epoch : Int} {prev : Int} {opsA : Option Addr} {opsN opsC : Nat} {K : Value → PH → Prop} {h : PH} : @Eq Prop (F_law21_entry index epoch prev opsA opsN opsC K h) (denF Try.prog Try.f16 ⟨[8], [], [], []⟩ [.v (.int .i64 index), .v (.int .i64 epoch), .v (.int .i64 prev), .v (.slice opsA opsN opsC)] K h) := by
  kernel_rfl
theorem F_law21_entry_ok {index : Int} {epoch : Int} {prev : Int} {opsA : Option Addr} {opsN opsC : Nat}  {K : Value → PH → Prop} {h : PH} (hh : F_law21_entry index epoch prev opsA opsN opsC K h) : CallH Try.prog id_law21_entry [.int .i64 index, .int .i64 epoch, .int .i64 prev, .slice opsA opsN opsC] K h :=
  denF_sound' Try.func16 (H := ⟨[8], [], [], []⟩) (xs := [.v (.int .i64 index), .v (.int .i64 epoch), .v (.int .i64 prev), .v (.slice opsA opsN opsC)]) (by kernel_rfl) (⟨rfl, rfl, rfl, rfl, trivial⟩) (den_of F_law21_entry_eq hh)

/- (*twinlock/take.Take).Gap -/
def F_take_Take_Gap (t : Option Addr) (K : Value → PH → Prop) (h : PH) : Prop :=
  CallH Try.prog id_take_Take_Waits [.pointer t] (fun v h1 =>
    ∃ n : Int, v = .int .i64 n ∧
    CallH Try.prog id_take_Take_Next [.pointer t] (fun v_1 h2 =>
      ∃ t00 : Int, ∃ t01 : Int, ∃ (t02A : Option Addr) (t02N t02C : Nat), ∃ t1 : Bool, v_1 = .tuple #[.agg #[.int .i64 t00, .int .i64 t01, .slice t02A t02N t02C], .bool t1] ∧
      K (.bool ((decide (n > (0 : Int))) && (!t1))) h2) h1) h
theorem F_take_Take_Gap_eq {t : Option Addr} {K : Value → PH → Prop} {h : PH} : @Eq Prop (F_take_Take_Gap t K h) (denF Try.prog Try.f17 ⟨[4], [], [], []⟩ [.v (.pointer t)] K h) := by
  kernel_rfl
theorem F_take_Take_Gap_ok {t : Option Addr}  {K : Value → PH → Prop} {h : PH} (hh : F_take_Take_Gap t K h) : CallH Try.prog id_take_Take_Gap [.pointer t] K h :=
  denF_sound' Try.func17 (H := ⟨[4], [], [], []⟩) (xs := [.v (.pointer t)]) (by kernel_rfl) (⟨rfl, trivial⟩) (den_of F_take_Take_Gap_eq hh)

/- (*twinlock/take.Take).Next -/
def F_take_Take_Next (t : Option Addr) (K : Value → PH → Prop) (h : PH) : Prop :=
  CallH Try.prog id_take_Take_none [.pointer t] (fun v h1 =>
    ∃ t_1 : Bool, v = .bool t_1 ∧
    ((t_1 = true →
        K (.tuple #[.agg #[.int .i64 (0 : Int), .int .i64 (0 : Int), .slice none 0 0], .bool false]) h1) ∧
      (t_1 = false →
        ∃ bv ov : Nat, t = some ⟨bv, ov, none⟩ ∧
        ∃ t_2 : Option Nat, (h1.rds bv (ov + 2) 1 = some [.map t_2]) ∧
        ∃ bv_1 ov_1 : Nat, t = some ⟨bv_1, ov_1, none⟩ ∧
        ∃ t_3 : Int, (h1.rds bv_1 ov_1 1 = some [.int .i64 t_3]) ∧
        ∃ t0 : Int, ∃ t1 : Int, ∃ t2 : Int, ∃ t3 : Int, ∃ t4 : Int, ∃ t5 : Int, ∃ (t6A : Option Addr) (t6N t6C : Nat), ∃ t7 : Int, ∃ t8 : List Int, t8.length = 32 ∧ ∃ t9 : Int, ∃ t10 : Int, ∃ t11 : List Int, t11.length = 32 ∧ ∃ t12 : List Int, t12.length = 32 ∧ ∃ (t13A : Option Addr) (t13N t13C : Nat), ∃ ok : Bool, lkH (.int .i64) h1 t_2 (.int .i64 (IntKind.wrap .i64 (t_3 + (1 : Int)))) (.agg ((.int .u8 (0 : Int) :: (.int .i64 (0 : Int) :: (.int .i64 (0 : Int) :: (.int .i64 (0 : Int) :: (.int .i64 (0 : Int) :: (.int .i64 (0 : Int) :: (.slice none 0 0 :: (.int .i64 (0 : Int) :: ((List.replicate 32 0).map (Value.int .u8) ++ (.int .i64 (0 : Int) :: (.int .i64 (0 : Int) :: ((List.replicate 32 0).map (Value.int .u8) ++ ((List.replicate 32 0).map (Value.int .u8) ++ [.slice none 0 0])))))))))))))).toArray) (.agg ((.int .u8 t0 :: (.int .i64 t1 :: (.int .i64 t2 :: (.int .i64 t3 :: (.int .i64 t4 :: (.int .i64 t5 :: (.slice t6A t6N t6C :: (.int .i64 t7 :: (t8.map (Value.int .u8) ++ (.int .i64 t9 :: (.int .i64 t10 :: (t11.map (Value.int .u8) ++ (t12.map (Value.int .u8) ++ [.slice t13A t13N t13C])))))))))))))).toArray) ok ∧
        (((!ok) = true →
            K (.tuple #[.agg #[.int .i64 (0 : Int), .int .i64 (0 : Int), .slice none 0 0], .bool false]) h1) ∧
          ((!ok) = false →
            ∃ bv_2 ov_2 : Nat, t = some ⟨bv_2, ov_2, none⟩ ∧
            ∃ t_4 : Int, (h1.rds bv_2 (ov_2 + 1) 1 = some [.int .i64 t_4]) ∧
            (((t7 != t_4) = true →
                ∃ bv_3 ov_3 : Nat, t = some ⟨bv_3, ov_3, none⟩ ∧
                ∃ t_5 : Option Nat, (h1.rds bv_3 (ov_3 + 2) 1 = some [.map t_5]) ∧
                ∃ bv_4 ov_4 : Nat, t = some ⟨bv_4, ov_4, none⟩ ∧
                ∃ t_6 : Int, (h1.rds bv_4 ov_4 1 = some [.int .i64 t_6]) ∧
                mdH (.int .i64) h1 t_5 (.int .i64 (IntKind.wrap .i64 (t_6 + (1 : Int)))) fun h2 =>
                K (.tuple #[.agg #[.int .i64 (0 : Int), .int .i64 (0 : Int), .slice none 0 0], .bool false]) h2) ∧
              ((t7 != t_4) = false →
                CallH Try.prog id_slices_Clone_api_Op_api_Op [.slice t6A t6N t6C] (fun v_1 h3 =>
                  ∃ (tA : Option Addr) (tN tC : Nat), v_1 = .slice tA tN tC ∧
                  K (.tuple #[.agg #[.int .i64 t4, .int .i64 t5, .slice tA tN tC], .bool true]) h3) h1))))))) h
theorem F_take_Take_Next_eq {t : Option Addr} {K : Value → PH → Prop} {h : PH} : @Eq Prop (F_take_Take_Next t K h) (denF Try.prog Try.f18 ⟨[2, 4, 6], [], [], []⟩ [.v (.pointer t)] K h) := by
  kernel_rfl
theorem F_take_Take_Next_ok {t : Option Addr}  {K : Value → PH → Prop} {h : PH} (hh : F_take_Take_Next t K h) : CallH Try.prog id_take_Take_Next [.pointer t] K h :=
  denF_sound' Try.func18 (H := ⟨[2, 4, 6], [], [], []⟩) (xs := [.v (.pointer t)]) (by kernel_rfl) (⟨rfl, trivial⟩) (den_of F_take_Take_Next_eq hh)

/- (*twinlock/take.Take).Ack -/
def F_take_Take_Ack (t : Option Addr) (epoch : Int) (K : Value → PH → Prop) (h : PH) : Prop :=
  CallH Try.prog id_take_Take_none [.pointer t] (fun v h1 =>
    ∃ t_1 : Bool, v = .bool t_1 ∧
    ((t_1 = true →
        K (.agg ((.int .u8 (0 : Int) :: (.int .i64 (0 : Int) :: (.int .i64 (0 : Int) :: (.int .i64 (0 : Int) :: (.int .i64 (0 : Int) :: (.int .i64 (0 : Int) :: (.slice none 0 0 :: (.int .i64 (0 : Int) :: ((List.replicate 32 0).map (Value.int .u8) ++ (.int .i64 (0 : Int) :: (.int .i64 (0 : Int) :: ((List.replicate 32 0).map (Value.int .u8) ++ ((List.replicate 32 0).map (Value.int .u8) ++ [.slice none 0 0])))))))))))))).toArray) h1) ∧
      (t_1 = false →
        ∃ bv ov : Nat, t = some ⟨bv, ov, none⟩ ∧
        ∃ t_2 : Int, (h1.rds bv ov 1 = some [.int .i64 t_2]) ∧
        ∃ bv_1 ov_1 : Nat, t = some ⟨bv_1, ov_1, none⟩ ∧
        ∃ t_3 : Int, (h1.rds bv_1 (ov_1 + 1) 1 = some [.int .i64 t_3]) ∧
        K (.agg ((.int .u8 (3 : Int) :: (.int .i64 epoch :: (.int .i64 t_2 :: (.int .i64 t_3 :: (.int .i64 (0 : Int) :: (.int .i64 (0 : Int) :: (.slice none 0 0 :: (.int .i64 (0 : Int) :: ((List.replicate 32 0).map (Value.int .u8) ++ (.int .i64 (0 : Int) :: (.int .i64 (0 : Int) :: ((List.replicate 32 0).map (Value.int .u8) ++ ((List.replicate 32 0).map (Value.int .u8) ++ [.slice none 0 0])))))))))))))).toArray) h1))) h
theorem F_take_Take_Ack_eq {t : Option Addr} {epoch : Int} {K : Value → PH → Prop} {h : PH} : @Eq Prop (F_take_Take_Ack t epoch K h) (denF Try.prog Try.f19 ⟨[4], [], [], []⟩ [.v (.pointer t), .v (.int .i64 epoch)] K h) := by
  kernel_rfl
theorem F_take_Take_Ack_ok {t : Option Addr} {epoch : Int}  {K : Value → PH → Prop} {h : PH} (hh : F_take_Take_Ack t epoch K h) : CallH Try.prog id_take_Take_Ack [.pointer t, .int .i64 epoch] K h :=
  denF_sound' Try.func19 (H := ⟨[4], [], [], []⟩) (xs := [.v (.pointer t), .v (.int .i64 epoch)]) (by kernel_rfl) (⟨rfl, rfl, trivial⟩) (den_of F_take_Take_Ack_eq hh)

/- twinlock/twinlocklaw20.Great -/
def F_law20_Great (_ : Int) (_ : Int) (r2A : Option Addr) (r2N _ : Nat) (_ : Option Addr) (r3N _ : Nat) (r4A : Option Addr) (r4N r4C : Nat) (K : Value → PH → Prop) (h : PH) : Prop :=
  JoinP (T := Unit) (fun Jv =>
    ((((decide (((r2N : Nat) : Int) > (80 : Int))) || (decide (((r3N : Nat) : Int) > (200 : Int)))) = false →
        CallH Try.prog id_law13_GreatPairs [.slice r4A r4N r4C] (fun v h2 =>
          ∃ t : Bool, v = .bool t ∧
          ((t = true →
              K (.bool true) h2) ∧
            (t = false →
              Jv (()) h2))) h) ∧
      (((decide (((r2N : Nat) : Int) > (80 : Int))) || (decide (((r3N : Nat) : Int) > (200 : Int)))) = true →
        K (.bool true) h)))
  (fun _ h1 =>
    LoopP (T := Int × Unit) (fun Jv_1 st_1 h3 =>
      (((decide (st_1.1 < ((r2N : Nat) : Int))) = true →
          ∃ bv ov : Nat, (r2A = some ⟨bv, ov, none⟩ ∧ 0 ≤ st_1.1 ∧ st_1.1 < (r2N : Nat)) ∧
          ∃ (tA : Option Addr) (tN tC : Nat), (h3.rds bv (ov + st_1.1.toNat * 1) 1 = some [.slice tA tN tC]) ∧
          CallH Try.prog id_law12_GreatOps [.slice tA tN tC] (fun v_1 h4 =>
            ∃ t_1 : Bool, v_1 = .bool t_1 ∧
            ((t_1 = true →
                K (.bool true) h4) ∧
              (t_1 = false →
                Jv_1 ((IntKind.wrap .i64 (st_1.1 + (1 : Int))), ()) h4))) h3) ∧
        ((decide (st_1.1 < ((r2N : Nat) : Int))) = false →
          K (.bool false) h3))) ((0 : Int), ()) h1)
theorem F_law20_Great_eq {r0 : Int} {r1 : Int} {r2A : Option Addr} {r2N r2C : Nat} {r3A : Option Addr} {r3N r3C : Nat} {r4A : Option Addr} {r4N r4C : Nat} {K : Value → PH → Prop} {h : PH} : @Eq Prop (F_law20_Great r0 r1 r2A r2N r2C r3A r3N r3C r4A r4N r4C K h) (denF Try.prog Try.f20 ⟨[1], [], [(0, ⟨[(3, .int .i64)], [], []⟩)], [(8, ⟨[], [], []⟩)]⟩ [.agg [.one (.int .i64 r0), .one (.int .i64 r1), .one (.slice r2A r2N r2C), .one (.slice r3A r3N r3C), .one (.slice r4A r4N r4C)]] K h) := by
  kernel_rfl
theorem F_law20_Great_ok {r0 : Int} {r1 : Int} {r2A : Option Addr} {r2N r2C : Nat} {r3A : Option Addr} {r3N r3C : Nat} {r4A : Option Addr} {r4N r4C : Nat}  {K : Value → PH → Prop} {h : PH} (hh : F_law20_Great r0 r1 r2A r2N r2C r3A r3N r3C r4A r4N r4C K h) : CallH Try.prog id_law20_Great [.agg #[.int .i64 r0, .int .i64 r1, .slice r2A r2N r2C, .slice r3A r3N r3C, .slice r4A r4N r4C]] K h :=
  denF_sound' Try.func20 (H := ⟨[1], [], [(0, ⟨[(3, .int .i64)], [], []⟩)], [(8, ⟨[], [], []⟩)]⟩) (xs := [.agg [.one (.int .i64 r0), .one (.int .i64 r1), .one (.slice r2A r2N r2C), .one (.slice r3A r3N r3C), .one (.slice r4A r4N r4C)]]) (by kernel_rfl) (⟨⟨rfl, rfl, rfl, rfl, rfl, trivial⟩, trivial⟩) (den_of F_law20_Great_eq hh)

/- twinlock/twinlocklaw20.Made -/
def F_law20_Made (r0 : Int) (r1 : Int) (r2A : Option Addr) (r2N _ : Nat) (r3A : Option Addr) (r3N _ : Nat) (r4A : Option Addr) (r4N r4C : Nat) (epoch : Int) (K : Value → PH → Prop) (h : PH) : Prop :=
  JoinP (T := Int × Unit) (fun Jv =>
    (((decide ((r0.tmod (100 : Int)) < (0 : Int))) = true →
        Jv ((IntKind.wrap .i64 (0 - (r0.tmod (100 : Int)))), ()) h) ∧
      ((decide ((r0.tmod (100 : Int)) < (0 : Int))) = false →
        Jv ((r0.tmod (100 : Int)), ()) h)))
  (fun st h1 =>
    JoinP (T := Int × Unit) (fun Jv_1 =>
      (((decide ((r1.tmod (5 : Int)) < (1 : Int))) = true →
          Jv_1 ((1 : Int), ()) h1) ∧
        ((decide ((r1.tmod (5 : Int)) < (1 : Int))) = false →
          Jv_1 ((r1.tmod (5 : Int)), ()) h1)))
    (fun st_1 h2 =>
      JoinP (T := Int × Unit) (fun Jv_2 =>
        (((st.1 == (0 : Int)) = true →
            Jv_2 ((0 : Int), ()) h2) ∧
          ((st.1 == (0 : Int)) = false →
            Jv_2 (st_1.1, ()) h2)))
      (fun st_2 h3 =>
        LoopP (T := Int × Int × Int × Int × Int × (Option Addr × Nat × Nat) × Int × (Option Addr × Nat × Nat) × Unit) (fun Jv_3 st_3 h4 =>
          (((decide (st_3.2.1 < ((r2N : Nat) : Int))) = true →
              JoinP (T := Int × Unit) (fun Jv_4 =>
                (((decide (st_3.1 < (1 : Int))) = true →
                    Jv_4 ((1 : Int), ()) h4) ∧
                  ((decide (st_3.1 < (1 : Int))) = false →
                    Jv_4 (st_3.1, ()) h4)))
              (fun st_4 h5 =>
                JoinP (T := Int × Unit) (fun Jv_5 =>
                  ∃ bv ov : Nat, (((decide (st_3.2.1 < ((r3N : Nat) : Int))) = true → r3A = some ⟨bv, ov, none⟩ ∧ 0 ≤ st_3.2.1 ∧ st_3.2.1 < (r3N : Nat))) ∧
                  ∃ t : Int, (((decide (st_3.2.1 < ((r3N : Nat) : Int))) = true → h5.rds bv (ov + st_3.2.1.toNat * 1) 1 = some [.int .i64 t])) ∧
                  ((((decide (st_3.2.1 < ((r3N : Nat) : Int))) && (decide (t > (0 : Int)))) = true →
                      ∃ bv_1 ov_1 : Nat, (r3A = some ⟨bv_1, ov_1, none⟩ ∧ 0 ≤ st_3.2.1 ∧ st_3.2.1 < (r3N : Nat)) ∧
                      ∃ t_1 : Int, (h5.rds bv_1 (ov_1 + st_3.2.1.toNat * 1) 1 = some [.int .i64 t_1]) ∧
                      Jv_5 ((IntKind.wrap .i64 (st_4.1 + (t_1.tmod (2 : Int)))), ()) h5) ∧
                    (((decide (st_3.2.1 < ((r3N : Nat) : Int))) && (decide (t > (0 : Int)))) = false →
                      Jv_5 (st_4.1, ()) h5)))
                (fun st_5 h6 =>
                  ∃ bv_2 ov_2 : Nat, (r2A = some ⟨bv_2, ov_2, none⟩ ∧ 0 ≤ st_3.2.1 ∧ st_3.2.1 < (r2N : Nat)) ∧
                  ∃ (tA : Option Addr) (tN tC : Nat), (h6.rds bv_2 (ov_2 + st_3.2.1.toNat * 1) 1 = some [.slice tA tN tC]) ∧
                  appH T_api_Batch 3 40 [.int .i64 (0 : Int), .int .i64 (0 : Int), .slice none 0 0] st_3.2.2.2.2.2.1.1 st_3.2.2.2.2.2.1.2.1 st_3.2.2.2.2.2.1.2.2 1 [.int .i64 (IntKind.wrap .i64 ((IntKind.wrap .i64 (st.1 + st_3.2.1)) + (1 : Int))), .int .i64 st_5.1, .slice tA tN tC] (fun tA_1 tN_1 tC_1 h7 =>
                    Jv_3 (st_5.1, (IntKind.wrap .i64 (st_3.2.1 + (1 : Int))), st_3.2.2.1, (IntKind.wrap .i64 ((IntKind.wrap .i64 (st.1 + st_3.2.1)) + (1 : Int))), st_5.1, (tA_1, tN_1, tC_1), st_3.2.2.2.2.2.2.1, (st_3.2.2.2.2.2.2.2.1.1, st_3.2.2.2.2.2.2.2.1.2.1, st_3.2.2.2.2.2.2.2.1.2.2), ()) h7) h6))) ∧
            ((decide (st_3.2.1 < ((r2N : Nat) : Int))) = false →
              K (.agg #[.int .i64 st_3.2.2.1, .int .i64 st_3.2.2.2.1, .int .i64 st_3.2.2.2.2.1, .slice st_3.2.2.2.2.2.1.1 st_3.2.2.2.2.2.1.2.1 st_3.2.2.2.2.2.1.2.2, .int .i64 st_3.2.2.2.2.2.2.1, .slice st_3.2.2.2.2.2.2.2.1.1 st_3.2.2.2.2.2.2.2.1.2.1 st_3.2.2.2.2.2.2.2.1.2.2]) h4))) (st_2.1, (0 : Int), epoch, st.1, st_2.1, (none, 0, 0), st_2.1, (r4A, r4N, r4C), ()) h3)))
theorem F_law20_Made_eq {r0 : Int} {r1 : Int} {r2A : Option Addr} {r2N r2C : Nat} {r3A : Option Addr} {r3N r3C : Nat} {r4A : Option Addr} {r4N r4C : Nat} {epoch : Int} {K : Value → PH → Prop} {h : PH} : @Eq Prop (F_law20_Made r0 r1 r2A r2N r2C r3A r3N r3C r4A r4N r4C epoch K h) (denF Try.prog Try.f21 ⟨[2, 4, 7, 75], [], [(0, ⟨[(8, .int .i64), (9, .int .i64)], [], [(2, [.one (.int .i64), .one (.int .i64), .one (.int .i64), .one (.slice), .one (.int .i64), .one (.slice)])]⟩)], [(10, ⟨[(5, .int .i64)], [], []⟩), (16, ⟨[(6, .int .i64)], [], []⟩), (20, ⟨[(6, .int .i64)], [], []⟩), (34, ⟨[(8, .int .i64)], [], []⟩), (38, ⟨[(8, .int .i64)], [], []⟩)]⟩ [.agg [.one (.int .i64 r0), .one (.int .i64 r1), .one (.slice r2A r2N r2C), .one (.slice r3A r3N r3C), .one (.slice r4A r4N r4C)], .v (.int .i64 epoch)] K h) := by
  kernel_rfl
theorem F_law20_Made_ok {r0 : Int} {r1 : Int} {r2A : Option Addr} {r2N r2C : Nat} {r3A : Option Addr} {r3N r3C : Nat} {r4A : Option Addr} {r4N r4C : Nat} {epoch : Int}  {K : Value → PH → Prop} {h : PH} (hh : F_law20_Made r0 r1 r2A r2N r2C r3A r3N r3C r4A r4N r4C epoch K h) : CallH Try.prog id_law20_Made [.agg #[.int .i64 r0, .int .i64 r1, .slice r2A r2N r2C, .slice r3A r3N r3C, .slice r4A r4N r4C], .int .i64 epoch] K h :=
  denF_sound' Try.func21 (H := ⟨[2, 4, 7, 75], [], [(0, ⟨[(8, .int .i64), (9, .int .i64)], [], [(2, [.one (.int .i64), .one (.int .i64), .one (.int .i64), .one (.slice), .one (.int .i64), .one (.slice)])]⟩)], [(10, ⟨[(5, .int .i64)], [], []⟩), (16, ⟨[(6, .int .i64)], [], []⟩), (20, ⟨[(6, .int .i64)], [], []⟩), (34, ⟨[(8, .int .i64)], [], []⟩), (38, ⟨[(8, .int .i64)], [], []⟩)]⟩) (xs := [.agg [.one (.int .i64 r0), .one (.int .i64 r1), .one (.slice r2A r2N r2C), .one (.slice r3A r3N r3C), .one (.slice r4A r4N r4C)], .v (.int .i64 epoch)]) (by kernel_rfl) (⟨⟨rfl, rfl, rfl, rfl, rfl, trivial⟩, rfl, trivial⟩) (den_of F_law20_Made_eq hh)

/- twinlock/batch.Same -/
def F_batch_Same (a0 : Int) (a1 : Int) (a2A : Option Addr) (a2N a2C : Nat) (b0 : Int) (b1 : Int) (b2A : Option Addr) (b2N b2C : Nat) (K : Value → PH → Prop) (h : PH) : Prop :=
  ((((a0 == b0) && (a1 == b1)) = true →
      CallH Try.prog id_slices_Equal_api_Op_api_Op [.slice a2A a2N a2C, .slice b2A b2N b2C] (fun v h1 =>
        ∃ t : Bool, v = .bool t ∧
        K (.bool t) h1) h) ∧
    (((a0 == b0) && (a1 == b1)) = false →
      K (.bool false) h))
theorem F_batch_Same_eq {a0 : Int} {a1 : Int} {a2A : Option Addr} {a2N a2C : Nat} {b0 : Int} {b1 : Int} {b2A : Option Addr} {b2N b2C : Nat} {K : Value → PH → Prop} {h : PH} : @Eq Prop (F_batch_Same a0 a1 a2A a2N a2C b0 b1 b2A b2N b2C K h) (denF Try.prog Try.f22 ⟨[2, 3], [], [], []⟩ [.agg [.one (.int .i64 a0), .one (.int .i64 a1), .one (.slice a2A a2N a2C)], .agg [.one (.int .i64 b0), .one (.int .i64 b1), .one (.slice b2A b2N b2C)]] K h) := by
  kernel_rfl
theorem F_batch_Same_ok {a0 : Int} {a1 : Int} {a2A : Option Addr} {a2N a2C : Nat} {b0 : Int} {b1 : Int} {b2A : Option Addr} {b2N b2C : Nat}  {K : Value → PH → Prop} {h : PH} (hh : F_batch_Same a0 a1 a2A a2N a2C b0 b1 b2A b2N b2C K h) : CallH Try.prog id_batch_Same [.agg #[.int .i64 a0, .int .i64 a1, .slice a2A a2N a2C], .agg #[.int .i64 b0, .int .i64 b1, .slice b2A b2N b2C]] K h :=
  denF_sound' Try.func22 (H := ⟨[2, 3], [], [], []⟩) (xs := [.agg [.one (.int .i64 a0), .one (.int .i64 a1), .one (.slice a2A a2N a2C)], .agg [.one (.int .i64 b0), .one (.int .i64 b1), .one (.slice b2A b2N b2C)]]) (by kernel_rfl) (⟨⟨rfl, rfl, rfl, trivial⟩, ⟨rfl, rfl, rfl, trivial⟩, trivial⟩) (den_of F_batch_Same_eq hh)

/- twinlock/twinlocklaw12.GreatOps -/
def F_law12_GreatOps (lA : Option Addr) (lN _ : Nat) (K : Value → PH → Prop) (h : PH) : Prop :=
  (((decide (((lN : Nat) : Int) > (100 : Int))) = true →
      K (.bool true) h) ∧
    ((decide (((lN : Nat) : Int) > (100 : Int))) = false →
      LoopP (T := Int × Unit) (fun Jv st h1 =>
        (((decide (st.1 < ((lN : Nat) : Int))) = true →
            ∃ bv ov : Nat, (lA = some ⟨bv, ov, none⟩ ∧ 0 ≤ st.1 ∧ st.1 < (lN : Nat)) ∧
            ∃ t : ByteArray, (h1.rds bv ((ov + st.1.toNat * 3) + 1) 1 = some [.string t]) ∧
            ∃ bv_1 ov_1 : Nat, (((decide ((t.size : Int) > (1000 : Int))) = false → lA = some ⟨bv_1, ov_1, none⟩ ∧ 0 ≤ st.1 ∧ st.1 < (lN : Nat))) ∧
            ∃ t_1 : ByteArray, (((decide ((t.size : Int) > (1000 : Int))) = false → h1.rds bv_1 ((ov_1 + st.1.toNat * 3) + 2) 1 = some [.string t_1])) ∧
            ((((decide ((t.size : Int) > (1000 : Int))) || (decide ((t_1.size : Int) > (1000 : Int)))) = true →
                K (.bool true) h1) ∧
              (((decide ((t.size : Int) > (1000 : Int))) || (decide ((t_1.size : Int) > (1000 : Int)))) = false →
                Jv ((IntKind.wrap .i64 (st.1 + (1 : Int))), ()) h1))) ∧
          ((decide (st.1 < ((lN : Nat) : Int))) = false →
            K (.bool false) h1))) ((0 : Int), ()) h))
theorem F_law12_GreatOps_eq {lA : Option Addr} {lN lC : Nat} {K : Value → PH → Prop} {h : PH} : @Eq Prop (F_law12_GreatOps lA lN lC K h) (denF Try.prog Try.f23 ⟨[], [], [(0, ⟨[(3, .int .i64)], [], []⟩)], []⟩ [.v (.slice lA lN lC)] K h) := by
  kernel_rfl
theorem F_law12_GreatOps_ok {lA : Option Addr} {lN lC : Nat}  {K : Value → PH → Prop} {h : PH} (hh : F_law12_GreatOps lA lN lC K h) : CallH Try.prog id_law12_GreatOps [.slice lA lN lC] K h :=
  denF_sound' Try.func23 (H := ⟨[], [], [(0, ⟨[(3, .int .i64)], [], []⟩)], []⟩) (xs := [.v (.slice lA lN lC)]) (by kernel_rfl) (⟨rfl, trivial⟩) (den_of F_law12_GreatOps_eq hh)

/- (*twinlock/take.Take).none -/
def F_take_Take_none (t : Option Addr) (K : Value → PH → Prop) (h : PH) : Prop :=
  ∃ bv ov : Nat, ((Option.isNone t) = false → t = some ⟨bv, ov, none⟩) ∧
  ∃ t_1 : Option Nat, (((Option.isNone t) = false → h.rds bv (ov + 2) 1 = some [.map t_1])) ∧
  K (.bool ((Option.isNone t) || (Option.isNone t_1))) h
theorem F_take_Take_none_eq {t : Option Addr} {K : Value → PH → Prop} {h : PH} : @Eq Prop (F_take_Take_none t K h) (denF Try.prog Try.f24 ⟨[], [], [], []⟩ [.v (.pointer t)] K h) := by
  kernel_rfl
theorem F_take_Take_none_ok {t : Option Addr}  {K : Value → PH → Prop} {h : PH} (hh : F_take_Take_none t K h) : CallH Try.prog id_take_Take_none [.pointer t] K h :=
  denF_sound' Try.func24 (H := ⟨[], [], [], []⟩) (xs := [.v (.pointer t)]) (by kernel_rfl) (⟨rfl, trivial⟩) (den_of F_take_Take_none_eq hh)

/- slices.Clone[[]twinlock/api.Op,twinlock/api.Op] -/
def F_slices_Clone_api_Op_api_Op (sA : Option Addr) (sN _ : Nat) (K : Value → PH → Prop) (h : PH) : Prop :=
  (((Option.isNone sA) = true →
      K (.slice none 0 0) h) ∧
    ((Option.isNone sA) = false →
      newH h (.cells #[] T_api_Op (0, 0)) fun bv h1 =>
      ∃ vs : List Value, srcH h1 sA (sN * 3) vs ∧
      appH T_api_Op 3 40 [.int .u8 (0 : Int), .string (⟨#[]⟩ : ByteArray), .string (⟨#[]⟩ : ByteArray)] (some ⟨bv, 0, none⟩) 0 0 sN vs (fun tA tN tC h2 =>
        K (.slice tA tN tC) h2) h1))
theorem F_slices_Clone_api_Op_api_Op_eq {sA : Option Addr} {sN sC : Nat} {K : Value → PH → Prop} {h : PH} : @Eq Prop (F_slices_Clone_api_Op_api_Op sA sN sC K h) (denF Try.prog Try.f25 ⟨[], [], [], []⟩ [.v (.slice sA sN sC)] K h) := by
  kernel_rfl
theorem F_slices_Clone_api_Op_api_Op_ok {sA : Option Addr} {sN sC : Nat}  {K : Value → PH → Prop} {h : PH} (hh : F_slices_Clone_api_Op_api_Op sA sN sC K h) : CallH Try.prog id_slices_Clone_api_Op_api_Op [.slice sA sN sC] K h :=
  denF_sound' Try.func25 (H := ⟨[], [], [], []⟩) (xs := [.v (.slice sA sN sC)]) (by kernel_rfl) (⟨rfl, trivial⟩) (den_of F_slices_Clone_api_Op_api_Op_eq hh)

/- twinlock/batch.each -/
def F_batch_each (opsA : Option Addr) (opsN _ : Nat) (ofv : Value) (K : Value → PH → Prop) (h : PH) : Prop :=
  LoopP (T := Int × Unit) (fun Jv st h1 =>
    (((decide (st.1 < ((opsN : Nat) : Int))) = true →
        ∃ bv ov : Nat, (opsA = some ⟨bv, ov, none⟩ ∧ 0 ≤ st.1 ∧ st.1 < (opsN : Nat)) ∧
        ∃ o0 : Int, ∃ o1 : ByteArray, ∃ o2 : ByteArray, (h1.rds bv (ov + st.1.toNat * 3) 3 = some [.int .u8 o0, .string o1, .string o2]) ∧
        ((((o0 != (1 : Int)) && (o0 != (2 : Int))) = true →
            K (.int .i64 (10 : Int)) h1) ∧
          (((o0 != (1 : Int)) && (o0 != (2 : Int))) = false →
            CallV Try.prog ofv [.string o1] (fun v h2 =>
              ∃ e : Int, v = .int .i64 e ∧
              (((e != (0 : Int)) = true →
                  K (.int .i64 e) h2) ∧
                ((e != (0 : Int)) = false →
                  (((decide ((o2.size : Int) > (32 : Int))) = true →
                      K (.int .i64 (3 : Int)) h2) ∧
                    ((decide ((o2.size : Int) > (32 : Int))) = false →
                      ((((o0 == (2 : Int)) && (!(strEq o2 (⟨#[]⟩ : ByteArray)))) = true →
                          K (.int .i64 (1 : Int)) h2) ∧
                        (((o0 == (2 : Int)) && (!(strEq o2 (⟨#[]⟩ : ByteArray)))) = false →
                          Jv ((IntKind.wrap .i64 (st.1 + (1 : Int))), ()) h2))))))) h1))) ∧
      ((decide (st.1 < ((opsN : Nat) : Int))) = false →
        K (.int .i64 (0 : Int)) h1))) ((0 : Int), ()) h
theorem F_batch_each_eq {opsA : Option Addr} {opsN opsC : Nat} {ofv : Value} {K : Value → PH → Prop} {h : PH} : @Eq Prop (F_batch_each opsA opsN opsC ofv K h) (denF Try.prog Try.f26 ⟨[6], [], [(0, ⟨[(10, .int .i64)], [], []⟩)], []⟩ [.v (.slice opsA opsN opsC), .fn ofv] K h) := by
  kernel_rfl
theorem F_batch_each_ok {opsA : Option Addr} {opsN opsC : Nat} {ofv : Value} (hk0 : one1 ofv = true) {K : Value → PH → Prop} {h : PH} (hh : F_batch_each opsA opsN opsC ofv K h) : CallH Try.prog id_batch_each [.slice opsA opsN opsC, ofv] K h :=
  denF_sound' Try.func26 (H := ⟨[6], [], [(0, ⟨[(10, .int .i64)], [], []⟩)], []⟩) (xs := [.v (.slice opsA opsN opsC), .fn ofv]) (by kernel_rfl) (⟨rfl, hk0, trivial⟩) (den_of F_batch_each_eq hh)

/- twinlock/batch.Right-1 -/
def F_batch_Right_1 (p : ByteArray) (K : Value → PH → Prop) (h : PH) : Prop :=
  CallH Try.prog id_path_Cut [.string p] (fun v h1 =>
    ∃ t0 : ByteArray, ∃ t1 : ByteArray, ∃ t2 : Bool, v = .tuple #[.string t0, .string t1, .bool t2] ∧
    (((!t2) = true →
        K (.int .i64 (20 : Int)) h1) ∧
      ((!t2) = false →
        K (.int .i64 (0 : Int)) h1))) h
theorem F_batch_Right_1_eq {p : ByteArray} {K : Value → PH → Prop} {h : PH} : @Eq Prop (F_batch_Right_1 p K h) (denF Try.prog Try.f27 ⟨[], [], [], []⟩ [.v (.string p)] K h) := by
  kernel_rfl
theorem F_batch_Right_1_ok {p : ByteArray}  {K : Value → PH → Prop} {h : PH} (hh : F_batch_Right_1 p K h) : CallH Try.prog id_batch_Right_1 [.string p] K h :=
  denF_sound' Try.func27 (H := ⟨[], [], [], []⟩) (xs := [.v (.string p)]) (by kernel_rfl) (⟨rfl, trivial⟩) (den_of F_batch_Right_1_eq hh)

/- twinlock/path.Cut -/
def F_path_Cut (p : ByteArray) (K : Value → PH → Prop) (h : PH) : Prop :=
  CallH Try.prog id_strings_Cut [.string p, .string (⟨#[47]⟩ : ByteArray)] (fun v h1 =>
    ∃ t0 : ByteArray, ∃ t1 : ByteArray, ∃ t2 : Bool, v = .tuple #[.string t0, .string t1, .bool t2] ∧
    (((!t2) = false →
        CallH Try.prog id_path_named [.string t0] (fun v_1 h2 =>
          ∃ t : Bool, v_1 = .bool t ∧
          (((!t) = false →
              CallH Try.prog id_path_key [.string t1] (fun v_2 h3 =>
                ∃ t_1 : Bool, v_2 = .bool t_1 ∧
                (((!t_1) = true →
                    K (.tuple #[.string (⟨#[]⟩ : ByteArray), .string (⟨#[]⟩ : ByteArray), .bool false]) h3) ∧
                  ((!t_1) = false →
                    K (.tuple #[.string t0, .string t1, .bool true]) h3))) h2) ∧
            ((!t) = true →
              K (.tuple #[.string (⟨#[]⟩ : ByteArray), .string (⟨#[]⟩ : ByteArray), .bool false]) h2))) h1) ∧
      ((!t2) = true →
        K (.tuple #[.string (⟨#[]⟩ : ByteArray), .string (⟨#[]⟩ : ByteArray), .bool false]) h1))) h
theorem F_path_Cut_eq {p : ByteArray} {K : Value → PH → Prop} {h : PH} : @Eq Prop (F_path_Cut p K h) (denF Try.prog Try.f28 ⟨[], [], [], []⟩ [.v (.string p)] K h) := by
  kernel_rfl
theorem F_path_Cut_ok {p : ByteArray}  {K : Value → PH → Prop} {h : PH} (hh : F_path_Cut p K h) : CallH Try.prog id_path_Cut [.string p] K h :=
  denF_sound' Try.func28 (H := ⟨[], [], [], []⟩) (xs := [.v (.string p)]) (by kernel_rfl) (⟨rfl, trivial⟩) (den_of F_path_Cut_eq hh)

/- twinlock/twinlocklaw13.GreatPairs -/
def F_law13_GreatPairs (lA : Option Addr) (lN _ : Nat) (K : Value → PH → Prop) (h : PH) : Prop :=
  (((decide (((lN : Nat) : Int) > (200 : Int))) = true →
      K (.bool true) h) ∧
    ((decide (((lN : Nat) : Int) > (200 : Int))) = false →
      LoopP (T := Int × Unit) (fun Jv st h1 =>
        (((decide (st.1 < ((lN : Nat) : Int))) = true →
            ∃ bv ov : Nat, (lA = some ⟨bv, ov, none⟩ ∧ 0 ≤ st.1 ∧ st.1 < (lN : Nat)) ∧
            ∃ t : ByteArray, (h1.rds bv (ov + st.1.toNat * 2) 1 = some [.string t]) ∧
            ∃ bv_1 ov_1 : Nat, (((decide ((t.size : Int) > (1000 : Int))) = false → lA = some ⟨bv_1, ov_1, none⟩ ∧ 0 ≤ st.1 ∧ st.1 < (lN : Nat))) ∧
            ∃ t_1 : ByteArray, (((decide ((t.size : Int) > (1000 : Int))) = false → h1.rds bv_1 ((ov_1 + st.1.toNat * 2) + 1) 1 = some [.string t_1])) ∧
            ((((decide ((t.size : Int) > (1000 : Int))) || (decide ((t_1.size : Int) > (1000 : Int)))) = true →
                K (.bool true) h1) ∧
              (((decide ((t.size : Int) > (1000 : Int))) || (decide ((t_1.size : Int) > (1000 : Int)))) = false →
                Jv ((IntKind.wrap .i64 (st.1 + (1 : Int))), ()) h1))) ∧
          ((decide (st.1 < ((lN : Nat) : Int))) = false →
            K (.bool false) h1))) ((0 : Int), ()) h))
theorem F_law13_GreatPairs_eq {lA : Option Addr} {lN lC : Nat} {K : Value → PH → Prop} {h : PH} : @Eq Prop (F_law13_GreatPairs lA lN lC K h) (denF Try.prog Try.f29 ⟨[], [], [(0, ⟨[(3, .int .i64)], [], []⟩)], []⟩ [.v (.slice lA lN lC)] K h) := by
  kernel_rfl
theorem F_law13_GreatPairs_ok {lA : Option Addr} {lN lC : Nat}  {K : Value → PH → Prop} {h : PH} (hh : F_law13_GreatPairs lA lN lC K h) : CallH Try.prog id_law13_GreatPairs [.slice lA lN lC] K h :=
  denF_sound' Try.func29 (H := ⟨[], [], [(0, ⟨[(3, .int .i64)], [], []⟩)], []⟩) (xs := [.v (.slice lA lN lC)]) (by kernel_rfl) (⟨rfl, trivial⟩) (den_of F_law13_GreatPairs_eq hh)

/- slices.Equal[[]twinlock/api.Op,twinlock/api.Op] -/
def F_slices_Equal_api_Op_api_Op (s1A : Option Addr) (s1N _ : Nat) (s2A : Option Addr) (s2N _ : Nat) (K : Value → PH → Prop) (h : PH) : Prop :=
  (((((s1N : Nat) : Int) != ((s2N : Nat) : Int)) = true →
      K (.bool false) h) ∧
    ((((s1N : Nat) : Int) != ((s2N : Nat) : Int)) = false →
      LoopP (T := Int × Unit) (fun Jv st h1 =>
        (((decide (st.1 < ((s1N : Nat) : Int))) = true →
            ∃ bv ov : Nat, (s1A = some ⟨bv, ov, none⟩ ∧ 0 ≤ st.1 ∧ st.1 < (s1N : Nat)) ∧
            ∃ t0 : Int, ∃ t1 : ByteArray, ∃ t2 : ByteArray, (h1.rds bv (ov + st.1.toNat * 3) 3 = some [.int .u8 t0, .string t1, .string t2]) ∧
            ∃ bv_1 ov_1 : Nat, (s2A = some ⟨bv_1, ov_1, none⟩ ∧ 0 ≤ st.1 ∧ st.1 < (s2N : Nat)) ∧
            ∃ t0_1 : Int, ∃ t1_1 : ByteArray, ∃ t2_1 : ByteArray, (h1.rds bv_1 (ov_1 + st.1.toNat * 3) 3 = some [.int .u8 t0_1, .string t1_1, .string t2_1]) ∧
            (((!((t0 == t0_1) && ((strEq t1 t1_1) && ((strEq t2 t2_1) && true)))) = true →
                K (.bool false) h1) ∧
              ((!((t0 == t0_1) && ((strEq t1 t1_1) && ((strEq t2 t2_1) && true)))) = false →
                Jv ((IntKind.wrap .i64 (st.1 + (1 : Int))), ()) h1))) ∧
          ((decide (st.1 < ((s1N : Nat) : Int))) = false →
            K (.bool true) h1))) ((0 : Int), ()) h))
theorem F_slices_Equal_api_Op_api_Op_eq {s1A : Option Addr} {s1N s1C : Nat} {s2A : Option Addr} {s2N s2C : Nat} {K : Value → PH → Prop} {h : PH} : @Eq Prop (F_slices_Equal_api_Op_api_Op s1A s1N s1C s2A s2N s2C K h) (denF Try.prog Try.f30 ⟨[], [], [(0, ⟨[(13, .int .i64)], [], []⟩)], []⟩ [.v (.slice s1A s1N s1C), .v (.slice s2A s2N s2C)] K h) := by
  kernel_rfl
theorem F_slices_Equal_api_Op_api_Op_ok {s1A : Option Addr} {s1N s1C : Nat} {s2A : Option Addr} {s2N s2C : Nat}  {K : Value → PH → Prop} {h : PH} (hh : F_slices_Equal_api_Op_api_Op s1A s1N s1C s2A s2N s2C K h) : CallH Try.prog id_slices_Equal_api_Op_api_Op [.slice s1A s1N s1C, .slice s2A s2N s2C] K h :=
  denF_sound' Try.func30 (H := ⟨[], [], [(0, ⟨[(13, .int .i64)], [], []⟩)], []⟩) (xs := [.v (.slice s1A s1N s1C), .v (.slice s2A s2N s2C)]) (by kernel_rfl) (⟨rfl, rfl, trivial⟩) (den_of F_slices_Equal_api_Op_api_Op_eq hh)

/- strings.Cut -/
def F_strings_Cut (sv : ByteArray) (sep : ByteArray) (K : Value → PH → Prop) (h : PH) : Prop :=
  CallH Try.prog id_internal_stringslite_Cut [.string sv, .string sep] (fun v h1 =>
    ∃ t0 : ByteArray, ∃ t1 : ByteArray, ∃ t2 : Bool, v = .tuple #[.string t0, .string t1, .bool t2] ∧
    K (.tuple #[.string t0, .string t1, .bool t2]) h1) h
theorem F_strings_Cut_eq {sv : ByteArray} {sep : ByteArray} {K : Value → PH → Prop} {h : PH} : @Eq Prop (F_strings_Cut sv sep K h) (denF Try.prog Try.f31 ⟨[], [], [], []⟩ [.v (.string sv), .v (.string sep)] K h) := by
  kernel_rfl
theorem F_strings_Cut_ok {sv : ByteArray} {sep : ByteArray}  {K : Value → PH → Prop} {h : PH} (hh : F_strings_Cut sv sep K h) : CallH Try.prog id_strings_Cut [.string sv, .string sep] K h :=
  denF_sound' Try.func31 (H := ⟨[], [], [], []⟩) (xs := [.v (.string sv), .v (.string sep)]) (by kernel_rfl) (⟨rfl, rfl, trivial⟩) (den_of F_strings_Cut_eq hh)

/- twinlock/path.named -/
def F_path_named (sv : ByteArray) (K : Value → PH → Prop) (h : PH) : Prop :=
  LoopP (T := Int × Unit) (fun Jv st h1 =>
    (((decide (st.1 < (sv.size : Int))) = true →
        (0 ≤ st.1 ∧ st.1 < (ByteArray.size sv : Nat)) ∧
        (((decide ((byteAt sv st.1) < (97 : Int))) = false → 0 ≤ st.1 ∧ st.1 < (ByteArray.size sv : Nat))) ∧
        ((((decide ((byteAt sv st.1) < (97 : Int))) || (decide ((byteAt sv st.1) > (122 : Int)))) = true →
            K (.bool false) h1) ∧
          (((decide ((byteAt sv st.1) < (97 : Int))) || (decide ((byteAt sv st.1) > (122 : Int)))) = false →
            Jv ((IntKind.wrap .i64 (st.1 + (1 : Int))), ()) h1))) ∧
      ((decide (st.1 < (sv.size : Int))) = false →
        K (.bool ((decide ((sv.size : Int) ≥ (1 : Int))) && (decide ((sv.size : Int) ≤ (8 : Int))))) h1))) ((0 : Int), ()) h
theorem F_path_named_eq {sv : ByteArray} {K : Value → PH → Prop} {h : PH} : @Eq Prop (F_path_named sv K h) (denF Try.prog Try.f32 ⟨[], [], [(0, ⟨[(6, .int .i64)], [], []⟩)], []⟩ [.v (.string sv)] K h) := by
  kernel_rfl
theorem F_path_named_ok {sv : ByteArray}  {K : Value → PH → Prop} {h : PH} (hh : F_path_named sv K h) : CallH Try.prog id_path_named [.string sv] K h :=
  denF_sound' Try.func32 (H := ⟨[], [], [(0, ⟨[(6, .int .i64)], [], []⟩)], []⟩) (xs := [.v (.string sv)]) (by kernel_rfl) (⟨rfl, trivial⟩) (den_of F_path_named_eq hh)

/- twinlock/path.key -/
def F_path_key (sv : ByteArray) (K : Value → PH → Prop) (h : PH) : Prop :=
  ((((decide ((sv.size : Int) ≥ (1 : Int))) && (decide ((sv.size : Int) ≤ (24 : Int)))) = true →
      CallH Try.prog id_strings_IndexByte [.string sv, .int .u8 (0 : Int)] (fun v h1 =>
        ∃ t : Int, v = .int .i64 t ∧
        (((decide (t < (0 : Int))) = true →
            CallH Try.prog id_strings_IndexByte [.string sv, .int .u8 (47 : Int)] (fun v_1 h2 =>
              ∃ t_1 : Int, v_1 = .int .i64 t_1 ∧
              K (.bool (decide (t_1 < (0 : Int)))) h2) h1) ∧
          ((decide (t < (0 : Int))) = false →
            K (.bool false) h1))) h) ∧
    (((decide ((sv.size : Int) ≥ (1 : Int))) && (decide ((sv.size : Int) ≤ (24 : Int)))) = false →
      K (.bool false) h))
theorem F_path_key_eq {sv : ByteArray} {K : Value → PH → Prop} {h : PH} : @Eq Prop (F_path_key sv K h) (denF Try.prog Try.f33 ⟨[], [], [], []⟩ [.v (.string sv)] K h) := by
  kernel_rfl
theorem F_path_key_ok {sv : ByteArray}  {K : Value → PH → Prop} {h : PH} (hh : F_path_key sv K h) : CallH Try.prog id_path_key [.string sv] K h :=
  denF_sound' Try.func33 (H := ⟨[], [], [], []⟩) (xs := [.v (.string sv)]) (by kernel_rfl) (⟨rfl, trivial⟩) (den_of F_path_key_eq hh)

/- internal/stringslite.Cut -/
def F_internal_stringslite_Cut (sv : ByteArray) (sep : ByteArray) (K : Value → PH → Prop) (h : PH) : Prop :=
  CallH Try.prog id_internal_stringslite_Index [.string sv, .string sep] (fun v h1 =>
    ∃ i : Int, v = .int .i64 i ∧
    (((decide (i ≥ (0 : Int))) = true →
        (0 ≤ (0 : Int) ∧ (0 : Int) ≤ i ∧ i ≤ (ByteArray.size sv : Nat)) ∧
        (0 ≤ (IntKind.wrap .i64 (i + (sep.size : Int))) ∧ (IntKind.wrap .i64 (i + (sep.size : Int))) ≤ ((ByteArray.size sv : Nat) : Int) ∧ ((ByteArray.size sv : Nat) : Int) ≤ (ByteArray.size sv : Nat)) ∧
        K (.tuple #[.string (subS sv (0 : Int) i), .string (subS sv (IntKind.wrap .i64 (i + (sep.size : Int))) ((ByteArray.size sv : Nat) : Int)), .bool true]) h1) ∧
      ((decide (i ≥ (0 : Int))) = false →
        K (.tuple #[.string sv, .string (⟨#[]⟩ : ByteArray), .bool false]) h1))) h
theorem F_internal_stringslite_Cut_eq {sv : ByteArray} {sep : ByteArray} {K : Value → PH → Prop} {h : PH} : @Eq Prop (F_internal_stringslite_Cut sv sep K h) (denF Try.prog Try.f34 ⟨[], [], [], []⟩ [.v (.string sv), .v (.string sep)] K h) := by
  kernel_rfl
theorem F_internal_stringslite_Cut_ok {sv : ByteArray} {sep : ByteArray}  {K : Value → PH → Prop} {h : PH} (hh : F_internal_stringslite_Cut sv sep K h) : CallH Try.prog id_internal_stringslite_Cut [.string sv, .string sep] K h :=
  denF_sound' Try.func34 (H := ⟨[], [], [], []⟩) (xs := [.v (.string sv), .v (.string sep)]) (by kernel_rfl) (⟨rfl, rfl, trivial⟩) (den_of F_internal_stringslite_Cut_eq hh)

/- strings.IndexByte -/
def F_strings_IndexByte (sv : ByteArray) (cv : Int) (K : Value → PH → Prop) (h : PH) : Prop :=
  CallH Try.prog id_internal_stringslite_IndexByte [.string sv, .int .u8 cv] (fun v h1 =>
    ∃ t : Int, v = .int .i64 t ∧
    K (.int .i64 t) h1) h
theorem F_strings_IndexByte_eq {sv : ByteArray} {cv : Int} {K : Value → PH → Prop} {h : PH} : @Eq Prop (F_strings_IndexByte sv cv K h) (denF Try.prog Try.f35 ⟨[], [], [], []⟩ [.v (.string sv), .v (.int .u8 cv)] K h) := by
  kernel_rfl
theorem F_strings_IndexByte_ok {sv : ByteArray} {cv : Int}  {K : Value → PH → Prop} {h : PH} (hh : F_strings_IndexByte sv cv K h) : CallH Try.prog id_strings_IndexByte [.string sv, .int .u8 cv] K h :=
  denF_sound' Try.func35 (H := ⟨[], [], [], []⟩) (xs := [.v (.string sv), .v (.int .u8 cv)]) (by kernel_rfl) (⟨rfl, rfl, trivial⟩) (den_of F_strings_IndexByte_eq hh)

/- internal/stringslite.Index -/
set_option maxRecDepth 100000 in
def F_internal_stringslite_Index (sv : ByteArray) (substr : ByteArray) (K : Value → PH → Prop) (h : PH) : Prop :=
  (((((substr.size : Int) == (0 : Int)) || (strEq substr sv)) = true →
      K (.int .i64 (0 : Int)) h) ∧
    ((((substr.size : Int) == (0 : Int)) || (strEq substr sv)) = false →
      ((((substr.size : Int) == (1 : Int)) = true →
          (0 ≤ (0 : Int) ∧ (0 : Int) < (ByteArray.size substr : Nat)) ∧
          CallH Try.prog id_internal_stringslite_IndexByte [.string sv, .int .u8 (byteAt substr (0 : Int))] (fun v h1 =>
            ∃ t : Int, v = .int .i64 t ∧
            K (.int .i64 t) h1) h) ∧
        (((substr.size : Int) == (1 : Int)) = false →
          (((decide ((substr.size : Int) ≥ (sv.size : Int))) = true →
              K (.int .i64 (-1 : Int)) h) ∧
            ((decide ((substr.size : Int) ≥ (sv.size : Int))) = false →
              ∃ t_1 : Int, (h.rds 0 0 1 = some [.int .i64 t_1]) ∧
              ((((decide ((substr.size : Int) ≤ t_1)) && (decide ((sv.size : Int) ≤ (64 : Int)))) = true →
                  ExtH Try.prog id_internal_bytealg_IndexString [.string sv, .string substr] (fun v_1 h2 =>
                    ∃ t_2 : Int, v_1 = .int .i64 t_2 ∧
                    K (.int .i64 t_2) h2) h) ∧
                (((decide ((substr.size : Int) ≤ t_1)) && (decide ((sv.size : Int) ≤ (64 : Int)))) = false →
                  (0 ≤ (0 : Int) ∧ (0 : Int) < (ByteArray.size substr : Nat)) ∧
                  (0 ≤ (1 : Int) ∧ (1 : Int) < (ByteArray.size substr : Nat)) ∧
                  LoopP (T := Int × Int × Unit) (fun Jv st h3 =>
                    (((decide (st.1 < (IntKind.wrap .i64 ((IntKind.wrap .i64 ((sv.size : Int) - (substr.size : Int))) + (1 : Int))))) = true →
                        JoinP (T := Int × Unit) (fun Jv_1 =>
                          (0 ≤ st.1 ∧ st.1 < (ByteArray.size sv : Nat)) ∧
                          ((((byteAt sv st.1) != (byteAt substr (0 : Int))) = true →
                              (0 ≤ (IntKind.wrap .i64 (st.1 + (1 : Int))) ∧ (IntKind.wrap .i64 (st.1 + (1 : Int))) ≤ (IntKind.wrap .i64 ((IntKind.wrap .i64 ((sv.size : Int) - (substr.size : Int))) + (1 : Int))) ∧ (IntKind.wrap .i64 ((IntKind.wrap .i64 ((sv.size : Int) - (substr.size : Int))) + (1 : Int))) ≤ (ByteArray.size sv : Nat)) ∧
                              CallH Try.prog id_internal_stringslite_IndexByte [.string (subS sv (IntKind.wrap .i64 (st.1 + (1 : Int))) (IntKind.wrap .i64 ((IntKind.wrap .i64 ((sv.size : Int) - (substr.size : Int))) + (1 : Int)))), .int .u8 (byteAt substr (0 : Int))] (fun v_2 h5 =>
                                ∃ ov : Int, v_2 = .int .i64 ov ∧
                                (((decide (ov < (0 : Int))) = true →
                                    K (.int .i64 (-1 : Int)) h5) ∧
                                  ((decide (ov < (0 : Int))) = false →
                                    Jv_1 ((IntKind.wrap .i64 (st.1 + (IntKind.wrap .i64 (ov + (1 : Int))))), ()) h5))) h3) ∧
                            (((byteAt sv st.1) != (byteAt substr (0 : Int))) = false →
                              Jv_1 (st.1, ()) h3)))
                        (fun st_1 h4 =>
                          (0 ≤ (IntKind.wrap .i64 (st_1.1 + (1 : Int))) ∧ (IntKind.wrap .i64 (st_1.1 + (1 : Int))) < (ByteArray.size sv : Nat)) ∧
                          ((((byteAt sv (IntKind.wrap .i64 (st_1.1 + (1 : Int)))) == (byteAt substr (1 : Int))) = true → 0 ≤ st_1.1 ∧ st_1.1 ≤ (IntKind.wrap .i64 (st_1.1 + (substr.size : Int))) ∧ (IntKind.wrap .i64 (st_1.1 + (substr.size : Int))) ≤ (ByteArray.size sv : Nat))) ∧
                          (((((byteAt sv (IntKind.wrap .i64 (st_1.1 + (1 : Int)))) == (byteAt substr (1 : Int))) && (strEq (subS sv st_1.1 (IntKind.wrap .i64 (st_1.1 + (substr.size : Int)))) substr)) = true →
                              K (.int .i64 st_1.1) h4) ∧
                            ((((byteAt sv (IntKind.wrap .i64 (st_1.1 + (1 : Int)))) == (byteAt substr (1 : Int))) && (strEq (subS sv st_1.1 (IntKind.wrap .i64 (st_1.1 + (substr.size : Int)))) substr)) = false →
                              ∃ t_3 : Int, (h4.rds 0 0 1 = some [.int .i64 t_3]) ∧
                              (((decide ((substr.size : Int) ≤ t_3)) = true →
                                  CallH Try.prog id_internal_bytealg_Cutover [.int .i64 (IntKind.wrap .i64 (st_1.1 + (1 : Int)))] (fun v_3 h6 =>
                                    ∃ t_4 : Int, v_3 = .int .i64 t_4 ∧
                                    (((decide ((IntKind.wrap .i64 (st.2.1 + (1 : Int))) > t_4)) = true →
                                        (0 ≤ (IntKind.wrap .i64 (st_1.1 + (1 : Int))) ∧ (IntKind.wrap .i64 (st_1.1 + (1 : Int))) ≤ ((ByteArray.size sv : Nat) : Int) ∧ ((ByteArray.size sv : Nat) : Int) ≤ (ByteArray.size sv : Nat)) ∧
                                        ExtH Try.prog id_internal_bytealg_IndexString [.string (subS sv (IntKind.wrap .i64 (st_1.1 + (1 : Int))) ((ByteArray.size sv : Nat) : Int)), .string substr] (fun v_4 h7 =>
                                          ∃ r : Int, v_4 = .int .i64 r ∧
                                          (((decide (r ≥ (0 : Int))) = true →
                                              K (.int .i64 (IntKind.wrap .i64 (r + (IntKind.wrap .i64 (st_1.1 + (1 : Int)))))) h7) ∧
                                            ((decide (r ≥ (0 : Int))) = false →
                                              K (.int .i64 (-1 : Int)) h7))) h6) ∧
                                      ((decide ((IntKind.wrap .i64 (st.2.1 + (1 : Int))) > t_4)) = false →
                                        ∃ t_5 : Int, (h6.rds 0 0 1 = some [.int .i64 t_5]) ∧
                                        (((((decide ((substr.size : Int) > t_5)) && (decide ((IntKind.wrap .i64 (st.2.1 + (1 : Int))) ≥ (IntKind.wrap .i64 ((4 : Int) + (shrV .i64 (IntKind.wrap .i64 (st_1.1 + (1 : Int))) (4 : Int))))))) && (decide ((IntKind.wrap .i64 (st_1.1 + (1 : Int))) < (IntKind.wrap .i64 ((IntKind.wrap .i64 ((sv.size : Int) - (substr.size : Int))) + (1 : Int)))))) = true →
                                            (0 ≤ (IntKind.wrap .i64 (st_1.1 + (1 : Int))) ∧ (IntKind.wrap .i64 (st_1.1 + (1 : Int))) ≤ ((ByteArray.size sv : Nat) : Int) ∧ ((ByteArray.size sv : Nat) : Int) ≤ (ByteArray.size sv : Nat)) ∧
                                            CallH Try.prog id_internal_bytealg_IndexRabinKarp_string [.string (subS sv (IntKind.wrap .i64 (st_1.1 + (1 : Int))) ((ByteArray.size sv : Nat) : Int)), .string substr] (fun v_5 h8 =>
                                              ∃ j : Int, v_5 = .int .i64 j ∧
                                              (((decide (j < (0 : Int))) = true →
                                                  K (.int .i64 (-1 : Int)) h8) ∧
                                                ((decide (j < (0 : Int))) = false →
                                                  K (.int .i64 (IntKind.wrap .i64 ((IntKind.wrap .i64 (st_1.1 + (1 : Int))) + j))) h8))) h6) ∧
                                          ((((decide ((substr.size : Int) > t_5)) && (decide ((IntKind.wrap .i64 (st.2.1 + (1 : Int))) ≥ (IntKind.wrap .i64 ((4 : Int) + (shrV .i64 (IntKind.wrap .i64 (st_1.1 + (1 : Int))) (4 : Int))))))) && (decide ((IntKind.wrap .i64 (st_1.1 + (1 : Int))) < (IntKind.wrap .i64 ((IntKind.wrap .i64 ((sv.size : Int) - (substr.size : Int))) + (1 : Int)))))) = false →
                                            Jv ((IntKind.wrap .i64 (st_1.1 + (1 : Int))), (IntKind.wrap .i64 (st.2.1 + (1 : Int))), ()) h6))))) h4) ∧
                                ((decide ((substr.size : Int) ≤ t_3)) = false →
                                  ∃ t_6 : Int, (h4.rds 0 0 1 = some [.int .i64 t_6]) ∧
                                  (((((decide ((substr.size : Int) > t_6)) && (decide ((IntKind.wrap .i64 (st.2.1 + (1 : Int))) ≥ (IntKind.wrap .i64 ((4 : Int) + (shrV .i64 (IntKind.wrap .i64 (st_1.1 + (1 : Int))) (4 : Int))))))) && (decide ((IntKind.wrap .i64 (st_1.1 + (1 : Int))) < (IntKind.wrap .i64 ((IntKind.wrap .i64 ((sv.size : Int) - (substr.size : Int))) + (1 : Int)))))) = true →
                                      (0 ≤ (IntKind.wrap .i64 (st_1.1 + (1 : Int))) ∧ (IntKind.wrap .i64 (st_1.1 + (1 : Int))) ≤ ((ByteArray.size sv : Nat) : Int) ∧ ((ByteArray.size sv : Nat) : Int) ≤ (ByteArray.size sv : Nat)) ∧
                                      CallH Try.prog id_internal_bytealg_IndexRabinKarp_string [.string (subS sv (IntKind.wrap .i64 (st_1.1 + (1 : Int))) ((ByteArray.size sv : Nat) : Int)), .string substr] (fun v_6 h9 =>
                                        ∃ j_1 : Int, v_6 = .int .i64 j_1 ∧
                                        (((decide (j_1 < (0 : Int))) = true →
                                            K (.int .i64 (-1 : Int)) h9) ∧
                                          ((decide (j_1 < (0 : Int))) = false →
                                            K (.int .i64 (IntKind.wrap .i64 ((IntKind.wrap .i64 (st_1.1 + (1 : Int))) + j_1))) h9))) h4) ∧
                                    ((((decide ((substr.size : Int) > t_6)) && (decide ((IntKind.wrap .i64 (st.2.1 + (1 : Int))) ≥ (IntKind.wrap .i64 ((4 : Int) + (shrV .i64 (IntKind.wrap .i64 (st_1.1 + (1 : Int))) (4 : Int))))))) && (decide ((IntKind.wrap .i64 (st_1.1 + (1 : Int))) < (IntKind.wrap .i64 ((IntKind.wrap .i64 ((sv.size : Int) - (substr.size : Int))) + (1 : Int)))))) = false →
                                      Jv ((IntKind.wrap .i64 (st_1.1 + (1 : Int))), (IntKind.wrap .i64 (st.2.1 + (1 : Int))), ()) h4)))))))) ∧
                      ((decide (st.1 < (IntKind.wrap .i64 ((IntKind.wrap .i64 ((sv.size : Int) - (substr.size : Int))) + (1 : Int))))) = false →
                        K (.int .i64 (-1 : Int)) h3))) ((0 : Int), (0 : Int), ()) h))))))))
set_option maxRecDepth 100000 in
theorem F_internal_stringslite_Index_eq {sv : ByteArray} {substr : ByteArray} {K : Value → PH → Prop} {h : PH} : @Eq Prop (F_internal_stringslite_Index sv substr K h) (denF Try.prog Try.f36 ⟨[], [], [(1, ⟨[(8, .int .i64), (10, .int .i64)], [], []⟩)], [(44, ⟨[(8, .int .i64)], [], []⟩)]⟩ [.v (.string sv), .v (.string substr)] K h) := by
  kernel_rfl
theorem F_internal_stringslite_Index_ok {sv : ByteArray} {substr : ByteArray}  {K : Value → PH → Prop} {h : PH} (hh : F_internal_stringslite_Index sv substr K h) : CallH Try.prog id_internal_stringslite_Index [.string sv, .string substr] K h :=
  denF_sound' Try.func36 (H := ⟨[], [], [(1, ⟨[(8, .int .i64), (10, .int .i64)], [], []⟩)], [(44, ⟨[(8, .int .i64)], [], []⟩)]⟩) (xs := [.v (.string sv), .v (.string substr)]) (by kernel_rfl) (⟨rfl, rfl, trivial⟩) (den_of F_internal_stringslite_Index_eq hh)

/- internal/stringslite.IndexByte -/
def F_internal_stringslite_IndexByte (sv : ByteArray) (cv : Int) (K : Value → PH → Prop) (h : PH) : Prop :=
  ExtH Try.prog id_internal_bytealg_IndexByteString [.string sv, .int .u8 cv] (fun v h1 =>
    ∃ t : Int, v = .int .i64 t ∧
    K (.int .i64 t) h1) h
theorem F_internal_stringslite_IndexByte_eq {sv : ByteArray} {cv : Int} {K : Value → PH → Prop} {h : PH} : @Eq Prop (F_internal_stringslite_IndexByte sv cv K h) (denF Try.prog Try.f37 ⟨[], [], [], []⟩ [.v (.string sv), .v (.int .u8 cv)] K h) := by
  kernel_rfl
theorem F_internal_stringslite_IndexByte_ok {sv : ByteArray} {cv : Int}  {K : Value → PH → Prop} {h : PH} (hh : F_internal_stringslite_IndexByte sv cv K h) : CallH Try.prog id_internal_stringslite_IndexByte [.string sv, .int .u8 cv] K h :=
  denF_sound' Try.func37 (H := ⟨[], [], [], []⟩) (xs := [.v (.string sv), .v (.int .u8 cv)]) (by kernel_rfl) (⟨rfl, rfl, trivial⟩) (den_of F_internal_stringslite_IndexByte_eq hh)

/- internal/bytealg.Cutover -/
def F_internal_bytealg_Cutover (n : Int) (K : Value → PH → Prop) (h : PH) : Prop :=
  K (.int .i64 (IntKind.wrap .i64 ((IntKind.wrap .i64 (n + (16 : Int))).tdiv (8 : Int)))) h
theorem F_internal_bytealg_Cutover_eq {n : Int} {K : Value → PH → Prop} {h : PH} : @Eq Prop (F_internal_bytealg_Cutover n K h) (denF Try.prog Try.f39 ⟨[], [], [], []⟩ [.v (.int .i64 n)] K h) := by
  kernel_rfl
theorem F_internal_bytealg_Cutover_ok {n : Int}  {K : Value → PH → Prop} {h : PH} (hh : F_internal_bytealg_Cutover n K h) : CallH Try.prog id_internal_bytealg_Cutover [.int .i64 n] K h :=
  denF_sound' Try.func39 (H := ⟨[], [], [], []⟩) (xs := [.v (.int .i64 n)]) (by kernel_rfl) (⟨rfl, trivial⟩) (den_of F_internal_bytealg_Cutover_eq hh)

/- internal/bytealg.IndexRabinKarp[string] -/
def F_internal_bytealg_IndexRabinKarp_string (sv : ByteArray) (sep : ByteArray) (K : Value → PH → Prop) (h : PH) : Prop :=
  CallH Try.prog id_internal_bytealg_hashStr_string [.string sep] (fun v h1 =>
    ∃ t0 : Int, ∃ t1 : Int, v = .tuple #[.int .u32 t0, .int .u32 t1] ∧
    LoopP (T := Int × Int × Unit) (fun Jv st h2 =>
      (((decide (st.2.1 < (sep.size : Int))) = true →
          (0 ≤ st.2.1 ∧ st.2.1 < (ByteArray.size sv : Nat)) ∧
          Jv ((IntKind.wrap .u32 ((IntKind.wrap .u32 (st.1 * (16777619 : Int))) + (IntKind.wrap .u32 (byteAt sv st.2.1)))), (IntKind.wrap .i64 (st.2.1 + (1 : Int))), ()) h2) ∧
        ((decide (st.2.1 < (sep.size : Int))) = false →
          (((st.1 == t0) = true → 0 ≤ (0 : Int) ∧ (0 : Int) ≤ (sep.size : Int) ∧ (sep.size : Int) ≤ (ByteArray.size sv : Nat))) ∧
          ((((st.1 == t0) && (strEq (subS sv (0 : Int) (sep.size : Int)) sep)) = true →
              K (.int .i64 (0 : Int)) h2) ∧
            (((st.1 == t0) && (strEq (subS sv (0 : Int) (sep.size : Int)) sep)) = false →
              LoopP (T := Int × Int × Unit) (fun Jv_1 st_1 h3 =>
                (((decide (st_1.2.1 < (sv.size : Int))) = true →
                    (0 ≤ st_1.2.1 ∧ st_1.2.1 < (ByteArray.size sv : Nat)) ∧
                    (0 ≤ (IntKind.wrap .i64 (st_1.2.1 - (sep.size : Int))) ∧ (IntKind.wrap .i64 (st_1.2.1 - (sep.size : Int))) < (ByteArray.size sv : Nat)) ∧
                    ((((IntKind.wrap .u32 ((IntKind.wrap .u32 ((IntKind.wrap .u32 (st_1.1 * (16777619 : Int))) + (IntKind.wrap .u32 (byteAt sv st_1.2.1)))) - (IntKind.wrap .u32 (t1 * (IntKind.wrap .u32 (byteAt sv (IntKind.wrap .i64 (st_1.2.1 - (sep.size : Int))))))))) == t0) = true → 0 ≤ (IntKind.wrap .i64 ((IntKind.wrap .i64 (st_1.2.1 + (1 : Int))) - (sep.size : Int))) ∧ (IntKind.wrap .i64 ((IntKind.wrap .i64 (st_1.2.1 + (1 : Int))) - (sep.size : Int))) ≤ (IntKind.wrap .i64 (st_1.2.1 + (1 : Int))) ∧ (IntKind.wrap .i64 (st_1.2.1 + (1 : Int))) ≤ (ByteArray.size sv : Nat))) ∧
                    (((((IntKind.wrap .u32 ((IntKind.wrap .u32 ((IntKind.wrap .u32 (st_1.1 * (16777619 : Int))) + (IntKind.wrap .u32 (byteAt sv st_1.2.1)))) - (IntKind.wrap .u32 (t1 * (IntKind.wrap .u32 (byteAt sv (IntKind.wrap .i64 (st_1.2.1 - (sep.size : Int))))))))) == t0) && (strEq (subS sv (IntKind.wrap .i64 ((IntKind.wrap .i64 (st_1.2.1 + (1 : Int))) - (sep.size : Int))) (IntKind.wrap .i64 (st_1.2.1 + (1 : Int)))) sep)) = true →
                        K (.int .i64 (IntKind.wrap .i64 ((IntKind.wrap .i64 (st_1.2.1 + (1 : Int))) - (sep.size : Int)))) h3) ∧
                      ((((IntKind.wrap .u32 ((IntKind.wrap .u32 ((IntKind.wrap .u32 (st_1.1 * (16777619 : Int))) + (IntKind.wrap .u32 (byteAt sv st_1.2.1)))) - (IntKind.wrap .u32 (t1 * (IntKind.wrap .u32 (byteAt sv (IntKind.wrap .i64 (st_1.2.1 - (sep.size : Int))))))))) == t0) && (strEq (subS sv (IntKind.wrap .i64 ((IntKind.wrap .i64 (st_1.2.1 + (1 : Int))) - (sep.size : Int))) (IntKind.wrap .i64 (st_1.2.1 + (1 : Int)))) sep)) = false →
                        Jv_1 ((IntKind.wrap .u32 ((IntKind.wrap .u32 ((IntKind.wrap .u32 (st_1.1 * (16777619 : Int))) + (IntKind.wrap .u32 (byteAt sv st_1.2.1)))) - (IntKind.wrap .u32 (t1 * (IntKind.wrap .u32 (byteAt sv (IntKind.wrap .i64 (st_1.2.1 - (sep.size : Int))))))))), (IntKind.wrap .i64 (st_1.2.1 + (1 : Int))), ()) h3))) ∧
                  ((decide (st_1.2.1 < (sv.size : Int))) = false →
                    K (.int .i64 (-1 : Int)) h3))) (st.1, (sep.size : Int), ()) h2))))) ((0 : Int), (0 : Int), ()) h1) h
theorem F_internal_bytealg_IndexRabinKarp_string_eq {sv : ByteArray} {sep : ByteArray} {K : Value → PH → Prop} {h : PH} : @Eq Prop (F_internal_bytealg_IndexRabinKarp_string sv sep K h) (denF Try.prog Try.f40 ⟨[], [], [(0, ⟨[(8, .int .u32), (9, .int .i64)], [], []⟩), (2, ⟨[(8, .int .u32), (10, .int .i64)], [], []⟩)], []⟩ [.v (.string sv), .v (.string sep)] K h) := by
  kernel_rfl
theorem F_internal_bytealg_IndexRabinKarp_string_ok {sv : ByteArray} {sep : ByteArray}  {K : Value → PH → Prop} {h : PH} (hh : F_internal_bytealg_IndexRabinKarp_string sv sep K h) : CallH Try.prog id_internal_bytealg_IndexRabinKarp_string [.string sv, .string sep] K h :=
  denF_sound' Try.func40 (H := ⟨[], [], [(0, ⟨[(8, .int .u32), (9, .int .i64)], [], []⟩), (2, ⟨[(8, .int .u32), (10, .int .i64)], [], []⟩)], []⟩) (xs := [.v (.string sv), .v (.string sep)]) (by kernel_rfl) (⟨rfl, rfl, trivial⟩) (den_of F_internal_bytealg_IndexRabinKarp_string_eq hh)

/- internal/bytealg.hashStr[string] -/
def F_internal_bytealg_hashStr_string (sep : ByteArray) (K : Value → PH → Prop) (h : PH) : Prop :=
  LoopP (T := Int × Int × Unit) (fun Jv st h1 =>
    (((decide (st.2.1 < (sep.size : Int))) = true →
        (0 ≤ st.2.1 ∧ st.2.1 < (ByteArray.size sep : Nat)) ∧
        Jv ((IntKind.wrap .u32 ((IntKind.wrap .u32 (st.1 * (16777619 : Int))) + (IntKind.wrap .u32 (byteAt sep st.2.1)))), (IntKind.wrap .i64 (st.2.1 + (1 : Int))), ()) h1) ∧
      ((decide (st.2.1 < (sep.size : Int))) = false →
        LoopP (T := Int × Int × Int × Unit) (fun Jv_1 st_1 h2 =>
          (((decide (st_1.2.2.1 > (0 : Int))) = true →
              ((((bitsV .and .i64 st_1.2.2.1 (1 : Int)) != (0 : Int)) = true →
                  Jv_1 ((IntKind.wrap .u32 (st_1.1 * st_1.2.1)), (IntKind.wrap .u32 (st_1.2.1 * st_1.2.1)), (shrV .i64 st_1.2.2.1 (1 : Int)), ()) h2) ∧
                (((bitsV .and .i64 st_1.2.2.1 (1 : Int)) != (0 : Int)) = false →
                  Jv_1 (st_1.1, (IntKind.wrap .u32 (st_1.2.1 * st_1.2.1)), (shrV .i64 st_1.2.2.1 (1 : Int)), ()) h2))) ∧
            ((decide (st_1.2.2.1 > (0 : Int))) = false →
              K (.tuple #[.int .u32 st.1, .int .u32 st_1.1]) h2))) ((1 : Int), (16777619 : Int), (sep.size : Int), ()) h1))) ((0 : Int), (0 : Int), ()) h
theorem F_internal_bytealg_hashStr_string_eq {sep : ByteArray} {K : Value → PH → Prop} {h : PH} : @Eq Prop (F_internal_bytealg_hashStr_string sep K h) (denF Try.prog Try.f42 ⟨[], [], [(0, ⟨[(4, .int .u32), (5, .int .i64)], [], []⟩), (2, ⟨[(6, .int .u32), (7, .int .u32), (8, .int .i64)], [], []⟩)], []⟩ [.v (.string sep)] K h) := by
  kernel_rfl
theorem F_internal_bytealg_hashStr_string_ok {sep : ByteArray}  {K : Value → PH → Prop} {h : PH} (hh : F_internal_bytealg_hashStr_string sep K h) : CallH Try.prog id_internal_bytealg_hashStr_string [.string sep] K h :=
  denF_sound' Try.func42 (H := ⟨[], [], [(0, ⟨[(4, .int .u32), (5, .int .i64)], [], []⟩), (2, ⟨[(6, .int .u32), (7, .int .u32), (8, .int .i64)], [], []⟩)], []⟩) (xs := [.v (.string sep)]) (by kernel_rfl) (⟨rfl, trivial⟩) (den_of F_internal_bytealg_hashStr_string_eq hh)


end TL
