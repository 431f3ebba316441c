/-
  The functions of the program as predicates on heap fragments, each tied to its code. No condition.
-/
import Derived.Test.YtlgcgalfaljpeaaLibC
import Derived.Test.YtlgcgalfaljpeaaProg
namespace TL
open Go Go.Proofs
abbrev id_gosem_cut_init : FuncId := 2
abbrev id_law08_NetKnown : FuncId := 3
abbrev id_law08_NetOrder : FuncId := 4
abbrev id_law08_NetRoom : FuncId := 5
abbrev id_law08_NetPlays : FuncId := 6
abbrev id_law08_NetCounts : FuncId := 7
abbrev id_law08_NetParted : FuncId := 8
abbrev id_net_New : FuncId := 9
abbrev id_net_Net_Post : FuncId := 10
abbrev id_net_Net_Dup : FuncId := 11
abbrev id_net_Net_Take : FuncId := 12
abbrev id_net_Net_Len : FuncId := 13
abbrev id_net_Net_Lose : FuncId := 14
abbrev id_net_Net_Part : FuncId := 15
abbrev id_law08_awake : FuncId := 16
abbrev id_law08_Great : FuncId := 17
abbrev id_law08_after : FuncId := 18
abbrev id_net_Net_All : FuncId := 19
abbrev id_net_Net_Parted : FuncId := 20
abbrev id_law08_does : FuncId := 21
abbrev id_law08_find : FuncId := 22
abbrev id_law08_fits : FuncId := 23
abbrev id_net_Net_none : FuncId := 24
abbrev id_net_Net_put : FuncId := 25
abbrev id_net_Net_find : FuncId := 26
abbrev id_slices_Delete_api_Packet_api_Packet : FuncId := 27
abbrev id_slices_Clone_api_Packet_api_Packet : FuncId := 28
abbrev id_ref08_Net_Post : FuncId := 29
abbrev id_ref08_Net_Take : FuncId := 30
abbrev id_ref08_Net_Lose : FuncId := 31
abbrev id_ref08_Net_Dup : FuncId := 32
abbrev id_ref08_Net_put : FuncId := 33
abbrev T_api_Packet : TypeId := 25
abbrev T_net_Net : TypeId := 48
abbrev T_ref08_Net : TypeId := 42
/- twinlock/twinlocklaw08.NetKnown -/
def F_law08_NetKnown  (K : Value → PH → Prop) (h : PH) : Prop :=
  CallH Try.prog id_net_New [] (fun v h1 =>
    ∃ xv : Option Addr, v = .pointer xv ∧
    CallH Try.prog id_net_Net_Post [.pointer xv, .agg #[.int .i64 (0 : Int), .int .i64 (1 : Int), .string (⟨#[97]⟩ : ByteArray)]] (fun v_1 h2 =>
      ∃ a : Int, v_1 = .int .i64 a ∧
      CallH Try.prog id_net_Net_Post [.pointer xv, .agg #[.int .i64 (1 : Int), .int .i64 (0 : Int), .string (⟨#[98]⟩ : ByteArray)]] (fun v_2 h3 =>
        ∃ bv : Int, v_2 = .int .i64 bv ∧
        CallH Try.prog id_net_Net_Dup [.pointer xv, .int .i64 (0 : Int)] (fun v_3 h4 =>
          ∃ cv : Int, v_3 = .int .i64 cv ∧
          CallH Try.prog id_net_Net_Take [.pointer xv, .int .i64 (0 : Int)] (fun v_4 h5 =>
            ∃ t00 : Int, ∃ t01 : Int, ∃ t02 : ByteArray, ∃ t1 : Int, v_4 = .tuple #[.agg #[.int .i64 t00, .int .i64 t01, .string t02], .int .i64 t1] ∧
            CallH Try.prog id_net_Net_Len [.pointer xv] (fun v_5 h6 =>
              ∃ n : Int, v_5 = .int .i64 n ∧
              CallH Try.prog id_net_Net_Lose [.pointer xv, .int .i64 (0 : Int)] (fun v_6 h7 =>
                ∃ e : Int, v_6 = .int .i64 e ∧
                CallH Try.prog id_net_Net_Take [.pointer xv, .int .i64 (0 : Int)] (fun v_7 h8 =>
                  ∃ t00_1 : Int, ∃ t01_1 : Int, ∃ t02_1 : ByteArray, ∃ t1_1 : Int, v_7 = .tuple #[.agg #[.int .i64 t00_1, .int .i64 t01_1, .string t02_1], .int .i64 t1_1] ∧
                  CallH Try.prog id_net_Net_Take [.pointer xv, .int .i64 (0 : Int)] (fun v_8 h9 =>
                    ∃ t00_2 : Int, ∃ t01_2 : Int, ∃ t02_2 : ByteArray, ∃ t1_2 : Int, v_8 = .tuple #[.agg #[.int .i64 t00_2, .int .i64 t01_2, .string t02_2], .int .i64 t1_2] ∧
                    ((((((((((((a != (0 : Int)) || (bv != (0 : Int))) || (cv != (0 : Int))) || (!((t00 == (0 : Int)) && ((t01 == (1 : Int)) && ((strEq t02 (⟨#[97]⟩ : ByteArray)) && true))))) || (t1 != (0 : Int))) || (n != (2 : Int))) || (e != (0 : Int))) || (!((t00_1 == (0 : Int)) && ((t01_1 == (1 : Int)) && ((strEq t02_1 (⟨#[97]⟩ : ByteArray)) && true))))) || (t1_1 != (0 : Int))) || (t1_2 != (4 : Int))) = true →
                        K (.bool false) h9) ∧
                      (((((((((((a != (0 : Int)) || (bv != (0 : Int))) || (cv != (0 : Int))) || (!((t00 == (0 : Int)) && ((t01 == (1 : Int)) && ((strEq t02 (⟨#[97]⟩ : ByteArray)) && true))))) || (t1 != (0 : Int))) || (n != (2 : Int))) || (e != (0 : Int))) || (!((t00_1 == (0 : Int)) && ((t01_1 == (1 : Int)) && ((strEq t02_1 (⟨#[97]⟩ : ByteArray)) && true))))) || (t1_1 != (0 : Int))) || (t1_2 != (4 : Int))) = false →
                        CallH Try.prog id_net_Net_Post [.pointer xv, .agg #[.int .i64 (2 : Int), .int .i64 (0 : Int), .string (⟨#[]⟩ : ByteArray)]] (fun v_9 h10 =>
                          ∃ t : Int, v_9 = .int .i64 t ∧
                          (((t != (1 : Int)) = false →
                              CallH Try.prog id_net_Net_Post [.pointer xv, .agg #[.int .i64 (0 : Int), .int .i64 (0 : Int), .string (⟨#[]⟩ : ByteArray)]] (fun v_10 h11 =>
                                ∃ t_1 : Int, v_10 = .int .i64 t_1 ∧
                                (((t_1 != (1 : Int)) = false →
                                    CallH Try.prog id_net_Net_Post [.pointer xv, .agg #[.int .i64 (0 : Int), .int .i64 (-1 : Int), .string (⟨#[]⟩ : ByteArray)]] (fun v_11 h12 =>
                                      ∃ t_2 : Int, v_11 = .int .i64 t_2 ∧
                                      (((t_2 != (1 : Int)) = false →
                                          CallH Try.prog id_net_Net_Post [.pointer xv, .agg #[.int .i64 (0 : Int), .int .i64 (1 : Int), .string (⟨#[99]⟩ : ByteArray)]] (fun v_12 h13 =>
                                            ∃ t_3 : Int, v_12 = .int .i64 t_3 ∧
                                            (((t_3 != (0 : Int)) = true →
                                                K (.bool false) h13) ∧
                                              ((t_3 != (0 : Int)) = false →
                                                CallH Try.prog id_net_Net_Part [.pointer xv, .bool true] (fun v_13 h14 =>
                                                  CallH Try.prog id_net_Net_Take [.pointer xv, .int .i64 (0 : Int)] (fun v_14 h15 =>
                                                    ∃ t00_3 : Int, ∃ t01_3 : Int, ∃ t02_3 : ByteArray, ∃ t1_3 : Int, v_14 = .tuple #[.agg #[.int .i64 t00_3, .int .i64 t01_3, .string t02_3], .int .i64 t1_3] ∧
                                                    CallH Try.prog id_net_Net_Take [.pointer xv, .int .i64 (1 : Int)] (fun v_15 h16 =>
                                                      ∃ t00_4 : Int, ∃ t01_4 : Int, ∃ t02_4 : ByteArray, ∃ t1_4 : Int, v_15 = .tuple #[.agg #[.int .i64 t00_4, .int .i64 t01_4, .string t02_4], .int .i64 t1_4] ∧
                                                      CallH Try.prog id_net_Net_Part [.pointer xv, .bool false] (fun v_16 h17 =>
                                                        CallH Try.prog id_net_Net_Take [.pointer xv, .int .i64 (0 : Int)] (fun v_17 h18 =>
                                                          ∃ t00_5 : Int, ∃ t01_5 : Int, ∃ t02_5 : ByteArray, ∃ t1_5 : Int, v_17 = .tuple #[.agg #[.int .i64 t00_5, .int .i64 t01_5, .string t02_5], .int .i64 t1_5] ∧
                                                          CallH Try.prog id_net_New [] (fun v_18 h19 =>
                                                            ∃ y : Option Addr, v_18 = .pointer y ∧
                                                            LoopP (T := Int × Unit) (fun Jv st h20 =>
                                                              (((decide (st.1 < (64 : Int))) = true →
                                                                  CallH Try.prog id_net_Net_Post [.pointer y, .agg #[.int .i64 (0 : Int), .int .i64 (1 : Int), .string (⟨#[]⟩ : ByteArray)]] (fun v_19 h21 =>
                                                                    ∃ t_4 : Int, v_19 = .int .i64 t_4 ∧
                                                                    (((t_4 != (0 : Int)) = true →
                                                                        K (.bool false) h21) ∧
                                                                      ((t_4 != (0 : Int)) = false →
                                                                        Jv ((IntKind.wrap .i64 (st.1 + (1 : Int))), ()) h21))) h20) ∧
                                                                ((decide (st.1 < (64 : Int))) = false →
                                                                  CallH Try.prog id_law08_awake [] (fun v_20 h22 =>
                                                                    ∃ t_5 : Bool, v_20 = .bool t_5 ∧
                                                                    (((((((t_5 && (t1_3 == (14 : Int))) && (t1_4 == (4 : Int))) && (strEq t02_5 (⟨#[99]⟩ : ByteArray))) && (t1_5 == (0 : Int))) && true) = true →
                                                                        CallH Try.prog id_net_Net_Post [.pointer y, .agg #[.int .i64 (0 : Int), .int .i64 (1 : Int), .string (⟨#[]⟩ : ByteArray)]] (fun v_21 h23 =>
                                                                          ∃ t_6 : Int, v_21 = .int .i64 t_6 ∧
                                                                          (((t_6 == (6 : Int)) = true →
                                                                              CallH Try.prog id_net_Net_Dup [.pointer y, .int .i64 (0 : Int)] (fun v_22 h24 =>
                                                                                ∃ t_7 : Int, v_22 = .int .i64 t_7 ∧
                                                                                (((t_7 == (6 : Int)) = true →
                                                                                  CallH Try.prog id_net_Net_Post [.pointer y, .agg #[.int .i64 (1 : Int), .int .i64 (0 : Int), .string (⟨#[]⟩ : ByteArray)]] (fun v_23 h25 =>
                                                                                  ∃ t_8 : Int, v_23 = .int .i64 t_8 ∧
                                                                                  (((t_8 == (0 : Int)) = true →
                                                                                  CallH Try.prog id_net_Net_Lose [.pointer y, .int .i64 (3 : Int)] (fun v_24 h26 =>
                                                                                  ∃ t_9 : Int, v_24 = .int .i64 t_9 ∧
                                                                                  (((t_9 == (0 : Int)) = true →
                                                                                  CallH Try.prog id_net_Net_Dup [.pointer y, .int .i64 (0 : Int)] (fun v_25 h27 =>
                                                                                  ∃ t_10 : Int, v_25 = .int .i64 t_10 ∧
                                                                                  K (.bool (t_10 == (0 : Int))) h27) h26) ∧
                                                                                  ((t_9 == (0 : Int)) = false →
                                                                                  K (.bool false) h26))) h25) ∧
                                                                                  ((t_8 == (0 : Int)) = false →
                                                                                  K (.bool false) h25))) h24) ∧
                                                                                  ((t_7 == (6 : Int)) = false →
                                                                                  K (.bool false) h24))) h23) ∧
                                                                            ((t_6 == (6 : Int)) = false →
                                                                              K (.bool false) h23))) h22) ∧
                                                                      ((((((t_5 && (t1_3 == (14 : Int))) && (t1_4 == (4 : Int))) && (strEq t02_5 (⟨#[99]⟩ : ByteArray))) && (t1_5 == (0 : Int))) && true) = false →
                                                                        K (.bool false) h22))) h20))) ((0 : Int), ()) h19) h18) h17) h16) h15) h14) h13))) h12) ∧
                                        ((t_2 != (1 : Int)) = true →
                                          K (.bool false) h12))) h11) ∧
                                  ((t_1 != (1 : Int)) = true →
                                    K (.bool false) h11))) h10) ∧
                            ((t != (1 : Int)) = true →
                              K (.bool false) h10))) h9))) h8) h7) h6) h5) h4) h3) h2) h1) h
theorem F_law08_NetKnown_ok   {K : Value → PH → Prop} {h : PH} (hh : F_law08_NetKnown  K h) : CallH Try.prog id_law08_NetKnown [] K h :=
  denF_sound Try.func3 (H := ⟨[2, 6, 10, 12, 14, 16, 18], [], [(0, ⟨[(21, .int .i64)], []⟩)]⟩) (xs := []) (by kernel_rfl) (by simp [okE0s, okE0, chOk, one1]) (cast (by kernel_rfl : F_law08_NetKnown  K h = denF Try.prog Try.f3 ⟨[2, 6, 10, 12, 14, 16, 18], [], [(0, ⟨[(21, .int .i64)], []⟩)]⟩ [] K h) hh)

/- twinlock/twinlocklaw08.NetOrder -/
def F_law08_NetOrder (lA : Option Addr) (lN lC : Nat) (K : Value → PH → Prop) (h : PH) : Prop :=
  CallH Try.prog id_law08_awake [] (fun v h1 =>
    ∃ t : Bool, v = .bool t ∧
    (((!t) = true →
        K (.bool false) h1) ∧
      ((!t) = false →
        CallH Try.prog id_law08_Great [.slice lA lN lC] (fun v_1 h2 =>
          ∃ t_1 : Bool, v_1 = .bool t_1 ∧
          ((t_1 = true →
              K (.bool true) h2) ∧
            (t_1 = false →
              CallH Try.prog id_law08_after [.slice lA lN lC] (fun v_2 h3 =>
                ∃ xv : Option Addr, v_2 = .pointer xv ∧
                CallH Try.prog id_net_Net_Part [.pointer xv, .bool false] (fun v_3 h4 =>
                  CallH Try.prog id_net_Net_All [.pointer xv] (fun v_4 h5 =>
                    ∃ (allA : Option Addr) (allN allC : Nat), v_4 = .slice allA allN allC ∧
                    LoopP (T := Int × Unit) (fun Jv st h6 =>
                      (((decide (st.1 < ((allN : Nat) : Int))) = true →
                          CallH Try.prog id_net_Net_Take [.pointer xv, .int .i64 (0 : Int)] (fun v_5 h7 =>
                            ∃ t00 : Int, ∃ t01 : Int, ∃ t02 : ByteArray, ∃ t1 : Int, v_5 = .tuple #[.agg #[.int .i64 t00, .int .i64 t01, .string t02], .int .i64 t1] ∧
                            ∃ bv ov : Nat, (((t1 != (0 : Int)) = false → allA = some ⟨bv, ov, none⟩ ∧ 0 ≤ st.1 ∧ st.1 < (allN : Nat))) ∧
                            ∃ t0 : Int, ∃ t1_1 : Int, ∃ t2 : ByteArray, (((t1 != (0 : Int)) = false → h7.rds bv (ov + st.1.toNat * 3) 3 = some [.int .i64 t0, .int .i64 t1_1, .string t2])) ∧
                            ((((t1 != (0 : Int)) || (!((t00 == t0) && ((t01 == t1_1) && ((strEq t02 t2) && true))))) = false →
                                CallH Try.prog id_net_Net_Len [.pointer xv] (fun v_6 h8 =>
                                  ∃ t_2 : Int, v_6 = .int .i64 t_2 ∧
                                  (((t_2 != (IntKind.wrap .i64 ((IntKind.wrap .i64 (((allN : Nat) : Int) - st.1)) - (1 : Int)))) = true →
                                      K (.bool false) h8) ∧
                                    ((t_2 != (IntKind.wrap .i64 ((IntKind.wrap .i64 (((allN : Nat) : Int) - st.1)) - (1 : Int)))) = false →
                                      Jv ((IntKind.wrap .i64 (st.1 + (1 : Int))), ()) h8))) h7) ∧
                              (((t1 != (0 : Int)) || (!((t00 == t0) && ((t01 == t1_1) && ((strEq t02 t2) && true))))) = true →
                                K (.bool false) h7))) h6) ∧
                        ((decide (st.1 < ((allN : Nat) : Int))) = false →
                          CallH Try.prog id_net_Net_Take [.pointer xv, .int .i64 (0 : Int)] (fun v_7 h9 =>
                            ∃ t00_1 : Int, ∃ t01_1 : Int, ∃ t02_1 : ByteArray, ∃ t1_2 : Int, v_7 = .tuple #[.agg #[.int .i64 t00_1, .int .i64 t01_1, .string t02_1], .int .i64 t1_2] ∧
                            (((t1_2 == (4 : Int)) = true →
                                CallH Try.prog id_net_Net_Len [.pointer xv] (fun v_8 h10 =>
                                  ∃ t_3 : Int, v_8 = .int .i64 t_3 ∧
                                  (((t_3 == (0 : Int)) = true →
                                      CallH Try.prog id_net_Net_Dup [.pointer xv, .int .i64 (0 : Int)] (fun v_9 h11 =>
                                        ∃ t_4 : Int, v_9 = .int .i64 t_4 ∧
                                        (((t_4 == (4 : Int)) = true →
                                            CallH Try.prog id_net_Net_Lose [.pointer xv, .int .i64 (0 : Int)] (fun v_10 h12 =>
                                              ∃ t_5 : Int, v_10 = .int .i64 t_5 ∧
                                              K (.bool (t_5 == (4 : Int))) h12) h11) ∧
                                          ((t_4 == (4 : Int)) = false →
                                            K (.bool false) h11))) h10) ∧
                                    ((t_3 == (0 : Int)) = false →
                                      K (.bool false) h10))) h9) ∧
                              ((t1_2 == (4 : Int)) = false →
                                K (.bool false) h9))) h6))) ((0 : Int), ()) h5) h4) h3) h2))) h1))) h
theorem F_law08_NetOrder_ok {lA : Option Addr} {lN lC : Nat}  {K : Value → PH → Prop} {h : PH} (hh : F_law08_NetOrder lA lN lC K h) : CallH Try.prog id_law08_NetOrder [.slice lA lN lC] K h :=
  denF_sound Try.func4 (H := ⟨[6, 8], [(12, [0, 1, 2, 3, 4, 5, 6, 7, 8, 9, 10, 11, 13, 14, 15, 16, 17, 12, 18, 19])], [(0, ⟨[(5, .int .i64)], []⟩)]⟩) (xs := [.v (.slice lA lN lC)]) (by kernel_rfl) (by simp [okE0s, okE0, chOk, one1]) (cast (by kernel_rfl : F_law08_NetOrder lA lN lC K h = denF Try.prog Try.f4 ⟨[6, 8], [(12, [0, 1, 2, 3, 4, 5, 6, 7, 8, 9, 10, 11, 13, 14, 15, 16, 17, 12, 18, 19])], [(0, ⟨[(5, .int .i64)], []⟩)]⟩ [.v (.slice lA lN lC)] K h) hh)

/- twinlock/twinlocklaw08.NetRoom -/
def F_law08_NetRoom (lA : Option Addr) (lN lC : Nat) (fromv : Int) (K : Value → PH → Prop) (h : PH) : Prop :=
  CallH Try.prog id_law08_awake [] (fun v h1 =>
    ∃ t : Bool, v = .bool t ∧
    (((!t) = true →
        K (.bool false) h1) ∧
      ((!t) = false →
        CallH Try.prog id_law08_Great [.slice lA lN lC] (fun v_1 h2 =>
          ∃ t_1 : Bool, v_1 = .bool t_1 ∧
          ((t_1 = true →
              K (.bool true) h2) ∧
            (t_1 = false →
              CallH Try.prog id_law08_after [.slice lA lN lC] (fun v_2 h3 =>
                ∃ xv : Option Addr, v_2 = .pointer xv ∧
                CallH Try.prog id_net_Net_Part [.pointer xv, .bool false] (fun v_3 h4 =>
                  CallH Try.prog id_net_Net_All [.pointer xv] (fun v_4 h5 =>
                    ∃ (allA : Option Addr) (allN allC : Nat), v_4 = .slice allA allN allC ∧
                    LoopP (T := Int × Int × Unit) (fun Jv st h6 =>
                      (((decide (st.2.1 < ((allN : Nat) : Int))) = true →
                          ∃ bv ov : Nat, (allA = some ⟨bv, ov, none⟩ ∧ 0 ≤ st.2.1 ∧ st.2.1 < (allN : Nat)) ∧
                          ∃ t_2 : Int, (h6.rds bv (ov + st.2.1.toNat * 3) 1 = some [.int .i64 t_2]) ∧
                          (((t_2 == (IntKind.wrap .i64 (fromv.tmod (2 : Int)))) = true →
                              Jv ((IntKind.wrap .i64 (st.1 + (1 : Int))), (IntKind.wrap .i64 (st.2.1 + (1 : Int))), ()) h6) ∧
                            ((t_2 == (IntKind.wrap .i64 (fromv.tmod (2 : Int)))) = false →
                              Jv (st.1, (IntKind.wrap .i64 (st.2.1 + (1 : Int))), ()) h6))) ∧
                        ((decide (st.2.1 < ((allN : Nat) : Int))) = false →
                          LoopP (T := Int × Unit) (fun Jv_1 st_1 h7 =>
                            (((decide (st_1.1 < (64 : Int))) = true →
                                CallH Try.prog id_net_Net_Post [.pointer xv, .agg #[.int .i64 (IntKind.wrap .i64 (fromv.tmod (2 : Int))), .int .i64 (IntKind.wrap .i64 ((1 : Int) - (IntKind.wrap .i64 (fromv.tmod (2 : Int))))), .string (⟨#[109, 111, 114, 101]⟩ : ByteArray)]] (fun v_5 h8 =>
                                  ∃ t_3 : Int, v_5 = .int .i64 t_3 ∧
                                  (((t_3 != (0 : Int)) = true →
                                      K (.bool false) h8) ∧
                                    ((t_3 != (0 : Int)) = false →
                                      Jv_1 ((IntKind.wrap .i64 (st_1.1 + (1 : Int))), ()) h8))) h7) ∧
                              ((decide (st_1.1 < (64 : Int))) = false →
                                CallH Try.prog id_net_Net_Post [.pointer xv, .agg #[.int .i64 (IntKind.wrap .i64 (fromv.tmod (2 : Int))), .int .i64 (IntKind.wrap .i64 ((1 : Int) - (IntKind.wrap .i64 (fromv.tmod (2 : Int))))), .string (⟨#[109, 111, 114, 101]⟩ : ByteArray)]] (fun v_6 h9 =>
                                  ∃ t_4 : Int, v_6 = .int .i64 t_4 ∧
                                  (((t_4 != (6 : Int)) = false →
                                      CallH Try.prog id_net_Net_Post [.pointer xv, .agg #[.int .i64 (IntKind.wrap .i64 (fromv.tmod (2 : Int))), .int .i64 (IntKind.wrap .i64 ((1 : Int) - (IntKind.wrap .i64 (fromv.tmod (2 : Int))))), .string (⟨#[109, 111, 114, 101]⟩ : ByteArray)]] (fun v_7 h10 =>
                                        ∃ t_5 : Int, v_7 = .int .i64 t_5 ∧
                                        (((t_5 != (6 : Int)) = false →
                                            CallH Try.prog id_net_Net_Len [.pointer xv] (fun v_8 h11 =>
                                              ∃ t_6 : Int, v_8 = .int .i64 t_6 ∧
                                              (((t_6 != (IntKind.wrap .i64 ((IntKind.wrap .i64 (((allN : Nat) : Int) + (64 : Int))) - st.1))) = true →
                                                  K (.bool false) h11) ∧
                                                ((t_6 != (IntKind.wrap .i64 ((IntKind.wrap .i64 (((allN : Nat) : Int) + (64 : Int))) - st.1))) = false →
                                                  (((st.1 == (64 : Int)) = true →
                                                      K (.bool true) h11) ∧
                                                    ((st.1 == (64 : Int)) = false →
                                                      CallH Try.prog id_net_Net_Len [.pointer xv] (fun v_9 h12 =>
                                                        ∃ t_7 : Int, v_9 = .int .i64 t_7 ∧
                                                        CallH Try.prog id_net_Net_Take [.pointer xv, .int .i64 (IntKind.wrap .i64 (t_7 - (1 : Int)))] (fun v_10 h13 =>
                                                          ∃ t00 : Int, ∃ t01 : Int, ∃ t02 : ByteArray, ∃ t1 : Int, v_10 = .tuple #[.agg #[.int .i64 t00, .int .i64 t01, .string t02], .int .i64 t1] ∧
                                                          ((((t1 == (0 : Int)) && ((t00 == (IntKind.wrap .i64 (fromv.tmod (2 : Int)))) && ((t01 == (IntKind.wrap .i64 ((1 : Int) - (IntKind.wrap .i64 (fromv.tmod (2 : Int)))))) && ((strEq t02 (⟨#[109, 111, 114, 101]⟩ : ByteArray)) && true)))) = true →
                                                              CallH Try.prog id_net_Net_Post [.pointer xv, .agg #[.int .i64 (IntKind.wrap .i64 (fromv.tmod (2 : Int))), .int .i64 (IntKind.wrap .i64 ((1 : Int) - (IntKind.wrap .i64 (fromv.tmod (2 : Int))))), .string (⟨#[109, 111, 114, 101]⟩ : ByteArray)]] (fun v_11 h14 =>
                                                                ∃ t_8 : Int, v_11 = .int .i64 t_8 ∧
                                                                (((t_8 == (0 : Int)) = true →
                                                                    CallH Try.prog id_net_Net_Post [.pointer xv, .agg #[.int .i64 (IntKind.wrap .i64 (fromv.tmod (2 : Int))), .int .i64 (IntKind.wrap .i64 ((1 : Int) - (IntKind.wrap .i64 (fromv.tmod (2 : Int))))), .string (⟨#[109, 111, 114, 101]⟩ : ByteArray)]] (fun v_12 h15 =>
                                                                      ∃ t_9 : Int, v_12 = .int .i64 t_9 ∧
                                                                      K (.bool (t_9 == (6 : Int))) h15) h14) ∧
                                                                  ((t_8 == (0 : Int)) = false →
                                                                    K (.bool false) h14))) h13) ∧
                                                            (((t1 == (0 : Int)) && ((t00 == (IntKind.wrap .i64 (fromv.tmod (2 : Int)))) && ((t01 == (IntKind.wrap .i64 ((1 : Int) - (IntKind.wrap .i64 (fromv.tmod (2 : Int)))))) && ((strEq t02 (⟨#[109, 111, 114, 101]⟩ : ByteArray)) && true)))) = false →
                                                              K (.bool false) h13))) h12) h11))))) h10) ∧
                                          ((t_5 != (6 : Int)) = true →
                                            K (.bool false) h10))) h9) ∧
                                    ((t_4 != (6 : Int)) = true →
                                      K (.bool false) h9))) h7))) (st.1, ()) h6))) ((0 : Int), (0 : Int), ()) h5) h4) h3) h2))) h1))) h
theorem F_law08_NetRoom_ok {lA : Option Addr} {lN lC : Nat} {fromv : Int}  {K : Value → PH → Prop} {h : PH} (hh : F_law08_NetRoom lA lN lC fromv K h) : CallH Try.prog id_law08_NetRoom [.slice lA lN lC, .int .u8 fromv] K h :=
  denF_sound Try.func5 (H := ⟨[7, 12], [], [(0, ⟨[(9, .int .i64), (10, .int .i64)], []⟩), (2, ⟨[(11, .int .i64)], []⟩)]⟩) (xs := [.v (.slice lA lN lC), .v (.int .u8 fromv)]) (by kernel_rfl) (by simp [okE0s, okE0, chOk, one1]) (cast (by kernel_rfl : F_law08_NetRoom lA lN lC fromv K h = denF Try.prog Try.f5 ⟨[7, 12], [], [(0, ⟨[(9, .int .i64), (10, .int .i64)], []⟩), (2, ⟨[(11, .int .i64)], []⟩)]⟩ [.v (.slice lA lN lC), .v (.int .u8 fromv)] K h) hh)

/- twinlock/twinlocklaw08.NetPlays -/
def F_law08_NetPlays (lA : Option Addr) (lN lC : Nat) (K : Value → PH → Prop) (h : PH) : Prop :=
  CallH Try.prog id_law08_awake [] (fun v h1 =>
    ∃ t : Bool, v = .bool t ∧
    (((!t) = true →
        K (.bool false) h1) ∧
      ((!t) = false →
        CallH Try.prog id_law08_Great [.slice lA lN lC] (fun v_1 h2 =>
          ∃ t_1 : Bool, v_1 = .bool t_1 ∧
          ((t_1 = true →
              K (.bool true) h2) ∧
            (t_1 = false →
              CallH Try.prog id_net_New [] (fun v_2 h3 =>
                ∃ xv : Option Addr, v_2 = .pointer xv ∧
                newH h3 (.cells #[.slice none 0 0, .bool false] T_ref08_Net (0, 0)) fun bv h4 =>
                LoopP (T := Int × Unit) (fun Jv st h5 =>
                  (((decide (st.1 < ((lN : Nat) : Int))) = true →
                      ∃ bv_1 ov : Nat, (lA = some ⟨bv_1, ov, none⟩ ∧ 0 ≤ st.1 ∧ st.1 < (lN : Nat)) ∧
                      ∃ t_2 : Int, (h5.rds bv_1 ((ov + st.1.toNat * 6) + 4) 1 = some [.int .i64 t_2]) ∧
                      CallH Try.prog id_net_Net_Take [.pointer none, .int .i64 t_2] (fun v_3 h6 =>
                        ∃ t00 : Int, ∃ t01 : Int, ∃ t02 : ByteArray, ∃ t1 : Int, v_3 = .tuple #[.agg #[.int .i64 t00, .int .i64 t01, .string t02], .int .i64 t1] ∧
                        CallH Try.prog id_net_Net_Part [.pointer none, .bool true] (fun v_4 h7 =>
                          ∃ bv_2 ov_1 : Nat, (((t1 != (2 : Int)) = false → lA = some ⟨bv_2, ov_1, none⟩ ∧ 0 ≤ st.1 ∧ st.1 < (lN : Nat))) ∧
                          ∃ t0 : Int, ∃ t1_1 : Int, ∃ t2 : ByteArray, (((t1 != (2 : Int)) = false → h7.rds bv_2 ((ov_1 + st.1.toNat * 6) + 1) 3 = some [.int .i64 t0, .int .i64 t1_1, .string t2])) ∧
                          (((t1 != (2 : Int)) = false →
                              CallH Try.prog id_net_Net_Post [.pointer none, .agg #[.int .i64 t0, .int .i64 t1_1, .string t2]] (fun v_5 h8 =>
                                ∃ t_3 : Int, v_5 = .int .i64 t_3 ∧
                                ∃ bv_3 ov_2 : Nat, (((t_3 != (2 : Int)) = false → lA = some ⟨bv_3, ov_2, none⟩ ∧ 0 ≤ st.1 ∧ st.1 < (lN : Nat))) ∧
                                ∃ t_4 : Int, (((t_3 != (2 : Int)) = false → h8.rds bv_3 ((ov_2 + st.1.toNat * 6) + 4) 1 = some [.int .i64 t_4])) ∧
                                (((t_3 != (2 : Int)) = false →
                                    CallH Try.prog id_net_Net_Lose [.pointer none, .int .i64 t_4] (fun v_6 h9 =>
                                      ∃ t_5 : Int, v_6 = .int .i64 t_5 ∧
                                      ∃ bv_4 ov_3 : Nat, (((t_5 != (2 : Int)) = false → lA = some ⟨bv_4, ov_3, none⟩ ∧ 0 ≤ st.1 ∧ st.1 < (lN : Nat))) ∧
                                      ∃ t_6 : Int, (((t_5 != (2 : Int)) = false → h9.rds bv_4 ((ov_3 + st.1.toNat * 6) + 4) 1 = some [.int .i64 t_6])) ∧
                                      (((t_5 != (2 : Int)) = false →
                                          CallH Try.prog id_net_Net_Dup [.pointer none, .int .i64 t_6] (fun v_7 h10 =>
                                            ∃ t_7 : Int, v_7 = .int .i64 t_7 ∧
                                            (((t_7 != (2 : Int)) = false →
                                                CallH Try.prog id_net_Net_Len [.pointer none] (fun v_8 h11 =>
                                                  ∃ t_8 : Int, v_8 = .int .i64 t_8 ∧
                                                  (((t_8 != (0 : Int)) = false →
                                                      CallH Try.prog id_net_Net_All [.pointer none] (fun v_9 h12 =>
                                                        ∃ (tA : Option Addr) (tN tC : Nat), v_9 = .slice tA tN tC ∧
                                                        (((((tN : Nat) : Int) != (0 : Int)) = false →
                                                            CallH Try.prog id_net_Net_Parted [.pointer none] (fun v_10 h13 =>
                                                              ∃ t_9 : Bool, v_10 = .bool t_9 ∧
                                                              ((t_9 = true →
                                                                  K (.bool false) h13) ∧
                                                                (t_9 = false →
                                                                  ∃ bv_5 ov_4 : Nat, (lA = some ⟨bv_5, ov_4, none⟩ ∧ 0 ≤ st.1 ∧ st.1 < (lN : Nat)) ∧
                                                                  ∃ t0_1 : Int, ∃ t1_2 : Int, ∃ t2_1 : Int, ∃ t3 : ByteArray, ∃ t4 : Int, ∃ t5 : Int, (h13.rds bv_5 (ov_4 + st.1.toNat * 6) 6 = some [.int .i64 t0_1, .int .i64 t1_2, .int .i64 t2_1, .string t3, .int .i64 t4, .int .u8 t5]) ∧
                                                                  CallH Try.prog id_law08_does [.pointer xv, .pointer (some ⟨bv, 0, none⟩), .agg #[.int .i64 t0_1, .int .i64 t1_2, .int .i64 t2_1, .string t3, .int .i64 t4, .int .u8 t5]] (fun v_11 h14 =>
                                                                    ∃ t_10 : Bool, v_11 = .bool t_10 ∧
                                                                    ∃ bv_6 ov_5 : Nat, ((!t_10) = false → (some ⟨bv, 0, none⟩ : Option Addr) = some ⟨bv_6, ov_5, none⟩) ∧
                                                                    ∃ (tA_1 : Option Addr) (tN_1 tC_1 : Nat), (((!t_10) = false → h14.rds bv_6 ov_5 1 = some [.slice tA_1 tN_1 tC_1])) ∧
                                                                    (((!t_10) = false →
                                                                        CallH Try.prog id_net_Net_Len [.pointer xv] (fun v_12 h15 =>
                                                                          ∃ t_11 : Int, v_12 = .int .i64 t_11 ∧
                                                                          (((!t_10) = false → h15.rds bv_6 ov_5 1 = some [.slice tA_1 tN_1 tC_1])) ∧
                                                                          ∃ bv_7 ov_6 : Nat, ((t_11 != ((tN_1 : Nat) : Int)) = false → (some ⟨bv, 0, none⟩ : Option Addr) = some ⟨bv_7, ov_6, none⟩) ∧
                                                                          ∃ t_12 : Bool, (((t_11 != ((tN_1 : Nat) : Int)) = false → h15.rds bv_7 (ov_6 + 1) 1 = some [.bool t_12])) ∧
                                                                          (((t_11 != ((tN_1 : Nat) : Int)) = false →
                                                                              CallH Try.prog id_net_Net_Parted [.pointer xv] (fun v_13 h16 =>
                                                                                ∃ t_13 : Bool, v_13 = .bool t_13 ∧
                                                                                (((t_11 != ((tN_1 : Nat) : Int)) = false → h16.rds bv_7 (ov_6 + 1) 1 = some [.bool t_12])) ∧
                                                                                (((!(t_13 == t_12)) = true →
                                                                                  K (.bool false) h16) ∧
                                                                                  ((!(t_13 == t_12)) = false →
                                                                                  CallH Try.prog id_net_Net_All [.pointer xv] (fun v_14 h17 =>
                                                                                  ∃ (allA : Option Addr) (allN allC : Nat), v_14 = .slice allA allN allC ∧
                                                                                  ∃ bv_8 ov_7 : Nat, (some ⟨bv, 0, none⟩ : Option Addr) = some ⟨bv_8, ov_7, none⟩ ∧
                                                                                  ∃ (tA_2 : Option Addr) (tN_2 tC_2 : Nat), (h17.rds bv_8 ov_7 1 = some [.slice tA_2 tN_2 tC_2]) ∧
                                                                                  (((((allN : Nat) : Int) != ((tN_2 : Nat) : Int)) = true →
                                                                                  K (.bool false) h17) ∧
                                                                                  ((((allN : Nat) : Int) != ((tN_2 : Nat) : Int)) = false →
                                                                                  LoopP (T := Int × Unit) (fun Jv_1 st_1 h18 =>
                                                                                  (((decide (st_1.1 < ((allN : Nat) : Int))) = true →
                                                                                  ∃ bv_9 ov_8 : Nat, (allA = some ⟨bv_9, ov_8, none⟩ ∧ 0 ≤ st_1.1 ∧ st_1.1 < (allN : Nat)) ∧
                                                                                  ∃ t0_2 : Int, ∃ t1_3 : Int, ∃ t2_2 : ByteArray, (h18.rds bv_9 (ov_8 + st_1.1.toNat * 3) 3 = some [.int .i64 t0_2, .int .i64 t1_3, .string t2_2]) ∧
                                                                                  ∃ bv_10 ov_9 : Nat, (some ⟨bv, 0, none⟩ : Option Addr) = some ⟨bv_10, ov_9, none⟩ ∧
                                                                                  ∃ (tA_3 : Option Addr) (tN_3 tC_3 : Nat), (h18.rds bv_10 ov_9 1 = some [.slice tA_3 tN_3 tC_3]) ∧
                                                                                  ∃ bv_11 ov_10 : Nat, (tA_3 = some ⟨bv_11, ov_10, none⟩ ∧ 0 ≤ st_1.1 ∧ st_1.1 < (tN_3 : Nat)) ∧
                                                                                  ∃ t0_3 : Int, ∃ t1_4 : Int, ∃ t2_3 : ByteArray, (h18.rds bv_11 (ov_10 + st_1.1.toNat * 3) 3 = some [.int .i64 t0_3, .int .i64 t1_4, .string t2_3]) ∧
                                                                                  (((!((t0_2 == t0_3) && ((t1_3 == t1_4) && ((strEq t2_2 t2_3) && true)))) = true →
                                                                                  K (.bool false) h18) ∧
                                                                                  ((!((t0_2 == t0_3) && ((t1_3 == t1_4) && ((strEq t2_2 t2_3) && true)))) = false →
                                                                                  ∃ bv_12 ov_11 : Nat, (allA = some ⟨bv_12, ov_11, none⟩ ∧ 0 ≤ st_1.1 ∧ st_1.1 < (allN : Nat)) ∧
                                                                                  stH h18 bv_12 ((ov_11 + st_1.1.toNat * 3) + 2) [.string (⟨#[116, 117, 114, 110, 101, 100]⟩ : ByteArray)] fun h19 =>
                                                                                  Jv_1 ((IntKind.wrap .i64 (st_1.1 + (1 : Int))), ()) h19))) ∧
                                                                                  ((decide (st_1.1 < ((allN : Nat) : Int))) = false →
                                                                                  Jv ((IntKind.wrap .i64 (st.1 + (1 : Int))), ()) h18))) ((0 : Int), ()) h17))) h16))) h15) ∧
                                                                            ((t_11 != ((tN_1 : Nat) : Int)) = true →
                                                                              (((t_11 != ((tN_1 : Nat) : Int)) = false → h15.rds bv_7 (ov_6 + 1) 1 = some [.bool t_12])) ∧
                                                                              K (.bool false) h15))) h14) ∧
                                                                      ((!t_10) = true →
                                                                        (((!t_10) = false → h14.rds bv_6 ov_5 1 = some [.slice tA_1 tN_1 tC_1])) ∧
                                                                        K (.bool false) h14))) h13))) h12) ∧
                                                          ((((tN : Nat) : Int) != (0 : Int)) = true →
                                                            K (.bool false) h12))) h11) ∧
                                                    ((t_8 != (0 : Int)) = true →
                                                      K (.bool false) h11))) h10) ∧
                                              ((t_7 != (2 : Int)) = true →
                                                K (.bool false) h10))) h9) ∧
                                        ((t_5 != (2 : Int)) = true →
                                          K (.bool false) h9))) h8) ∧
                                  ((t_3 != (2 : Int)) = true →
                                    K (.bool false) h8))) h7) ∧
                            ((t1 != (2 : Int)) = true →
                              K (.bool false) h7))) h6) h5) ∧
                    ((decide (st.1 < ((lN : Nat) : Int))) = false →
                      newH h5 (.cells #[.slice none 0 0, .int .i64 (0 : Int), .int .i64 (0 : Int), .bool false, .bool false] T_net_Net (0, 0)) fun bv_13 h20 =>
                      CallH Try.prog id_net_Net_Post [.pointer (some ⟨bv_13, 0, none⟩), .agg #[.int .i64 (0 : Int), .int .i64 (1 : Int), .string (⟨#[]⟩ : ByteArray)]] (fun v_15 h21 =>
                        ∃ t_14 : Int, v_15 = .int .i64 t_14 ∧
                        K (.bool (t_14 == (2 : Int))) h21) h20))) ((0 : Int), ()) h4) h2))) h1))) h
theorem F_law08_NetPlays_ok {lA : Option Addr} {lN lC : Nat}  {K : Value → PH → Prop} {h : PH} (hh : F_law08_NetPlays lA lN lC K h) : CallH Try.prog id_law08_NetPlays [.slice lA lN lC] K h :=
  denF_sound Try.func6 (H := ⟨[7], [(15, [0, 1, 2, 3, 4, 5, 6, 7, 8, 9, 11, 12, 13, 14, 15, 10, 16, 17, 18, 19, 21, 22, 23, 24, 20, 25, 26])], [(0, ⟨[(6, .int .i64)], []⟩), (2, ⟨[(10, .int .i64)], []⟩)]⟩) (xs := [.v (.slice lA lN lC)]) (by kernel_rfl) (by simp [okE0s, okE0, chOk, one1]) (cast (by kernel_rfl : F_law08_NetPlays lA lN lC K h = denF Try.prog Try.f6 ⟨[7], [(15, [0, 1, 2, 3, 4, 5, 6, 7, 8, 9, 11, 12, 13, 14, 15, 10, 16, 17, 18, 19, 21, 22, 23, 24, 20, 25, 26])], [(0, ⟨[(6, .int .i64)], []⟩), (2, ⟨[(10, .int .i64)], []⟩)]⟩ [.v (.slice lA lN lC)] K h) hh)

/- twinlock/twinlocklaw08.NetCounts -/
def F_law08_NetCounts (lA : Option Addr) (lN lC : Nat) (K : Value → PH → Prop) (h : PH) : Prop :=
  CallH Try.prog id_law08_awake [] (fun v h1 =>
    ∃ t : Bool, v = .bool t ∧
    (((!t) = true →
        K (.bool false) h1) ∧
      ((!t) = false →
        CallH Try.prog id_law08_Great [.slice lA lN lC] (fun v_1 h2 =>
          ∃ t_1 : Bool, v_1 = .bool t_1 ∧
          ((t_1 = true →
              K (.bool true) h2) ∧
            (t_1 = false →
              CallH Try.prog id_net_New [] (fun v_2 h3 =>
                ∃ xv : Option Addr, v_2 = .pointer xv ∧
                LoopP (T := (Option Addr × Nat × Nat) × Int × Unit) (fun Jv st h4 =>
                  (((decide (st.2.1 < ((lN : Nat) : Int))) = true →
                      ∃ bv ov : Nat, (lA = some ⟨bv, ov, none⟩ ∧ 0 ≤ st.2.1 ∧ st.2.1 < (lN : Nat)) ∧
                      ∃ y0 : Int, ∃ y1 : Int, ∃ y2 : Int, ∃ y3 : ByteArray, ∃ y4 : Int, ∃ y5 : Int, (h4.rds bv (ov + st.2.1.toNat * 6) 6 = some [.int .i64 y0, .int .i64 y1, .int .i64 y2, .string y3, .int .i64 y4, .int .u8 y5]) ∧
                      CallH Try.prog id_net_Net_All [.pointer xv] (fun v_3 h5 =>
                        ∃ (allA : Option Addr) (allN allC : Nat), v_3 = .slice allA allN allC ∧
                        (((y0 == (0 : Int)) = true →
                            CallH Try.prog id_net_Net_Post [.pointer xv, .agg #[.int .i64 y1, .int .i64 y2, .string y3]] (fun v_4 h6 =>
                              ∃ t_2 : Int, v_4 = .int .i64 t_2 ∧
                              (((t_2 == (0 : Int)) = true →
                                  appH T_api_Packet 3 32 [.int .i64 (0 : Int), .int .i64 (0 : Int), .string (⟨#[]⟩ : ByteArray)] st.1.1 st.1.2.1 st.1.2.2 1 [.int .i64 y1, .int .i64 y2, .string y3] (fun leftA leftN leftC h7 =>
                                    CallH Try.prog id_net_Net_Len [.pointer xv] (fun v_5 h8 =>
                                      ∃ t_3 : Int, v_5 = .int .i64 t_3 ∧
                                      (((t_3 != ((leftN : Nat) : Int)) = false →
                                          CallH Try.prog id_net_Net_All [.pointer xv] (fun v_6 h9 =>
                                            ∃ (tA : Option Addr) (tN tC : Nat), v_6 = .slice tA tN tC ∧
                                            CallH Try.prog id_law08_fits [.slice tA tN tC] (fun v_7 h10 =>
                                              ∃ t_4 : Bool, v_7 = .bool t_4 ∧
                                              (((!t_4) = true →
                                                  K (.bool false) h10) ∧
                                                ((!t_4) = false →
                                                  Jv ((leftA, leftN, leftC), (IntKind.wrap .i64 (st.2.1 + (1 : Int))), ()) h10))) h9) h8) ∧
                                        ((t_3 != ((leftN : Nat) : Int)) = true →
                                          K (.bool false) h8))) h7) h6) ∧
                                ((t_2 == (0 : Int)) = false →
                                  CallH Try.prog id_net_Net_Len [.pointer xv] (fun v_8 h11 =>
                                    ∃ t_5 : Int, v_8 = .int .i64 t_5 ∧
                                    (((t_5 != ((st.1.2.1 : Nat) : Int)) = false →
                                        CallH Try.prog id_net_Net_All [.pointer xv] (fun v_9 h12 =>
                                          ∃ (tA_1 : Option Addr) (tN_1 tC_1 : Nat), v_9 = .slice tA_1 tN_1 tC_1 ∧
                                          CallH Try.prog id_law08_fits [.slice tA_1 tN_1 tC_1] (fun v_10 h13 =>
                                            ∃ t_6 : Bool, v_10 = .bool t_6 ∧
                                            (((!t_6) = true →
                                                K (.bool false) h13) ∧
                                              ((!t_6) = false →
                                                Jv ((st.1.1, st.1.2.1, st.1.2.2), (IntKind.wrap .i64 (st.2.1 + (1 : Int))), ()) h13))) h12) h11) ∧
                                      ((t_5 != ((st.1.2.1 : Nat) : Int)) = true →
                                        K (.bool false) h11))) h6))) h5) ∧
                          ((y0 == (0 : Int)) = false →
                            (((y0 == (1 : Int)) = true →
                                CallH Try.prog id_net_Net_Take [.pointer xv, .int .i64 y4] (fun v_11 h14 =>
                                  ∃ t00 : Int, ∃ t01 : Int, ∃ t02 : ByteArray, ∃ t1 : Int, v_11 = .tuple #[.agg #[.int .i64 t00, .int .i64 t01, .string t02], .int .i64 t1] ∧
                                  ((((decide (y4 ≥ (0 : Int))) && (decide (y4 < ((allN : Nat) : Int)))) = true →
                                      CallH Try.prog id_net_Net_Parted [.pointer xv] (fun v_12 h15 =>
                                        ∃ t_7 : Bool, v_12 = .bool t_7 ∧
                                        (((!((t1 == (0 : Int)) == (!t_7))) = false →
                                            ∃ bv_1 ov_1 : Nat, (((!t_7) = true → allA = some ⟨bv_1, ov_1, none⟩ ∧ 0 ≤ y4 ∧ y4 < (allN : Nat))) ∧
                                            ∃ t0 : Int, ∃ t1_1 : Int, ∃ t2 : ByteArray, (((!t_7) = true → h15.rds bv_1 (ov_1 + y4.toNat * 3) 3 = some [.int .i64 t0, .int .i64 t1_1, .string t2])) ∧
                                            ((((!t_7) && (!((t00 == t0) && ((t01 == t1_1) && ((strEq t02 t2) && true))))) = true →
                                                K (.bool false) h15) ∧
                                              (((!t_7) && (!((t00 == t0) && ((t01 == t1_1) && ((strEq t02 t2) && true))))) = false →
                                                (((!t_7) = true →
                                                    ∃ bv_2 ov_2 : Nat, (allA = some ⟨bv_2, ov_2, none⟩ ∧ 0 ≤ y4 ∧ y4 < (allN : Nat)) ∧
                                                    ∃ t0_1 : Int, ∃ t1_2 : Int, ∃ t2_1 : ByteArray, (h15.rds bv_2 (ov_2 + y4.toNat * 3) 3 = some [.int .i64 t0_1, .int .i64 t1_2, .string t2_1]) ∧
                                                    CallH Try.prog id_law08_find [.slice st.1.1 st.1.2.1 st.1.2.2, .agg #[.int .i64 t0_1, .int .i64 t1_2, .string t2_1]] (fun v_13 h16 =>
                                                      ∃ k : Int, v_13 = .int .i64 k ∧
                                                      (((decide (k < (0 : Int))) = true →
                                                          K (.bool false) h16) ∧
                                                        ((decide (k < (0 : Int))) = false →
                                                          (0 ≤ (0 : Int) ∧ (0 : Int) ≤ k ∧ k ≤ ((st.1.2.2 : Nat) : Int) ∧ ((st.1.2.2 : Nat) : Int) ≤ (st.1.2.2 : Nat)) ∧
                                                          (0 ≤ (IntKind.wrap .i64 (k + (1 : Int))) ∧ (IntKind.wrap .i64 (k + (1 : Int))) ≤ ((st.1.2.1 : Nat) : Int) ∧ ((st.1.2.1 : Nat) : Int) ≤ ((st.1.2.2 : Nat) : Int) ∧ ((st.1.2.2 : Nat) : Int) ≤ (st.1.2.2 : Nat)) ∧
                                                          newH h16 (.cells #[] T_api_Packet (0, 0)) fun bv_3 h17 =>
                                                          ∃ vs : List Value, srcH h17 (slA st.1.1 3 (0 : Int) ((st.1.2.2 : Nat) : Int)) ((k.toNat - (0 : Int).toNat) * 3) vs ∧
                                                          appH T_api_Packet 3 32 [.int .i64 (0 : Int), .int .i64 (0 : Int), .string (⟨#[]⟩ : ByteArray)] (some ⟨bv_3, 0, none⟩) 0 0 (k.toNat - (0 : Int).toNat) vs (fun tA_2 tN_2 tC_2 h18 =>
                                                            ∃ vs_1 : List Value, srcH h18 (slA st.1.1 3 (IntKind.wrap .i64 (k + (1 : Int))) ((st.1.2.2 : Nat) : Int)) ((((st.1.2.1 : Nat) : Int).toNat - (IntKind.wrap .i64 (k + (1 : Int))).toNat) * 3) vs_1 ∧
                                                            appH T_api_Packet 3 32 [.int .i64 (0 : Int), .int .i64 (0 : Int), .string (⟨#[]⟩ : ByteArray)] tA_2 tN_2 tC_2 (((st.1.2.1 : Nat) : Int).toNat - (IntKind.wrap .i64 (k + (1 : Int))).toNat) vs_1 (fun leftA_1 leftN_1 leftC_1 h19 =>
                                                              CallH Try.prog id_net_Net_Len [.pointer xv] (fun v_14 h20 =>
                                                                ∃ t_8 : Int, v_14 = .int .i64 t_8 ∧
                                                                (((t_8 != ((leftN_1 : Nat) : Int)) = false →
                                                                    CallH Try.prog id_net_Net_All [.pointer xv] (fun v_15 h21 =>
                                                                      ∃ (tA_3 : Option Addr) (tN_3 tC_3 : Nat), v_15 = .slice tA_3 tN_3 tC_3 ∧
                                                                      CallH Try.prog id_law08_fits [.slice tA_3 tN_3 tC_3] (fun v_16 h22 =>
                                                                        ∃ t_9 : Bool, v_16 = .bool t_9 ∧
                                                                        (((!t_9) = true →
                                                                            K (.bool false) h22) ∧
                                                                          ((!t_9) = false →
                                                                            Jv ((leftA_1, leftN_1, leftC_1), (IntKind.wrap .i64 (st.2.1 + (1 : Int))), ()) h22))) h21) h20) ∧
                                                                  ((t_8 != ((leftN_1 : Nat) : Int)) = true →
                                                                    K (.bool false) h20))) h19) h18) h17))) h15) ∧
                                                  ((!t_7) = false →
                                                    CallH Try.prog id_net_Net_Len [.pointer xv] (fun v_17 h23 =>
                                                      ∃ t_10 : Int, v_17 = .int .i64 t_10 ∧
                                                      (((t_10 != ((st.1.2.1 : Nat) : Int)) = false →
                                                          CallH Try.prog id_net_Net_All [.pointer xv] (fun v_18 h24 =>
                                                            ∃ (tA_4 : Option Addr) (tN_4 tC_4 : Nat), v_18 = .slice tA_4 tN_4 tC_4 ∧
                                                            CallH Try.prog id_law08_fits [.slice tA_4 tN_4 tC_4] (fun v_19 h25 =>
                                                              ∃ t_11 : Bool, v_19 = .bool t_11 ∧
                                                              (((!t_11) = true →
                                                                  K (.bool false) h25) ∧
                                                                ((!t_11) = false →
                                                                  Jv ((st.1.1, st.1.2.1, st.1.2.2), (IntKind.wrap .i64 (st.2.1 + (1 : Int))), ()) h25))) h24) h23) ∧
                                                        ((t_10 != ((st.1.2.1 : Nat) : Int)) = true →
                                                          K (.bool false) h23))) h15))))) ∧
                                          ((!((t1 == (0 : Int)) == (!t_7))) = true →
                                            K (.bool false) h15))) h14) ∧
                                    (((decide (y4 ≥ (0 : Int))) && (decide (y4 < ((allN : Nat) : Int)))) = false →
                                      (((!((t1 == (0 : Int)) == false)) = false →
                                          CallH Try.prog id_net_Net_Len [.pointer xv] (fun v_20 h26 =>
                                            ∃ t_12 : Int, v_20 = .int .i64 t_12 ∧
                                            (((t_12 != ((st.1.2.1 : Nat) : Int)) = false →
                                                CallH Try.prog id_net_Net_All [.pointer xv] (fun v_21 h27 =>
                                                  ∃ (tA_5 : Option Addr) (tN_5 tC_5 : Nat), v_21 = .slice tA_5 tN_5 tC_5 ∧
                                                  CallH Try.prog id_law08_fits [.slice tA_5 tN_5 tC_5] (fun v_22 h28 =>
                                                    ∃ t_13 : Bool, v_22 = .bool t_13 ∧
                                                    (((!t_13) = true →
                                                        K (.bool false) h28) ∧
                                                      ((!t_13) = false →
                                                        Jv ((st.1.1, st.1.2.1, st.1.2.2), (IntKind.wrap .i64 (st.2.1 + (1 : Int))), ()) h28))) h27) h26) ∧
                                              ((t_12 != ((st.1.2.1 : Nat) : Int)) = true →
                                                K (.bool false) h26))) h14) ∧
                                        ((!((t1 == (0 : Int)) == false)) = true →
                                          K (.bool false) h14))))) h5) ∧
                              ((y0 == (1 : Int)) = false →
                                (((y0 == (2 : Int)) = true →
                                    CallH Try.prog id_net_Net_Lose [.pointer xv, .int .i64 y4] (fun v_23 h29 =>
                                      ∃ t_14 : Int, v_23 = .int .i64 t_14 ∧
                                      (((!((t_14 == (0 : Int)) == ((decide (y4 ≥ (0 : Int))) && (decide (y4 < ((allN : Nat) : Int)))))) = true →
                                          K (.bool false) h29) ∧
                                        ((!((t_14 == (0 : Int)) == ((decide (y4 ≥ (0 : Int))) && (decide (y4 < ((allN : Nat) : Int)))))) = false →
                                          (((t_14 == (0 : Int)) = true →
                                              ∃ bv_4 ov_3 : Nat, (allA = some ⟨bv_4, ov_3, none⟩ ∧ 0 ≤ y4 ∧ y4 < (allN : Nat)) ∧
                                              ∃ t0_2 : Int, ∃ t1_3 : Int, ∃ t2_2 : ByteArray, (h29.rds bv_4 (ov_3 + y4.toNat * 3) 3 = some [.int .i64 t0_2, .int .i64 t1_3, .string t2_2]) ∧
                                              CallH Try.prog id_law08_find [.slice st.1.1 st.1.2.1 st.1.2.2, .agg #[.int .i64 t0_2, .int .i64 t1_3, .string t2_2]] (fun v_24 h30 =>
                                                ∃ k_1 : Int, v_24 = .int .i64 k_1 ∧
                                                (((decide (k_1 < (0 : Int))) = true →
                                                    K (.bool false) h30) ∧
                                                  ((decide (k_1 < (0 : Int))) = false →
                                                    (0 ≤ (0 : Int) ∧ (0 : Int) ≤ k_1 ∧ k_1 ≤ ((st.1.2.2 : Nat) : Int) ∧ ((st.1.2.2 : Nat) : Int) ≤ (st.1.2.2 : Nat)) ∧
                                                    (0 ≤ (IntKind.wrap .i64 (k_1 + (1 : Int))) ∧ (IntKind.wrap .i64 (k_1 + (1 : Int))) ≤ ((st.1.2.1 : Nat) : Int) ∧ ((st.1.2.1 : Nat) : Int) ≤ ((st.1.2.2 : Nat) : Int) ∧ ((st.1.2.2 : Nat) : Int) ≤ (st.1.2.2 : Nat)) ∧
                                                    newH h30 (.cells #[] T_api_Packet (0, 0)) fun bv_5 h31 =>
                                                    ∃ vs_2 : List Value, srcH h31 (slA st.1.1 3 (0 : Int) ((st.1.2.2 : Nat) : Int)) ((k_1.toNat - (0 : Int).toNat) * 3) vs_2 ∧
                                                    appH T_api_Packet 3 32 [.int .i64 (0 : Int), .int .i64 (0 : Int), .string (⟨#[]⟩ : ByteArray)] (some ⟨bv_5, 0, none⟩) 0 0 (k_1.toNat - (0 : Int).toNat) vs_2 (fun tA_6 tN_6 tC_6 h32 =>
                                                      ∃ vs_3 : List Value, srcH h32 (slA st.1.1 3 (IntKind.wrap .i64 (k_1 + (1 : Int))) ((st.1.2.2 : Nat) : Int)) ((((st.1.2.1 : Nat) : Int).toNat - (IntKind.wrap .i64 (k_1 + (1 : Int))).toNat) * 3) vs_3 ∧
                                                      appH T_api_Packet 3 32 [.int .i64 (0 : Int), .int .i64 (0 : Int), .string (⟨#[]⟩ : ByteArray)] tA_6 tN_6 tC_6 (((st.1.2.1 : Nat) : Int).toNat - (IntKind.wrap .i64 (k_1 + (1 : Int))).toNat) vs_3 (fun leftA_2 leftN_2 leftC_2 h33 =>
                                                        CallH Try.prog id_net_Net_Len [.pointer xv] (fun v_25 h34 =>
                                                          ∃ t_15 : Int, v_25 = .int .i64 t_15 ∧
                                                          (((t_15 != ((leftN_2 : Nat) : Int)) = false →
                                                              CallH Try.prog id_net_Net_All [.pointer xv] (fun v_26 h35 =>
                                                                ∃ (tA_7 : Option Addr) (tN_7 tC_7 : Nat), v_26 = .slice tA_7 tN_7 tC_7 ∧
                                                                CallH Try.prog id_law08_fits [.slice tA_7 tN_7 tC_7] (fun v_27 h36 =>
                                                                  ∃ t_16 : Bool, v_27 = .bool t_16 ∧
                                                                  (((!t_16) = true →
                                                                      K (.bool false) h36) ∧
                                                                    ((!t_16) = false →
                                                                      Jv ((leftA_2, leftN_2, leftC_2), (IntKind.wrap .i64 (st.2.1 + (1 : Int))), ()) h36))) h35) h34) ∧
                                                            ((t_15 != ((leftN_2 : Nat) : Int)) = true →
                                                              K (.bool false) h34))) h33) h32) h31))) h29) ∧
                                            ((t_14 == (0 : Int)) = false →
                                              CallH Try.prog id_net_Net_Len [.pointer xv] (fun v_28 h37 =>
                                                ∃ t_17 : Int, v_28 = .int .i64 t_17 ∧
                                                (((t_17 != ((st.1.2.1 : Nat) : Int)) = false →
                                                    CallH Try.prog id_net_Net_All [.pointer xv] (fun v_29 h38 =>
                                                      ∃ (tA_8 : Option Addr) (tN_8 tC_8 : Nat), v_29 = .slice tA_8 tN_8 tC_8 ∧
                                                      CallH Try.prog id_law08_fits [.slice tA_8 tN_8 tC_8] (fun v_30 h39 =>
                                                        ∃ t_18 : Bool, v_30 = .bool t_18 ∧
                                                        (((!t_18) = true →
                                                            K (.bool false) h39) ∧
                                                          ((!t_18) = false →
                                                            Jv ((st.1.1, st.1.2.1, st.1.2.2), (IntKind.wrap .i64 (st.2.1 + (1 : Int))), ()) h39))) h38) h37) ∧
                                                  ((t_17 != ((st.1.2.1 : Nat) : Int)) = true →
                                                    K (.bool false) h37))) h29))))) h5) ∧
                                  ((y0 == (2 : Int)) = false →
                                    (((y0 == (3 : Int)) = true →
                                        CallH Try.prog id_net_Net_Dup [.pointer xv, .int .i64 y4] (fun v_31 h40 =>
                                          ∃ t_19 : Int, v_31 = .int .i64 t_19 ∧
                                          (((t_19 == (0 : Int)) = true →
                                              (((!((decide (y4 ≥ (0 : Int))) && (decide (y4 < ((allN : Nat) : Int))))) = true →
                                                  K (.bool false) h40) ∧
                                                ((!((decide (y4 ≥ (0 : Int))) && (decide (y4 < ((allN : Nat) : Int))))) = false →
                                                  ∃ bv_6 ov_4 : Nat, (allA = some ⟨bv_6, ov_4, none⟩ ∧ 0 ≤ y4 ∧ y4 < (allN : Nat)) ∧
                                                  ∃ t0_3 : Int, ∃ t1_4 : Int, ∃ t2_3 : ByteArray, (h40.rds bv_6 (ov_4 + y4.toNat * 3) 3 = some [.int .i64 t0_3, .int .i64 t1_4, .string t2_3]) ∧
                                                  appH T_api_Packet 3 32 [.int .i64 (0 : Int), .int .i64 (0 : Int), .string (⟨#[]⟩ : ByteArray)] st.1.1 st.1.2.1 st.1.2.2 1 [.int .i64 t0_3, .int .i64 t1_4, .string t2_3] (fun leftA_3 leftN_3 leftC_3 h41 =>
                                                    CallH Try.prog id_net_Net_Len [.pointer xv] (fun v_32 h42 =>
                                                      ∃ t_20 : Int, v_32 = .int .i64 t_20 ∧
                                                      (((t_20 != ((leftN_3 : Nat) : Int)) = false →
                                                          CallH Try.prog id_net_Net_All [.pointer xv] (fun v_33 h43 =>
                                                            ∃ (tA_9 : Option Addr) (tN_9 tC_9 : Nat), v_33 = .slice tA_9 tN_9 tC_9 ∧
                                                            CallH Try.prog id_law08_fits [.slice tA_9 tN_9 tC_9] (fun v_34 h44 =>
                                                              ∃ t_21 : Bool, v_34 = .bool t_21 ∧
                                                              (((!t_21) = true →
                                                                  K (.bool false) h44) ∧
                                                                ((!t_21) = false →
                                                                  Jv ((leftA_3, leftN_3, leftC_3), (IntKind.wrap .i64 (st.2.1 + (1 : Int))), ()) h44))) h43) h42) ∧
                                                        ((t_20 != ((leftN_3 : Nat) : Int)) = true →
                                                          K (.bool false) h42))) h41) h40))) ∧
                                            ((t_19 == (0 : Int)) = false →
                                              CallH Try.prog id_net_Net_Len [.pointer xv] (fun v_35 h45 =>
                                                ∃ t_22 : Int, v_35 = .int .i64 t_22 ∧
                                                (((t_22 != ((st.1.2.1 : Nat) : Int)) = false →
                                                    CallH Try.prog id_net_Net_All [.pointer xv] (fun v_36 h46 =>
                                                      ∃ (tA_10 : Option Addr) (tN_10 tC_10 : Nat), v_36 = .slice tA_10 tN_10 tC_10 ∧
                                                      CallH Try.prog id_law08_fits [.slice tA_10 tN_10 tC_10] (fun v_37 h47 =>
                                                        ∃ t_23 : Bool, v_37 = .bool t_23 ∧
                                                        (((!t_23) = true →
                                                            K (.bool false) h47) ∧
                                                          ((!t_23) = false →
                                                            Jv ((st.1.1, st.1.2.1, st.1.2.2), (IntKind.wrap .i64 (st.2.1 + (1 : Int))), ()) h47))) h46) h45) ∧
                                                  ((t_22 != ((st.1.2.1 : Nat) : Int)) = true →
                                                    K (.bool false) h45))) h40))) h5) ∧
                                      ((y0 == (3 : Int)) = false →
                                        (((y0 == (4 : Int)) = true →
                                            CallH Try.prog id_net_Net_Part [.pointer xv, .bool ((y4.tmod (2 : Int)) != (0 : Int))] (fun v_38 h48 =>
                                              CallH Try.prog id_net_Net_Len [.pointer xv] (fun v_39 h49 =>
                                                ∃ t_24 : Int, v_39 = .int .i64 t_24 ∧
                                                (((t_24 != ((st.1.2.1 : Nat) : Int)) = false →
                                                    CallH Try.prog id_net_Net_All [.pointer xv] (fun v_40 h50 =>
                                                      ∃ (tA_11 : Option Addr) (tN_11 tC_11 : Nat), v_40 = .slice tA_11 tN_11 tC_11 ∧
                                                      CallH Try.prog id_law08_fits [.slice tA_11 tN_11 tC_11] (fun v_41 h51 =>
                                                        ∃ t_25 : Bool, v_41 = .bool t_25 ∧
                                                        (((!t_25) = true →
                                                            K (.bool false) h51) ∧
                                                          ((!t_25) = false →
                                                            Jv ((st.1.1, st.1.2.1, st.1.2.2), (IntKind.wrap .i64 (st.2.1 + (1 : Int))), ()) h51))) h50) h49) ∧
                                                  ((t_24 != ((st.1.2.1 : Nat) : Int)) = true →
                                                    K (.bool false) h49))) h48) h5) ∧
                                          ((y0 == (4 : Int)) = false →
                                            CallH Try.prog id_net_Net_Len [.pointer xv] (fun v_42 h52 =>
                                              ∃ t_26 : Int, v_42 = .int .i64 t_26 ∧
                                              (((t_26 != ((st.1.2.1 : Nat) : Int)) = false →
                                                  CallH Try.prog id_net_Net_All [.pointer xv] (fun v_43 h53 =>
                                                    ∃ (tA_12 : Option Addr) (tN_12 tC_12 : Nat), v_43 = .slice tA_12 tN_12 tC_12 ∧
                                                    CallH Try.prog id_law08_fits [.slice tA_12 tN_12 tC_12] (fun v_44 h54 =>
                                                      ∃ t_27 : Bool, v_44 = .bool t_27 ∧
                                                      (((!t_27) = true →
                                                          K (.bool false) h54) ∧
                                                        ((!t_27) = false →
                                                          Jv ((st.1.1, st.1.2.1, st.1.2.2), (IntKind.wrap .i64 (st.2.1 + (1 : Int))), ()) h54))) h53) h52) ∧
                                                ((t_26 != ((st.1.2.1 : Nat) : Int)) = true →
                                                  K (.bool false) h52))) h5))))))))))) h4) ∧
                    ((decide (st.2.1 < ((lN : Nat) : Int))) = false →
                      K (.bool true) h4))) ((none, 0, 0), (0 : Int), ()) h3) h2))) h1))) h
theorem F_law08_NetCounts_ok {lA : Option Addr} {lN lC : Nat}  {K : Value → PH → Prop} {h : PH} (hh : F_law08_NetCounts lA lN lC K h) : CallH Try.prog id_law08_NetCounts [.slice lA lN lC] K h :=
  denF_sound Try.func7 (H := ⟨[6, 10, 52, 110], [(38, [1, 2, 3, 5, 6, 7, 8, 0, 4, 9, 10])], [(0, ⟨[(4, .slice), (5, .int .i64)], []⟩)]⟩) (xs := [.v (.slice lA lN lC)]) (by kernel_rfl) (by simp [okE0s, okE0, chOk, one1]) (cast (by kernel_rfl : F_law08_NetCounts lA lN lC K h = denF Try.prog Try.f7 ⟨[6, 10, 52, 110], [(38, [1, 2, 3, 5, 6, 7, 8, 0, 4, 9, 10])], [(0, ⟨[(4, .slice), (5, .int .i64)], []⟩)]⟩ [.v (.slice lA lN lC)] K h) hh)

/- twinlock/twinlocklaw08.NetParted -/
def F_law08_NetParted (lA : Option Addr) (lN lC : Nat) (K : Value → PH → Prop) (h : PH) : Prop :=
  CallH Try.prog id_law08_awake [] (fun v h1 =>
    ∃ t : Bool, v = .bool t ∧
    (((!t) = true →
        K (.bool false) h1) ∧
      ((!t) = false →
        CallH Try.prog id_law08_Great [.slice lA lN lC] (fun v_1 h2 =>
          ∃ t_1 : Bool, v_1 = .bool t_1 ∧
          ((t_1 = true →
              K (.bool true) h2) ∧
            (t_1 = false →
              CallH Try.prog id_law08_after [.slice lA lN lC] (fun v_2 h3 =>
                ∃ xv : Option Addr, v_2 = .pointer xv ∧
                CallH Try.prog id_net_Net_All [.pointer xv] (fun v_3 h4 =>
                  ∃ (allA : Option Addr) (allN allC : Nat), v_3 = .slice allA allN allC ∧
                  CallH Try.prog id_net_Net_Part [.pointer xv, .bool true] (fun v_4 h5 =>
                    LoopP (T := Int × Unit) (fun Jv st h6 =>
                      (((decide (st.1 < ((allN : Nat) : Int))) = true →
                          CallH Try.prog id_net_Net_Take [.pointer xv, .int .i64 st.1] (fun v_5 h7 =>
                            ∃ t00 : Int, ∃ t01 : Int, ∃ t02 : ByteArray, ∃ t1 : Int, v_5 = .tuple #[.agg #[.int .i64 t00, .int .i64 t01, .string t02], .int .i64 t1] ∧
                            (((t1 != (14 : Int)) = false →
                                (((!((t00 == (0 : Int)) && ((t01 == (0 : Int)) && ((strEq t02 (⟨#[]⟩ : ByteArray)) && true)))) = true →
                                    K (.bool false) h7) ∧
                                  ((!((t00 == (0 : Int)) && ((t01 == (0 : Int)) && ((strEq t02 (⟨#[]⟩ : ByteArray)) && true)))) = false →
                                    Jv ((IntKind.wrap .i64 (st.1 + (1 : Int))), ()) h7))) ∧
                              ((t1 != (14 : Int)) = true →
                                K (.bool false) h7))) h6) ∧
                        ((decide (st.1 < ((allN : Nat) : Int))) = false →
                          CallH Try.prog id_net_Net_Take [.pointer xv, .int .i64 ((allN : Nat) : Int)] (fun v_6 h8 =>
                            ∃ t00_1 : Int, ∃ t01_1 : Int, ∃ t02_1 : ByteArray, ∃ t1_1 : Int, v_6 = .tuple #[.agg #[.int .i64 t00_1, .int .i64 t01_1, .string t02_1], .int .i64 t1_1] ∧
                            CallH Try.prog id_net_Net_All [.pointer xv] (fun v_7 h9 =>
                              ∃ (nowA : Option Addr) (nowN nowC : Nat), v_7 = .slice nowA nowN nowC ∧
                              CallH Try.prog id_net_Net_Part [.pointer xv, .bool false] (fun v_8 h10 =>
                                ((((t1_1 != (4 : Int)) || (((nowN : Nat) : Int) != ((allN : Nat) : Int))) = false →
                                    CallH Try.prog id_net_Net_Parted [.pointer xv] (fun v_9 h11 =>
                                      ∃ t_2 : Bool, v_9 = .bool t_2 ∧
                                      ((t_2 = true →
                                          K (.bool false) h11) ∧
                                        (t_2 = false →
                                          LoopP (T := Int × Unit) (fun Jv_1 st_1 h12 =>
                                            (((decide (st_1.1 < ((allN : Nat) : Int))) = true →
                                                ∃ bv ov : Nat, (nowA = some ⟨bv, ov, none⟩ ∧ 0 ≤ st_1.1 ∧ st_1.1 < (nowN : Nat)) ∧
                                                ∃ t0 : Int, ∃ t1_2 : Int, ∃ t2 : ByteArray, (h12.rds bv (ov + st_1.1.toNat * 3) 3 = some [.int .i64 t0, .int .i64 t1_2, .string t2]) ∧
                                                ∃ bv_1 ov_1 : Nat, (allA = some ⟨bv_1, ov_1, none⟩ ∧ 0 ≤ st_1.1 ∧ st_1.1 < (allN : Nat)) ∧
                                                ∃ t0_1 : Int, ∃ t1_3 : Int, ∃ t2_1 : ByteArray, (h12.rds bv_1 (ov_1 + st_1.1.toNat * 3) 3 = some [.int .i64 t0_1, .int .i64 t1_3, .string t2_1]) ∧
                                                (((!((t0 == t0_1) && ((t1_2 == t1_3) && ((strEq t2 t2_1) && true)))) = true →
                                                    K (.bool false) h12) ∧
                                                  ((!((t0 == t0_1) && ((t1_2 == t1_3) && ((strEq t2 t2_1) && true)))) = false →
                                                    Jv_1 ((IntKind.wrap .i64 (st_1.1 + (1 : Int))), ()) h12))) ∧
                                              ((decide (st_1.1 < ((allN : Nat) : Int))) = false →
                                                K (.bool true) h12))) ((0 : Int), ()) h11))) h10) ∧
                                  (((t1_1 != (4 : Int)) || (((nowN : Nat) : Int) != ((allN : Nat) : Int))) = true →
                                    K (.bool false) h10))) h9) h8) h6))) ((0 : Int), ()) h5) h4) h3) h2))) h1))) h
theorem F_law08_NetParted_ok {lA : Option Addr} {lN lC : Nat}  {K : Value → PH → Prop} {h : PH} (hh : F_law08_NetParted lA lN lC K h) : CallH Try.prog id_law08_NetParted [.slice lA lN lC] K h :=
  denF_sound Try.func8 (H := ⟨[6, 8], [], [(0, ⟨[(5, .int .i64)], []⟩), (2, ⟨[(11, .int .i64)], []⟩)]⟩) (xs := [.v (.slice lA lN lC)]) (by kernel_rfl) (by simp [okE0s, okE0, chOk, one1]) (cast (by kernel_rfl : F_law08_NetParted lA lN lC K h = denF Try.prog Try.f8 ⟨[6, 8], [], [(0, ⟨[(5, .int .i64)], []⟩), (2, ⟨[(11, .int .i64)], []⟩)]⟩ [.v (.slice lA lN lC)] K h) hh)

/- twinlock/net.New -/
def F_net_New  (K : Value → PH → Prop) (h : PH) : Prop :=
  newH h (.cells #[.slice none 0 0, .int .i64 (0 : Int), .int .i64 (0 : Int), .bool false, .bool true] T_net_Net (0, 0)) fun bv h1 =>
  K (.pointer (some ⟨bv, 0, none⟩)) h1
theorem F_net_New_ok   {K : Value → PH → Prop} {h : PH} (hh : F_net_New  K h) : CallH Try.prog id_net_New [] K h :=
  denF_sound Try.func9 (H := ⟨[], [], []⟩) (xs := []) (by kernel_rfl) (by simp [okE0s, okE0, chOk, one1]) (cast (by kernel_rfl : F_net_New  K h = denF Try.prog Try.f9 ⟨[], [], []⟩ [] K h) hh)

/- (*twinlock/net.Net).Post -/
def F_net_Net_Post (xv : Option Addr) (p0 : Int) (p1 : Int) (p2 : ByteArray) (K : Value → PH → Prop) (h : PH) : Prop :=
  CallH Try.prog id_net_Net_none [.pointer xv] (fun v h1 =>
    ∃ t : Bool, v = .bool t ∧
    ((t = true →
        K (.int .i64 (2 : Int)) h1) ∧
      (t = false →
        (((((decide (p0 < (0 : Int))) || (decide (p0 ≥ (2 : Int)))) || (p1 != (IntKind.wrap .i64 ((1 : Int) - p0)))) = true →
            K (.int .i64 (1 : Int)) h1) ∧
          ((((decide (p0 < (0 : Int))) || (decide (p0 ≥ (2 : Int)))) || (p1 != (IntKind.wrap .i64 ((1 : Int) - p0)))) = false →
            CallH Try.prog id_net_Net_put [.pointer xv, .agg #[.int .i64 p0, .int .i64 p1, .string p2]] (fun v_1 h2 =>
              ∃ t_1 : Int, v_1 = .int .i64 t_1 ∧
              K (.int .i64 t_1) h2) h1))))) h
theorem F_net_Net_Post_ok {xv : Option Addr} {p0 : Int} {p1 : Int} {p2 : ByteArray}  {K : Value → PH → Prop} {h : PH} (hh : F_net_Net_Post xv p0 p1 p2 K h) : CallH Try.prog id_net_Net_Post [.pointer xv, .agg #[.int .i64 p0, .int .i64 p1, .string p2]] K h :=
  denF_sound Try.func10 (H := ⟨[3], [], []⟩) (xs := [.v (.pointer xv), .agg [.one (.int .i64 p0), .one (.int .i64 p1), .one (.string p2)]]) (by kernel_rfl) (by simp [okE0s, okE0, chOk, one1]) (cast (by kernel_rfl : F_net_Net_Post xv p0 p1 p2 K h = denF Try.prog Try.f10 ⟨[3], [], []⟩ [.v (.pointer xv), .agg [.one (.int .i64 p0), .one (.int .i64 p1), .one (.string p2)]] K h) hh)

/- (*twinlock/net.Net).Dup -/
def F_net_Net_Dup (xv : Option Addr) (i : Int) (K : Value → PH → Prop) (h : PH) : Prop :=
  CallH Try.prog id_net_Net_find [.pointer xv, .int .i64 i] (fun v h1 =>
    ∃ t00 : Int, ∃ t01 : Int, ∃ t02 : ByteArray, ∃ t1 : Int, v = .tuple #[.agg #[.int .i64 t00, .int .i64 t01, .string t02], .int .i64 t1] ∧
    (((t1 != (0 : Int)) = true →
        K (.int .i64 t1) h1) ∧
      ((t1 != (0 : Int)) = false →
        CallH Try.prog id_net_Net_put [.pointer xv, .agg #[.int .i64 t00, .int .i64 t01, .string t02]] (fun v_1 h2 =>
          ∃ t : Int, v_1 = .int .i64 t ∧
          K (.int .i64 t) h2) h1))) h
theorem F_net_Net_Dup_ok {xv : Option Addr} {i : Int}  {K : Value → PH → Prop} {h : PH} (hh : F_net_Net_Dup xv i K h) : CallH Try.prog id_net_Net_Dup [.pointer xv, .int .i64 i] K h :=
  denF_sound Try.func11 (H := ⟨[5], [], []⟩) (xs := [.v (.pointer xv), .v (.int .i64 i)]) (by kernel_rfl) (by simp [okE0s, okE0, chOk, one1]) (cast (by kernel_rfl : F_net_Net_Dup xv i K h = denF Try.prog Try.f11 ⟨[5], [], []⟩ [.v (.pointer xv), .v (.int .i64 i)] K h) hh)

/- (*twinlock/net.Net).Take -/
def F_net_Net_Take (xv : Option Addr) (i : Int) (K : Value → PH → Prop) (h : PH) : Prop :=
  CallH Try.prog id_net_Net_find [.pointer xv, .int .i64 i] (fun v h1 =>
    ∃ t00 : Int, ∃ t01 : Int, ∃ t02 : ByteArray, ∃ t1 : Int, v = .tuple #[.agg #[.int .i64 t00, .int .i64 t01, .string t02], .int .i64 t1] ∧
    ∃ bv ov : Nat, ((t1 == (0 : Int)) = true → xv = some ⟨bv, ov, none⟩) ∧
    ∃ t : Bool, (((t1 == (0 : Int)) = true → h1.rds bv (ov + 3) 1 = some [.bool t])) ∧
    ((((t1 == (0 : Int)) && t) = true →
        K (.tuple #[.agg #[.int .i64 (0 : Int), .int .i64 (0 : Int), .string (⟨#[]⟩ : ByteArray)], .int .i64 (14 : Int)]) h1) ∧
      (((t1 == (0 : Int)) && t) = false →
        CallH Try.prog id_net_Net_Lose [.pointer xv, .int .i64 i] (fun v_1 h2 =>
          ∃ t_1 : Int, v_1 = .int .i64 t_1 ∧
          K (.tuple #[.agg #[.int .i64 t00, .int .i64 t01, .string t02], .int .i64 t_1]) h2) h1))) h
theorem F_net_Net_Take_ok {xv : Option Addr} {i : Int}  {K : Value → PH → Prop} {h : PH} (hh : F_net_Net_Take xv i K h) : CallH Try.prog id_net_Net_Take [.pointer xv, .int .i64 i] K h :=
  denF_sound Try.func12 (H := ⟨[4, 6], [], []⟩) (xs := [.v (.pointer xv), .v (.int .i64 i)]) (by kernel_rfl) (by simp [okE0s, okE0, chOk, one1]) (cast (by kernel_rfl : F_net_Net_Take xv i K h = denF Try.prog Try.f12 ⟨[4, 6], [], []⟩ [.v (.pointer xv), .v (.int .i64 i)] K h) hh)

/- (*twinlock/net.Net).Len -/
def F_net_Net_Len (xv : Option Addr) (K : Value → PH → Prop) (h : PH) : Prop :=
  (((Option.isNone xv) = true →
      K (.int .i64 (0 : Int)) h) ∧
    ((Option.isNone xv) = false →
      ∃ bv ov : Nat, xv = some ⟨bv, ov, none⟩ ∧
      ∃ (tA : Option Addr) (tN tC : Nat), (h.rds bv ov 1 = some [.slice tA tN tC]) ∧
      K (.int .i64 ((tN : Nat) : Int)) h))
theorem F_net_Net_Len_ok {xv : Option Addr}  {K : Value → PH → Prop} {h : PH} (hh : F_net_Net_Len xv K h) : CallH Try.prog id_net_Net_Len [.pointer xv] K h :=
  denF_sound Try.func13 (H := ⟨[], [], []⟩) (xs := [.v (.pointer xv)]) (by kernel_rfl) (by simp [okE0s, okE0, chOk, one1]) (cast (by kernel_rfl : F_net_Net_Len xv K h = denF Try.prog Try.f13 ⟨[], [], []⟩ [.v (.pointer xv)] K h) hh)

/- (*twinlock/net.Net).Lose -/
def F_net_Net_Lose (xv : Option Addr) (i : Int) (K : Value → PH → Prop) (h : PH) : Prop :=
  CallH Try.prog id_net_Net_find [.pointer xv, .int .i64 i] (fun v h1 =>
    ∃ t00 : Int, ∃ t01 : Int, ∃ t02 : ByteArray, ∃ t1 : Int, v = .tuple #[.agg #[.int .i64 t00, .int .i64 t01, .string t02], .int .i64 t1] ∧
    (((t1 == (0 : Int)) = true →
        ∃ bv ov : Nat, xv = some ⟨bv, ov, none⟩ ∧
        ∃ (tA : Option Addr) (tN tC : Nat), (h1.rds bv ov 1 = some [.slice tA tN tC]) ∧
        CallH Try.prog id_slices_Delete_api_Packet_api_Packet [.slice tA tN tC, .int .i64 i, .int .i64 (IntKind.wrap .i64 (i + (1 : Int)))] (fun v_1 h2 =>
          ∃ (tA_1 : Option Addr) (tN_1 tC_1 : Nat), v_1 = .slice tA_1 tN_1 tC_1 ∧
          ∃ bv_1 ov_1 : Nat, xv = some ⟨bv_1, ov_1, none⟩ ∧
          stH h2 bv_1 ov_1 [.slice tA_1 tN_1 tC_1] fun h3 =>
          ∃ bv_2 ov_2 : Nat, xv = some ⟨bv_2, ov_2, none⟩ ∧
          (0 ≤ t00 ∧ t00 < (2 : Nat)) ∧
          ∃ t : Int, (h3.rds bv_2 ((ov_2 + 1) + t00.toNat * 1) 1 = some [.int .i64 t]) ∧
          ∃ bv_3 ov_3 : Nat, xv = some ⟨bv_3, ov_3, none⟩ ∧
          (0 ≤ t00 ∧ t00 < (2 : Nat)) ∧
          stH h3 bv_3 ((ov_3 + 1) + t00.toNat * 1) [.int .i64 (IntKind.wrap .i64 (t - (1 : Int)))] fun h4 =>
          K (.int .i64 t1) h4) h1) ∧
      ((t1 == (0 : Int)) = false →
        K (.int .i64 t1) h1))) h
theorem F_net_Net_Lose_ok {xv : Option Addr} {i : Int}  {K : Value → PH → Prop} {h : PH} (hh : F_net_Net_Lose xv i K h) : CallH Try.prog id_net_Net_Lose [.pointer xv, .int .i64 i] K h :=
  denF_sound Try.func14 (H := ⟨[5], [], []⟩) (xs := [.v (.pointer xv), .v (.int .i64 i)]) (by kernel_rfl) (by simp [okE0s, okE0, chOk, one1]) (cast (by kernel_rfl : F_net_Net_Lose xv i K h = denF Try.prog Try.f14 ⟨[5], [], []⟩ [.v (.pointer xv), .v (.int .i64 i)] K h) hh)

/- (*twinlock/net.Net).Part -/
def F_net_Net_Part (xv : Option Addr) (on : Bool) (K : Value → PH → Prop) (h : PH) : Prop :=
  CallH Try.prog id_net_Net_none [.pointer xv] (fun v h1 =>
    ∃ t : Bool, v = .bool t ∧
    (((!t) = true →
        ∃ bv ov : Nat, xv = some ⟨bv, ov, none⟩ ∧
        stH h1 bv (ov + 3) [.bool on] fun h2 =>
        K (.tuple #[]) h2) ∧
      ((!t) = false →
        K (.tuple #[]) h1))) h
theorem F_net_Net_Part_ok {xv : Option Addr} {on : Bool}  {K : Value → PH → Prop} {h : PH} (hh : F_net_Net_Part xv on K h) : CallH Try.prog id_net_Net_Part [.pointer xv, .bool on] K h :=
  denF_sound Try.func15 (H := ⟨[], [], []⟩) (xs := [.v (.pointer xv), .v (.bool on)]) (by kernel_rfl) (by simp [okE0s, okE0, chOk, one1]) (cast (by kernel_rfl : F_net_Net_Part xv on K h = denF Try.prog Try.f15 ⟨[], [], []⟩ [.v (.pointer xv), .v (.bool on)] K h) hh)

/- twinlock/twinlocklaw08.awake -/
def F_law08_awake  (K : Value → PH → Prop) (h : PH) : Prop :=
  CallH Try.prog id_net_New [] (fun v h1 =>
    ∃ xv : Option Addr, v = .pointer xv ∧
    CallH Try.prog id_net_Net_Post [.pointer xv, .agg #[.int .i64 (0 : Int), .int .i64 (1 : Int), .string (⟨#[97]⟩ : ByteArray)]] (fun v_1 h2 =>
      ∃ a : Int, v_1 = .int .i64 a ∧
      CallH Try.prog id_net_Net_Dup [.pointer xv, .int .i64 (0 : Int)] (fun v_2 h3 =>
        ∃ bv : Int, v_2 = .int .i64 bv ∧
        CallH Try.prog id_net_Net_Take [.pointer xv, .int .i64 (1 : Int)] (fun v_3 h4 =>
          ∃ t00 : Int, ∃ t01 : Int, ∃ t02 : ByteArray, ∃ t1 : Int, v_3 = .tuple #[.agg #[.int .i64 t00, .int .i64 t01, .string t02], .int .i64 t1] ∧
          CallH Try.prog id_net_Net_Take [.pointer xv, .int .i64 (0 : Int)] (fun v_4 h5 =>
            ∃ t00_1 : Int, ∃ t01_1 : Int, ∃ t02_1 : ByteArray, ∃ t1_1 : Int, v_4 = .tuple #[.agg #[.int .i64 t00_1, .int .i64 t01_1, .string t02_1], .int .i64 t1_1] ∧
            ((((((((a == (0 : Int)) && (bv == (0 : Int))) && (t1 == (0 : Int))) && (t1_1 == (0 : Int))) && ((t00 == t00_1) && ((t01 == t01_1) && ((strEq t02 t02_1) && true)))) && (strEq t02 (⟨#[97]⟩ : ByteArray))) = true →
                CallH Try.prog id_net_Net_Len [.pointer xv] (fun v_5 h6 =>
                  ∃ t : Int, v_5 = .int .i64 t ∧
                  K (.bool (t == (0 : Int))) h6) h5) ∧
              (((((((a == (0 : Int)) && (bv == (0 : Int))) && (t1 == (0 : Int))) && (t1_1 == (0 : Int))) && ((t00 == t00_1) && ((t01 == t01_1) && ((strEq t02 t02_1) && true)))) && (strEq t02 (⟨#[97]⟩ : ByteArray))) = false →
                K (.bool false) h5))) h4) h3) h2) h1) h
theorem F_law08_awake_ok   {K : Value → PH → Prop} {h : PH} (hh : F_law08_awake  K h) : CallH Try.prog id_law08_awake [] K h :=
  denF_sound Try.func16 (H := ⟨[4, 6], [], []⟩) (xs := []) (by kernel_rfl) (by simp [okE0s, okE0, chOk, one1]) (cast (by kernel_rfl : F_law08_awake  K h = denF Try.prog Try.f16 ⟨[4, 6], [], []⟩ [] K h) hh)

/- twinlock/twinlocklaw08.Great -/
def F_law08_Great (lA : Option Addr) (lN lC : Nat) (K : Value → PH → Prop) (h : PH) : Prop :=
  LoopP (T := Int × Int × Unit) (fun Jv st h1 =>
    ((((decide (st.2.1 < ((lN : Nat) : Int))) && (decide (st.2.1 ≤ (300 : Int)))) = true →
        ∃ bv ov : Nat, (lA = some ⟨bv, ov, none⟩ ∧ 0 ≤ st.2.1 ∧ st.2.1 < (lN : Nat)) ∧
        ∃ t : ByteArray, (h1.rds bv (((ov + st.2.1.toNat * 6) + 1) + 2) 1 = some [.string t]) ∧
        Jv ((IntKind.wrap .i64 (st.1 + (minV (t.size : Int) (60001 : Int)))), (IntKind.wrap .i64 (st.2.1 + (1 : Int))), ()) h1) ∧
      (((decide (st.2.1 < ((lN : Nat) : Int))) && (decide (st.2.1 ≤ (300 : Int)))) = false →
        K (.bool ((decide (((lN : Nat) : Int) > (300 : Int))) || (decide (st.1 > (60000 : Int))))) h1))) ((0 : Int), (0 : Int), ()) h
theorem F_law08_Great_ok {lA : Option Addr} {lN lC : Nat}  {K : Value → PH → Prop} {h : PH} (hh : F_law08_Great lA lN lC K h) : CallH Try.prog id_law08_Great [.slice lA lN lC] K h :=
  denF_sound Try.func17 (H := ⟨[], [], [(0, ⟨[(3, .int .i64), (4, .int .i64)], []⟩)]⟩) (xs := [.v (.slice lA lN lC)]) (by kernel_rfl) (by simp [okE0s, okE0, chOk, one1]) (cast (by kernel_rfl : F_law08_Great lA lN lC K h = denF Try.prog Try.f17 ⟨[], [], [(0, ⟨[(3, .int .i64), (4, .int .i64)], []⟩)]⟩ [.v (.slice lA lN lC)] K h) hh)

/- twinlock/twinlocklaw08.after -/
def F_law08_after (lA : Option Addr) (lN lC : Nat) (K : Value → PH → Prop) (h : PH) : Prop :=
  CallH Try.prog id_net_New [] (fun v h1 =>
    ∃ xv : Option Addr, v = .pointer xv ∧
    LoopP (T := Int × Unit) (fun Jv st h2 =>
      (((decide (st.1 < ((lN : Nat) : Int))) = true →
          ∃ bv ov : Nat, (lA = some ⟨bv, ov, none⟩ ∧ 0 ≤ st.1 ∧ st.1 < (lN : Nat)) ∧
          ∃ y0 : Int, ∃ y1 : Int, ∃ y2 : Int, ∃ y3 : ByteArray, ∃ y4 : Int, ∃ y5 : Int, (h2.rds bv (ov + st.1.toNat * 6) 6 = some [.int .i64 y0, .int .i64 y1, .int .i64 y2, .string y3, .int .i64 y4, .int .u8 y5]) ∧
          (((y0 == (0 : Int)) = true →
              LoopP (T := Int × Unit) (fun Jv_1 st_1 h3 =>
                ((((st_1.1 == (0 : Int)) || (decide (st_1.1 < (IntKind.wrap .i64 (y5.tmod (80 : Int)))))) = true →
                    CallH Try.prog id_net_Net_Post [.pointer xv, .agg #[.int .i64 y1, .int .i64 y2, .string y3]] (fun v_1 h4 =>
                      ∃ t : Int, v_1 = .int .i64 t ∧
                      Jv_1 ((IntKind.wrap .i64 (st_1.1 + (1 : Int))), ()) h4) h3) ∧
                  (((st_1.1 == (0 : Int)) || (decide (st_1.1 < (IntKind.wrap .i64 (y5.tmod (80 : Int)))))) = false →
                    Jv ((IntKind.wrap .i64 (st.1 + (1 : Int))), ()) h3))) ((0 : Int), ()) h2) ∧
            ((y0 == (0 : Int)) = false →
              (((y0 == (1 : Int)) = true →
                  CallH Try.prog id_net_Net_Take [.pointer xv, .int .i64 y4] (fun v_2 h5 =>
                    ∃ t00 : Int, ∃ t01 : Int, ∃ t02 : ByteArray, ∃ t1 : Int, v_2 = .tuple #[.agg #[.int .i64 t00, .int .i64 t01, .string t02], .int .i64 t1] ∧
                    Jv ((IntKind.wrap .i64 (st.1 + (1 : Int))), ()) h5) h2) ∧
                ((y0 == (1 : Int)) = false →
                  (((y0 == (2 : Int)) = true →
                      CallH Try.prog id_net_Net_Lose [.pointer xv, .int .i64 y4] (fun v_3 h6 =>
                        ∃ t_1 : Int, v_3 = .int .i64 t_1 ∧
                        Jv ((IntKind.wrap .i64 (st.1 + (1 : Int))), ()) h6) h2) ∧
                    ((y0 == (2 : Int)) = false →
                      (((y0 == (3 : Int)) = true →
                          CallH Try.prog id_net_Net_Dup [.pointer xv, .int .i64 y4] (fun v_4 h7 =>
                            ∃ t_2 : Int, v_4 = .int .i64 t_2 ∧
                            Jv ((IntKind.wrap .i64 (st.1 + (1 : Int))), ()) h7) h2) ∧
                        ((y0 == (3 : Int)) = false →
                          (((y0 == (4 : Int)) = true →
                              CallH Try.prog id_net_Net_Part [.pointer xv, .bool ((y4.tmod (2 : Int)) != (0 : Int))] (fun v_5 h8 =>
                                Jv ((IntKind.wrap .i64 (st.1 + (1 : Int))), ()) h8) h2) ∧
                            ((y0 == (4 : Int)) = false →
                              Jv ((IntKind.wrap .i64 (st.1 + (1 : Int))), ()) h2))))))))))) ∧
        ((decide (st.1 < ((lN : Nat) : Int))) = false →
          K (.pointer xv) h2))) ((0 : Int), ()) h1) h
theorem F_law08_after_ok {lA : Option Addr} {lN lC : Nat}  {K : Value → PH → Prop} {h : PH} (hh : F_law08_after lA lN lC K h) : CallH Try.prog id_law08_after [.slice lA lN lC] K h :=
  denF_sound Try.func18 (H := ⟨[5], [], [(0, ⟨[(4, .int .i64)], []⟩), (3, ⟨[(6, .int .i64)], []⟩)]⟩) (xs := [.v (.slice lA lN lC)]) (by kernel_rfl) (by simp [okE0s, okE0, chOk, one1]) (cast (by kernel_rfl : F_law08_after lA lN lC K h = denF Try.prog Try.f18 ⟨[5], [], [(0, ⟨[(4, .int .i64)], []⟩), (3, ⟨[(6, .int .i64)], []⟩)]⟩ [.v (.slice lA lN lC)] K h) hh)

/- (*twinlock/net.Net).All -/
def F_net_Net_All (xv : Option Addr) (K : Value → PH → Prop) (h : PH) : Prop :=
  (((Option.isNone xv) = true →
      K (.slice none 0 0) h) ∧
    ((Option.isNone xv) = false →
      ∃ bv ov : Nat, xv = some ⟨bv, ov, none⟩ ∧
      ∃ (tA : Option Addr) (tN tC : Nat), (h.rds bv ov 1 = some [.slice tA tN tC]) ∧
      CallH Try.prog id_slices_Clone_api_Packet_api_Packet [.slice tA tN tC] (fun v h1 =>
        ∃ (tA_1 : Option Addr) (tN_1 tC_1 : Nat), v = .slice tA_1 tN_1 tC_1 ∧
        K (.slice tA_1 tN_1 tC_1) h1) h))
theorem F_net_Net_All_ok {xv : Option Addr}  {K : Value → PH → Prop} {h : PH} (hh : F_net_Net_All xv K h) : CallH Try.prog id_net_Net_All [.pointer xv] K h :=
  denF_sound Try.func19 (H := ⟨[], [], []⟩) (xs := [.v (.pointer xv)]) (by kernel_rfl) (by simp [okE0s, okE0, chOk, one1]) (cast (by kernel_rfl : F_net_Net_All xv K h = denF Try.prog Try.f19 ⟨[], [], []⟩ [.v (.pointer xv)] K h) hh)

/- (*twinlock/net.Net).Parted -/
def F_net_Net_Parted (xv : Option Addr) (K : Value → PH → Prop) (h : PH) : Prop :=
  CallH Try.prog id_net_Net_none [.pointer xv] (fun v h1 =>
    ∃ t : Bool, v = .bool t ∧
    ∃ bv ov : Nat, ((!t) = true → xv = some ⟨bv, ov, none⟩) ∧
    ∃ t_1 : Bool, (((!t) = true → h1.rds bv (ov + 3) 1 = some [.bool t_1])) ∧
    K (.bool ((!t) && t_1)) h1) h
theorem F_net_Net_Parted_ok {xv : Option Addr}  {K : Value → PH → Prop} {h : PH} (hh : F_net_Net_Parted xv K h) : CallH Try.prog id_net_Net_Parted [.pointer xv] K h :=
  denF_sound Try.func20 (H := ⟨[], [], []⟩) (xs := [.v (.pointer xv)]) (by kernel_rfl) (by simp [okE0s, okE0, chOk, one1]) (cast (by kernel_rfl : F_net_Net_Parted xv K h = denF Try.prog Try.f20 ⟨[], [], []⟩ [.v (.pointer xv)] K h) hh)

/- twinlock/twinlocklaw08.does -/
def F_law08_does (xv : Option Addr) (w : Option Addr) (y0 : Int) (y1 : Int) (y2 : Int) (y3 : ByteArray) (y4 : Int) (y5 : Int) (K : Value → PH → Prop) (h : PH) : Prop :=
  (((y0 == (0 : Int)) = true →
      LoopP (T := Int × Unit) (fun Jv st h1 =>
        ((((st.1 == (0 : Int)) || (decide (st.1 < (IntKind.wrap .i64 (y5.tmod (80 : Int)))))) = true →
            CallH Try.prog id_net_Net_Post [.pointer xv, .agg #[.int .i64 y1, .int .i64 y2, .string y3]] (fun v h2 =>
              ∃ t : Int, v = .int .i64 t ∧
              CallH Try.prog id_ref08_Net_Post [.pointer w, .agg #[.int .i64 y1, .int .i64 y2, .string y3]] (fun v_1 h3 =>
                ∃ t_1 : Int, v_1 = .int .i64 t_1 ∧
                (((t != t_1) = true →
                    K (.bool false) h3) ∧
                  ((t != t_1) = false →
                    Jv ((IntKind.wrap .i64 (st.1 + (1 : Int))), ()) h3))) h2) h1) ∧
          (((st.1 == (0 : Int)) || (decide (st.1 < (IntKind.wrap .i64 (y5.tmod (80 : Int)))))) = false →
            K (.bool true) h1))) ((0 : Int), ()) h) ∧
    ((y0 == (0 : Int)) = false →
      (((y0 == (1 : Int)) = true →
          CallH Try.prog id_net_Net_Take [.pointer xv, .int .i64 y4] (fun v_2 h4 =>
            ∃ t00 : Int, ∃ t01 : Int, ∃ t02 : ByteArray, ∃ t1 : Int, v_2 = .tuple #[.agg #[.int .i64 t00, .int .i64 t01, .string t02], .int .i64 t1] ∧
            CallH Try.prog id_ref08_Net_Take [.pointer w, .int .i64 y4] (fun v_3 h5 =>
              ∃ t00_1 : Int, ∃ t01_1 : Int, ∃ t02_1 : ByteArray, ∃ t1_1 : Int, v_3 = .tuple #[.agg #[.int .i64 t00_1, .int .i64 t01_1, .string t02_1], .int .i64 t1_1] ∧
              K (.bool (((t00 == t00_1) && ((t01 == t01_1) && ((strEq t02 t02_1) && true))) && (t1 == t1_1))) h5) h4) h) ∧
        ((y0 == (1 : Int)) = false →
          (((y0 == (2 : Int)) = true →
              CallH Try.prog id_ref08_Net_Lose [.pointer w, .int .i64 y4] (fun v_4 h6 =>
                ∃ t00_2 : Int, ∃ t01_2 : Int, ∃ t02_2 : ByteArray, ∃ t1_2 : Int, v_4 = .tuple #[.agg #[.int .i64 t00_2, .int .i64 t01_2, .string t02_2], .int .i64 t1_2] ∧
                CallH Try.prog id_net_Net_Lose [.pointer xv, .int .i64 y4] (fun v_5 h7 =>
                  ∃ t_2 : Int, v_5 = .int .i64 t_2 ∧
                  K (.bool (t_2 == t1_2)) h7) h6) h) ∧
            ((y0 == (2 : Int)) = false →
              (((y0 == (3 : Int)) = true →
                  CallH Try.prog id_net_Net_Dup [.pointer xv, .int .i64 y4] (fun v_6 h8 =>
                    ∃ t_3 : Int, v_6 = .int .i64 t_3 ∧
                    CallH Try.prog id_ref08_Net_Dup [.pointer w, .int .i64 y4] (fun v_7 h9 =>
                      ∃ t_4 : Int, v_7 = .int .i64 t_4 ∧
                      K (.bool (t_3 == t_4)) h9) h8) h) ∧
                ((y0 == (3 : Int)) = false →
                  (((y0 == (4 : Int)) = true →
                      CallH Try.prog id_net_Net_Part [.pointer xv, .bool ((y4.tmod (2 : Int)) != (0 : Int))] (fun v_8 h10 =>
                        ∃ bv ov : Nat, w = some ⟨bv, ov, none⟩ ∧
                        stH h10 bv (ov + 1) [.bool ((y4.tmod (2 : Int)) != (0 : Int))] fun h11 =>
                        K (.bool true) h11) h) ∧
                    ((y0 == (4 : Int)) = false →
                      K (.bool true) h))))))))))
theorem F_law08_does_ok {xv : Option Addr} {w : Option Addr} {y0 : Int} {y1 : Int} {y2 : Int} {y3 : ByteArray} {y4 : Int} {y5 : Int}  {K : Value → PH → Prop} {h : PH} (hh : F_law08_does xv w y0 y1 y2 y3 y4 y5 K h) : CallH Try.prog id_law08_does [.pointer xv, .pointer w, .agg #[.int .i64 y0, .int .i64 y1, .int .i64 y2, .string y3, .int .i64 y4, .int .u8 y5]] K h :=
  denF_sound Try.func21 (H := ⟨[5, 8, 10, 12], [(6, [0, 1, 2, 4, 5, 6, 3, 7, 8]), (16, [0, 1, 2, 4, 5, 6, 3, 7, 8, 9])], [(1, ⟨[(7, .int .i64)], []⟩)]⟩) (xs := [.v (.pointer xv), .v (.pointer w), .agg [.one (.int .i64 y0), .one (.int .i64 y1), .one (.int .i64 y2), .one (.string y3), .one (.int .i64 y4), .one (.int .u8 y5)]]) (by kernel_rfl) (by simp [okE0s, okE0, chOk, one1]) (cast (by kernel_rfl : F_law08_does xv w y0 y1 y2 y3 y4 y5 K h = denF Try.prog Try.f21 ⟨[5, 8, 10, 12], [(6, [0, 1, 2, 4, 5, 6, 3, 7, 8]), (16, [0, 1, 2, 4, 5, 6, 3, 7, 8, 9])], [(1, ⟨[(7, .int .i64)], []⟩)]⟩ [.v (.pointer xv), .v (.pointer w), .agg [.one (.int .i64 y0), .one (.int .i64 y1), .one (.int .i64 y2), .one (.string y3), .one (.int .i64 y4), .one (.int .u8 y5)]] K h) hh)

/- twinlock/twinlocklaw08.find -/
def F_law08_find (lA : Option Addr) (lN lC : Nat) (p0 : Int) (p1 : Int) (p2 : ByteArray) (K : Value → PH → Prop) (h : PH) : Prop :=
  LoopP (T := Int × Unit) (fun Jv st h1 =>
    (((decide (st.1 < ((lN : Nat) : Int))) = true →
        ∃ bv ov : Nat, (lA = some ⟨bv, ov, none⟩ ∧ 0 ≤ st.1 ∧ st.1 < (lN : Nat)) ∧
        ∃ t0 : Int, ∃ t1 : Int, ∃ t2 : ByteArray, (h1.rds bv (ov + st.1.toNat * 3) 3 = some [.int .i64 t0, .int .i64 t1, .string t2]) ∧
        ((((t0 == p0) && ((t1 == p1) && ((strEq t2 p2) && true))) = true →
            K (.int .i64 st.1) h1) ∧
          (((t0 == p0) && ((t1 == p1) && ((strEq t2 p2) && true))) = false →
            Jv ((IntKind.wrap .i64 (st.1 + (1 : Int))), ()) h1))) ∧
      ((decide (st.1 < ((lN : Nat) : Int))) = false →
        K (.int .i64 (-1 : Int)) h1))) ((0 : Int), ()) h
theorem F_law08_find_ok {lA : Option Addr} {lN lC : Nat} {p0 : Int} {p1 : Int} {p2 : ByteArray}  {K : Value → PH → Prop} {h : PH} (hh : F_law08_find lA lN lC p0 p1 p2 K h) : CallH Try.prog id_law08_find [.slice lA lN lC, .agg #[.int .i64 p0, .int .i64 p1, .string p2]] K h :=
  denF_sound Try.func22 (H := ⟨[3], [], [(0, ⟨[(5, .int .i64)], []⟩)]⟩) (xs := [.v (.slice lA lN lC), .agg [.one (.int .i64 p0), .one (.int .i64 p1), .one (.string p2)]]) (by kernel_rfl) (by simp [okE0s, okE0, chOk, one1]) (cast (by kernel_rfl : F_law08_find lA lN lC p0 p1 p2 K h = denF Try.prog Try.f22 ⟨[3], [], [(0, ⟨[(5, .int .i64)], []⟩)]⟩ [.v (.slice lA lN lC), .agg [.one (.int .i64 p0), .one (.int .i64 p1), .one (.string p2)]] K h) hh)

/- twinlock/twinlocklaw08.fits -/
def F_law08_fits (lA : Option Addr) (lN lC : Nat) (K : Value → PH → Prop) (h : PH) : Prop :=
  LoopP (T := Int × List Int × Unit) (fun Jv st h1 =>
    (((decide (st.1 < ((lN : Nat) : Int))) = true →
        ∃ bv ov : Nat, (lA = some ⟨bv, ov, none⟩ ∧ 0 ≤ st.1 ∧ st.1 < (lN : Nat)) ∧
        ∃ t : Int, (h1.rds bv (ov + st.1.toNat * 3) 1 = some [.int .i64 t]) ∧
        ∃ bv_1 ov_1 : Nat, (((decide (t < (0 : Int))) = false → lA = some ⟨bv_1, ov_1, none⟩ ∧ 0 ≤ st.1 ∧ st.1 < (lN : Nat))) ∧
        ∃ t_1 : Int, (((decide (t < (0 : Int))) = false → h1.rds bv_1 (ov_1 + st.1.toNat * 3) 1 = some [.int .i64 t_1])) ∧
        ∃ bv_2 ov_2 : Nat, ((((decide (t < (0 : Int))) || (decide (t_1 > (1 : Int)))) = false → lA = some ⟨bv_2, ov_2, none⟩ ∧ 0 ≤ st.1 ∧ st.1 < (lN : Nat))) ∧
        ∃ t_2 : Int, ((((decide (t < (0 : Int))) || (decide (t_1 > (1 : Int)))) = false → h1.rds bv_2 ((ov_2 + st.1.toNat * 3) + 1) 1 = some [.int .i64 t_2])) ∧
        ∃ bv_3 ov_3 : Nat, ((((decide (t < (0 : Int))) || (decide (t_1 > (1 : Int)))) = false → lA = some ⟨bv_3, ov_3, none⟩ ∧ 0 ≤ st.1 ∧ st.1 < (lN : Nat))) ∧
        ∃ t_3 : Int, ((((decide (t < (0 : Int))) || (decide (t_1 > (1 : Int)))) = false → h1.rds bv_3 (ov_3 + st.1.toNat * 3) 1 = some [.int .i64 t_3])) ∧
        (((((decide (t < (0 : Int))) || (decide (t_1 > (1 : Int)))) || (t_2 != (IntKind.wrap .i64 ((1 : Int) - t_3)))) = true →
            K (.bool false) h1) ∧
          ((((decide (t < (0 : Int))) || (decide (t_1 > (1 : Int)))) || (t_2 != (IntKind.wrap .i64 ((1 : Int) - t_3)))) = false →
            ∃ bv_4 ov_4 : Nat, (lA = some ⟨bv_4, ov_4, none⟩ ∧ 0 ≤ st.1 ∧ st.1 < (lN : Nat)) ∧
            ∃ t_4 : Int, (h1.rds bv_4 (ov_4 + st.1.toNat * 3) 1 = some [.int .i64 t_4]) ∧
            (0 ≤ t_4 ∧ t_4 < (2 : Nat)) ∧
            ((t_4.toNat * 1) < 2) ∧
            (0 ≤ t_4 ∧ t_4 < (2 : Nat)) ∧
            (t_4.toNat * 1) < 2 ∧
            Jv ((IntKind.wrap .i64 (st.1 + (1 : Int))), (st.2.1.set (t_4.toNat * 1) (IntKind.wrap .i64 ((st.2.1.getD (t_4.toNat * 1) 0) + (1 : Int)))), ()) h1))) ∧
      ((decide (st.1 < ((lN : Nat) : Int))) = false →
        K (.bool ((decide (((st.2.1.take 1).getD 0 0) ≤ (64 : Int))) && (decide (((st.2.1.drop 1).getD 0 0) ≤ (64 : Int))))) h1))) ((0 : Int), [(0 : Int), (0 : Int)], ()) h
theorem F_law08_fits_ok {lA : Option Addr} {lN lC : Nat}  {K : Value → PH → Prop} {h : PH} (hh : F_law08_fits lA lN lC K h) : CallH Try.prog id_law08_fits [.slice lA lN lC] K h :=
  denF_sound Try.func23 (H := ⟨[3], [], [(0, ⟨[(4, .int .i64)], [(0, [.ints .i64 2])]⟩)]⟩) (xs := [.v (.slice lA lN lC)]) (by kernel_rfl) (by simp [okE0s, okE0, chOk, one1]) (cast (by kernel_rfl : F_law08_fits lA lN lC K h = denF Try.prog Try.f23 ⟨[3], [], [(0, ⟨[(4, .int .i64)], [(0, [.ints .i64 2])]⟩)]⟩ [.v (.slice lA lN lC)] K h) hh)

/- (*twinlock/net.Net).none -/
def F_net_Net_none (xv : Option Addr) (K : Value → PH → Prop) (h : PH) : Prop :=
  ∃ bv ov : Nat, ((Option.isNone xv) = false → xv = some ⟨bv, ov, none⟩) ∧
  ∃ t : Bool, (((Option.isNone xv) = false → h.rds bv (ov + 4) 1 = some [.bool t])) ∧
  K (.bool ((Option.isNone xv) || (!t))) h
theorem F_net_Net_none_ok {xv : Option Addr}  {K : Value → PH → Prop} {h : PH} (hh : F_net_Net_none xv K h) : CallH Try.prog id_net_Net_none [.pointer xv] K h :=
  denF_sound Try.func24 (H := ⟨[], [], []⟩) (xs := [.v (.pointer xv)]) (by kernel_rfl) (by simp [okE0s, okE0, chOk, one1]) (cast (by kernel_rfl : F_net_Net_none xv K h = denF Try.prog Try.f24 ⟨[], [], []⟩ [.v (.pointer xv)] K h) hh)

/- (*twinlock/net.Net).put -/
def F_net_Net_put (xv : Option Addr) (p0 : Int) (p1 : Int) (p2 : ByteArray) (K : Value → PH → Prop) (h : PH) : Prop :=
  ∃ bv ov : Nat, xv = some ⟨bv, ov, none⟩ ∧
  (0 ≤ p0 ∧ p0 < (2 : Nat)) ∧
  ∃ t : Int, (h.rds bv ((ov + 1) + p0.toNat * 1) 1 = some [.int .i64 t]) ∧
  (((decide (t ≥ (64 : Int))) = true →
      K (.int .i64 (6 : Int)) h) ∧
    ((decide (t ≥ (64 : Int))) = false →
      ∃ bv_1 ov_1 : Nat, xv = some ⟨bv_1, ov_1, none⟩ ∧
      (0 ≤ p0 ∧ p0 < (2 : Nat)) ∧
      ∃ t_1 : Int, (h.rds bv_1 ((ov_1 + 1) + p0.toNat * 1) 1 = some [.int .i64 t_1]) ∧
      ∃ bv_2 ov_2 : Nat, xv = some ⟨bv_2, ov_2, none⟩ ∧
      (0 ≤ p0 ∧ p0 < (2 : Nat)) ∧
      stH h bv_2 ((ov_2 + 1) + p0.toNat * 1) [.int .i64 (IntKind.wrap .i64 (t_1 + (1 : Int)))] fun h1 =>
      ∃ bv_3 ov_3 : Nat, xv = some ⟨bv_3, ov_3, none⟩ ∧
      ∃ (tA : Option Addr) (tN tC : Nat), (h1.rds bv_3 ov_3 1 = some [.slice tA tN tC]) ∧
      appH T_api_Packet 3 32 [.int .i64 (0 : Int), .int .i64 (0 : Int), .string (⟨#[]⟩ : ByteArray)] tA tN tC 1 [.int .i64 p0, .int .i64 p1, .string p2] (fun tA_1 tN_1 tC_1 h2 =>
        ∃ bv_4 ov_4 : Nat, xv = some ⟨bv_4, ov_4, none⟩ ∧
        stH h2 bv_4 ov_4 [.slice tA_1 tN_1 tC_1] fun h3 =>
        K (.int .i64 (0 : Int)) h3) h1))
theorem F_net_Net_put_ok {xv : Option Addr} {p0 : Int} {p1 : Int} {p2 : ByteArray}  {K : Value → PH → Prop} {h : PH} (hh : F_net_Net_put xv p0 p1 p2 K h) : CallH Try.prog id_net_Net_put [.pointer xv, .agg #[.int .i64 p0, .int .i64 p1, .string p2]] K h :=
  denF_sound Try.func25 (H := ⟨[3, 30], [], []⟩) (xs := [.v (.pointer xv), .agg [.one (.int .i64 p0), .one (.int .i64 p1), .one (.string p2)]]) (by kernel_rfl) (by simp [okE0s, okE0, chOk, one1]) (cast (by kernel_rfl : F_net_Net_put xv p0 p1 p2 K h = denF Try.prog Try.f25 ⟨[3, 30], [], []⟩ [.v (.pointer xv), .agg [.one (.int .i64 p0), .one (.int .i64 p1), .one (.string p2)]] K h) hh)

/- (*twinlock/net.Net).find -/
def F_net_Net_find (xv : Option Addr) (i : Int) (K : Value → PH → Prop) (h : PH) : Prop :=
  CallH Try.prog id_net_Net_none [.pointer xv] (fun v h1 =>
    ∃ t : Bool, v = .bool t ∧
    ((t = true →
        K (.tuple #[.agg #[.int .i64 (0 : Int), .int .i64 (0 : Int), .string (⟨#[]⟩ : ByteArray)], .int .i64 (2 : Int)]) h1) ∧
      (t = false →
        ∃ bv ov : Nat, ((decide (i < (0 : Int))) = false → xv = some ⟨bv, ov, none⟩) ∧
        ∃ (tA : Option Addr) (tN tC : Nat), (((decide (i < (0 : Int))) = false → h1.rds bv ov 1 = some [.slice tA tN tC])) ∧
        ((((decide (i < (0 : Int))) || (decide (i ≥ ((tN : Nat) : Int)))) = true →
            K (.tuple #[.agg #[.int .i64 (0 : Int), .int .i64 (0 : Int), .string (⟨#[]⟩ : ByteArray)], .int .i64 (4 : Int)]) h1) ∧
          (((decide (i < (0 : Int))) || (decide (i ≥ ((tN : Nat) : Int)))) = false →
            ∃ bv_1 ov_1 : Nat, xv = some ⟨bv_1, ov_1, none⟩ ∧
            ∃ (tA_1 : Option Addr) (tN_1 tC_1 : Nat), (h1.rds bv_1 ov_1 1 = some [.slice tA_1 tN_1 tC_1]) ∧
            ∃ bv_2 ov_2 : Nat, (tA_1 = some ⟨bv_2, ov_2, none⟩ ∧ 0 ≤ i ∧ i < (tN_1 : Nat)) ∧
            ∃ t0 : Int, ∃ t1 : Int, ∃ t2 : ByteArray, (h1.rds bv_2 (ov_2 + i.toNat * 3) 3 = some [.int .i64 t0, .int .i64 t1, .string t2]) ∧
            K (.tuple #[.agg #[.int .i64 t0, .int .i64 t1, .string t2], .int .i64 (0 : Int)]) h1))))) h
theorem F_net_Net_find_ok {xv : Option Addr} {i : Int}  {K : Value → PH → Prop} {h : PH} (hh : F_net_Net_find xv i K h) : CallH Try.prog id_net_Net_find [.pointer xv, .int .i64 i] K h :=
  denF_sound Try.func26 (H := ⟨[4], [], []⟩) (xs := [.v (.pointer xv), .v (.int .i64 i)]) (by kernel_rfl) (by simp [okE0s, okE0, chOk, one1]) (cast (by kernel_rfl : F_net_Net_find xv i K h = denF Try.prog Try.f26 ⟨[4], [], []⟩ [.v (.pointer xv), .v (.int .i64 i)] K h) hh)

/- slices.Delete[[]twinlock/api.Packet,twinlock/api.Packet] -/
def F_slices_Delete_api_Packet_api_Packet (sA : Option Addr) (sN sC : Nat) (i : Int) (j : Int) (K : Value → PH → Prop) (h : PH) : Prop :=
  (0 ≤ i ∧ i ≤ j ∧ j ≤ ((sN : Nat) : Int) ∧ ((sN : Nat) : Int) ≤ (sC : Nat)) ∧
  (((i == j) = true →
      K (.slice sA sN sC) h) ∧
    ((i == j) = false →
      (0 ≤ (0 : Int) ∧ (0 : Int) ≤ i ∧ i ≤ ((sC : Nat) : Int) ∧ ((sC : Nat) : Int) ≤ (sC : Nat)) ∧
      (0 ≤ j ∧ j ≤ ((sN : Nat) : Int) ∧ ((sN : Nat) : Int) ≤ ((sC : Nat) : Int) ∧ ((sC : Nat) : Int) ≤ (sC : Nat)) ∧
      ∃ vs : List Value, srcH h (slA sA 3 j ((sC : Nat) : Int)) ((((sN : Nat) : Int).toNat - j.toNat) * 3) vs ∧
      appH T_api_Packet 3 32 [.int .i64 (0 : Int), .int .i64 (0 : Int), .string (⟨#[]⟩ : ByteArray)] (slA sA 3 (0 : Int) ((sC : Nat) : Int)) (i.toNat - (0 : Int).toNat) (((sC : Nat) : Int).toNat - (0 : Int).toNat) (((sN : Nat) : Int).toNat - j.toNat) vs (fun sA_1 sN_1 sC_1 h1 =>
        (0 ≤ ((sN_1 : Nat) : Int) ∧ ((sN_1 : Nat) : Int) ≤ ((sN : Nat) : Int) ∧ ((sN : Nat) : Int) ≤ ((sC_1 : Nat) : Int) ∧ ((sC_1 : Nat) : Int) ≤ (sC_1 : Nat)) ∧
        (((((sN : Nat) : Int).toNat - ((sN_1 : Nat) : Int).toNat) * 3 = 0 →
            K (.slice sA_1 sN_1 sC_1) h1) ∧
          ((((sN : Nat) : Int).toNat - ((sN_1 : Nat) : Int).toNat) * 3 ≠ 0 → ∃ bv ov : Nat, (slA sA_1 3 ((sN_1 : Nat) : Int) ((sC_1 : Nat) : Int)) = some ⟨bv, ov, none⟩ ∧ stH h1 bv ov (List.replicate (((sN : Nat) : Int).toNat - ((sN_1 : Nat) : Int).toNat) [.int .i64 (0 : Int), .int .i64 (0 : Int), .string (⟨#[]⟩ : ByteArray)]).flatten fun h2 =>
            K (.slice sA_1 sN_1 sC_1) h2))) h))
theorem F_slices_Delete_api_Packet_api_Packet_ok {sA : Option Addr} {sN sC : Nat} {i : Int} {j : Int}  {K : Value → PH → Prop} {h : PH} (hh : F_slices_Delete_api_Packet_api_Packet sA sN sC i j K h) : CallH Try.prog id_slices_Delete_api_Packet_api_Packet [.slice sA sN sC, .int .i64 i, .int .i64 j] K h :=
  denF_sound Try.func27 (H := ⟨[], [], []⟩) (xs := [.v (.slice sA sN sC), .v (.int .i64 i), .v (.int .i64 j)]) (by kernel_rfl) (by simp [okE0s, okE0, chOk, one1]) (cast (by kernel_rfl : F_slices_Delete_api_Packet_api_Packet sA sN sC i j K h = denF Try.prog Try.f27 ⟨[], [], []⟩ [.v (.slice sA sN sC), .v (.int .i64 i), .v (.int .i64 j)] K h) hh)

/- slices.Clone[[]twinlock/api.Packet,twinlock/api.Packet] -/
def F_slices_Clone_api_Packet_api_Packet (sA : Option Addr) (sN sC : Nat) (K : Value → PH → Prop) (h : PH) : Prop :=
  (((Option.isNone sA) = true →
      K (.slice none 0 0) h) ∧
    ((Option.isNone sA) = false →
      newH h (.cells #[] T_api_Packet (0, 0)) fun bv h1 =>
      ∃ vs : List Value, srcH h1 sA (sN * 3) vs ∧
      appH T_api_Packet 3 32 [.int .i64 (0 : Int), .int .i64 (0 : Int), .string (⟨#[]⟩ : ByteArray)] (some ⟨bv, 0, none⟩) 0 0 sN vs (fun tA tN tC h2 =>
        K (.slice tA tN tC) h2) h1))
theorem F_slices_Clone_api_Packet_api_Packet_ok {sA : Option Addr} {sN sC : Nat}  {K : Value → PH → Prop} {h : PH} (hh : F_slices_Clone_api_Packet_api_Packet sA sN sC K h) : CallH Try.prog id_slices_Clone_api_Packet_api_Packet [.slice sA sN sC] K h :=
  denF_sound Try.func28 (H := ⟨[], [], []⟩) (xs := [.v (.slice sA sN sC)]) (by kernel_rfl) (by simp [okE0s, okE0, chOk, one1]) (cast (by kernel_rfl : F_slices_Clone_api_Packet_api_Packet sA sN sC K h = denF Try.prog Try.f28 ⟨[], [], []⟩ [.v (.slice sA sN sC)] K h) hh)

/- (*twinlock/twinlockref08.Net).Post -/
def F_ref08_Net_Post (xv : Option Addr) (p0 : Int) (p1 : Int) (p2 : ByteArray) (K : Value → PH → Prop) (h : PH) : Prop :=
  ((((p0 == (0 : Int)) && (p1 == (1 : Int))) = false →
      (((!((p0 == (1 : Int)) && (p1 == (0 : Int)))) = true →
          K (.int .i64 (1 : Int)) h) ∧
        ((!((p0 == (1 : Int)) && (p1 == (0 : Int)))) = false →
          CallH Try.prog id_ref08_Net_put [.pointer xv, .agg #[.int .i64 p0, .int .i64 p1, .string p2]] (fun v h1 =>
            ∃ t : Int, v = .int .i64 t ∧
            K (.int .i64 t) h1) h))) ∧
    (((p0 == (0 : Int)) && (p1 == (1 : Int))) = true →
      CallH Try.prog id_ref08_Net_put [.pointer xv, .agg #[.int .i64 p0, .int .i64 p1, .string p2]] (fun v_1 h2 =>
        ∃ t_1 : Int, v_1 = .int .i64 t_1 ∧
        K (.int .i64 t_1) h2) h))
theorem F_ref08_Net_Post_ok {xv : Option Addr} {p0 : Int} {p1 : Int} {p2 : ByteArray}  {K : Value → PH → Prop} {h : PH} (hh : F_ref08_Net_Post xv p0 p1 p2 K h) : CallH Try.prog id_ref08_Net_Post [.pointer xv, .agg #[.int .i64 p0, .int .i64 p1, .string p2]] K h :=
  denF_sound Try.func29 (H := ⟨[3], [], []⟩) (xs := [.v (.pointer xv), .agg [.one (.int .i64 p0), .one (.int .i64 p1), .one (.string p2)]]) (by kernel_rfl) (by simp [okE0s, okE0, chOk, one1]) (cast (by kernel_rfl : F_ref08_Net_Post xv p0 p1 p2 K h = denF Try.prog Try.f29 ⟨[3], [], []⟩ [.v (.pointer xv), .agg [.one (.int .i64 p0), .one (.int .i64 p1), .one (.string p2)]] K h) hh)

/- (*twinlock/twinlockref08.Net).Take -/
def F_ref08_Net_Take (xv : Option Addr) (i : Int) (K : Value → PH → Prop) (h : PH) : Prop :=
  ∃ bv ov : Nat, ((decide (i ≥ (0 : Int))) = true → xv = some ⟨bv, ov, none⟩) ∧
  ∃ (tA : Option Addr) (tN tC : Nat), (((decide (i ≥ (0 : Int))) = true → h.rds bv ov 1 = some [.slice tA tN tC])) ∧
  ∃ bv_1 ov_1 : Nat, (((decide (i ≥ (0 : Int))) && (decide (i < ((tN : Nat) : Int)))) = true → xv = some ⟨bv_1, ov_1, none⟩) ∧
  ∃ t : Bool, ((((decide (i ≥ (0 : Int))) && (decide (i < ((tN : Nat) : Int)))) = true → h.rds bv_1 (ov_1 + 1) 1 = some [.bool t])) ∧
  (((((decide (i ≥ (0 : Int))) && (decide (i < ((tN : Nat) : Int)))) && t) = true →
      K (.tuple #[.agg #[.int .i64 (0 : Int), .int .i64 (0 : Int), .string (⟨#[]⟩ : ByteArray)], .int .i64 (14 : Int)]) h) ∧
    ((((decide (i ≥ (0 : Int))) && (decide (i < ((tN : Nat) : Int)))) && t) = false →
      CallH Try.prog id_ref08_Net_Lose [.pointer xv, .int .i64 i] (fun v h1 =>
        ∃ t00 : Int, ∃ t01 : Int, ∃ t02 : ByteArray, ∃ t1 : Int, v = .tuple #[.agg #[.int .i64 t00, .int .i64 t01, .string t02], .int .i64 t1] ∧
        K (.tuple #[.agg #[.int .i64 t00, .int .i64 t01, .string t02], .int .i64 t1]) h1) h))
theorem F_ref08_Net_Take_ok {xv : Option Addr} {i : Int}  {K : Value → PH → Prop} {h : PH} (hh : F_ref08_Net_Take xv i K h) : CallH Try.prog id_ref08_Net_Take [.pointer xv, .int .i64 i] K h :=
  denF_sound Try.func30 (H := ⟨[4], [], []⟩) (xs := [.v (.pointer xv), .v (.int .i64 i)]) (by kernel_rfl) (by simp [okE0s, okE0, chOk, one1]) (cast (by kernel_rfl : F_ref08_Net_Take xv i K h = denF Try.prog Try.f30 ⟨[4], [], []⟩ [.v (.pointer xv), .v (.int .i64 i)] K h) hh)

/- (*twinlock/twinlockref08.Net).Lose -/
def F_ref08_Net_Lose (xv : Option Addr) (i : Int) (K : Value → PH → Prop) (h : PH) : Prop :=
  ∃ bv ov : Nat, ((decide (i < (0 : Int))) = false → xv = some ⟨bv, ov, none⟩) ∧
  ∃ (tA : Option Addr) (tN tC : Nat), (((decide (i < (0 : Int))) = false → h.rds bv ov 1 = some [.slice tA tN tC])) ∧
  ((((decide (i < (0 : Int))) || (decide (i ≥ ((tN : Nat) : Int)))) = true →
      K (.tuple #[.agg #[.int .i64 (0 : Int), .int .i64 (0 : Int), .string (⟨#[]⟩ : ByteArray)], .int .i64 (4 : Int)]) h) ∧
    (((decide (i < (0 : Int))) || (decide (i ≥ ((tN : Nat) : Int)))) = false →
      ∃ bv_1 ov_1 : Nat, xv = some ⟨bv_1, ov_1, none⟩ ∧
      ∃ (tA_1 : Option Addr) (tN_1 tC_1 : Nat), (h.rds bv_1 ov_1 1 = some [.slice tA_1 tN_1 tC_1]) ∧
      ∃ bv_2 ov_2 : Nat, (tA_1 = some ⟨bv_2, ov_2, none⟩ ∧ 0 ≤ i ∧ i < (tN_1 : Nat)) ∧
      ∃ p0 : Int, ∃ p1 : Int, ∃ p2 : ByteArray, (h.rds bv_2 (ov_2 + i.toNat * 3) 3 = some [.int .i64 p0, .int .i64 p1, .string p2]) ∧
      ∃ bv_3 ov_3 : Nat, xv = some ⟨bv_3, ov_3, none⟩ ∧
      ∃ (tA_2 : Option Addr) (tN_2 tC_2 : Nat), (h.rds bv_3 ov_3 1 = some [.slice tA_2 tN_2 tC_2]) ∧
      (0 ≤ (0 : Int) ∧ (0 : Int) ≤ i ∧ i ≤ ((tC_2 : Nat) : Int) ∧ ((tC_2 : Nat) : Int) ≤ (tC_2 : Nat)) ∧
      ∃ vs : List Value, srcH h (slA tA_2 3 (0 : Int) ((tC_2 : Nat) : Int)) ((i.toNat - (0 : Int).toNat) * 3) vs ∧
      appH T_api_Packet 3 32 [.int .i64 (0 : Int), .int .i64 (0 : Int), .string (⟨#[]⟩ : ByteArray)] none 0 0 (i.toNat - (0 : Int).toNat) vs (fun lA lN lC h1 =>
        ∃ bv_4 ov_4 : Nat, xv = some ⟨bv_4, ov_4, none⟩ ∧
        ∃ (tA_3 : Option Addr) (tN_3 tC_3 : Nat), (h1.rds bv_4 ov_4 1 = some [.slice tA_3 tN_3 tC_3]) ∧
        (0 ≤ (IntKind.wrap .i64 (i + (1 : Int))) ∧ (IntKind.wrap .i64 (i + (1 : Int))) ≤ ((tN_3 : Nat) : Int) ∧ ((tN_3 : Nat) : Int) ≤ ((tC_3 : Nat) : Int) ∧ ((tC_3 : Nat) : Int) ≤ (tC_3 : Nat)) ∧
        ∃ vs_1 : List Value, srcH h1 (slA tA_3 3 (IntKind.wrap .i64 (i + (1 : Int))) ((tC_3 : Nat) : Int)) ((((tN_3 : Nat) : Int).toNat - (IntKind.wrap .i64 (i + (1 : Int))).toNat) * 3) vs_1 ∧
        appH T_api_Packet 3 32 [.int .i64 (0 : Int), .int .i64 (0 : Int), .string (⟨#[]⟩ : ByteArray)] lA lN lC (((tN_3 : Nat) : Int).toNat - (IntKind.wrap .i64 (i + (1 : Int))).toNat) vs_1 (fun tA_4 tN_4 tC_4 h2 =>
          ∃ bv_5 ov_5 : Nat, xv = some ⟨bv_5, ov_5, none⟩ ∧
          stH h2 bv_5 ov_5 [.slice tA_4 tN_4 tC_4] fun h3 =>
          K (.tuple #[.agg #[.int .i64 p0, .int .i64 p1, .string p2], .int .i64 (0 : Int)]) h3) h1) h))
theorem F_ref08_Net_Lose_ok {xv : Option Addr} {i : Int}  {K : Value → PH → Prop} {h : PH} (hh : F_ref08_Net_Lose xv i K h) : CallH Try.prog id_ref08_Net_Lose [.pointer xv, .int .i64 i] K h :=
  denF_sound Try.func31 (H := ⟨[4, 6], [], []⟩) (xs := [.v (.pointer xv), .v (.int .i64 i)]) (by kernel_rfl) (by simp [okE0s, okE0, chOk, one1]) (cast (by kernel_rfl : F_ref08_Net_Lose xv i K h = denF Try.prog Try.f31 ⟨[4, 6], [], []⟩ [.v (.pointer xv), .v (.int .i64 i)] K h) hh)

/- (*twinlock/twinlockref08.Net).Dup -/
def F_ref08_Net_Dup (xv : Option Addr) (i : Int) (K : Value → PH → Prop) (h : PH) : Prop :=
  ∃ bv ov : Nat, ((decide (i < (0 : Int))) = false → xv = some ⟨bv, ov, none⟩) ∧
  ∃ (tA : Option Addr) (tN tC : Nat), (((decide (i < (0 : Int))) = false → h.rds bv ov 1 = some [.slice tA tN tC])) ∧
  ((((decide (i < (0 : Int))) || (decide (i ≥ ((tN : Nat) : Int)))) = true →
      K (.int .i64 (4 : Int)) h) ∧
    (((decide (i < (0 : Int))) || (decide (i ≥ ((tN : Nat) : Int)))) = false →
      ∃ bv_1 ov_1 : Nat, xv = some ⟨bv_1, ov_1, none⟩ ∧
      ∃ (tA_1 : Option Addr) (tN_1 tC_1 : Nat), (h.rds bv_1 ov_1 1 = some [.slice tA_1 tN_1 tC_1]) ∧
      ∃ bv_2 ov_2 : Nat, (tA_1 = some ⟨bv_2, ov_2, none⟩ ∧ 0 ≤ i ∧ i < (tN_1 : Nat)) ∧
      ∃ t0 : Int, ∃ t1 : Int, ∃ t2 : ByteArray, (h.rds bv_2 (ov_2 + i.toNat * 3) 3 = some [.int .i64 t0, .int .i64 t1, .string t2]) ∧
      CallH Try.prog id_ref08_Net_put [.pointer xv, .agg #[.int .i64 t0, .int .i64 t1, .string t2]] (fun v h1 =>
        ∃ t : Int, v = .int .i64 t ∧
        K (.int .i64 t) h1) h))
theorem F_ref08_Net_Dup_ok {xv : Option Addr} {i : Int}  {K : Value → PH → Prop} {h : PH} (hh : F_ref08_Net_Dup xv i K h) : CallH Try.prog id_ref08_Net_Dup [.pointer xv, .int .i64 i] K h :=
  denF_sound Try.func32 (H := ⟨[], [], []⟩) (xs := [.v (.pointer xv), .v (.int .i64 i)]) (by kernel_rfl) (by simp [okE0s, okE0, chOk, one1]) (cast (by kernel_rfl : F_ref08_Net_Dup xv i K h = denF Try.prog Try.f32 ⟨[], [], []⟩ [.v (.pointer xv), .v (.int .i64 i)] K h) hh)

/- (*twinlock/twinlockref08.Net).put -/
def F_ref08_Net_put (xv : Option Addr) (p0 : Int) (p1 : Int) (p2 : ByteArray) (K : Value → PH → Prop) (h : PH) : Prop :=
  LoopP (T := Int × Int × Unit) (fun Jv st h1 =>
    ∃ bv ov : Nat, xv = some ⟨bv, ov, none⟩ ∧
    ∃ (tA : Option Addr) (tN tC : Nat), (h1.rds bv ov 1 = some [.slice tA tN tC]) ∧
    (((decide (st.2.1 < ((tN : Nat) : Int))) = true →
        ∃ bv_1 ov_1 : Nat, xv = some ⟨bv_1, ov_1, none⟩ ∧
        ∃ (tA_1 : Option Addr) (tN_1 tC_1 : Nat), (h1.rds bv_1 ov_1 1 = some [.slice tA_1 tN_1 tC_1]) ∧
        ∃ bv_2 ov_2 : Nat, (tA_1 = some ⟨bv_2, ov_2, none⟩ ∧ 0 ≤ st.2.1 ∧ st.2.1 < (tN_1 : Nat)) ∧
        ∃ t : Int, (h1.rds bv_2 (ov_2 + st.2.1.toNat * 3) 1 = some [.int .i64 t]) ∧
        (((t == p0) = true →
            Jv ((IntKind.wrap .i64 (st.1 + (1 : Int))), (IntKind.wrap .i64 (st.2.1 + (1 : Int))), ()) h1) ∧
          ((t == p0) = false →
            Jv (st.1, (IntKind.wrap .i64 (st.2.1 + (1 : Int))), ()) h1))) ∧
      ((decide (st.2.1 < ((tN : Nat) : Int))) = false →
        (((decide (st.1 ≥ (64 : Int))) = true →
            K (.int .i64 (6 : Int)) h1) ∧
          ((decide (st.1 ≥ (64 : Int))) = false →
            ∃ bv_3 ov_3 : Nat, xv = some ⟨bv_3, ov_3, none⟩ ∧
            ∃ (tA_2 : Option Addr) (tN_2 tC_2 : Nat), (h1.rds bv_3 ov_3 1 = some [.slice tA_2 tN_2 tC_2]) ∧
            appH T_api_Packet 3 32 [.int .i64 (0 : Int), .int .i64 (0 : Int), .string (⟨#[]⟩ : ByteArray)] tA_2 tN_2 tC_2 1 [.int .i64 p0, .int .i64 p1, .string p2] (fun tA_3 tN_3 tC_3 h2 =>
              ∃ bv_4 ov_4 : Nat, xv = some ⟨bv_4, ov_4, none⟩ ∧
              stH h2 bv_4 ov_4 [.slice tA_3 tN_3 tC_3] fun h3 =>
              K (.int .i64 (0 : Int)) h3) h1))))) ((0 : Int), (0 : Int), ()) h
theorem F_ref08_Net_put_ok {xv : Option Addr} {p0 : Int} {p1 : Int} {p2 : ByteArray}  {K : Value → PH → Prop} {h : PH} (hh : F_ref08_Net_put xv p0 p1 p2 K h) : CallH Try.prog id_ref08_Net_put [.pointer xv, .agg #[.int .i64 p0, .int .i64 p1, .string p2]] K h :=
  denF_sound Try.func33 (H := ⟨[3, 37], [], [(0, ⟨[(5, .int .i64), (6, .int .i64)], []⟩)]⟩) (xs := [.v (.pointer xv), .agg [.one (.int .i64 p0), .one (.int .i64 p1), .one (.string p2)]]) (by kernel_rfl) (by simp [okE0s, okE0, chOk, one1]) (cast (by kernel_rfl : F_ref08_Net_put xv p0 p1 p2 K h = denF Try.prog Try.f33 ⟨[3, 37], [], [(0, ⟨[(5, .int .i64), (6, .int .i64)], []⟩)]⟩ [.v (.pointer xv), .agg [.one (.int .i64 p0), .one (.int .i64 p1), .one (.string p2)]] K h) hh)

end TL
