/-
  The functions of the program as predicates on heap fragments, each tied to its code (a part). No condition.
-/
import Derived.Test.YtmcgndbfoebcnaaGreatPartB
import Derived.Test.YtmcgndbfoebcnaaGreatPartF
import Derived.Test.YtmcgndbfoebcnaaGreatPartD
namespace TL
open Go Go.Proofs
/- twinlock/twinlocklaw20.ShipCopies -/
set_option maxRecDepth 100000 in
def F_law20_ShipCopies (r0 : Int) (r1 : Int) (r2A : Option Addr) (r2N r2C : Nat) (r3A : Option Addr) (r3N r3C : Nat) (r4A : Option Addr) (r4N r4C : Nat) (later0 : Int) (later1 : Int) (later2A : Option Addr) (later2N later2C : Nat) (later3A : Option Addr) (later3N later3C : Nat) (later4A : Option Addr) (later4N later4C : Nat) (baseA : Option Addr) (baseN baseC : Nat) (K : Value → PH → Prop) (h : PH) : Prop :=
  JoinP (T := Unit) (fun Jv =>
    CallH Tryz.prog id_law20_Great [.agg #[.int .i64 r0, .int .i64 r1, .slice r2A r2N r2C, .slice r3A r3N r3C, .slice r4A r4N r4C]] (fun v h2 =>
      ∃ t : Bool, v = .bool t ∧
      ((t = false →
          CallH Tryz.prog id_law20_Great [.agg #[.int .i64 later0, .int .i64 later1, .slice later2A later2N later2C, .slice later3A later3N later3C, .slice later4A later4N later4C]] (fun v_1 h3 =>
            ∃ t_1 : Bool, v_1 = .bool t_1 ∧
            (((t_1 || (decide (((baseN : Nat) : Int) > (200 : Int)))) = true →
                CallH Tryz.prog id_law20_wakes [] (fun v_2 h4 =>
                  ∃ t_2 : Bool, v_2 = .bool t_2 ∧
                  K (.bool t_2) h4) h3) ∧
              ((t_1 || (decide (((baseN : Nat) : Int) > (200 : Int)))) = false →
                Jv (()) h3))) h2) ∧
        (t = true →
          CallH Tryz.prog id_law20_wakes [] (fun v_3 h5 =>
            ∃ t_3 : Bool, v_3 = .bool t_3 ∧
            K (.bool t_3) h5) h2))) h)
  (fun _ h1 =>
    CallH Tryz.prog id_law20_Made [.agg #[.int .i64 r0, .int .i64 r1, .slice r2A r2N r2C, .slice r3A r3N r3C, .slice r4A r4N r4C], .int .i64 (3 : Int)] (fun v_4 h6 =>
      ∃ v0 : Int, ∃ v1 : Int, ∃ v2 : Int, ∃ (v3A : Option Addr) (v3N v3C : Nat), ∃ v4 : Int, ∃ (v5A : Option Addr) (v5N v5C : Nat), v_4 = .agg #[.int .i64 v0, .int .i64 v1, .int .i64 v2, .slice v3A v3N v3C, .int .i64 v4, .slice v5A v5N v5C] ∧
      CallH Tryz.prog id_tree_Of [.slice v5A v5N v5C] (fun v_5 h7 =>
        ∃ t0 : Option Addr, ∃ t1 : Int, v_5 = .tuple #[.pointer t0, .int .i64 t1] ∧
        CallH Tryz.prog id_ship_New [] (fun v_6 h8 =>
          ∃ sv : Option Addr, v_6 = .pointer sv ∧
          CallH Tryz.prog id_ship_Ship_Ack [.pointer sv, .agg ((.int .u8 (3 : Int) :: (.int .i64 (0 : Int) :: (.int .i64 (0 : Int) :: (.int .i64 (9 : Int) :: (.int .i64 (0 : Int) :: (.int .i64 (0 : Int) :: (.slice none 0 0 :: (.int .i64 (0 : Int) :: ((List.replicate 32 0).map (Value.int .u8) ++ (.int .i64 (0 : Int) :: (.int .i64 (0 : Int) :: ((List.replicate 32 0).map (Value.int .u8) ++ ((List.replicate 32 0).map (Value.int .u8) ++ ([.slice none 0 0] : List Value))))))))))))))).toArray] (fun v_7 h9 =>
            ∃ t_4 : Bool, v_7 = .bool t_4 ∧
            CallH Tryz.prog id_ship_Ship_Tick [.pointer sv, .agg #[.int .i64 v0, .int .i64 v1, .int .i64 v2, .slice v3A v3N v3C, .int .i64 v4, .slice v5A v5N v5C]] (fun v_8 h10 =>
              ∃ (lA : Option Addr) (lN lC : Nat), v_8 = .slice lA lN lC ∧
              (((t1 != (0 : Int)) = true →
                  (((((lN : Nat) : Int) == (1 : Int)) = true →
                      CallH Tryz.prog id_law20_wakes [] (fun v_9 h11 =>
                        ∃ t_5 : Bool, v_9 = .bool t_5 ∧
                        K (.bool t_5) h11) h10) ∧
                    ((((lN : Nat) : Int) == (1 : Int)) = false →
                      K (.bool false) h10))) ∧
                ((t1 != (0 : Int)) = false →
                  JoinP (T := Unit) (fun Jv_1 =>
                    ∃ bv ov : Nat, (((((lN : Nat) : Int) != (2 : Int)) = false → lA = some ⟨bv, ov, none⟩ ∧ 0 ≤ (1 : Int) ∧ (1 : Int) < (lN : Nat))) ∧
                    ∃ t_6 : Int, (((((lN : Nat) : Int) != (2 : Int)) = false → h10.rds bv (ov + (1 : Int).toNat * 107) 1 = some [.int .u8 t_6])) ∧
                    ∃ bv_1 ov_1 : Nat, ((((((lN : Nat) : Int) != (2 : Int)) || (t_6 != (4 : Int))) = false → lA = some ⟨bv_1, ov_1, none⟩ ∧ 0 ≤ (1 : Int) ∧ (1 : Int) < (lN : Nat))) ∧
                    ∃ t_7 : List Int, t_7.length = 32 ∧ ((((((lN : Nat) : Int) != (2 : Int)) || (t_6 != (4 : Int))) = false → h10.rds bv_1 ((ov_1 + (1 : Int).toNat * 107) + 8) 32 = some (t_7.map (Value.int .u8) ++ []))) ∧
                    ((((((lN : Nat) : Int) != (2 : Int)) || (t_6 != (4 : Int))) = false →
                        CallH Tryz.prog id_tree_Tree_Root [.pointer t0] (fun v_10 h13 =>
                          ∃ t_8 : List Int, t_8.length = 32 ∧ v_10 = .agg ((t_8.map (Value.int .u8) ++ [])).toArray ∧
                          ((((((lN : Nat) : Int) != (2 : Int)) || (t_6 != (4 : Int))) = false → h13.rds bv_1 ((ov_1 + (1 : Int).toNat * 107) + 8) 32 = some (t_7.map (Value.int .u8) ++ []))) ∧
                          ∃ bv_2 ov_2 : Nat, (((!(t_7 == t_8)) = false → lA = some ⟨bv_2, ov_2, none⟩ ∧ 0 ≤ (1 : Int) ∧ (1 : Int) < (lN : Nat))) ∧
                          ∃ t_9 : Int, (((!(t_7 == t_8)) = false → h13.rds bv_2 ((ov_2 + (1 : Int).toNat * 107) + 2) 1 = some [.int .i64 t_9])) ∧
                          ∃ bv_3 ov_3 : Nat, ((((!(t_7 == t_8)) || (t_9 != v1)) = false → lA = some ⟨bv_3, ov_3, none⟩ ∧ 0 ≤ (1 : Int) ∧ (1 : Int) < (lN : Nat))) ∧
                          ∃ t_10 : Int, ((((!(t_7 == t_8)) || (t_9 != v1)) = false → h13.rds bv_3 ((ov_3 + (1 : Int).toNat * 107) + 3) 1 = some [.int .i64 t_10])) ∧
                          (((((!(t_7 == t_8)) || (t_9 != v1)) || (t_10 != v2)) = true →
                              K (.bool false) h13) ∧
                            ((((!(t_7 == t_8)) || (t_9 != v1)) || (t_10 != v2)) = false →
                              Jv_1 (()) h13))) h10) ∧
                      (((((lN : Nat) : Int) != (2 : Int)) || (t_6 != (4 : Int))) = true →
                        ((((((lN : Nat) : Int) != (2 : Int)) || (t_6 != (4 : Int))) = false → h10.rds bv_1 ((ov_1 + (1 : Int).toNat * 107) + 8) 32 = some (t_7.map (Value.int .u8) ++ []))) ∧
                        K (.bool false) h10)))
                  (fun _ h12 =>
                    ∃ bv_4 ov_4 : Nat, (lA = some ⟨bv_4, ov_4, none⟩ ∧ 0 ≤ (1 : Int) ∧ (1 : Int) < (lN : Nat)) ∧
                    ∃ t_11 : List Int, t_11.length = 32 ∧ (h12.rds bv_4 ((ov_4 + (1 : Int).toNat * 107) + 8) 32 = some (t_11.map (Value.int .u8) ++ [])) ∧
                    CallH Tryz.prog id_walk_New [.slice baseA baseN baseC, .agg ((t_11.map (Value.int .u8) ++ [])).toArray] (fun v_11 h14 =>
                      ∃ t0_1 : Option Addr, ∃ t1_1 : Int, v_11 = .tuple #[.pointer t0_1, .int .i64 t1_1] ∧
                      (((t1_1 != (0 : Int)) = true →
                          CallH Tryz.prog id_law20_wakes [] (fun v_12 h15 =>
                            ∃ t_12 : Bool, v_12 = .bool t_12 ∧
                            K (.bool t_12) h15) h14) ∧
                        ((t1_1 != (0 : Int)) = false →
                          CallH Tryz.prog id_law20_Made [.agg #[.int .i64 later0, .int .i64 later1, .slice later2A later2N later2C, .slice later3A later3N later3C, .slice later4A later4N later4C], .int .i64 (4 : Int)] (fun v_13 h16 =>
                            ∃ x0 : Int, ∃ x1 : Int, ∃ x2 : Int, ∃ (x3A : Option Addr) (x3N x3C : Nat), ∃ x4 : Int, ∃ (x5A : Option Addr) (x5N x5C : Nat), v_13 = .agg #[.int .i64 x0, .int .i64 x1, .int .i64 x2, .slice x3A x3N x3C, .int .i64 x4, .slice x5A x5N x5C] ∧
                            JoinP (T := Unit) (fun Jv_2 =>
                              ((((decide (x1 ≤ (IntKind.wrap .i64 (v1 + (64 : Int))))) && (decide (v1 ≥ (1 : Int)))) = true →
                                  CallH Tryz.prog id_ship_Ship_Tick [.pointer sv, .agg #[.int .i64 x0, .int .i64 x1, .int .i64 x2, .slice x3A x3N x3C, .int .i64 x4, .slice x5A x5N x5C]] (fun v_14 h18 =>
                                    ∃ (tA : Option Addr) (tN tC : Nat), v_14 = .slice tA tN tC ∧
                                    Jv_2 (()) h18) h16) ∧
                                (((decide (x1 ≤ (IntKind.wrap .i64 (v1 + (64 : Int))))) && (decide (v1 ≥ (1 : Int)))) = false →
                                  Jv_2 (()) h16)))
                            (fun _ h17 =>
                              JoinP (T := Unit) (fun Jv_3 =>
                                LoopP (T := Int × Unit) (fun Jv_4 st_4 h20 =>
                                  (((decide (st_4.1 < (40 : Int))) = true →
                                      JoinP (T := Unit) (fun Jv_5 =>
                                        CallH Tryz.prog id_walk_Walk_Want [.pointer t0_1, .int .i64 (1 : Int)] (fun v_15 h22 =>
                                          ∃ (asksA : Option Addr) (asksN asksC : Nat), v_15 = .slice asksA asksN asksC ∧
                                          (((((asksN : Nat) : Int) == (0 : Int)) = true →
                                              Jv_3 (()) h22) ∧
                                            ((((asksN : Nat) : Int) == (0 : Int)) = false →
                                              ∃ bv_5 ov_5 : Nat, (asksA = some ⟨bv_5, ov_5, none⟩ ∧ 0 ≤ (0 : Int) ∧ (0 : Int) < (asksN : Nat)) ∧
                                              ∃ t_13 : Int, (h22.rds bv_5 (ov_5 + (0 : Int).toNat * 2) 1 = some [.int .i64 t_13]) ∧
                                              ∃ bv_6 ov_6 : Nat, (asksA = some ⟨bv_6, ov_6, none⟩ ∧ 0 ≤ (0 : Int) ∧ (0 : Int) < (asksN : Nat)) ∧
                                              ∃ t_14 : Int, (h22.rds bv_6 ((ov_6 + (0 : Int).toNat * 2) + 1) 1 = some [.int .i64 t_14]) ∧
                                              (CallH Tryz.prog id_ship_Ship_Ask [.pointer sv, .agg ((.int .u8 (5 : Int) :: (.int .i64 (0 : Int) :: (.int .i64 v1 :: (.int .i64 (0 : Int) :: (.int .i64 (0 : Int) :: (.int .i64 (0 : Int) :: (.slice none 0 0 :: (.int .i64 (0 : Int) :: ((List.replicate 32 0).map (Value.int .u8) ++ (.int .i64 t_13 :: (.int .i64 t_14 :: ((List.replicate 32 0).map (Value.int .u8) ++ ((List.replicate 32 0).map (Value.int .u8) ++ ([.slice none 0 0] : List Value))))))))))))))).toArray, .int .i64 (4 : Int)] (fun v_16 h23 =>
                                                  ∃ t00 : Int, ∃ t01 : Int, ∃ t02 : Int, ∃ t03 : Int, ∃ t04 : Int, ∃ t05 : Int, ∃ (t06A : Option Addr) (t06N t06C : Nat), ∃ t07 : Int, ∃ t08 : List Int, t08.length = 32 ∧ ∃ t09 : Int, ∃ t010 : Int, ∃ t011 : List Int, t011.length = 32 ∧ ∃ t012 : List Int, t012.length = 32 ∧ ∃ (t013A : Option Addr) (t013N t013C : Nat), ∃ t1_2 : Bool, v_16 = .tuple #[.agg ((.int .u8 t00 :: (.int .i64 t01 :: (.int .i64 t02 :: (.int .i64 t03 :: (.int .i64 t04 :: (.int .i64 t05 :: (.slice t06A t06N t06C :: (.int .i64 t07 :: (t08.map (Value.int .u8) ++ (.int .i64 t09 :: (.int .i64 t010 :: (t011.map (Value.int .u8) ++ (t012.map (Value.int .u8) ++ ([.slice t013A t013N t013C] : List Value))))))))))))))).toArray, .bool t1_2] ∧
                                                  JoinP (T := Bool × Unit) (fun Jv_6 =>
                                                    (((t00 == (6 : Int)) = true →
                                                        CallH Tryz.prog id_walk_Walk_Node [.pointer t0_1, .int .i64 t09, .int .i64 t010, .agg ((t011.map (Value.int .u8) ++ [])).toArray, .agg ((t012.map (Value.int .u8) ++ [])).toArray] (fun v_17 h25 =>
                                                          ∃ t_15 : Bool, v_17 = .bool t_15 ∧
                                                          ((t_15 = false →
                                                              (((t00 == (7 : Int)) = true →
                                                                  CallH Tryz.prog id_walk_Walk_Page [.pointer t0_1, .int .i64 t010, .slice t013A t013N t013C] (fun v_18 h26 =>
                                                                    ∃ t_16 : Bool, v_18 = .bool t_16 ∧
                                                                    Jv_6 (t_16, ()) h26) h25) ∧
                                                                ((t00 == (7 : Int)) = false →
                                                                  Jv_6 (false, ()) h25))) ∧
                                                            (t_15 = true →
                                                              Jv_6 (true, ()) h25))) h23) ∧
                                                      ((t00 == (6 : Int)) = false →
                                                        (((t00 == (7 : Int)) = true →
                                                            CallH Tryz.prog id_walk_Walk_Page [.pointer t0_1, .int .i64 t010, .slice t013A t013N t013C] (fun v_19 h27 =>
                                                              ∃ t_17 : Bool, v_19 = .bool t_17 ∧
                                                              Jv_6 (t_17, ()) h27) h23) ∧
                                                          ((t00 == (7 : Int)) = false →
                                                            Jv_6 (false, ()) h23)))))
                                                  (fun st_6 h24 =>
                                                    ((((((!t1_2) || (!st_6.1)) || (t01 != (4 : Int))) || (t02 != v1)) = true →
                                                        K (.bool false) h24) ∧
                                                      (((((!t1_2) || (!st_6.1)) || (t01 != (4 : Int))) || (t02 != v1)) = false →
                                                        Jv_5 (()) h24)))) h22) ∧
                                              (CallH Tryz.prog id_ship_Ship_Ask [.pointer sv, .agg ((.int .u8 (5 : Int) :: (.int .i64 (0 : Int) :: (.int .i64 v1 :: (.int .i64 (0 : Int) :: (.int .i64 (0 : Int) :: (.int .i64 (0 : Int) :: (.slice none 0 0 :: (.int .i64 (0 : Int) :: ((List.replicate 32 0).map (Value.int .u8) ++ (.int .i64 t_13 :: (.int .i64 t_14 :: ((List.replicate 32 0).map (Value.int .u8) ++ ((List.replicate 32 0).map (Value.int .u8) ++ ([.slice none 0 0] : List Value))))))))))))))).toArray, .int .i64 (4 : Int)] (fun v_20 h28 =>
                                                  ∃ t00_1 : Int, ∃ t01_1 : Int, ∃ t02_1 : Int, ∃ t03_1 : Int, ∃ t04_1 : Int, ∃ t05_1 : Int, ∃ (t06A_1 : Option Addr) (t06N_1 t06C_1 : Nat), ∃ t07_1 : Int, ∃ t08_1 : List Int, t08_1.length = 32 ∧ ∃ t09_1 : Int, ∃ t010_1 : Int, ∃ t011_1 : List Int, t011_1.length = 32 ∧ ∃ t012_1 : List Int, t012_1.length = 32 ∧ ∃ (t013A_1 : Option Addr) (t013N_1 t013C_1 : Nat), ∃ t1_3 : Bool, v_20 = .tuple #[.agg ((.int .u8 t00_1 :: (.int .i64 t01_1 :: (.int .i64 t02_1 :: (.int .i64 t03_1 :: (.int .i64 t04_1 :: (.int .i64 t05_1 :: (.slice t06A_1 t06N_1 t06C_1 :: (.int .i64 t07_1 :: (t08_1.map (Value.int .u8) ++ (.int .i64 t09_1 :: (.int .i64 t010_1 :: (t011_1.map (Value.int .u8) ++ (t012_1.map (Value.int .u8) ++ ([.slice t013A_1 t013N_1 t013C_1] : List Value))))))))))))))).toArray, .bool t1_3] ∧
                                                  JoinP (T := Bool × Unit) (fun Jv_7 =>
                                                    (((t00_1 == (6 : Int)) = true →
                                                        CallH Tryz.prog id_walk_Walk_Node [.pointer t0_1, .int .i64 t09_1, .int .i64 t010_1, .agg ((t011_1.map (Value.int .u8) ++ [])).toArray, .agg ((t012_1.map (Value.int .u8) ++ [])).toArray] (fun v_21 h30 =>
                                                          ∃ t_18 : Bool, v_21 = .bool t_18 ∧
                                                          ((t_18 = false →
                                                              (((t00_1 == (7 : Int)) = true →
                                                                  CallH Tryz.prog id_walk_Walk_Page [.pointer t0_1, .int .i64 t010_1, .slice t013A_1 t013N_1 t013C_1] (fun v_22 h31 =>
                                                                    ∃ t_19 : Bool, v_22 = .bool t_19 ∧
                                                                    Jv_7 (t_19, ()) h31) h30) ∧
                                                                ((t00_1 == (7 : Int)) = false →
                                                                  Jv_7 (false, ()) h30))) ∧
                                                            (t_18 = true →
                                                              Jv_7 (true, ()) h30))) h28) ∧
                                                      ((t00_1 == (6 : Int)) = false →
                                                        (((t00_1 == (7 : Int)) = true →
                                                            CallH Tryz.prog id_walk_Walk_Page [.pointer t0_1, .int .i64 t010_1, .slice t013A_1 t013N_1 t013C_1] (fun v_23 h32 =>
                                                              ∃ t_20 : Bool, v_23 = .bool t_20 ∧
                                                              Jv_7 (t_20, ()) h32) h28) ∧
                                                          ((t00_1 == (7 : Int)) = false →
                                                            Jv_7 (false, ()) h28)))))
                                                  (fun st_7 h29 =>
                                                    ((((((!t1_3) || (!st_7.1)) || (t01_1 != (4 : Int))) || (t02_1 != v1)) = true →
                                                        K (.bool false) h29) ∧
                                                      (((((!t1_3) || (!st_7.1)) || (t01_1 != (4 : Int))) || (t02_1 != v1)) = false →
                                                        Jv_5 (()) h29)))) h22)))) h20)
                                      (fun _ h21 =>
                                        Jv_4 ((IntKind.wrap .i64 (st_4.1 + (1 : Int))), ()) h21)) ∧
                                    ((decide (st_4.1 < (40 : Int))) = false →
                                      Jv_3 (()) h20))) ((0 : Int), ()) h17)
                              (fun _ h19 =>
                                CallH Tryz.prog id_walk_Walk_Done [.pointer t0_1] (fun v_24 h33 =>
                                  ∃ (t0A : Option Addr) (t0N t0C : Nat), ∃ t1_4 : Bool, v_24 = .tuple #[.slice t0A t0N t0C, .bool t1_4] ∧
                                  JoinP (T := Unit) (fun Jv_8 =>
                                    ((t1_4 = true →
                                        CallH Tryz.prog id_ref13_Same [.slice t0A t0N t0C, .slice v5A v5N v5C] (fun v_25 h35 =>
                                          ∃ t_21 : Bool, v_25 = .bool t_21 ∧
                                          ((t_21 = true →
                                              CallH Tryz.prog id_law20_wakes [] (fun v_26 h36 =>
                                                ∃ t_22 : Bool, v_26 = .bool t_22 ∧
                                                K (.bool t_22) h36) h35) ∧
                                            (t_21 = false →
                                              Jv_8 (()) h35))) h33) ∧
                                      (t1_4 = false →
                                        Jv_8 (()) h33)))
                                  (fun _ h34 =>
                                    CallH Tryz.prog id_walk_Walk_Texts [.pointer t0_1] (fun v_27 h37 =>
                                      ∃ (tA_1 : Option Addr) (tN_1 tC_1 : Nat), v_27 = .slice tA_1 tN_1 tC_1 ∧
                                      CallH Tryz.prog id_ship_Ship_Texts [.pointer sv] (fun v_28 h38 =>
                                        ∃ (tA_2 : Option Addr) (tN_2 tC_2 : Nat), v_28 = .slice tA_2 tN_2 tC_2 ∧
                                        ∃ vs : List Value, srcH h38 tA_2 (tN_2 * 1) vs ∧
                                        appH 9 1 16 [.string (⟨#[]⟩ : ByteArray)] tA_1 tN_1 tC_1 tN_2 vs (fun tA_3 tN_3 tC_3 h39 =>
                                          CallH Tryz.prog id_ref15_Texts [.slice t0A t0N t0C] (fun v_29 h40 =>
                                            ∃ (tA_4 : Option Addr) (tN_4 tC_4 : Nat), v_29 = .slice tA_4 tN_4 tC_4 ∧
                                            ∃ vs_1 : List Value, srcH h40 tA_4 (tN_4 * 1) vs_1 ∧
                                            appH 9 1 16 [.string (⟨#[]⟩ : ByteArray)] tA_3 tN_3 tC_3 tN_4 vs_1 (fun tA_5 tN_5 tC_5 h41 =>
                                              CallH Tryz.prog id_ref15_Collides [.slice tA_5 tN_5 tC_5] (fun v_30 h42 =>
                                                ∃ t_23 : Bool, v_30 = .bool t_23 ∧
                                                ((t_23 = true →
                                                    CallH Tryz.prog id_law20_wakes [] (fun v_31 h43 =>
                                                      ∃ t_24 : Bool, v_31 = .bool t_24 ∧
                                                      K (.bool t_24) h43) h42) ∧
                                                  (t_23 = false →
                                                    K (.bool false) h42))) h41) h40) h39) h38) h37) h34)) h19))) h14))) h12)))) h9) h8) h7) h6) h1)
set_option maxRecDepth 100000 in
theorem F_law20_ShipCopies_eq {r0 : Int} {r1 : Int} {r2A : Option Addr} {r2N r2C : Nat} {r3A : Option Addr} {r3N r3C : Nat} {r4A : Option Addr} {r4N r4C : Nat} {later0 : Int} {later1 : Int} {later2A : Option Addr} {later2N later2C : Nat} {later3A : Option Addr} {later3N later3C : Nat} {later4A : Option Addr} {later4N later4C : Nat} {baseA : Option Addr} {baseN baseC : Nat} {K : Value → PH → Prop} {h : PH} : @Eq Prop (F_law20_ShipCopies r0 r1 r2A r2N r2C r3A r3N r3C r4A r4N r4C later0 later1 later2A later2N later2C later3A later3N later3C later4A later4N later4C baseA baseN baseC K h) (denF Tryz.prog Tryz.f5 ⟨[3, 4, 7, 14, 17], [(23, .one 0 (.one 1 (.one 2 (.one 3 (.one 4 (.one 5 (.one 6 (.one 7 (.one 8 (.one 9 (.one 10 (.one 11 (.alt 12 (.of [13, 14, 15, 16, 17, 18]) (.of [16, 12, 13, 14, 15, 17, 18]))))))))))))))], [(0, ⟨[(15, .int .i64)], [], []⟩)], [(8, ⟨[], [], []⟩), (26, ⟨[], [], []⟩), (38, ⟨[], [], []⟩), (56, ⟨[], [], []⟩), (42, ⟨[], [], []⟩), (52, ⟨[(19, .bool)], [], []⟩), (62, ⟨[], [], []⟩)]⟩ [.agg [.one (.int .i64 r0), .one (.int .i64 r1), .one (.slice r2A r2N r2C), .one (.slice r3A r3N r3C), .one (.slice r4A r4N r4C)], .agg [.one (.int .i64 later0), .one (.int .i64 later1), .one (.slice later2A later2N later2C), .one (.slice later3A later3N later3C), .one (.slice later4A later4N later4C)], .v (.slice baseA baseN baseC)] K h) := by
  kernel_rfl
theorem F_law20_ShipCopies_ok {r0 : Int} {r1 : Int} {r2A : Option Addr} {r2N r2C : Nat} {r3A : Option Addr} {r3N r3C : Nat} {r4A : Option Addr} {r4N r4C : Nat} {later0 : Int} {later1 : Int} {later2A : Option Addr} {later2N later2C : Nat} {later3A : Option Addr} {later3N later3C : Nat} {later4A : Option Addr} {later4N later4C : Nat} {baseA : Option Addr} {baseN baseC : Nat}  {K : Value → PH → Prop} {h : PH} (hh : F_law20_ShipCopies r0 r1 r2A r2N r2C r3A r3N r3C r4A r4N r4C later0 later1 later2A later2N later2C later3A later3N later3C later4A later4N later4C baseA baseN baseC K h) : CallH Tryz.prog id_law20_ShipCopies [.agg #[.int .i64 r0, .int .i64 r1, .slice r2A r2N r2C, .slice r3A r3N r3C, .slice r4A r4N r4C], .agg #[.int .i64 later0, .int .i64 later1, .slice later2A later2N later2C, .slice later3A later3N later3C, .slice later4A later4N later4C], .slice baseA baseN baseC] K h :=
  denF_sound' Tryz.func5 (H := ⟨[3, 4, 7, 14, 17], [(23, .one 0 (.one 1 (.one 2 (.one 3 (.one 4 (.one 5 (.one 6 (.one 7 (.one 8 (.one 9 (.one 10 (.one 11 (.alt 12 (.of [13, 14, 15, 16, 17, 18]) (.of [16, 12, 13, 14, 15, 17, 18]))))))))))))))], [(0, ⟨[(15, .int .i64)], [], []⟩)], [(8, ⟨[], [], []⟩), (26, ⟨[], [], []⟩), (38, ⟨[], [], []⟩), (56, ⟨[], [], []⟩), (42, ⟨[], [], []⟩), (52, ⟨[(19, .bool)], [], []⟩), (62, ⟨[], [], []⟩)]⟩) (xs := [.agg [.one (.int .i64 r0), .one (.int .i64 r1), .one (.slice r2A r2N r2C), .one (.slice r3A r3N r3C), .one (.slice r4A r4N r4C)], .agg [.one (.int .i64 later0), .one (.int .i64 later1), .one (.slice later2A later2N later2C), .one (.slice later3A later3N later3C), .one (.slice later4A later4N later4C)], .v (.slice baseA baseN baseC)]) (by kernel_rfl) (⟨⟨rfl, rfl, rfl, rfl, rfl, trivial⟩, ⟨rfl, rfl, rfl, rfl, rfl, trivial⟩, rfl, trivial⟩) (den_of F_law20_ShipCopies_eq hh)

/- twinlock/twinlocklaw22.StageOthers -/
/- twinlock/twinlocklaw22.StageNobody -/
/- twinlock/twinlocklaw22.StageAnew -/
/- twinlock/twinlocklaw22.StageKnown -/
/- twinlock/twinlocklaw22.StagePlays -/
/- twinlock/twinlocklaw22.StageShips -/
/- twinlock/twinlocklaw20.wakes -/
def F_law20_wakes  (K : Value → PH → Prop) (h : PH) : Prop :=
  CallH Tryz.prog id_ship_New [] (fun v h1 =>
    ∃ sv : Option Addr, v = .pointer sv ∧
    CallH Tryz.prog id_law20_three [] (fun v_1 h2 =>
      ∃ t0 : Int, ∃ t1 : Int, ∃ t2 : Int, ∃ (t3A : Option Addr) (t3N t3C : Nat), ∃ t4 : Int, ∃ (t5A : Option Addr) (t5N t5C : Nat), v_1 = .agg #[.int .i64 t0, .int .i64 t1, .int .i64 t2, .slice t3A t3N t3C, .int .i64 t4, .slice t5A t5N t5C] ∧
      CallH Tryz.prog id_ship_Ship_Tick [.pointer sv, .agg #[.int .i64 t0, .int .i64 t1, .int .i64 t2, .slice t3A t3N t3C, .int .i64 t4, .slice t5A t5N t5C]] (fun v_2 h3 =>
        ∃ (aA : Option Addr) (aN aC : Nat), v_2 = .slice aA aN aC ∧
        CallH Tryz.prog id_ship_Ship_Ack [.pointer sv, .agg ((.int .u8 (3 : Int) :: (.int .i64 (0 : Int) :: (.int .i64 (1 : Int) :: (.int .i64 (1 : Int) :: (.int .i64 (0 : Int) :: (.int .i64 (0 : Int) :: (.slice none 0 0 :: (.int .i64 (0 : Int) :: ((List.replicate 32 0).map (Value.int .u8) ++ (.int .i64 (0 : Int) :: (.int .i64 (0 : Int) :: ((List.replicate 32 0).map (Value.int .u8) ++ ((List.replicate 32 0).map (Value.int .u8) ++ ([.slice none 0 0] : List Value))))))))))))))).toArray] (fun v_3 h4 =>
          ∃ ok : Bool, v_3 = .bool ok ∧
          CallH Tryz.prog id_law20_three [] (fun v_4 h5 =>
            ∃ t0_1 : Int, ∃ t1_1 : Int, ∃ t2_1 : Int, ∃ (t3A_1 : Option Addr) (t3N_1 t3C_1 : Nat), ∃ t4_1 : Int, ∃ (t5A_1 : Option Addr) (t5N_1 t5C_1 : Nat), v_4 = .agg #[.int .i64 t0_1, .int .i64 t1_1, .int .i64 t2_1, .slice t3A_1 t3N_1 t3C_1, .int .i64 t4_1, .slice t5A_1 t5N_1 t5C_1] ∧
            CallH Tryz.prog id_ship_Ship_Tick [.pointer sv, .agg #[.int .i64 t0_1, .int .i64 t1_1, .int .i64 t2_1, .slice t3A_1 t3N_1 t3C_1, .int .i64 t4_1, .slice t5A_1 t5N_1 t5C_1]] (fun v_5 h6 =>
              ∃ (bA : Option Addr) (bN bC : Nat), v_5 = .slice bA bN bC ∧
              CallH Tryz.prog id_ship_Ship_Ack [.pointer sv, .agg ((.int .u8 (3 : Int) :: (.int .i64 (0 : Int) :: (.int .i64 (0 : Int) :: (.int .i64 (0 : Int) :: (.int .i64 (0 : Int) :: (.int .i64 (0 : Int) :: (.slice none 0 0 :: (.int .i64 (0 : Int) :: ((List.replicate 32 0).map (Value.int .u8) ++ (.int .i64 (0 : Int) :: (.int .i64 (0 : Int) :: ((List.replicate 32 0).map (Value.int .u8) ++ ((List.replicate 32 0).map (Value.int .u8) ++ ([.slice none 0 0] : List Value))))))))))))))).toArray] (fun v_6 h7 =>
                ∃ t : Bool, v_6 = .bool t ∧
                CallH Tryz.prog id_law20_three [] (fun v_7 h8 =>
                  ∃ t0_2 : Int, ∃ t1_2 : Int, ∃ t2_2 : Int, ∃ (t3A_2 : Option Addr) (t3N_2 t3C_2 : Nat), ∃ t4_2 : Int, ∃ (t5A_2 : Option Addr) (t5N_2 t5C_2 : Nat), v_7 = .agg #[.int .i64 t0_2, .int .i64 t1_2, .int .i64 t2_2, .slice t3A_2 t3N_2 t3C_2, .int .i64 t4_2, .slice t5A_2 t5N_2 t5C_2] ∧
                  CallH Tryz.prog id_ship_Ship_Tick [.pointer sv, .agg #[.int .i64 t0_2, .int .i64 t1_2, .int .i64 t2_2, .slice t3A_2 t3N_2 t3C_2, .int .i64 t4_2, .slice t5A_2 t5N_2 t5C_2]] (fun v_8 h9 =>
                    ∃ (cA : Option Addr) (cN cC : Nat), v_8 = .slice cA cN cC ∧
                    CallH Tryz.prog id_ship_Ship_Copy [.pointer sv] (fun v_9 h10 =>
                      ∃ t0_3 : Int, ∃ t1_3 : List Int, t1_3.length = 32 ∧ ∃ t2_3 : Bool, v_9 = .tuple #[.int .i64 t0_3, .agg ((t1_3.map (Value.int .u8) ++ [])).toArray, .bool t2_3] ∧
                      ∃ bv ov : Nat, (((((aN : Nat) : Int) == (1 : Int)) = true → aA = some ⟨bv, ov, none⟩ ∧ 0 ≤ (0 : Int) ∧ (0 : Int) < (aN : Nat))) ∧
                      ∃ t_1 : Int, (((((aN : Nat) : Int) == (1 : Int)) = true → h10.rds bv (ov + (0 : Int).toNat * 107) 1 = some [.int .u8 t_1])) ∧
                      ∃ bv_1 ov_1 : Nat, ((((((((aN : Nat) : Int) == (1 : Int)) && (t_1 == (1 : Int))) && ok) && (((bN : Nat) : Int) == (3 : Int))) = true → bA = some ⟨bv_1, ov_1, none⟩ ∧ 0 ≤ (1 : Int) ∧ (1 : Int) < (bN : Nat))) ∧
                      ∃ t_2 : Int, ((((((((aN : Nat) : Int) == (1 : Int)) && (t_1 == (1 : Int))) && ok) && (((bN : Nat) : Int) == (3 : Int))) = true → h10.rds bv_1 ((ov_1 + (1 : Int).toNat * 107) + 4) 1 = some [.int .i64 t_2])) ∧
                      ∃ bv_2 ov_2 : Nat, (((((((((aN : Nat) : Int) == (1 : Int)) && (t_1 == (1 : Int))) && ok) && (((bN : Nat) : Int) == (3 : Int))) && (t_2 == (2 : Int))) = true → bA = some ⟨bv_2, ov_2, none⟩ ∧ 0 ≤ (2 : Int) ∧ (2 : Int) < (bN : Nat))) ∧
                      ∃ t_3 : Int, (((((((((aN : Nat) : Int) == (1 : Int)) && (t_1 == (1 : Int))) && ok) && (((bN : Nat) : Int) == (3 : Int))) && (t_2 == (2 : Int))) = true → h10.rds bv_2 ((ov_2 + (2 : Int).toNat * 107) + 7) 1 = some [.int .i64 t_3])) ∧
                      ∃ bv_3 ov_3 : Nat, (((((((((((aN : Nat) : Int) == (1 : Int)) && (t_1 == (1 : Int))) && ok) && (((bN : Nat) : Int) == (3 : Int))) && (t_2 == (2 : Int))) && (t_3 == (1 : Int))) && (((cN : Nat) : Int) == (2 : Int))) = true → cA = some ⟨bv_3, ov_3, none⟩ ∧ 0 ≤ (1 : Int) ∧ (1 : Int) < (cN : Nat))) ∧
                      ∃ t_4 : Int, (((((((((((aN : Nat) : Int) == (1 : Int)) && (t_1 == (1 : Int))) && ok) && (((bN : Nat) : Int) == (3 : Int))) && (t_2 == (2 : Int))) && (t_3 == (1 : Int))) && (((cN : Nat) : Int) == (2 : Int))) = true → h10.rds bv_3 (ov_3 + (1 : Int).toNat * 107) 1 = some [.int .u8 t_4])) ∧
                      K (.bool ((((((((((((aN : Nat) : Int) == (1 : Int)) && (t_1 == (1 : Int))) && ok) && (((bN : Nat) : Int) == (3 : Int))) && (t_2 == (2 : Int))) && (t_3 == (1 : Int))) && (((cN : Nat) : Int) == (2 : Int))) && (t_4 == (4 : Int))) && (t0_3 == (3 : Int))) && t2_3)) h10) h9) h8) h7) h6) h5) h4) h3) h2) h1) h
theorem F_law20_wakes_eq  {K : Value → PH → Prop} {h : PH} : @Eq Prop (F_law20_wakes  K h) (denF Tryz.prog Tryz.f33 ⟨[7], [], [], []⟩ [] K h) := by
  kernel_rfl
theorem F_law20_wakes_ok   {K : Value → PH → Prop} {h : PH} (hh : F_law20_wakes  K h) : CallH Tryz.prog id_law20_wakes [] K h :=
  denF_sound' Tryz.func33 (H := ⟨[7], [], [], []⟩) (xs := []) (by kernel_rfl) (trivial) (den_of F_law20_wakes_eq hh)

/- twinlock/twinlocklaw22.Great -/
/- twinlock/twinlocklaw22.wakes -/
/- twinlock/twinlocklaw22.trees -/
/- twinlock/twinlocklaw22.root -/
/- twinlock/twinlocklaw22.turn -/
/- twinlock/twinlocklaw22.Answer -/
/- twinlock/twinlocklaw22.collides -/
/- twinlock/twinlocklaw20.three -/
def F_law20_three  (K : Value → PH → Prop) (h : PH) : Prop :=
  newH h (.cells #[.int .i64 (2 : Int), .int .i64 (1 : Int), .slice none 0 0, .int .i64 (3 : Int), .int .i64 (1 : Int), .slice none 0 0] T_api_Batch (0, 0)) fun bv h1 =>
  K (.agg #[.int .i64 (2 : Int), .int .i64 (3 : Int), .int .i64 (1 : Int), .slice (some ⟨bv, 0, none⟩) 2 2, .int .i64 (1 : Int), .slice none 0 0]) h1
theorem F_law20_three_eq  {K : Value → PH → Prop} {h : PH} : @Eq Prop (F_law20_three  K h) (denF Tryz.prog Tryz.f107 ⟨[0], [], [], []⟩ [] K h) := by
  kernel_rfl
theorem F_law20_three_ok   {K : Value → PH → Prop} {h : PH} (hh : F_law20_three  K h) : CallH Tryz.prog id_law20_three [] K h :=
  denF_sound' Tryz.func107 (H := ⟨[0], [], [], []⟩) (xs := []) (by kernel_rfl) (trivial) (den_of F_law20_three_eq hh)

end TL

namespace TL
open Go Go.Proofs
variable {g h : PH} {N : List Nat} {K : Value → PH → Prop} {sb : Nat} {s : ShS} {v : VwR} {lA : Option Addr} {lC : Nat}

/-- messages that stay -/
structure MsgsIn (h : PH) (a : Option Addr) (L : List MsgF) : Prop where
  sr : SR EncMsg h a L
  ops : ∀ f ∈ L, SR EncOp h f.oA f.m.ops ∧ f.m.ops.length ≤ 1000
  prs : ∀ f ∈ L, SR EncPr h f.pA f.m.prs ∧ f.m.prs.length ≤ 1000
theorem MsgsIn.sub {g : PH} {a : Option Addr} {L : List MsgF} (x : MsgsIn h a L) (hs : h.Sub g) : MsgsIn g a L := ⟨x.sr.sub hs, fun f hf => ⟨(x.ops f hf).1.sub hs, (x.ops f hf).2⟩, fun f hf => ⟨(x.prs f hf).1.sub hs, (x.prs f hf).2⟩⟩
theorem cTickF (x : ShipAt g N h sb s) (sp : Spl g N h) (vw : VwOk g v) (hat : -9223372036854775808 ≤ v.at_ ∧ v.at_ ≤ 9223372036854775807) (htl : s.texts.length ≤ 100000)
    (hk : ∀ g' N' h' a' c' L, ShipAt g' N' h' sb (tickV s v).2 → MsgsIn g' a' L → L.map (·.m) = (tickV s v).1 → Stp g N h g' N' h' → K (.slice a' L.length c') h') :
    CallH Tryz.prog id_ship_Ship_Tick [.pointer (some ⟨sb, 0, none⟩), v.val] K h := by
  refine cTick x sp vw hat htl fun g1 N1 B1 h1 a1 c1 L x1 hm hmap st d => ?_
  have sf := st.spl.freeze d
  refine hk _ N1 h1 a1 c1 L (x1.keep sf.gs fun _ _ _ e => e) ?_ hmap (st.trans sf)
  obtain ⟨B0, Bs, rfl, q1, q2, q3, q4⟩ := hm
  have k : ∀ b ∈ B0 ++ Bs, ∀ o, h1 b = some o → (PH.plus g1 h1 (B0 ++ Bs)) b = some o := fun b hb o e => by rw [plus_in hb]; exact e
  refine ⟨(q1.keep fun b hb => k b (List.mem_append_left _ hb)).sr, fun f hf => ⟨(q2.keep fun b hb => k b (List.mem_append_right _ hb)).all f hf, (q4 f hf).2⟩, fun f hf => ⟨?_, ?_⟩⟩
  · exact .inl (q4 f hf).1
  · rw [(q4 f hf).1]; exact Nat.zero_le _
/-- a field of a message -/
theorem MsgsIn.rd {a : Option Addr} {L : List MsgF} (x : MsgsIn h a L) {i : Nat} (hi : i < L.length) : ∃ b o, a = some ⟨b, o, none⟩ ∧ ∀ f m vs, f + m ≤ 107 → ((encMsg L[i]).drop f).take m = vs → ∀ o', o' = o + i * 107 + f → h.rds b o' m = some vs := by
  obtain ⟨b, o, hA, hr⟩ := x.sr.get hi
  exact ⟨b, o, hA, fun f m vs hf hv o' ho => by rw [hr o' f m ho hf]; exact congrArg some hv⟩
def bt3 (ix : Int) : BtR := ⟨ix, 1, none, 0, []⟩
def threeV (a : Option Addr) (c : Nat) : VwR := ⟨2, 3, 1, a, c, [bt3 2, bt3 3], 1, none, 0, []⟩
theorem three_ok {a : Option Addr} {c : Nat} (x : SR EncBt h a [bt3 2, bt3 3]) : VwOk h (threeV a c) := by
  refine ⟨x, by simp [threeV], fun b hb => ?_, fun b hb => ?_, .inl rfl, by simp [threeV], by simp [threeV]⟩
  · simp only [threeV, List.mem_cons, List.not_mem_nil, or_false] at hb
    rcases hb with rfl | rfl <;> simp [bt3]
  · simp only [threeV, List.mem_cons, List.not_mem_nil, or_false] at hb
    rcases hb with rfl | rfl
    · exact ⟨.inl rfl, Nat.zero_le _⟩
    · exact ⟨.inl rfl, Nat.zero_le _⟩
theorem cThree (hk : ∀ a c h', SR EncBt h' a [bt3 2, bt3 3] → h.Sub h' → K (threeV a c).val h') : CallH Tryz.prog id_law20_three [] K h :=
  F_law20_three_ok (nwL (cs := EncBt.row [bt3 2, bt3 3]) fun b h1 _ hb1 c1 => hk (some ⟨b, 0, none⟩) 2 h1 (.inr ⟨b, 0, rfl, rdsL hb1 rfl rfl⟩) c1.sub0)
abbrev sh0 : ShS := ⟨none, none, []⟩
theorem tk1 (a : Option Addr) (c : Nat) : tickV sh0 (threeV a c) = ([helloM 2], sh0) := rfl
theorem tk2 (a : Option Addr) (c : Nat) : tickV ⟨some (1, 1), none, []⟩ (threeV a c) = ([helloM 2, entM (threeV none 0) 0, entM (threeV none 0) 1], ⟨some (1, 1), none, []⟩) := rfl
theorem tk3 (a : Option Addr) (c : Nat) : tickV ⟨some (0, 0), none, []⟩ (threeV a c) = ([helloM 2, rootM 2 3 1 (rootH [])], ⟨some (0, 0), some (3, 1, []), textsT []⟩) := by
  have h1 : nextV (threeV a c) 0 0 = none := rfl
  have h2 : mayB [] = true ∧ ([] : List PrR).length ≤ 48 := by decide
  unfold tickV
  simp only
  rw [if_neg (by simp [threeV]), h1]
  simp only
  rw [if_pos (by unfold needV; trivial), if_pos (show mayB (threeV a c).prs = true ∧ (threeV a c).prs.length ≤ 48 from h2), List.nil_append]
  rfl
theorem maps1 {L : List MsgF} {a : MsgA} (h : L.map (·.m) = [a]) : ∃ f, L = [f] ∧ f.m = a := by
  cases L with
  | nil => cases h
  | cons f r =>
    rw [List.map_cons] at h
    obtain ⟨h1, h2⟩ := List.cons.inj h
    exact ⟨f, by rw [List.map_eq_nil_iff.1 h2], h1⟩
theorem maps2 {L : List MsgF} {a b : MsgA} (h : L.map (·.m) = [a, b]) : ∃ f1 f2, L = [f1, f2] ∧ f1.m = a ∧ f2.m = b := by
  cases L with
  | nil => cases h
  | cons f r =>
    rw [List.map_cons] at h
    obtain ⟨h1, h2⟩ := List.cons.inj h
    obtain ⟨f2, rfl, h3⟩ := maps1 h2
    exact ⟨f, f2, rfl, h1, h3⟩
theorem maps3 {L : List MsgF} {a b c : MsgA} (h : L.map (·.m) = [a, b, c]) : ∃ f1 f2 f3, L = [f1, f2, f3] ∧ f1.m = a ∧ f2.m = b ∧ f3.m = c := by
  cases L with
  | nil => cases h
  | cons f r =>
    rw [List.map_cons] at h
    obtain ⟨h1, h2⟩ := List.cons.inj h
    obtain ⟨f2, f3, rfl, h3, h4⟩ := maps2 h2
    exact ⟨f, f2, f3, rfl, h1, h3, h4⟩
theorem at3 : (-9223372036854775808 : Int) ≤ 3 ∧ (3 : Int) ≤ 9223372036854775807 := by decide
theorem ak1 : ackV sh0 3 1 1 = (true, ⟨some (1, 1), none, []⟩) := rfl
theorem ak2 : ackV ⟨some (1, 1), none, []⟩ 3 0 0 = (true, ⟨some (0, 0), none, []⟩) := rfl
theorem z32 : (List.replicate 32 (0 : Int)).length = 32 := by simp
theorem cWakes20 (hk : ∀ h', h.Sub h' → K (.bool true) h') : CallH Tryz.prog id_law20_wakes [] K h := by
  refine F_law20_wakes_ok (cShipNew (Spl.start h) fun sb N1 h1 x1 st1 d1 => ⟨_, rfl, ?_⟩)
  rw [List.append_nil] at st1
  refine st1.spl.call (K := fun v g' => ∃ a c, v = (threeV a c).val ∧ SR EncBt g' a [bt3 2, bt3 3] ∧ h.Sub g') (cThree fun a c h' hb s => ⟨a, c, rfl, hb, s⟩) ?_
  rintro _ g2 h2 ⟨a2, c2, rfl, hb2, s2⟩ st
  obtain ⟨st2, same2⟩ := st s2
  refine ⟨_, _, _, _, _, _, _, _, _, _, rfl, cTickF (v := threeV a2 c2) (x1.keep s2 same2) st2.spl (three_ok hb2) at3 (by decide) fun g3 N3 h3 aA aC LA x3 mA hA st3 => ⟨_, _, _, rfl, ?_⟩⟩
  rw [tk1] at x3 hA
  refine cAck x3 st3.spl z32 z32 z32 fun g4 h4 x4 st4 => ⟨_, rfl, ?_⟩
  rw [ak1] at x4 ⊢
  refine st4.spl.call (K := fun v g' => ∃ a c, v = (threeV a c).val ∧ SR EncBt g' a [bt3 2, bt3 3] ∧ g4.Sub g') (cThree fun a c h' hb s => ⟨a, c, rfl, hb, s⟩) ?_
  rintro _ g5 h5 ⟨a5, c5, rfl, hb5, s5⟩ st
  obtain ⟨st5, same5⟩ := st s5
  refine ⟨_, _, _, _, _, _, _, _, _, _, rfl, cTickF (v := threeV a5 c5) (x4.keep s5 same5) st5.spl (three_ok hb5) at3 (by decide) fun g6 N6 h6 aB cB LB x6 mB hB st6 => ⟨_, _, _, rfl, ?_⟩⟩
  rw [tk2] at x6 hB
  refine cAck x6 st6.spl z32 z32 z32 fun g7 h7 x7 st7 => ⟨_, rfl, ?_⟩
  rw [ak2] at x7
  refine st7.spl.call (K := fun v g' => ∃ a c, v = (threeV a c).val ∧ SR EncBt g' a [bt3 2, bt3 3] ∧ g7.Sub g') (cThree fun a c h' hb s => ⟨a, c, rfl, hb, s⟩) ?_
  rintro _ g8 h8 ⟨a8, c8, rfl, hb8, s8⟩ st
  obtain ⟨st8, same8⟩ := st s8
  refine ⟨_, _, _, _, _, _, _, _, _, _, rfl, cTickF (v := threeV a8 c8) (x7.keep s8 same8) st8.spl (three_ok hb8) at3 (by decide) fun g9 N9 h9 aC9 cC LC x9 mC hC st9 => ⟨_, _, _, rfl, ?_⟩⟩
  rw [tk3] at x9 hC
  refine cCopy x9 st9.spl (fun e => by cases e) fun x y S e => ?_
  cases e
  obtain ⟨f1, rfl, e1⟩ := maps1 hA
  obtain ⟨f2, f3, f4, rfl, e2, e3, e4⟩ := maps3 hB
  obtain ⟨f5, f6, rfl, e5, e6⟩ := maps2 hC
  have s39 : g3.Sub h9 := ((((st4.gs.tr st5.gs).tr st6.gs).tr st7.gs).tr st8.gs).tr st9.gh
  have s69 : g6.Sub h9 := (st7.gs.tr st8.gs).tr st9.gh
  obtain ⟨bA, oA, hAA, rA⟩ := (mA.sub s39).rd (i := 0) (by simp)
  obtain ⟨bB, oB, hAB, rB⟩ := (mB.sub s69).rd (i := 1) (by simp)
  obtain ⟨bB2, oB2, hAB2, rB2⟩ := (mB.sub s69).rd (i := 2) (by simp)
  obtain ⟨bC, oC, hAC, rC⟩ := (mC.sub st9.spl.sub).rd (i := 1) (by simp)
  have w1 := rA 0 1 [.int .u8 1] (by decide) (by simp only [List.getElem_cons_zero]; unfold encMsg; rw [e1]; rfl) (oA + (0 : Int).toNat * 107) rfl
  have w2 := rB 4 1 [.int .i64 2] (by decide) (by simp only [List.getElem_cons_succ, List.getElem_cons_zero]; unfold encMsg; rw [e3]; rfl) ((oB + (1 : Int).toNat * 107) + 4) rfl
  have w3 := rB2 7 1 [.int .i64 1] (by decide) (by simp only [List.getElem_cons_succ, List.getElem_cons_zero]; unfold encMsg; rw [e4]; rfl) ((oB2 + (2 : Int).toNat * 107) + 7) rfl
  have w4 := rC 0 1 [.int .u8 4] (by decide) (by simp only [List.getElem_cons_succ, List.getElem_cons_zero]; unfold encMsg; rw [e6]; rfl) (oC + (1 : Int).toNat * 107) rfl
  refine ⟨_, bi (nd [] 1), by rw [bi_len, nd_len], _, rfl, bA, oA, fun _ => ⟨hAA, by decide, by simp⟩, 1, fun _ => w1, bB, oB, fun _ => ⟨hAB, by decide, by simp⟩, 2, fun _ => w2, bB2, oB2, fun _ => ⟨hAB2, by decide, by simp⟩, 1, fun _ => w3, bC, oC, fun _ => ⟨hAC, by decide, by simp⟩, 4, fun _ => w4, ?_⟩
  exact hk h9 ((((((((st1.gs.tr st2.gs).tr st3.gs).tr st4.gs).tr st5.gs).tr st6.gs).tr st7.gs).tr st8.gs).tr st9.gh)
end TL

namespace TL
open Go Go.Proofs
/- (*twinlock/twinlockref22.Stage).Root -/
/- (*twinlock/twinlockref22.Stage).Asks -/
/- (*twinlock/twinlockref22.Stage).Answer -/
/- (*twinlock/twinlockref22.Stage).Forget -/
/- twinlock/twinlockref20.SameAll -/
/- (*twinlock/twinlockref22.Stage).All -/
/- twinlock/twinlockref20.SameMsg -/
end TL

namespace TL
open Go Go.Proofs
variable {g h : PH} {N : List Nat} {K : Value → PH → Prop} {aA bA : Option Addr} {aC bC : Nat}

end TL

namespace TL
open Go Go.Proofs
variable {g h : PH} {N : List Nat} {K : Value → PH → Prop} {wb tb : Nat} {s : WS} {S T : List PrR}
open Classical in
/-- what a node does to a walk -/
noncomputable def nodeW (s : WS) (lv i : Int) (a b : List UInt8) : Bool × WS :=
  if h : ∃ k, (1 ≤ k ∧ k < 16) ∧ askP k = (lv, i) ∧ s.A k = some (shaN (innT a b)) then (true, wIn s h.choose a b) else (false, s)
open Classical in
/-- what a page does to a walk -/
noncomputable def pageW (s : WS) (i : Int) (l : List PrR) : Bool × WS :=
  if h : ∃ k : Nat, k < 16 ∧ i = k ∧ PgOk k l ∧ s.A (16 + k) = some (shaN (76 :: pageL l)) then (true, wPg s h.choose l) else (false, s)
theorem cWNodeV (x : WalkAt g N h wb s) (sp : Spl g N h) {lv i : Int} {a b : List UInt8} (ha : a.length = 32) (hb : b.length = 32) (hT : s.T.length ≤ 100000)
    (hk : ∀ N' h', WalkAt g N' h' wb (nodeW s lv i a b).2 → Stp g N h g N' h' → K (.bool (nodeW s lv i a b).1) h') :
    CallH Tryz.prog id_walk_Walk_Node [.pointer (some ⟨wb, 0, none⟩), .int .i64 lv, .int .i64 i, .agg (((bi a).map (Value.int .u8) ++ [])).toArray, .agg (((bi b).map (Value.int .u8) ++ [])).toArray] K h := by
  refine cWNode x sp ha hb hT (fun hn h' x' st => ?_) fun k N' h' k1 k2 ek hA x' st => ?_
  · have e : nodeW s lv i a b = (false, s) := dif_neg fun ⟨k, hk1, hk2, hk3⟩ => hn k hk1.1 hk1.2 hk2 hk3
    have := hk N h'
    rw [e] at this
    exact this x' st
  · have hex : ∃ k, (1 ≤ k ∧ k < 16) ∧ askP k = (lv, i) ∧ s.A k = some (shaN (innT a b)) := ⟨k, ⟨k1, k2⟩, ek, hA⟩
    have e : nodeW s lv i a b = (true, wIn s hex.choose a b) := dif_pos hex
    have hc := hex.choose_spec
    have ec : hex.choose = k := askP_inj _ (by omega) k (by omega) hc.1.1 k1 (hc.2.1.trans ek.symm)
    have := hk N' h'
    rw [e, ec] at this
    exact this x' st
theorem cWPageV (x : WalkAt g N h wb s) (sp : Spl g N h) {i : Int} {lA : Option Addr} {lC : Nat} {l : List PrR} (hl : SR EncPr g lA l) (hn : l.length ≤ 1000) (hs : ∀ x ∈ l, x.p.length ≤ 1000000) (hT : s.T.length ≤ 100000)
    (hk : ∀ g' N' h', WalkAt g' N' h' wb (pageW s i l).2 → Stp g N h g' N' h' → K (.bool (pageW s i l).1) h') :
    CallH Tryz.prog id_walk_Walk_Page [.pointer (some ⟨wb, 0, none⟩), .int .i64 i, .slice lA l.length lC] K h := by
  refine cWPage x sp hl hn hs hT (fun hno h' x' st => ?_) fun k g' N' h' k16 ek hok hA x' st => ?_
  · have e : pageW s i l = (false, s) := dif_neg fun ⟨k, hk1, hk2, hk3, hk4⟩ => hno k hk1 hk2 hk3 hk4
    have := hk g N h'
    rw [e] at this
    exact this x' st
  · have hex : ∃ k : Nat, k < 16 ∧ i = k ∧ PgOk k l ∧ s.A (16 + k) = some (shaN (76 :: pageL l)) := ⟨k, k16, ek, hok, hA⟩
    have e : pageW s i l = (true, wPg s hex.choose l) := dif_pos hex
    have hc := hex.choose_spec
    have ec : hex.choose = k := by have := hc.2.1; omega
    have := hk g' N' h'
    rw [e, ec] at this
    exact this x' st
/-- what an answer out of a tree does to a walk -/
noncomputable def answerW (s : WS) (T : List PrR) (c : Nat) : Bool × WS :=
  if 16 ≤ c then pageW s ((c - 16 : Nat) : Int) (partB T (c - 16)) else nodeW s (askP c).1 (askP c).2 (nd T (2 * c)) (nd T (2 * c + 1))
end TL

namespace TL
open Go Go.Proofs
variable {h : PH} {K : Value → PH → Prop}
end TL

namespace TL
open Go Go.Proofs
variable {s : WS} {lv i : Int} {a b : List UInt8} {l T : List PrR} {c : Nat}
/-- what each answer keeps: no node 0, few texts, the base, the root -/
structure KeepW (s s' : WS) : Prop where
  a0 : s.A 0 = none → s'.A 0 = none
  t : s'.T.length ≤ s.T.length + 1
  S : s'.S = s.S
  R : s'.R = s.R
theorem KeepW.rf (s : WS) : KeepW s s := ⟨id, Nat.le_succ _, rfl, rfl⟩
theorem wIn_keep {k : Nat} (h : 1 ≤ k) : KeepW s (wIn s k a b) := by
  refine ⟨fun h0 => ?_, by show (s.T ++ [_]).length ≤ _; rw [List.length_append]; simp, rfl, rfl⟩
  show wAsk _ (wAsk _ (upF s.A k none) _ _) _ _ 0 = none
  rw [wAsk_ne (by omega), wAsk_ne (by omega), upF_ne _ _ (by omega)]
  exact h0
theorem wPg_keep {k : Nat} : KeepW s (wPg s k l) := by
  refine ⟨fun h0 => ?_, by show (s.T ++ [_]).length ≤ _; rw [List.length_append]; simp, rfl, rfl⟩
  show upF s.A (16 + k) none 0 = none
  rw [upF_ne _ _ (by omega)]
  exact h0
theorem nodeW_keep : KeepW s (nodeW s lv i a b).2 := by
  unfold nodeW
  split
  · rename_i h
    exact wIn_keep h.choose_spec.1.1
  · exact KeepW.rf s
theorem pageW_keep : KeepW s (pageW s i l).2 := by
  unfold pageW
  split
  · exact wPg_keep
  · exact KeepW.rf s
theorem answerW_keep : KeepW s (answerW s T c).2 := by
  unfold answerW
  split
  · exact pageW_keep
  · exact nodeW_keep
end TL

namespace TL
open Go Go.Proofs
variable {g h : PH} {N : List Nat} {K : Value → PH → Prop} {wb ub tb : Nat} {s : WS} {S T : List PrR}
/-- a hash of one byte and noughts -/
def hx (n : Int) : List UInt8 := UInt8.ofNat (IntKind.wrap .u8 n).toNat :: List.replicate 31 0
theorem wList_in {A : Nat → Option (List UInt8)} (h0 : A 0 = none) {k : Nat} (hk : k ∈ wList A) : 1 ≤ k ∧ k < 32 := by
  obtain ⟨h1, h2⟩ := wList_mem.1 hk
  rcases Nat.eq_zero_or_pos k with rfl | h
  · rw [h0] at h2; cases h2
  · exact ⟨h, h1⟩
theorem cWWantG {M : List Nat} (x : WalkAt g N h wb s) (sp : Spl g M h) (h0 : s.A 0 = none) {n : Int} (hk : ∀ a' c' g' h', h.Sub h' → Stp g M h g' M h' → SR EncAsk g' a' (((wList s.A).map askP).take n.toNat) → K (.slice a' (((wList s.A).map askP).take n.toNat).length c') h') :
    CallH Tryz.prog id_walk_Walk_Want [.pointer (some ⟨wb, 0, none⟩), .int .i64 n] K h := by
  refine F_walk_Walk_Want_ok (cWNone x ⟨_, rfl, fun e => ?_, fun e => ?_⟩)
  · have e : n < 1 := by simpa using e
    have hn : n.toNat = 0 := by omega
    have := hk none 0 g h (PH.Sub.rf _) (Stp.refl sp) (by rw [hn]; exact .inl rfl)
    rw [hn] at this; exact this
  · have e : ¬ n < 1 := by simpa using e
    obtain ⟨⟨tb, ra, rp, esA, cA, esP, cP, tA, tN, tC, Bt, rfl, d1, d2, d3, d4, d5, d6, hw, ht, ha, hA, hp, hP, hB⟩, hR, hL⟩ := x
    have hlen : esA.length ≤ 1000 := by have := hA.len; omega
    refine ⟨wb, 0, rfl, _, wk_ask hw hR, F_maps_Keys_map_walk_Ask_api_Hash_walk_Ask_api_Hash_ok (nwL fun bm h1 _ hbm c1 => ⟨_, rfl, rfl, cSortedA hbm (c1.sub0 _ _ ha) (fun e he => ?_) hA.old hA.bn hlen fun l a' c' B' h2 hp2 hs2 hB2 cc2 => ⟨_, _, _, rfl, ?_, ?_⟩⟩)⟩
    · obtain ⟨k, _, _, hk⟩ := hA.key e he
      exact ⟨_, hk⟩
    · have := hB2.le
      unfold minV
      split <;> omega
    · have hl := asked_row hA h0 hp2 hs2
      have hle := hB2.le
      rw [← hl] at hk
      have e1 : (minV n ((l.length : Nat) : Int)).toNat = min n.toNat l.length := by unfold minV; split <;> omega
      have e2 : (minV n ((l.length : Nat) : Int)).toNat - (0 : Int).toNat = (l.take n.toNat).length := by rw [e1, List.length_take]; exact Nat.sub_zero _
      rw [e2]
      have hB3 : SR EncAsk (PH.plus g h2 B') a' l := (hB2.keep fun b hb o e => by rw [plus_in hb]; exact e).sr
      refine hk _ _ (PH.plus g h2 B') h2 (c1.sub0.tr cc2.sub0) (sp.new (Chg.from c1.sub0 cc2)) ?_
      have := hB3.slice (L := 0) (lo := 0) (hi := min n.toNat l.length) (mx := (c' : Int)) rfl (Nat.min_le_right _ _) (by omega)
      rw [List.drop_zero, Nat.sub_zero, take_min_len] at this
      exact this
end TL

namespace TL
open Go Go.Proofs
variable {g h : PH} {N : List Nat} {K : Value → PH → Prop} {wb ub tb : Nat} {s : WS} {S T : List PrR} {lv i : Int} {a b : List UInt8} {l : List PrR} {c : Nat}
theorem textsT_le (hm : mayB S = true) (hl : S.length ≤ 48) : ∀ t ∈ textsT S, t.length ≤ 1000000 := fun t ht => by
  have e : textsT S = codesT.map fun c => if c < 16 then leafT S c else inT S (c - 16) := texts_codes (leafT S) (inT S)
  rw [e] at ht
  obtain ⟨c, _, rfl⟩ := List.mem_map.1 ht
  split
  · have := leafT_le hm hl c; omega
  · rw [inT_len]; decide
/-- a walk that was begun and answered -/
structure WOk (s : WS) : Prop where
  inv : ∃ W X, WInv s W X
  ts : ∀ t ∈ s.T, t.length ≤ 1000000
  q16 : ∀ i l, s.Q i = some l → i < 16
theorem WOk.new {R : List UInt8} (hm : mayB S = true) (hl : S.length ≤ 48) (hR : R.length = 32) : WOk (wNew S R) := ⟨⟨_, _, WInv.new hm hl hR⟩, textsT_le hm hl, fun _ _ h => by cases h⟩
theorem nodeW_cases : nodeW s lv i a b = (false, s) ∨ ∃ k, (1 ≤ k ∧ k < 16) ∧ askP k = (lv, i) ∧ s.A k = some (shaN (innT a b)) ∧ nodeW s lv i a b = (true, wIn s k a b) := by
  unfold nodeW
  split
  · rename_i hh
    exact .inr ⟨hh.choose, hh.choose_spec.1, hh.choose_spec.2.1, hh.choose_spec.2.2, rfl⟩
  · exact .inl rfl
theorem pageW_cases : pageW s i l = (false, s) ∨ ∃ k : Nat, k < 16 ∧ i = k ∧ PgOk k l ∧ s.A (16 + k) = some (shaN (76 :: pageL l)) ∧ pageW s i l = (true, wPg s k l) := by
  unfold pageW
  split
  · rename_i hh
    exact .inr ⟨hh.choose, hh.choose_spec.1, hh.choose_spec.2.1, hh.choose_spec.2.2.1, hh.choose_spec.2.2.2, rfl⟩
  · exact .inl rfl
theorem WOk.inn (v : WOk s) (ha : a.length = 32) (hb : b.length = 32) (h16 : c < 16) (hA : s.A c = some (shaN (innT a b))) : WOk (wIn s c a b) := by
  obtain ⟨⟨W, X, v⟩, ht, hq⟩ := v
  refine ⟨⟨_, _, v.node ha hb h16 hA⟩, fun t hm => ?_, hq⟩
  rcases List.mem_append.1 hm with hm | hm
  · exact ht t hm
  · rw [List.mem_singleton] at hm; subst hm
    simp [innT, ha, hb]
theorem WOk.pg (v : WOk s) (h16 : c < 16) (hp : PgOk c l) (hA : s.A (16 + c) = some (shaN (76 :: pageL l))) : WOk (wPg s c l) := by
  obtain ⟨⟨W, X, v⟩, ht, hq⟩ := v
  refine ⟨⟨_, _, v.page h16 hp hA⟩, fun t hm => ?_, fun j m hj => ?_⟩
  · rcases List.mem_append.1 hm with hm | hm
    · exact ht t hm
    · rw [List.mem_singleton] at hm; subst hm
      have := page_len hp
      rw [List.length_cons]; omega
  · have hj : upF s.Q c (some l) j = some m := hj
    by_cases e : j = c
    · omega
    · rw [upF_ne _ _ e] at hj; exact hq j m hj
theorem WOk.node (v : WOk s) (ha : a.length = 32) (hb : b.length = 32) : WOk (nodeW s lv i a b).2 := by
  rcases nodeW_cases (s := s) (lv := lv) (i := i) (a := a) (b := b) with e | ⟨k, hk, _, hA, e⟩
  · rw [e]; exact v
  · rw [e]; exact v.inn ha hb hk.2 hA
theorem WOk.page (v : WOk s) : WOk (pageW s i l).2 := by
  rcases pageW_cases (s := s) (i := i) (l := l) with e | ⟨k, hk, _, hp, hA, e⟩
  · rw [e]; exact v
  · rw [e]; exact v.pg hk hp hA
theorem WOk.answer (v : WOk s) : WOk (answerW s T c).2 := by
  unfold answerW
  split
  · exact v.page
  · exact v.node (nd_len _ _) (nd_len _ _)
theorem WOk.a0 (v : WOk s) : s.A 0 = none := by
  obtain ⟨⟨W, X, v⟩, _, _⟩ := v
  exact (v.out 0 (.inl rfl)).1
theorem WOk.may (v : WOk s) : mayB s.S = true ∧ s.S.length ≤ 48 := by
  obtain ⟨⟨W, X, v⟩, _, _⟩ := v
  exact ⟨v.may, v.le⟩
theorem WOk.none (v : WOk s) (h : wList s.A = []) : ∀ c, s.A c = .none := by
  obtain ⟨⟨W, X, v⟩, _, _⟩ := v
  exact wList_nil v h
/-- an answer fits just where the tree's own hash is wanted -/
theorem answerW_yes (c1 : 1 ≤ c) (c2 : c < 32) (hm : mayB T = true) (h48 : T.length ≤ 48) (hA : s.A c = some (nd T c)) :
    (answerW s T c).1 = true ∧ (c < 16 → (answerW s T c).2 = wIn s c (nd T (2 * c)) (nd T (2 * c + 1))) ∧ (16 ≤ c → (answerW s T c).2 = wPg s (c - 16) (partB T (c - 16))) := by
  unfold answerW
  by_cases h16 : 16 ≤ c
  · rw [if_pos h16]
    obtain ⟨j, rfl⟩ : ∃ j, c = 16 + j := ⟨c - 16, by omega⟩
    have ej : 16 + j - 16 = j := by omega
    rw [ej]
    rcases pageW_cases (s := s) (i := (j : Int)) (l := partB T j) with e | ⟨k, hk, ek, _, _, e⟩
    · exfalso
      have hex : ∃ k : Nat, k < 16 ∧ (j : Int) = k ∧ PgOk k (partB T j) ∧ s.A (16 + k) = some (shaN (76 :: pageL (partB T j))) := ⟨j, by omega, rfl, part_ok hm h48 j, by rw [hA, nd_leaf (by omega)]⟩
      unfold pageW at e
      rw [dif_pos hex] at e
      simp at e
    · have : k = j := by omega
      subst this
      rw [e]
      exact ⟨rfl, fun h => by omega, fun _ => rfl⟩
  · rw [if_neg h16]
    rcases nodeW_cases (s := s) (lv := (askP c).1) (i := (askP c).2) (a := nd T (2 * c)) (b := nd T (2 * c + 1)) with e | ⟨k, hk, ek, _, e⟩
    · exfalso
      have hex : ∃ k, (1 ≤ k ∧ k < 16) ∧ askP k = ((askP c).1, (askP c).2) ∧ s.A k = some (shaN (innT (nd T (2 * c)) (nd T (2 * c + 1)))) := ⟨c, ⟨c1, by omega⟩, rfl, by rw [hA, nd_in c1 (by omega)]⟩
      unfold nodeW at e
      rw [dif_pos hex] at e
      simp at e
    · have : k = c := askP_inj k (by omega) c c2 hk.1 c1 ek
      subst this
      rw [e]
      exact ⟨rfl, fun _ => rfl, fun h => absurd h h16⟩
theorem answerW_less (c1 : 1 ≤ c) (c2 : c < 32) (hm : mayB T = true) (h48 : T.length ≤ 48) (hA : s.A c = some (nd T c)) : wSize (answerW s T c).2.A + 1 ≤ wSize s.A := by
  obtain ⟨_, e1, e2⟩ := answerW_yes c1 c2 hm h48 hA
  by_cases h16 : c < 16
  · rw [e1 h16]; exact wSize_in c1 h16 hA
  · rw [e2 (by omega)]; exact wSize_pg (by omega) (by rw [show 16 + (c - 16) = c by omega]; exact hA)
/-- no two unlike texts of one hash: what is asked for is the tree's -/
theorem WOk.asks (v : WOk s) (hR : s.R = nd T 1) {L : List (List UInt8)} (hno : NoColl L L.length) (h1 : ∀ t ∈ s.T, t ∈ L) (h2 : ∀ t ∈ textsT T, t ∈ L) : ∀ c x, s.A c = some x → x = nd T c := fun c x hA => by
  obtain ⟨⟨W, X, v⟩, _, _⟩ := v
  obtain ⟨c1, c2, hk, _, rfl, _⟩ := v.asked hA
  exact v.wants hR hno h1 h2 c c1 c2 hk
/-- .. and when all is answered, its parts are the tree's -/
theorem WOk.parts (v : WOk s) (hR : s.R = nd T 1) (hm : mayB T = true) (h48 : T.length ≤ 48) (hd : ∀ c, s.A c = Option.none) {L : List (List UInt8)} (hno : NoColl L L.length) (h1 : ∀ t ∈ s.T, t ∈ L) (h2 : ∀ t ∈ textsT T, t ∈ L) : ∀ i, i < 16 → wPart s i = partB T i := by
  obtain ⟨⟨W, X, v⟩, _, _⟩ := v
  obtain ⟨H, TX, hv⟩ := v.vt hd
  rw [hR] at hv
  exact hv.inj (VT.tree hm h48) hno h1 h2
theorem WOk.q (v : WOk s) : ∀ i l, s.Q i = some l → PgOk i l := fun i l hq => by
  obtain ⟨⟨W, X, v⟩, _, v3⟩ := v
  have hi := v3 i l hq
  obtain ⟨t, ht⟩ := Option.isSome_iff_exists.1 (v.q i l hi hq)
  obtain ⟨m, h1, h2, _⟩ := v.lf i t hi ht
  rw [hq] at h1; cases h1
  exact h2
theorem flat_parts (T : List PrR) : ((List.range 16).flatMap fun i => partB T i).Perm T := perm_parts 16 T fun x _ => bkt_lt x.p
theorem done_perm (hp : ∀ i, i < 16 → wPart s i = partB T i) : (wDone s).Perm T := by
  have : wDone s = (List.range 16).flatMap fun i => partB T i := by
    unfold wDone
    apply congrArg List.flatten
    exact List.map_congr_left fun i hi => hp i (List.mem_range.1 hi)
  rw [this]
  exact flat_parts T
theorem WOk.part (v : WOk s) : ∀ i, i < 16 → PgOk i (wPart s i) := fun i _ => by
  unfold wPart
  cases e : s.Q i with
  | none => exact part_ok v.may.1 v.may.2 i
  | some l => exact v.q i l e
end TL

namespace TL
open Go Go.Proofs
variable {g h : PH} {N : List Nat} {K : Value → PH → Prop} {wb ub tb : Nat} {s : WS} {S T : List PrR}
theorem askGet {A : Nat → Option (List UInt8)} (h0 : A 0 = none) {n k : Nat} (hk : k < (((wList A).map askP).take n).length) : ∃ c, 1 ≤ c ∧ c < 32 ∧ (A c).isSome = true ∧ askP c = (((wList A).map askP).take n)[k] := by
  obtain ⟨c, hc, e⟩ := List.mem_map.1 (List.mem_of_mem_take (List.getElem_mem hk))
  obtain ⟨c1, c2⟩ := wList_in h0 hc
  exact ⟨c, c1, c2, (wList_mem.1 hc).2, e⟩
end TL

namespace TL
open Go Go.Proofs
variable {g h : PH} {N : List Nat} {K : Value → PH → Prop} {wb ub tb : Nat} {s : WS} {S T : List PrR}
/-! ### What differs -/
def dif (S T : List PrR) (c : Nat) : Nat := if 1 ≤ c ∧ nd S c ≠ nd T c then 1 else 0
def sumN (f : Nat → Nat) (n : Nat) : Nat := ((List.range n).map f).sum
/-! ### What was answered -/
def got (X : Nat → Option (List UInt8)) (c : Nat) : Nat := if (X c).isSome = true then 1 else 0
/-- a walk to a tree, answered by it alone -/
structure FewV (s : WS) (W : Nat → List UInt8) (X : Nat → Option (List UInt8)) (T : List PrR) : Prop where
  v : WInv s W X
  w : ∀ c, 1 ≤ c → c < 32 → known X c → W c = nd T c
theorem FewV.new {R : List UInt8} (hm : mayB S = true) (hl : S.length ≤ 48) (hR : R = nd T 1) : FewV (wNew S R) (fun _ => R) (fun _ => none) T :=
  ⟨WInv.new hm hl (by rw [hR, nd_len]), fun c _ _ hk => by
    rcases hk with rfl | hk
    · exact hR
    · cases hk⟩
variable {W : Nat → List UInt8} {X : Nat → Option (List UInt8)} {c : Nat}
theorem FewV.ask (v : FewV s W X T) {x : List UInt8} (h : s.A c = some x) : 1 ≤ c ∧ c < 32 ∧ X c = none ∧ x = nd T c ∧ nd s.S c ≠ nd T c := by
  obtain ⟨a1, a2, a3, a4, a5, a6⟩ := v.v.asked h
  have := v.w c a1 a2 a3
  exact ⟨a1, a2, a4, a5.trans this, this ▸ a6⟩
theorem FewV.answer (v : FewV s W X T) (hm : mayB T = true) (h48 : T.length ≤ 48) (h : (s.A c).isSome = true) : (answerW s T c).1 = true ∧ ∃ W' t, FewV (answerW s T c).2 W' (upF X c (some t)) T := by
  obtain ⟨x, hx⟩ := Option.isSome_iff_exists.1 h
  obtain ⟨a1, a2, a4, a5, a6⟩ := v.ask hx
  subst a5
  obtain ⟨e, e1, e2⟩ := answerW_yes a1 a2 hm h48 hx
  refine ⟨e, ?_⟩
  by_cases h16 : c < 16
  · rw [e1 h16]
    refine ⟨_, _, v.v.node (nd_len T (2 * c)) (nd_len T (2 * c + 1)) h16 (by rw [hx, nd_in a1 h16]), fun d d1 d2 hk => ?_⟩
    by_cases k1 : d = 2 * c + 1
    · subst k1; rw [upF_same]
    · rw [upF_ne _ _ k1]
      by_cases k2 : d = 2 * c
      · subst k2; rw [upF_same]
      · rw [upF_ne _ _ k2]
        refine v.w d d1 d2 ?_
        rcases hk with hk | hk
        · exact .inl hk
        · rw [upF_ne _ _ (by omega)] at hk; exact .inr hk
  · obtain ⟨j, rfl⟩ : ∃ j, c = 16 + j := ⟨c - 16, by omega⟩
    have ej : 16 + j - 16 = j := by omega
    rw [e2 (by omega), ej]
    refine ⟨_, _, v.v.page (by omega) (part_ok hm h48 j) (by rw [hx, nd_leaf (by omega)]), fun d d1 d2 hk => v.w d d1 d2 ?_⟩
    rcases hk with hk | hk
    · exact .inl hk
    · rw [upF_ne _ _ (by omega)] at hk; exact .inr hk
theorem FewV.dif (v : FewV s W X T) (c : Nat) (hc : (X c).isSome = true) : 1 ≤ c ∧ c < 32 ∧ nd s.S c ≠ nd T c := by
  obtain ⟨t, ht⟩ := Option.isSome_iff_exists.1 hc
  have h1 : 1 ≤ c ∧ c < 32 := by
    by_cases e : c = 0 ∨ 32 ≤ c
    · rw [(v.v.out c e).2] at ht; cases ht
    · omega
  have hk : known X c := Classical.byContradiction fun e => by rw [(v.v.un c h1.1 h1.2 e).2] at ht; cases ht
  have := (v.v.an c t h1.1 h1.2 ht).2.1
  rw [v.w c h1.1 h1.2 hk] at this
  exact ⟨h1.1, h1.2, this⟩
theorem got_up {t : List UInt8} (hc : c < 32) (h : X c = none) : sumN (got (upF X c (some t))) 32 = sumN (got X) 32 + 1 := by
  have := sum_up (got (upF X c (some t))) (got X) hc fun j hj => by unfold got; rw [upF_ne _ _ hj]
  have e1 : got (upF X c (some t)) c = 1 := by unfold got; rw [upF_same]; rfl
  have e2 : got X c = 0 := by unfold got; rw [h]; rfl
  rw [e1, e2] at this
  unfold sumN; omega
theorem FewV.eq (v : FewV s W X T) (hd : ∀ c, s.A c = none) {c : Nat} (c1 : 1 ≤ c) (c2 : c < 32) (hk : known X c) (hX : X c = none) : nd s.S c = nd T c := by
  rcases v.v.kn c c1 c2 hk hX with ⟨_, e⟩ | ⟨e, _⟩
  · rw [e, v.w c c1 c2 hk]
  · rw [hd c] at e; cases e
/-- a bucket all above which differs was answered -/
theorem FewV.leaf (v : FewV s W X T) (hd : ∀ c, s.A c = none) {i : Nat} (hi : i < 16) (h : ∀ lv, lv ≤ 4 → nd T ((16 + i) / 2 ^ (4 - lv)) ≠ nd s.S ((16 + i) / 2 ^ (4 - lv))) : (X (16 + i)).isSome = true := by
  have key : ∀ c, 1 ≤ c → c < 32 → known X c → nd T c ≠ nd s.S c → (X c).isSome = true := fun c c1 c2 hk hne => by
    cases e : X c with
    | some t => rfl
    | none => exact absurd (v.eq hd c1 c2 hk e).symm hne
  have d : ∀ k, (16 + i) / 2 ^ k / 2 = (16 + i) / 2 ^ (k + 1) := fun k => by rw [Nat.div_div_eq_div_mul, ← Nat.pow_succ]
  have r4 : (16 + i) / 2 ^ 4 = 1 := by omega
  have q4 := key ((16 + i) / 2 ^ 4) (by omega) (by omega) (.inl r4) (h 0 (by omega))
  have q3 := key ((16 + i) / 2 ^ 3) (by omega) (by omega) (.inr (by rw [d 3]; exact q4)) (h 1 (by omega))
  have q2 := key ((16 + i) / 2 ^ 2) (by omega) (by omega) (.inr (by rw [d 2]; exact q3)) (h 2 (by omega))
  have q1 := key ((16 + i) / 2 ^ 1) (by omega) (by omega) (.inr (by rw [d 1]; exact q2)) (h 3 (by omega))
  have q0 := key ((16 + i) / 2 ^ 0) (by omega) (by omega) (.inr (by rw [d 0]; exact q1)) (h 4 (by omega))
  simpa using q0
theorem FewV.none (v : FewV s W X T) (hr : nd s.S 1 = nd T 1) : sumN (got X) 32 = 0 := by
  have h1 : X 1 = .none := by
    cases e : X 1 with
    | none => rfl
    | some t => exact absurd hr (v.dif 1 (by rw [e]; rfl)).2.2
  have hall : ∀ m c, c = m → X c = .none := by
    intro m
    induction m using Nat.strongRecOn with
    | ind m ih =>
      intro c hcm
      by_cases e : c = 0 ∨ 32 ≤ c
      · exact (v.v.out c e).2
      · by_cases e1 : c = 1
        · subst e1; exact h1
        · refine (v.v.un c (by omega) (by omega) fun hk => ?_).2
          rcases hk with hk | hk
          · exact e1 hk
          · rw [ih (c / 2) (by omega) (c / 2) rfl] at hk; cases hk
  have : got X = fun _ => 0 := by
    funext c
    unfold got
    rw [hall c c rfl]; rfl
  rw [this]
  decide
/-! ### What was seen -/
def SeenM (h : PH) (bm : Nat) (X : Nat → Option (List UInt8)) : Prop := ∃ es c, h bm = some (.map (es : List MapEntry).toArray c) ∧ (∀ e ∈ es, kOk (.rec2 .i64 .i64) e.key = true) ∧ (∀ k, 1 ≤ k → k < 32 → va es (keyV (askP k)) = if (X k).isSome = true then some (.int .i64 1) else none) ∧ es.length = sumN (got X) 32
theorem SeenM.keep {h' : PH} {bm : Nat} (x : SeenM h bm X) (hk : ∀ o, h bm = some o → h' bm = some o) : SeenM h' bm X := by
  obtain ⟨es, c, h1, h2, h3, h4⟩ := x
  exact ⟨es, c, hk _ h1, h2, h3, h4⟩
theorem SeenM.look {bm : Nat} (x : SeenM h bm X) {k : Nat} (h1 : 1 ≤ k) (h2 : k < 32) : lkH (.rec2 .i64 .i64) h (some bm) (.agg #[.int .i64 (askP k).1, .int .i64 (askP k).2]) (.int .i64 (0 : Int)) (.int .i64 (if (X k).isSome = true then 1 else 0)) (X k).isSome := by
  obtain ⟨es, c, q1, q2, q3, _⟩ := x
  refine ⟨es, ⟨⟨c, q1⟩, q2⟩, ?_⟩
  have := q3 k h1 h2
  rw [lk_va]
  show (match va es (keyV (askP k)) with | some v => (v, true) | none => _) = _
  rw [this]
  cases (X k).isSome <;> rfl
theorem upM_len {es : List MapEntry} {k v : Value} {c : Nat} (h : va es k = none) : (upM es k v c).1.length = es.length + 1 := by
  unfold upM
  rw [fi_none_iff.2 h]
  simp
theorem SeenM.put {bm : Nat} (x : SeenM h bm X) {k : Nat} (h1 : 1 ≤ k) (h2 : k < 32) (hX : X k = none) {t : List UInt8} {J : PH → Prop} (hk : ∀ h', SeenM h' bm (upF X k (some t)) → Chg [bm] [bm] h h' → J h') :
    muH (.rec2 .i64 .i64) h (some bm) (.agg #[.int .i64 (askP k).1, .int .i64 (askP k).2]) (.int .i64 (1 : Int)) J := by
  obtain ⟨es, c, q1, q2, q3, q4⟩ := x
  refine ⟨bm, es, c, rfl, q1, q2, hk _ ⟨_, _, PH.upd_same _ _ _, upM_keys rfl q2, fun j j1 j2 => ?_, ?_⟩ (Chg.upd _)⟩
  · show va (upM es (keyV (askP k)) _ c).1 _ = _
    rw [va_upM q2 (keyV_ok _) (keyV_ok _), keyV_keq]
    by_cases e : j = k
    · subst e; rw [upF_same]; simp
    · rw [if_neg (by simp only [decide_eq_true_eq]; exact fun e2 => e (askP_inj j j2 k h2 j1 h1 e2)), upF_ne _ _ e]
      exact q3 j j1 j2
  · rw [got_up h2 hX, ← q4]
    refine upM_len ?_
    have := q3 k h1 h2
    rw [hX] at this
    exact this
theorem SeenM.len {bm : Nat} (x : SeenM h bm X) : lenM h (some bm) (sumN (got X) 32) := by
  obtain ⟨es, c, q1, _, _, q4⟩ := x
  exact ⟨_, c, q1, by rw [← q4]; simp⟩
end TL

namespace TL
open Go Go.Proofs
variable {g h : PH} {N : List Nat} {K : Value → PH → Prop} {sb : Nat} {s : ShS} {v : VwR}
variable {rA eA pA : Option Addr} {rC eC pC : Nat} {rows : List OsR} {eps : List Int} {prs : List PrR} {r0 r1 : Int}

abbrev rowV (r0 r1 : Int) (rA : Option Addr) (rows : List OsR) (rC : Nat) (eA : Option Addr) (eps : List Int) (eC : Nat) (pA : Option Addr) (prs : List PrR) (pC : Nat) : Value := .agg #[.int .i64 r0, .int .i64 r1, .slice rA rows.length rC, .slice eA eps.length eC, .slice pA prs.length pC]
/-- a row, in memory -/
structure RowOk (h : PH) (rA : Option Addr) (rows : List OsR) (eA : Option Addr) (eps : List Int) (pA : Option Addr) (prs : List PrR) : Prop where
  rw : SR EncOs h rA rows
  op : ∀ r ∈ rows, SR EncOp h r.a r.ops
  ep : SR EncI h eA eps
  pr : SR EncPr h pA prs
theorem RowOk.sub {h' : PH} (x : RowOk h rA rows eA eps pA prs) (s : h.Sub h') : RowOk h' rA rows eA eps pA prs := ⟨x.rw.sub s, fun r hr => (x.op r hr).sub s, x.ep.sub s, x.pr.sub s⟩
def madeV (epoch gone prev : Int) (bs : List BtR) (a : Option Addr) (c : Nat) (pA : Option Addr) (pC : Nat) (prs : List PrR) : VwR := ⟨epoch, gone + bs.length, pe prev bs bs.length, a, c, bs, prev, pA, pC, prs⟩
theorem gRow_no {n : Nat} (hg : gRow rows n prs = false) : rows.length ≤ 80 ∧ (∀ r ∈ rows, r.ops.length ≤ 1000 ∧ ∀ o ∈ r.ops, o.p.length ≤ 1000 ∧ o.v.length ≤ 1000) ∧ prs.length ≤ 200 ∧ ∀ x ∈ prs, x.p.length ≤ 1000 := by
  simp only [gRow, Bool.or_eq_false_iff, decide_eq_false_iff_not, List.any_eq_false] at hg
  obtain ⟨h1, h2, h3, h4⟩ := hg
  obtain ⟨p1, p2⟩ := gPrs_no h3
  refine ⟨by omega, fun r hr => ?_, p1, fun x hx => (p2 x hx).1⟩
  have := gOps_no (ops := r.ops) (by have := h4 r hr; simpa using this)
  exact ⟨by omega, this.2⟩
theorem made_ok {epoch gone prev : Int} {bs : List BtR} {a : Option Addr} {c : Nat} (hM : MadeOf gone prev rows bs) (hb : SR EncBt h a bs) (ro : RowOk h rA rows eA eps pA prs) {n : Nat} (hg : gRow rows n prs = false) : VwOk h (madeV epoch gone prev bs a c pA pC prs) := by
  obtain ⟨g1, g2, g3, g4⟩ := gRow_no hg
  have hl := hM.len
  have h0 := hM.g0
  have h1 := hM.g1
  refine ⟨hb, by show bs.length ≤ _; omega, fun b hb => ?_, fun b hb => ?_, ro.pr, by show prs.length ≤ _; omega, fun x hx => by have := g4 x hx; omega⟩
  · obtain ⟨i, hi, rfl⟩ := List.getElem_of_mem hb
    obtain ⟨_, e, _⟩ := hM.bts i hi
    have hi' : i < bs.length := hi
    have e' : bs[i].ix = gone + i + 1 := e
    show 0 ≤ bs[i].ix ∧ bs[i].ix ≤ 1000000
    omega
  · obtain ⟨i, hi, rfl⟩ := List.getElem_of_mem hb
    obtain ⟨hr, _, e2, _, e4, _⟩ := hM.bts i hi
    have hm := List.getElem_mem hr
    have e2 : bs[i].a = rows[i].a := e2
    have e4 : bs[i].ops = rows[i].ops := e4
    show SR EncOp h bs[i].a bs[i].ops ∧ bs[i].ops.length ≤ 1000
    rw [e2, e4]
    exact ⟨ro.op _ hm, (g2 _ hm).1⟩
theorem cMadeS (sp : Spl g N h) (ro : RowOk g rA rows eA eps pA prs) {n : Nat} (hg : gRow rows n prs = false) {epoch : Int}
    (hk : ∀ gone prev bs a c g' h', MadeOf gone prev rows bs → VwOk g' (madeV epoch gone prev bs a c pA pC prs) → Stp g N h g' N h' → (∀ b ∈ N, ∀ o, h b = some o → h' b = some o) → K (madeV epoch gone prev bs a c pA pC prs).val h') :
    CallH Tryz.prog id_law20_Made [rowV r0 r1 rA rows rC eA eps eC pA prs pC, .int .i64 epoch] K h := by
  refine sp.call (K := fun v g' => ∃ gone prev bs a c, MadeOf gone prev rows bs ∧ VwOk g' (madeV epoch gone prev bs a c pA pC prs) ∧ v = (madeV epoch gone prev bs a c pA pC prs).val ∧ g.Sub g') (cMade ro.rw ro.ep (gRow_no hg).1 fun gone prev bs a c B' h' hM hb hc => ⟨gone, prev, bs, a, c, hM, made_ok hM hb.sr (ro.sub hc.sub0) hg, ?_, hc.sub0⟩) ?_
  · have := hM.len
    unfold madeV VwR.val
    rw [this]
  · rintro _ g' h' ⟨gone, prev, bs, a, c, hM, hv, rfl, hs⟩ st
    obtain ⟨st, same⟩ := st hs
    exact hk gone prev bs a c g' h' hM hv st same
theorem wk20 {h1 : PH} (s : h.Sub h1) (hk : ∀ h', h.Sub h' → K (.bool true) h') : CallH Tryz.prog id_law20_wakes [] (fun v h2 => ∃ t : Bool, v = .bool t ∧ K (.bool t) h2) h1 :=
  cWakes20 fun h' s' => ⟨true, rfl, hk h' (s.tr s')⟩
end TL

namespace TL
open Go Go.Proofs
variable {g h : PH} {N : List Nat} {K : Value → PH → Prop} {sb : Nat} {s : ShS} {v : VwR}
variable {rA eA pA : Option Addr} {rC eC pC : Nat} {rows : List OsR} {eps : List Int} {prs : List PrR} {r0 r1 : Int}

abbrev okP (l : List PrR) : Prop := mayB l = true ∧ l.length ≤ 48
theorem tick_new {a e : Int} (ha : s.ack = some (a, e)) (h1 : ¬ (a = v.at_ ∧ e = v.ae)) (h2 : nextV v a e = none) (hn : needV s v a) (hok : okP v.prs) :
    tickV s v = ([helloM v.ep, rootM v.ep v.at_ v.ae (rootH v.prs)], { s with shot := some (v.at_, v.ae, v.prs), texts := s.texts ++ textsT v.prs }) := by
  unfold tickV; simp only [ha, h2]; rw [if_neg h1, if_pos hn, if_pos hok]
theorem tick_bad {a e : Int} (ha : s.ack = some (a, e)) (h1 : ¬ (a = v.at_ ∧ e = v.ae)) (h2 : nextV v a e = none) (hn : needV s v a) (hok : ¬ okP v.prs) : tickV s v = ([helloM v.ep], s) := by
  unfold tickV; simp only [ha, h2]; rw [if_neg h1, if_pos hn, if_neg hok]
theorem tick_old {a e x y : Int} {S : List PrR} (ha : s.ack = some (a, e)) (h1 : ¬ (a = v.at_ ∧ e = v.ae)) (h2 : nextV v a e = none) (hn : ¬ needV s v a) (hs : s.shot = some (x, y, S)) : tickV s v = ([helloM v.ep, rootM v.ep x y (rootH S)], s) := by
  unfold tickV; simp only [ha, h2]; rw [if_neg h1, if_neg hn]; simp only [hs]
section
variable {epoch gone prev : Int} {bs : List BtR} {a : Option Addr} {c : Nat}
theorem atV_made (hM : MadeOf gone prev rows bs) {x y : Int} {i : Nat} (hi : i < bs.length) : atV (madeV epoch gone prev bs a c pA pC prs) x y i = (decide (gone + i = x) && decide (pe prev bs i = y)) := by
  unfold atV madeV
  dsimp only
  rw [List.getElem?_eq_getElem hi]
  obtain ⟨_, e, _⟩ := hM.bts i hi
  dsimp only
  rw [e, show gone + (i : Int) + 1 - 1 = gone + i by omega]
theorem next_none (hM : MadeOf gone prev rows bs) {x y : Int} (h : ∀ i, i ≤ bs.length → ¬ (gone + (i : Int) = x ∧ pe prev bs i = y)) : nextV (madeV epoch gone prev bs a c pA pC prs) x y = none ∧ ¬ (x = (madeV epoch gone prev bs a c pA pC prs).at_ ∧ y = (madeV epoch gone prev bs a c pA pC prs).ae) := by
  have h1 : ¬ (x = (madeV epoch gone prev bs a c pA pC prs).at_ ∧ y = (madeV epoch gone prev bs a c pA pC prs).ae) := fun hh => h bs.length (Nat.le_refl _) ⟨hh.1.symm, hh.2.symm⟩
  refine ⟨?_, h1⟩
  unfold nextV
  rw [if_neg h1]
  refine find_no fun j hj => ?_
  have hj : j < bs.length := hj
  rw [atV_made hM hj]
  have := h j (by omega)
  simp only [Bool.and_eq_false_iff, decide_eq_false_iff_not]
  by_cases e : gone + (j : Int) = x
  · exact .inr fun e2 => this ⟨e, e2⟩
  · exact .inl e
theorem next_zero (hM : MadeOf gone prev rows bs) {y : Int} (hy : y ≠ 0) : nextV (madeV epoch gone prev bs a c pA pC prs) 0 y = none ∧ ¬ (0 = (madeV epoch gone prev bs a c pA pC prs).at_ ∧ y = (madeV epoch gone prev bs a c pA pC prs).ae) :=
  next_none hM fun i hi hh => by
    have h0 := hM.g0
    have hi0 : i = 0 := by omega
    subst hi0
    have := hM.pg.1 (by omega)
    have h2 : prev = y := hh.2
    omega
end
theorem ack_to {kd a e : Int} (h1 : kd = 3) (h2 : 0 ≤ a) : ackV s kd a e = (true, { s with ack := some (a, e) }) := by
  unfold ackV; rw [if_neg (by omega)]
end TL

namespace TL
open Go Go.Proofs
variable {g h : PH} {N : List Nat} {K : Value → PH → Prop} {s p m k : List UInt8} {a : Option Addr} {c : Nat} {l : List PrR}
theorem cNamedX (hs : s.length ≤ 9223372036854775807) (hk : K (.bool (namedB s)) h) : CallH Tryz.prog id_path_named [.string (mk s)] K h := by
  refine F_path_named_ok (LoopP.ind (fun (z : Int × Unit) h' => h' = h ∧ (0 ≤ z.1 ∧ z.1 ≤ s.length) ∧ (s.take z.1.toNat).all (fun b => decide (97 ≤ b.toNat) && decide (b.toNat ≤ 122)) = true) (fun z _ => (s.length - z.1).toNat) ?_ ⟨rfl, ⟨by decide, by show (0 : Int) ≤ _; omega⟩, by simp⟩)
  rintro ⟨i, u⟩ h1 ⟨rfl, ⟨i0, i1⟩, ha⟩
  dsimp only at i0 i1 ha ⊢
  rw [size_mk]
  refine ⟨fun e => ?_, fun e => ?_⟩
  · have e : i < s.length := by simpa using e
    have hit : i.toNat < s.length := by omega
    have hb : byteAt (mk s) i = ((s[i.toNat]).toNat : Int) := by rw [byteAt_mk]; simp [List.getD, hit]
    rw [hb]
    refine ⟨⟨i0, e⟩, fun _ => ⟨i0, e⟩, fun e2 => ?_, fun e2 => ?_⟩
    · have : namedB s = false := by
        have hm := List.getElem_mem hit
        simp only [Bool.or_eq_true, decide_eq_true_eq] at e2
        cases hn : namedB s with
        | false => rfl
        | true =>
          simp only [namedB, Bool.and_eq_true, List.all_eq_true, decide_eq_true_eq] at hn
          have := hn.1 _ hm
          omega
      rw [this] at hk; exact hk
    · simp only [Bool.or_eq_false_iff, decide_eq_false_iff_not] at e2
      rw [wrap64 (n := i + 1) (by omega) (by omega)]
      refine ⟨⟨rfl, ⟨by omega, by omega⟩, ?_⟩, by omega⟩
      rw [show (i + 1).toNat = i.toNat + 1 by omega, List.take_succ_eq_append_getElem hit, List.all_append, ha]
      simp; omega
  · have e : i = s.length := by simp at e; omega
    rw [e] at ha
    simp only [Int.toNat_natCast, List.take_length] at ha
    have : namedB s = (decide ((s.length : Int) ≥ 1) && decide ((s.length : Int) ≤ 8)) := by
      unfold namedB; rw [ha]
      simp only [Bool.true_and]
      congr 1
      · simp; omega
      · simp; omega
    rw [← this]; exact hk
theorem cStrCutX (hs : s.length ≤ 9223372036854775807) (hk : ((47 : UInt8) ∉ s → K (.tuple #[.string (mk s), .string (mk []), .bool false]) h)) (hk2 : (47 : UInt8) ∈ s → K (.tuple #[.string (mk (s.takeWhile (· != 47))), .string (mk (s.drop ((s.takeWhile (· != 47)).length + 1))), .bool true]) h) :
    CallH Tryz.prog id_strings_Cut [.string (mk s), .string (⟨#[47]⟩ : ByteArray)] K h := by
  have key : ∀ {K' : Value → PH → Prop}, K' (.int .i64 (idxB s 47)) h → CallH Tryz.prog id_internal_stringslite_Index [.string (mk s), .string (⟨#[47]⟩ : ByteArray)] K' h := by
    intro K' hk'
    refine F_internal_stringslite_Index_ok ⟨fun e => ?_, fun _ => ⟨fun _ => ⟨by decide, cIndexByte (c := 47) ⟨_, rfl, hk'⟩⟩, fun e => absurd e (by decide)⟩⟩
    have e1 : ((((⟨#[47]⟩ : ByteArray).size : Int) == (0 : Int)) || strEq (⟨#[47]⟩ : ByteArray) (mk s)) = strEq (mk [47]) (mk s) := by
      rw [show (((⟨#[47]⟩ : ByteArray).size : Int) == (0 : Int)) = false by decide, Bool.false_or]; rfl
    rw [e1, strEq_mk] at e
    rw [← e] at hk'; exact hk'
  refine F_strings_Cut_ok (F_internal_stringslite_Cut_ok (key ⟨_, rfl, fun e => ?_, fun e => ?_⟩))
  · have e : ¬ idxB s 47 < 0 := by simp at e; omega
    have hm : (47 : UInt8) ∈ s := by
      by_cases h : (47 : UInt8) ∈ s
      · exact h
      · exact absurd (idxB_none.2 h) e
    obtain ⟨i, hi, hlt, ht, hd⟩ := idxB_some e
    rw [hi, size_mk, show (((⟨#[47]⟩ : ByteArray).size : Nat) : Int) = 1 by decide, wrap64 (by omega) (by omega)]
    refine ⟨⟨by omega, by omega, by omega⟩, ⟨by omega, by omega, by omega⟩, _, _, _, rfl, ?_⟩
    have hlen : (s.takeWhile (· != 47)).length = i := by rw [← ht, List.length_take]; omega
    have := hk2 hm
    rw [hlen, ← ht] at this
    rw [subS_mk, subS_mk]
    have e1 : ((s.drop (0 : Int).toNat).take ((i : Int).toNat - (0 : Int).toNat)) = s.take i := by simp
    have e2 : ((s.drop ((i : Int) + 1).toNat).take ((s.length : Int).toNat - ((i : Int) + 1).toNat)) = s.drop (i + 1) := by
      rw [show ((i : Int) + 1).toNat = i + 1 by omega, List.take_of_length_le (by rw [List.length_drop]; omega)]
    rw [e1, e2]; exact this
  · have e : idxB s 47 < 0 := by simp at e; omega
    exact ⟨_, _, _, rfl, hk (idxB_none.1 e)⟩
theorem cCutX (hs : p.length ≤ 9223372036854775807) (hk : K (.tuple #[.string (mk (cutV p).1), .string (mk (cutV p).2.1), .bool (cutV p).2.2]) h) : CallH Tryz.prog id_path_Cut [.string (mk p)] K h := by
  refine F_path_Cut_ok (cStrCutX hs (fun hm => ⟨_, _, _, rfl, fun e => absurd e (by decide), fun _ => ?_⟩) fun hm => ⟨_, _, _, rfl, fun _ => ?_, fun e => absurd e (by decide)⟩)
  · have : cutB p = none := by unfold cutB; rw [if_neg hm]
    rw [cut_none this] at hk; exact hk
  · have hlen : (p.takeWhile (· != 47)).length ≤ p.length := (List.takeWhile_sublist _).length_le
    refine cNamedX (by omega) ⟨_, rfl, fun e => cKey ⟨_, rfl, fun e2 => ?_, fun e2 => ?_⟩, fun e => ?_⟩
    · have : cutB p = none := by unfold cutB; rw [if_pos hm, if_neg]; simp at e e2 ⊢; simp [e2]
      rw [cut_none this] at hk; exact hk
    · have : cutB p = some (p.takeWhile (· != 47), p.drop ((p.takeWhile (· != 47)).length + 1)) := by unfold cutB; rw [if_pos hm, if_pos]; simp at e e2 ⊢; exact ⟨e, e2⟩
      rw [cut_some this] at hk; exact hk
    · have : cutB p = none := by unfold cutB; rw [if_pos hm, if_neg]; simp at e ⊢; simp [e]
      rw [cut_none this] at hk; exact hk
theorem cMayX (hl : SR EncPr h a l) (hn : l.length ≤ 1000000) (hs : ∀ x ∈ l, x.p.length ≤ 9223372036854775807) (hk : K (.bool (mayB l)) h) : CallH Tryz.prog id_bucket_May [.slice a l.length c] K h := by
  refine F_bucket_May_ok (LoopP.ind (fun (z : Int × Unit) h' => h' = h ∧ ∃ i : Nat, z.1 = i ∧ i ≤ l.length ∧ (l.take i).all okPr = true ∧ Up (l.take i)) (fun z _ => (l.length - z.1).toNat) ?_ ⟨rfl, 0, rfl, by omega, by simp, by simp [Up]⟩)
  rintro ⟨zi, u⟩ h1 ⟨rfl, i, hzi, hi, ha, hu⟩
  dsimp only at hzi
  subst hzi
  dsimp only
  refine ⟨fun e => ?_, fun e => ?_⟩
  · have e : i < l.length := by simpa using e
    have hit : ((i : Nat) : Int).toNat = i := by omega
    obtain ⟨b, o, hA, hr⟩ := hl.get e
    have hm := List.getElem_mem e
    rw [hit]
    refine ⟨b, o, ⟨hA, by omega, by omega⟩, _, _, hr _ 0 2 rfl (by decide), cCutX (hs _ hm) ⟨_, _, _, rfl, fun e2 => ?_, fun e2 => ?_⟩⟩
    · have hok : okPr l[i] = true := by
        simp only [size_mk, Bool.or_eq_false_iff, Bool.not_eq_false', decide_eq_false_iff_not] at e2
        simp only [okPr, Bool.and_eq_true, decide_eq_true_eq]
        exact ⟨e2.1, by omega⟩
      have hsn : l.take (i + 1) = l.take i ++ [l[i]] := (List.take_append_getElem e).symm
      have hal : (l.take (i + 1)).all okPr = true := by rw [hsn, List.all_append, ha]; simpa using hok
      by_cases h0 : i = 0
      · subst h0
        refine ⟨0, 0, fun e => by simp at e, mk [], fun e => by simp at e, fun e => by simp at e, fun _ => ?_⟩
        refine ⟨⟨rfl, 1, by rw [wrap64] <;> omega, by omega, hal, ?_⟩, by rw [wrap64] <;> omega⟩
        rw [hsn]; simp [Up]
      · have w1 : IntKind.wrap .i64 (((i : Nat) : Int) - (1 : Int)) = ((i - 1 : Nat) : Int) := by rw [wrap64] <;> omega
        have hi1 : ((i - 1 : Nat) : Int).toNat = i - 1 := by omega
        rw [w1, hi1]
        obtain ⟨b1, o1, hA1, hr1⟩ := hl.get (i := i - 1) (by omega)
        refine ⟨b1, o1, fun _ => ⟨hA1, by omega, by omega⟩, _, fun _ => hr1 _ 0 1 rfl (by decide), ?_⟩
        rw [strLt_mk]
        refine ⟨fun e3 => ?_, fun e3 => ?_⟩
        · have e3 : ¬ l[i - 1].p < l[i].p := by
            rw [Bool.and_eq_true] at e3; simpa using e3.2
          have : mayB l = false := by
            unfold mayB
            rw [Bool.and_eq_false_iff]
            refine .inr (decide_eq_false fun h => e3 (List.pairwise_iff_getElem.1 h (i - 1) i (by omega) e (by omega)))
          rw [this] at hk; exact hk
        · have e3 : l[i - 1].p < l[i].p := by
            rw [Bool.and_eq_false_iff] at e3
            rcases e3 with e3 | e3
            · simp at e3; omega
            · simpa using e3
          refine ⟨⟨rfl, i + 1, by rw [wrap64] <;> omega, by omega, hal, ?_⟩, by rw [wrap64] <;> omega⟩
          rw [hsn]
          refine up_snoc hu fun y hy => ?_
          have : (l.take i).getLast? = some l[i - 1] := by
            rw [List.getLast?_eq_getElem?, List.length_take, Nat.min_eq_left (by omega), List.getElem?_take_of_lt (by omega)]
            exact List.getElem?_eq_getElem (by omega)
          rw [this] at hy; cases hy; exact e3
    · have hok : okPr l[i] = false := by
        simp only [size_mk, Bool.or_eq_true, Bool.not_eq_true', decide_eq_true_eq] at e2
        simp only [okPr, Bool.and_eq_false_iff, decide_eq_false_iff_not]
        rcases e2 with e2 | e2
        · exact .inl e2
        · exact .inr (by omega)
      have : mayB l = false := by
        unfold mayB
        rw [Bool.and_eq_false_iff]
        exact .inl (by rw [List.all_eq_false]; exact ⟨_, hm, by simp [hok]⟩)
      rw [this] at hk; exact hk
  · have e : i = l.length := by simp at e; omega
    have : mayB l = true := by
      rw [e, List.take_length] at ha hu
      simp [mayB, ha, hu]
    rw [this] at hk; exact hk
theorem cOfNoX (hl : SR EncPr h a l) (hn : l.length ≤ 1000) (hs : ∀ x ∈ l, x.p.length ≤ 9223372036854775807) (hno : ¬ (mayB l = true ∧ l.length ≤ 48)) (hk : ∀ e : Int, (e = 1 ∨ e = 6) → K (.tuple #[.pointer none, .int .i64 e]) h) : CallH Tryz.prog id_tree_Of [.slice a l.length c] K h := by
  by_cases hm : mayB l = true
  · have h48 : ¬ l.length ≤ 48 := fun h => hno ⟨hm, h⟩
    exact F_tree_Of_ok (cMayX hl (by omega) hs ⟨_, rfl, fun e => (by rw [hm] at e; cases e), fun _ => ⟨fun _ => hk 6 (.inr rfl), fun e => by have := of_decide_eq_false e; omega⟩⟩)
  · exact F_tree_Of_ok (cMayX hl (by omega) hs ⟨_, rfl, fun _ => hk 1 (.inl rfl), fun e => by simp [hm] at e⟩)
theorem cWNewX (sp : Spl g N h) (hl : SR EncPr g a l) (hn : l.length ≤ 1000) (hs : ∀ x ∈ l, x.p.length ≤ 9223372036854775807) {R : List UInt8} (hR : R.length = 32)
    (hno : ¬ (mayB l = true ∧ l.length ≤ 48) → ∀ e : Int, (e = 1 ∨ e = 6) → K (.tuple #[.pointer none, .int .i64 e]) h)
    (hyes : mayB l = true → l.length ≤ 48 → ∀ wb N' g' h', WalkAt g' N' h' wb (wNew l R) → Stp g N h g' (N' ++ N) h' → Dj N' N → K (.tuple #[.pointer (some ⟨wb, 0, none⟩), .int .i64 (0 : Int)]) h') :
    CallH Tryz.prog id_walk_New [.slice a l.length c, .agg (((bi R).map (Value.int .u8) ++ [])).toArray] K h := by
  by_cases hok : mayB l = true ∧ l.length ≤ 48
  · exact cWNew sp hl hn (fun x hx => by have := (ok_len ((may_ok hok.1).1 x hx)).1; omega) hR (fun hn => absurd hok hn) hyes
  · refine F_walk_New_ok (by rw [bi_len]; exact hR) (cOfNoX (hl.sub sp.sub) hn hs hok fun e he => ⟨_, _, rfl, fun _ => hno hok e he, fun e2 => ?_⟩)
    rcases he with rfl | rfl <;> simp at e2
end TL

namespace TL
open Go Go.Proofs
variable {g h : PH} {N : List Nat} {K : Value → PH → Prop} {sb wb : Nat}
variable {rA eA pA : Option Addr} {rC eC pC : Nat} {rows : List OsR} {eps : List Int} {prs : List PrR} {r0 r1 : Int}
theorem hv_root (S : List PrR) : hv (rootH S) = (bi (nd S 1)).map (Value.int .u8) := rfl
/-- what is read of a root's message -/
theorem root_rd {a : Option Addr} {f1 f2 : MsgF} {ep at_ ae : Int} {S : List PrR} (x : MsgsIn h a [f1, f2]) (e : f2.m = rootM ep at_ ae (rootH S)) : ∃ b o, a = some ⟨b, o, none⟩ ∧ ∀ h', h.Sub h' → h'.rds b (o + (1 : Int).toNat * 107) 1 = some [.int .u8 4] ∧ h'.rds b ((o + (1 : Int).toNat * 107) + 2) 1 = some [.int .i64 at_] ∧ h'.rds b ((o + (1 : Int).toNat * 107) + 3) 1 = some [.int .i64 ae] ∧ h'.rds b ((o + (1 : Int).toNat * 107) + 8) 32 = some ((bi (nd S 1)).map (Value.int .u8) ++ []) := by
  obtain ⟨b, o, hA, _⟩ := x.rd (i := 1) (by simp)
  refine ⟨b, o, hA, fun h' hs => ?_⟩
  obtain ⟨b', o', hA', rF⟩ := (x.sub hs).rd (i := 1) (by simp)
  rw [hA] at hA'; cases hA'
  have w10' : ∀ r : List Value, (hv (rootH S) ++ r).take 32 = hv (rootH S) := fun r => List.take_left' (hv_len _)
  have w10r : hv (rootH S) = (bi (nd S 1)).map (Value.int .u8) ++ [] := by
    rw [List.append_nil]; exact hv_root S
  have w10 := rF 8 32 (hv (rootH S)) (by decide) (by
    simp only [List.getElem_cons_succ, List.getElem_cons_zero]; unfold encMsg; rw [e]
    unfold rootM
    dsimp only
    generalize rootH S = rr at w10' ⊢
    exact w10' _) ((o + (1 : Int).toNat * 107) + 8) rfl
  rw [w10r] at w10
  refine ⟨rF 0 1 [.int .u8 4] (by decide) ?_ (o + (1 : Int).toNat * 107) rfl, rF 2 1 [.int .i64 at_] (by decide) ?_ ((o + (1 : Int).toNat * 107) + 2) rfl, rF 3 1 [.int .i64 ae] (by decide) ?_ ((o + (1 : Int).toNat * 107) + 3) rfl, w10⟩
  all_goals simp only [List.getElem_cons_succ, List.getElem_cons_zero]; unfold encMsg; rw [e]; rfl
/-- an answered walk beside a ship -/
structure CopI (h0 : PH) (sb : Nat) (sS : ShS) (Ns : List Nat) (T : List PrR) (wb : Nat) (g : PH) (N : List Nat) (h : PH) (s : WS) (n : Nat) : Prop where
  f : ∃ W X, FewV s W X T
  v : WOk s
  R : s.R = nd T 1
  t : s.T.length ≤ 31 + n
  z : wSize s.A + n ≤ 31
  x : WalkAt g N h wb s
  sh : ShipAt g Ns h sb sS
  dj : Dj Ns N
  st : Stp h0 [] h0 g (N ++ Ns) h
theorem CopI.grow {h0 : PH} {sS : ShS} {Ns : List Nat} {T : List PrR} {s : WS} {n : Nat} {h' : PH} (I : CopI h0 sb sS Ns T wb g N h s n) (s' : h.Sub h') : CopI h0 sb sS Ns T wb g N h' s n :=
  ⟨I.f, I.v, I.R, I.t, I.z, I.x.keep (PH.Sub.rf _) fun q _ o e => s' q o e, I.sh.keep (PH.Sub.rf _) fun q _ o e => s' q o e, I.dj, I.st.trans (I.st.spl.grow s')⟩
theorem ShipCopies_den {qA fA sA bA : Option Addr} {qC fC sC bC : Nat} {rows2 : List OsR} {eps2 : List Int} {prs2 base : List PrR} {q0 q1 : Int} (ro : RowOk h rA rows eA eps pA prs) (ro2 : RowOk h qA rows2 fA eps2 sA prs2) (hb : SR EncPr h bA base) (hbp : ∀ x ∈ base, x.p.length ≤ 9223372036854775807) (hk : ∀ h', h.Sub h' → K (.bool true) h') :
    CallH Tryz.prog id_law20_ShipCopies [rowV r0 r1 rA rows rC eA eps eC pA prs pC, rowV q0 q1 qA rows2 qC fA eps2 fC sA prs2 sC, .slice bA base.length bC] K h := by
  refine F_law20_ShipCopies_ok ⟨fun _ h' => h' = h ∧ gRow rows eps.length prs = false ∧ gRow rows2 eps2.length prs2 = false ∧ base.length ≤ 200, cGreat20 ro.rw ro.op ro.pr ⟨_, rfl, fun hg => cGreat20 ro2.rw ro2.op ro2.pr ⟨_, rfl, fun _ => wk20 (PH.Sub.rf _) hk, fun hg2 => ?_⟩, fun _ => wk20 (PH.Sub.rf _) hk⟩, ?_⟩
  · simp only [Bool.or_eq_false_iff, decide_eq_false_iff_not] at hg2
    exact ⟨rfl, hg, hg2.1, by omega⟩
  rintro _ h0 ⟨rfl, hg, hg2, hbl⟩
  refine cMadeS (Spl.start _) ro hg fun gone prev bs a c g1 h1 hM hv st1 _ => ⟨_, _, _, _, _, _, _, _, _, _, rfl, ?_⟩
  obtain ⟨n80, _, _, _⟩ := gRow_no hg
  obtain ⟨m80, _, _, _⟩ := gRow_no hg2
  have l1 := hM.len
  have z1 := hM.g0
  have z2 := hM.g1
  refine st1.spl.call (K := fun v g' => ∃ t0 t1, v = .tuple #[.pointer t0, .int .i64 t1] ∧ g1.Sub g' ∧ ((okP prs ∧ t1 = (0 : Int) ∧ ∃ b, Tr b g' prs ∧ t0 = some ⟨b, 0, none⟩) ∨ (¬ okP prs ∧ t1 ≠ 0)))
    (cOf3 (l := prs) hv.prs hv.pn hv.pl (fun hok b h' ht _ c => ⟨_, _, rfl, c.sub0, .inl ⟨hok, rfl, b, ht, rfl⟩⟩) fun hn e he _ => ⟨_, e, rfl, PH.Sub.rf _, .inr ⟨hn, by rcases he with rfl | rfl <;> decide⟩⟩) ?_
  rintro _ g2 h2 ⟨t0, t1, rfl, hgs, hor⟩ st
  obtain ⟨st2, _⟩ := st hgs
  have hat : -9223372036854775808 ≤ (madeV 3 gone prev bs a c pA pC prs).at_ ∧ (madeV 3 gone prev bs a c pA pC prs).at_ ≤ 9223372036854775807 := by
    show _ ≤ gone + bs.length ∧ gone + bs.length ≤ _
    omega
  obtain ⟨nz1, nz2⟩ := next_zero (epoch := 3) (a := a) (c := c) (pA := pA) (pC := pC) (prs := prs) hM (y := 9) (by decide)
  refine ⟨t0, t1, rfl, cShipNew st2.spl fun sb N3 h3 x3 st3 d3 => ⟨_, rfl, ?_⟩⟩
  rw [List.append_nil] at st3
  refine cAck x3 st3.spl z32 z32 z32 fun g4 h4 x4 st4 => ⟨_, rfl, ?_⟩
  rw [ack_to rfl (by decide)] at x4
  refine cTickF (v := madeV 3 gone prev bs a c pA pC prs) x4 st4.spl ((hv.sub st2.gs).sub (st3.gs.tr st4.gs)) hat (by decide) fun g5 Ns h5 a5 c5 L5 x5 m5 e5 st5 => ⟨_, _, _, rfl, ?_⟩
  have st15 := st1.trans (st2.trans (st3.trans (st4.trans st5)))
  have s05 : h0.Sub h5 := st15.gh
  rcases hor with ⟨hok, rfl, tb, tr2, rfl⟩ | ⟨hno, ht1⟩
  case inr =>
    rw [tick_bad (s := ⟨some (0, 9), none, []⟩) rfl nz2 nz1 (by unfold needV; trivial) hno] at e5
    obtain ⟨f1, rfl, _⟩ := maps1 e5
    exact ⟨fun _ => ⟨fun _ => wk20 s05 hk, fun e => by simp at e⟩, fun e => by simp at e; exact absurd e ht1⟩
  rw [tick_new (s := ⟨some (0, 9), none, []⟩) rfl nz2 nz1 (by unfold needV; trivial) hok] at e5 x5
  obtain ⟨f1, f2, rfl, q1, q2⟩ := maps2 e5
  have x5 : ShipAt g5 Ns h5 sb ⟨some (0, 9), some (gone + bs.length, pe prev bs bs.length, prs), textsT prs⟩ := x5
  obtain ⟨bR, oR, hAR, rdR⟩ := root_rd m5 q2
  obtain ⟨w0, w2, w3, w8⟩ := rdR h5 st5.spl.sub
  have tr5 : Tr tb g5 prs := tr2.sub (st3.gs.tr (st4.gs.tr st5.gs))
  refine ⟨fun e => by simp at e, fun _ => ⟨fun _ h' => h' = h5, ?_, ?_⟩⟩
  · refine ⟨bR, oR, fun _ => ⟨hAR, by decide, by simp⟩, 4, fun _ => w0, bR, oR, fun _ => ⟨hAR, by decide, by simp⟩, bi (nd prs 1), by rw [bi_len, nd_len], fun _ => w8, fun _ => ?_, fun e => by simp at e⟩
    refine cRoot (tr5.sub st5.spl.sub) ⟨bi (nd prs 1), by rw [bi_len, nd_len], rfl, fun _ => w8, bR, oR, fun _ => ⟨hAR, by decide, by simp⟩, _, fun _ => w2, bR, oR, fun _ => ⟨hAR, by decide, by simp⟩, _, fun _ => w3, fun e => ?_, fun _ => rfl⟩
    exfalso
    rw [beq_self_eq_true] at e
    simp at e
  rintro _ _ rfl
  refine ⟨bR, oR, ⟨hAR, by decide, by simp⟩, bi (nd prs 1), by rw [bi_len, nd_len], w8, ?_⟩
  refine cWNewX (st5.spl.less (M := []) fun _ hm => by cases hm) (hb.sub st15.gs) (by omega) hbp (nd_len _ _) (fun _ e he => ⟨_, _, rfl, fun _ => wk20 s05 hk, fun e2 => by rcases he with rfl | rfl <;> simp at e2⟩) fun m1 m2 wb N6 g6 h6 x6 st6 _ => ⟨_, _, rfl, fun e => by simp at e, fun _ => ?_⟩
  rw [List.append_nil] at st6
  obtain ⟨sf6, d6⟩ := st6.frame (N := []) (M := Ns) st5.spl (Dj.nil Ns)
  have sh6 := x5.stp st6 (Dj.nil Ns)
  have st16 := st15.trans sf6
  refine cMadeS sf6.spl (ro2.sub st16.gs) hg2 fun gone2 prev2 bs2 a2 c2 g7 h7 hM2 hv2 st7 same7 => ⟨_, _, _, _, _, _, _, _, _, _, rfl, ?_⟩
  have l2 := hM2.len
  have z3 := hM2.g0
  have z4 := hM2.g1
  have x7 := x6.keep st7.gs fun q hq o e => same7 q (List.mem_append_left _ hq) o e
  have sh7 := sh6.keep st7.gs fun q hq o e => same7 q (List.mem_append_right _ hq) o e
  have hT0 : (wNew base (nd prs 1)).T.length ≤ 31 := Nat.le_of_eq (texts_len base)
  have f0 : FewV (wNew base (nd prs 1)) (fun _ => nd prs 1) (fun _ => none) prs := FewV.new m1 m2 rfl
  have v0 : WOk (wNew base (nd prs 1)) := WOk.new m1 m2 (nd_len _ _)
  have zz0 := wSize_new base (nd prs 1)
  have R0 : (wNew base (nd prs 1)).R = nd prs 1 := by unfold wNew; dsimp only
  generalize wNew base (nd prs 1) = w0' at *
  refine ⟨fun _ h' => ∃ Ns g' , CopI h0 sb ⟨some (0, 9), some (gone + bs.length, pe prev bs bs.length, prs), textsT prs⟩ Ns prs wb g' N6 h' w0' 0, ⟨fun e => ?_, fun _ => ⟨Ns, g7, ⟨_, _, f0⟩, v0, R0, by omega, by omega, x7, sh7, d6, st16.trans st7⟩⟩, ?_⟩
  · simp only [Bool.and_eq_true, decide_eq_true_eq] at e
    obtain ⟨e1, e2⟩ := e
    have e1 : gone2 + (bs2.length : Int) ≤ IntKind.wrap .i64 (gone + (bs.length : Int) + 64) := e1
    have e2 : gone + (bs.length : Int) ≥ 1 := e2
    rw [wrap64 (by omega) (by omega)] at e1
    obtain ⟨ny1, ny2⟩ := next_zero (epoch := 4) (a := a2) (c := c2) (pA := sA) (pC := sC) (prs := prs2) hM2 (y := 9) (by decide)
    have hneed : ¬ needV ⟨some (0, 9), some (gone + bs.length, pe prev bs bs.length, prs), textsT prs⟩ (madeV 4 gone2 prev2 bs2 a2 c2 sA sC prs2) 0 := by
      unfold needV
      show ¬ ((gone + (bs.length : Int) ≤ 0 ∧ gone + (bs.length : Int) < gone2 + (bs2.length : Int)) ∨ (gone + (bs.length : Int) ≤ 9223372036854775743 ∧ gone2 + (bs2.length : Int) > gone + (bs.length : Int) + 64))
      omega
    have ht := tick_old (s := ⟨some (0, 9), some (gone + bs.length, pe prev bs bs.length, prs), textsT prs⟩) rfl ny2 ny1 hneed rfl
    refine cTickF (v := madeV 4 gone2 prev2 bs2 a2 c2 sA sC prs2) sh7 (st7.spl.right) hv2 (by show _ ≤ gone2 + bs2.length ∧ gone2 + bs2.length ≤ _; omega) (by show (textsT prs).length ≤ _; rw [texts_len]; decide) fun g8 N8 h8 a8 c8 L8 x8 m8 e8 st8 => ⟨_, _, _, rfl, ?_⟩
    rw [ht] at x8
    obtain ⟨sf8, d8⟩ := st8.frameR st7.spl d6.symm
    exact ⟨N8, g8, ⟨_, _, f0⟩, v0, R0, by omega, by omega, x7.stp st8 d6.symm, x8, d8.symm, st16.trans (st7.trans sf8)⟩
  rintro _ h9 ⟨Nq, g9, I9⟩
  clear x7 sh7 d6 sf6 sh6
  refine ⟨fun _ h' => ∃ g' N' s n, CopI h0 sb ⟨some (0, 9), some (gone + bs.length, pe prev bs bs.length, prs), textsT prs⟩ Nq prs wb g' N' h' s n ∧ n ≤ 31 ∧ ∀ c, s.A c = none, ?_, ?_⟩
  · refine LoopP.ind (fun (z : Int × Unit) h' => ∃ (i : Nat) (g' : PH) (N' : List Nat) (s : WS), z.1 = i ∧ i ≤ 31 ∧ CopI h0 sb ⟨some (0, 9), some (gone + bs.length, pe prev bs bs.length, prs), textsT prs⟩ Nq prs wb g' N' h' s i) (fun z _ => (40 - z.1).toNat) ?_ ⟨0, g9, N6, w0', rfl, Nat.zero_le _, I9⟩
    rintro ⟨zi, u⟩ h10 ⟨i, g10, N10, s, hzi, hi, I⟩
    dsimp only at hzi
    subst hzi
    dsimp only
    have hwi : IntKind.wrap .i64 (((i : Nat) : Int) + (1 : Int)) = ((i + 1 : Nat) : Int) := by rw [wrap64] <;> omega
    have hT := I.t
    have hZ := I.z
    rw [hwi]
    refine ⟨fun _ => ?_, fun e => by have := of_decide_eq_false e; omega⟩
    refine ⟨fun _ h' => i < 31 ∧ ∃ g' N' s, CopI h0 sb ⟨some (0, 9), some (gone + bs.length, pe prev bs bs.length, prs), textsT prs⟩ Nq prs wb g' N' h' s (i + 1), ?_, fun _ h' ⟨hi', g', N', s', q⟩ => ⟨⟨i + 1, g', N', s', rfl, by omega, q⟩, by omega⟩⟩
    refine cWWantG I.x I.st.spl I.v.a0 fun lA lC g11 h11 s11 st11 hl11 => ⟨_, _, _, rfl, fun e => ?_, fun e => ?_⟩
    · have hw : wList s.A = [] := by
        have e : (((wList s.A).map askP).take (1 : Int).toNat).length = 0 := by simpa using e
        have e : min 1 (wList s.A).length = 0 := by rw [List.length_take, List.length_map] at e; exact e
        exact List.length_eq_zero_iff.1 (by omega)
      exact ⟨g10, N10, s, i, I.grow s11, hi, I.v.none hw⟩
    · have e : (((wList s.A).map askP).take (1 : Int).toNat).length ≠ 0 := by simpa using e
      have h00 : 0 < (((wList s.A).map askP).take (1 : Int).toNat).length := by omega
      obtain ⟨c, c1, c2, hc, hc2⟩ := askGet I.v.a0 h00
      obtain ⟨bb, oo, hA11, hr11⟩ := (hl11.sub st11.spl.sub).get h00
      have rd0 := hr11 _ 0 1 rfl (by decide)
      have rd1' := hr11 _ 1 1 rfl (by decide)
      rw [← hc2] at rd0 rd1'
      obtain ⟨y, hy⟩ := Option.isSome_iff_exists.1 hc
      obtain ⟨W, X, hf⟩ := I.f
      obtain ⟨hfit, W', t', hf'⟩ := hf.answer hok.1 hok.2 hc
      have hyT := (hf.ask hy).2.2.2.1
      have hls := answerW_less c1 c2 hok.1 hok.2 (by rw [hy, hyT] : s.A c = some (nd prs c))
      have kp := answerW_keep (s := s) (T := prs) (c := c)
      have I11 := I.grow s11
      have sp11 := I11.st.spl
      obtain ⟨r1', r2', r3'⟩ := askP_in c c2 c1
      have enn : 0 ≤ (askP c).1 ∧ (askP c).1 ≤ 4 ∧ 0 ≤ (askP c).2 ∧ (askP c).2 < ((2 ^ (askP c).1.toNat : Nat) : Int) := by
        refine ⟨by show (0 : Int) ≤ ((c.log2 : Nat) : Int); omega, by show ((c.log2 : Nat) : Int) ≤ 4; omega, by show (0 : Int) ≤ ((c - 2 ^ c.log2 : Nat) : Int); omega, ?_⟩
        show ((c - 2 ^ c.log2 : Nat) : Int) < ((2 ^ (((c.log2 : Nat) : Int)).toNat : Nat) : Int)
        rw [Int.toNat_natCast]
        exact Int.ofNat_lt.2 r2'
      -- the state behind an answer
      have nxt : ∀ {g' : PH} {N' : List Nat} {h' : PH}, WalkAt g' N' h' wb (answerW s prs c).2 → ShipAt g' Nq h' sb ⟨some (0, 9), some (gone + bs.length, pe prev bs bs.length, prs), textsT prs⟩ → Dj Nq N' → Stp h0 [] h0 g' (N' ++ Nq) h' → i < 31 ∧ ∃ g' N' s, CopI h0 sb ⟨some (0, 9), some (gone + bs.length, pe prev bs bs.length, prs), textsT prs⟩ Nq prs wb g' N' h' s (i + 1) := fun {g' N' h'} x' sh' d' st' =>
        ⟨by omega, g', N', _, ⟨_, _, hf'⟩, I.v.answer, kp.R.trans I.R, by have := kp.t; omega, by omega, x', sh', d', st'⟩
      refine ⟨bb, oo, ⟨hA11, by decide, by omega⟩, _, rd0, bb, oo, ⟨hA11, by decide, by omega⟩, _, rd1', ?_, ?_⟩
      all_goals
        refine cAsk I11.sh sp11.right z32 z32 z32 (fun hno => absurd ⟨rfl, rfl, enn⟩ (hno _ _ _ rfl)) (fun x y S hS _ _ h9 j hj hj16 a' c' B' h' hb' cc' => ?_) (fun x y S hS _ _ lv j hlv hj hlv4 hjl => ?_)
        · cases hS
          have hc16 : 16 ≤ c := by
            have := askP_16 c c2 c1
            rw [h9] at this
            omega
          obtain ⟨_, e2⟩ := askP_leaf c c2 hc16
          have hjc : j = c - 16 := by omega
          subst hjc
          have ea : answerW s prs c = pageW s (askP c).2 (partB prs (c - 16)) := by unfold answerW; rw [if_pos hc16, e2]
          have st12 := sp11.new cc'
          have sr12 : SR EncPr (PH.plus g10 h' B') a' (partB prs (c - 16)) := (hb'.keep fun b hb o e => by rw [plus_in hb]; exact e).sr
          have hokp := part_ok hok.1 hok.2 (c - 16)
          refine ⟨_, _, _, _, _, _, _, _, _, _, Z32, z32, _, _, Z32, z32, Z32, z32, _, _, _, _, rfl, fun st h' => st.1 = true ∧ i < 31 ∧ ∃ g' N' s, CopI h0 sb ⟨some (0, 9), some (gone + bs.length, pe prev bs bs.length, prs), textsT prs⟩ Nq prs wb g' N' h' s (i + 1), ⟨fun e => absurd e (by decide), fun _ => ⟨fun _ => ?_, fun e => absurd e (by decide)⟩⟩, ?_⟩
          · refine cWPageV (I11.x.keep st12.gs fun q _ o e => cc'.sub0 q o e) st12.spl.left sr12 (by have := hokp.2.2; omega) (fun x hx => by have := (ok_len ((may_ok hokp.1).1 x hx)).1; omega) (by have := I11.t; omega) fun g13 N13 h13 x13 st13 => ⟨_, rfl, ?_⟩
            rw [← ea] at x13 ⊢
            obtain ⟨sf13, d13⟩ := st13.frame st12.spl I11.dj
            exact ⟨hfit, nxt x13 ((I11.sh.keep st12.gs fun q _ o e => cc'.sub0 q o e).stp st13 I11.dj) d13 (I11.st.trans (st12.trans sf13))⟩
          · rintro ⟨b, u⟩ h' ⟨rfl, q⟩
            exact ⟨fun e => by simp at e, fun _ => q⟩
        · cases hS
          have hc16 : c < 16 := (askP_16 c c2 c1).2 (by rw [hlv]; omega)
          obtain ⟨q1', q2', q3'⟩ := askP_kids c hc16 c1
          have elv : lv = c.log2 := by
            have : ((c.log2 : Nat) : Int) = (lv : Int) := hlv
            omega
          have ej : j = c - 2 ^ c.log2 := by
            have : ((c - 2 ^ c.log2 : Nat) : Int) = (j : Int) := hj
            omega
          subst elv ej
          have e2 : 2 ^ (c.log2 + 1) + (2 * (c - 2 ^ c.log2) + 1) = 2 * c + 1 := by omega
          rw [q3', e2]
          have ea : answerW s prs c = nodeW s (askP c).1 (askP c).2 (nd prs (2 * c)) (nd prs (2 * c + 1)) := by unfold answerW; rw [if_neg (by omega)]
          refine ⟨_, _, _, _, _, _, _, _, _, _, Z32, z32, _, _, bi (nd prs (2 * c)), by rw [bi_len, nd_len], bi (nd prs (2 * c + 1)), by rw [bi_len, nd_len], _, _, _, _, rfl, fun st h' => st.1 = true ∧ i < 31 ∧ ∃ g' N' s, CopI h0 sb ⟨some (0, 9), some (gone + bs.length, pe prev bs bs.length, prs), textsT prs⟩ Nq prs wb g' N' h' s (i + 1), ⟨fun _ => ?_, fun e => absurd e (by decide)⟩, ?_⟩
          · refine cWNodeV I11.x sp11.left (nd_len _ _) (nd_len _ _) (by have := I11.t; omega) fun N13 h13 x13 st13 => ⟨_, rfl, ?_⟩
            rw [← ea] at x13 ⊢
            obtain ⟨sf13, d13⟩ := st13.frame sp11 I11.dj
            exact ⟨fun e => (by rw [hfit] at e; cases e), fun _ => ⟨rfl, nxt x13 (I11.sh.stp st13 I11.dj) d13 (I11.st.trans sf13)⟩⟩
          · rintro ⟨b, u⟩ h' ⟨rfl, q⟩
            exact ⟨fun e => by simp at e, fun _ => q⟩
  rintro _ h10 ⟨g10, N10, s, n, I, hn, hd⟩
  have hT := I.t
  have s010 : h0.Sub h10 := I.st.gh
  have pr10 : SR EncPr h10 pA prs := ro.pr.sub s010
  have tl : ∀ S : List PrR, (textsT S).length = 31 := texts_len
  -- the texts collide
  have coll : ∀ {h6 : PH} {mA : Option Addr} {mC : Nat} {m : List PrR}, h10.Sub h6 → SR EncPr h6 mA m → mayB m = true → m.length ≤ 48 → ¬ (∀ i, i < 16 → wPart s i = partB prs i) →
                                    CallH Tryz.prog id_walk_Walk_Texts [.pointer (some ⟨wb, 0, none⟩)] (fun v_27 h37 =>
                                      ∃ (tA_1 : Option Addr) (tN_1 tC_1 : Nat), v_27 = .slice tA_1 tN_1 tC_1 ∧
                                      CallH Tryz.prog id_ship_Ship_Texts [.pointer (some ⟨sb, 0, none⟩)] (fun v_28 h38 =>
                                        ∃ (tA_2 : Option Addr) (tN_2 tC_2 : Nat), v_28 = .slice tA_2 tN_2 tC_2 ∧
                                        ∃ vs : List Value, srcH h38 tA_2 (tN_2 * 1) vs ∧
                                        appH 9 1 16 [.string (⟨#[]⟩ : ByteArray)] tA_1 tN_1 tC_1 tN_2 vs (fun tA_3 tN_3 tC_3 h39 =>
                                          CallH Tryz.prog id_ref15_Texts [.slice mA m.length mC] (fun v_29 h40 =>
                                            ∃ (tA_4 : Option Addr) (tN_4 tC_4 : Nat), v_29 = .slice tA_4 tN_4 tC_4 ∧
                                            ∃ vs_1 : List Value, srcH h40 tA_4 (tN_4 * 1) vs_1 ∧
                                            appH 9 1 16 [.string (⟨#[]⟩ : ByteArray)] tA_3 tN_3 tC_3 tN_4 vs_1 (fun tA_5 tN_5 tC_5 h41 =>
                                              CallH Tryz.prog id_ref15_Collides [.slice tA_5 tN_5 tC_5] (fun v_30 h42 =>
                                                ∃ t_23 : Bool, v_30 = .bool t_23 ∧
                                                ((t_23 = true →
                                                    CallH Tryz.prog id_law20_wakes [] (fun v_31 h43 =>
                                                      ∃ t_24 : Bool, v_31 = .bool t_24 ∧
                                                      K (.bool t_24) h43) h42) ∧
                                                  (t_23 = false →
                                                    K (.bool false) h42))) h41) h40) h39) h38) h37) h6 := fun {h6 mA mC m} s6 hm hmay h48 hno => by
    have I6 := I.grow s6
    refine cWTexts I6.x (by omega) fun a1 c1 B1 h1' hb1 cc1 => ⟨_, _, _, rfl, ?_⟩
    refine cShTexts (I6.sh.keep (PH.Sub.rf _) fun q _ o e => cc1.sub0 q o e) (by show (textsT prs).length ≤ _; rw [tl]; decide) fun a2 c2 B2 h2' hb2 cc2 => ⟨_, _, _, rfl, EncS.row (textsT prs), hb2.sr.src, ?_⟩
    refine (hb1.sub cc2.sub0).append (new := textsT prs) rfl rfl rfl (by show (s.T.length + (textsT prs).length) * 16 ≤ _; rw [tl]; omega) fun a3 c3 B3 h3' hb3 cc3 _ => ?_
    have cA : Chg [] B3 h6 h3' := (cc1.trans ⟨fun b o _ e => cc2.sub0 b o e, fun b hb => .inl hb⟩).trans cc3
    refine cRTexts (hm.sub cA.sub0) hmay h48 fun a4 c4 B4 h4' hb4 cc4 => ⟨_, _, _, rfl, EncS.row (textsT m), hb4.sr.src, ?_⟩
    refine (hb3.sub cc4.sub0).append (new := textsT m) rfl rfl rfl (by show (s.T.length + (textsT prs).length + (textsT m).length) * 16 ≤ _; rw [tl, tl]; omega) fun a5 c5 B5 h5' hb5 cc5 _ => ?_
    have hlen := hb5.1
    rw [hlen]
    have cB : Chg [] B5 h6 h5' := (cA.trans ⟨fun b o _ e => cc4.sub0 b o e, fun b hb => .inl hb⟩).trans cc5
    refine cCollides hb5.sr (by rw [List.length_append, List.length_append, tl, tl]; omega) (fun t ht => ?_) fun cc h7' hcc s7 => ⟨_, rfl, fun _ => wk20 (s010.tr (s6.tr (cB.sub0.tr s7))) hk, fun e => ?_⟩
    · rcases List.mem_append.1 ht with ht | ht
      · rcases List.mem_append.1 ht with ht | ht
        · exact I.v.ts t ht
        · exact textsT_le hok.1 hok.2 t ht
      · exact textsT_le hmay h48 t ht
    · exact absurd (I.v.parts I.R hok.1 hok.2 hd (hcc e) (fun t ht => by simp [ht]) (fun t ht => by simp [ht])) hno
  refine cWDone I.x I.st.spl.left (fun i l hq => (I.v.q i l hq).2.2) (fun hh h11 s11 => ?_) fun _ h48 l6 a6 c6 B6 h11 hp6 hs6 hb6 cc6 => ?_
  · refine ⟨_, _, _, _, rfl, fun _ h' => h10.Sub h' ∧ ¬ (∀ i, i < 16 → wPart s i = partB prs i), ⟨fun e => (by cases e), fun _ => ⟨s11, fun hp => ?_⟩⟩, fun _ h7' ⟨s7, hno⟩ => coll (m := []) s7 (.inl rfl) nil_may.1 nil_may.2 hno⟩
    have := (done_perm hp).length_eq
    have := hok.2
    rcases hh with ⟨k, _, _, hk⟩ | ⟨_, hh⟩
    · rw [hd k] at hk; cases hk
    · omega
  · have hl48 : l6.length ≤ 48 := by rw [hp6.length_eq]; exact h48
    obtain ⟨hmay, _⟩ := parts_up I.v.part hp6 hs6
    refine ⟨_, _, _, _, rfl, fun _ h' => h11.Sub h' ∧ ¬ (∀ i, i < 16 → wPart s i = partB prs i), ⟨fun _ => ?_, fun e => by cases e⟩, fun _ h7' ⟨s7, hno⟩ => coll (cc6.sub0.tr s7) (hb6.sr.sub s7) hmay hl48 hno⟩
    refine cRSame (m2 := prs) hb6.sr (pr10.sub cc6.sub0) (by omega) ⟨_, rfl, fun _ => wk20 (s010.tr cc6.sub0) hk, fun e8 => ⟨PH.Sub.rf _, fun hp => ?_⟩⟩
    have e8 : l6 ≠ prs := by simpa using e8
    exact e8 (up_unique (may_ok hok.1).2 (hp6.trans (done_perm hp)) hs6)
end TL
