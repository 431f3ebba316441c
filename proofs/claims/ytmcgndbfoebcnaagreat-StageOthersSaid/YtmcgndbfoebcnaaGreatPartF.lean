/-
  The functions of the program as predicates on heap fragments, each tied to its code (a part). No condition.
-/
import Derived.Test.YtmcgndbfoebcnaaGreatPartB
import Derived.Test.YtmcgndbfoebcnaaGreatPartE
import Derived.Test.YtmcgndbfoebcnaaGreatPartD
namespace TL
open Go Go.Proofs
/- twinlock/stage.New -/
def F_stage_New  (K : Value → PH → Prop) (h : PH) : Prop :=
  newH h (.cells #[.pointer none, .int .i64 (0 : Int), .slice none 0 0] T_stage_Stage (0, 0)) fun bv h1 =>
  K (.pointer (some ⟨bv, 0, none⟩)) h1
theorem F_stage_New_eq  {K : Value → PH → Prop} {h : PH} : @Eq Prop (F_stage_New  K h) (denF Tryz.prog Tryz.f68 ⟨[], [], [], []⟩ [] K h) := by
  kernel_rfl
theorem F_stage_New_ok   {K : Value → PH → Prop} {h : PH} (hh : F_stage_New  K h) : CallH Tryz.prog id_stage_New [] K h :=
  denF_sound' Tryz.func68 (H := ⟨[], [], [], []⟩) (xs := []) (by kernel_rfl) (trivial) (den_of F_stage_New_eq hh)

/- (*twinlock/stage.Stage).Root -/
def F_stage_Stage_Root (sv : Option Addr) (m0 : Int) (_ : Int) (m2 : Int) (m3 : Int) (_ : Int) (_ : Int) (_ : Option Addr) (_ _ : Nat) (_ : Int) (m8 : List Int) (_ : Int) (_ : Int) (_ : List Int) (_ : List Int) (_ : Option Addr) (_ _ : Nat) (baseA : Option Addr) (baseN baseC : Nat) (atv : Int) (K : Value → PH → Prop) (h : PH) : Prop :=
  ((((((Option.isNone sv) || (m0 != (4 : Int))) || (decide (m2 ≤ atv))) || (decide (m3 < (1 : Int)))) = true →
      K (.bool false) h) ∧
    (((((Option.isNone sv) || (m0 != (4 : Int))) || (decide (m2 ≤ atv))) || (decide (m3 < (1 : Int)))) = false →
      JoinP (T := Unit) (fun Jv =>
        ∃ bv ov : Nat, sv = some ⟨bv, ov, none⟩ ∧
        ∃ t : Option Addr, (h.rds bv ov 1 = some [.pointer t]) ∧
        ∃ bv_1 ov_1 : Nat, ((!(Option.isNone t)) = true → sv = some ⟨bv_1, ov_1, none⟩) ∧
        ∃ t_1 : Option Addr, (((!(Option.isNone t)) = true → h.rds bv_1 ov_1 1 = some [.pointer t_1])) ∧
        ∃ bv_2 ov_2 : Nat, ((!(Option.isNone t)) = true → t_1 = some ⟨bv_2, ov_2, none⟩) ∧
        ∃ t_2 : Int, (((!(Option.isNone t)) = true → h.rds bv_2 (ov_2 + 1) 1 = some [.int .i64 t_2])) ∧
        ∃ bv_3 ov_3 : Nat, (((!(Option.isNone t)) && (t_2 == m2)) = true → sv = some ⟨bv_3, ov_3, none⟩) ∧
        ∃ t_3 : Option Addr, ((((!(Option.isNone t)) && (t_2 == m2)) = true → h.rds bv_3 ov_3 1 = some [.pointer t_3])) ∧
        ∃ bv_4 ov_4 : Nat, (((!(Option.isNone t)) && (t_2 == m2)) = true → t_3 = some ⟨bv_4, ov_4, none⟩) ∧
        ∃ t_4 : Int, ((((!(Option.isNone t)) && (t_2 == m2)) = true → h.rds bv_4 (ov_4 + 2) 1 = some [.int .i64 t_4])) ∧
        ∃ bv_5 ov_5 : Nat, ((((!(Option.isNone t)) && (t_2 == m2)) && (t_4 == m3)) = true → sv = some ⟨bv_5, ov_5, none⟩) ∧
        ∃ t_5 : Option Addr, (((((!(Option.isNone t)) && (t_2 == m2)) && (t_4 == m3)) = true → h.rds bv_5 ov_5 1 = some [.pointer t_5])) ∧
        ∃ bv_6 ov_6 : Nat, ((((!(Option.isNone t)) && (t_2 == m2)) && (t_4 == m3)) = true → t_5 = some ⟨bv_6, ov_6, none⟩) ∧
        ∃ t_6 : Option Addr, (((((!(Option.isNone t)) && (t_2 == m2)) && (t_4 == m3)) = true → h.rds bv_6 ov_6 1 = some [.pointer t_6])) ∧
        (((((!(Option.isNone t)) && (t_2 == m2)) && (t_4 == m3)) = true →
            CallH Tryz.prog id_walk_Walk_Root [.pointer t_6] (fun v h2 =>
              ∃ t_7 : List Int, t_7.length = 32 ∧ v = .agg ((t_7.map (Value.int .u8) ++ [])).toArray ∧
              (((t_7 == m8) = true →
                  K (.bool false) h2) ∧
                ((t_7 == m8) = false →
                  Jv (()) h2))) h) ∧
          ((((!(Option.isNone t)) && (t_2 == m2)) && (t_4 == m3)) = false →
            Jv (()) h)))
      (fun _ h1 =>
        CallH Tryz.prog id_walk_New [.slice baseA baseN baseC, .agg ((m8.map (Value.int .u8) ++ [])).toArray] (fun v_1 h3 =>
          ∃ t0 : Option Addr, ∃ t1 : Int, v_1 = .tuple #[.pointer t0, .int .i64 t1] ∧
          (((t1 != (0 : Int)) = true →
              K (.bool false) h3) ∧
            ((t1 != (0 : Int)) = false →
              CallH Tryz.prog id_stage_Stage_Forget [.pointer sv] (fun _ h4 =>
                newH h4 (.cells #[.pointer t0, .int .i64 m2, .int .i64 m3] T_stage_goal (0, 0)) fun bv_7 h5 =>
                ∃ bv_8 ov_7 : Nat, sv = some ⟨bv_8, ov_7, none⟩ ∧
                stH h5 bv_8 ov_7 [.pointer (some ⟨bv_7, 0, none⟩)] fun h6 =>
                ∃ bv_9 ov_8 : Nat, sv = some ⟨bv_9, ov_8, none⟩ ∧
                ∃ t_8 : Int, (h6.rds bv_9 (ov_8 + 1) 1 = some [.int .i64 t_8]) ∧
                ∃ bv_10 ov_9 : Nat, sv = some ⟨bv_10, ov_9, none⟩ ∧
                stH h6 bv_10 (ov_9 + 1) [.int .i64 (IntKind.wrap .i64 (t_8 + (1 : Int)))] fun h7 =>
                K (.bool true) h7) h3))) h1)))
theorem F_stage_Stage_Root_eq {sv : Option Addr} {m0 : Int} {m1 : Int} {m2 : Int} {m3 : Int} {m4 : Int} {m5 : Int} {m6A : Option Addr} {m6N m6C : Nat} {m7 : Int} {m8 : List Int} {m9 : Int} {m10 : Int} {m11 : List Int} {m12 : List Int} {m13A : Option Addr} {m13N m13C : Nat} {baseA : Option Addr} {baseN baseC : Nat} {atv : Int} {K : Value → PH → Prop} {h : PH} : @Eq Prop (F_stage_Stage_Root sv m0 m1 m2 m3 m4 m5 m6A m6N m6C m7 m8 m9 m10 m11 m12 m13A m13N m13C baseA baseN baseC atv K h) (denF Tryz.prog Tryz.f69 ⟨[5], [(3, .of [0, 1, 2, 3, 4, 5, 6, 7, 8, 9, 10, 11, 12, 13, 14, 15, 16, 17, 18, 19, 20, 21, 22, 23, 24, 25, 26, 27, 28, 29, 30, 31, 32, 33, 34, 35, 36, 38, 39, 37, 40, 41])], [], [(12, ⟨[], [], []⟩)]⟩ [.v (.pointer sv), .agg [.one (.int .u8 m0), .one (.int .i64 m1), .one (.int .i64 m2), .one (.int .i64 m3), .one (.int .i64 m4), .one (.int .i64 m5), .one (.slice m6A m6N m6C), .one (.int .i64 m7), .ints .u8 32 m8, .one (.int .i64 m9), .one (.int .i64 m10), .ints .u8 32 m11, .ints .u8 32 m12, .one (.slice m13A m13N m13C)], .v (.slice baseA baseN baseC), .v (.int .i64 atv)] K h) := by
  kernel_rfl
theorem F_stage_Stage_Root_ok {sv : Option Addr} {m0 : Int} {m1 : Int} {m2 : Int} {m3 : Int} {m4 : Int} {m5 : Int} {m6A : Option Addr} {m6N m6C : Nat} {m7 : Int} {m8 : List Int} {m9 : Int} {m10 : Int} {m11 : List Int} {m12 : List Int} {m13A : Option Addr} {m13N m13C : Nat} {baseA : Option Addr} {baseN baseC : Nat} {atv : Int} (hk0 : m8.length = 32) (hk1 : m11.length = 32) (hk2 : m12.length = 32) {K : Value → PH → Prop} {h : PH} (hh : F_stage_Stage_Root sv m0 m1 m2 m3 m4 m5 m6A m6N m6C m7 m8 m9 m10 m11 m12 m13A m13N m13C baseA baseN baseC atv K h) : CallH Tryz.prog id_stage_Stage_Root [.pointer sv, .agg ((.int .u8 m0 :: (.int .i64 m1 :: (.int .i64 m2 :: (.int .i64 m3 :: (.int .i64 m4 :: (.int .i64 m5 :: (.slice m6A m6N m6C :: (.int .i64 m7 :: (m8.map (Value.int .u8) ++ (.int .i64 m9 :: (.int .i64 m10 :: (m11.map (Value.int .u8) ++ (m12.map (Value.int .u8) ++ ([.slice m13A m13N m13C] : List Value))))))))))))))).toArray, .slice baseA baseN baseC, .int .i64 atv] K h :=
  denF_sound' Tryz.func69 (H := ⟨[5], [(3, .of [0, 1, 2, 3, 4, 5, 6, 7, 8, 9, 10, 11, 12, 13, 14, 15, 16, 17, 18, 19, 20, 21, 22, 23, 24, 25, 26, 27, 28, 29, 30, 31, 32, 33, 34, 35, 36, 38, 39, 37, 40, 41])], [], [(12, ⟨[], [], []⟩)]⟩) (xs := [.v (.pointer sv), .agg [.one (.int .u8 m0), .one (.int .i64 m1), .one (.int .i64 m2), .one (.int .i64 m3), .one (.int .i64 m4), .one (.int .i64 m5), .one (.slice m6A m6N m6C), .one (.int .i64 m7), .ints .u8 32 m8, .one (.int .i64 m9), .one (.int .i64 m10), .ints .u8 32 m11, .ints .u8 32 m12, .one (.slice m13A m13N m13C)], .v (.slice baseA baseN baseC), .v (.int .i64 atv)]) (by kernel_rfl) (⟨rfl, ⟨rfl, rfl, rfl, rfl, rfl, rfl, rfl, rfl, hk0, rfl, rfl, hk1, hk2, rfl, trivial⟩, rfl, rfl, trivial⟩) (den_of F_stage_Stage_Root_eq hh)

/- (*twinlock/stage.Stage).Asks -/
def F_stage_Stage_Asks (sv : Option Addr) (epoch : Int) (K : Value → PH → Prop) (h : PH) : Prop :=
  CallH Tryz.prog id_stage_Stage_none [.pointer sv] (fun v h1 =>
    ∃ t : Bool, v = .bool t ∧
    ((t = true →
        K (.slice none 0 0) h1) ∧
      (t = false →
        ∃ bv ov : Nat, sv = some ⟨bv, ov, none⟩ ∧
        ∃ t_1 : Option Addr, (h1.rds bv ov 1 = some [.pointer t_1]) ∧
        ∃ bv_1 ov_1 : Nat, t_1 = some ⟨bv_1, ov_1, none⟩ ∧
        ∃ t_2 : Option Addr, (h1.rds bv_1 ov_1 1 = some [.pointer t_2]) ∧
        CallH Tryz.prog id_walk_Walk_Want [.pointer t_2, .int .i64 (8 : Int)] (fun v_1 h2 =>
          ∃ (tA : Option Addr) (tN tC : Nat), v_1 = .slice tA tN tC ∧
          LoopP (T := (Option Addr × Nat × Nat) × Int × Unit) (fun Jv st h3 =>
            (((decide (st.2.1 < ((tN : Nat) : Int))) = true →
                ∃ bv_2 ov_2 : Nat, (tA = some ⟨bv_2, ov_2, none⟩ ∧ 0 ≤ st.2.1 ∧ st.2.1 < (tN : Nat)) ∧
                ∃ a0 : Int, ∃ a1 : Int, (h3.rds bv_2 (ov_2 + st.2.1.toNat * 2) 2 = some [.int .i64 a0, .int .i64 a1]) ∧
                ∃ bv_3 ov_3 : Nat, sv = some ⟨bv_3, ov_3, none⟩ ∧
                ∃ t_3 : Option Addr, (h3.rds bv_3 ov_3 1 = some [.pointer t_3]) ∧
                ∃ bv_4 ov_4 : Nat, t_3 = some ⟨bv_4, ov_4, none⟩ ∧
                ∃ t_4 : Int, (h3.rds bv_4 (ov_4 + 1) 1 = some [.int .i64 t_4]) ∧
                appH T_api_Msg 107 216 [.int .u8 (0 : Int), .int .i64 (0 : Int), .int .i64 (0 : Int), .int .i64 (0 : Int), .int .i64 (0 : Int), .int .i64 (0 : Int), .slice none 0 0, .int .i64 (0 : Int), .int .u8 (0 : Int), .int .u8 (0 : Int), .int .u8 (0 : Int), .int .u8 (0 : Int), .int .u8 (0 : Int), .int .u8 (0 : Int), .int .u8 (0 : Int), .int .u8 (0 : Int), .int .u8 (0 : Int), .int .u8 (0 : Int), .int .u8 (0 : Int), .int .u8 (0 : Int), .int .u8 (0 : Int), .int .u8 (0 : Int), .int .u8 (0 : Int), .int .u8 (0 : Int), .int .u8 (0 : Int), .int .u8 (0 : Int), .int .u8 (0 : Int), .int .u8 (0 : Int), .int .u8 (0 : Int), .int .u8 (0 : Int), .int .u8 (0 : Int), .int .u8 (0 : Int), .int .u8 (0 : Int), .int .u8 (0 : Int), .int .u8 (0 : Int), .int .u8 (0 : Int), .int .u8 (0 : Int), .int .u8 (0 : Int), .int .u8 (0 : Int), .int .u8 (0 : Int), .int .i64 (0 : Int), .int .i64 (0 : Int), .int .u8 (0 : Int), .int .u8 (0 : Int), .int .u8 (0 : Int), .int .u8 (0 : Int), .int .u8 (0 : Int), .int .u8 (0 : Int), .int .u8 (0 : Int), .int .u8 (0 : Int), .int .u8 (0 : Int), .int .u8 (0 : Int), .int .u8 (0 : Int), .int .u8 (0 : Int), .int .u8 (0 : Int), .int .u8 (0 : Int), .int .u8 (0 : Int), .int .u8 (0 : Int), .int .u8 (0 : Int), .int .u8 (0 : Int), .int .u8 (0 : Int), .int .u8 (0 : Int), .int .u8 (0 : Int), .int .u8 (0 : Int), .int .u8 (0 : Int), .int .u8 (0 : Int), .int .u8 (0 : Int), .int .u8 (0 : Int), .int .u8 (0 : Int), .int .u8 (0 : Int), .int .u8 (0 : Int), .int .u8 (0 : Int), .int .u8 (0 : Int), .int .u8 (0 : Int), .int .u8 (0 : Int), .int .u8 (0 : Int), .int .u8 (0 : Int), .int .u8 (0 : Int), .int .u8 (0 : Int), .int .u8 (0 : Int), .int .u8 (0 : Int), .int .u8 (0 : Int), .int .u8 (0 : Int), .int .u8 (0 : Int), .int .u8 (0 : Int), .int .u8 (0 : Int), .int .u8 (0 : Int), .int .u8 (0 : Int), .int .u8 (0 : Int), .int .u8 (0 : Int), .int .u8 (0 : Int), .int .u8 (0 : Int), .int .u8 (0 : Int), .int .u8 (0 : Int), .int .u8 (0 : Int), .int .u8 (0 : Int), .int .u8 (0 : Int), .int .u8 (0 : Int), .int .u8 (0 : Int), .int .u8 (0 : Int), .int .u8 (0 : Int), .int .u8 (0 : Int), .int .u8 (0 : Int), .int .u8 (0 : Int), .int .u8 (0 : Int), .int .u8 (0 : Int), .slice none 0 0] st.1.1 st.1.2.1 st.1.2.2 1 (.int .u8 (5 : Int) :: (.int .i64 epoch :: (.int .i64 t_4 :: (.int .i64 (0 : Int) :: (.int .i64 (0 : Int) :: (.int .i64 (0 : Int) :: (.slice none 0 0 :: (.int .i64 (0 : Int) :: ((List.replicate 32 0).map (Value.int .u8) ++ (.int .i64 a0 :: (.int .i64 a1 :: ((List.replicate 32 0).map (Value.int .u8) ++ ((List.replicate 32 0).map (Value.int .u8) ++ ([.slice none 0 0] : List Value)))))))))))))) (fun outA outN outC h4 =>
                  Jv ((outA, outN, outC), (IntKind.wrap .i64 (st.2.1 + (1 : Int))), ()) h4) h3) ∧
              ((decide (st.2.1 < ((tN : Nat) : Int))) = false →
                K (.slice st.1.1 st.1.2.1 st.1.2.2) h3))) ((none, 0, 0), (0 : Int), ()) h2) h1))) h
theorem F_stage_Stage_Asks_eq {sv : Option Addr} {epoch : Int} {K : Value → PH → Prop} {h : PH} : @Eq Prop (F_stage_Stage_Asks sv epoch K h) (denF Tryz.prog Tryz.f72 ⟨[7, 37], [], [(0, ⟨[(5, .slice), (19, .int .i64)], [], []⟩)], []⟩ [.v (.pointer sv), .v (.int .i64 epoch)] K h) := by
  kernel_rfl
theorem F_stage_Stage_Asks_ok {sv : Option Addr} {epoch : Int}  {K : Value → PH → Prop} {h : PH} (hh : F_stage_Stage_Asks sv epoch K h) : CallH Tryz.prog id_stage_Stage_Asks [.pointer sv, .int .i64 epoch] K h :=
  denF_sound' Tryz.func72 (H := ⟨[7, 37], [], [(0, ⟨[(5, .slice), (19, .int .i64)], [], []⟩)], []⟩) (xs := [.v (.pointer sv), .v (.int .i64 epoch)]) (by kernel_rfl) (⟨rfl, rfl, trivial⟩) (den_of F_stage_Stage_Asks_eq hh)

/- (*twinlock/stage.Stage).Answer -/
def F_stage_Stage_Answer (sv : Option Addr) (m0 : Int) (_ : Int) (m2 : Int) (_ : Int) (_ : Int) (_ : Int) (_ : Option Addr) (_ _ : Nat) (_ : Int) (_ : List Int) (m9 : Int) (m10 : Int) (m11 : List Int) (m12 : List Int) (m13A : Option Addr) (m13N m13C : Nat) (K : Value → PH → Prop) (h : PH) : Prop :=
  CallH Tryz.prog id_stage_Stage_none [.pointer sv] (fun v h1 =>
    ∃ t : Bool, v = .bool t ∧
    ∃ bv ov : Nat, (t = false → sv = some ⟨bv, ov, none⟩) ∧
    ∃ t_1 : Option Addr, ((t = false → h1.rds bv ov 1 = some [.pointer t_1])) ∧
    ∃ bv_1 ov_1 : Nat, (t = false → t_1 = some ⟨bv_1, ov_1, none⟩) ∧
    ∃ t_2 : Int, ((t = false → h1.rds bv_1 (ov_1 + 1) 1 = some [.int .i64 t_2])) ∧
    (((t || (m2 != t_2)) = true →
        K (.bool false) h1) ∧
      ((t || (m2 != t_2)) = false →
        (((m0 == (6 : Int)) = true →
            ∃ bv_2 ov_2 : Nat, sv = some ⟨bv_2, ov_2, none⟩ ∧
            ∃ t_3 : Option Addr, (h1.rds bv_2 ov_2 1 = some [.pointer t_3]) ∧
            ∃ bv_3 ov_3 : Nat, t_3 = some ⟨bv_3, ov_3, none⟩ ∧
            ∃ t_4 : Option Addr, (h1.rds bv_3 ov_3 1 = some [.pointer t_4]) ∧
            CallH Tryz.prog id_walk_Walk_Node [.pointer t_4, .int .i64 m9, .int .i64 m10, .agg ((m11.map (Value.int .u8) ++ [])).toArray, .agg ((m12.map (Value.int .u8) ++ [])).toArray] (fun v_1 h2 =>
              ∃ t_5 : Bool, v_1 = .bool t_5 ∧
              K (.bool t_5) h2) h1) ∧
          ((m0 == (6 : Int)) = false →
            (((m0 == (7 : Int)) = true →
                ∃ bv_4 ov_4 : Nat, sv = some ⟨bv_4, ov_4, none⟩ ∧
                ∃ t_6 : Option Addr, (h1.rds bv_4 ov_4 1 = some [.pointer t_6]) ∧
                ∃ bv_5 ov_5 : Nat, t_6 = some ⟨bv_5, ov_5, none⟩ ∧
                ∃ t_7 : Option Addr, (h1.rds bv_5 ov_5 1 = some [.pointer t_7]) ∧
                CallH Tryz.prog id_walk_Walk_Page [.pointer t_7, .int .i64 m10, .slice m13A m13N m13C] (fun v_2 h3 =>
                  ∃ t_8 : Bool, v_2 = .bool t_8 ∧
                  K (.bool t_8) h3) h1) ∧
              ((m0 == (7 : Int)) = false →
                K (.bool false) h1))))))) h
theorem F_stage_Stage_Answer_eq {sv : Option Addr} {m0 : Int} {m1 : Int} {m2 : Int} {m3 : Int} {m4 : Int} {m5 : Int} {m6A : Option Addr} {m6N m6C : Nat} {m7 : Int} {m8 : List Int} {m9 : Int} {m10 : Int} {m11 : List Int} {m12 : List Int} {m13A : Option Addr} {m13N m13C : Nat} {K : Value → PH → Prop} {h : PH} : @Eq Prop (F_stage_Stage_Answer sv m0 m1 m2 m3 m4 m5 m6A m6N m6C m7 m8 m9 m10 m11 m12 m13A m13N m13C K h) (denF Tryz.prog Tryz.f73 ⟨[3], [], [], []⟩ [.v (.pointer sv), .agg [.one (.int .u8 m0), .one (.int .i64 m1), .one (.int .i64 m2), .one (.int .i64 m3), .one (.int .i64 m4), .one (.int .i64 m5), .one (.slice m6A m6N m6C), .one (.int .i64 m7), .ints .u8 32 m8, .one (.int .i64 m9), .one (.int .i64 m10), .ints .u8 32 m11, .ints .u8 32 m12, .one (.slice m13A m13N m13C)]] K h) := by
  kernel_rfl
theorem F_stage_Stage_Answer_ok {sv : Option Addr} {m0 : Int} {m1 : Int} {m2 : Int} {m3 : Int} {m4 : Int} {m5 : Int} {m6A : Option Addr} {m6N m6C : Nat} {m7 : Int} {m8 : List Int} {m9 : Int} {m10 : Int} {m11 : List Int} {m12 : List Int} {m13A : Option Addr} {m13N m13C : Nat} (hk0 : m8.length = 32) (hk1 : m11.length = 32) (hk2 : m12.length = 32) {K : Value → PH → Prop} {h : PH} (hh : F_stage_Stage_Answer sv m0 m1 m2 m3 m4 m5 m6A m6N m6C m7 m8 m9 m10 m11 m12 m13A m13N m13C K h) : CallH Tryz.prog id_stage_Stage_Answer [.pointer sv, .agg ((.int .u8 m0 :: (.int .i64 m1 :: (.int .i64 m2 :: (.int .i64 m3 :: (.int .i64 m4 :: (.int .i64 m5 :: (.slice m6A m6N m6C :: (.int .i64 m7 :: (m8.map (Value.int .u8) ++ (.int .i64 m9 :: (.int .i64 m10 :: (m11.map (Value.int .u8) ++ (m12.map (Value.int .u8) ++ ([.slice m13A m13N m13C] : List Value))))))))))))))).toArray] K h :=
  denF_sound' Tryz.func73 (H := ⟨[3], [], [], []⟩) (xs := [.v (.pointer sv), .agg [.one (.int .u8 m0), .one (.int .i64 m1), .one (.int .i64 m2), .one (.int .i64 m3), .one (.int .i64 m4), .one (.int .i64 m5), .one (.slice m6A m6N m6C), .one (.int .i64 m7), .ints .u8 32 m8, .one (.int .i64 m9), .one (.int .i64 m10), .ints .u8 32 m11, .ints .u8 32 m12, .one (.slice m13A m13N m13C)]]) (by kernel_rfl) (⟨rfl, ⟨rfl, rfl, rfl, rfl, rfl, rfl, rfl, rfl, hk0, rfl, rfl, hk1, hk2, rfl, trivial⟩, trivial⟩) (den_of F_stage_Stage_Answer_eq hh)

/- (*twinlock/stage.Stage).Done -/
def F_stage_Stage_Done (sv : Option Addr) (K : Value → PH → Prop) (h : PH) : Prop :=
  CallH Tryz.prog id_stage_Stage_none [.pointer sv] (fun v h1 =>
    ∃ t : Bool, v = .bool t ∧
    ((t = true →
        K (.tuple #[.slice none 0 0, .int .i64 (0 : Int), .int .i64 (0 : Int), .bool false]) h1) ∧
      (t = false →
        ∃ bv ov : Nat, sv = some ⟨bv, ov, none⟩ ∧
        ∃ t_1 : Option Addr, (h1.rds bv ov 1 = some [.pointer t_1]) ∧
        ∃ bv_1 ov_1 : Nat, t_1 = some ⟨bv_1, ov_1, none⟩ ∧
        ∃ t_2 : Option Addr, (h1.rds bv_1 ov_1 1 = some [.pointer t_2]) ∧
        CallH Tryz.prog id_walk_Walk_Done [.pointer t_2] (fun v_1 h2 =>
          ∃ (t0A : Option Addr) (t0N t0C : Nat), ∃ t1 : Bool, v_1 = .tuple #[.slice t0A t0N t0C, .bool t1] ∧
          (((!t1) = true →
              K (.tuple #[.slice none 0 0, .int .i64 (0 : Int), .int .i64 (0 : Int), .bool false]) h2) ∧
            ((!t1) = false →
              ∃ bv_2 ov_2 : Nat, sv = some ⟨bv_2, ov_2, none⟩ ∧
              ∃ t_3 : Option Addr, (h2.rds bv_2 ov_2 1 = some [.pointer t_3]) ∧
              ∃ bv_3 ov_3 : Nat, t_3 = some ⟨bv_3, ov_3, none⟩ ∧
              ∃ atv : Int, (h2.rds bv_3 (ov_3 + 1) 1 = some [.int .i64 atv]) ∧
              ∃ bv_4 ov_4 : Nat, sv = some ⟨bv_4, ov_4, none⟩ ∧
              ∃ t_4 : Option Addr, (h2.rds bv_4 ov_4 1 = some [.pointer t_4]) ∧
              ∃ bv_5 ov_5 : Nat, t_4 = some ⟨bv_5, ov_5, none⟩ ∧
              ∃ epoch : Int, (h2.rds bv_5 (ov_5 + 2) 1 = some [.int .i64 epoch]) ∧
              K (.tuple #[.slice t0A t0N t0C, .int .i64 atv, .int .i64 epoch, .bool true]) h2))) h1))) h
theorem F_stage_Stage_Done_eq {sv : Option Addr} {K : Value → PH → Prop} {h : PH} : @Eq Prop (F_stage_Stage_Done sv K h) (denF Tryz.prog Tryz.f75 ⟨[], [], [], []⟩ [.v (.pointer sv)] K h) := by
  kernel_rfl
theorem F_stage_Stage_Done_ok {sv : Option Addr}  {K : Value → PH → Prop} {h : PH} (hh : F_stage_Stage_Done sv K h) : CallH Tryz.prog id_stage_Stage_Done [.pointer sv] K h :=
  denF_sound' Tryz.func75 (H := ⟨[], [], [], []⟩) (xs := [.v (.pointer sv)]) (by kernel_rfl) (⟨rfl, trivial⟩) (den_of F_stage_Stage_Done_eq hh)

/- (*twinlock/stage.Stage).Begun -/
def F_stage_Stage_Begun (sv : Option Addr) (K : Value → PH → Prop) (h : PH) : Prop :=
  (((Option.isNone sv) = true →
      K (.int .i64 (0 : Int)) h) ∧
    ((Option.isNone sv) = false →
      ∃ bv ov : Nat, sv = some ⟨bv, ov, none⟩ ∧
      ∃ t : Int, (h.rds bv (ov + 1) 1 = some [.int .i64 t]) ∧
      K (.int .i64 t) h))
theorem F_stage_Stage_Begun_eq {sv : Option Addr} {K : Value → PH → Prop} {h : PH} : @Eq Prop (F_stage_Stage_Begun sv K h) (denF Tryz.prog Tryz.f76 ⟨[], [], [], []⟩ [.v (.pointer sv)] K h) := by
  kernel_rfl
theorem F_stage_Stage_Begun_ok {sv : Option Addr}  {K : Value → PH → Prop} {h : PH} (hh : F_stage_Stage_Begun sv K h) : CallH Tryz.prog id_stage_Stage_Begun [.pointer sv] K h :=
  denF_sound' Tryz.func76 (H := ⟨[], [], [], []⟩) (xs := [.v (.pointer sv)]) (by kernel_rfl) (⟨rfl, trivial⟩) (den_of F_stage_Stage_Begun_eq hh)

/- (*twinlock/stage.Stage).Forget -/
def F_stage_Stage_Forget (sv : Option Addr) (K : Value → PH → Prop) (h : PH) : Prop :=
  CallH Tryz.prog id_stage_Stage_none [.pointer sv] (fun v h1 =>
    ∃ t : Bool, v = .bool t ∧
    (((!t) = true →
        ∃ bv ov : Nat, sv = some ⟨bv, ov, none⟩ ∧
        ∃ (tA : Option Addr) (tN tC : Nat), (h1.rds bv (ov + 2) 1 = some [.slice tA tN tC]) ∧
        ∃ bv_1 ov_1 : Nat, sv = some ⟨bv_1, ov_1, none⟩ ∧
        ∃ t_1 : Option Addr, (h1.rds bv_1 ov_1 1 = some [.pointer t_1]) ∧
        ∃ bv_2 ov_2 : Nat, t_1 = some ⟨bv_2, ov_2, none⟩ ∧
        ∃ t_2 : Option Addr, (h1.rds bv_2 ov_2 1 = some [.pointer t_2]) ∧
        CallH Tryz.prog id_walk_Walk_Texts [.pointer t_2] (fun v_1 h2 =>
          ∃ (tA_1 : Option Addr) (tN_1 tC_1 : Nat), v_1 = .slice tA_1 tN_1 tC_1 ∧
          (h2.rds bv (ov + 2) 1 = some [.slice tA tN tC]) ∧
          ∃ vs : List Value, srcH h2 tA_1 (tN_1 * 1) vs ∧
          appH 9 1 16 [.string (⟨#[]⟩ : ByteArray)] tA tN tC tN_1 vs (fun tA_2 tN_2 tC_2 h3 =>
            ∃ bv_3 ov_3 : Nat, sv = some ⟨bv_3, ov_3, none⟩ ∧
            stH h3 bv_3 (ov_3 + 2) [.slice tA_2 tN_2 tC_2] fun h4 =>
            ∃ bv_4 ov_4 : Nat, sv = some ⟨bv_4, ov_4, none⟩ ∧
            stH h4 bv_4 ov_4 [.pointer none] fun h5 =>
            K (.tuple #[]) h5) h2) h1) ∧
      ((!t) = false →
        K (.tuple #[]) h1))) h
theorem F_stage_Stage_Forget_eq {sv : Option Addr} {K : Value → PH → Prop} {h : PH} : @Eq Prop (F_stage_Stage_Forget sv K h) (denF Tryz.prog Tryz.f77 ⟨[], [], [], []⟩ [.v (.pointer sv)] K h) := by
  kernel_rfl
theorem F_stage_Stage_Forget_ok {sv : Option Addr}  {K : Value → PH → Prop} {h : PH} (hh : F_stage_Stage_Forget sv K h) : CallH Tryz.prog id_stage_Stage_Forget [.pointer sv] K h :=
  denF_sound' Tryz.func77 (H := ⟨[], [], [], []⟩) (xs := [.v (.pointer sv)]) (by kernel_rfl) (⟨rfl, trivial⟩) (den_of F_stage_Stage_Forget_eq hh)

/- (*twinlock/stage.Stage).Goal -/
/- (*twinlock/stage.Stage).Texts -/
/- (*twinlock/stage.Stage).none -/
def F_stage_Stage_none (sv : Option Addr) (K : Value → PH → Prop) (h : PH) : Prop :=
  ∃ bv ov : Nat, ((Option.isNone sv) = false → sv = some ⟨bv, ov, none⟩) ∧
  ∃ t : Option Addr, (((Option.isNone sv) = false → h.rds bv ov 1 = some [.pointer t])) ∧
  K (.bool ((Option.isNone sv) || (Option.isNone t))) h
theorem F_stage_Stage_none_eq {sv : Option Addr} {K : Value → PH → Prop} {h : PH} : @Eq Prop (F_stage_Stage_none sv K h) (denF Tryz.prog Tryz.f134 ⟨[], [], [], []⟩ [.v (.pointer sv)] K h) := by
  kernel_rfl
theorem F_stage_Stage_none_ok {sv : Option Addr}  {K : Value → PH → Prop} {h : PH} (hh : F_stage_Stage_none sv K h) : CallH Tryz.prog id_stage_Stage_none [.pointer sv] K h :=
  denF_sound' Tryz.func134 (H := ⟨[], [], [], []⟩) (xs := [.v (.pointer sv)]) (by kernel_rfl) (⟨rfl, trivial⟩) (den_of F_stage_Stage_none_eq hh)

end TL

namespace TL
open Go Go.Proofs
variable {g h : PH} {N : List Nat} {K : Value → PH → Prop} {wb tb : Nat} {s : WS} {S T : List PrR}
open Classical in
/-- what a node does to a walk -/
noncomputable def nodeW (s : WS) (lv i : Int) (a b : List UInt8) : Bool × WS :=
  if h : ∃ k, (1 ≤ k ∧ k < 16) ∧ askP k = (lv, i) ∧ s.A k = some (shaN (innT a b)) then (true, wIn s h.choose a b) else (false, s)
open Classical in
/-- what a page does to a walk -/
noncomputable def pageW (s : WS) (i : Int) (l : List PrR) : Bool × WS :=
  if h : ∃ k : Nat, k < 16 ∧ i = k ∧ PgOk k l ∧ s.A (16 + k) = some (shaN (76 :: pageL l)) then (true, wPg s h.choose l) else (false, s)
theorem cWNodeV (x : WalkAt g N h wb s) (sp : Spl g N h) {lv i : Int} {a b : List UInt8} (ha : a.length = 32) (hb : b.length = 32) (hT : s.T.length ≤ 100000)
    (hk : ∀ N' h', WalkAt g N' h' wb (nodeW s lv i a b).2 → Stp g N h g N' h' → K (.bool (nodeW s lv i a b).1) h') :
    CallH Tryz.prog id_walk_Walk_Node [.pointer (some ⟨wb, 0, none⟩), .int .i64 lv, .int .i64 i, .agg (((bi a).map (Value.int .u8) ++ [])).toArray, .agg (((bi b).map (Value.int .u8) ++ [])).toArray] K h := by
  refine cWNode x sp ha hb hT (fun hn h' x' st => ?_) fun k N' h' k1 k2 ek hA x' st => ?_
  · have e : nodeW s lv i a b = (false, s) := dif_neg fun ⟨k, hk1, hk2, hk3⟩ => hn k hk1.1 hk1.2 hk2 hk3
    have := hk N h'
    rw [e] at this
    exact this x' st
  · have hex : ∃ k, (1 ≤ k ∧ k < 16) ∧ askP k = (lv, i) ∧ s.A k = some (shaN (innT a b)) := ⟨k, ⟨k1, k2⟩, ek, hA⟩
    have e : nodeW s lv i a b = (true, wIn s hex.choose a b) := dif_pos hex
    have hc := hex.choose_spec
    have ec : hex.choose = k := askP_inj _ (by omega) k (by omega) hc.1.1 k1 (hc.2.1.trans ek.symm)
    have := hk N' h'
    rw [e, ec] at this
    exact this x' st
theorem cWPageV (x : WalkAt g N h wb s) (sp : Spl g N h) {i : Int} {lA : Option Addr} {lC : Nat} {l : List PrR} (hl : SR EncPr g lA l) (hn : l.length ≤ 1000) (hs : ∀ x ∈ l, x.p.length ≤ 1000000) (hT : s.T.length ≤ 100000)
    (hk : ∀ g' N' h', WalkAt g' N' h' wb (pageW s i l).2 → Stp g N h g' N' h' → K (.bool (pageW s i l).1) h') :
    CallH Tryz.prog id_walk_Walk_Page [.pointer (some ⟨wb, 0, none⟩), .int .i64 i, .slice lA l.length lC] K h := by
  refine cWPage x sp hl hn hs hT (fun hno h' x' st => ?_) fun k g' N' h' k16 ek hok hA x' st => ?_
  · have e : pageW s i l = (false, s) := dif_neg fun ⟨k, hk1, hk2, hk3, hk4⟩ => hno k hk1 hk2 hk3 hk4
    have := hk g N h'
    rw [e] at this
    exact this x' st
  · have hex : ∃ k : Nat, k < 16 ∧ i = k ∧ PgOk k l ∧ s.A (16 + k) = some (shaN (76 :: pageL l)) := ⟨k, k16, ek, hok, hA⟩
    have e : pageW s i l = (true, wPg s hex.choose l) := dif_pos hex
    have hc := hex.choose_spec
    have ec : hex.choose = k := by have := hc.2.1; omega
    have := hk g' N' h'
    rw [e, ec] at this
    exact this x' st
/-- what an answer out of a tree does to a walk -/
noncomputable def answerW (s : WS) (T : List PrR) (c : Nat) : Bool × WS :=
  if 16 ≤ c then pageW s ((c - 16 : Nat) : Int) (partB T (c - 16)) else nodeW s (askP c).1 (askP c).2 (nd T (2 * c)) (nd T (2 * c + 1))
end TL

namespace TL
open Go Go.Proofs
variable {h : PH} {K : Value → PH → Prop}
end TL

namespace TL
open Go Go.Proofs
variable {s : WS} {lv i : Int} {a b : List UInt8} {l T : List PrR} {c : Nat}
/-- what each answer keeps: no node 0, few texts, the base, the root -/
structure KeepW (s s' : WS) : Prop where
  a0 : s.A 0 = none → s'.A 0 = none
  t : s'.T.length ≤ s.T.length + 1
  S : s'.S = s.S
  R : s'.R = s.R
theorem KeepW.rf (s : WS) : KeepW s s := ⟨id, Nat.le_succ _, rfl, rfl⟩
theorem wIn_keep {k : Nat} (h : 1 ≤ k) : KeepW s (wIn s k a b) := by
  refine ⟨fun h0 => ?_, by show (s.T ++ [_]).length ≤ _; rw [List.length_append]; simp, rfl, rfl⟩
  show wAsk _ (wAsk _ (upF s.A k none) _ _) _ _ 0 = none
  rw [wAsk_ne (by omega), wAsk_ne (by omega), upF_ne _ _ (by omega)]
  exact h0
theorem wPg_keep {k : Nat} : KeepW s (wPg s k l) := by
  refine ⟨fun h0 => ?_, by show (s.T ++ [_]).length ≤ _; rw [List.length_append]; simp, rfl, rfl⟩
  show upF s.A (16 + k) none 0 = none
  rw [upF_ne _ _ (by omega)]
  exact h0
theorem nodeW_keep : KeepW s (nodeW s lv i a b).2 := by
  unfold nodeW
  split
  · rename_i h
    exact wIn_keep h.choose_spec.1.1
  · exact KeepW.rf s
theorem pageW_keep : KeepW s (pageW s i l).2 := by
  unfold pageW
  split
  · exact wPg_keep
  · exact KeepW.rf s
theorem answerW_keep : KeepW s (answerW s T c).2 := by
  unfold answerW
  split
  · exact pageW_keep
  · exact nodeW_keep
end TL

namespace TL
open Go Go.Proofs
variable {g h : PH} {N : List Nat} {K : Value → PH → Prop} {wb ub tb : Nat} {s : WS} {S T : List PrR}
/-- a hash of one byte and noughts -/
def hx (n : Int) : List UInt8 := UInt8.ofNat (IntKind.wrap .u8 n).toNat :: List.replicate 31 0
theorem bi_z32 : List.replicate 32 (0 : Int) = bi (List.replicate 32 0) := bi_zero 32
theorem wList_in {A : Nat → Option (List UInt8)} (h0 : A 0 = none) {k : Nat} (hk : k ∈ wList A) : 1 ≤ k ∧ k < 32 := by
  obtain ⟨h1, h2⟩ := wList_mem.1 hk
  rcases Nat.eq_zero_or_pos k with rfl | h
  · rw [h0] at h2; cases h2
  · exact ⟨h, h1⟩
theorem cWWantG {M : List Nat} (x : WalkAt g N h wb s) (sp : Spl g M h) (h0 : s.A 0 = none) {n : Int} (hk : ∀ a' c' g' h', h.Sub h' → Stp g M h g' M h' → SR EncAsk g' a' (((wList s.A).map askP).take n.toNat) → K (.slice a' (((wList s.A).map askP).take n.toNat).length c') h') :
    CallH Tryz.prog id_walk_Walk_Want [.pointer (some ⟨wb, 0, none⟩), .int .i64 n] K h := by
  refine F_walk_Walk_Want_ok (cWNone x ⟨_, rfl, fun e => ?_, fun e => ?_⟩)
  · have e : n < 1 := by simpa using e
    have hn : n.toNat = 0 := by omega
    have := hk none 0 g h (PH.Sub.rf _) (Stp.refl sp) (by rw [hn]; exact .inl rfl)
    rw [hn] at this; exact this
  · have e : ¬ n < 1 := by simpa using e
    obtain ⟨⟨tb, ra, rp, esA, cA, esP, cP, tA, tN, tC, Bt, rfl, d1, d2, d3, d4, d5, d6, hw, ht, ha, hA, hp, hP, hB⟩, hR, hL⟩ := x
    have hlen : esA.length ≤ 1000 := by have := hA.len; omega
    refine ⟨wb, 0, rfl, _, wk_ask hw hR, F_maps_Keys_map_walk_Ask_api_Hash_walk_Ask_api_Hash_ok (nwL fun bm h1 _ hbm c1 => ⟨_, rfl, rfl, cSortedA hbm (c1.sub0 _ _ ha) (fun e he => ?_) hA.old hA.bn hlen fun l a' c' B' h2 hp2 hs2 hB2 cc2 => ⟨_, _, _, rfl, ?_, ?_⟩⟩)⟩
    · obtain ⟨k, _, _, hk⟩ := hA.key e he
      exact ⟨_, hk⟩
    · have := hB2.le
      unfold minV
      split <;> omega
    · have hl := asked_row hA h0 hp2 hs2
      have hle := hB2.le
      rw [← hl] at hk
      have e1 : (minV n ((l.length : Nat) : Int)).toNat = min n.toNat l.length := by unfold minV; split <;> omega
      have e2 : (minV n ((l.length : Nat) : Int)).toNat - (0 : Int).toNat = (l.take n.toNat).length := by rw [e1, List.length_take]; exact Nat.sub_zero _
      rw [e2]
      have hB3 : SR EncAsk (PH.plus g h2 B') a' l := (hB2.keep fun b hb o e => by rw [plus_in hb]; exact e).sr
      refine hk _ _ (PH.plus g h2 B') h2 (c1.sub0.tr cc2.sub0) (sp.new (Chg.from c1.sub0 cc2)) ?_
      have := hB3.slice (L := 0) (lo := 0) (hi := min n.toNat l.length) (mx := (c' : Int)) rfl (Nat.min_le_right _ _) (by omega)
      rw [List.drop_zero, Nat.sub_zero, take_min_len] at this
      exact this
end TL

namespace TL
open Go Go.Proofs
variable {g h : PH} {N : List Nat} {K : Value → PH → Prop} {wb ub tb : Nat} {s : WS} {S T : List PrR} {lv i : Int} {a b : List UInt8} {l : List PrR} {c : Nat}
theorem textsT_le (hm : mayB S = true) (hl : S.length ≤ 48) : ∀ t ∈ textsT S, t.length ≤ 1000000 := fun t ht => by
  have e : textsT S = codesT.map fun c => if c < 16 then leafT S c else inT S (c - 16) := texts_codes (leafT S) (inT S)
  rw [e] at ht
  obtain ⟨c, _, rfl⟩ := List.mem_map.1 ht
  split
  · have := leafT_le hm hl c; omega
  · rw [inT_len]; decide
/-- a walk that was begun and answered -/
structure WOk (s : WS) : Prop where
  inv : ∃ W X, WInv s W X
  ts : ∀ t ∈ s.T, t.length ≤ 1000000
  q16 : ∀ i l, s.Q i = some l → i < 16
theorem WOk.new {R : List UInt8} (hm : mayB S = true) (hl : S.length ≤ 48) (hR : R.length = 32) : WOk (wNew S R) := ⟨⟨_, _, WInv.new hm hl hR⟩, textsT_le hm hl, fun _ _ h => by cases h⟩
theorem nodeW_cases : nodeW s lv i a b = (false, s) ∨ ∃ k, (1 ≤ k ∧ k < 16) ∧ askP k = (lv, i) ∧ s.A k = some (shaN (innT a b)) ∧ nodeW s lv i a b = (true, wIn s k a b) := by
  unfold nodeW
  split
  · rename_i hh
    exact .inr ⟨hh.choose, hh.choose_spec.1, hh.choose_spec.2.1, hh.choose_spec.2.2, rfl⟩
  · exact .inl rfl
theorem pageW_cases : pageW s i l = (false, s) ∨ ∃ k : Nat, k < 16 ∧ i = k ∧ PgOk k l ∧ s.A (16 + k) = some (shaN (76 :: pageL l)) ∧ pageW s i l = (true, wPg s k l) := by
  unfold pageW
  split
  · rename_i hh
    exact .inr ⟨hh.choose, hh.choose_spec.1, hh.choose_spec.2.1, hh.choose_spec.2.2.1, hh.choose_spec.2.2.2, rfl⟩
  · exact .inl rfl
theorem WOk.inn (v : WOk s) (ha : a.length = 32) (hb : b.length = 32) (h16 : c < 16) (hA : s.A c = some (shaN (innT a b))) : WOk (wIn s c a b) := by
  obtain ⟨⟨W, X, v⟩, ht, hq⟩ := v
  refine ⟨⟨_, _, v.node ha hb h16 hA⟩, fun t hm => ?_, hq⟩
  rcases List.mem_append.1 hm with hm | hm
  · exact ht t hm
  · rw [List.mem_singleton] at hm; subst hm
    simp [innT, ha, hb]
theorem WOk.pg (v : WOk s) (h16 : c < 16) (hp : PgOk c l) (hA : s.A (16 + c) = some (shaN (76 :: pageL l))) : WOk (wPg s c l) := by
  obtain ⟨⟨W, X, v⟩, ht, hq⟩ := v
  refine ⟨⟨_, _, v.page h16 hp hA⟩, fun t hm => ?_, fun j m hj => ?_⟩
  · rcases List.mem_append.1 hm with hm | hm
    · exact ht t hm
    · rw [List.mem_singleton] at hm; subst hm
      have := page_len hp
      rw [List.length_cons]; omega
  · have hj : upF s.Q c (some l) j = some m := hj
    by_cases e : j = c
    · omega
    · rw [upF_ne _ _ e] at hj; exact hq j m hj
theorem WOk.node (v : WOk s) (ha : a.length = 32) (hb : b.length = 32) : WOk (nodeW s lv i a b).2 := by
  rcases nodeW_cases (s := s) (lv := lv) (i := i) (a := a) (b := b) with e | ⟨k, hk, _, hA, e⟩
  · rw [e]; exact v
  · rw [e]; exact v.inn ha hb hk.2 hA
theorem WOk.page (v : WOk s) : WOk (pageW s i l).2 := by
  rcases pageW_cases (s := s) (i := i) (l := l) with e | ⟨k, hk, _, hp, hA, e⟩
  · rw [e]; exact v
  · rw [e]; exact v.pg hk hp hA
theorem WOk.answer (v : WOk s) : WOk (answerW s T c).2 := by
  unfold answerW
  split
  · exact v.page
  · exact v.node (nd_len _ _) (nd_len _ _)
theorem WOk.a0 (v : WOk s) : s.A 0 = none := by
  obtain ⟨⟨W, X, v⟩, _, _⟩ := v
  exact (v.out 0 (.inl rfl)).1
theorem WOk.may (v : WOk s) : mayB s.S = true ∧ s.S.length ≤ 48 := by
  obtain ⟨⟨W, X, v⟩, _, _⟩ := v
  exact ⟨v.may, v.le⟩
theorem WOk.none (v : WOk s) (h : wList s.A = []) : ∀ c, s.A c = .none := by
  obtain ⟨⟨W, X, v⟩, _, _⟩ := v
  exact wList_nil v h
/-- an answer fits just where the tree's own hash is wanted -/
theorem answerW_yes (c1 : 1 ≤ c) (c2 : c < 32) (hm : mayB T = true) (h48 : T.length ≤ 48) (hA : s.A c = some (nd T c)) :
    (answerW s T c).1 = true ∧ (c < 16 → (answerW s T c).2 = wIn s c (nd T (2 * c)) (nd T (2 * c + 1))) ∧ (16 ≤ c → (answerW s T c).2 = wPg s (c - 16) (partB T (c - 16))) := by
  unfold answerW
  by_cases h16 : 16 ≤ c
  · rw [if_pos h16]
    obtain ⟨j, rfl⟩ : ∃ j, c = 16 + j := ⟨c - 16, by omega⟩
    have ej : 16 + j - 16 = j := by omega
    rw [ej]
    rcases pageW_cases (s := s) (i := (j : Int)) (l := partB T j) with e | ⟨k, hk, ek, _, _, e⟩
    · exfalso
      have hex : ∃ k : Nat, k < 16 ∧ (j : Int) = k ∧ PgOk k (partB T j) ∧ s.A (16 + k) = some (shaN (76 :: pageL (partB T j))) := ⟨j, by omega, rfl, part_ok hm h48 j, by rw [hA, nd_leaf (by omega)]⟩
      unfold pageW at e
      rw [dif_pos hex] at e
      simp at e
    · have : k = j := by omega
      subst this
      rw [e]
      exact ⟨rfl, fun h => by omega, fun _ => rfl⟩
  · rw [if_neg h16]
    rcases nodeW_cases (s := s) (lv := (askP c).1) (i := (askP c).2) (a := nd T (2 * c)) (b := nd T (2 * c + 1)) with e | ⟨k, hk, ek, _, e⟩
    · exfalso
      have hex : ∃ k, (1 ≤ k ∧ k < 16) ∧ askP k = ((askP c).1, (askP c).2) ∧ s.A k = some (shaN (innT (nd T (2 * c)) (nd T (2 * c + 1)))) := ⟨c, ⟨c1, by omega⟩, rfl, by rw [hA, nd_in c1 (by omega)]⟩
      unfold nodeW at e
      rw [dif_pos hex] at e
      simp at e
    · have : k = c := askP_inj k (by omega) c c2 hk.1 c1 ek
      subst this
      rw [e]
      exact ⟨rfl, fun _ => rfl, fun h => absurd h h16⟩
/-- no two unlike texts of one hash: what is asked for is the tree's -/
theorem WOk.asks (v : WOk s) (hR : s.R = nd T 1) {L : List (List UInt8)} (hno : NoColl L L.length) (h1 : ∀ t ∈ s.T, t ∈ L) (h2 : ∀ t ∈ textsT T, t ∈ L) : ∀ c x, s.A c = some x → x = nd T c := fun c x hA => by
  obtain ⟨⟨W, X, v⟩, _, _⟩ := v
  obtain ⟨c1, c2, hk, _, rfl, _⟩ := v.asked hA
  exact v.wants hR hno h1 h2 c c1 c2 hk
/-- .. and when all is answered, its parts are the tree's -/
theorem WOk.parts (v : WOk s) (hR : s.R = nd T 1) (hm : mayB T = true) (h48 : T.length ≤ 48) (hd : ∀ c, s.A c = Option.none) {L : List (List UInt8)} (hno : NoColl L L.length) (h1 : ∀ t ∈ s.T, t ∈ L) (h2 : ∀ t ∈ textsT T, t ∈ L) : ∀ i, i < 16 → wPart s i = partB T i := by
  obtain ⟨⟨W, X, v⟩, _, _⟩ := v
  obtain ⟨H, TX, hv⟩ := v.vt hd
  rw [hR] at hv
  exact hv.inj (VT.tree hm h48) hno h1 h2
theorem WOk.q (v : WOk s) : ∀ i l, s.Q i = some l → PgOk i l := fun i l hq => by
  obtain ⟨⟨W, X, v⟩, _, v3⟩ := v
  have hi := v3 i l hq
  obtain ⟨t, ht⟩ := Option.isSome_iff_exists.1 (v.q i l hi hq)
  obtain ⟨m, h1, h2, _⟩ := v.lf i t hi ht
  rw [hq] at h1; cases h1
  exact h2
theorem WOk.part (v : WOk s) : ∀ i, i < 16 → PgOk i (wPart s i) := fun i _ => by
  unfold wPart
  cases e : s.Q i with
  | none => exact part_ok v.may.1 v.may.2 i
  | some l => exact v.q i l e
end TL

namespace TL
open Go Go.Proofs
variable {g h : PH} {N : List Nat} {K : Value → PH → Prop} {wb ub tb : Nat} {s : WS} {S T : List PrR}
theorem askGet {A : Nat → Option (List UInt8)} (h0 : A 0 = none) {n k : Nat} (hk : k < (((wList A).map askP).take n).length) : ∃ c, 1 ≤ c ∧ c < 32 ∧ (A c).isSome = true ∧ askP c = (((wList A).map askP).take n)[k] := by
  obtain ⟨c, hc, e⟩ := List.mem_map.1 (List.mem_of_mem_take (List.getElem_mem hk))
  obtain ⟨c1, c2⟩ := wList_in h0 hc
  exact ⟨c, c1, c2, (wList_mem.1 hc).2, e⟩
theorem turn_in (n : Int) {m : Nat} (hm : 0 < m) (hm2 : m ≤ 1000000) : (n.tmod (m : Int) < 0 → 0 ≤ IntKind.wrap .i64 (n.tmod (m : Int) + (m : Int)) ∧ IntKind.wrap .i64 (n.tmod (m : Int) + (m : Int)) < m) ∧ (¬ n.tmod (m : Int) < 0 → 0 ≤ n.tmod (m : Int) ∧ n.tmod (m : Int) < m) := by
  have h1 : n.tmod (m : Int) < m := Int.tmod_lt_of_pos n (by omega)
  have h2 : -(m : Int) < n.tmod (m : Int) := Int.lt_tmod_of_pos n (by omega)
  refine ⟨fun h => ?_, fun h => by omega⟩
  rw [wrap64 (by omega) (by omega)]
  omega
end TL

namespace TL
open Go Go.Proofs
variable {g h : PH} {N : List Nat} {K : Value → PH → Prop} {wb ub tb : Nat} {s : WS} {S T : List PrR}
/-! ### What differs -/
def dif (S T : List PrR) (c : Nat) : Nat := if 1 ≤ c ∧ nd S c ≠ nd T c then 1 else 0
def sumN (f : Nat → Nat) (n : Nat) : Nat := ((List.range n).map f).sum
/-! ### What was answered -/
def got (X : Nat → Option (List UInt8)) (c : Nat) : Nat := if (X c).isSome = true then 1 else 0
/-- a walk to a tree, answered by it alone -/
structure FewV (s : WS) (W : Nat → List UInt8) (X : Nat → Option (List UInt8)) (T : List PrR) : Prop where
  v : WInv s W X
  w : ∀ c, 1 ≤ c → c < 32 → known X c → W c = nd T c
theorem FewV.new {R : List UInt8} (hm : mayB S = true) (hl : S.length ≤ 48) (hR : R = nd T 1) : FewV (wNew S R) (fun _ => R) (fun _ => none) T :=
  ⟨WInv.new hm hl (by rw [hR, nd_len]), fun c _ _ hk => by
    rcases hk with rfl | hk
    · exact hR
    · cases hk⟩
variable {W : Nat → List UInt8} {X : Nat → Option (List UInt8)} {c : Nat}
theorem FewV.ask (v : FewV s W X T) {x : List UInt8} (h : s.A c = some x) : 1 ≤ c ∧ c < 32 ∧ X c = none ∧ x = nd T c ∧ nd s.S c ≠ nd T c := by
  obtain ⟨a1, a2, a3, a4, a5, a6⟩ := v.v.asked h
  have := v.w c a1 a2 a3
  exact ⟨a1, a2, a4, a5.trans this, this ▸ a6⟩
theorem FewV.answer (v : FewV s W X T) (hm : mayB T = true) (h48 : T.length ≤ 48) (h : (s.A c).isSome = true) : (answerW s T c).1 = true ∧ ∃ W' t, FewV (answerW s T c).2 W' (upF X c (some t)) T := by
  obtain ⟨x, hx⟩ := Option.isSome_iff_exists.1 h
  obtain ⟨a1, a2, a4, a5, a6⟩ := v.ask hx
  subst a5
  obtain ⟨e, e1, e2⟩ := answerW_yes a1 a2 hm h48 hx
  refine ⟨e, ?_⟩
  by_cases h16 : c < 16
  · rw [e1 h16]
    refine ⟨_, _, v.v.node (nd_len T (2 * c)) (nd_len T (2 * c + 1)) h16 (by rw [hx, nd_in a1 h16]), fun d d1 d2 hk => ?_⟩
    by_cases k1 : d = 2 * c + 1
    · subst k1; rw [upF_same]
    · rw [upF_ne _ _ k1]
      by_cases k2 : d = 2 * c
      · subst k2; rw [upF_same]
      · rw [upF_ne _ _ k2]
        refine v.w d d1 d2 ?_
        rcases hk with hk | hk
        · exact .inl hk
        · rw [upF_ne _ _ (by omega)] at hk; exact .inr hk
  · obtain ⟨j, rfl⟩ : ∃ j, c = 16 + j := ⟨c - 16, by omega⟩
    have ej : 16 + j - 16 = j := by omega
    rw [e2 (by omega), ej]
    refine ⟨_, _, v.v.page (by omega) (part_ok hm h48 j) (by rw [hx, nd_leaf (by omega)]), fun d d1 d2 hk => v.w d d1 d2 ?_⟩
    rcases hk with hk | hk
    · exact .inl hk
    · rw [upF_ne _ _ (by omega)] at hk; exact .inr hk
theorem FewV.dif (v : FewV s W X T) (c : Nat) (hc : (X c).isSome = true) : 1 ≤ c ∧ c < 32 ∧ nd s.S c ≠ nd T c := by
  obtain ⟨t, ht⟩ := Option.isSome_iff_exists.1 hc
  have h1 : 1 ≤ c ∧ c < 32 := by
    by_cases e : c = 0 ∨ 32 ≤ c
    · rw [(v.v.out c e).2] at ht; cases ht
    · omega
  have hk : known X c := Classical.byContradiction fun e => by rw [(v.v.un c h1.1 h1.2 e).2] at ht; cases ht
  have := (v.v.an c t h1.1 h1.2 ht).2.1
  rw [v.w c h1.1 h1.2 hk] at this
  exact ⟨h1.1, h1.2, this⟩
theorem got_up {t : List UInt8} (hc : c < 32) (h : X c = none) : sumN (got (upF X c (some t))) 32 = sumN (got X) 32 + 1 := by
  have := sum_up (got (upF X c (some t))) (got X) hc fun j hj => by unfold got; rw [upF_ne _ _ hj]
  have e1 : got (upF X c (some t)) c = 1 := by unfold got; rw [upF_same]; rfl
  have e2 : got X c = 0 := by unfold got; rw [h]; rfl
  rw [e1, e2] at this
  unfold sumN; omega
theorem FewV.eq (v : FewV s W X T) (hd : ∀ c, s.A c = none) {c : Nat} (c1 : 1 ≤ c) (c2 : c < 32) (hk : known X c) (hX : X c = none) : nd s.S c = nd T c := by
  rcases v.v.kn c c1 c2 hk hX with ⟨_, e⟩ | ⟨e, _⟩
  · rw [e, v.w c c1 c2 hk]
  · rw [hd c] at e; cases e
/-- a bucket all above which differs was answered -/
theorem FewV.leaf (v : FewV s W X T) (hd : ∀ c, s.A c = none) {i : Nat} (hi : i < 16) (h : ∀ lv, lv ≤ 4 → nd T ((16 + i) / 2 ^ (4 - lv)) ≠ nd s.S ((16 + i) / 2 ^ (4 - lv))) : (X (16 + i)).isSome = true := by
  have key : ∀ c, 1 ≤ c → c < 32 → known X c → nd T c ≠ nd s.S c → (X c).isSome = true := fun c c1 c2 hk hne => by
    cases e : X c with
    | some t => rfl
    | none => exact absurd (v.eq hd c1 c2 hk e).symm hne
  have d : ∀ k, (16 + i) / 2 ^ k / 2 = (16 + i) / 2 ^ (k + 1) := fun k => by rw [Nat.div_div_eq_div_mul, ← Nat.pow_succ]
  have r4 : (16 + i) / 2 ^ 4 = 1 := by omega
  have q4 := key ((16 + i) / 2 ^ 4) (by omega) (by omega) (.inl r4) (h 0 (by omega))
  have q3 := key ((16 + i) / 2 ^ 3) (by omega) (by omega) (.inr (by rw [d 3]; exact q4)) (h 1 (by omega))
  have q2 := key ((16 + i) / 2 ^ 2) (by omega) (by omega) (.inr (by rw [d 2]; exact q3)) (h 2 (by omega))
  have q1 := key ((16 + i) / 2 ^ 1) (by omega) (by omega) (.inr (by rw [d 1]; exact q2)) (h 3 (by omega))
  have q0 := key ((16 + i) / 2 ^ 0) (by omega) (by omega) (.inr (by rw [d 0]; exact q1)) (h 4 (by omega))
  simpa using q0
theorem FewV.none (v : FewV s W X T) (hr : nd s.S 1 = nd T 1) : sumN (got X) 32 = 0 := by
  have h1 : X 1 = .none := by
    cases e : X 1 with
    | none => rfl
    | some t => exact absurd hr (v.dif 1 (by rw [e]; rfl)).2.2
  have hall : ∀ m c, c = m → X c = .none := by
    intro m
    induction m using Nat.strongRecOn with
    | ind m ih =>
      intro c hcm
      by_cases e : c = 0 ∨ 32 ≤ c
      · exact (v.v.out c e).2
      · by_cases e1 : c = 1
        · subst e1; exact h1
        · refine (v.v.un c (by omega) (by omega) fun hk => ?_).2
          rcases hk with hk | hk
          · exact e1 hk
          · rw [ih (c / 2) (by omega) (c / 2) rfl] at hk; cases hk
  have : got X = fun _ => 0 := by
    funext c
    unfold got
    rw [hall c c rfl]; rfl
  rw [this]
  decide
/-! ### What was seen -/
def SeenM (h : PH) (bm : Nat) (X : Nat → Option (List UInt8)) : Prop := ∃ es c, h bm = some (.map (es : List MapEntry).toArray c) ∧ (∀ e ∈ es, kOk (.rec2 .i64 .i64) e.key = true) ∧ (∀ k, 1 ≤ k → k < 32 → va es (keyV (askP k)) = if (X k).isSome = true then some (.int .i64 1) else none) ∧ es.length = sumN (got X) 32
theorem SeenM.keep {h' : PH} {bm : Nat} (x : SeenM h bm X) (hk : ∀ o, h bm = some o → h' bm = some o) : SeenM h' bm X := by
  obtain ⟨es, c, h1, h2, h3, h4⟩ := x
  exact ⟨es, c, hk _ h1, h2, h3, h4⟩
theorem SeenM.look {bm : Nat} (x : SeenM h bm X) {k : Nat} (h1 : 1 ≤ k) (h2 : k < 32) : lkH (.rec2 .i64 .i64) h (some bm) (.agg #[.int .i64 (askP k).1, .int .i64 (askP k).2]) (.int .i64 (0 : Int)) (.int .i64 (if (X k).isSome = true then 1 else 0)) (X k).isSome := by
  obtain ⟨es, c, q1, q2, q3, _⟩ := x
  refine ⟨es, ⟨⟨c, q1⟩, q2⟩, ?_⟩
  have := q3 k h1 h2
  rw [lk_va]
  show (match va es (keyV (askP k)) with | some v => (v, true) | none => _) = _
  rw [this]
  cases (X k).isSome <;> rfl
theorem upM_len {es : List MapEntry} {k v : Value} {c : Nat} (h : va es k = none) : (upM es k v c).1.length = es.length + 1 := by
  unfold upM
  rw [fi_none_iff.2 h]
  simp
theorem SeenM.put {bm : Nat} (x : SeenM h bm X) {k : Nat} (h1 : 1 ≤ k) (h2 : k < 32) (hX : X k = none) {t : List UInt8} {J : PH → Prop} (hk : ∀ h', SeenM h' bm (upF X k (some t)) → Chg [bm] [bm] h h' → J h') :
    muH (.rec2 .i64 .i64) h (some bm) (.agg #[.int .i64 (askP k).1, .int .i64 (askP k).2]) (.int .i64 (1 : Int)) J := by
  obtain ⟨es, c, q1, q2, q3, q4⟩ := x
  refine ⟨bm, es, c, rfl, q1, q2, hk _ ⟨_, _, PH.upd_same _ _ _, upM_keys rfl q2, fun j j1 j2 => ?_, ?_⟩ (Chg.upd _)⟩
  · show va (upM es (keyV (askP k)) _ c).1 _ = _
    rw [va_upM q2 (keyV_ok _) (keyV_ok _), keyV_keq]
    by_cases e : j = k
    · subst e; rw [upF_same]; simp
    · rw [if_neg (by simp only [decide_eq_true_eq]; exact fun e2 => e (askP_inj j j2 k h2 j1 h1 e2)), upF_ne _ _ e]
      exact q3 j j1 j2
  · rw [got_up h2 hX, ← q4]
    refine upM_len ?_
    have := q3 k h1 h2
    rw [hX] at this
    exact this
theorem SeenM.len {bm : Nat} (x : SeenM h bm X) : lenM h (some bm) (sumN (got X) 32) := by
  obtain ⟨es, c, q1, _, _, q4⟩ := x
  exact ⟨_, c, q1, by rw [← q4]; simp⟩
end TL

namespace TL
open Go Go.Proofs
variable {g h : PH} {N : List Nat} {K : Value → PH → Prop} {s : WS} {j : Nat} {lv i : Int} {a b : List UInt8} {l : List PrR}
/-- the examples' walk, so many answers on -/
structure KnS (s : WS) (j : Nat) : Prop where
  S : s.S = []
  R : s.R = nd sApp 1
  t : s.T.length = 31 + j
  a : (j < 5 ∧ s.Q = (fun _ => none) ∧ s.A = onlyA (pc j)) ∨ (j = 5 ∧ s.A = (fun _ => none) ∧ s.Q = upF (fun _ => none) 3 (some sApp))
theorem KnS.new : KnS (wNew [] (nd sApp 1)) 0 := by
  refine ⟨?_, ?_, ?_, .inl ⟨Nat.zero_lt_succ 4, ?_, ?_⟩⟩
  · unfold wNew; dsimp only
  · unfold wNew; dsimp only
  · exact texts_len []
  · unfold wNew; dsimp only
  · unfold wNew; dsimp only; exact wAsk_yes on1
theorem KnS.in (k : KnS s j) (hj : j < 5) : s.Q = (fun _ => none) ∧ s.A = onlyA (pc j) := by
  rcases k.a with h | h
  · exact h.2
  · omega
theorem KnS.end (k : KnS s 5) : s.A = (fun _ => none) ∧ s.Q = upF (fun _ => none) 3 (some sApp) := by
  rcases k.a with h | h
  · omega
  · exact h.2
theorem KnS.at_ (k : KnS s j) (hj : j < 5) : s.A (pc j) = some (nd sApp (pc j)) := by rw [(k.in hj).2]; unfold onlyA; rw [upF_same]
theorem KnS.only (k : KnS s j) (hj : j < 5) {c : Nat} {x : List UInt8} (h : s.A c = some x) : c = pc j ∧ x = nd sApp (pc j) := by
  rw [(k.in hj).2] at h
  unfold onlyA at h
  by_cases e : c = pc j
  · subst e; rw [upF_same] at h; cases h; exact ⟨rfl, rfl⟩
  · rw [upF_ne _ _ e] at h; cases h
theorem KnS.next (k : KnS s j) (hj : j < 5) : (answerW s sApp (pc j)).1 = true ∧ KnS (answerW s sApp (pc j)).2 (j + 1) := by
  obtain ⟨p1, p2, p3, p4⟩ := pc_in j hj
  obtain ⟨hQ, hA⟩ := k.in hj
  obtain ⟨e, e1, e2⟩ := answerW_yes p1 p2 app_may (by decide) (k.at_ hj)
  refine ⟨e, ?_⟩
  have ht := k.t
  by_cases h16 : pc j < 16
  · rw [e1 h16]
    have hj4 : j < 4 := by
      rcases Nat.lt_or_ge j 4 with h | h
      · exact h
      · have := p4 (by omega); omega
    refine ⟨k.S, k.R, by show (s.T ++ [_]).length = _; rw [List.length_append]; simp; omega, .inl ⟨by omega, hQ, ?_⟩⟩
    show wAsk s.S (wAsk s.S (upF s.A (pc j) none) (2 * pc j) (nd sApp (2 * pc j))) (2 * pc j + 1) (nd sApp (2 * pc j + 1)) = _
    rw [k.S, hA, only_off]
    exact next_ask j hj4
  · rw [e2 (by omega)]
    have hj4 : j = 4 := by
      rcases Nat.lt_or_ge j 4 with h | h
      · have := p3 h; omega
      · omega
    subst hj4
    refine ⟨k.S, k.R, by show (s.T ++ [_]).length = _; rw [List.length_append]; simp; omega, .inr ⟨rfl, ?_, ?_⟩⟩
    · show upF s.A (16 + (pc 4 - 16)) none = _
      rw [hA]; exact only_off 19
    · show upF s.Q (pc 4 - 16) (some (partB sApp (pc 4 - 16))) = _
      rw [hQ]
      show upF _ 3 (some (partB sApp 3)) = _
      rw [app_page]
theorem KnS.noNode (k : KnS s j) (hj : j < 5) (hn : askP (pc j) = (lv, i) → shaN (innT a b) ≠ nd sApp (pc j)) : nodeW s lv i a b = (false, s) := by
  rcases nodeW_cases (s := s) (lv := lv) (i := i) (a := a) (b := b) with e | ⟨c, hc, ek, hA, _⟩
  · exact e
  · obtain ⟨rfl, e⟩ := k.only hj hA
    exact absurd e (hn ek)
theorem KnS.noPage (k : KnS s j) (hj : j < 5) (hn : (16 : Int) + i = (pc j : Nat) → shaN (76 :: pageL l) ≠ nd sApp (pc j)) : pageW s i l = (false, s) := by
  rcases pageW_cases (s := s) (i := i) (l := l) with e | ⟨c, hc, ek, _, hA, _⟩
  · exact e
  · obtain ⟨e1, e⟩ := k.only hj hA
    exact absurd e (hn (by omega))
theorem KnS.a0 (k : KnS s j) : s.A 0 = none := by
  rcases k.a with ⟨hj, _, hA⟩ | ⟨_, hA, _⟩
  · have := (pc_in j hj).1
    rw [hA]; unfold onlyA; rw [upF_ne _ _ (by omega)]
  · rw [hA]
theorem KnS.row (k : KnS s j) (hj : j < 5) {n : Nat} (hn : 1 ≤ n) : ((wList s.A).map askP).take n = [askP (pc j)] := by
  rw [(k.in hj).2, onlyA_list (pc_in j hj).2.1]
  exact List.take_of_length_le (by simpa using hn)
theorem KnS.done (k : KnS s 5) : wDone s = sApp := app_done k.S k.end.2
theorem turned : shaN (innT (nd sApp 3) (nd sApp 2)) ≠ nd sApp 1 := by
  rw [app3, app4, app_same (j := 3) (by omega) (by unfold Anc; omega), nil3 (by omega) (by omega)]
  decide +kernel
structure KnI (h0 : PH) (wb : Nat) (g : PH) (N : List Nat) (h : PH) (s : WS) (j : Nat) : Prop where
  k : KnS s j
  x : WalkAt g N h wb s
  st : Stp h0 [] h0 g N h
section
variable {h0 : PH} {wb tb : Nat}
/-- a node that does not fit -/
theorem KnI.node (I : KnI h0 wb g N h s j) (hj : j < 5) (ha : a.length = 32) (hb : b.length = 32) (hn : askP (pc j) = (lv, i) → shaN (innT a b) ≠ nd sApp (pc j)) (hk : ∀ N' h', KnI h0 wb g N' h' s j → K (.bool false) h') :
    CallH Tryz.prog id_walk_Walk_Node [.pointer (some ⟨wb, 0, none⟩), .int .i64 lv, .int .i64 i, .agg (((bi a).map (Value.int .u8) ++ [])).toArray, .agg (((bi b).map (Value.int .u8) ++ [])).toArray] K h := by
  have hj' := hj
  refine cWNodeV I.x I.st.spl ha hb (by have := I.k.t; omega) fun N' h' x' st' => ?_
  rw [I.k.noNode hj hn] at x' ⊢
  exact hk N' h' ⟨I.k, x', I.st.trans st'⟩
theorem KnI.page (I : KnI h0 wb g N h s j) (hj : j < 5) {lA : Option Addr} {lC : Nat} (hl : SR EncPr g lA l) (hn : l.length ≤ 1000) (hs : ∀ x ∈ l, x.p.length ≤ 1000000) (hno : (16 : Int) + i = (pc j : Nat) → shaN (76 :: pageL l) ≠ nd sApp (pc j)) (hk : ∀ g' N' h', g.Sub g' → KnI h0 wb g' N' h' s j → K (.bool false) h') :
    CallH Tryz.prog id_walk_Walk_Page [.pointer (some ⟨wb, 0, none⟩), .int .i64 i, .slice lA l.length lC] K h := by
  have hj' := hj
  refine cWPageV I.x I.st.spl hl hn hs (by have := I.k.t; omega) fun g' N' h' x' st' => ?_
  rw [I.k.noPage hj hno] at x' ⊢
  exact hk g' N' h' st'.gs ⟨I.k, x', I.st.trans st'⟩
theorem KnI.want (I : KnI h0 wb g N h s j) (hj : j < 5) (hk : ∀ a' c' g' h', g.Sub g' → KnI h0 wb g' N h' s j → SR EncAsk g' a' [askP (pc j)] → K (.slice a' 1 c') h') :
    CallH Tryz.prog id_walk_Walk_Want [.pointer (some ⟨wb, 0, none⟩), .int .i64 (9 : Int)] K h := by
  refine cWWantG I.x I.st.spl I.k.a0 fun a' c' g' h' s' st' hr => ?_
  rw [I.k.row hj (by decide)] at hr ⊢
  exact hk a' c' g' h' st'.gs ⟨I.k, I.x.keep st'.gs fun q _ o e => s' q o e, I.st.trans st'⟩ hr
end
end TL

namespace TL
open Go Go.Proofs
variable {g h : PH} {N : List Nat} {K : Value → PH → Prop} {sb : Nat} {s : ShS} {v : VwR}
variable {rA eA pA : Option Addr} {rC eC pC : Nat} {rows : List OsR} {eps : List Int} {prs : List PrR} {r0 r1 : Int}

/-- a row, in memory -/
structure RowOk (h : PH) (rA : Option Addr) (rows : List OsR) (eA : Option Addr) (eps : List Int) (pA : Option Addr) (prs : List PrR) : Prop where
  rw : SR EncOs h rA rows
  op : ∀ r ∈ rows, SR EncOp h r.a r.ops
  ep : SR EncI h eA eps
  pr : SR EncPr h pA prs
theorem RowOk.sub {h' : PH} (x : RowOk h rA rows eA eps pA prs) (s : h.Sub h') : RowOk h' rA rows eA eps pA prs := ⟨x.rw.sub s, fun r hr => (x.op r hr).sub s, x.ep.sub s, x.pr.sub s⟩
end TL

namespace TL
open Go Go.Proofs
variable {g h : PH} {N : List Nat} {K : Value → PH → Prop} {sb : Nat} {s : ShS} {v : VwR}
variable {rA eA pA : Option Addr} {rC eC pC : Nat} {rows : List OsR} {eps : List Int} {prs : List PrR} {r0 r1 : Int}

abbrev okP (l : List PrR) : Prop := mayB l = true ∧ l.length ≤ 48
section
variable {epoch gone prev : Int} {bs : List BtR} {a : Option Addr} {c : Nat}
end
end TL

namespace TL
open Go Go.Proofs
variable {g h : PH} {N : List Nat} {K : Value → PH → Prop} {s p m k : List UInt8} {a : Option Addr} {c : Nat} {l : List PrR}
end TL

namespace TL
open Go Go.Proofs
variable {g h : PH} {N : List Nat} {K : Value → PH → Prop} {sb wb : Nat}
variable {rA eA pA : Option Addr} {rC eC pC : Nat} {rows : List OsR} {eps : List Int} {prs : List PrR} {r0 r1 : Int}
/-- an answered walk beside a ship -/
structure CopI (h0 : PH) (sb : Nat) (sS : ShS) (Ns : List Nat) (T : List PrR) (wb : Nat) (g : PH) (N : List Nat) (h : PH) (s : WS) (n : Nat) : Prop where
  f : ∃ W X, FewV s W X T
  v : WOk s
  R : s.R = nd T 1
  t : s.T.length ≤ 31 + n
  z : wSize s.A + n ≤ 31
  x : WalkAt g N h wb s
  sh : ShipAt g Ns h sb sS
  dj : Dj Ns N
  st : Stp h0 [] h0 g (N ++ Ns) h
theorem CopI.grow {h0 : PH} {sS : ShS} {Ns : List Nat} {T : List PrR} {s : WS} {n : Nat} {h' : PH} (I : CopI h0 sb sS Ns T wb g N h s n) (s' : h.Sub h') : CopI h0 sb sS Ns T wb g N h' s n :=
  ⟨I.f, I.v, I.R, I.t, I.z, I.x.keep (PH.Sub.rf _) fun q _ o e => s' q o e, I.sh.keep (PH.Sub.rf _) fun q _ o e => s' q o e, I.dj, I.st.trans (I.st.spl.grow s')⟩
end TL

namespace TL
open Go Go.Proofs
variable {g h : PH} {N : List Nat} {K : Value → PH → Prop} {zb : Nat}
/-- a stage: the walk, the copy's place; how many; texts of walks ahead -/
structure StS where
  g : Option (WS × Int × Int)
  b : Nat
  T : List (List UInt8)
def allT (s : StS) : List (List UInt8) := match s.g with
  | none => s.T
  | some (w, _, _) => s.T ++ w.T
def forgetS (s : StS) : StS := ⟨none, s.b, allT s⟩
open Classical in
/-- what a root does -/
noncomputable def rootS (s : StS) (m0 m2 m3 : Int) (R : List UInt8) (base : List PrR) (at_ : Int) : Bool × StS :=
  if m0 ≠ 4 ∨ m2 ≤ at_ ∨ m3 < 1 then (false, s)
  else if ∃ w, s.g = some (w, m2, m3) ∧ w.R = R then (false, s)
  else if okP base then (true, ⟨some (wNew base R, m2, m3), s.b + 1, allT s⟩)
  else (false, s)
/-- what an answer does -/
noncomputable def answS (s : StS) (m0 m2 lv i : Int) (a b : List UInt8) (l : List PrR) : Bool × StS := match s.g with
  | none => (false, s)
  | some (w, at_, e) => if m2 ≠ at_ then (false, s)
    else if m0 = 6 then ((nodeW w lv i a b).1, { s with g := some ((nodeW w lv i a b).2, at_, e) })
    else if m0 = 7 then ((pageW w i l).1, { s with g := some ((pageW w i l).2, at_, e) })
    else (false, s)
def goalAt (g : PH) (Nw : List Nat) (h : PH) (gp : Option Addr) : Option (WS × Int × Int) → Prop
  | none => gp = none ∧ Nw = []
  | some (w, a, e) => ∃ gb wb, gp = some ⟨gb, 0, none⟩ ∧ g gb = some (.cells ([.pointer (some ⟨wb, 0, none⟩), .int .i64 a, .int .i64 e] : List Value).toArray T_stage_goal (0, 0)) ∧ WalkAt g Nw h wb w
structure StageAt (g : PH) (N : List Nat) (h : PH) (zb : Nat) (s : StS) : Prop where
  mem : ∃ gp tA tN tC Bt Nw, N = zb :: (Bt ++ Nw) ∧ zb ∉ Bt ++ Nw ∧ Dj Bt Nw ∧ h zb = some (.cells ([.pointer gp, .int .i64 (s.b : Nat), .slice tA tN tC] : List Value).toArray T_stage_Stage (0, 0)) ∧ Buf EncS 9 Bt h tA tN tC s.T ∧ goalAt g Nw h gp s.g
variable {s : StS}
theorem goalAt.keep {g' h' : PH} {Nw : List Nat} {gp : Option Addr} {q : Option (WS × Int × Int)} (x : goalAt g Nw h gp q) (hs : g.Sub g') (hk : ∀ b ∈ Nw, ∀ o, h b = some o → h' b = some o) : goalAt g' Nw h' gp q := by
  unfold goalAt at x ⊢
  split at x
  · exact x
  · obtain ⟨gb, wb, h1, h2, h3⟩ := x
    exact ⟨gb, wb, h1, hs _ _ h2, h3.keep hs hk⟩
theorem StageAt.keep {g' h' : PH} (x : StageAt g N h zb s) (hs : g.Sub g') (hk : ∀ b ∈ N, ∀ o, h b = some o → h' b = some o) : StageAt g' N h' zb s := by
  obtain ⟨gp, tA, tN, tC, Bt, Nw, rfl, nz, dj, hb, hbuf, hg⟩ := x
  exact ⟨gp, tA, tN, tC, Bt, Nw, rfl, nz, dj, hk _ (by simp) _ hb, hbuf.keep fun b hb' => hk b (List.mem_cons_of_mem _ (List.mem_append_left _ hb')), hg.keep hs fun b hb' => hk b (List.mem_cons_of_mem _ (List.mem_append_right _ hb'))⟩
theorem StageAt.stp {M M' : List Nat} {g' h' : PH} (x : StageAt g N h zb s) (t : Stp g M h g' M' h') (d : Dj N M) : StageAt g' N h' zb s :=
  x.keep t.gs fun b hb _ e => t.chg.keep e (d b hb)
theorem cSNew (sp : Spl g N h) (hk : ∀ zb N' h', StageAt g N' h' zb ⟨none, 0, []⟩ → Stp g N h g (N' ++ N) h' → Dj N' N → h.Sub h' → K (.pointer (some ⟨zb, 0, none⟩)) h') : CallH Tryz.prog id_stage_New [] K h :=
  F_stage_New_ok (nwL fun b h1 _ hb1 c1 => hk b [b] h1 ⟨none, none, 0, 0, [], [], rfl, by simp, Dj.nil _, hb1, Buf.nil _ _ _ _, rfl, rfl⟩ (sp.own c1 (has1 hb1)) (Dj.new sp.has c1) c1.sub0)
theorem cSNone (x : StageAt g N h zb s) (hk : K (.bool s.g.isNone) h) : CallH Tryz.prog id_stage_Stage_none [.pointer (some ⟨zb, 0, none⟩)] K h := by
  obtain ⟨gp, tA, tN, tC, Bt, Nw, rfl, nz, dj, hb, hbuf, hg⟩ := x
  refine F_stage_Stage_none_ok ⟨zb, 0, fun _ => rfl, gp, fun _ => rdsL hb rfl rfl, ?_⟩
  have : (Option.isNone (some (⟨zb, 0, none⟩ : Addr)) || Option.isNone gp) = s.g.isNone := by
    cases hq : s.g with
    | none => rw [hq] at hg; rw [hg.1]; rfl
    | some q =>
      obtain ⟨w, a, e⟩ := q
      rw [hq] at hg
      obtain ⟨gb, wb, rfl, _, _⟩ := hg
      rfl
  rw [this]; exact hk
theorem zcells (p : Option Addr) (b : Nat) (a : Option Addr) (n c : Nat) {o : Nat} {T : TypeId} (hb : h o = some (.cells ([.pointer p, .int .i64 (b : Nat), .slice a n c] : List Value).toArray T (0, 0))) :
    h.rds o 0 1 = some [.pointer p] ∧ h.rds o (0 + 1) 1 = some [.int .i64 (b : Nat)] ∧ h.rds o (0 + 2) 1 = some [.slice a n c] := ⟨rdsL hb rfl rfl, rdsL hb rfl rfl, rdsL hb rfl rfl⟩
theorem gcells {p : Option Addr} {a e : Int} {o : Nat} {T : TypeId} (hb : h o = some (.cells ([.pointer p, .int .i64 a, .int .i64 e] : List Value).toArray T (0, 0))) :
    h.rds o 0 1 = some [.pointer p] ∧ h.rds o (0 + 1) 1 = some [.int .i64 a] ∧ h.rds o (0 + 2) 1 = some [.int .i64 e] := ⟨rdsL hb rfl rfl, rdsL hb rfl rfl, rdsL hb rfl rfl⟩
theorem cSForget (x : StageAt g N h zb s) (sp : Spl g N h) (hT : (allT s).length ≤ 1000000) (hk : ∀ N' h', StageAt g N' h' zb (forgetS s) → Stp g N h g N' h' → K (.tuple #[]) h') : CallH Tryz.prog id_stage_Stage_Forget [.pointer (some ⟨zb, 0, none⟩)] K h := by
  refine F_stage_Stage_Forget_ok (cSNone x ⟨_, rfl, fun e => ?_, fun e => ?_⟩)
  · obtain ⟨gp, tA, tN, tC, Bt, Nw, rfl, nz, dj, hb, hbuf, hg⟩ := x
    cases hq : s.g with
    | none => rw [hq] at e; cases e
    | some q =>
    obtain ⟨w, a, e'⟩ := q
    rw [hq] at hg
    obtain ⟨gb, wb, rfl, hgb, hw⟩ := hg
    have haT : allT s = s.T ++ w.T := by unfold allT; rw [hq]
    have hTl : s.T.length + w.T.length ≤ 1000000 := by rw [haT, List.length_append] at hT; exact hT
    obtain ⟨z0, z1, z2⟩ := zcells _ _ _ _ _ hb
    obtain ⟨y0, y1, y2⟩ := gcells (sp.sub _ _ hgb)
    refine ⟨zb, 0, rfl, _, _, _, z2, zb, 0, rfl, _, z0, gb, 0, rfl, _, y0, cWTexts hw (by omega) fun a1 c1 B1 h1 hb1 cc1 => ⟨_, _, _, rfl, (zcells _ _ _ _ _ (cc1.sub0 _ _ hb)).2.2, EncS.row w.T, hb1.sr.src, ?_⟩⟩
    have htn := hbuf.1
    refine (hbuf.sub cc1.sub0).append (new := w.T) rfl rfl rfl (by omega) fun a2 c2 B2 h2 hb2 cc2 _ => ⟨zb, 0, rfl, ?_⟩
    have nzB : zb ∉ Bt := fun hm => nz (List.mem_append_left _ hm)
    have hbz2 := cc2.keep (cc1.sub0 _ _ hb) nzB
    refine stL hbz2 rfl rfl fun h3 hbz3 c3 => ⟨zb, 0, rfl, stL hbz3 rfl rfl fun h4 hbz4 c4 => ?_⟩
    have nz2 : zb ∉ B2 := fun hm => by
      rcases cc2.2 _ hm with h5 | h5
      · exact nzB h5
      · rw [cc1.sub0 _ _ hb] at h5; cases h5
    have hb4 : Buf EncS 9 B2 h4 a2 (tN + w.T.length) c2 (s.T ++ w.T) := (hb2.chg c3 (notIn1 nz2)).chg c4 (notIn1 nz2)
    refine hk (zb :: (B2 ++ [])) h4 ⟨none, a2, _, c2, B2, [], rfl, by simpa using nz2, Dj.nil _, hbz4, ?_, rfl, rfl⟩ ?_
    · show Buf EncS 9 B2 h4 a2 _ c2 (allT s)
      rw [haT]; exact hb4
    · have C1 : Chg (zb :: (Bt ++ Nw)) (zb :: (Bt ++ Nw)) h h1 := ⟨fun b o _ e => cc1.sub0 b o e, fun b hb => .inl hb⟩
      have C2 : Chg (zb :: (Bt ++ Nw)) (zb :: (B2 ++ [])) h1 h2 := by
        rw [List.append_nil]
        exact cc2.sub (fun b hb => by simp [hb]) fun b hb => by
          rcases List.mem_cons.1 hb with rfl | hb
          · exact .inr List.mem_cons_self
          · exact .inl hb
      have C3 : Chg (zb :: (B2 ++ [])) (zb :: (B2 ++ [])) h2 h4 := (c3.trans c4).head
      refine sp.chg ((C1.trans C2).trans C3) fun b hb => ?_
      rw [List.append_nil] at hb
      rcases List.mem_cons.1 hb with rfl | hb
      · exact ⟨_, hbz4⟩
      · exact hb4.has b hb
  · have hq : s.g = none := by
      cases hq : s.g with
      | none => rfl
      | some q => rw [hq] at e; cases e
    refine hk N h ?_ (Stp.refl sp)
    have : forgetS s = s := by
      unfold forgetS allT
      rw [hq]
      cases s
      dsimp only at hq
      subst hq; rfl
    rw [this]; exact x
end TL

namespace TL
open Go Go.Proofs
variable {g h : PH} {N : List Nat} {K : Value → PH → Prop} {zb : Nat} {s : StS}
theorem cSBegun (x : StageAt g N h zb s) (hk : K (.int .i64 (s.b : Nat)) h) : CallH Tryz.prog id_stage_Stage_Begun [.pointer (some ⟨zb, 0, none⟩)] K h := by
  obtain ⟨gp, tA, tN, tC, Bt, Nw, rfl, nz, dj, hb, hbuf, hg⟩ := x
  obtain ⟨z0, z1, z2⟩ := zcells _ _ _ _ _ hb
  exact F_stage_Stage_Begun_ok ⟨fun e => (by cases e), fun _ => ⟨zb, 0, rfl, _, z1, hk⟩⟩
theorem cSDone (x : StageAt g N h zb s) (sp : Spl g N h) (hQ : ∀ w a e, s.g = some (w, a, e) → ∀ i l, w.Q i = some l → l.length ≤ 48)
    (h0 : s.g = none → K (.tuple #[.slice none 0 0, .int .i64 (0 : Int), .int .i64 (0 : Int), .bool false]) h)
    (hno : ∀ w a e, s.g = some (w, a, e) → (∃ k, 1 ≤ k ∧ k < 32 ∧ (w.A k).isSome = true) ∨ ((∀ k, 1 ≤ k → k < 32 → w.A k = none) ∧ 48 < (wDone w).length) → ∀ h', h.Sub h' → K (.tuple #[.slice none 0 0, .int .i64 (0 : Int), .int .i64 (0 : Int), .bool false]) h')
    (hyes : ∀ w a e, s.g = some (w, a, e) → (∀ k, 1 ≤ k → k < 32 → w.A k = none) → (wDone w).length ≤ 48 → ∀ l a' c' B' h', l.Perm (wDone w) → (l.Pairwise fun a b => ¬ b.p < a.p) → Buf EncPr T_api_Pair B' h' a' l.length c' l → Chg [] B' h h' → K (.tuple #[.slice a' l.length c', .int .i64 a, .int .i64 e, .bool true]) h') :
    CallH Tryz.prog id_stage_Stage_Done [.pointer (some ⟨zb, 0, none⟩)] K h := by
  refine F_stage_Stage_Done_ok (cSNone x ⟨_, rfl, fun e => ?_, fun e => ?_⟩)
  · refine h0 ?_
    cases hq : s.g with
    | none => rfl
    | some q => rw [hq] at e; cases e
  · obtain ⟨gp, tA, tN, tC, Bt, Nw, rfl, nz, dj, hb, hbuf, hg⟩ := x
    cases hq : s.g with
    | none => rw [hq] at e; cases e
    | some q =>
    obtain ⟨w, a, e'⟩ := q
    rw [hq] at hg
    obtain ⟨gb, wb, rfl, hgb, hw⟩ := hg
    obtain ⟨z0, z1, z2⟩ := zcells _ _ _ _ _ hb
    obtain ⟨y0, y1, y2⟩ := gcells (sp.sub _ _ hgb)
    have spw : Spl g Nw h := sp.less fun b hb => List.mem_cons_of_mem _ (List.mem_append_right _ hb)
    refine ⟨zb, 0, rfl, _, z0, gb, 0, rfl, _, y0, cWDone hw spw (hQ w a e' hq) (fun hh h1 s1 => ⟨_, _, _, _, rfl, fun _ => hno w a e' hq hh h1 s1, fun e => by cases e⟩) fun hd h48 l a1 c1 B1 h1 hp hs hb1 cc1 => ⟨_, _, _, _, rfl, fun e => (by cases e), fun _ => ?_⟩⟩
    obtain ⟨z0', _, _⟩ := zcells _ _ _ _ _ (cc1.sub0 _ _ hb)
    obtain ⟨_, y1', y2'⟩ := gcells (cc1.sub0 _ _ (sp.sub _ _ hgb))
    exact ⟨zb, 0, rfl, _, z0', gb, 0, rfl, _, y1', zb, 0, rfl, _, z0', gb, 0, rfl, _, y2', hyes w a e' hq hd h48 l a1 c1 B1 h1 hp hs hb1 cc1⟩
end TL

namespace TL
open Go Go.Proofs
variable {g h : PH} {N : List Nat} {K : Value → PH → Prop} {zb : Nat} {s : StS}
def askF (ep a : Int) (p : Int × Int) : MsgF := fOf { msg0 with kd := 5, ep := ep, at_ := a, lv := p.1, ii := p.2 } none 0
theorem ask_row (ep a : Int) (p : Int × Int) : (.int .u8 (5 : Int) :: (.int .i64 ep :: (.int .i64 a :: (.int .i64 (0 : Int) :: (.int .i64 (0 : Int) :: (.int .i64 (0 : Int) :: (.slice none 0 0 :: (.int .i64 (0 : Int) :: ((List.replicate 32 0).map (Value.int .u8) ++ (.int .i64 p.1 :: (.int .i64 p.2 :: ((List.replicate 32 0).map (Value.int .u8) ++ ((List.replicate 32 0).map (Value.int .u8) ++ ([.slice none 0 0] : List Value))))))))))))) : List Value) = EncMsg.row [askF ep a p] := by
  simp only [Enc.row, List.flatMap_cons, List.flatMap_nil, EncMsg, encMsg, fOf, askF, msg0, hv_zero, List.append_nil]
  rfl
/-- what a stage asks for -/
def asksF (s : StS) (ep : Int) : List MsgF := match s.g with
  | none => []
  | some (w, a, _) => (((wList w.A).map askP).take 8).map (askF ep a)
theorem asksF_len (s : StS) (ep : Int) : (asksF s ep).length ≤ 8 := by
  unfold asksF
  split
  · simp
  · rw [List.length_map, List.length_take]; omega
theorem cSAsks (x : StageAt g N h zb s) {M : List Nat} (sp : Spl g M h) (h0 : ∀ w a e, s.g = some (w, a, e) → w.A 0 = none) {ep : Int} (hk : ∀ a' c' g' h', h.Sub h' → Stp g M h g' M h' → SR EncMsg g' a' (asksF s ep) → K (.slice a' (asksF s ep).length c') h') :
    CallH Tryz.prog id_stage_Stage_Asks [.pointer (some ⟨zb, 0, none⟩), .int .i64 ep] K h := by
  refine F_stage_Stage_Asks_ok (cSNone x ⟨_, rfl, fun e => ?_, fun e => ?_⟩)
  · have hq : s.g = none := by
      cases hq : s.g with
      | none => rfl
      | some q => rw [hq] at e; cases e
    have ha : asksF s ep = [] := by unfold asksF; rw [hq]
    rw [ha] at hk
    exact hk none 0 g h (PH.Sub.rf _) (Stp.refl sp) (.inl rfl)
  · obtain ⟨gp, tA, tN, tC, Bt, Nw, rfl, nz, dj, hb, hbuf, hg⟩ := x
    cases hq : s.g with
    | none => rw [hq] at e; cases e
    | some q =>
    obtain ⟨w, a, e'⟩ := q
    rw [hq] at hg
    obtain ⟨gb, wb, rfl, hgb, hw⟩ := hg
    have ha : asksF s ep = (((wList w.A).map askP).take 8).map (askF ep a) := by unfold asksF; rw [hq]
    rw [ha] at hk
    obtain ⟨z0, z1, z2⟩ := zcells _ _ _ _ _ hb
    obtain ⟨y0, y1, y2⟩ := gcells (sp.sub _ _ hgb)
    refine ⟨zb, 0, rfl, _, z0, gb, 0, rfl, _, y0, cWWantG hw sp (h0 w a e' hq) fun aA aC g2 h2 s2 st2 hl2 => ⟨_, _, _, rfl, ?_⟩⟩
    have e8 : (8 : Int).toNat = 8 := rfl
    rw [e8] at hl2 ⊢
    generalize hL : ((wList w.A).map askP).take 8 = L at hl2 hk ⊢
    have hLl : L.length ≤ 8 := by rw [← hL, List.length_take]; omega
    refine LoopP.ind (fun (z : (Option Addr × Nat × Nat) × Int × Unit) h' => ∃ (i : Nat) (B' : List Nat), z.2.1 = i ∧ i ≤ L.length ∧ Buf EncMsg T_api_Msg B' h' z.1.1 z.1.2.1 z.1.2.2 ((L.take i).map (askF ep a)) ∧ Chg [] B' h2 h') (fun z _ => (L.length - z.2.1).toNat) ?_ ⟨0, [], rfl, Nat.zero_le _, Buf.nil _ _ _ _, Chg.refl _ _⟩
    rintro ⟨⟨oA, oN, oC⟩, zi, u⟩ h3 ⟨i, B3, hzi, hi, hb3, cc3⟩
    dsimp only at hzi hb3
    subst hzi
    dsimp only
    have hn3 := hb3.1
    rw [List.length_map, List.length_take] at hn3
    refine ⟨fun e => ?_, fun e => ?_⟩
    · have e : i < L.length := by have := of_decide_eq_true e; omega
      have hit : ((i : Nat) : Int).toNat = i := by omega
      have wi : IntKind.wrap .i64 (((i : Nat) : Int) + (1 : Int)) = ((i + 1 : Nat) : Int) := by rw [wrap64] <;> omega
      obtain ⟨b4, o4, hA4, hr4⟩ := ((hl2.sub st2.spl.sub).sub cc3.sub0).get e
      obtain ⟨z0', _, _⟩ := zcells _ _ _ _ _ (cc3.sub0 _ _ (s2 _ _ hb))
      obtain ⟨_, y1', _⟩ := gcells (cc3.sub0 _ _ (s2 _ _ (sp.sub _ _ hgb)))
      rw [hit, wi]
      refine ⟨b4, o4, ⟨hA4, by omega, by omega⟩, L[i].1, L[i].2, hr4 _ 0 2 rfl (by decide), zb, 0, rfl, _, z0', gb, 0, rfl, _, y1', ?_⟩
      refine hb3.append (new := [askF ep a L[i]]) rfl (ask_row ep a L[i]) rfl (by omega) fun a5 c5 B5 h5 hb5 cc5 _ => ⟨⟨i + 1, B5, rfl, by omega, ?_, cc3.trans cc5⟩, by omega⟩
      rw [List.take_succ_eq_append_getElem e, List.map_append]; exact hb5
    · have e : i = L.length := by have := of_decide_eq_false e; omega
      subst e
      rw [List.take_length] at hb3
      have st3 := st2.spl.new cc3
      have hn5 := hb3.1
      have := hk oA oC (PH.plus g2 h3 B3) h3 (s2.tr cc3.sub0) (st2.trans st3) (hb3.keep fun b hb o e => by rw [plus_in hb]; exact e).sr
      rw [← hn5] at this
      exact this
section
variable {m0 m1 m2 m3 m4 m5 m7 m9 m10 : Int} {m6A m13A : Option Addr} {m6N m6C m13N m13C : Nat} {m8 m11 m12 : List Int}
theorem cSRoot (x : StageAt g N h zb s) (sp : Spl g N h) (hT : (allT s).length ≤ 1000000) (hbn : s.b ≤ 1000000) {R : List UInt8} (hR : R.length = 32) (h11 : m11.length = 32) (h12 : m12.length = 32) {bA : Option Addr} {bC : Nat} {base : List PrR} (hl : SR EncPr g bA base) (hn : base.length ≤ 1000) (hs : ∀ x ∈ base, x.p.length ≤ 1000000) {at_ : Int}
    (hk : ∀ g' N' h', StageAt g' N' h' zb (rootS s m0 m2 m3 R base at_).2 → Stp g N h g' N' h' → K (.bool (rootS s m0 m2 m3 R base at_).1) h') :
    CallH Tryz.prog id_stage_Stage_Root [.pointer (some ⟨zb, 0, none⟩), mV m0 m1 m2 m3 m4 m5 m6A m6N m6C m7 (bi R) m9 m10 m11 m12 m13A m13N m13C, .slice bA base.length bC, .int .i64 at_] K h := by
  refine F_stage_Stage_Root_ok (by rw [bi_len, hR]) h11 h12 ⟨fun e => ?_, fun e => ?_⟩
  · have e : m0 ≠ 4 ∨ m2 ≤ at_ ∨ m3 < 1 := by
      simp only [Option.isNone_some, Bool.false_or, Bool.or_eq_true, bne_iff_ne, decide_eq_true_eq] at e
      omega
    have er : rootS s m0 m2 m3 R base at_ = (false, s) := by unfold rootS; rw [if_pos e]
    rw [er] at hk
    exact hk g N h x (Stp.refl sp)
  · have e : ¬ (m0 ≠ 4 ∨ m2 ≤ at_ ∨ m3 < 1) := by
      simp only [Option.isNone_some, Bool.false_or, Bool.or_eq_false_iff, bne_eq_false_iff_eq, decide_eq_false_iff_not] at e
      omega
    have same : (∃ w, s.g = some (w, m2, m3) ∧ w.R = R) → K (.bool false) h := fun hh => by
      have er : rootS s m0 m2 m3 R base at_ = (false, s) := by unfold rootS; rw [if_neg e, if_pos hh]
      rw [er] at hk
      exact hk g N h x (Stp.refl sp)
    refine ⟨fun _ h' => h' = h ∧ ¬ ∃ w, s.g = some (w, m2, m3) ∧ w.R = R, ?_, ?_⟩
    · obtain ⟨gp, tA, tN, tC, Bt, Nw, rfl, nz, dj, hb, hbuf, hg⟩ := x
      obtain ⟨z0, z1, z2⟩ := zcells _ _ _ _ _ hb
      cases hq : s.g with
      | none =>
        rw [hq] at hg
        obtain ⟨rfl, rfl⟩ := hg
        exact ⟨zb, 0, rfl, none, z0, 0, 0, fun e => (by cases e), none, fun e => (by cases e), 0, 0, fun e => (by cases e), 0, fun e => (by cases e), 0, 0, fun e => (by cases e), none, fun e => (by cases e), 0, 0, fun e => (by cases e), 0, fun e => (by cases e), 0, 0, fun e => (by cases e), none, fun e => (by cases e), 0, 0, fun e => (by cases e), none, fun e => (by cases e), fun e => (by cases e), fun _ => ⟨rfl, fun ⟨w, e, _⟩ => by cases e⟩⟩
      | some q =>
      obtain ⟨w, a, e'⟩ := q
      rw [hq] at hg same
      obtain ⟨gb, wb, rfl, hgb, hw⟩ := hg
      obtain ⟨y0, y1, y2⟩ := gcells (sp.sub _ _ hgb)
      refine ⟨zb, 0, rfl, _, z0, zb, 0, fun _ => rfl, _, fun _ => z0, gb, 0, fun _ => rfl, a, fun _ => y1, zb, 0, fun _ => rfl, _, fun _ => z0, gb, 0, fun _ => rfl, e', fun _ => y2, zb, 0, fun _ => rfl, _, fun _ => z0, gb, 0, fun _ => rfl, _, fun _ => y0, fun e1 => ?_, fun e1 => ⟨rfl, ?_⟩⟩
      · simp only [Option.isNone_some, Bool.not_false, Bool.true_and, Bool.and_eq_true, beq_iff_eq] at e1
        obtain ⟨rfl, rfl⟩ := e1
        refine cWRoot hw ⟨bi w.R, by rw [bi_len]; exact hw.R, rfl, fun e2 => ?_, fun e2 => ⟨rfl, ?_⟩⟩
        · rw [bi_beq, decide_eq_true_eq] at e2
          exact same ⟨w, rfl, e2⟩
        · rw [bi_beq, decide_eq_false_iff_not] at e2
          rintro ⟨w', ew, er⟩
          cases ew
          exact e2 er
      · rintro ⟨w', ew, er⟩
        cases ew
        simp at e1
    rintro _ _ ⟨rfl, hns⟩
    have er0 : rootS s m0 m2 m3 R base at_ = if okP base then (true, ⟨some (wNew base R, m2, m3), s.b + 1, allT s⟩) else (false, s) := by unfold rootS; rw [if_neg e, if_neg hns]
    refine cWNew (sp.less (M := []) fun _ hm => by cases hm) hl hn hs hR (fun hno e he g' h' st' _ => ⟨_, _, rfl, fun _ => ?_, fun e2 => by rcases he with rfl | rfl <;> simp at e2⟩) fun hm h48 wb N3 g3 h3 w3 st3 _ => ⟨_, _, rfl, fun e => by simp at e, fun _ => ?_⟩
    · rw [er0, if_neg hno] at hk
      obtain ⟨sf, _⟩ := st'.frame (N := []) (M := N) sp (Dj.nil N)
      exact hk g' N h' (x.stp st' (Dj.nil N)) sf
    · rw [er0, if_pos ⟨hm, h48⟩] at hk
      rw [List.append_nil] at st3
      obtain ⟨sf3, d3⟩ := st3.frame (N := []) (M := N) sp (Dj.nil N)
      have x3 := x.stp st3 (Dj.nil N)
      refine cSForget x3 sf3.spl.right hT fun N4 h4 x4 st4 => ?_
      obtain ⟨sf4, d4⟩ := st4.frameR sf3.spl d3.symm
      have w4 := w3.stp st4 d3.symm
      refine nwL (cs := [.pointer (some ⟨wb, 0, none⟩), .int .i64 m2, .int .i64 m3]) fun gb h5 nb5 hb5 c5 => ?_
      have st5 := sf4.spl.new c5
      obtain ⟨gp, tA, tN, tC, Bt, Nw, rfl, nz, dj, hb, hbuf, hg⟩ := x4
      obtain ⟨hgp, rfl⟩ : gp = none ∧ Nw = [] := hg
      subst hgp
      rw [List.append_nil] at nz
      have hb5z := c5.sub0 _ _ hb
      refine ⟨zb, 0, rfl, stL hb5z rfl rfl fun h6 hb6 c6 => ?_⟩
      obtain ⟨_, z1, _⟩ := zcells _ _ _ _ _ hb6
      have wi : IntKind.wrap .i64 (((s.b : Nat) : Int) + (1 : Int)) = ((s.b + 1 : Nat) : Int) := by rw [wrap64] <;> omega
      refine ⟨zb, 0, rfl, _, z1, zb, 0, rfl, ?_⟩
      show stH h6 zb (0 + 1) [.int .i64 (IntKind.wrap .i64 (((s.b : Nat) : Int) + (1 : Int)))] _
      rw [wi]
      refine stL hb6 rfl rfl fun h7 hb7 c7 => ?_
      have cz := c6.trans c7
      have nzN3 : zb ∉ N3 := fun hm => d4 zb hm (by simp)
      have dBN3 : Dj Bt N3 := fun b hb hm => d4 b hm (by simp [hb])
      have w7 : WalkAt (PH.plus g3 h5 [gb]) N3 h7 wb (wNew base R) := (w4.keep st5.gs fun q _ o e => c5.sub0 q o e).keep (PH.Sub.rf _) fun q hq o e => cz.keep e fun hm => nzN3 (by rw [List.mem_singleton] at hm; subst hm; exact hq)
      have hbuf7 := (hbuf.sub c5.sub0).chg cz (notIn1 nz)
      have sp5 := st5.spl
      have st7 : Stp (PH.plus g3 h5 [gb]) (N3 ++ (zb :: (Bt ++ []))) h5 (PH.plus g3 h5 [gb]) (N3 ++ (zb :: (Bt ++ []))) h7 := sp5.chg (cz.sub (fun b hb => by rw [List.mem_singleton] at hb; subst hb; simp) fun b hb => .inr hb) fun q hq => by
        rcases List.mem_append.1 hq with hq1 | hq1
        · obtain ⟨o, ho⟩ := sp5.has q (List.mem_append_left _ hq1)
          exact ⟨o, cz.keep ho fun hm => nzN3 (by rw [List.mem_singleton] at hm; rw [← hm]; exact hq1)⟩
        · rcases List.mem_cons.1 hq1 with rfl | hq2
          · exact ⟨_, hb7⟩
          · rw [List.append_nil] at hq2
            exact hbuf7.has q hq2
      refine hk (PH.plus g3 h5 [gb]) (zb :: (Bt ++ N3)) h7 ⟨some ⟨gb, 0, none⟩, tA, tN, tC, Bt, N3, rfl, ?_, dBN3, hb7, hbuf7, gb, wb, rfl, by rw [plus_in (by simp)]; exact hb5, w7⟩ ((sf3.trans (sf4.trans (st5.trans st7))).less fun b hb => ?_)
      · intro hm
        rcases List.mem_append.1 hm with hm | hm
        · exact nz hm
        · exact nzN3 hm
      · simp only [List.mem_cons, List.mem_append, List.append_nil] at hb ⊢
        rcases hb with rfl | hb | hb
        · exact .inr (.inl rfl)
        · exact .inr (.inr hb)
        · exact .inl hb
theorem cSAnswer (x : StageAt g N h zb s) (sp : Spl g N h) (h8 : m8.length = 32) {a b : List UInt8} (ha : a.length = 32) (hb' : b.length = 32) {lA : Option Addr} {lC : Nat} {l : List PrR} (hl : SR EncPr g lA l) (hn : l.length ≤ 1000) (hs : ∀ x ∈ l, x.p.length ≤ 1000000) (hT : ∀ w a e, s.g = some (w, a, e) → w.T.length ≤ 100000)
    (hk : ∀ g' N' h', StageAt g' N' h' zb (answS s m0 m2 m9 m10 a b l).2 → Stp g N h g' N' h' → K (.bool (answS s m0 m2 m9 m10 a b l).1) h') :
    CallH Tryz.prog id_stage_Stage_Answer [.pointer (some ⟨zb, 0, none⟩), mV m0 m1 m2 m3 m4 m5 m6A m6N m6C m7 m8 m9 m10 (bi a) (bi b) lA l.length lC] K h := by
  refine F_stage_Stage_Answer_ok h8 (by rw [bi_len, ha]) (by rw [bi_len, hb']) (cSNone x ⟨_, rfl, ?_⟩)
  have hxx := x
  obtain ⟨gp, tA, tN, tC, Bt, Nw, rfl, nz, dj, hb, hbuf, hg⟩ := x
  obtain ⟨z0, z1, z2⟩ := zcells _ _ _ _ _ hb
  cases hq : s.g with
  | none =>
    have ea : answS s m0 m2 m9 m10 a b l = (false, s) := by unfold answS; rw [hq]
    rw [ea] at hk
    exact ⟨0, 0, fun e => (by cases e), none, fun e => (by cases e), 0, 0, fun e => (by cases e), 0, fun e => (by cases e), fun _ => hk g _ h hxx (Stp.refl sp), fun e => by cases e⟩
  | some q =>
  obtain ⟨w, ga, e'⟩ := q
  rw [hq] at hg
  obtain ⟨gb, wb, rfl, hgb, hw⟩ := hg
  obtain ⟨y0, y1, y2⟩ := gcells (sp.sub _ _ hgb)
  have hTw := hT w ga e' hq
  have spw : Spl g ((zb :: Bt) ++ Nw) h := sp
  have dzw : Dj (zb :: Bt) Nw := fun q hq hm => by
    rcases List.mem_cons.1 hq with rfl | hq
    · exact nz (List.mem_append_right _ hm)
    · exact dj q hq hm
  refine ⟨zb, 0, fun _ => rfl, _, fun _ => z0, gb, 0, fun _ => rfl, ga, fun _ => y1, fun e => ?_, fun e => ?_⟩
  · have e : m2 ≠ ga := by simpa using e
    have ea : answS s m0 m2 m9 m10 a b l = (false, s) := by unfold answS; rw [hq]; dsimp only; rw [if_pos e]
    rw [ea] at hk
    exact hk g _ h hxx (Stp.refl sp)
  · have e : ¬ m2 ≠ ga := by simpa using e
    have fin : ∀ {g' : PH} {Nw' : List Nat} {h' : PH} {w' : WS}, WalkAt g' Nw' h' wb w' → Stp g Nw h g' Nw' h' → StageAt g' (zb :: (Bt ++ Nw')) h' zb { s with g := some (w', ga, e') } ∧ Stp g (zb :: (Bt ++ Nw)) h g' (zb :: (Bt ++ Nw')) h' := fun {g' Nw' h' w'} w1 st1 => by
      obtain ⟨sf1, d1⟩ := st1.frameR spw dzw
      refine ⟨⟨some ⟨gb, 0, none⟩, tA, tN, tC, Bt, Nw', rfl, fun hm => ?_, fun q hq => d1 q (List.mem_cons_of_mem _ hq), st1.chg.keep hb (dzw zb (by simp)), hbuf.keep fun q hq o eo => st1.chg.keep eo (dj q hq), gb, wb, rfl, st1.gs _ _ hgb, w1⟩, sf1⟩
      rcases List.mem_append.1 hm with hm | hm
      · exact nz (List.mem_append_left _ hm)
      · exact d1 zb (by simp) hm
    refine ⟨fun e6 => ?_, fun e6 => ⟨fun e7 => ?_, fun e7 => ?_⟩⟩
    · have e6 : m0 = 6 := by simpa using e6
      have ea : answS s m0 m2 m9 m10 a b l = ((nodeW w m9 m10 a b).1, { s with g := some ((nodeW w m9 m10 a b).2, ga, e') }) := by unfold answS; rw [hq]; dsimp only; rw [if_neg e, if_pos e6]
      rw [ea] at hk
      refine ⟨zb, 0, rfl, _, z0, gb, 0, rfl, _, y0, cWNodeV hw spw.right ha hb' hTw fun N' h' w1 st1 => ⟨_, rfl, ?_⟩⟩
      obtain ⟨f1, f2⟩ := fin w1 st1
      exact hk g _ h' f1 f2
    · have e6 : m0 ≠ 6 := by simpa using e6
      have e7 : m0 = 7 := by simpa using e7
      have ea : answS s m0 m2 m9 m10 a b l = ((pageW w m10 l).1, { s with g := some ((pageW w m10 l).2, ga, e') }) := by unfold answS; rw [hq]; dsimp only; rw [if_neg e, if_neg e6, if_pos e7]
      rw [ea] at hk
      refine ⟨zb, 0, rfl, _, z0, gb, 0, rfl, _, y0, cWPageV hw spw.right hl hn hs hTw fun g' N' h' w1 st1 => ⟨_, rfl, ?_⟩⟩
      obtain ⟨f1, f2⟩ := fin w1 st1
      exact hk g' _ h' f1 f2
    · have e6 : m0 ≠ 6 := by simpa using e6
      have e7 : m0 ≠ 7 := by simpa using e7
      have ea : answS s m0 m2 m9 m10 a b l = (false, s) := by unfold answS; rw [hq]; dsimp only; rw [if_neg e, if_neg e6, if_neg e7]
      rw [ea] at hk
      exact hk g _ h hxx (Stp.refl sp)
end
end TL

namespace TL
open Go Go.Proofs
variable {g h : PH} {N : List Nat} {K : Value → PH → Prop} {zb tb : Nat} {s : StS} {T : List PrR}
theorem ask_enc (ep a : Int) (p : Int × Int) : EncMsg.enc (askF ep a p) = (.int .u8 (5 : Int) :: (.int .i64 ep :: (.int .i64 a :: (.int .i64 (0 : Int) :: (.int .i64 (0 : Int) :: (.int .i64 (0 : Int) :: (.slice none 0 0 :: (.int .i64 (0 : Int) :: (Z32.map (Value.int .u8) ++ (.int .i64 p.1 :: (.int .i64 p.2 :: (Z32.map (Value.int .u8) ++ (Z32.map (Value.int .u8) ++ ([.slice none 0 0] : List Value))))))))))))) : List Value) := by
  have := ask_row ep a p
  rw [show EncMsg.row [askF ep a p] = EncMsg.enc (askF ep a p) ++ [] from rfl, List.append_nil] at this
  exact this.symm
/-- one of the asks -/
theorem askRd {a : Option Addr} {ep : Int} (x : SR EncMsg g a (asksF s ep)) (h0 : ∀ w a e, s.g = some (w, a, e) → w.A 0 = none) {i : Nat} (hi : i < (asksF s ep).length) :
    ∃ w ga e c b o, s.g = some (w, ga, e) ∧ 1 ≤ c ∧ c < 32 ∧ (w.A c).isSome = true ∧ (((wList w.A).map askP).take 8)[i]? = some (askP c) ∧ a = some ⟨b, o, none⟩ ∧ ∀ h', g.Sub h' →
      h'.rds b (o + i * 107) 107 = some ((.int .u8 (5 : Int) :: (.int .i64 ep :: (.int .i64 ga :: (.int .i64 (0 : Int) :: (.int .i64 (0 : Int) :: (.int .i64 (0 : Int) :: (.slice none 0 0 :: (.int .i64 (0 : Int) :: (Z32.map (Value.int .u8) ++ (.int .i64 (askP c).1 :: (.int .i64 (askP c).2 :: (Z32.map (Value.int .u8) ++ (Z32.map (Value.int .u8) ++ ([.slice none 0 0] : List Value))))))))))))) : List Value)) := by
  obtain ⟨b, o, hA, _⟩ := x.get hi
  cases hq : s.g with
  | none =>
    have : asksF s ep = [] := by unfold asksF; rw [hq]
    rw [this] at hi; cases hi
  | some q =>
    obtain ⟨w, ga, e⟩ := q
    have ha : asksF s ep = (((wList w.A).map askP).take 8).map (askF ep ga) := by unfold asksF; rw [hq]
    have hi2 : i < (((wList w.A).map askP).take 8).length := by rw [ha, List.length_map] at hi; exact hi
    obtain ⟨c, c1, c2, hc, hc2⟩ := askGet (h0 w ga e hq) hi2
    refine ⟨w, ga, e, c, b, o, rfl, c1, c2, hc, by rw [hc2, List.getElem?_eq_getElem hi2], hA, fun h' hs => ?_⟩
    obtain ⟨b', o', hA', hr⟩ := (x.sub hs).get hi
    rw [hA] at hA'; cases hA'
    have := hr _ 0 107 rfl (by decide)
    have e2 : (asksF s ep)[i] = askF ep ga (askP c) := by
      rw [hc2]
      simp only [ha, List.getElem_map]
    rw [e2, ask_enc, List.drop_zero, List.take_of_length_le (by rw [← ask_enc, EncMsg.len]; decide)] at this
    exact this
theorem cRootM (tr : Tr tb h T) {at_ ep : Int} (hk : K (mV 4 2 at_ ep 0 0 none 0 0 0 (bi (nd T 1)) 0 0 Z32 Z32 none 0 0) h) : CallH Tryz.prog id_law22_root [.pointer (some ⟨tb, 0, none⟩), .int .i64 at_, .int .i64 ep] K h :=
  F_law22_root_ok (cRoot tr ⟨bi (nd T 1), by rw [bi_len, nd_len], rfl, hk⟩)
/-- what a tree's answer does to a stage -/
noncomputable def ansT (s : StS) (T : List PrR) (c : Nat) (at_ : Int) : Bool × StS := match s.g with
  | none => (false, s)
  | some (w, a, e) => if at_ ≠ a then (false, s) else ((answerW w T c).1, { s with g := some ((answerW w T c).2, a, e) })
section
variable {m0 m1 m2 m3 m4 m5 m7 : Int} {m6A m13A : Option Addr} {m6N m6C m13N m13C : Nat} {m8 m11 m12 : List Int}
theorem cAnsStage (x : StageAt g N h zb s) (sp : Spl g N h) (tr : Tr tb g T) {c : Nat} (c1 : 1 ≤ c) (c2 : c < 32) (h8 : m8.length = 32) (h11 : m11.length = 32) (h12 : m12.length = 32) (hT : ∀ w a e, s.g = some (w, a, e) → w.T.length ≤ 100000) {at_ : Int}
    (hk : ∀ g' N' h', StageAt g' N' h' zb (ansT s T c at_).2 → Stp g N h g' N' h' → K (.bool (ansT s T c at_).1) h') :
    CallH Tryz.prog id_law22_Answer [.pointer (some ⟨tb, 0, none⟩), mV m0 m1 m2 m3 m4 m5 m6A m6N m6C m7 m8 (askP c).1 (askP c).2 m11 m12 m13A m13N m13C, .int .i64 at_] (fun v_7 h11 =>
      ∃ t0_4 : Int, ∃ t1_4 : Int, ∃ t2_3 : Int, ∃ t3_3 : Int, ∃ t4_3 : Int, ∃ t5_3 : Int, ∃ (t6A_3 : Option Addr) (t6N_3 t6C_3 : Nat), ∃ t7_3 : Int, ∃ t8_3 : List Int, t8_3.length = 32 ∧ ∃ t9_3 : Int, ∃ t10_3 : Int, ∃ t11_3 : List Int, t11_3.length = 32 ∧ ∃ t12_3 : List Int, t12_3.length = 32 ∧ ∃ (t13A_3 : Option Addr) (t13N_3 t13C_3 : Nat), v_7 = mV t0_4 t1_4 t2_3 t3_3 t4_3 t5_3 t6A_3 t6N_3 t6C_3 t7_3 t8_3 t9_3 t10_3 t11_3 t12_3 t13A_3 t13N_3 t13C_3 ∧
      CallH Tryz.prog id_stage_Stage_Answer [.pointer (some ⟨zb, 0, none⟩), mV t0_4 t1_4 t2_3 t3_3 t4_3 t5_3 t6A_3 t6N_3 t6C_3 t7_3 t8_3 t9_3 t10_3 t11_3 t12_3 t13A_3 t13N_3 t13C_3] K h11) h := by
  by_cases hc16 : 16 ≤ c
  · obtain ⟨e1, e2⟩ := askP_leaf c c2 hc16
    have ea : ∀ a b, answS s 7 at_ 0 (askP c).2 a b (partB T (c - 16)) = ansT s T c at_ := fun a b => by
      unfold answS ansT
      cases s.g with
      | none => rfl
      | some q =>
        obtain ⟨w, a', e'⟩ := q
        dsimp only
        split
        · rfl
        · rw [if_neg (by decide), if_pos rfl]
          have : answerW w T c = pageW w (askP c).2 (partB T (c - 16)) := by unfold answerW; rw [if_pos hc16, e2]
          rw [this]
    refine F_law22_Answer_ok h8 h11 h12 ⟨fun _ => ?_, fun e => by rw [e1] at e; simp at e⟩
    rw [e2]
    refine cPairs (tr.sub sp.sub) (by omega) fun a' c' B' h1 hb1 cc1 => ⟨_, _, _, rfl, _, _, _, _, _, _, _, _, _, _, Z32, z32, _, _, Z32, z32, Z32, z32, _, _, _, rfl, ?_⟩
    have st1 := sp.new cc1
    have sr1 : SR EncPr (PH.plus g h1 B') a' (partB T (c - 16)) := (hb1.keep fun b hb o e => by rw [plus_in hb]; exact e).sr
    have hokp := part_ok tr.may tr.le (c - 16)
    have hZ : Z32 = bi (List.replicate 32 0) := bi_z32
    rw [hZ]
    refine cSAnswer (x.keep st1.gs fun q _ o e => cc1.sub0 q o e) st1.spl (by rw [bi_len]; simp) (by simp) (by simp) sr1 (by have := hokp.2.2; omega) (fun y hy => by have := (ok_len ((may_ok hokp.1).1 y hy)).1; omega) hT fun g' N' h' x' st' => ?_
    have := ea (List.replicate 32 0) (List.replicate 32 0)
    rw [e2] at this
    rw [this] at x' ⊢
    exact hk g' N' h' x' (st1.trans st')
  · have c16 : c < 16 := by omega
    obtain ⟨q1, q2, q3⟩ := askP_kids c c16 c1
    have e1 : (askP c).1 = ((c.log2 : Nat) : Int) := rfl
    have e2 : (askP c).2 = ((c - 2 ^ c.log2 : Nat) : Int) := rfl
    have hlt := askP_in c c2 c1
    have w1 : IntKind.wrap .i64 ((askP c).1 + 1) = ((c.log2 + 1 : Nat) : Int) := by rw [e1, wrap64] <;> omega
    have hb16 : c - 2 ^ c.log2 < 32 := by omega
    have w2 : IntKind.wrap .i64 ((2 : Int) * (askP c).2) = ((2 * (c - 2 ^ c.log2) : Nat) : Int) := by rw [e2, wrap64] <;> omega
    have w3 : IntKind.wrap .i64 (((2 * (c - 2 ^ c.log2) : Nat) : Int) + 1) = ((2 * (c - 2 ^ c.log2) + 1 : Nat) : Int) := by rw [wrap64] <;> omega
    have hl4 : ¬ ((c.log2 : Nat) : Int) = 4 := by omega
    have ea : answS s 6 at_ (askP c).1 (askP c).2 (nd T (2 * c)) (nd T (2 * c + 1)) [] = ansT s T c at_ := by
      unfold answS ansT
      cases s.g with
      | none => rfl
      | some q =>
        obtain ⟨w, a', e'⟩ := q
        dsimp only
        split
        · rfl
        · rw [if_pos rfl]
          have : answerW w T c = nodeW w (askP c).1 (askP c).2 (nd T (2 * c)) (nd T (2 * c + 1)) := by unfold answerW; rw [if_neg hc16]
          rw [this]
    refine F_law22_Answer_ok h8 h11 h12 ⟨fun e => absurd (by simpa [e1] using e) hl4, fun _ => ?_⟩
    rw [w1, w2, w3]
    have r2 : 2 ^ (c.log2 + 1) + (2 * (c - 2 ^ c.log2) + 1) = 2 * c + 1 := by omega
    refine cNode (tr.sub sp.sub) q1 (by omega) ⟨bi (nd T (2 ^ (c.log2 + 1) + 2 * (c - 2 ^ c.log2))), by rw [bi_len, nd_len], _, rfl, cNode (tr.sub sp.sub) q1 q2 ⟨bi (nd T (2 ^ (c.log2 + 1) + (2 * (c - 2 ^ c.log2) + 1))), by rw [bi_len, nd_len], _, rfl, ?_⟩⟩
    rw [q3, r2]
    refine ⟨_, _, _, _, _, _, _, _, _, _, Z32, z32, _, _, bi (nd T (2 * c)), by rw [bi_len, nd_len], bi (nd T (2 * c + 1)), by rw [bi_len, nd_len], _, _, _, rfl, ?_⟩
    refine cSAnswer (l := []) x sp z32 (nd_len _ _) (nd_len _ _) (.inl rfl) (by decide) (fun _ h => by cases h) hT fun g' N' h' x' st' => ?_
    rw [ea] at x' ⊢
    exact hk g' N' h' x' st'
end
theorem cTurn22 {n : Int} {m : Nat} (hm : 0 < m) (hm2 : m ≤ 1000000) (hk : ∀ k : Nat, k < m → K (.int .i64 (k : Int)) h) : CallH Tryz.prog id_law22_turn [.int .i64 n, .int .i64 (m : Int)] K h := by
  obtain ⟨t1, t2⟩ := turn_in n hm hm2
  refine F_law22_turn_ok ⟨by omega, fun e => ?_, fun e => ?_⟩
  · obtain ⟨q1, q2⟩ := t1 (of_decide_eq_true e)
    generalize IntKind.wrap .i64 (n.tmod (m : Int) + (m : Int)) = k at q1 q2 ⊢
    obtain ⟨k, rfl⟩ : ∃ j : Nat, k = j := ⟨k.toNat, by omega⟩
    exact hk k (by omega)
  · obtain ⟨q1, q2⟩ := t2 (of_decide_eq_false e)
    generalize n.tmod (m : Int) = k at q1 q2 ⊢
    obtain ⟨k, rfl⟩ : ∃ j : Nat, k = j := ⟨k.toNat, by omega⟩
    exact hk k (by omega)
end TL

namespace TL
open Go Go.Proofs
variable {g h : PH} {N : List Nat} {K : Value → PH → Prop} {zb tb : Nat} {s : StS} {T : List PrR}
theorem cWakes22 (hk : ∀ h', h.Sub h' → K (.bool true) h') : CallH Tryz.prog id_law22_wakes [] K h := by
  refine F_law22_wakes_ok (nwL (cs := EncPr.row sApp) fun b0 h1 _ hb0 c1 => ?_)
  have hsr : SR EncPr h1 (some ⟨b0, 0, none⟩) sApp := .inr ⟨b0, 0, rfl, rdsL hb0 rfl rfl⟩
  refine cOfT (l := sApp) hsr app_may (by decide) fun tb h2 ht _ c2 => ⟨_, _, rfl, fun e => by simp at e, fun _ => ?_⟩
  refine cSNew (Spl.start h2) fun zb N3 h3 x3 st3 _ _ => ⟨_, rfl, ?_⟩
  rw [List.append_nil] at st3
  refine cRootM (ht.sub st3.gh) ⟨_, _, _, _, _, _, _, _, _, _, bi (nd sApp 1), by rw [bi_len, nd_len], _, _, Z32, z32, Z32, z32, _, _, _, rfl, ?_⟩
  refine cSRoot (base := []) x3 st3.spl (by decide) (by decide) (nd_len _ _) z32 z32 (.inl rfl) (by decide) (fun _ h => by cases h) fun g4 N4 h4 x4 st4 => ⟨_, rfl, ?_⟩
  have r1 : rootS ⟨none, 0, []⟩ 4 5 1 (nd sApp 1) [] 5 = (false, ⟨none, 0, []⟩) := by unfold rootS; rw [if_pos (by omega)]
  rw [r1] at x4 ⊢
  have st24 := st3.trans st4
  refine cRootM (ht.sub st24.gh) ⟨_, _, _, _, _, _, _, _, _, _, bi (nd sApp 1), by rw [bi_len, nd_len], _, _, Z32, z32, Z32, z32, _, _, _, rfl, ?_⟩
  refine cSRoot (base := []) x4 st4.spl (by decide) (by decide) (nd_len _ _) z32 z32 (.inl rfl) (by decide) (fun _ h => by cases h) fun g5 N5 h5 x5 st5 => ⟨_, rfl, ?_⟩
  have r2 : rootS ⟨none, 0, []⟩ 4 5 1 (nd sApp 1) [] 4 = (true, ⟨some (wNew [] (nd sApp 1), 5, 1), 1, []⟩) := by
    unfold rootS
    rw [if_neg (by omega), if_neg (fun ⟨w, e, _⟩ => by cases e), if_pos (show okP [] from nil_may)]
    rfl
  rw [r2] at x5 ⊢
  have st25 := st24.trans st5
  refine ⟨fun _ h' => ∃ g' N' w, StageAt g' N' h' zb ⟨some (w, 5, 1), 1, []⟩ ∧ Stp h2 [] h2 g' N' h' ∧ KnS w 5, ?_, ?_⟩
  · refine LoopP.ind (fun (z : Int × Unit) h' => ∃ (j : Nat) (g' : PH) (N' : List Nat) (w : WS), z.1 = j ∧ j ≤ 5 ∧ StageAt g' N' h' zb ⟨some (w, 5, 1), 1, []⟩ ∧ Stp h2 [] h2 g' N' h' ∧ KnS w j) (fun z _ => (9 - z.1).toNat) ?_ ⟨0, g5, N5, _, rfl, Nat.zero_le _, x5, st25, KnS.new⟩
    rintro ⟨zj, u⟩ h6 ⟨j, g6, N6, w, hzj, hj, x6, st6, k⟩
    dsimp only at hzj
    subst hzj
    dsimp only
    have h0 : ∀ w' a e, (⟨some (w, 5, 1), 1, []⟩ : StS).g = some (w', a, e) → w'.A 0 = none := fun w' a e hh => by cases hh; exact k.a0
    refine ⟨fun _ => ?_, fun e => by have := of_decide_eq_false e; omega⟩
    refine cSAsks x6 st6.spl h0 fun aA aC g7 h7 s7 st7 hl7 => ⟨_, _, _, rfl, fun e => ?_, fun e => ?_⟩
    · have hj5 : j = 5 := by
        by_cases h5 : j < 5
        · exfalso
          have : (asksF ⟨some (w, 5, 1), 1, []⟩ 2).length = 1 := by
            show ((((wList w.A).map askP).take 8).map (askF 2 5)).length = 1
            rw [k.row h5 (by decide)]; rfl
          rw [this] at e
          simp at e
        · omega
      subst hj5
      exact ⟨g7, N6, w, x6.keep st7.gs fun q _ o e => s7 q o e, st6.trans st7, k⟩
    · have e0 : (asksF ⟨some (w, 5, 1), 1, []⟩ 2).length ≠ 0 := by simpa using e
      have h0' : 0 < (asksF ⟨some (w, 5, 1), 1, []⟩ 2).length := by omega
      have hj5 : j < 5 := by
        by_cases h5 : j < 5
        · exact h5
        · exfalso
          have : j = 5 := by omega
          subst this
          refine e0 ?_
          show ((((wList w.A).map askP).take 8).map (askF 2 5)).length = 0
          have : wList w.A = [] := List.filter_eq_nil_iff.2 fun d _ => by rw [k.end.1]; simp
          rw [this]; rfl
      obtain ⟨w', ga, e', c, b, o, hq, c1, c2, hc, hrow, hA, rd⟩ := askRd hl7 h0 h0'
      cases hq
      have hcp : c = pc j := by
        rw [k.row hj5 (by decide)] at hrow
        have hrow : askP (pc j) = askP c := by simpa using hrow
        exact (askP_inj _ (pc_in j hj5).2.1 c c2 (pc_in j hj5).1 c1 hrow).symm
      subst hcp
      refine ⟨b, o, ⟨hA, by decide, by omega⟩, _, _, _, _, _, _, _, _, _, _, Z32, z32, _, _, Z32, z32, Z32, z32, _, _, _, rd h7 st7.spl.sub, ?_⟩
      have hw' : IntKind.wrap .i64 (((j : Nat) : Int) + (1 : Int)) = ((j + 1 : Nat) : Int) := by rw [wrap64] <;> omega
      obtain ⟨en, kn⟩ := k.next hj5
      have ea : ansT ⟨some (w, 5, 1), 1, []⟩ sApp (pc j) 5 = ((answerW w sApp (pc j)).1, ⟨some ((answerW w sApp (pc j)).2, 5, 1), 1, []⟩) := rfl
      rw [hw']
      refine cAnsStage (x6.keep st7.gs fun q _ o e => s7 q o e) st7.spl (ht.sub (st6.gs.tr st7.gs)) c1 c2 z32 z32 z32 (fun w' a e hh => by cases hh; have := k.t; omega) fun g8 N8 h8 x8 st8 => ⟨_, rfl, ?_⟩
      rw [ea] at x8
      exact ⟨⟨j + 1, g8, N8, _, rfl, by omega, x8, st6.trans (st7.trans st8), kn⟩, by omega⟩
  rintro _ h6 ⟨g6, N6, w, x6, st6, k⟩
  refine cSDone x6 st6.spl (fun w' a e hh i l hl => ?_) (fun hh => by cases hh) (fun w' a e hh hc => ?_) fun w' a e hh _ _ l a' c' B' h7 hp _ hb cc => ?_
  · cases hh
    rw [k.end.2] at hl
    by_cases e3 : i = 3
    · subst e3; rw [upF_same] at hl; cases hl; decide
    · rw [upF_ne _ _ e3] at hl; cases hl
  · exfalso
    cases hh
    rcases hc with ⟨k', _, _, hk⟩ | ⟨_, hc⟩
    · rw [k.end.1] at hk; cases hk
    · rw [k.done] at hc; exact absurd hc (by decide)
  · cases hh
    rw [k.done] at hp
    have hl : l = sApp := List.perm_singleton.1 hp
    subst hl
    obtain ⟨bb, oo, hA6, hr6⟩ := hb.sr.get (i := 0) (by decide)
    refine ⟨_, _, _, _, _, _, rfl, bb, oo, fun _ => ⟨hA6, by decide, by decide⟩, mk [49], fun _ => hr6 _ 1 1 rfl (by decide), fun _ => ?_, fun e => absurd e (by decide +kernel)⟩
    refine cSBegun (x6.keep (PH.Sub.rf _) fun q _ o e => cc.sub0 q o e) ⟨_, rfl, ?_⟩
    exact hk h7 (c1.sub0.tr (c2.sub0.tr (st6.gh.tr cc.sub0)))
theorem wk22 {h1 : PH} (s : h.Sub h1) (hk : ∀ h', h.Sub h' → K (.bool true) h') : CallH Tryz.prog id_law22_wakes [] (fun v h2 => ∃ t : Bool, v = .bool t ∧ K (.bool t) h2) h1 :=
  cWakes22 fun h' s' => ⟨true, rfl, hk h' (s.tr s')⟩
/-! ### A nil stage -/
end TL

namespace TL
open Go Go.Proofs
variable {g h : PH} {N : List Nat} {K : Value → PH → Prop} {zb tb : Nat} {s : StS} {T : List PrR}
/-- what else changes beside a step -/
theorem Stp.also {g' h' : PH} {N' M : List Nat} (st : Stp g N h g' N' h') (sp : Spl g M h) (d : Dj M N) : Spl g' M h' ∧ Dj M N' :=
  ⟨⟨st.spl.sub, fun b hb => st.gn b (d b hb) (sp.has b hb) (sp.av b hb), fun b hb => by
    obtain ⟨o, ho⟩ := sp.has b hb
    exact ⟨o, st.chg.keep ho (d b hb)⟩⟩, st.chg.dj d sp.has⟩
/-! ### Rows -/
structure PsR where
  a : Option Addr
  c : Nat
  ps : List PrR
def EncPs : Enc PsR where
  enc r := [.slice r.a r.ps.length r.c]
  k := 1
  len _ := rfl
  one o v hv := by
    simp only [List.mem_cons, List.not_mem_nil, or_false] at hv
    rcases hv with rfl; rfl
  pos := by decide
/-- an act on a stage -/
structure Ac22 where
  d : Int
  t : Int
  x1 : Int
  x2 : Int
  n : Int
  k : Int
def EncAc22 : Enc Ac22 where
  enc r := [.int .u8 r.d, .int .i64 r.t, .int .i64 r.x1, .int .i64 r.x2, .int .i64 r.n, .int .u8 r.k]
  k := 6
  len _ := rfl
  one o v hv := by
    simp only [List.mem_cons, List.not_mem_nil, or_false] at hv
    rcases hv with rfl | rfl | rfl | rfl | rfl | rfl <;> rfl
  pos := by decide
def EncPt : Enc Nat where
  enc b := [.pointer (some ⟨b, 0, none⟩)]
  k := 1
  len _ := rfl
  one o v hv := by
    simp only [List.mem_cons, List.not_mem_nil, or_false] at hv
    rcases hv with rfl; rfl
  pos := by decide
def gPs (l : List PsR) (n : Nat) : Bool := decide (5 < l.length) || (decide (120 < n) || l.any fun r => gPrs r.ps)
theorem gPs_no {l : List PsR} {n : Nat} (hg : gPs l n = false) : l.length ≤ 5 ∧ n ≤ 120 ∧ ∀ r ∈ l, r.ps.length ≤ 200 ∧ ∀ o ∈ r.ps, o.p.length ≤ 1000 := by
  simp only [gPs, Bool.or_eq_false_iff, decide_eq_false_iff_not, List.any_eq_false] at hg
  refine ⟨by omega, by omega, fun r hr => ?_⟩
  obtain ⟨p1, p2⟩ := gPrs_no (by simpa using hg.2.2 r hr : gPrs r.ps = false)
  exact ⟨p1, fun o ho => (p2 o ho).1⟩
theorem cGreat22 {lA aA : Option Addr} {lC n aC : Nat} {l : List PsR} (hl : SR EncPs h lA l) (hs : ∀ r ∈ l, SR EncPr h r.a r.ps) (hk : K (.bool (gPs l n)) h) : CallH Tryz.prog id_law22_Great [.slice lA l.length lC, .slice aA n aC] K h := by
  refine F_law22_Great_ok ⟨fun e => ?_, fun e => ?_⟩
  · have e : 5 < l.length ∨ 120 < n := by
      simp only [Bool.or_eq_true, decide_eq_true_eq] at e; omega
    have : gPs l n = true := by
      simp only [gPs, Bool.or_eq_true, decide_eq_true_eq]
      rcases e with e | e
      · exact .inl e
      · exact .inr (.inl e)
    rw [this] at hk; exact hk
  · have e0 : ¬ 5 < l.length ∧ ¬ 120 < n := by
      simp only [Bool.or_eq_false_iff, decide_eq_false_iff_not] at e; omega
    have hg : gPs l n = l.any fun r => gPrs r.ps := by simp only [gPs, e0.1, e0.2, decide_false, Bool.false_or]
    rw [hg] at hk
    refine LoopP.ind (fun (z : Int × Unit) h' => ∃ i : Nat, z.1 = i ∧ i ≤ l.length ∧ h' = h ∧ ∀ j, (hj : j < l.length) → j < i → gPrs l[j].ps = false) (fun z _ => (l.length - z.1).toNat) ?_ ⟨0, rfl, Nat.zero_le _, rfl, fun _ _ hj => absurd hj (Nat.not_lt_zero _)⟩
    rintro ⟨zi, u⟩ h1 ⟨i, hzi, hi, rfl, ha⟩
    dsimp only at hzi
    subst hzi
    dsimp only
    refine ⟨fun e1 => ?_, fun e1 => ?_⟩
    · have e1 : i < l.length := by have := of_decide_eq_true e1; omega
      have hit : ((i : Nat) : Int).toNat = i := by omega
      have hwi : IntKind.wrap .i64 (((i : Nat) : Int) + (1 : Int)) = ((i + 1 : Nat) : Int) := by rw [wrap64] <;> omega
      obtain ⟨b, o, hA, hr⟩ := hl.get e1
      rw [hit, hwi]
      refine ⟨b, o, ⟨hA, by omega, by omega⟩, _, _, _, hr _ 0 1 rfl (by decide), cGreatPairs (hs _ (List.getElem_mem e1)) ⟨_, rfl, fun e2 => ?_, fun e2 => ⟨⟨i + 1, rfl, by omega, rfl, fun j hj hji => ?_⟩, by omega⟩⟩⟩
      · have : (l.any fun r => gPrs r.ps) = true := List.any_eq_true.2 ⟨_, List.getElem_mem e1, e2⟩
        rw [this] at hk; exact hk
      · by_cases hji2 : j = i
        · subst hji2; exact e2
        · exact ha j hj (by omega)
    · have e1 : i = l.length := by have := of_decide_eq_false e1; omega
      have : (l.any fun r => gPrs r.ps) = false := by
        rw [List.any_eq_false]
        intro r hr
        obtain ⟨j, hj, rfl⟩ := List.getElem_of_mem hr
        have := ha j hj (by omega)
        simp [this]
      rw [this] at hk; exact hk
/-- trees in memory -/
structure TrsAt (h : PH) (a : Option Addr) (bs : List Nat) (ts : List (List PrR)) : Prop where
  sr : SR EncPt h a bs
  len : bs.length = ts.length
  pos : 0 < ts.length
  tr : ∀ i (h1 : i < bs.length) (h2 : i < ts.length), Tr bs[i] h ts[i]
theorem TrsAt.sub {g' : PH} {a : Option Addr} {bs : List Nat} {ts : List (List PrR)} (x : TrsAt g a bs ts) (s : g.Sub g') : TrsAt g' a bs ts := ⟨x.sr.sub s, x.len, x.pos, fun i h1 h2 => (x.tr i h1 h2).sub s⟩
theorem TrsAt.get {a : Option Addr} {bs : List Nat} {ts : List (List PrR)} (x : TrsAt h a bs ts) {i : Nat} (hi : i < bs.length) : ∃ b o T, a = some ⟨b, o, none⟩ ∧ (∀ h', h.Sub h' → h'.rds b (o + i * 1) 1 = some [.pointer (some ⟨bs[i], 0, none⟩)]) ∧ Tr bs[i] h T ∧ ts[i]? = some T := by
  obtain ⟨b, o, hA, _⟩ := x.sr.get hi
  have h2 : i < ts.length := by rw [← x.len]; exact hi
  refine ⟨b, o, ts[i], hA, fun h' hs => ?_, x.tr i hi h2, List.getElem?_eq_getElem h2⟩
  obtain ⟨b', o', hA', hr⟩ := (x.sr.sub hs).get hi
  rw [hA] at hA'; cases hA'
  exact hr _ 0 1 rfl (by decide)
theorem cTrees {lA : Option Addr} {lC : Nat} {l : List PsR} {n : Nat} (hl : SR EncPs h lA l) (hs : ∀ r ∈ l, SR EncPr h r.a r.ps) (hg : gPs l n = false) (hk : ∀ a' c' bs ts h', h.Sub h' → TrsAt h' a' bs ts → bs.length ≤ 6 → K (.slice a' bs.length c') h') :
    CallH Tryz.prog id_law22_trees [.slice lA l.length lC] K h := by
  obtain ⟨n5, _, hp⟩ := gPs_no hg
  refine F_law22_trees_ok (cNew fun b0 h1 _ tr1 c1 => ⟨_, rfl, ?_⟩)
  refine nwL (cs := [.pointer (some ⟨b0, 0, none⟩)]) fun bv h2 nb2 hb2 c2 => ?_
  have st2 := (Spl.start h1).own c2 (has1 hb2)
  have hbuf0 : Buf EncPt 25 [bv] h2 (some ⟨bv, 0, none⟩) 1 1 [b0] := ⟨rfl, .inr ⟨bv, [], rfl, rfl, hb2, rfl, by decide⟩⟩
  refine LoopP.ind (fun (z : (Option Addr × Nat × Nat) × Int × Unit) h' => ∃ (i : Nat) (g' : PH) (B' bs : List Nat) (ts : List (List PrR)), z.2.1 = i ∧ i ≤ l.length ∧ Spl g' B' h' ∧ h.Sub g' ∧ Buf EncPt 25 B' h' z.1.1 z.1.2.1 z.1.2.2 bs ∧ bs.length = ts.length ∧ 0 < ts.length ∧ bs.length ≤ i + 1 ∧ ∀ i (h1 : i < bs.length) (h2 : i < ts.length), Tr bs[i] g' ts[i]) (fun z _ => (l.length - z.2.1).toNat) ?_
    ⟨0, h1, [bv], [b0], [[]], rfl, Nat.zero_le _, by simpa using st2.spl, c1.sub0, hbuf0, rfl, Nat.zero_lt_one, Nat.le_refl 1, fun i h1 h2 => by
      have : i = 0 := by simp at h1; omega
      subst this; exact tr1⟩
  rintro ⟨⟨oA, oN, oC⟩, zi, u⟩ h3 ⟨i, g3, B3, bs, ts, hzi, hi, sp3, s3, hb3, hlen, hpos, hle, htr⟩
  dsimp only at hzi hb3
  subst hzi
  dsimp only
  have hn3 := hb3.1
  refine ⟨fun e => ?_, fun e => ?_⟩
  · have e : i < l.length := by have := of_decide_eq_true e; omega
    have hit : ((i : Nat) : Int).toNat = i := by omega
    have hwi : IntKind.wrap .i64 (((i : Nat) : Int) + (1 : Int)) = ((i + 1 : Nat) : Int) := by rw [wrap64] <;> omega
    obtain ⟨b, o, hA, hr⟩ := (hl.sub (s3.tr sp3.sub)).get e
    obtain ⟨q1, q2⟩ := hp _ (List.getElem_mem e)
    rw [hit, hwi]
    refine ⟨b, o, ⟨hA, by omega, by omega⟩, _, _, _, hr _ 0 1 rfl (by decide), ?_⟩
    refine sp3.call (K := fun v g' => ∃ t0 t1, v = .tuple #[.pointer t0, .int .i64 t1] ∧ g3.Sub g' ∧ ((t1 = (0 : Int) ∧ ∃ b, Tr b g' l[i].ps ∧ t0 = some ⟨b, 0, none⟩) ∨ t1 ≠ 0))
      (cOf3 ((hs _ (List.getElem_mem e)).sub s3) (by omega) (fun x hx => by have := q2 x hx; omega) (fun hok b h' ht _ c => ⟨_, _, rfl, c.sub0, .inl ⟨rfl, b, ht, rfl⟩⟩) fun hn e he _ => ⟨_, e, rfl, PH.Sub.rf _, .inr (by rcases he with rfl | rfl <;> decide)⟩) ?_
    rintro _ g4 h4 ⟨t0, t1, rfl, hgs, hor⟩ st
    obtain ⟨st4, keep4⟩ := st hgs
    have hb4 := hb3.keep keep4
    refine ⟨t0, t1, rfl, fun e2 => ?_, fun e2 => ?_⟩
    · rcases hor with ⟨rfl, tb, trn, rfl⟩ | hne
      · refine hb4.append (new := [tb]) rfl rfl rfl (by omega) fun a5 c5 B5 h5 hb5 cc5 _ => ?_
        have st5 := st4.spl.chg cc5 hb5.has
        refine ⟨⟨i + 1, g4, B5, bs ++ [tb], ts ++ [l[i].ps], rfl, by omega, st5.spl, s3.tr hgs, hb5, by simp [hlen], by simp, by simp; omega, fun j h1 h2 => ?_⟩, by omega⟩
        by_cases hj : j < bs.length
        · rw [List.getElem_append_left hj, List.getElem_append_left (by omega)]
          exact (htr j hj (by omega)).sub hgs
        · have : j = bs.length := by simp at h1; omega
          subst this
          rw [List.getElem_append_right (Nat.le_refl _), List.getElem_append_right (by omega)]
          simp only [Nat.sub_self, List.getElem_cons_zero, hlen]
          exact trn
      · exfalso
        simp only [Bool.and_eq_true, beq_iff_eq] at e2
        exact hne e2.1
    · exact ⟨⟨i + 1, g4, B3, bs, ts, rfl, by omega, st4.spl, s3.tr hgs, hb4, hlen, hpos, by omega, fun j h1 h2 => (htr j h1 h2).sub hgs⟩, by omega⟩
  · have := hk oA oC bs ts h3 (s3.tr sp3.sub) ⟨hb3.sr, hlen, hpos, fun j h1 h2 => (htr j h1 h2).sub sp3.sub⟩ (by omega)
    rw [← hn3] at this
    exact this
end TL

namespace TL
open Go Go.Proofs
variable {g h : PH} {N : List Nat} {K : Value → PH → Prop} {zb tb : Nat} {s : StS} {T : List PrR}
theorem root_ok {q : Option (WS × Int × Int)} {b : Nat} {X : List (List UInt8)} {m2 m3 at_ : Int} {R : List UInt8} {base : List PrR} (h2 : at_ < m2) (h3 : 1 ≤ m3) (hs : ∀ w a e, q = some (w, a, e) → ¬ (a = m2 ∧ e = m3)) (hok : okP base) :
    rootS ⟨q, b, X⟩ 4 m2 m3 R base at_ = (true, ⟨some (wNew base R, m2, m3), b + 1, allT ⟨q, b, X⟩⟩) := by
  unfold rootS
  rw [if_neg (by omega), if_neg (fun ⟨w, e, _⟩ => hs w m2 m3 e ⟨rfl, rfl⟩), if_pos hok]
theorem wNew_T (S : List PrR) (R : List UInt8) : (wNew S R).T.length = 31 := texts_len S
end TL

namespace TL
open Go Go.Proofs
variable {g h : PH} {N : List Nat} {K : Value → PH → Prop} {zb ub tb : Nat} {s : StS} {T : List PrR}
/-- two stages -/
structure Two2 (zb ub : Nat) (g : PH) (Nz Nu : List Nat) (h : PH) (S S2 : StS) : Prop where
  x : StageAt g Nz h zb S
  y : StageAt g Nu h ub S2
  sz : Spl g Nz h
  su : Spl g Nu h
  d : Dj Nz Nu
section
variable {Nz Nu Nz' Nu' : List Nat} {S S2 S' : StS} {g' h' : PH}
theorem Two2.l (I : Two2 zb ub g Nz Nu h S S2) (x : StageAt g' Nz' h' zb S') (st : Stp g Nz h g' Nz' h') : Two2 zb ub g' Nz' Nu h' S' S2 := by
  obtain ⟨a, b⟩ := st.also I.su I.d.symm
  exact ⟨x, I.y.stp st I.d.symm, st.spl, a, b.symm⟩
theorem Two2.r (I : Two2 zb ub g Nz Nu h S S2) (y : StageAt g' Nu' h' ub S') (st : Stp g Nu h g' Nu' h') : Two2 zb ub g' Nz Nu' h' S S' := by
  obtain ⟨a, b⟩ := st.also I.sz I.d
  exact ⟨I.x.stp st I.d, y, a, st.spl, b⟩
theorem Two2.up (I : Two2 zb ub g Nz Nu h S S2) (st : Stp g Nz h g' Nz h') (s' : h.Sub h') : Two2 zb ub g' Nz Nu h' S S2 :=
  I.l (I.x.keep st.gs fun q _ o e => s' q o e) st
theorem Two2.grow (I : Two2 zb ub g Nz Nu h S S2) (s' : h.Sub h') : Two2 zb ub g Nz Nu h' S S2 := I.up (I.sz.grow s') s'
end
/-- a stage on its way to a tree, at 7 -/
structure Way7 (T : List PrR) (w : WS) (n : Nat) : Prop where
  v : WOk w
  R : w.R = nd T 1
  t : w.T.length ≤ 31 + n
theorem StageOthers_den {pA bA lA : Option Addr} {pC bC lC : Nat} {prss : List PsR} {base : List PrR} {l : List Ac22} (hp : SR EncPs h pA prss) (hps : ∀ r ∈ prss, SR EncPr h r.a r.ps) (hb : SR EncPr h bA base) (hl : SR EncAc22 h lA l) (hk : ∀ h', h.Sub h' → K (.bool true) h') :
    CallH Tryz.prog id_law22_StageOthers [.slice pA prss.length pC, .slice bA base.length bC, .slice lA l.length lC] K h := by
  refine F_law22_StageOthers_ok ⟨fun _ h' => h' = h ∧ gPs prss l.length = false ∧ gPrs base = false, cGreat22 hp hps ⟨_, rfl, fun g1 => cGreatPairs hb ⟨_, rfl, fun _ => wk22 (PH.Sub.rf _) hk, fun g2 => ⟨rfl, g1, g2⟩⟩, fun _ => wk22 (PH.Sub.rf _) hk⟩, ?_⟩
  rintro _ h1 ⟨rfl, g1, g2⟩
  obtain ⟨b1, b2⟩ := gPrs_no g2
  obtain ⟨_, n120, _⟩ := gPs_no g1
  have hbp : ∀ x ∈ base, x.p.length ≤ 1000000 := fun x hx => by have := (b2 x hx).1; omega
  refine cTrees hp hps g1 fun tsA tsC bs ts h2 s12 trs hle => ⟨_, _, _, rfl, ?_⟩
  have hpos : 0 < bs.length := by have := trs.pos; have := trs.len; omega
  have hw1 : IntKind.wrap .i64 (((bs.length : Nat) : Int) - (1 : Int)) = ((bs.length - 1 : Nat) : Int) := by rw [wrap64] <;> omega
  have ht1 : ((bs.length - 1 : Nat) : Int).toNat = bs.length - 1 := by omega
  obtain ⟨bT, oT, T, hAT, rdT, trT, _⟩ := trs.get (i := bs.length - 1) (by omega)
  rw [hw1, ht1]
  refine ⟨bT, oT, ⟨hAT, by omega, by omega⟩, _, rdT h2 (PH.Sub.rf _), ?_⟩
  have hb2 := hb.sub s12
  refine cSNew (Spl.start h2) fun zb N3 h3 x3 st3 _ s3 => ⟨_, rfl, ?_⟩
  rw [List.append_nil] at st3
  refine cSNew st3.spl fun ub N4 h4 y4 st4 d4 s4 => ⟨_, rfl, ?_⟩
  have I4 : Two2 zb ub h2 N3 N4 h4 ⟨none, 0, []⟩ ⟨none, 0, []⟩ := ⟨x3.keep (PH.Sub.rf _) fun q _ o e => s4 q o e, y4, st4.spl.right, st4.spl.left, d4.symm⟩
  refine cRootM (trT.sub I4.sz.sub) ⟨_, _, _, _, _, _, _, _, _, _, bi (nd T 1), by rw [bi_len, nd_len], _, _, Z32, z32, Z32, z32, _, _, _, rfl, ?_⟩
  refine cSRoot I4.x I4.sz (by decide) (by decide) (nd_len _ _) z32 z32 hb2 (by omega) hbp fun g5 N5 h5 x5 st5 => ⟨_, rfl, ?_⟩
  have I5 := I4.l x5 st5
  refine cRootM ((trT.sub st5.gs).sub I5.sz.sub) ⟨_, _, _, _, _, _, _, _, _, _, bi (nd T 1), by rw [bi_len, nd_len], _, _, Z32, z32, Z32, z32, _, _, _, rfl, ?_⟩
  refine cSRoot I5.y I5.su (by decide) (by decide) (nd_len _ _) z32 z32 (hb2.sub st5.gs) (by omega) hbp fun g6 N6 h6 y6 st6 => ⟨_, rfl, fun e => by simp at e, fun _ => ?_⟩
  have I6 := I5.r y6 st6
  have s26 : h2.Sub g6 := st5.gs.tr st6.gs
  by_cases hok : ¬ okP base
  · have r1 : rootS ⟨none, 0, []⟩ 4 7 1 (nd T 1) base 3 = (false, ⟨none, 0, []⟩) := by
      unfold rootS
      rw [if_neg (by omega), if_neg (fun ⟨w, e, _⟩ => by cases e), if_neg hok]
    rw [r1] at I6 ⊢
    refine LoopP.ind (fun (z : Int × Unit) h' => h' = h6) (fun z _ => 0) ?_ rfl
    rintro ⟨zi, u⟩ h7 rfl
    refine ⟨fun e => by simp at e, fun _ => ?_⟩
    exact cSBegun I6.x ⟨_, rfl, cSBegun I6.y ⟨_, rfl, fun _ => wk22 (s12.tr (s26.tr I6.sz.sub)) hk, fun e => by simp at e⟩⟩
  have hok : okP base := Classical.not_not.1 hok
  rw [root_ok (by decide) (by decide) (fun _ _ _ e => by cases e) hok] at I6 ⊢
  dsimp only at I6
  have W0 : Way7 T (wNew base (nd T 1)) 0 := ⟨WOk.new hok.1 hok.2 (nd_len _ _), by unfold wNew; dsimp only, Nat.le_of_eq (wNew_T _ _)⟩
  have e0 : allT ⟨none, 0, []⟩ = [] := rfl
  rw [e0] at I6
  generalize wNew base (nd T 1) = w0 at I6 W0
  refine LoopP.ind (fun (z : Int × Unit) h' => ∃ (i : Nat) (g' : PH) (Nz Nu : List Nat) (w : WS), z.1 = i ∧ i ≤ l.length ∧ Two2 zb ub g' Nz Nu h' ⟨some (w, 7, 1), 1, []⟩ ⟨some (w, 7, 1), 1, []⟩ ∧ h2.Sub g' ∧ Way7 T w i) (fun z _ => (l.length - z.1).toNat) ?_ ⟨0, g6, N5, N6, w0, rfl, Nat.zero_le _, I6, s26, W0⟩
  rintro ⟨zi, u⟩ h7 ⟨i, g7, Nz, Nu, w, hzi, hi, I, s27, Wy⟩
  dsimp only at hzi
  subst hzi
  dsimp only
  have hT := Wy.t
  refine ⟨fun e => ?_, fun _ => cSBegun I.x ⟨_, rfl, cSBegun I.y ⟨_, rfl, fun _ => wk22 (s12.tr (s27.tr I.sz.sub)) hk, fun e => by simp at e⟩⟩⟩
  have e : i < l.length := by
    simp only [Bool.and_true, decide_eq_true_eq] at e
    omega
  have hit : ((i : Nat) : Int).toNat = i := by omega
  have hwi : IntKind.wrap .i64 (((i : Nat) : Int) + (1 : Int)) = ((i + 1 : Nat) : Int) := by rw [wrap64] <;> omega
  have h1l := hl.sub s12
  obtain ⟨bL, oL, hAL, _⟩ := h1l.get e
  have rdL : ∀ {h' : PH}, h2.Sub h' → ∀ f m, f + m ≤ 6 → h'.rds bL ((oL + i * 6) + f) m = some (((EncAc22.enc l[i]).drop f).take m) := fun {h'} hs f m hf => by
    obtain ⟨b', o', hA', hr⟩ := (h1l.sub hs).get e
    rw [hAL] at hA'; cases hA'
    exact hr _ f m rfl hf
  rw [hit, hwi]
  refine ⟨fun _ h' => ∃ g' Nz Nu w', Two2 zb ub g' Nz Nu h' ⟨some (w', 7, 1), 1, []⟩ ⟨some (w', 7, 1), 1, []⟩ ∧ h2.Sub g' ∧ Way7 T w' (i + 1), ?_, fun _ h' ⟨g', Nz, Nu, w', q1, q2, q3⟩ => ⟨⟨i + 1, g', Nz, Nu, w', rfl, by omega, q1, q2, q3⟩, by omega⟩⟩
  refine ⟨bL, oL, ⟨hAL, by omega, by omega⟩, l[i].t, rdL (s27.tr I.sz.sub) 1 1 (by decide), ?_⟩
  refine cTurn22 hpos (by omega) fun kt hkt => ⟨_, rfl, ?_⟩
  have hktt : ((kt : Nat) : Int).toNat = kt := by omega
  obtain ⟨bO, oO, TO, hAO, rdO, trO, _⟩ := trs.get (i := kt) hkt
  rw [hktt]
  refine ⟨bO, oO, ⟨hAO, by omega, by omega⟩, _, rdO h7 (s27.tr I.sz.sub), ?_⟩
  have h0 : ∀ w' a e, (⟨some (w, 7, 1), 1, []⟩ : StS).g = some (w', a, e) → w'.A 0 = none := fun w' a e hh => by cases hh; exact Wy.v.a0
  have hTb : (allT ⟨some (w, 7, 1), 1, []⟩).length ≤ 1000000 := by show ([] ++ w.T).length ≤ _; rw [List.nil_append]; omega
  refine cSAsks I.x I.sz h0 fun qA qC g8 h8 s8 st8 hl8 => ⟨_, _, _, rfl, ?_⟩
  have I8 := I.up st8 s8
  have s28 := s27.tr st8.gs
  -- roots that begin nothing
  refine ⟨fun _ h' => ∃ g' Nz, Two2 zb ub g' Nz Nu h' ⟨some (w, 7, 1), 1, []⟩ ⟨some (w, 7, 1), 1, []⟩ ∧ g8.Sub g', ?_, ?_⟩
  · refine cRootM ((trT.sub s28).sub I8.sz.sub) ⟨_, _, _, _, _, _, _, _, _, _, bi (nd T 1), by rw [bi_len, nd_len], _, _, Z32, z32, Z32, z32, _, _, _, rfl, ?_⟩
    refine cSRoot I8.x I8.sz hTb (Nat.le_of_ble_eq_true rfl) (nd_len _ _) z32 z32 (hb2.sub s28) (by omega) hbp fun g9 N9 h9 x9 st9 => ⟨_, rfl, ?_⟩
    have r1 : rootS ⟨some (w, 7, 1), 1, []⟩ 4 7 1 (nd T 1) base 3 = (false, ⟨some (w, 7, 1), 1, []⟩) := by
      unfold rootS
      rw [if_neg (by omega), if_pos ⟨w, rfl, Wy.R⟩]
    rw [r1] at x9 ⊢
    have I9 := I8.l x9 st9
    have s29 := s28.tr st9.gs
    refine ⟨bL, oL, fun _ => ⟨hAL, by omega, by omega⟩, l[i].n, fun _ => rdL (s29.tr I9.sz.sub) 4 1 (by decide), fun _ => ?_, fun e => by cases e⟩
    refine cTurn22 (m := 4) (by decide) (by decide) fun k4 hk4 => ⟨_, rfl, ?_⟩
    have hw3 : IntKind.wrap .i64 ((3 : Int) - ((k4 : Nat) : Int)) = 3 - (k4 : Int) := by rw [wrap64] <;> omega
    rw [hw3]
    refine cRootM ((trO.sub s29).sub I9.sz.sub) ⟨_, _, _, _, _, _, _, _, _, _, bi (nd TO 1), by rw [bi_len, nd_len], _, _, Z32, z32, Z32, z32, _, _, _, rfl, ?_⟩
    refine cSRoot I9.x I9.sz hTb (Nat.le_of_ble_eq_true rfl) (nd_len _ _) z32 z32 (hb2.sub s29) (by omega) hbp fun g10 N10 h10 x10 st10 => ⟨_, rfl, ?_⟩
    have r2 : rootS ⟨some (w, 7, 1), 1, []⟩ 4 (3 - (k4 : Int)) 1 (nd TO 1) base 3 = (false, ⟨some (w, 7, 1), 1, []⟩) := by
      unfold rootS
      rw [if_pos (by omega)]
    rw [r2] at x10 ⊢
    have I10 := I9.l x10 st10
    have s210 := s29.tr st10.gs
    refine ⟨fun _ => ?_, fun e => by cases e⟩
    refine cRootM ((trO.sub s210).sub I10.sz.sub) ⟨_, _, _, _, _, _, _, _, _, _, bi (nd TO 1), by rw [bi_len, nd_len], _, _, Z32, z32, Z32, z32, _, _, _, rfl, ?_⟩
    refine cSRoot I10.x I10.sz hTb (Nat.le_of_ble_eq_true rfl) (nd_len _ _) z32 z32 (hb2.sub s210) (by omega) hbp fun g11 N11 h11 x11 st11 => ⟨_, rfl, ?_⟩
    have r3 : rootS ⟨some (w, 7, 1), 1, []⟩ 4 9 0 (nd TO 1) base 3 = (false, ⟨some (w, 7, 1), 1, []⟩) := by
      unfold rootS
      rw [if_pos (by omega)]
    rw [r3] at x11 ⊢
    exact ⟨fun e => (by cases e), fun _ => ⟨g11, N11, I10.l x11 st11, st9.gs.tr (st10.gs.tr st11.gs)⟩⟩
  rintro _ h12 ⟨g12, N12, I12, s812⟩
  have s212 := s28.tr s812
  have hl12 := hl8.sub s812
  refine ⟨fun _ h' => ∃ g' Nz Nu w', Two2 zb ub g' Nz Nu h' ⟨some (w', 7, 1), 1, []⟩ ⟨some (w', 7, 1), 1, []⟩ ∧ h2.Sub g' ∧ Way7 T w' (i + 1), ⟨fun ea => ?_, fun _ => ⟨g12, N12, Nu, w, I12, s212, Wy.v, Wy.R, by omega⟩⟩, ?_⟩
  · have ha0 : 0 < (asksF ⟨some (w, 7, 1), 1, []⟩ 3).length := by have := of_decide_eq_true ea; omega
    have ha8 := asksF_len ⟨some (w, 7, 1), 1, []⟩ 3
    refine ⟨bL, oL, ⟨hAL, by omega, by omega⟩, l[i].n, rdL (s212.tr I12.sz.sub) 4 1 (by decide), ?_⟩
    refine cTurn22 ha0 (by omega) fun ka hka => ⟨_, rfl, ?_⟩
    have hkat : ((ka : Nat) : Int).toNat = ka := by omega
    obtain ⟨w', ga, e', c, b, o, hq, c1, c2, hc, hrow, hA, rd⟩ := askRd hl12 h0 hka
    cases hq
    rw [hkat]
    refine ⟨b, o, ⟨hA, by omega, by omega⟩, _, _, _, _, _, _, _, _, _, _, Z32, z32, _, _, Z32, z32, Z32, z32, _, _, _, rd h12 I12.sz.sub, bL, oL, ⟨hAL, by omega, by omega⟩, l[i].x1, rdL (s212.tr I12.sz.sub) 2 1 (by decide), fun st h' => h' = h12 ∧ st.1 ≠ 7, ⟨fun _ => ⟨rfl, by decide⟩, fun e7 => ⟨rfl, by simpa using e7⟩⟩, ?_⟩
    rintro ⟨at_, u⟩ h13 ⟨rfl, hat⟩
    dsimp only at hat ⊢
    have hTw : ∀ w' a e, (⟨some (w, 7, 1), 1, []⟩ : StS).g = some (w', a, e) → w'.T.length ≤ 100000 := fun w' a e hh => by cases hh; omega
    refine cAnsStage I12.x I12.sz (trT.sub s212) c1 c2 z32 z32 z32 hTw fun g14 N14 h14 x14 st14 => ⟨_, rfl, ?_⟩
    have ea1 : ansT ⟨some (w, 7, 1), 1, []⟩ T c at_ = (false, ⟨some (w, 7, 1), 1, []⟩) := by
      unfold ansT
      dsimp only
      rw [if_pos hat]
    rw [ea1] at x14 ⊢
    have I14 := I12.l x14 st14
    have s214 := s212.tr st14.gs
    refine ⟨fun _ => ?_, fun e => by cases e⟩
    have ea2 : ansT ⟨some (w, 7, 1), 1, []⟩ T c 7 = ((answerW w T c).1, ⟨some ((answerW w T c).2, 7, 1), 1, []⟩) := rfl
    refine cAnsStage I14.x I14.sz (trT.sub s214) c1 c2 z32 z32 z32 hTw fun g15 N15 h15 x15 st15 => ⟨_, rfl, ?_⟩
    rw [ea2] at x15 ⊢
    have I15 := I14.l x15 st15
    have s215 := s214.tr st15.gs
    refine cAnsStage I15.y I15.su (trT.sub s215) c1 c2 z32 z32 z32 hTw fun g16 N16 h16 y16 st16 => ⟨_, rfl, fun e => ?_, fun _ => ?_⟩
    · exfalso
      rw [ea2] at e
      simp at e
    · rw [ea2] at y16
      have kp := answerW_keep (s := w) (T := T) (c := c)
      exact ⟨g16, N15, N16, _, I15.r y16 st16, s215.tr st16.gs, Wy.v.answer, kp.R.trans Wy.R, by have := kp.t; omega⟩
  rintro _ h17 ⟨g17, N17, N18, w', I17, s217, Wy'⟩
  have h0' : ∀ w'' a e, (⟨some (w', 7, 1), 1, []⟩ : StS).g = some (w'', a, e) → w''.A 0 = none := fun w'' a e hh => by cases hh; exact Wy'.v.a0
  have hQ : ∀ w'' a e, (⟨some (w', 7, 1), 1, []⟩ : StS).g = some (w'', a, e) → ∀ i l, w''.Q i = some l → l.length ≤ 48 := fun w'' a e hh i l hq => by cases hh; exact (Wy'.v.q i l hq).2.2
  -- both ask for as much
  have fin : ∀ {h20 : PH} {mA nA : Option Addr} {mC nC : Nat} {m : List PrR}, h17.Sub h20 → SR EncPr h20 mA m → SR EncPr h20 nA m → m.length ≤ 1000 →
      CallH Tryz.prog id_ref13_Same [.slice mA m.length mC, .slice nA m.length nC] (fun v_29 h36 =>
                                                ∃ t_17 : Bool, v_29 = .bool t_17 ∧
                                                (((!t_17) = false →
                                                    CallH Tryz.prog id_stage_Stage_Asks [.pointer (some ⟨zb, 0, none⟩), .int .i64 (3 : Int)] (fun v_30 h37 =>
                                                      ∃ (tA : Option Addr) (tN tC : Nat), v_30 = .slice tA tN tC ∧
                                                      CallH Tryz.prog id_stage_Stage_Asks [.pointer (some ⟨ub, 0, none⟩), .int .i64 (3 : Int)] (fun v_31 h38 =>
                                                        ∃ (tA_1 : Option Addr) (tN_1 tC_1 : Nat), v_31 = .slice tA_1 tN_1 tC_1 ∧
                                                        (((((tN : Nat) : Int) != ((tN_1 : Nat) : Int)) = true →
                                                            K (.bool false) h38) ∧
                                                          ((((tN : Nat) : Int) != ((tN_1 : Nat) : Int)) = false →
                                                            ∃ g' Nz Nu w', Two2 zb ub g' Nz Nu h38 ⟨some (w', 7, 1), 1, []⟩ ⟨some (w', 7, 1), 1, []⟩ ∧ h2.Sub g' ∧ Way7 T w' (i + 1)))) h37) h36) ∧
                                                  ((!t_17) = true →
                                                    K (.bool false) h36))) h20 := fun {h20 mA nA mC nC m} s20 hm hn2 hml => by
    have I20 := I17.grow s20
    refine cRSame hm hn2 (by omega) ⟨_, rfl, fun _ => ?_, fun e => by simp at e⟩
    refine cSAsks I20.x I20.sz h0' fun a21 c21 g21 h21 s21 st21 _ => ⟨_, _, _, rfl, ?_⟩
    have I21 := I20.up st21 s21
    refine cSAsks I21.y I21.sz h0' fun a22 c22 g22 h22 s22 st22 _ => ⟨_, _, _, rfl, fun e => by simp at e, fun _ => ?_⟩
    exact ⟨g22, N17, N18, w', I21.up st22 s22, s217.tr (st21.gs.tr st22.gs), Wy'⟩
  refine cSDone I17.x I17.sz hQ (fun hh => by cases hh) (fun w'' a e hh hc h18 s18 => ⟨_, _, _, _, _, _, rfl, ?_⟩) fun w'' a e hh hd h48 m a18 c18 B18 h18 hp18 hs18 hb18 cc18 => ⟨_, _, _, _, _, _, rfl, ?_⟩
  · cases hh
    have I18 := I17.grow s18
    refine cSDone I18.y I18.su hQ (fun hh => by cases hh) (fun w'' a e hh hc2 h19 s19 => ⟨_, _, _, _, _, _, rfl, fun _ => fin (m := []) (s18.tr s19) (.inl rfl) (.inl rfl) (by simp), fun e => by simp at e⟩) fun w'' a e hh hd h48 _ _ _ _ _ _ _ _ _ => ?_
    exfalso
    cases hh
    rcases hc with ⟨k, k1, k2, hk⟩ | ⟨_, hc⟩
    · rw [hd k k1 k2] at hk; cases hk
    · omega
  · cases hh
    have I18 := I17.grow cc18.sub0
    refine cSDone I18.y I18.su hQ (fun hh => by cases hh) (fun w'' a e hh hc h19 s19 => ?_) fun w'' a e hh _ _ m2 a19 c19 B19 h19 hp19 hs19 hb19 cc19 => ?_
    · exfalso
      cases hh
      rcases hc with ⟨k, k1, k2, hk⟩ | ⟨_, hc⟩
      · rw [hd k k1 k2] at hk; cases hk
      · omega
    · cases hh
      refine ⟨_, _, _, _, _, _, rfl, fun _ => ?_, fun e => by simp at e⟩
      obtain ⟨hmay, _⟩ := parts_up Wy'.v.part hp18 hs18
      have he : m2 = m := up_unique (may_ok hmay).2 (hp19.trans hp18.symm) hs19
      subst he
      exact fin (cc18.sub0.tr cc19.sub0) (hb18.sr.sub cc19.sub0) hb19.sr (by rw [hp18.length_eq]; omega)
end TL
