/-
  The functions of the program as predicates on heap fragments, each tied to its code (a part). No condition.
-/
import Derived.Test.YtmcgndbfoebcnaaGreatPartB
import Derived.Test.YtmcgndbfoebcnaaGreatPartE
import Derived.Test.YtmcgndbfoebcnaaGreatPartD
namespace TL
open Go Go.Proofs
/- twinlock/twinlocklaw20.Great -/
def F_law20_Great (_ : Int) (_ : Int) (r2A : Option Addr) (r2N _ : Nat) (_ : Option Addr) (r3N _ : Nat) (r4A : Option Addr) (r4N r4C : Nat) (K : Value → PH → Prop) (h : PH) : Prop :=
  JoinP (T := Unit) (fun Jv =>
    ((((decide (((r2N : Nat) : Int) > (80 : Int))) || (decide (((r3N : Nat) : Int) > (200 : Int)))) = false →
        CallH Tryz.prog id_law13_GreatPairs [.slice r4A r4N r4C] (fun v h2 =>
          ∃ t : Bool, v = .bool t ∧
          ((t = true →
              K (.bool true) h2) ∧
            (t = false →
              Jv (()) h2))) h) ∧
      (((decide (((r2N : Nat) : Int) > (80 : Int))) || (decide (((r3N : Nat) : Int) > (200 : Int)))) = true →
        K (.bool true) h)))
  (fun _ h1 =>
    LoopP (T := Int × Unit) (fun Jv_1 st_1 h3 =>
      (((decide (st_1.1 < ((r2N : Nat) : Int))) = true →
          ∃ bv ov : Nat, (r2A = some ⟨bv, ov, none⟩ ∧ 0 ≤ st_1.1 ∧ st_1.1 < (r2N : Nat)) ∧
          ∃ (tA : Option Addr) (tN tC : Nat), (h3.rds bv (ov + st_1.1.toNat * 1) 1 = some [.slice tA tN tC]) ∧
          CallH Tryz.prog id_law12_GreatOps [.slice tA tN tC] (fun v_1 h4 =>
            ∃ t_1 : Bool, v_1 = .bool t_1 ∧
            ((t_1 = true →
                K (.bool true) h4) ∧
              (t_1 = false →
                Jv_1 ((IntKind.wrap .i64 (st_1.1 + (1 : Int))), ()) h4))) h3) ∧
        ((decide (st_1.1 < ((r2N : Nat) : Int))) = false →
          K (.bool false) h3))) ((0 : Int), ()) h1)
theorem F_law20_Great_eq {r0 : Int} {r1 : Int} {r2A : Option Addr} {r2N r2C : Nat} {r3A : Option Addr} {r3N r3C : Nat} {r4A : Option Addr} {r4N r4C : Nat} {K : Value → PH → Prop} {h : PH} : @Eq Prop (F_law20_Great r0 r1 r2A r2N r2C r3A r3N r3C r4A r4N r4C K h) (denF Tryz.prog Tryz.f32 ⟨[1], [], [(0, ⟨[(3, .int .i64)], [], []⟩)], [(8, ⟨[], [], []⟩)]⟩ [.agg [.one (.int .i64 r0), .one (.int .i64 r1), .one (.slice r2A r2N r2C), .one (.slice r3A r3N r3C), .one (.slice r4A r4N r4C)]] K h) := by
  kernel_rfl
theorem F_law20_Great_ok {r0 : Int} {r1 : Int} {r2A : Option Addr} {r2N r2C : Nat} {r3A : Option Addr} {r3N r3C : Nat} {r4A : Option Addr} {r4N r4C : Nat}  {K : Value → PH → Prop} {h : PH} (hh : F_law20_Great r0 r1 r2A r2N r2C r3A r3N r3C r4A r4N r4C K h) : CallH Tryz.prog id_law20_Great [.agg #[.int .i64 r0, .int .i64 r1, .slice r2A r2N r2C, .slice r3A r3N r3C, .slice r4A r4N r4C]] K h :=
  denF_sound' Tryz.func32 (H := ⟨[1], [], [(0, ⟨[(3, .int .i64)], [], []⟩)], [(8, ⟨[], [], []⟩)]⟩) (xs := [.agg [.one (.int .i64 r0), .one (.int .i64 r1), .one (.slice r2A r2N r2C), .one (.slice r3A r3N r3C), .one (.slice r4A r4N r4C)]]) (by kernel_rfl) (⟨⟨rfl, rfl, rfl, rfl, rfl, trivial⟩, trivial⟩) (den_of F_law20_Great_eq hh)

/- twinlock/twinlocklaw20.Made -/
def F_law20_Made (r0 : Int) (r1 : Int) (r2A : Option Addr) (r2N _ : Nat) (r3A : Option Addr) (r3N _ : Nat) (r4A : Option Addr) (r4N r4C : Nat) (epoch : Int) (K : Value → PH → Prop) (h : PH) : Prop :=
  JoinP (T := Int × Unit) (fun Jv =>
    (((decide ((r0.tmod (100 : Int)) < (0 : Int))) = true →
        Jv ((IntKind.wrap .i64 (0 - (r0.tmod (100 : Int)))), ()) h) ∧
      ((decide ((r0.tmod (100 : Int)) < (0 : Int))) = false →
        Jv ((r0.tmod (100 : Int)), ()) h)))
  (fun st h1 =>
    JoinP (T := Int × Unit) (fun Jv_1 =>
      (((decide ((r1.tmod (5 : Int)) < (1 : Int))) = true →
          Jv_1 ((1 : Int), ()) h1) ∧
        ((decide ((r1.tmod (5 : Int)) < (1 : Int))) = false →
          Jv_1 ((r1.tmod (5 : Int)), ()) h1)))
    (fun st_1 h2 =>
      JoinP (T := Int × Unit) (fun Jv_2 =>
        (((st.1 == (0 : Int)) = true →
            Jv_2 ((0 : Int), ()) h2) ∧
          ((st.1 == (0 : Int)) = false →
            Jv_2 (st_1.1, ()) h2)))
      (fun st_2 h3 =>
        LoopP (T := Int × Int × Int × Int × Int × (Option Addr × Nat × Nat) × Int × (Option Addr × Nat × Nat) × Unit) (fun Jv_3 st_3 h4 =>
          (((decide (st_3.2.1 < ((r2N : Nat) : Int))) = true →
              JoinP (T := Int × Unit) (fun Jv_4 =>
                (((decide (st_3.1 < (1 : Int))) = true →
                    Jv_4 ((1 : Int), ()) h4) ∧
                  ((decide (st_3.1 < (1 : Int))) = false →
                    Jv_4 (st_3.1, ()) h4)))
              (fun st_4 h5 =>
                JoinP (T := Int × Unit) (fun Jv_5 =>
                  ∃ bv ov : Nat, (((decide (st_3.2.1 < ((r3N : Nat) : Int))) = true → r3A = some ⟨bv, ov, none⟩ ∧ 0 ≤ st_3.2.1 ∧ st_3.2.1 < (r3N : Nat))) ∧
                  ∃ t : Int, (((decide (st_3.2.1 < ((r3N : Nat) : Int))) = true → h5.rds bv (ov + st_3.2.1.toNat * 1) 1 = some [.int .i64 t])) ∧
                  ((((decide (st_3.2.1 < ((r3N : Nat) : Int))) && (decide (t > (0 : Int)))) = true →
                      ∃ bv_1 ov_1 : Nat, (r3A = some ⟨bv_1, ov_1, none⟩ ∧ 0 ≤ st_3.2.1 ∧ st_3.2.1 < (r3N : Nat)) ∧
                      ∃ t_1 : Int, (h5.rds bv_1 (ov_1 + st_3.2.1.toNat * 1) 1 = some [.int .i64 t_1]) ∧
                      Jv_5 ((IntKind.wrap .i64 (st_4.1 + (t_1.tmod (2 : Int)))), ()) h5) ∧
                    (((decide (st_3.2.1 < ((r3N : Nat) : Int))) && (decide (t > (0 : Int)))) = false →
                      Jv_5 (st_4.1, ()) h5)))
                (fun st_5 h6 =>
                  ∃ bv_2 ov_2 : Nat, (r2A = some ⟨bv_2, ov_2, none⟩ ∧ 0 ≤ st_3.2.1 ∧ st_3.2.1 < (r2N : Nat)) ∧
                  ∃ (tA : Option Addr) (tN tC : Nat), (h6.rds bv_2 (ov_2 + st_3.2.1.toNat * 1) 1 = some [.slice tA tN tC]) ∧
                  appH T_api_Batch 3 40 [.int .i64 (0 : Int), .int .i64 (0 : Int), .slice none 0 0] st_3.2.2.2.2.2.1.1 st_3.2.2.2.2.2.1.2.1 st_3.2.2.2.2.2.1.2.2 1 [.int .i64 (IntKind.wrap .i64 ((IntKind.wrap .i64 (st.1 + st_3.2.1)) + (1 : Int))), .int .i64 st_5.1, .slice tA tN tC] (fun tA_1 tN_1 tC_1 h7 =>
                    Jv_3 (st_5.1, (IntKind.wrap .i64 (st_3.2.1 + (1 : Int))), st_3.2.2.1, (IntKind.wrap .i64 ((IntKind.wrap .i64 (st.1 + st_3.2.1)) + (1 : Int))), st_5.1, (tA_1, tN_1, tC_1), st_3.2.2.2.2.2.2.1, (st_3.2.2.2.2.2.2.2.1.1, st_3.2.2.2.2.2.2.2.1.2.1, st_3.2.2.2.2.2.2.2.1.2.2), ()) h7) h6))) ∧
            ((decide (st_3.2.1 < ((r2N : Nat) : Int))) = false →
              K (.agg #[.int .i64 st_3.2.2.1, .int .i64 st_3.2.2.2.1, .int .i64 st_3.2.2.2.2.1, .slice st_3.2.2.2.2.2.1.1 st_3.2.2.2.2.2.1.2.1 st_3.2.2.2.2.2.1.2.2, .int .i64 st_3.2.2.2.2.2.2.1, .slice st_3.2.2.2.2.2.2.2.1.1 st_3.2.2.2.2.2.2.2.1.2.1 st_3.2.2.2.2.2.2.2.1.2.2]) h4))) (st_2.1, (0 : Int), epoch, st.1, st_2.1, (none, 0, 0), st_2.1, (r4A, r4N, r4C), ()) h3)))
theorem F_law20_Made_eq {r0 : Int} {r1 : Int} {r2A : Option Addr} {r2N r2C : Nat} {r3A : Option Addr} {r3N r3C : Nat} {r4A : Option Addr} {r4N r4C : Nat} {epoch : Int} {K : Value → PH → Prop} {h : PH} : @Eq Prop (F_law20_Made r0 r1 r2A r2N r2C r3A r3N r3C r4A r4N r4C epoch K h) (denF Tryz.prog Tryz.f34 ⟨[2, 4, 7, 75], [], [(0, ⟨[(8, .int .i64), (9, .int .i64)], [], [(2, [.one (.int .i64), .one (.int .i64), .one (.int .i64), .one (.slice), .one (.int .i64), .one (.slice)])]⟩)], [(10, ⟨[(5, .int .i64)], [], []⟩), (16, ⟨[(6, .int .i64)], [], []⟩), (20, ⟨[(6, .int .i64)], [], []⟩), (34, ⟨[(8, .int .i64)], [], []⟩), (38, ⟨[(8, .int .i64)], [], []⟩)]⟩ [.agg [.one (.int .i64 r0), .one (.int .i64 r1), .one (.slice r2A r2N r2C), .one (.slice r3A r3N r3C), .one (.slice r4A r4N r4C)], .v (.int .i64 epoch)] K h) := by
  kernel_rfl
theorem F_law20_Made_ok {r0 : Int} {r1 : Int} {r2A : Option Addr} {r2N r2C : Nat} {r3A : Option Addr} {r3N r3C : Nat} {r4A : Option Addr} {r4N r4C : Nat} {epoch : Int}  {K : Value → PH → Prop} {h : PH} (hh : F_law20_Made r0 r1 r2A r2N r2C r3A r3N r3C r4A r4N r4C epoch K h) : CallH Tryz.prog id_law20_Made [.agg #[.int .i64 r0, .int .i64 r1, .slice r2A r2N r2C, .slice r3A r3N r3C, .slice r4A r4N r4C], .int .i64 epoch] K h :=
  denF_sound' Tryz.func34 (H := ⟨[2, 4, 7, 75], [], [(0, ⟨[(8, .int .i64), (9, .int .i64)], [], [(2, [.one (.int .i64), .one (.int .i64), .one (.int .i64), .one (.slice), .one (.int .i64), .one (.slice)])]⟩)], [(10, ⟨[(5, .int .i64)], [], []⟩), (16, ⟨[(6, .int .i64)], [], []⟩), (20, ⟨[(6, .int .i64)], [], []⟩), (34, ⟨[(8, .int .i64)], [], []⟩), (38, ⟨[(8, .int .i64)], [], []⟩)]⟩) (xs := [.agg [.one (.int .i64 r0), .one (.int .i64 r1), .one (.slice r2A r2N r2C), .one (.slice r3A r3N r3C), .one (.slice r4A r4N r4C)], .v (.int .i64 epoch)]) (by kernel_rfl) (⟨⟨rfl, rfl, rfl, rfl, rfl, trivial⟩, rfl, trivial⟩) (den_of F_law20_Made_eq hh)

/- twinlock/ship.New -/
def F_ship_New  (K : Value → PH → Prop) (h : PH) : Prop :=
  newH h (.cells #[.pointer none, .pointer none, .slice none 0 0] T_ship_Ship (0, 0)) fun bv h1 =>
  K (.pointer (some ⟨bv, 0, none⟩)) h1
theorem F_ship_New_eq  {K : Value → PH → Prop} {h : PH} : @Eq Prop (F_ship_New  K h) (denF Tryz.prog Tryz.f35 ⟨[], [], [], []⟩ [] K h) := by
  kernel_rfl
theorem F_ship_New_ok   {K : Value → PH → Prop} {h : PH} (hh : F_ship_New  K h) : CallH Tryz.prog id_ship_New [] K h :=
  denF_sound' Tryz.func35 (H := ⟨[], [], [], []⟩) (xs := []) (by kernel_rfl) (trivial) (den_of F_ship_New_eq hh)

/- (*twinlock/ship.Ship).Ack -/
def F_ship_Ship_Ack (sv : Option Addr) (m0 : Int) (_ : Int) (m2 : Int) (m3 : Int) (_ : Int) (_ : Int) (_ : Option Addr) (_ _ : Nat) (_ : Int) (_ : List Int) (_ : Int) (_ : Int) (_ : List Int) (_ : List Int) (_ : Option Addr) (_ _ : Nat) (K : Value → PH → Prop) (h : PH) : Prop :=
  (((((Option.isNone sv) || (m0 != (3 : Int))) || (decide (m2 < (0 : Int)))) = true →
      K (.bool false) h) ∧
    ((((Option.isNone sv) || (m0 != (3 : Int))) || (decide (m2 < (0 : Int)))) = false →
      newH h (.cells #[.int .i64 m2, .int .i64 m3] T_ship_place (0, 0)) fun bv h1 =>
      ∃ bv_1 ov : Nat, sv = some ⟨bv_1, ov, none⟩ ∧
      stH h1 bv_1 ov [.pointer (some ⟨bv, 0, none⟩)] fun h2 =>
      K (.bool true) h2))
theorem F_ship_Ship_Ack_eq {sv : Option Addr} {m0 : Int} {m1 : Int} {m2 : Int} {m3 : Int} {m4 : Int} {m5 : Int} {m6A : Option Addr} {m6N m6C : Nat} {m7 : Int} {m8 : List Int} {m9 : Int} {m10 : Int} {m11 : List Int} {m12 : List Int} {m13A : Option Addr} {m13N m13C : Nat} {K : Value → PH → Prop} {h : PH} : @Eq Prop (F_ship_Ship_Ack sv m0 m1 m2 m3 m4 m5 m6A m6N m6C m7 m8 m9 m10 m11 m12 m13A m13N m13C K h) (denF Tryz.prog Tryz.f36 ⟨[3], [], [], []⟩ [.v (.pointer sv), .agg [.one (.int .u8 m0), .one (.int .i64 m1), .one (.int .i64 m2), .one (.int .i64 m3), .one (.int .i64 m4), .one (.int .i64 m5), .one (.slice m6A m6N m6C), .one (.int .i64 m7), .ints .u8 32 m8, .one (.int .i64 m9), .one (.int .i64 m10), .ints .u8 32 m11, .ints .u8 32 m12, .one (.slice m13A m13N m13C)]] K h) := by
  kernel_rfl
theorem F_ship_Ship_Ack_ok {sv : Option Addr} {m0 : Int} {m1 : Int} {m2 : Int} {m3 : Int} {m4 : Int} {m5 : Int} {m6A : Option Addr} {m6N m6C : Nat} {m7 : Int} {m8 : List Int} {m9 : Int} {m10 : Int} {m11 : List Int} {m12 : List Int} {m13A : Option Addr} {m13N m13C : Nat} (hk0 : m8.length = 32) (hk1 : m11.length = 32) (hk2 : m12.length = 32) {K : Value → PH → Prop} {h : PH} (hh : F_ship_Ship_Ack sv m0 m1 m2 m3 m4 m5 m6A m6N m6C m7 m8 m9 m10 m11 m12 m13A m13N m13C K h) : CallH Tryz.prog id_ship_Ship_Ack [.pointer sv, .agg ((.int .u8 m0 :: (.int .i64 m1 :: (.int .i64 m2 :: (.int .i64 m3 :: (.int .i64 m4 :: (.int .i64 m5 :: (.slice m6A m6N m6C :: (.int .i64 m7 :: (m8.map (Value.int .u8) ++ (.int .i64 m9 :: (.int .i64 m10 :: (m11.map (Value.int .u8) ++ (m12.map (Value.int .u8) ++ ([.slice m13A m13N m13C] : List Value))))))))))))))).toArray] K h :=
  denF_sound' Tryz.func36 (H := ⟨[3], [], [], []⟩) (xs := [.v (.pointer sv), .agg [.one (.int .u8 m0), .one (.int .i64 m1), .one (.int .i64 m2), .one (.int .i64 m3), .one (.int .i64 m4), .one (.int .i64 m5), .one (.slice m6A m6N m6C), .one (.int .i64 m7), .ints .u8 32 m8, .one (.int .i64 m9), .one (.int .i64 m10), .ints .u8 32 m11, .ints .u8 32 m12, .one (.slice m13A m13N m13C)]]) (by kernel_rfl) (⟨rfl, ⟨rfl, rfl, rfl, rfl, rfl, rfl, rfl, rfl, hk0, rfl, rfl, hk1, hk2, rfl, trivial⟩, trivial⟩) (den_of F_ship_Ship_Ack_eq hh)

/- (*twinlock/ship.Ship).Tick -/
set_option maxRecDepth 100000 in
def F_ship_Ship_Tick (sv : Option Addr) (v0 : Int) (v1 : Int) (v2 : Int) (v3A : Option Addr) (v3N v3C : Nat) (v4 : Int) (v5A : Option Addr) (v5N v5C : Nat) (K : Value → PH → Prop) (h : PH) : Prop :=
  (((Option.isNone sv) = true →
      K (.slice none 0 0) h) ∧
    ((Option.isNone sv) = false →
      newH h (.cells ((.int .u8 (1 : Int) :: (.int .i64 v0 :: (.int .i64 (0 : Int) :: (.int .i64 (0 : Int) :: (.int .i64 (0 : Int) :: (.int .i64 (0 : Int) :: (.slice none 0 0 :: (.int .i64 (0 : Int) :: ((List.replicate 32 0).map (Value.int .u8) ++ (.int .i64 (0 : Int) :: (.int .i64 (0 : Int) :: ((List.replicate 32 0).map (Value.int .u8) ++ ((List.replicate 32 0).map (Value.int .u8) ++ ([.slice none 0 0] : List Value))))))))))))))).toArray T_api_Msg (0, 0)) fun bv h1 =>
      ∃ bv_1 ov : Nat, sv = some ⟨bv_1, ov, none⟩ ∧
      ∃ t : Option Addr, (h1.rds bv_1 ov 1 = some [.pointer t]) ∧
      (((Option.isNone t) = true →
          K (.slice (some ⟨bv, 0, none⟩) 1 1) h1) ∧
        ((Option.isNone t) = false →
          ∃ bv_2 ov_1 : Nat, sv = some ⟨bv_2, ov_1, none⟩ ∧
          ∃ t_1 : Option Addr, (h1.rds bv_2 ov_1 1 = some [.pointer t_1]) ∧
          ∃ bv_3 ov_2 : Nat, t_1 = some ⟨bv_3, ov_2, none⟩ ∧
          ∃ t0 : Int, ∃ t1 : Int, (h1.rds bv_3 ov_2 2 = some [.int .i64 t0, .int .i64 t1]) ∧
          ((((t0 == v1) && ((t1 == v2) && true)) = true →
              ∃ bv_4 ov_3 : Nat, sv = some ⟨bv_4, ov_3, none⟩ ∧
              stH h1 bv_4 (ov_3 + 1) [.pointer none] fun h2 =>
              K (.slice (some ⟨bv, 0, none⟩) 1 1) h2) ∧
            (((t0 == v1) && ((t1 == v2) && true)) = false →
              ∃ bv_5 ov_4 : Nat, sv = some ⟨bv_5, ov_4, none⟩ ∧
              ∃ t_2 : Option Addr, (h1.rds bv_5 ov_4 1 = some [.pointer t_2]) ∧
              ∃ bv_6 ov_5 : Nat, t_2 = some ⟨bv_6, ov_5, none⟩ ∧
              ∃ t0_1 : Int, ∃ t1_1 : Int, (h1.rds bv_6 ov_5 2 = some [.int .i64 t0_1, .int .i64 t1_1]) ∧
              CallH Tryz.prog id_ship_next [.agg #[.int .i64 v0, .int .i64 v1, .int .i64 v2, .slice v3A v3N v3C, .int .i64 v4, .slice v5A v5N v5C], .agg #[.int .i64 t0_1, .int .i64 t1_1]] (fun v h3 =>
                ∃ t0_2 : Int, ∃ t1_2 : Bool, v = .tuple #[.int .i64 t0_2, .bool t1_2] ∧
                ((t1_2 = true →
                    CallH Tryz.prog id_ship_entries [.agg #[.int .i64 v0, .int .i64 v1, .int .i64 v2, .slice v3A v3N v3C, .int .i64 v4, .slice v5A v5N v5C], .int .i64 t0_2] (fun v_1 h4 =>
                      ∃ (tA : Option Addr) (tN tC : Nat), v_1 = .slice tA tN tC ∧
                      ∃ vs : List Value, srcH h4 tA (tN * 107) vs ∧
                      appH T_api_Msg 107 216 [.int .u8 (0 : Int), .int .i64 (0 : Int), .int .i64 (0 : Int), .int .i64 (0 : Int), .int .i64 (0 : Int), .int .i64 (0 : Int), .slice none 0 0, .int .i64 (0 : Int), .int .u8 (0 : Int), .int .u8 (0 : Int), .int .u8 (0 : Int), .int .u8 (0 : Int), .int .u8 (0 : Int), .int .u8 (0 : Int), .int .u8 (0 : Int), .int .u8 (0 : Int), .int .u8 (0 : Int), .int .u8 (0 : Int), .int .u8 (0 : Int), .int .u8 (0 : Int), .int .u8 (0 : Int), .int .u8 (0 : Int), .int .u8 (0 : Int), .int .u8 (0 : Int), .int .u8 (0 : Int), .int .u8 (0 : Int), .int .u8 (0 : Int), .int .u8 (0 : Int), .int .u8 (0 : Int), .int .u8 (0 : Int), .int .u8 (0 : Int), .int .u8 (0 : Int), .int .u8 (0 : Int), .int .u8 (0 : Int), .int .u8 (0 : Int), .int .u8 (0 : Int), .int .u8 (0 : Int), .int .u8 (0 : Int), .int .u8 (0 : Int), .int .u8 (0 : Int), .int .i64 (0 : Int), .int .i64 (0 : Int), .int .u8 (0 : Int), .int .u8 (0 : Int), .int .u8 (0 : Int), .int .u8 (0 : Int), .int .u8 (0 : Int), .int .u8 (0 : Int), .int .u8 (0 : Int), .int .u8 (0 : Int), .int .u8 (0 : Int), .int .u8 (0 : Int), .int .u8 (0 : Int), .int .u8 (0 : Int), .int .u8 (0 : Int), .int .u8 (0 : Int), .int .u8 (0 : Int), .int .u8 (0 : Int), .int .u8 (0 : Int), .int .u8 (0 : Int), .int .u8 (0 : Int), .int .u8 (0 : Int), .int .u8 (0 : Int), .int .u8 (0 : Int), .int .u8 (0 : Int), .int .u8 (0 : Int), .int .u8 (0 : Int), .int .u8 (0 : Int), .int .u8 (0 : Int), .int .u8 (0 : Int), .int .u8 (0 : Int), .int .u8 (0 : Int), .int .u8 (0 : Int), .int .u8 (0 : Int), .int .u8 (0 : Int), .int .u8 (0 : Int), .int .u8 (0 : Int), .int .u8 (0 : Int), .int .u8 (0 : Int), .int .u8 (0 : Int), .int .u8 (0 : Int), .int .u8 (0 : Int), .int .u8 (0 : Int), .int .u8 (0 : Int), .int .u8 (0 : Int), .int .u8 (0 : Int), .int .u8 (0 : Int), .int .u8 (0 : Int), .int .u8 (0 : Int), .int .u8 (0 : Int), .int .u8 (0 : Int), .int .u8 (0 : Int), .int .u8 (0 : Int), .int .u8 (0 : Int), .int .u8 (0 : Int), .int .u8 (0 : Int), .int .u8 (0 : Int), .int .u8 (0 : Int), .int .u8 (0 : Int), .int .u8 (0 : Int), .int .u8 (0 : Int), .int .u8 (0 : Int), .int .u8 (0 : Int), .int .u8 (0 : Int), .int .u8 (0 : Int), .int .u8 (0 : Int), .slice none 0 0] (some ⟨bv, 0, none⟩) 1 1 tN vs (fun tA_1 tN_1 tC_1 h5 =>
                        K (.slice tA_1 tN_1 tC_1) h5) h4) h3) ∧
                  (t1_2 = false →
                    JoinP (T := Unit) (fun Jv =>
                      ∃ bv_7 ov_6 : Nat, sv = some ⟨bv_7, ov_6, none⟩ ∧
                      ∃ t_3 : Option Addr, (h3.rds bv_7 (ov_6 + 1) 1 = some [.pointer t_3]) ∧
                      ∃ bv_8 ov_7 : Nat, ((Option.isNone t_3) = false → sv = some ⟨bv_8, ov_7, none⟩) ∧
                      ∃ t_4 : Option Addr, (((Option.isNone t_3) = false → h3.rds bv_8 (ov_7 + 1) 1 = some [.pointer t_4])) ∧
                      ∃ bv_9 ov_8 : Nat, ((Option.isNone t_3) = false → t_4 = some ⟨bv_9, ov_8, none⟩) ∧
                      ∃ t_5 : Int, (((Option.isNone t_3) = false → h3.rds bv_9 ov_8 1 = some [.int .i64 t_5])) ∧
                      ∃ bv_10 ov_9 : Nat, ((Option.isNone t_3) = false → sv = some ⟨bv_10, ov_9, none⟩) ∧
                      ∃ t_6 : Option Addr, (((Option.isNone t_3) = false → h3.rds bv_10 ov_9 1 = some [.pointer t_6])) ∧
                      ∃ bv_11 ov_10 : Nat, ((Option.isNone t_3) = false → t_6 = some ⟨bv_11, ov_10, none⟩) ∧
                      ∃ t_7 : Int, (((Option.isNone t_3) = false → h3.rds bv_11 ov_10 1 = some [.int .i64 t_7])) ∧
                      (((Option.isNone t_3) = false →
                          ∃ bv_12 ov_11 : Nat, ((decide (t_5 ≤ t_7)) = true → sv = some ⟨bv_12, ov_11, none⟩) ∧
                          ∃ t_8 : Option Addr, (((decide (t_5 ≤ t_7)) = true → h3.rds bv_12 (ov_11 + 1) 1 = some [.pointer t_8])) ∧
                          ∃ bv_13 ov_12 : Nat, ((decide (t_5 ≤ t_7)) = true → t_8 = some ⟨bv_13, ov_12, none⟩) ∧
                          ∃ t_9 : Int, (((decide (t_5 ≤ t_7)) = true → h3.rds bv_13 ov_12 1 = some [.int .i64 t_9])) ∧
                          ∃ bv_14 ov_13 : Nat, (((decide (t_5 ≤ t_7)) && (decide (t_9 < v1))) = false → sv = some ⟨bv_14, ov_13, none⟩) ∧
                          ∃ t_10 : Option Addr, ((((decide (t_5 ≤ t_7)) && (decide (t_9 < v1))) = false → h3.rds bv_14 (ov_13 + 1) 1 = some [.pointer t_10])) ∧
                          ∃ bv_15 ov_14 : Nat, (((decide (t_5 ≤ t_7)) && (decide (t_9 < v1))) = false → t_10 = some ⟨bv_15, ov_14, none⟩) ∧
                          ∃ t_11 : Int, ((((decide (t_5 ≤ t_7)) && (decide (t_9 < v1))) = false → h3.rds bv_15 ov_14 1 = some [.int .i64 t_11])) ∧
                          ((((decide (t_5 ≤ t_7)) && (decide (t_9 < v1))) = false →
                              CallH Tryz.prog id_ship_above [.int .i64 v1, .int .i64 t_11] (fun v_2 h7 =>
                                ∃ t_12 : Bool, v_2 = .bool t_12 ∧
                                ((t_12 = true →
                                    CallH Tryz.prog id_tree_Of [.slice v5A v5N v5C] (fun v_3 h8 =>
                                      ∃ t0_3 : Option Addr, ∃ t1_3 : Int, v_3 = .tuple #[.pointer t0_3, .int .i64 t1_3] ∧
                                      (((t1_3 != (0 : Int)) = true →
                                          K (.slice (some ⟨bv, 0, none⟩) 1 1) h8) ∧
                                        ((t1_3 != (0 : Int)) = false →
                                          newH h8 (.cells #[.int .i64 v1, .int .i64 v2, .pointer t0_3] T_ship_shot (0, 0)) fun bv_16 h9 =>
                                          ∃ bv_17 ov_15 : Nat, sv = some ⟨bv_17, ov_15, none⟩ ∧
                                          stH h9 bv_17 (ov_15 + 1) [.pointer (some ⟨bv_16, 0, none⟩)] fun h10 =>
                                          ∃ bv_18 ov_16 : Nat, sv = some ⟨bv_18, ov_16, none⟩ ∧
                                          ∃ (tA_2 : Option Addr) (tN_2 tC_2 : Nat), (h10.rds bv_18 (ov_16 + 2) 1 = some [.slice tA_2 tN_2 tC_2]) ∧
                                          CallH Tryz.prog id_tree_Tree_Texts [.pointer t0_3] (fun v_4 h11 =>
                                            ∃ (tA_3 : Option Addr) (tN_3 tC_3 : Nat), v_4 = .slice tA_3 tN_3 tC_3 ∧
                                            (h11.rds bv_18 (ov_16 + 2) 1 = some [.slice tA_2 tN_2 tC_2]) ∧
                                            ∃ vs_1 : List Value, srcH h11 tA_3 (tN_3 * 1) vs_1 ∧
                                            appH 9 1 16 [.string (⟨#[]⟩ : ByteArray)] tA_2 tN_2 tC_2 tN_3 vs_1 (fun tA_4 tN_4 tC_4 h12 =>
                                              ∃ bv_19 ov_17 : Nat, sv = some ⟨bv_19, ov_17, none⟩ ∧
                                              stH h12 bv_19 (ov_17 + 2) [.slice tA_4 tN_4 tC_4] fun h13 =>
                                              Jv (()) h13) h11) h10))) h7) ∧
                                  (t_12 = false →
                                    Jv (()) h7))) h3) ∧
                            (((decide (t_5 ≤ t_7)) && (decide (t_9 < v1))) = true →
                              CallH Tryz.prog id_tree_Of [.slice v5A v5N v5C] (fun v_5 h14 =>
                                ∃ t0_4 : Option Addr, ∃ t1_4 : Int, v_5 = .tuple #[.pointer t0_4, .int .i64 t1_4] ∧
                                (((t1_4 != (0 : Int)) = true →
                                    K (.slice (some ⟨bv, 0, none⟩) 1 1) h14) ∧
                                  ((t1_4 != (0 : Int)) = false →
                                    newH h14 (.cells #[.int .i64 v1, .int .i64 v2, .pointer t0_4] T_ship_shot (0, 0)) fun bv_20 h15 =>
                                    ∃ bv_21 ov_18 : Nat, sv = some ⟨bv_21, ov_18, none⟩ ∧
                                    stH h15 bv_21 (ov_18 + 1) [.pointer (some ⟨bv_20, 0, none⟩)] fun h16 =>
                                    ∃ bv_22 ov_19 : Nat, sv = some ⟨bv_22, ov_19, none⟩ ∧
                                    ∃ (tA_5 : Option Addr) (tN_5 tC_5 : Nat), (h16.rds bv_22 (ov_19 + 2) 1 = some [.slice tA_5 tN_5 tC_5]) ∧
                                    CallH Tryz.prog id_tree_Tree_Texts [.pointer t0_4] (fun v_6 h17 =>
                                      ∃ (tA_6 : Option Addr) (tN_6 tC_6 : Nat), v_6 = .slice tA_6 tN_6 tC_6 ∧
                                      (h17.rds bv_22 (ov_19 + 2) 1 = some [.slice tA_5 tN_5 tC_5]) ∧
                                      ∃ vs_2 : List Value, srcH h17 tA_6 (tN_6 * 1) vs_2 ∧
                                      appH 9 1 16 [.string (⟨#[]⟩ : ByteArray)] tA_5 tN_5 tC_5 tN_6 vs_2 (fun tA_7 tN_7 tC_7 h18 =>
                                        ∃ bv_23 ov_20 : Nat, sv = some ⟨bv_23, ov_20, none⟩ ∧
                                        stH h18 bv_23 (ov_20 + 2) [.slice tA_7 tN_7 tC_7] fun h19 =>
                                        Jv (()) h19) h17) h16))) h3))) ∧
                        ((Option.isNone t_3) = true →
                          CallH Tryz.prog id_tree_Of [.slice v5A v5N v5C] (fun v_7 h20 =>
                            ∃ t0_5 : Option Addr, ∃ t1_5 : Int, v_7 = .tuple #[.pointer t0_5, .int .i64 t1_5] ∧
                            (((t1_5 != (0 : Int)) = true →
                                K (.slice (some ⟨bv, 0, none⟩) 1 1) h20) ∧
                              ((t1_5 != (0 : Int)) = false →
                                newH h20 (.cells #[.int .i64 v1, .int .i64 v2, .pointer t0_5] T_ship_shot (0, 0)) fun bv_24 h21 =>
                                ∃ bv_25 ov_21 : Nat, sv = some ⟨bv_25, ov_21, none⟩ ∧
                                stH h21 bv_25 (ov_21 + 1) [.pointer (some ⟨bv_24, 0, none⟩)] fun h22 =>
                                ∃ bv_26 ov_22 : Nat, sv = some ⟨bv_26, ov_22, none⟩ ∧
                                ∃ (tA_8 : Option Addr) (tN_8 tC_8 : Nat), (h22.rds bv_26 (ov_22 + 2) 1 = some [.slice tA_8 tN_8 tC_8]) ∧
                                CallH Tryz.prog id_tree_Tree_Texts [.pointer t0_5] (fun v_8 h23 =>
                                  ∃ (tA_9 : Option Addr) (tN_9 tC_9 : Nat), v_8 = .slice tA_9 tN_9 tC_9 ∧
                                  (h23.rds bv_26 (ov_22 + 2) 1 = some [.slice tA_8 tN_8 tC_8]) ∧
                                  ∃ vs_3 : List Value, srcH h23 tA_9 (tN_9 * 1) vs_3 ∧
                                  appH 9 1 16 [.string (⟨#[]⟩ : ByteArray)] tA_8 tN_8 tC_8 tN_9 vs_3 (fun tA_10 tN_10 tC_10 h24 =>
                                    ∃ bv_27 ov_23 : Nat, sv = some ⟨bv_27, ov_23, none⟩ ∧
                                    stH h24 bv_27 (ov_23 + 2) [.slice tA_10 tN_10 tC_10] fun h25 =>
                                    Jv (()) h25) h23) h22))) h3)))
                    (fun _ h6 =>
                      ∃ bv_28 ov_24 : Nat, sv = some ⟨bv_28, ov_24, none⟩ ∧
                      ∃ t_13 : Option Addr, (h6.rds bv_28 (ov_24 + 1) 1 = some [.pointer t_13]) ∧
                      ∃ bv_29 ov_25 : Nat, t_13 = some ⟨bv_29, ov_25, none⟩ ∧
                      ∃ t_14 : Int, (h6.rds bv_29 ov_25 1 = some [.int .i64 t_14]) ∧
                      ∃ bv_30 ov_26 : Nat, sv = some ⟨bv_30, ov_26, none⟩ ∧
                      ∃ t_15 : Option Addr, (h6.rds bv_30 (ov_26 + 1) 1 = some [.pointer t_15]) ∧
                      ∃ bv_31 ov_27 : Nat, t_15 = some ⟨bv_31, ov_27, none⟩ ∧
                      ∃ t_16 : Int, (h6.rds bv_31 (ov_27 + 1) 1 = some [.int .i64 t_16]) ∧
                      ∃ bv_32 ov_28 : Nat, sv = some ⟨bv_32, ov_28, none⟩ ∧
                      ∃ t_17 : Option Addr, (h6.rds bv_32 (ov_28 + 1) 1 = some [.pointer t_17]) ∧
                      ∃ bv_33 ov_29 : Nat, t_17 = some ⟨bv_33, ov_29, none⟩ ∧
                      ∃ t_18 : Option Addr, (h6.rds bv_33 (ov_29 + 2) 1 = some [.pointer t_18]) ∧
                      CallH Tryz.prog id_tree_Tree_Root [.pointer t_18] (fun v_9 h26 =>
                        ∃ t_19 : List Int, t_19.length = 32 ∧ v_9 = .agg ((t_19.map (Value.int .u8) ++ [])).toArray ∧
                        (h26.rds bv_31 (ov_27 + 1) 1 = some [.int .i64 t_16]) ∧
                        (h26.rds bv_30 (ov_26 + 1) 1 = some [.pointer t_15]) ∧
                        (h26.rds bv_29 ov_25 1 = some [.int .i64 t_14]) ∧
                        (h26.rds bv_28 (ov_24 + 1) 1 = some [.pointer t_13]) ∧
                        appH T_api_Msg 107 216 [.int .u8 (0 : Int), .int .i64 (0 : Int), .int .i64 (0 : Int), .int .i64 (0 : Int), .int .i64 (0 : Int), .int .i64 (0 : Int), .slice none 0 0, .int .i64 (0 : Int), .int .u8 (0 : Int), .int .u8 (0 : Int), .int .u8 (0 : Int), .int .u8 (0 : Int), .int .u8 (0 : Int), .int .u8 (0 : Int), .int .u8 (0 : Int), .int .u8 (0 : Int), .int .u8 (0 : Int), .int .u8 (0 : Int), .int .u8 (0 : Int), .int .u8 (0 : Int), .int .u8 (0 : Int), .int .u8 (0 : Int), .int .u8 (0 : Int), .int .u8 (0 : Int), .int .u8 (0 : Int), .int .u8 (0 : Int), .int .u8 (0 : Int), .int .u8 (0 : Int), .int .u8 (0 : Int), .int .u8 (0 : Int), .int .u8 (0 : Int), .int .u8 (0 : Int), .int .u8 (0 : Int), .int .u8 (0 : Int), .int .u8 (0 : Int), .int .u8 (0 : Int), .int .u8 (0 : Int), .int .u8 (0 : Int), .int .u8 (0 : Int), .int .u8 (0 : Int), .int .i64 (0 : Int), .int .i64 (0 : Int), .int .u8 (0 : Int), .int .u8 (0 : Int), .int .u8 (0 : Int), .int .u8 (0 : Int), .int .u8 (0 : Int), .int .u8 (0 : Int), .int .u8 (0 : Int), .int .u8 (0 : Int), .int .u8 (0 : Int), .int .u8 (0 : Int), .int .u8 (0 : Int), .int .u8 (0 : Int), .int .u8 (0 : Int), .int .u8 (0 : Int), .int .u8 (0 : Int), .int .u8 (0 : Int), .int .u8 (0 : Int), .int .u8 (0 : Int), .int .u8 (0 : Int), .int .u8 (0 : Int), .int .u8 (0 : Int), .int .u8 (0 : Int), .int .u8 (0 : Int), .int .u8 (0 : Int), .int .u8 (0 : Int), .int .u8 (0 : Int), .int .u8 (0 : Int), .int .u8 (0 : Int), .int .u8 (0 : Int), .int .u8 (0 : Int), .int .u8 (0 : Int), .int .u8 (0 : Int), .int .u8 (0 : Int), .int .u8 (0 : Int), .int .u8 (0 : Int), .int .u8 (0 : Int), .int .u8 (0 : Int), .int .u8 (0 : Int), .int .u8 (0 : Int), .int .u8 (0 : Int), .int .u8 (0 : Int), .int .u8 (0 : Int), .int .u8 (0 : Int), .int .u8 (0 : Int), .int .u8 (0 : Int), .int .u8 (0 : Int), .int .u8 (0 : Int), .int .u8 (0 : Int), .int .u8 (0 : Int), .int .u8 (0 : Int), .int .u8 (0 : Int), .int .u8 (0 : Int), .int .u8 (0 : Int), .int .u8 (0 : Int), .int .u8 (0 : Int), .int .u8 (0 : Int), .int .u8 (0 : Int), .int .u8 (0 : Int), .int .u8 (0 : Int), .int .u8 (0 : Int), .int .u8 (0 : Int), .int .u8 (0 : Int), .int .u8 (0 : Int), .int .u8 (0 : Int), .slice none 0 0] (some ⟨bv, 0, none⟩) 1 1 1 (.int .u8 (4 : Int) :: (.int .i64 v0 :: (.int .i64 t_14 :: (.int .i64 t_16 :: (.int .i64 (0 : Int) :: (.int .i64 (0 : Int) :: (.slice none 0 0 :: (.int .i64 (0 : Int) :: (t_19.map (Value.int .u8) ++ (.int .i64 (0 : Int) :: (.int .i64 (0 : Int) :: ((List.replicate 32 0).map (Value.int .u8) ++ ((List.replicate 32 0).map (Value.int .u8) ++ ([.slice none 0 0] : List Value)))))))))))))) (fun tA_11 tN_11 tC_11 h27 =>
                          K (.slice tA_11 tN_11 tC_11) h27) h26) h6)))) h1))))))
set_option maxRecDepth 100000 in
theorem F_ship_Ship_Tick_eq {sv : Option Addr} {v0 : Int} {v1 : Int} {v2 : Int} {v3A : Option Addr} {v3N v3C : Nat} {v4 : Int} {v5A : Option Addr} {v5N v5C : Nat} {K : Value → PH → Prop} {h : PH} : @Eq Prop (F_ship_Ship_Tick sv v0 v1 v2 v3A v3N v3C v4 v5A v5N v5C K h) (denF Tryz.prog Tryz.f37 ⟨[3, 162], [], [], [(38, ⟨[], [], []⟩)]⟩ [.v (.pointer sv), .agg [.one (.int .i64 v0), .one (.int .i64 v1), .one (.int .i64 v2), .one (.slice v3A v3N v3C), .one (.int .i64 v4), .one (.slice v5A v5N v5C)]] K h) := by
  kernel_rfl
theorem F_ship_Ship_Tick_ok {sv : Option Addr} {v0 : Int} {v1 : Int} {v2 : Int} {v3A : Option Addr} {v3N v3C : Nat} {v4 : Int} {v5A : Option Addr} {v5N v5C : Nat}  {K : Value → PH → Prop} {h : PH} (hh : F_ship_Ship_Tick sv v0 v1 v2 v3A v3N v3C v4 v5A v5N v5C K h) : CallH Tryz.prog id_ship_Ship_Tick [.pointer sv, .agg #[.int .i64 v0, .int .i64 v1, .int .i64 v2, .slice v3A v3N v3C, .int .i64 v4, .slice v5A v5N v5C]] K h :=
  denF_sound' Tryz.func37 (H := ⟨[3, 162], [], [], [(38, ⟨[], [], []⟩)]⟩) (xs := [.v (.pointer sv), .agg [.one (.int .i64 v0), .one (.int .i64 v1), .one (.int .i64 v2), .one (.slice v3A v3N v3C), .one (.int .i64 v4), .one (.slice v5A v5N v5C)]]) (by kernel_rfl) (⟨rfl, ⟨rfl, rfl, rfl, rfl, rfl, rfl, trivial⟩, trivial⟩) (den_of F_ship_Ship_Tick_eq hh)

/- (*twinlock/ship.Ship).Ask -/
def F_ship_Ship_Ask (sv : Option Addr) (m0 : Int) (_ : Int) (m2 : Int) (_ : Int) (_ : Int) (_ : Int) (_ : Option Addr) (_ _ : Nat) (_ : Int) (_ : List Int) (m9 : Int) (m10 : Int) (_ : List Int) (_ : List Int) (_ : Option Addr) (_ _ : Nat) (epoch : Int) (K : Value → PH → Prop) (h : PH) : Prop :=
  ∃ bv ov : Nat, ((Option.isNone sv) = false → sv = some ⟨bv, ov, none⟩) ∧
  ∃ t : Option Addr, (((Option.isNone sv) = false → h.rds bv (ov + 1) 1 = some [.pointer t])) ∧
  ∃ bv_1 ov_1 : Nat, ((((Option.isNone sv) || (Option.isNone t)) || (m0 != (5 : Int))) = false → sv = some ⟨bv_1, ov_1, none⟩) ∧
  ∃ t_1 : Option Addr, (((((Option.isNone sv) || (Option.isNone t)) || (m0 != (5 : Int))) = false → h.rds bv_1 (ov_1 + 1) 1 = some [.pointer t_1])) ∧
  ∃ bv_2 ov_2 : Nat, ((((Option.isNone sv) || (Option.isNone t)) || (m0 != (5 : Int))) = false → t_1 = some ⟨bv_2, ov_2, none⟩) ∧
  ∃ t_2 : Int, (((((Option.isNone sv) || (Option.isNone t)) || (m0 != (5 : Int))) = false → h.rds bv_2 ov_2 1 = some [.int .i64 t_2])) ∧
  ((((((Option.isNone sv) || (Option.isNone t)) || (m0 != (5 : Int))) || (m2 != t_2)) = true →
      K (.tuple #[.agg ((.int .u8 (0 : Int) :: (.int .i64 (0 : Int) :: (.int .i64 (0 : Int) :: (.int .i64 (0 : Int) :: (.int .i64 (0 : Int) :: (.int .i64 (0 : Int) :: (.slice none 0 0 :: (.int .i64 (0 : Int) :: ((List.replicate 32 0).map (Value.int .u8) ++ (.int .i64 (0 : Int) :: (.int .i64 (0 : Int) :: ((List.replicate 32 0).map (Value.int .u8) ++ ((List.replicate 32 0).map (Value.int .u8) ++ ([.slice none 0 0] : List Value))))))))))))))).toArray, .bool false]) h) ∧
    (((((Option.isNone sv) || (Option.isNone t)) || (m0 != (5 : Int))) || (m2 != t_2)) = false →
      JoinP (T := Int × Int × Int × Int × Int × Int × (Option Addr × Nat × Nat) × Int × List Int × Int × Int × List Int × List Int × (Option Addr × Nat × Nat) × Unit) (fun Jv =>
        ∃ bv_3 ov_3 : Nat, sv = some ⟨bv_3, ov_3, none⟩ ∧
        ∃ t_3 : Option Addr, (h.rds bv_3 (ov_3 + 1) 1 = some [.pointer t_3]) ∧
        ∃ bv_4 ov_4 : Nat, t_3 = some ⟨bv_4, ov_4, none⟩ ∧
        ∃ t_4 : Option Addr, (h.rds bv_4 (ov_4 + 2) 1 = some [.pointer t_4]) ∧
        (CallH Tryz.prog id_tree_Tree_Node [.pointer t_4, .int .i64 m9, .int .i64 m10] (fun v h2 =>
            ∃ t0 : List Int, t0.length = 32 ∧ ∃ t1 : Bool, v = .tuple #[.agg ((t0.map (Value.int .u8) ++ [])).toArray, .bool t1] ∧
            (((!t1) = true →
                K (.tuple #[.agg ((.int .u8 (0 : Int) :: (.int .i64 (0 : Int) :: (.int .i64 (0 : Int) :: (.int .i64 (0 : Int) :: (.int .i64 (0 : Int) :: (.int .i64 (0 : Int) :: (.slice none 0 0 :: (.int .i64 (0 : Int) :: ((List.replicate 32 0).map (Value.int .u8) ++ (.int .i64 (0 : Int) :: (.int .i64 (0 : Int) :: ((List.replicate 32 0).map (Value.int .u8) ++ ((List.replicate 32 0).map (Value.int .u8) ++ ([.slice none 0 0] : List Value))))))))))))))).toArray, .bool false]) h2) ∧
              ((!t1) = false →
                Jv ((0 : Int), (0 : Int), (0 : Int), (0 : Int), (0 : Int), (0 : Int), (none, 0, 0), (0 : Int), (List.replicate 32 0), (0 : Int), (0 : Int), (List.replicate 32 0), (List.replicate 32 0), (none, 0, 0), ()) h2))) h) ∧
        (CallH Tryz.prog id_tree_Tree_Node [.pointer t_4, .int .i64 m9, .int .i64 m10] (fun v_1 h3 =>
            ∃ t0_1 : List Int, t0_1.length = 32 ∧ ∃ t1_1 : Bool, v_1 = .tuple #[.agg ((t0_1.map (Value.int .u8) ++ [])).toArray, .bool t1_1] ∧
            (((!t1_1) = true →
                K (.tuple #[.agg ((.int .u8 (0 : Int) :: (.int .i64 (0 : Int) :: (.int .i64 (0 : Int) :: (.int .i64 (0 : Int) :: (.int .i64 (0 : Int) :: (.int .i64 (0 : Int) :: (.slice none 0 0 :: (.int .i64 (0 : Int) :: ((List.replicate 32 0).map (Value.int .u8) ++ (.int .i64 (0 : Int) :: (.int .i64 (0 : Int) :: ((List.replicate 32 0).map (Value.int .u8) ++ ((List.replicate 32 0).map (Value.int .u8) ++ ([.slice none 0 0] : List Value))))))))))))))).toArray, .bool false]) h3) ∧
              ((!t1_1) = false →
                Jv ((0 : Int), (0 : Int), (0 : Int), (0 : Int), (0 : Int), (0 : Int), (none, 0, 0), (0 : Int), (List.replicate 32 0), (0 : Int), (0 : Int), (List.replicate 32 0), (List.replicate 32 0), (none, 0, 0), ()) h3))) h))
      (fun _ h1 =>
        (((m9 == (4 : Int)) = true →
            ∃ bv_5 ov_5 : Nat, sv = some ⟨bv_5, ov_5, none⟩ ∧
            ∃ t_5 : Option Addr, (h1.rds bv_5 (ov_5 + 1) 1 = some [.pointer t_5]) ∧
            ∃ bv_6 ov_6 : Nat, t_5 = some ⟨bv_6, ov_6, none⟩ ∧
            ∃ t_6 : Option Addr, (h1.rds bv_6 (ov_6 + 2) 1 = some [.pointer t_6]) ∧
            CallH Tryz.prog id_tree_Tree_Pairs [.pointer t_6, .int .i64 m10] (fun v_2 h4 =>
              ∃ (tA : Option Addr) (tN tC : Nat), v_2 = .slice tA tN tC ∧
              K (.tuple #[.agg ((.int .u8 (7 : Int) :: (.int .i64 epoch :: (.int .i64 m2 :: (.int .i64 (0 : Int) :: (.int .i64 (0 : Int) :: (.int .i64 (0 : Int) :: (.slice none 0 0 :: (.int .i64 (0 : Int) :: ((List.replicate 32 0).map (Value.int .u8) ++ (.int .i64 (0 : Int) :: (.int .i64 m10 :: ((List.replicate 32 0).map (Value.int .u8) ++ ((List.replicate 32 0).map (Value.int .u8) ++ ([.slice tA tN tC] : List Value))))))))))))))).toArray, .bool true]) h4) h1) ∧
          ((m9 == (4 : Int)) = false →
            ∃ bv_7 ov_7 : Nat, sv = some ⟨bv_7, ov_7, none⟩ ∧
            ∃ t_7 : Option Addr, (h1.rds bv_7 (ov_7 + 1) 1 = some [.pointer t_7]) ∧
            ∃ bv_8 ov_8 : Nat, t_7 = some ⟨bv_8, ov_8, none⟩ ∧
            ∃ t_8 : Option Addr, (h1.rds bv_8 (ov_8 + 2) 1 = some [.pointer t_8]) ∧
            (CallH Tryz.prog id_tree_Tree_Node [.pointer t_8, .int .i64 (IntKind.wrap .i64 (m9 + (1 : Int))), .int .i64 (IntKind.wrap .i64 ((2 : Int) * m10))] (fun v_3 h5 =>
                ∃ t0_2 : List Int, t0_2.length = 32 ∧ ∃ t1_2 : Bool, v_3 = .tuple #[.agg ((t0_2.map (Value.int .u8) ++ [])).toArray, .bool t1_2] ∧
                ∃ bv_9 ov_9 : Nat, sv = some ⟨bv_9, ov_9, none⟩ ∧
                ∃ t_9 : Option Addr, (h5.rds bv_9 (ov_9 + 1) 1 = some [.pointer t_9]) ∧
                ∃ bv_10 ov_10 : Nat, t_9 = some ⟨bv_10, ov_10, none⟩ ∧
                ∃ t_10 : Option Addr, (h5.rds bv_10 (ov_10 + 2) 1 = some [.pointer t_10]) ∧
                (CallH Tryz.prog id_tree_Tree_Node [.pointer t_10, .int .i64 (IntKind.wrap .i64 (m9 + (1 : Int))), .int .i64 (IntKind.wrap .i64 ((IntKind.wrap .i64 ((2 : Int) * m10)) + (1 : Int)))] (fun v_4 h6 =>
                    ∃ t0_3 : List Int, t0_3.length = 32 ∧ ∃ t1_3 : Bool, v_4 = .tuple #[.agg ((t0_3.map (Value.int .u8) ++ [])).toArray, .bool t1_3] ∧
                    K (.tuple #[.agg ((.int .u8 (6 : Int) :: (.int .i64 epoch :: (.int .i64 m2 :: (.int .i64 (0 : Int) :: (.int .i64 (0 : Int) :: (.int .i64 (0 : Int) :: (.slice none 0 0 :: (.int .i64 (0 : Int) :: ((List.replicate 32 0).map (Value.int .u8) ++ (.int .i64 m9 :: (.int .i64 m10 :: (t0_2.map (Value.int .u8) ++ (t0_3.map (Value.int .u8) ++ ([.slice none 0 0] : List Value))))))))))))))).toArray, .bool true]) h6) h5) ∧
                (CallH Tryz.prog id_tree_Tree_Node [.pointer t_10, .int .i64 (IntKind.wrap .i64 (m9 + (1 : Int))), .int .i64 (IntKind.wrap .i64 ((IntKind.wrap .i64 ((2 : Int) * m10)) + (1 : Int)))] (fun v_5 h7 =>
                    ∃ t0_4 : List Int, t0_4.length = 32 ∧ ∃ t1_4 : Bool, v_5 = .tuple #[.agg ((t0_4.map (Value.int .u8) ++ [])).toArray, .bool t1_4] ∧
                    K (.tuple #[.agg ((.int .u8 (6 : Int) :: (.int .i64 epoch :: (.int .i64 m2 :: (.int .i64 (0 : Int) :: (.int .i64 (0 : Int) :: (.int .i64 (0 : Int) :: (.slice none 0 0 :: (.int .i64 (0 : Int) :: ((List.replicate 32 0).map (Value.int .u8) ++ (.int .i64 m9 :: (.int .i64 m10 :: (t0_2.map (Value.int .u8) ++ (t0_4.map (Value.int .u8) ++ ([.slice none 0 0] : List Value))))))))))))))).toArray, .bool true]) h7) h5)) h1) ∧
            (CallH Tryz.prog id_tree_Tree_Node [.pointer t_8, .int .i64 (IntKind.wrap .i64 (m9 + (1 : Int))), .int .i64 (IntKind.wrap .i64 ((2 : Int) * m10))] (fun v_6 h8 =>
                ∃ t0_5 : List Int, t0_5.length = 32 ∧ ∃ t1_5 : Bool, v_6 = .tuple #[.agg ((t0_5.map (Value.int .u8) ++ [])).toArray, .bool t1_5] ∧
                ∃ bv_11 ov_11 : Nat, sv = some ⟨bv_11, ov_11, none⟩ ∧
                ∃ t_11 : Option Addr, (h8.rds bv_11 (ov_11 + 1) 1 = some [.pointer t_11]) ∧
                ∃ bv_12 ov_12 : Nat, t_11 = some ⟨bv_12, ov_12, none⟩ ∧
                ∃ t_12 : Option Addr, (h8.rds bv_12 (ov_12 + 2) 1 = some [.pointer t_12]) ∧
                (CallH Tryz.prog id_tree_Tree_Node [.pointer t_12, .int .i64 (IntKind.wrap .i64 (m9 + (1 : Int))), .int .i64 (IntKind.wrap .i64 ((IntKind.wrap .i64 ((2 : Int) * m10)) + (1 : Int)))] (fun v_7 h9 =>
                    ∃ t0_6 : List Int, t0_6.length = 32 ∧ ∃ t1_6 : Bool, v_7 = .tuple #[.agg ((t0_6.map (Value.int .u8) ++ [])).toArray, .bool t1_6] ∧
                    K (.tuple #[.agg ((.int .u8 (6 : Int) :: (.int .i64 epoch :: (.int .i64 m2 :: (.int .i64 (0 : Int) :: (.int .i64 (0 : Int) :: (.int .i64 (0 : Int) :: (.slice none 0 0 :: (.int .i64 (0 : Int) :: ((List.replicate 32 0).map (Value.int .u8) ++ (.int .i64 m9 :: (.int .i64 m10 :: (t0_5.map (Value.int .u8) ++ (t0_6.map (Value.int .u8) ++ ([.slice none 0 0] : List Value))))))))))))))).toArray, .bool true]) h9) h8) ∧
                (CallH Tryz.prog id_tree_Tree_Node [.pointer t_12, .int .i64 (IntKind.wrap .i64 (m9 + (1 : Int))), .int .i64 (IntKind.wrap .i64 ((IntKind.wrap .i64 ((2 : Int) * m10)) + (1 : Int)))] (fun v_8 h10 =>
                    ∃ t0_7 : List Int, t0_7.length = 32 ∧ ∃ t1_7 : Bool, v_8 = .tuple #[.agg ((t0_7.map (Value.int .u8) ++ [])).toArray, .bool t1_7] ∧
                    K (.tuple #[.agg ((.int .u8 (6 : Int) :: (.int .i64 epoch :: (.int .i64 m2 :: (.int .i64 (0 : Int) :: (.int .i64 (0 : Int) :: (.int .i64 (0 : Int) :: (.slice none 0 0 :: (.int .i64 (0 : Int) :: ((List.replicate 32 0).map (Value.int .u8) ++ (.int .i64 m9 :: (.int .i64 m10 :: (t0_5.map (Value.int .u8) ++ (t0_7.map (Value.int .u8) ++ ([.slice none 0 0] : List Value))))))))))))))).toArray, .bool true]) h10) h8)) h1))))))
theorem F_ship_Ship_Ask_eq {sv : Option Addr} {m0 : Int} {m1 : Int} {m2 : Int} {m3 : Int} {m4 : Int} {m5 : Int} {m6A : Option Addr} {m6N m6C : Nat} {m7 : Int} {m8 : List Int} {m9 : Int} {m10 : Int} {m11 : List Int} {m12 : List Int} {m13A : Option Addr} {m13N m13C : Nat} {epoch : Int} {K : Value → PH → Prop} {h : PH} : @Eq Prop (F_ship_Ship_Ask sv m0 m1 m2 m3 m4 m5 m6A m6N m6C m7 m8 m9 m10 m11 m12 m13A m13N m13C epoch K h) (denF Tryz.prog Tryz.f41 ⟨[4, 6, 8, 10, 12], [(3, .one 0 (.one 1 (.one 2 (.one 3 (.one 4 (.one 5 (.one 6 (.one 7 (.one 8 (.one 9 (.one 10 (.alt 11 (.of [12, 13, 14, 15, 16, 17]) (.of [15, 11, 12, 13, 14, 16, 17]))))))))))))), (8, .one 0 (.one 1 (.one 2 (.one 3 (.one 4 (.one 5 (.one 6 (.one 7 (.one 8 (.one 9 (.one 10 (.one 11 (.one 12 (.alt 13 (.of [14, 15, 16, 17, 18, 19]) (.of [17, 13, 14, 15, 16, 18, 19]))))))))))))))), (9, .one 0 (.one 1 (.one 2 (.one 3 (.one 4 (.one 5 (.one 6 (.one 7 (.one 8 (.one 9 (.one 10 (.one 11 (.one 12 (.one 13 (.alt 14 (.of [15, 16, 17, 18, 19, 20]) (.of [18, 14, 15, 16, 17, 19, 20]))))))))))))))))], [], [(14, ⟨[], [], [(1, [.one (.int .u8), .one (.int .i64), .one (.int .i64), .one (.int .i64), .one (.int .i64), .one (.int .i64), .one (.slice), .one (.int .i64), .ints .u8 32, .one (.int .i64), .one (.int .i64), .ints .u8 32, .ints .u8 32, .one (.slice)])]⟩)]⟩ [.v (.pointer sv), .agg [.one (.int .u8 m0), .one (.int .i64 m1), .one (.int .i64 m2), .one (.int .i64 m3), .one (.int .i64 m4), .one (.int .i64 m5), .one (.slice m6A m6N m6C), .one (.int .i64 m7), .ints .u8 32 m8, .one (.int .i64 m9), .one (.int .i64 m10), .ints .u8 32 m11, .ints .u8 32 m12, .one (.slice m13A m13N m13C)], .v (.int .i64 epoch)] K h) := by
  kernel_rfl
theorem F_ship_Ship_Ask_ok {sv : Option Addr} {m0 : Int} {m1 : Int} {m2 : Int} {m3 : Int} {m4 : Int} {m5 : Int} {m6A : Option Addr} {m6N m6C : Nat} {m7 : Int} {m8 : List Int} {m9 : Int} {m10 : Int} {m11 : List Int} {m12 : List Int} {m13A : Option Addr} {m13N m13C : Nat} {epoch : Int} (hk0 : m8.length = 32) (hk1 : m11.length = 32) (hk2 : m12.length = 32) {K : Value → PH → Prop} {h : PH} (hh : F_ship_Ship_Ask sv m0 m1 m2 m3 m4 m5 m6A m6N m6C m7 m8 m9 m10 m11 m12 m13A m13N m13C epoch K h) : CallH Tryz.prog id_ship_Ship_Ask [.pointer sv, .agg ((.int .u8 m0 :: (.int .i64 m1 :: (.int .i64 m2 :: (.int .i64 m3 :: (.int .i64 m4 :: (.int .i64 m5 :: (.slice m6A m6N m6C :: (.int .i64 m7 :: (m8.map (Value.int .u8) ++ (.int .i64 m9 :: (.int .i64 m10 :: (m11.map (Value.int .u8) ++ (m12.map (Value.int .u8) ++ ([.slice m13A m13N m13C] : List Value))))))))))))))).toArray, .int .i64 epoch] K h :=
  denF_sound' Tryz.func41 (H := ⟨[4, 6, 8, 10, 12], [(3, .one 0 (.one 1 (.one 2 (.one 3 (.one 4 (.one 5 (.one 6 (.one 7 (.one 8 (.one 9 (.one 10 (.alt 11 (.of [12, 13, 14, 15, 16, 17]) (.of [15, 11, 12, 13, 14, 16, 17]))))))))))))), (8, .one 0 (.one 1 (.one 2 (.one 3 (.one 4 (.one 5 (.one 6 (.one 7 (.one 8 (.one 9 (.one 10 (.one 11 (.one 12 (.alt 13 (.of [14, 15, 16, 17, 18, 19]) (.of [17, 13, 14, 15, 16, 18, 19]))))))))))))))), (9, .one 0 (.one 1 (.one 2 (.one 3 (.one 4 (.one 5 (.one 6 (.one 7 (.one 8 (.one 9 (.one 10 (.one 11 (.one 12 (.one 13 (.alt 14 (.of [15, 16, 17, 18, 19, 20]) (.of [18, 14, 15, 16, 17, 19, 20]))))))))))))))))], [], [(14, ⟨[], [], [(1, [.one (.int .u8), .one (.int .i64), .one (.int .i64), .one (.int .i64), .one (.int .i64), .one (.int .i64), .one (.slice), .one (.int .i64), .ints .u8 32, .one (.int .i64), .one (.int .i64), .ints .u8 32, .ints .u8 32, .one (.slice)])]⟩)]⟩) (xs := [.v (.pointer sv), .agg [.one (.int .u8 m0), .one (.int .i64 m1), .one (.int .i64 m2), .one (.int .i64 m3), .one (.int .i64 m4), .one (.int .i64 m5), .one (.slice m6A m6N m6C), .one (.int .i64 m7), .ints .u8 32 m8, .one (.int .i64 m9), .one (.int .i64 m10), .ints .u8 32 m11, .ints .u8 32 m12, .one (.slice m13A m13N m13C)], .v (.int .i64 epoch)]) (by kernel_rfl) (⟨rfl, ⟨rfl, rfl, rfl, rfl, rfl, rfl, rfl, rfl, hk0, rfl, rfl, hk1, hk2, rfl, trivial⟩, rfl, trivial⟩) (den_of F_ship_Ship_Ask_eq hh)

/- (*twinlock/ship.Ship).Texts -/
def F_ship_Ship_Texts (sv : Option Addr) (K : Value → PH → Prop) (h : PH) : Prop :=
  (((Option.isNone sv) = true →
      K (.slice none 0 0) h) ∧
    ((Option.isNone sv) = false →
      ∃ bv ov : Nat, sv = some ⟨bv, ov, none⟩ ∧
      ∃ (tA : Option Addr) (tN tC : Nat), (h.rds bv (ov + 2) 1 = some [.slice tA tN tC]) ∧
      CallH Tryz.prog id_slices_Clone_string_string [.slice tA tN tC] (fun v h1 =>
        ∃ (tA_1 : Option Addr) (tN_1 tC_1 : Nat), v = .slice tA_1 tN_1 tC_1 ∧
        K (.slice tA_1 tN_1 tC_1) h1) h))
theorem F_ship_Ship_Texts_eq {sv : Option Addr} {K : Value → PH → Prop} {h : PH} : @Eq Prop (F_ship_Ship_Texts sv K h) (denF Tryz.prog Tryz.f48 ⟨[], [], [], []⟩ [.v (.pointer sv)] K h) := by
  kernel_rfl
theorem F_ship_Ship_Texts_ok {sv : Option Addr}  {K : Value → PH → Prop} {h : PH} (hh : F_ship_Ship_Texts sv K h) : CallH Tryz.prog id_ship_Ship_Texts [.pointer sv] K h :=
  denF_sound' Tryz.func48 (H := ⟨[], [], [], []⟩) (xs := [.v (.pointer sv)]) (by kernel_rfl) (⟨rfl, trivial⟩) (den_of F_ship_Ship_Texts_eq hh)

/- twinlock/twinlocklaw12.GreatOps -/
def F_law12_GreatOps (lA : Option Addr) (lN _ : Nat) (K : Value → PH → Prop) (h : PH) : Prop :=
  (((decide (((lN : Nat) : Int) > (100 : Int))) = true →
      K (.bool true) h) ∧
    ((decide (((lN : Nat) : Int) > (100 : Int))) = false →
      LoopP (T := Int × Unit) (fun Jv st h1 =>
        (((decide (st.1 < ((lN : Nat) : Int))) = true →
            ∃ bv ov : Nat, (lA = some ⟨bv, ov, none⟩ ∧ 0 ≤ st.1 ∧ st.1 < (lN : Nat)) ∧
            ∃ t : ByteArray, (h1.rds bv ((ov + st.1.toNat * 3) + 1) 1 = some [.string t]) ∧
            ∃ bv_1 ov_1 : Nat, (((decide ((t.size : Int) > (1000 : Int))) = false → lA = some ⟨bv_1, ov_1, none⟩ ∧ 0 ≤ st.1 ∧ st.1 < (lN : Nat))) ∧
            ∃ t_1 : ByteArray, (((decide ((t.size : Int) > (1000 : Int))) = false → h1.rds bv_1 ((ov_1 + st.1.toNat * 3) + 2) 1 = some [.string t_1])) ∧
            ((((decide ((t.size : Int) > (1000 : Int))) || (decide ((t_1.size : Int) > (1000 : Int)))) = true →
                K (.bool true) h1) ∧
              (((decide ((t.size : Int) > (1000 : Int))) || (decide ((t_1.size : Int) > (1000 : Int)))) = false →
                Jv ((IntKind.wrap .i64 (st.1 + (1 : Int))), ()) h1))) ∧
          ((decide (st.1 < ((lN : Nat) : Int))) = false →
            K (.bool false) h1))) ((0 : Int), ()) h))
theorem F_law12_GreatOps_eq {lA : Option Addr} {lN lC : Nat} {K : Value → PH → Prop} {h : PH} : @Eq Prop (F_law12_GreatOps lA lN lC K h) (denF Tryz.prog Tryz.f106 ⟨[], [], [(0, ⟨[(3, .int .i64)], [], []⟩)], []⟩ [.v (.slice lA lN lC)] K h) := by
  kernel_rfl
theorem F_law12_GreatOps_ok {lA : Option Addr} {lN lC : Nat}  {K : Value → PH → Prop} {h : PH} (hh : F_law12_GreatOps lA lN lC K h) : CallH Tryz.prog id_law12_GreatOps [.slice lA lN lC] K h :=
  denF_sound' Tryz.func106 (H := ⟨[], [], [(0, ⟨[(3, .int .i64)], [], []⟩)], []⟩) (xs := [.v (.slice lA lN lC)]) (by kernel_rfl) (⟨rfl, trivial⟩) (den_of F_law12_GreatOps_eq hh)

/- (*twinlock/ship.Ship).Copy -/
def F_ship_Ship_Copy (sv : Option Addr) (K : Value → PH → Prop) (h : PH) : Prop :=
  ∃ bv ov : Nat, ((Option.isNone sv) = false → sv = some ⟨bv, ov, none⟩) ∧
  ∃ t : Option Addr, (((Option.isNone sv) = false → h.rds bv (ov + 1) 1 = some [.pointer t])) ∧
  ((((Option.isNone sv) || (Option.isNone t)) = true →
      K (.tuple #[.int .i64 (0 : Int), .agg (((List.replicate 32 0).map (Value.int .u8) ++ [])).toArray, .bool false]) h) ∧
    (((Option.isNone sv) || (Option.isNone t)) = false →
      ∃ bv_1 ov_1 : Nat, sv = some ⟨bv_1, ov_1, none⟩ ∧
      ∃ t_1 : Option Addr, (h.rds bv_1 (ov_1 + 1) 1 = some [.pointer t_1]) ∧
      ∃ bv_2 ov_2 : Nat, t_1 = some ⟨bv_2, ov_2, none⟩ ∧
      ∃ atv : Int, (h.rds bv_2 ov_2 1 = some [.int .i64 atv]) ∧
      ∃ bv_3 ov_3 : Nat, sv = some ⟨bv_3, ov_3, none⟩ ∧
      ∃ t_2 : Option Addr, (h.rds bv_3 (ov_3 + 1) 1 = some [.pointer t_2]) ∧
      ∃ bv_4 ov_4 : Nat, t_2 = some ⟨bv_4, ov_4, none⟩ ∧
      ∃ t_3 : Option Addr, (h.rds bv_4 (ov_4 + 2) 1 = some [.pointer t_3]) ∧
      CallH Tryz.prog id_tree_Tree_Root [.pointer t_3] (fun v h1 =>
        ∃ root : List Int, root.length = 32 ∧ v = .agg ((root.map (Value.int .u8) ++ [])).toArray ∧
        (h1.rds bv_2 ov_2 1 = some [.int .i64 atv]) ∧
        (h1.rds bv_1 (ov_1 + 1) 1 = some [.pointer t_1]) ∧
        K (.tuple #[.int .i64 atv, .agg ((root.map (Value.int .u8) ++ [])).toArray, .bool true]) h1) h))
theorem F_ship_Ship_Copy_eq {sv : Option Addr} {K : Value → PH → Prop} {h : PH} : @Eq Prop (F_ship_Ship_Copy sv K h) (denF Tryz.prog Tryz.f108 ⟨[3], [], [], []⟩ [.v (.pointer sv)] K h) := by
  kernel_rfl
theorem F_ship_Ship_Copy_ok {sv : Option Addr}  {K : Value → PH → Prop} {h : PH} (hh : F_ship_Ship_Copy sv K h) : CallH Tryz.prog id_ship_Ship_Copy [.pointer sv] K h :=
  denF_sound' Tryz.func108 (H := ⟨[3], [], [], []⟩) (xs := [.v (.pointer sv)]) (by kernel_rfl) (⟨rfl, trivial⟩) (den_of F_ship_Ship_Copy_eq hh)

/- twinlock/ship.next -/
def F_ship_next (_ : Int) (v1 : Int) (v2 : Int) (v3A : Option Addr) (v3N _ : Nat) (v4 : Int) (_ : Option Addr) (_ _ : Nat) (p0 : Int) (p1 : Int) (K : Value → PH → Prop) (h : PH) : Prop :=
  ((((p0 == v1) && ((p1 == v2) && true)) = true →
      K (.tuple #[.int .i64 ((v3N : Nat) : Int), .bool true]) h) ∧
    (((p0 == v1) && ((p1 == v2) && true)) = false →
      LoopP (T := Int × Unit) (fun Jv st h1 =>
        (((decide (st.1 < ((v3N : Nat) : Int))) = true →
            ∃ bv ov : Nat, (v3A = some ⟨bv, ov, none⟩ ∧ 0 ≤ st.1 ∧ st.1 < (v3N : Nat)) ∧
            ∃ b0 : Int, ∃ b1 : Int, ∃ (b2A : Option Addr) (b2N b2C : Nat), (h1.rds bv (ov + st.1.toNat * 3) 3 = some [.int .i64 b0, .int .i64 b1, .slice b2A b2N b2C]) ∧
            (((decide (st.1 > (0 : Int))) = true →
                ∃ bv_1 ov_1 : Nat, (v3A = some ⟨bv_1, ov_1, none⟩ ∧ 0 ≤ (IntKind.wrap .i64 (st.1 - (1 : Int))) ∧ (IntKind.wrap .i64 (st.1 - (1 : Int))) < (v3N : Nat)) ∧
                ∃ ahead : Int, (h1.rds bv_1 ((ov_1 + (IntKind.wrap .i64 (st.1 - (1 : Int))).toNat * 3) + 1) 1 = some [.int .i64 ahead]) ∧
                ((((p0 == (IntKind.wrap .i64 (b0 - (1 : Int)))) && ((p1 == ahead) && true)) = true →
                    K (.tuple #[.int .i64 st.1, .bool true]) h1) ∧
                  (((p0 == (IntKind.wrap .i64 (b0 - (1 : Int)))) && ((p1 == ahead) && true)) = false →
                    Jv ((IntKind.wrap .i64 (st.1 + (1 : Int))), ()) h1))) ∧
              ((decide (st.1 > (0 : Int))) = false →
                ((((p0 == (IntKind.wrap .i64 (b0 - (1 : Int)))) && ((p1 == v4) && true)) = true →
                    K (.tuple #[.int .i64 st.1, .bool true]) h1) ∧
                  (((p0 == (IntKind.wrap .i64 (b0 - (1 : Int)))) && ((p1 == v4) && true)) = false →
                    Jv ((IntKind.wrap .i64 (st.1 + (1 : Int))), ()) h1))))) ∧
          ((decide (st.1 < ((v3N : Nat) : Int))) = false →
            K (.tuple #[.int .i64 (0 : Int), .bool false]) h1))) ((0 : Int), ()) h))
theorem F_ship_next_eq {v0 : Int} {v1 : Int} {v2 : Int} {v3A : Option Addr} {v3N v3C : Nat} {v4 : Int} {v5A : Option Addr} {v5N v5C : Nat} {p0 : Int} {p1 : Int} {K : Value → PH → Prop} {h : PH} : @Eq Prop (F_ship_next v0 v1 v2 v3A v3N v3C v4 v5A v5N v5C p0 p1 K h) (denF Tryz.prog Tryz.f109 ⟨[2, 3, 7], [], [(0, ⟨[(22, .int .i64)], [], []⟩)], []⟩ [.agg [.one (.int .i64 v0), .one (.int .i64 v1), .one (.int .i64 v2), .one (.slice v3A v3N v3C), .one (.int .i64 v4), .one (.slice v5A v5N v5C)], .agg [.one (.int .i64 p0), .one (.int .i64 p1)]] K h) := by
  kernel_rfl
theorem F_ship_next_ok {v0 : Int} {v1 : Int} {v2 : Int} {v3A : Option Addr} {v3N v3C : Nat} {v4 : Int} {v5A : Option Addr} {v5N v5C : Nat} {p0 : Int} {p1 : Int}  {K : Value → PH → Prop} {h : PH} (hh : F_ship_next v0 v1 v2 v3A v3N v3C v4 v5A v5N v5C p0 p1 K h) : CallH Tryz.prog id_ship_next [.agg #[.int .i64 v0, .int .i64 v1, .int .i64 v2, .slice v3A v3N v3C, .int .i64 v4, .slice v5A v5N v5C], .agg #[.int .i64 p0, .int .i64 p1]] K h :=
  denF_sound' Tryz.func109 (H := ⟨[2, 3, 7], [], [(0, ⟨[(22, .int .i64)], [], []⟩)], []⟩) (xs := [.agg [.one (.int .i64 v0), .one (.int .i64 v1), .one (.int .i64 v2), .one (.slice v3A v3N v3C), .one (.int .i64 v4), .one (.slice v5A v5N v5C)], .agg [.one (.int .i64 p0), .one (.int .i64 p1)]]) (by kernel_rfl) (⟨⟨rfl, rfl, rfl, rfl, rfl, rfl, trivial⟩, ⟨rfl, rfl, trivial⟩, trivial⟩) (den_of F_ship_next_eq hh)

/- twinlock/ship.entries -/
def F_ship_entries (v0 : Int) (_ : Int) (_ : Int) (v3A : Option Addr) (v3N _ : Nat) (v4 : Int) (_ : Option Addr) (_ _ : Nat) (i : Int) (K : Value → PH → Prop) (h : PH) : Prop :=
  LoopP (T := (Option Addr × Nat × Nat) × Int × Unit) (fun Jv st h1 =>
    ((((decide (st.2.1 < ((v3N : Nat) : Int))) && (decide (((st.1.2.1 : Nat) : Int) < (4 : Int)))) = true →
        JoinP (T := Int × Unit) (fun Jv_1 =>
          (((decide (st.2.1 > (0 : Int))) = true →
              ∃ bv ov : Nat, (v3A = some ⟨bv, ov, none⟩ ∧ 0 ≤ (IntKind.wrap .i64 (st.2.1 - (1 : Int))) ∧ (IntKind.wrap .i64 (st.2.1 - (1 : Int))) < (v3N : Nat)) ∧
              ∃ prev : Int, (h1.rds bv ((ov + (IntKind.wrap .i64 (st.2.1 - (1 : Int))).toNat * 3) + 1) 1 = some [.int .i64 prev]) ∧
              Jv_1 (prev, ()) h1) ∧
            ((decide (st.2.1 > (0 : Int))) = false →
              Jv_1 (v4, ()) h1)))
        (fun st_1 h2 =>
          ∃ bv_1 ov_1 : Nat, (v3A = some ⟨bv_1, ov_1, none⟩ ∧ 0 ≤ st.2.1 ∧ st.2.1 < (v3N : Nat)) ∧
          ∃ b0 : Int, ∃ b1 : Int, ∃ (b2A : Option Addr) (b2N b2C : Nat), (h2.rds bv_1 (ov_1 + st.2.1.toNat * 3) 3 = some [.int .i64 b0, .int .i64 b1, .slice b2A b2N b2C]) ∧
          CallH Tryz.prog id_slices_Clone_api_Op_api_Op [.slice b2A b2N b2C] (fun v h3 =>
            ∃ (tA : Option Addr) (tN tC : Nat), v = .slice tA tN tC ∧
            appH T_api_Msg 107 216 [.int .u8 (0 : Int), .int .i64 (0 : Int), .int .i64 (0 : Int), .int .i64 (0 : Int), .int .i64 (0 : Int), .int .i64 (0 : Int), .slice none 0 0, .int .i64 (0 : Int), .int .u8 (0 : Int), .int .u8 (0 : Int), .int .u8 (0 : Int), .int .u8 (0 : Int), .int .u8 (0 : Int), .int .u8 (0 : Int), .int .u8 (0 : Int), .int .u8 (0 : Int), .int .u8 (0 : Int), .int .u8 (0 : Int), .int .u8 (0 : Int), .int .u8 (0 : Int), .int .u8 (0 : Int), .int .u8 (0 : Int), .int .u8 (0 : Int), .int .u8 (0 : Int), .int .u8 (0 : Int), .int .u8 (0 : Int), .int .u8 (0 : Int), .int .u8 (0 : Int), .int .u8 (0 : Int), .int .u8 (0 : Int), .int .u8 (0 : Int), .int .u8 (0 : Int), .int .u8 (0 : Int), .int .u8 (0 : Int), .int .u8 (0 : Int), .int .u8 (0 : Int), .int .u8 (0 : Int), .int .u8 (0 : Int), .int .u8 (0 : Int), .int .u8 (0 : Int), .int .i64 (0 : Int), .int .i64 (0 : Int), .int .u8 (0 : Int), .int .u8 (0 : Int), .int .u8 (0 : Int), .int .u8 (0 : Int), .int .u8 (0 : Int), .int .u8 (0 : Int), .int .u8 (0 : Int), .int .u8 (0 : Int), .int .u8 (0 : Int), .int .u8 (0 : Int), .int .u8 (0 : Int), .int .u8 (0 : Int), .int .u8 (0 : Int), .int .u8 (0 : Int), .int .u8 (0 : Int), .int .u8 (0 : Int), .int .u8 (0 : Int), .int .u8 (0 : Int), .int .u8 (0 : Int), .int .u8 (0 : Int), .int .u8 (0 : Int), .int .u8 (0 : Int), .int .u8 (0 : Int), .int .u8 (0 : Int), .int .u8 (0 : Int), .int .u8 (0 : Int), .int .u8 (0 : Int), .int .u8 (0 : Int), .int .u8 (0 : Int), .int .u8 (0 : Int), .int .u8 (0 : Int), .int .u8 (0 : Int), .int .u8 (0 : Int), .int .u8 (0 : Int), .int .u8 (0 : Int), .int .u8 (0 : Int), .int .u8 (0 : Int), .int .u8 (0 : Int), .int .u8 (0 : Int), .int .u8 (0 : Int), .int .u8 (0 : Int), .int .u8 (0 : Int), .int .u8 (0 : Int), .int .u8 (0 : Int), .int .u8 (0 : Int), .int .u8 (0 : Int), .int .u8 (0 : Int), .int .u8 (0 : Int), .int .u8 (0 : Int), .int .u8 (0 : Int), .int .u8 (0 : Int), .int .u8 (0 : Int), .int .u8 (0 : Int), .int .u8 (0 : Int), .int .u8 (0 : Int), .int .u8 (0 : Int), .int .u8 (0 : Int), .int .u8 (0 : Int), .int .u8 (0 : Int), .int .u8 (0 : Int), .int .u8 (0 : Int), .int .u8 (0 : Int), .int .u8 (0 : Int), .int .u8 (0 : Int), .slice none 0 0] st.1.1 st.1.2.1 st.1.2.2 1 (.int .u8 (2 : Int) :: (.int .i64 v0 :: (.int .i64 (0 : Int) :: (.int .i64 (0 : Int) :: (.int .i64 b0 :: (.int .i64 b1 :: (.slice tA tN tC :: (.int .i64 st_1.1 :: ((List.replicate 32 0).map (Value.int .u8) ++ (.int .i64 (0 : Int) :: (.int .i64 (0 : Int) :: ((List.replicate 32 0).map (Value.int .u8) ++ ((List.replicate 32 0).map (Value.int .u8) ++ ([.slice none 0 0] : List Value)))))))))))))) (fun outA outN outC h4 =>
              Jv ((outA, outN, outC), (IntKind.wrap .i64 (st.2.1 + (1 : Int))), ()) h4) h3) h2)) ∧
      (((decide (st.2.1 < ((v3N : Nat) : Int))) && (decide (((st.1.2.1 : Nat) : Int) < (4 : Int)))) = false →
        K (.slice st.1.1 st.1.2.1 st.1.2.2) h1))) ((none, 0, 0), i, ()) h
theorem F_ship_entries_eq {v0 : Int} {v1 : Int} {v2 : Int} {v3A : Option Addr} {v3N v3C : Nat} {v4 : Int} {v5A : Option Addr} {v5N v5C : Nat} {i : Int} {K : Value → PH → Prop} {h : PH} : @Eq Prop (F_ship_entries v0 v1 v2 v3A v3N v3C v4 v5A v5N v5C i K h) (denF Tryz.prog Tryz.f110 ⟨[2, 7, 46], [], [(0, ⟨[(5, .slice), (1, .int .i64)], [], []⟩)], [(16, ⟨[(6, .int .i64)], [], []⟩)]⟩ [.agg [.one (.int .i64 v0), .one (.int .i64 v1), .one (.int .i64 v2), .one (.slice v3A v3N v3C), .one (.int .i64 v4), .one (.slice v5A v5N v5C)], .v (.int .i64 i)] K h) := by
  kernel_rfl
theorem F_ship_entries_ok {v0 : Int} {v1 : Int} {v2 : Int} {v3A : Option Addr} {v3N v3C : Nat} {v4 : Int} {v5A : Option Addr} {v5N v5C : Nat} {i : Int}  {K : Value → PH → Prop} {h : PH} (hh : F_ship_entries v0 v1 v2 v3A v3N v3C v4 v5A v5N v5C i K h) : CallH Tryz.prog id_ship_entries [.agg #[.int .i64 v0, .int .i64 v1, .int .i64 v2, .slice v3A v3N v3C, .int .i64 v4, .slice v5A v5N v5C], .int .i64 i] K h :=
  denF_sound' Tryz.func110 (H := ⟨[2, 7, 46], [], [(0, ⟨[(5, .slice), (1, .int .i64)], [], []⟩)], [(16, ⟨[(6, .int .i64)], [], []⟩)]⟩) (xs := [.agg [.one (.int .i64 v0), .one (.int .i64 v1), .one (.int .i64 v2), .one (.slice v3A v3N v3C), .one (.int .i64 v4), .one (.slice v5A v5N v5C)], .v (.int .i64 i)]) (by kernel_rfl) (⟨⟨rfl, rfl, rfl, rfl, rfl, rfl, trivial⟩, rfl, trivial⟩) (den_of F_ship_entries_eq hh)

/- twinlock/ship.above -/
def F_ship_above (atv : Int) (than : Int) (K : Value → PH → Prop) (h : PH) : Prop :=
  K (.bool ((decide (than ≤ (9223372036854775743 : Int))) && (decide (atv > (IntKind.wrap .i64 (than + (64 : Int))))))) h
theorem F_ship_above_eq {atv : Int} {than : Int} {K : Value → PH → Prop} {h : PH} : @Eq Prop (F_ship_above atv than K h) (denF Tryz.prog Tryz.f111 ⟨[], [], [], []⟩ [.v (.int .i64 atv), .v (.int .i64 than)] K h) := by
  kernel_rfl
theorem F_ship_above_ok {atv : Int} {than : Int}  {K : Value → PH → Prop} {h : PH} (hh : F_ship_above atv than K h) : CallH Tryz.prog id_ship_above [.int .i64 atv, .int .i64 than] K h :=
  denF_sound' Tryz.func111 (H := ⟨[], [], [], []⟩) (xs := [.v (.int .i64 atv), .v (.int .i64 than)]) (by kernel_rfl) (⟨rfl, rfl, trivial⟩) (den_of F_ship_above_eq hh)

end TL

namespace TL
open Go Go.Proofs
variable {B : List Nat} {h : PH} {K : Value → PH → Prop}

/-! ### What statements go through -/
variable {oA : Option Addr} {oC : Nat} {ops : List OpR}
theorem cGreatOps (hl : SR EncOp h oA ops) (hk : K (.bool (gOps ops)) h) : CallH Tryz.prog id_law12_GreatOps [.slice oA ops.length oC] K h := by
  refine F_law12_GreatOps_ok ⟨fun e => ?_, fun e => ?_⟩
  · have e : 100 < ops.length := by simp at e; omega
    simpa [gOps, e] using hk
  · have e0 : ¬ 100 < ops.length := by simp at e; omega
    refine LoopP.ind (fun (z : Int × Unit) h' => h' = h ∧ (0 ≤ z.1 ∧ z.1 ≤ ops.length) ∧ ∀ j : Nat, (hj : j < ops.length) → (j : Int) < z.1 → (decide (1000 < ops[j].p.length) || decide (1000 < ops[j].v.length)) = false) (fun z _ => (ops.length - z.1).toNat) ?_ ⟨rfl, ⟨by decide, by show (0 : Int) ≤ _; omega⟩, fun j _ hj => by simp only at hj; omega⟩
    rintro ⟨i, u⟩ h1 ⟨rfl, ⟨i0, i1⟩, ha⟩
    dsimp only at i0 i1 ha ⊢
    refine ⟨fun e => ?_, fun e => ?_⟩
    · have e : i < ops.length := by simpa using e
      have hit : i.toNat < ops.length := by omega
      obtain ⟨b, o, hA, hr⟩ := hl.get hit
      have s1 : (decide (((mk ops[i.toNat].p).size : Int) > (1000 : Int)) || decide (((mk ops[i.toNat].v).size : Int) > (1000 : Int))) = (decide (1000 < ops[i.toNat].p.length) || decide (1000 < ops[i.toNat].v.length)) := by
        rw [size_mk, size_mk]
        congr 1 <;> (rw [decide_eq_decide]; omega)
      refine ⟨b, o, ⟨hA, i0, e⟩, _, hr _ 1 1 rfl (by decide), b, o, fun _ => ⟨hA, i0, e⟩, _, fun _ => hr _ 2 1 rfl (by decide), fun e2 => ?_, fun e2 => ?_⟩
      · rw [s1] at e2
        have : gOps ops = true := by
          simp only [gOps, Bool.or_eq_true, List.any_eq_true]
          exact .inr ⟨_, List.getElem_mem hit, by simpa using e2⟩
        rw [this] at hk; exact hk
      · rw [s1] at e2
        rw [wrap64 (n := i + 1) (by omega) (by omega)]
        refine ⟨⟨rfl, ⟨by omega, by omega⟩, fun j hj hji => ?_⟩, by omega⟩
        by_cases hji2 : (j : Int) < i
        · exact ha j hj hji2
        · have : j = i.toNat := by omega
          subst this; exact e2
    · have e : i = ops.length := by simp at e; omega
      have : gOps ops = false := by
        simp only [gOps, Bool.or_eq_false_iff, List.any_eq_false]
        refine ⟨by simpa using e0, fun o ho => ?_⟩
        obtain ⟨j, hj, rfl⟩ := List.getElem_of_mem ho
        have := ha j hj (by omega)
        simpa using this
      rw [this] at hk; exact hk

variable {pA : Option Addr} {pC : Nat} {prs : List PrR}
def gRow (rows : List OsR) (gone : Nat) (prs : List PrR) : Bool := decide (80 < rows.length) || (decide (200 < gone) || (gPrs prs || rows.any fun r => gOps r.ops))
variable {rA eA : Option Addr} {rC eN eC : Nat} {rows : List OsR} {i0 i1 : Int}
theorem cGreat20 (hr : SR EncOs h rA rows) (hs : ∀ r ∈ rows, SR EncOp h r.a r.ops) (hl : SR EncPr h pA prs) (hk : K (.bool (gRow rows eN prs)) h) :
    CallH Tryz.prog id_law20_Great [.agg #[.int .i64 i0, .int .i64 i1, .slice rA rows.length rC, .slice eA eN eC, .slice pA prs.length pC]] K h := by
  refine F_law20_Great_ok (JoinP.here ⟨fun e => cGreatPairs hl ⟨_, rfl, fun e2 => ?_, fun e2 => ?_⟩, fun e => ?_⟩)
  · simp only [gRow, e2, Bool.true_or, Bool.or_true] at hk; exact hk
  · have e0 : ¬ 80 < rows.length ∧ ¬ 200 < eN := by
      simp only [Bool.or_eq_false_iff, decide_eq_false_iff_not] at e
      omega
    have hg : gRow rows eN prs = rows.any fun r => gOps r.ops := by simp only [gRow, e2, e0.1, e0.2, decide_false, Bool.false_or]
    rw [hg] at hk
    refine LoopP.ind (fun (z : Int × Unit) h' => h' = h ∧ (0 ≤ z.1 ∧ z.1 ≤ rows.length) ∧ ∀ j : Nat, (hj : j < rows.length) → (j : Int) < z.1 → gOps rows[j].ops = false) (fun z _ => (rows.length - z.1).toNat) ?_ ⟨rfl, ⟨by decide, by show (0 : Int) ≤ _; omega⟩, fun j _ hj => by simp only at hj; omega⟩
    rintro ⟨i, u⟩ h1 ⟨rfl, ⟨j0, j1⟩, ha⟩
    dsimp only at j0 j1 ha ⊢
    refine ⟨fun e => ?_, fun e => ?_⟩
    · have e : i < rows.length := by simpa using e
      have hit : i.toNat < rows.length := by omega
      obtain ⟨b, o, hA, hrd⟩ := hr.get hit
      refine ⟨b, o, ⟨hA, j0, e⟩, _, _, _, hrd _ 0 1 rfl (by decide), cGreatOps (hs _ (List.getElem_mem hit)) ⟨_, rfl, fun e2 => ?_, fun e2 => ?_⟩⟩
      · have : (rows.any fun r => gOps r.ops) = true := List.any_eq_true.2 ⟨_, List.getElem_mem hit, e2⟩
        rw [this] at hk; exact hk
      · rw [wrap64 (n := i + 1) (by omega) (by omega)]
        refine ⟨⟨rfl, ⟨by omega, by omega⟩, fun j hj hji => ?_⟩, by omega⟩
        by_cases hji2 : (j : Int) < i
        · exact ha j hj hji2
        · have : j = i.toNat := by omega
          subst this; exact e2
    · have e : i = rows.length := by simp at e; omega
      have : (rows.any fun r => gOps r.ops) = false := by
        rw [List.any_eq_false]
        intro r hr
        obtain ⟨j, hj, rfl⟩ := List.getElem_of_mem hr
        simp [ha j hj (by omega)]
      rw [this] at hk; exact hk
  · have : gRow rows eN prs = true := by
      simp only [Bool.or_eq_true, decide_eq_true_eq] at e
      simp only [gRow, Bool.or_eq_true, decide_eq_true_eq]
      omega
    rw [this] at hk; exact hk

/-! ### The view of a row -/
def EncI : Enc Int where
  enc n := [.int .i64 n]
  k := 1
  len _ := rfl
  one o v hv := by
    simp only [List.mem_cons, List.not_mem_nil, or_false] at hv
    rcases hv with rfl; rfl
  pos := by decide
structure BtR where
  ix : Int
  ep : Int
  a : Option Addr
  c : Nat
  ops : List OpR
def EncBt : Enc BtR where
  enc r := [.int .i64 r.ix, .int .i64 r.ep, .slice r.a r.ops.length r.c]
  k := 3
  len _ := rfl
  one o v hv := by
    simp only [List.mem_cons, List.not_mem_nil, or_false] at hv
    rcases hv with rfl | rfl | rfl <;> rfl
  pos := by decide
/-- the epoch ahead of a batch -/
def pe (prev : Int) (bs : List BtR) : Nat → Int
  | 0 => prev
  | i + 1 => match bs[i]? with
    | some b => b.ep
    | none => 0
theorem pe_def (prev : Int) (bs : List BtR) (i : Nat) : pe prev bs (i + 1) = match bs[i]? with
    | some b => b.ep
    | none => 0 := rfl
theorem pe_app (prev : Int) (bs : List BtR) (b : BtR) {i : Nat} (hi : i ≤ bs.length) : pe prev (bs ++ [b]) i = pe prev bs i := by
  cases i with
  | zero => rfl
  | succ i => rw [pe_def, pe_def, List.getElem?_append_left (by omega)]
theorem pe_last (prev : Int) (bs : List BtR) (b : BtR) : pe prev (bs ++ [b]) (bs.length + 1) = b.ep := by
  unfold pe; simp
theorem pe_succ (prev : Int) (bs : List BtR) {i : Nat} (hi : i < bs.length) : pe prev bs (i + 1) = bs[i].ep := by
  rw [pe_def, List.getElem?_eq_getElem hi]
def BtsOf (gone prev : Int) (rows : List OsR) (bs : List BtR) : Prop := ∀ i, (hi : i < bs.length) → ∃ hr : i < rows.length, bs[i].ix = gone + i + 1 ∧ bs[i].a = rows[i].a ∧ bs[i].c = rows[i].c ∧ bs[i].ops = rows[i].ops ∧ pe prev bs i ≤ bs[i].ep ∧ 1 ≤ bs[i].ep ∧ bs[i].ep ≤ 5 + i
theorem BtsOf.snoc {gone prev : Int} {rows : List OsR} {bs : List BtR} (x : BtsOf gone prev rows bs) (hr : bs.length < rows.length) {b : BtR} (h1 : b.ix = gone + bs.length + 1) (h2 : b.a = rows[bs.length].a) (h3 : b.c = rows[bs.length].c) (h4 : b.ops = rows[bs.length].ops)
    (h5 : pe prev bs bs.length ≤ b.ep) (h6 : 1 ≤ b.ep) (h7 : b.ep ≤ 5 + bs.length) : BtsOf gone prev rows (bs ++ [b]) := fun i hi => by
  by_cases hi2 : i < bs.length
  · rw [List.getElem_append_left hi2, pe_app _ _ _ (Nat.le_of_lt hi2)]; exact x i hi2
  · have : i = bs.length := by simp at hi; omega
    subst this
    rw [List.getElem_append_right (Nat.le_refl _), pe_app _ _ _ (Nat.le_refl _)]
    simp only [Nat.sub_self, List.getElem_cons_zero]
    exact ⟨hr, h1, h2, h3, h4, h5, h6, h7⟩
structure MadeOf (gone prev : Int) (rows : List OsR) (bs : List BtR) : Prop where
  len : bs.length = rows.length
  g0 : 0 ≤ gone
  g1 : gone < 100
  p0 : 0 ≤ prev
  p1 : prev < 5
  pg : gone = 0 ↔ prev = 0
  bts : BtsOf gone prev rows bs
variable {pN : Nat} {eps : List Int}
theorem cMade {r0 r1 epoch : Int} (hr : SR EncOs h rA rows) (he : SR EncI h eA eps) (hn : rows.length ≤ 80)
    (hk : ∀ gone prev bs a' c' B' h', MadeOf gone prev rows bs → Buf EncBt T_api_Batch B' h' a' rows.length c' bs → Chg [] B' h h' →
      K (.agg #[.int .i64 epoch, .int .i64 (gone + rows.length), .int .i64 (pe prev bs rows.length), .slice a' rows.length c', .int .i64 prev, .slice pA pN pC]) h') :
    CallH Tryz.prog id_law20_Made [.agg #[.int .i64 r0, .int .i64 r1, .slice rA rows.length rC, .slice eA eps.length eC, .slice pA pN pC], .int .i64 epoch] K h := by
  have t1 := Int.tmod_lt_of_pos r0 (b := 100) (by decide)
  have t2 := Int.lt_tmod_of_pos r0 (b := 100) (by decide)
  have t3 := Int.tmod_lt_of_pos r1 (b := 5) (by decide)
  have t4 := Int.lt_tmod_of_pos r1 (b := 5) (by decide)
  refine F_law20_Made_ok ⟨fun st h' => h' = h ∧ 0 ≤ st.1 ∧ st.1 < 100, ⟨fun e => ?_, fun e => ?_⟩, ?_⟩
  · have e : r0.tmod 100 < 0 := by simpa using e
    rw [wrap64 (by omega) (by omega)]
    exact ⟨rfl, by dsimp only; omega, by dsimp only; omega⟩
  · have e : ¬ r0.tmod 100 < 0 := by simpa using e
    exact ⟨rfl, by dsimp only; omega, by dsimp only; omega⟩
  rintro ⟨gone, u⟩ h1 ⟨rfl, g0, g1⟩
  dsimp only at g0 g1 ⊢
  refine ⟨fun st h' => h' = h1 ∧ 1 ≤ st.1 ∧ st.1 < 5, ⟨fun e => ?_, fun e => ?_⟩, ?_⟩
  · exact ⟨rfl, by decide, by decide⟩
  · have e : ¬ r1.tmod 5 < 1 := by simpa using e
    exact ⟨rfl, by dsimp only; omega, by dsimp only; omega⟩
  rintro ⟨q, u⟩ h2 ⟨rfl, q0, q1⟩
  dsimp only at q0 q1 ⊢
  refine ⟨fun st h' => h' = h2 ∧ 0 ≤ st.1 ∧ st.1 < 5 ∧ (gone = 0 ↔ st.1 = 0), ⟨fun e => ?_, fun e => ?_⟩, ?_⟩
  · have e : gone = 0 := by simpa using e
    exact ⟨rfl, by decide, by decide, by simp [e]⟩
  · have e : ¬ gone = 0 := by simpa using e
    exact ⟨rfl, by dsimp only; omega, by dsimp only; omega, by dsimp only; omega⟩
  rintro ⟨prev, u⟩ h3 ⟨rfl, p0, p1, pg⟩
  dsimp only at p0 p1 pg ⊢
  refine LoopP.ind (fun z h' => ∃ (i : Nat) (bA : Option Addr) (bN bC : Nat) (bs : List BtR) (B' : List Nat), z = (pe prev bs bs.length, (i : Int), epoch, gone + i, pe prev bs bs.length, (bA, bN, bC), prev, (pA, pN, pC), ()) ∧ bs.length = i ∧ i ≤ rows.length ∧
    Buf EncBt T_api_Batch B' h' bA bN bC bs ∧ Chg [] B' h3 h' ∧ BtsOf gone prev rows bs ∧ 0 ≤ pe prev bs bs.length ∧ pe prev bs bs.length ≤ 4 + i) (fun z _ => (rows.length - z.2.1).toNat) ?_
    ⟨0, none, 0, 0, [], [], by simp [pe], rfl, Nat.zero_le _, Buf.nil _ _ _ _, Chg.refl _ _, fun i hi => by simp at hi, p0, by show prev ≤ _; omega⟩
  rintro _ h4 ⟨i, bA, bN, bC, bs, B', rfl, hlen, hi, hb, hc, hbt, l0, l1⟩
  dsimp only
  have hbn := hb.1
  refine ⟨fun e => ?_, fun e => ?_⟩
  · have e : i < rows.length := by simp at e; omega
    refine ⟨fun st h' => h' = h4 ∧ 1 ≤ st.1 ∧ st.1 ≤ 4 + i ∧ pe prev bs bs.length ≤ st.1, ⟨fun e => ?_, fun e => ?_⟩, ?_⟩
    · have e : pe prev bs bs.length < 1 := by simpa using e
      exact ⟨rfl, by decide, by dsimp only; omega, by dsimp only; omega⟩
    · have e : ¬ pe prev bs bs.length < 1 := by simpa using e
      exact ⟨rfl, by dsimp only; omega, by dsimp only; omega, Int.le_refl _⟩
    rintro ⟨l, u⟩ h5 ⟨rfl, m0, m1, m2⟩
    dsimp only at m0 m1 m2 ⊢
    refine ⟨fun st h' => h' = h5 ∧ 1 ≤ st.1 ∧ st.1 ≤ 5 + i ∧ pe prev bs bs.length ≤ st.1, ?_, ?_⟩
    · have done : (fun (st : Int × Unit) h' => h' = h5 ∧ 1 ≤ st.1 ∧ st.1 ≤ 5 + i ∧ pe prev bs bs.length ≤ st.1) (l, ()) h5 := ⟨rfl, m0, by dsimp only; omega, m2⟩
      by_cases hie : i < eps.length
      · obtain ⟨b, o, hA, hrd⟩ := (he.sub hc.sub0).get hie
        refine ⟨b, o, fun _ => ⟨hA, by omega, by omega⟩, eps[i], fun _ => hrd _ 0 1 (by simp [EncI]) (by decide), fun e2 => ?_, fun _ => done⟩
        refine ⟨b, o, ⟨hA, by omega, by omega⟩, eps[i], hrd _ 0 1 (by simp [EncI]) (by decide), ?_⟩
        have e2 : 0 < eps[i] := by simp at e2; omega
        have t5 := Int.tmod_lt_of_pos eps[i] (b := 2) (by decide)
        have t6 := Int.tmod_nonneg 2 (a := eps[i]) (by omega)
        rw [wrap64 (by omega) (by omega)]
        exact ⟨rfl, by dsimp only; omega, by dsimp only; omega, by dsimp only; omega⟩
      · refine ⟨0, 0, fun e => by simp at e <;> omega, 0, fun e => by simp at e <;> omega, fun e => by simp at e <;> omega, fun _ => done⟩
    rintro ⟨l2, u⟩ h6 ⟨rfl, n0, n1, n2⟩
    dsimp only at n0 n1 n2 ⊢
    obtain ⟨b, o, hA, hrd⟩ := (hr.sub hc.sub0).get e
    refine ⟨b, o, ⟨hA, by omega, by omega⟩, rows[i].a, rows[i].ops.length, rows[i].c, hrd _ 0 1 (by simp [EncOs]) (by decide), ?_⟩
    rw [wrap64 (n := gone + i) (by omega) (by omega), wrap64 (n := gone + i + 1) (by omega) (by omega), wrap64 (n := (i : Int) + 1) (by omega) (by omega)]
    refine hb.append (new := [⟨gone + i + 1, l2, rows[i].a, rows[i].c, rows[i].ops⟩]) rfl rfl rfl (by omega) ?_
    intro a' c' B2 h7 hb2 c2 _
    refine ⟨⟨i + 1, a', bN + 1, c', _, B2, ?_, by simp [hlen], by omega, hb2, hc.trans c2, hbt.snoc (by omega) (by simp [hlen]) (by simp [hlen]) (by simp [hlen]) (by simp [hlen]) n2 n0 (by simp [hlen]; omega), ?_, ?_⟩, ?_⟩
    · rw [show (bs ++ [(⟨gone + i + 1, l2, rows[i].a, rows[i].c, rows[i].ops⟩ : BtR)]).length = bs.length + 1 by simp, pe_last]
      rw [show (((i + 1 : Nat) : Int)) = (i : Int) + 1 by omega, Int.add_assoc]
    · rw [show (bs ++ [(⟨gone + i + 1, l2, rows[i].a, rows[i].c, rows[i].ops⟩ : BtR)]).length = bs.length + 1 by simp, pe_last]; dsimp only; omega
    · rw [show (bs ++ [(⟨gone + i + 1, l2, rows[i].a, rows[i].c, rows[i].ops⟩ : BtR)]).length = bs.length + 1 by simp, pe_last]; dsimp only; omega
    · omega
  · have e : i = rows.length := by simp at e; omega
    subst e
    have := hk gone prev bs bA bC B' h4 ⟨hlen, g0, g1, p0, p1, pg, hbt⟩ (by rw [hbn, hlen] at hb; exact hb) hc
    rw [hbn, hlen]
    exact this

/-! ### What a take knows of a row -/

end TL

namespace TL
open Go Go.Proofs

/-- a message, without its memory -/
structure MsgA where
  kd : Int
  ep : Int
  at_ : Int
  ae : Int
  ix : Int
  be : Int
  ops : List OpR
  prev : Int
  root : H32
  lv : Int
  ii : Int
  left : H32
  right : H32
  prs : List PrR
  deriving DecidableEq
def zeroH : H32 := ⟨List.replicate 32 0, by simp⟩
def msg0 : MsgA := ⟨0, 0, 0, 0, 0, 0, [], 0, zeroH, 0, 0, zeroH, zeroH, []⟩
/-- a message in a row -/
structure MsgF where
  m : MsgA
  oA : Option Addr
  oC : Nat
  pA : Option Addr
  pC : Nat
def hv (x : H32) : List Value := (bi x.1).map (Value.int .u8)
theorem hv_len (x : H32) : (hv x).length = 32 := by rw [hv, List.length_map, bi_len, x.2]
theorem hv_one (x : H32) : ∀ v ∈ hv x, one1 v = true := fun v h => by
  obtain ⟨n, _, rfl⟩ := List.mem_map.1 h
  rfl
def encMsg (f : MsgF) : List Value := .int .u8 f.m.kd :: (.int .i64 f.m.ep :: (.int .i64 f.m.at_ :: (.int .i64 f.m.ae :: (.int .i64 f.m.ix :: (.int .i64 f.m.be :: (.slice f.oA f.m.ops.length f.oC :: (.int .i64 f.m.prev :: (hv f.m.root ++ (.int .i64 f.m.lv :: (.int .i64 f.m.ii :: (hv f.m.left ++ (hv f.m.right ++ [.slice f.pA f.m.prs.length f.pC]))))))))))))
def EncMsg : Enc MsgF where
  enc := encMsg
  k := 107
  len f := by simp [encMsg, hv_len]
  one f v h := by
    simp only [encMsg, List.mem_cons, List.mem_append, List.not_mem_nil, or_false] at h
    rcases h with rfl | rfl | rfl | rfl | rfl | rfl | rfl | rfl | h | rfl | rfl | h | h | rfl
    all_goals first | rfl | exact hv_one _ _ h
  pos := by decide
/-- what a view is -/
structure VwR where
  ep : Int
  at_ : Int
  ae : Int
  bA : Option Addr
  bC : Nat
  bs : List BtR
  pv : Int
  pA : Option Addr
  pC : Nat
  prs : List PrR
structure VwOk (h : PH) (v : VwR) : Prop where
  bts : SR EncBt h v.bA v.bs
  n : v.bs.length ≤ 1000
  ix : ∀ b ∈ v.bs, 0 ≤ b.ix ∧ b.ix ≤ 1000000
  ops : ∀ b ∈ v.bs, SR EncOp h b.a b.ops ∧ b.ops.length ≤ 1000
  prs : SR EncPr h v.pA v.prs
  pn : v.prs.length ≤ 1000
  pl : ∀ x ∈ v.prs, x.p.length ≤ 1000000
theorem VwOk.sub {h g : PH} {v : VwR} (x : VwOk h v) (s : h.Sub g) : VwOk g v := ⟨x.bts.sub s, x.n, x.ix, fun b hb => ⟨(x.ops b hb).1.sub s, (x.ops b hb).2⟩, x.prs.sub s, x.pn, x.pl⟩
/-- has a view this place ahead of batch i? -/
def atV (v : VwR) (a e : Int) (i : Nat) : Bool := (match v.bs[i]? with
  | some b => decide (b.ix - 1 = a)
  | none => false) && decide (pe v.pv v.bs i = e)
def nextV (v : VwR) (a e : Int) : Option Nat := if a = v.at_ ∧ e = v.ae then some v.bs.length else (List.range v.bs.length).find? (atV v a e)
theorem nextV_le {v : VwR} {a e : Int} {i : Nat} (h : nextV v a e = some i) : i ≤ v.bs.length := by
  unfold nextV at h
  split at h
  · cases h; exact Nat.le_refl _
  · have := List.mem_range.1 (List.mem_of_find?_eq_some h)
    omega
/-- what a ship holds -/
structure ShS where
  ack : Option (Int × Int)
  shot : Option (Int × Int × List PrR)
  texts : List (List UInt8)
def rootH (S : List PrR) : H32 := nodeH S 1
def helloM (ep : Int) : MsgA := { msg0 with kd := 1, ep := ep }
def rootM (ep a e : Int) (x : H32) : MsgA := { msg0 with kd := 4, ep := ep, at_ := a, ae := e, root := x }
def entM (v : VwR) (j : Nat) : MsgA := match v.bs[j]? with
  | some b => { msg0 with kd := 2, ep := v.ep, ix := b.ix, be := b.ep, ops := b.ops, prev := pe v.pv v.bs j }
  | none => msg0
def entsV (v : VwR) (i : Nat) : List MsgA := (List.range (min 4 (v.bs.length - i))).map fun k => entM v (i + k)
def needV (s : ShS) (v : VwR) (a : Int) : Prop := match s.shot with
  | none => True
  | some (x, _, _) => (x ≤ a ∧ x < v.at_) ∨ (x ≤ 9223372036854775743 ∧ v.at_ > x + 64)
instance (s : ShS) (v : VwR) (a : Int) : Decidable (needV s v a) := by
  unfold needV
  cases s.shot with
  | none => exact inferInstanceAs (Decidable True)
  | some q => obtain ⟨x, y, z⟩ := q; exact inferInstanceAs (Decidable (_ ∨ _))
def tickV (s : ShS) (v : VwR) : List MsgA × ShS := match s.ack with
  | none => ([helloM v.ep], s)
  | some (a, e) =>
    if a = v.at_ ∧ e = v.ae then ([helloM v.ep], { s with shot := none })
    else match nextV v a e with
      | some i => (helloM v.ep :: entsV v i, s)
      | none =>
        if needV s v a then
          if mayB v.prs = true ∧ v.prs.length ≤ 48 then ([helloM v.ep, rootM v.ep v.at_ v.ae (rootH v.prs)], { s with shot := some (v.at_, v.ae, v.prs), texts := s.texts ++ textsT v.prs })
          else ([helloM v.ep], s)
        else match s.shot with
          | some (x, y, S) => ([helloM v.ep, rootM v.ep x y (rootH S)], s)
          | none => ([helloM v.ep], s)
def ackV (s : ShS) (kd a e : Int) : Bool × ShS := if kd ≠ 3 ∨ a < 0 then (false, s) else (true, { s with ack := some (a, e) })
/-! ### In memory -/
def ackAt (g : PH) (p : Option Addr) (a : Option (Int × Int)) : Prop := match a with
  | none => p = none
  | some (x, y) => ∃ b T fr, p = some ⟨b, 0, none⟩ ∧ g b = some (.cells ([.int .i64 x, .int .i64 y] : List Value).toArray T fr)
def shotAt (g : PH) (p : Option Addr) (a : Option (Int × Int × List PrR)) : Prop := match a with
  | none => p = none
  | some (x, y, S) => ∃ b t T fr, p = some ⟨b, 0, none⟩ ∧ g b = some (.cells ([.int .i64 x, .int .i64 y, .pointer (some ⟨t, 0, none⟩)] : List Value).toArray T fr) ∧ Tr t g S
structure ShipAt (g : PH) (N : List Nat) (h : PH) (sb : Nat) (s : ShS) : Prop where
  mem : ∃ pa ps tA tN tC Bt, N = sb :: Bt ∧ sb ∉ Bt ∧ h sb = some (.cells ([.pointer pa, .pointer ps, .slice tA tN tC] : List Value).toArray T_ship_Ship (0, 0)) ∧ Buf EncS 9 Bt h tA tN tC s.texts ∧ ackAt g pa s.ack ∧ shotAt g ps s.shot
  sh : ∀ x y S, s.shot = some (x, y, S) → -9223372036854775808 ≤ x ∧ x ≤ 9223372036854775807
end TL

namespace TL
open Go
variable {g g' g'' h h' h'' : PH} {N N' N'' M M' B C : List Nat}
theorem Stp.less (x : Stp g N h g' N' h') (hs : ∀ b ∈ M, b ∈ N') : Stp g N h g' M h' :=
  ⟨⟨x.chg.1, fun b hb => x.chg.2 b (hs b hb)⟩, x.gs, x.gn, x.spl.sub, fun b hb => x.spl.av b (hs b hb), fun b hb => x.spl.has b (hs b hb)⟩
theorem Spl.less (x : Spl g N h) (hs : ∀ b ∈ M, b ∈ N) : Spl g M h := ⟨x.sub, fun b hb => x.av b (hs b hb), fun b hb => x.has b (hs b hb)⟩
theorem Spl.freeze (s : Spl g (B ++ N) h) (d : Dj B N) : Stp g (B ++ N) h (PH.plus g h B) N h := by
  refine ⟨⟨fun b o _ e => e, fun b hb => .inl (List.mem_append_right _ hb)⟩, fun b o e => ?_, fun b hb _ e => ?_, fun b o e => ?_, fun b hb => ?_, s.right.has⟩
  · rw [plus_out (fun hb => by rw [s.left.av b hb] at e; cases e)]; exact e
  · rw [plus_out (fun h1 => hb (List.mem_append_left _ h1))]; exact e
  · by_cases hb : b ∈ B
    · rw [plus_in hb] at e; exact e
    · rw [plus_out hb] at e; exact s.sub b o e
  · rw [plus_out (fun h1 => d b h1 hb)]; exact s.right.av b hb
/-- new blocks, then a change of the whole -/
theorem Dj.new (hN : Has N h) (c : Chg [] B h h') : Dj B N := fun b hb hm => by
  obtain ⟨o, ho⟩ := hN b hm
  rcases c.2 b hb with h1 | h1
  · cases h1
  · rw [ho] at h1; cases h1
theorem Dj.chg (d : Dj B N) (hN : Has N h) (c : Chg B C h h') : Dj C N := fun b hb hm => by
  rcases c.2 b hb with h1 | h1
  · exact d b h1 hm
  · obtain ⟨o, ho⟩ := hN b hm; rw [ho] at h1; cases h1
theorem Dj.app {A B C : List Nat} (x : Dj A C) (y : Dj B C) : Dj (A ++ B) C := fun b hb => by
  rcases List.mem_append.1 hb with hb | hb
  · exact x b hb
  · exact y b hb
theorem Dj.appR {A B C : List Nat} (x : Dj A B) (y : Dj A C) : Dj A (B ++ C) := fun b hb hm => by
  rcases List.mem_append.1 hm with hm | hm
  · exact x b hb hm
  · exact y b hb hm
theorem Dj.l {A B C : List Nat} (x : Dj (A ++ B) C) : Dj A C := fun b hb => x b (List.mem_append_left _ hb)
theorem Dj.r {A B C : List Nat} (x : Dj (A ++ B) C) : Dj B C := fun b hb => x b (List.mem_append_right _ hb)
theorem Has.app {A B : List Nat} (x : Has A h) (y : Has B h) : Has (A ++ B) h := fun b hb => by
  rcases List.mem_append.1 hb with hb | hb
  · exact x b hb
  · exact y b hb
theorem Has.sub (x : Has N h) (s : h.Sub h') : Has N h' := fun b hb => by
  obtain ⟨o, ho⟩ := x b hb; exact ⟨o, s b o ho⟩
/-- a part of what changes, changed -/
theorem Spl.part (s : Spl g (B ++ N) h) (d : Dj B N) (c : Chg B C h h') (hh : Has C h') : Stp g (B ++ N) h g (C ++ N) h' :=
  s.chg c.left (hh.app fun b hb => by
    obtain ⟨o, ho⟩ := s.right.has b hb
    exact ⟨o, c.keep ho fun h1 => d b h1 hb⟩)
end TL

namespace TL
open Go Go.Proofs
variable {g h : PH} {N : List Nat} {K : Value → PH → Prop} {sb : Nat} {s : ShS} {v : VwR} {lA : Option Addr} {lC : Nat}

theorem cCloneOps {l : List OpR} (x : SR EncOp h lA l) (hn : l.length ≤ 1000) (hk : ∀ a' c' B' h', Buf EncOp T_api_Op B' h' a' l.length c' l → Chg [] B' h h' → K (.slice a' l.length c') h') : CallH Tryz.prog id_slices_Clone_api_Op_api_Op [.slice lA l.length lC] K h :=
  F_slices_Clone_api_Op_api_Op_ok (CloneF_ok (E := EncOp) (sC := lC) (bt := 40) (z := [.int .u8 (0 : Int), .string (⟨#[]⟩ : ByteArray), .string (⟨#[]⟩ : ByteArray)]) x rfl (by omega) hk)
theorem cCloneStr {l : List (List UInt8)} (x : SR EncS h lA l) (hn : l.length ≤ 1000000) (hk : ∀ a' c' B' h', Buf EncS 9 B' h' a' l.length c' l → Chg [] B' h h' → K (.slice a' l.length c') h') : CallH Tryz.prog id_slices_Clone_string_string [.slice lA l.length lC] K h :=
  F_slices_Clone_string_string_ok (CloneF_ok (E := EncS) (sC := lC) (bt := 16) (z := [.string (⟨#[]⟩ : ByteArray)]) x rfl (by omega) hk)
theorem find_at {p : Nat → Bool} {n i : Nat} (hi : i < n) (h1 : p i = true) (h2 : ∀ j, j < i → p j = false) : (List.range n).find? p = some i := by
  rw [List.find?_range_eq_some]
  exact ⟨h1, List.mem_range.2 hi, fun j hj => by simp [h2 j hj]⟩
theorem find_no {p : Nat → Bool} {n : Nat} (h2 : ∀ j, j < n → p j = false) : (List.range n).find? p = none := by
  rw [List.find?_eq_none]
  intro j hj
  simp [h2 j (List.mem_range.1 hj)]
abbrev VwR.val (v : VwR) : Value := .agg #[.int .i64 v.ep, .int .i64 v.at_, .int .i64 v.ae, .slice v.bA v.bs.length v.bC, .int .i64 v.pv, .slice v.pA v.prs.length v.pC]
theorem cNext (x : VwOk h v) {a e : Int} (hk : K (.tuple #[.int .i64 ((nextV v a e).getD 0 : Nat), .bool (nextV v a e).isSome]) h) : CallH Tryz.prog id_ship_next [v.val, .agg #[.int .i64 a, .int .i64 e]] K h := by
  have hn := x.n
  refine F_ship_next_ok ⟨fun e1 => ?_, fun e1 => ?_⟩
  · have e1 : a = v.at_ ∧ e = v.ae := by simpa using e1
    have : nextV v a e = some v.bs.length := by unfold nextV; rw [if_pos e1]
    rw [this] at hk; exact hk
  · have e1 : ¬ (a = v.at_ ∧ e = v.ae) := fun hh => by simp [hh.1, hh.2] at e1
    have hnx : nextV v a e = (List.range v.bs.length).find? (atV v a e) := by unfold nextV; rw [if_neg e1]
    rw [hnx] at hk
    refine LoopP.ind (fun (z : Int × Unit) h' => ∃ i : Nat, z.1 = i ∧ i ≤ v.bs.length ∧ h' = h ∧ ∀ j, j < i → atV v a e j = false) (fun z _ => (v.bs.length - z.1).toNat) ?_ ⟨0, rfl, Nat.zero_le _, rfl, fun _ h => absurd h (Nat.not_lt_zero _)⟩
    rintro ⟨zi, u⟩ h1 ⟨i, hzi, hi, rfl, hb⟩
    dsimp only at hzi
    subst hzi
    dsimp only
    refine ⟨fun e2 => ?_, fun e2 => ?_⟩
    · have e2 : i < v.bs.length := by simpa using e2
      have hit : ((i : Nat) : Int).toNat = i := by omega
      have hw : IntKind.wrap .i64 (((i : Nat) : Int) + (1 : Int)) = ((i + 1 : Nat) : Int) := by rw [wrap64] <;> omega
      obtain ⟨b, o, hA, hr⟩ := x.bts.get e2
      have hix := x.ix _ (List.getElem_mem e2)
      have hw2 : IntKind.wrap .i64 (v.bs[i].ix - (1 : Int)) = v.bs[i].ix - 1 := by rw [wrap64] <;> omega
      have hat : atV v a e i = (decide (v.bs[i].ix - 1 = a) && decide (pe v.pv v.bs i = e)) := by unfold atV; rw [List.getElem?_eq_getElem e2]
      have hq : ∀ p : Int, p = pe v.pv v.bs i → ((a == IntKind.wrap .i64 (v.bs[i].ix - (1 : Int))) && ((e == p) && true)) = atV v a e i := fun p hp => by
        rw [hw2, hat, hp, Bool.and_true, Bool.eq_iff_iff]
        simp only [Bool.and_eq_true, beq_iff_eq, decide_eq_true_eq]
        exact ⟨fun h => ⟨h.1.symm, h.2.symm⟩, fun h => ⟨h.1.symm, h.2.symm⟩⟩
      have yes : atV v a e i = true → K (.tuple #[.int .i64 ((i : Nat) : Int), .bool true]) h1 := fun ht => by
        rw [find_at e2 ht hb] at hk; exact hk
      have no : atV v a e i = false → ((∃ i1 : Nat, ((i + 1 : Nat) : Int) = i1 ∧ i1 ≤ v.bs.length ∧ h1 = h1 ∧ ∀ j, j < i1 → atV v a e j = false) ∧ (v.bs.length - ((i + 1 : Nat) : Int)).toNat < (v.bs.length - ((i : Nat) : Int)).toNat) := fun hf =>
        ⟨⟨i + 1, rfl, by omega, rfl, fun j hj => by
          by_cases hji : j = i
          · subst hji; exact hf
          · exact hb j (by omega)⟩, by omega⟩
      rw [hit, hw]
      refine ⟨b, o, ⟨hA, by omega, by omega⟩, _, _, _, _, _, hr _ 0 3 rfl (by decide), fun e3 => ?_, fun e3 => ?_⟩
      · have e3 : 0 < i := by simp at e3; omega
        have hw1 : IntKind.wrap .i64 (((i : Nat) : Int) - (1 : Int)) = ((i - 1 : Nat) : Int) := by rw [wrap64] <;> omega
        have ht1 : ((i - 1 : Nat) : Int).toNat = i - 1 := by omega
        have hi1 : i - 1 < v.bs.length := by omega
        obtain ⟨b2, o2, hA2, hr2⟩ := x.bts.get hi1
        have hpe := pe_succ v.pv v.bs hi1
        rw [show i - 1 + 1 = i by omega] at hpe
        rw [hw1, ht1]
        refine ⟨b2, o2, ⟨hA2, by omega, by omega⟩, _, hr2 _ 1 1 rfl (by decide), fun e4 => ?_, fun e4 => ?_⟩
        · rw [hq _ hpe.symm] at e4; exact yes e4
        · rw [hq _ hpe.symm] at e4; exact no e4
      · have e3 : i = 0 := by simp at e3; omega
        have hpe : v.pv = pe v.pv v.bs i := by rw [e3]; rfl
        refine ⟨fun e4 => ?_, fun e4 => ?_⟩
        · rw [hq _ hpe] at e4; exact yes e4
        · rw [hq _ hpe] at e4; exact no e4
    · have e2 : i = v.bs.length := by simp at e2; omega
      subst e2
      rw [find_no hb] at hk; exact hk
/-- the operations' memory of a row of messages -/
inductive OpsAt (h : PH) : List Nat → List MsgF → Prop
  | nil : OpsAt h [] []
  | cons {f : MsgF} {Be Bs : List Nat} {L : List MsgF} : Buf EncOp T_api_Op Be h f.oA f.m.ops.length f.oC f.m.ops → Dj Be Bs → OpsAt h Bs L → OpsAt h (Be ++ Bs) (f :: L)
theorem OpsAt.keep {h' : PH} : ∀ {Bs : List Nat} {L : List MsgF}, OpsAt h Bs L → (∀ b ∈ Bs, ∀ o, h b = some o → h' b = some o) → OpsAt h' Bs L
  | _, _, .nil, _ => .nil
  | _, _, .cons e1 e2 e3, hk => .cons (e1.keep fun b hb => hk b (List.mem_append_left _ hb)) e2 (e3.keep fun b hb => hk b (List.mem_append_right _ hb))
theorem OpsAt.has : ∀ {Bs : List Nat} {L : List MsgF}, OpsAt h Bs L → Has Bs h
  | _, _, .nil => fun _ hb => by cases hb
  | _, _, .cons e1 _ e3 => e1.has.app e3.has
theorem OpsAt.snoc {f : MsgF} {Be : List Nat} (x : Buf EncOp T_api_Op Be h f.oA f.m.ops.length f.oC f.m.ops) : ∀ {Bs : List Nat} {L : List MsgF}, OpsAt h Bs L → Dj Be Bs → OpsAt h (Bs ++ Be) (L ++ [f])
  | _, _, .nil, _ => by
    have := OpsAt.cons x (Dj.nil Be) OpsAt.nil
    rw [List.append_nil] at this; exact this
  | _, _, .cons (Be := B1) (Bs := B2) e1 e2 e3, d => by
    have d1 : Dj Be B1 := fun b hb hm => d b hb (List.mem_append_left _ hm)
    have d2 : Dj Be B2 := fun b hb hm => d b hb (List.mem_append_right _ hm)
    rw [List.append_assoc]
    exact .cons e1 (e2.appR d1.symm) (e3.snoc x d2)
theorem OpsAt.all : ∀ {Bs : List Nat} {L : List MsgF}, OpsAt h Bs L → ∀ f ∈ L, SR EncOp h f.oA f.m.ops
  | _, _, .nil => fun _ hf => by cases hf
  | _, _, .cons e1 _ e3 => fun f hf => by
    rcases List.mem_cons.1 hf with rfl | hf
    · exact e1.sr
    · exact e3.all f hf
/-- messages in memory of one's own -/
def Msgs (B : List Nat) (h : PH) (a : Option Addr) (c : Nat) (L : List MsgF) : Prop := ∃ B0 Bs, B = B0 ++ Bs ∧ Buf EncMsg T_api_Msg B0 h a L.length c L ∧ OpsAt h Bs L ∧ Dj B0 Bs ∧ ∀ f ∈ L, f.m.prs = [] ∧ f.m.ops.length ≤ 1000
theorem Msgs.has {B : List Nat} {a : Option Addr} {c : Nat} {L : List MsgF} (x : Msgs B h a c L) : Has B h := by
  obtain ⟨B0, Bs, rfl, h1, h2, _⟩ := x
  exact h1.has.app h2.has
theorem hv_zero : hv zeroH = (List.replicate 32 (0 : Int)).map (Value.int .u8) := by simp [hv, zeroH, bi]
def fOf (m : MsgA) (a : Option Addr) (c : Nat) : MsgF := ⟨m, a, c, none, 0⟩
theorem cEntries (x : VwOk h v) {i : Nat} (hi : i ≤ v.bs.length) (hk : ∀ a' c' L B' h', Msgs B' h' a' c' L → L.map (·.m) = entsV v i → Chg [] B' h h' → K (.slice a' L.length c') h') :
    CallH Tryz.prog id_ship_entries [v.val, .int .i64 (i : Int)] K h := by
  have hn := x.n
  refine F_ship_entries_ok (LoopP.ind (fun (z : (Option Addr × Nat × Nat) × Int × Unit) h' => ∃ (k : Nat) (L : List MsgF) (B' : List Nat), z.2.1 = ((i + k : Nat) : Int) ∧ z.1.2.1 = k ∧ L.length = k ∧ k ≤ 4 ∧ i + k ≤ v.bs.length ∧ Msgs B' h' z.1.1 z.1.2.2 L ∧ L.map (·.m) = (List.range k).map (fun j => entM v (i + j)) ∧ Chg [] B' h h') (fun z _ => (v.bs.length - z.2.1).toNat) ?_
    ⟨0, [], [], rfl, rfl, rfl, by omega, by omega, ⟨[], [], rfl, Buf.nil _ _ _ _, .nil, Dj.nil _, by simp⟩, rfl, Chg.refl _ _⟩)
  rintro ⟨⟨oA, oN, oC⟩, zi, u⟩ h1 ⟨k, L, B1, hzi, hoN, hL, hk4, hik, hm, hmap, hc⟩
  dsimp only at hzi hoN hm
  subst hzi hoN
  dsimp only
  refine ⟨fun e => ?_, fun e => ?_⟩
  · have e : i + oN < v.bs.length ∧ oN < 4 := by simp at e; omega
    have x1 := x.sub hc.sub0
    have hit : ((i + oN : Nat) : Int).toNat = i + oN := by omega
    have hw : IntKind.wrap .i64 (((i + oN : Nat) : Int) + (1 : Int)) = ((i + (oN + 1) : Nat) : Int) := by rw [wrap64] <;> omega
    rw [hit, hw]
    refine ⟨fun (st : Int × Unit) h' => h' = h1 ∧ st.1 = pe v.pv v.bs (i + oN), ⟨fun e3 => ?_, fun e3 => ?_⟩, ?_⟩
    · have e3 : 0 < i + oN := by simp at e3; omega
      have hw1 : IntKind.wrap .i64 (((i + oN : Nat) : Int) - (1 : Int)) = ((i + oN - 1 : Nat) : Int) := by rw [wrap64] <;> omega
      have ht1 : ((i + oN - 1 : Nat) : Int).toNat = i + oN - 1 := by omega
      have hi1 : i + oN - 1 < v.bs.length := by omega
      obtain ⟨b2, o2, hA2, hr2⟩ := x1.bts.get hi1
      have hpe := pe_succ v.pv v.bs hi1
      rw [show i + oN - 1 + 1 = i + oN by omega] at hpe
      rw [hw1, ht1]
      exact ⟨b2, o2, ⟨hA2, by omega, by omega⟩, _, hr2 _ 1 1 rfl (by decide), rfl, hpe.symm⟩
    · have e3 : i + oN = 0 := by simp at e3; omega
      exact ⟨rfl, by rw [e3]; rfl⟩
    rintro ⟨pv, u⟩ h2 ⟨rfl, hpv⟩
    dsimp only at hpv
    subst hpv
    obtain ⟨b, o, hA, hr⟩ := x1.bts.get e.1
    obtain ⟨hops, hon⟩ := x1.ops _ (List.getElem_mem e.1)
    refine ⟨b, o, ⟨hA, by omega, by omega⟩, _, _, _, _, _, hr _ 0 3 rfl (by decide), cCloneOps hops hon fun a3 c3 B3 h3 hb3 hc3 => ⟨_, _, _, rfl, ?_⟩⟩
    obtain ⟨B0, Bs, rfl, hb, ho, hd, hp⟩ := hm
    have em : entM v (i + oN) = { msg0 with kd := 2, ep := v.ep, ix := v.bs[i + oN].ix, be := v.bs[i + oN].ep, ops := v.bs[i + oN].ops, prev := pe v.pv v.bs (i + oN) } := by
      unfold entM; rw [List.getElem?_eq_getElem e.1]
    rw [hL] at hb
    have h13 := hc3.sub0
    refine (hb.sub h13).append (new := [fOf (entM v (i + oN)) a3 c3]) rfl ?_ rfl (by omega) fun a4 c4 B4 h4 hb4 hc4 _ => ?_
    · rw [em]
      simp only [Enc.row, List.flatMap_cons, List.flatMap_nil, EncMsg, encMsg, fOf, msg0, hv_zero, List.append_nil]
      rfl
    · have d3 : Dj B3 (B0 ++ Bs) := Dj.new (hb.has.app ho.has) hc3
      have d30 : Dj B0 B3 := fun q hq hm => d3 q hm (List.mem_append_left _ hq)
      have d3s : Dj B3 Bs := fun q hq hm => d3 q hq (List.mem_append_right _ hm)
      have hos : Has (Bs ++ B3) h3 := (ho.has.sub h13).app hb3.has
      have dB : Dj B0 (Bs ++ B3) := hd.appR d30
      have k4 : ∀ q ∈ Bs ++ B3, ∀ o, h3 q = some o → h4 q = some o := fun q hq o e => hc4.keep e fun hm => dB q hm hq
      refine ⟨⟨oN + 1, L ++ [fOf (entM v (i + oN)) a3 c3], B4 ++ (Bs ++ B3), rfl, rfl, by simp [hL], by omega, by omega, ⟨B4, Bs ++ B3, rfl, ?_, ?_, dB.chg hos hc4, ?_⟩, ?_, ?_⟩, by omega⟩
      · rw [show (L ++ [fOf (entM v (i + oN)) a3 c3]).length = oN + 1 by simp [hL]]; exact hb4
      · refine OpsAt.snoc (f := fOf (entM v (i + oN)) a3 c3) ?_ (ho.keep fun q hq o e => k4 q (List.mem_append_left _ hq) o (h13 q o e)) d3s
        have : (fOf (entM v (i + oN)) a3 c3).m.ops = v.bs[i + oN].ops := by rw [em]; rfl
        rw [this]
        exact hb3.keep fun q hq o e => k4 q (List.mem_append_right _ hq) o e
      · intro f hf
        rcases List.mem_append.1 hf with hf | hf
        · exact hp f hf
        · rw [List.mem_singleton] at hf; subst hf
          exact ⟨by rw [fOf, em]; rfl, by rw [fOf, em]; exact hon⟩
      · rw [List.map_append, hmap, List.range_succ, List.map_append]; rfl
      · have c1 : Chg [] ((B0 ++ Bs) ++ B3) h h3 := by
          refine hc.trans ⟨fun q o _ e => h13 q o e, fun q hq => ?_⟩
          rcases List.mem_append.1 hq with hq | hq
          · exact .inl hq
          · rcases hc3.2 q hq with h1 | h1
            · cases h1
            · exact .inr h1
        refine c1.trans (hc4.sub (fun q hq => by simp [hq]) fun q hq => ?_)
        rcases List.mem_append.1 hq with hq | hq
        · exact .inl hq
        · right; simp only [List.mem_append] at hq ⊢
          rcases hq with hq | hq
          · exact .inl (.inr hq)
          · exact .inr hq
  · have e : oN = min 4 (v.bs.length - i) := by
      simp only [Bool.and_eq_false_iff, decide_eq_false_iff_not] at e
      omega
    have := hk oA oC L B1 h1 hm (by rw [hmap]; unfold entsV; rw [← e]) hc
    rw [hL] at this; exact this
end TL

namespace TL
open Go Go.Proofs
variable {g h : PH} {N : List Nat} {K : Value → PH → Prop} {sb : Nat} {s : ShS} {v : VwR} {lA : Option Addr} {lC : Nat}

/-- a message by its cells -/
abbrev mV (m0 m1 m2 m3 m4 m5 : Int) (m6A : Option Addr) (m6N m6C : Nat) (m7 : Int) (m8 : List Int) (m9 m10 : Int) (m11 m12 : List Int) (m13A : Option Addr) (m13N m13C : Nat) : Value :=
  .agg ((.int .u8 m0 :: (.int .i64 m1 :: (.int .i64 m2 :: (.int .i64 m3 :: (.int .i64 m4 :: (.int .i64 m5 :: (.slice m6A m6N m6C :: (.int .i64 m7 :: (m8.map (Value.int .u8) ++ (.int .i64 m9 :: (.int .i64 m10 :: (m11.map (Value.int .u8) ++ (m12.map (Value.int .u8) ++ ([.slice m13A m13N m13C] : List Value))))))))))))))).toArray
theorem ackAt.sub {g' : PH} {p : Option Addr} {a : Option (Int × Int)} (x : ackAt g p a) (hs : g.Sub g') : ackAt g' p a := by
  unfold ackAt at x ⊢
  split at x
  · exact x
  · obtain ⟨b, T, fr, h1, h2⟩ := x
    exact ⟨b, T, fr, h1, hs _ _ h2⟩
theorem shotAt.sub {g' : PH} {p : Option Addr} {a : Option (Int × Int × List PrR)} (x : shotAt g p a) (hs : g.Sub g') : shotAt g' p a := by
  unfold shotAt at x ⊢
  split at x
  · exact x
  · obtain ⟨b, t, T, fr, h1, h2, h3⟩ := x
    exact ⟨b, t, T, fr, h1, hs _ _ h2, h3.sub hs⟩
theorem ShipAt.keep {g' h' : PH} (x : ShipAt g N h sb s) (hs : g.Sub g') (hk : ∀ b ∈ N, ∀ o, h b = some o → h' b = some o) : ShipAt g' N h' sb s := by
  obtain ⟨⟨pa, ps, tA, tN, tC, Bt, rfl, nB, hb, hbuf, ha, hsh⟩, hr⟩ := x
  exact ⟨⟨pa, ps, tA, tN, tC, Bt, rfl, nB, hk _ (by simp) _ hb, hbuf.keep fun b hb' => hk b (List.mem_cons_of_mem _ hb'), ha.sub hs, hsh.sub hs⟩, hr⟩
theorem ShipAt.stp {M M' : List Nat} {g' h' : PH} (x : ShipAt g N h sb s) (t : Stp g M h g' M' h') (d : Dj N M) : ShipAt g' N h' sb s :=
  x.keep t.gs fun b hb _ e => t.chg.keep e (d b hb)
theorem has1 {b : Nat} {o : Obj} (e : h b = some o) : Has [b] h := fun x hx => by
  rw [List.mem_singleton] at hx; subst hx; exact ⟨o, e⟩
theorem cShipNew (sp : Spl g N h) (hk : ∀ sb N' h', ShipAt g N' h' sb ⟨none, none, []⟩ → Stp g N h g (N' ++ N) h' → Dj N' N → K (.pointer (some ⟨sb, 0, none⟩)) h') : CallH Tryz.prog id_ship_New [] K h :=
  F_ship_New_ok (nwL fun b h1 _ hb1 c1 => hk b [b] h1 ⟨⟨none, none, none, 0, 0, [], rfl, by simp, hb1, Buf.nil _ _ _ _, rfl, rfl⟩, fun _ _ _ e => by cases e⟩ (sp.own c1 (has1 hb1)) (Dj.new sp.has c1))
section
variable {m0 m1 m2 m3 m4 m5 m7 m9 m10 : Int} {m6A m13A : Option Addr} {m6N m6C m13N m13C : Nat} {m8 m11 m12 : List Int}
theorem cAck (x : ShipAt g N h sb s) (sp : Spl g N h) (h8 : m8.length = 32) (h11 : m11.length = 32) (h12 : m12.length = 32)
    (hk : ∀ g' h', ShipAt g' N h' sb (ackV s m0 m2 m3).2 → Stp g N h g' N h' → K (.bool (ackV s m0 m2 m3).1) h') :
    CallH Tryz.prog id_ship_Ship_Ack [.pointer (some ⟨sb, 0, none⟩), mV m0 m1 m2 m3 m4 m5 m6A m6N m6C m7 m8 m9 m10 m11 m12 m13A m13N m13C] K h := by
  refine F_ship_Ship_Ack_ok h8 h11 h12 ⟨fun e => ?_, fun e => ?_⟩
  · have e : m0 ≠ 3 ∨ m2 < 0 := by simpa using e
    have hv : ackV s m0 m2 m3 = (false, s) := by unfold ackV; rw [if_pos e]
    rw [hv] at hk
    exact hk g h x (Stp.refl sp)
  · have e : ¬ (m0 ≠ 3 ∨ m2 < 0) := fun hh => by
      have : (((Option.isNone (some (⟨sb, 0, none⟩ : Addr))) || (m0 != (3 : Int))) || (decide (m2 < (0 : Int)))) = true := by simpa using hh
      rw [this] at e; cases e
    have hv : ackV s m0 m2 m3 = (true, { s with ack := some (m2, m3) }) := by unfold ackV; rw [if_neg e]
    rw [hv] at hk
    obtain ⟨⟨pa, ps, tA, tN, tC, Bt, rfl, nB, hb, hbuf, ha, hsh⟩, hr⟩ := x
    refine nwL (cs := [.int .i64 m2, .int .i64 m3]) fun ba h1 hbn hb1 c1 => ⟨sb, 0, rfl, ?_⟩
    have st1 := sp.new c1
    have nsb : sb ≠ ba := fun e => by subst e; rw [hb] at hbn; cases hbn
    refine stL (c1.keep hb (by simp)) rfl rfl fun h2 hb2 c2 => ?_
    have st2 := st1.spl.chg (c2.head (B := Bt)) (fun b hb' => by
      rcases List.mem_cons.1 hb' with rfl | hb'
      · exact ⟨_, hb2⟩
      · obtain ⟨o, ho⟩ := st1.spl.has b (List.mem_cons_of_mem _ hb')
        exact ⟨o, c2.keep ho (notIn1 nB b hb')⟩)
    refine hk _ h2 ⟨⟨some ⟨ba, 0, none⟩, ps, tA, tN, tC, Bt, rfl, nB, hb2, ?_, ?_, ?_⟩, hr⟩ (st1.trans st2)
    · exact (hbuf.chg c1 (Dj.nil _)).chg c2 (notIn1 nB)
    · exact ⟨ba, _, _, rfl, by rw [plus_in (by simp)]; exact hb1⟩
    · exact hsh.sub st1.gs
end
/-- the block of a ship's new copy -/
def shotBlk (sb : Nat) (v : VwR) (bv : Nat) (K : Value → PH → Prop) (Jv : Unit → PH → Prop) (h3 : PH) : Prop :=
  CallH Tryz.prog id_tree_Of [.slice v.pA v.prs.length v.pC] (fun v_3 h8 =>
    ∃ t0_3 : Option Addr, ∃ t1_3 : Int, v_3 = .tuple #[.pointer t0_3, .int .i64 t1_3] ∧
    (((t1_3 != (0 : Int)) = true →
        K (.slice (some ⟨bv, 0, none⟩) 1 1) h8) ∧
      ((t1_3 != (0 : Int)) = false →
        newH h8 (.cells #[.int .i64 v.at_, .int .i64 v.ae, .pointer t0_3] T_ship_shot (0, 0)) fun bv_16 h9 =>
        ∃ bv_17 ov_15 : Nat, (some ⟨sb, 0, none⟩ : Option Addr) = some ⟨bv_17, ov_15, none⟩ ∧
        stH h9 bv_17 (ov_15 + 1) [.pointer (some ⟨bv_16, 0, none⟩)] fun h10 =>
        ∃ bv_18 ov_16 : Nat, (some ⟨sb, 0, none⟩ : Option Addr) = some ⟨bv_18, ov_16, none⟩ ∧
        ∃ (tA_2 : Option Addr) (tN_2 tC_2 : Nat), (h10.rds bv_18 (ov_16 + 2) 1 = some [.slice tA_2 tN_2 tC_2]) ∧
        CallH Tryz.prog id_tree_Tree_Texts [.pointer t0_3] (fun v_4 h11 =>
          ∃ (tA_3 : Option Addr) (tN_3 tC_3 : Nat), v_4 = .slice tA_3 tN_3 tC_3 ∧
          (h11.rds bv_18 (ov_16 + 2) 1 = some [.slice tA_2 tN_2 tC_2]) ∧
          ∃ vs_1 : List Value, srcH h11 tA_3 (tN_3 * 1) vs_1 ∧
          appH 9 1 16 [.string (⟨#[]⟩ : ByteArray)] tA_2 tN_2 tC_2 tN_3 vs_1 (fun tA_4 tN_4 tC_4 h12 =>
            ∃ bv_19 ov_17 : Nat, (some ⟨sb, 0, none⟩ : Option Addr) = some ⟨bv_19, ov_17, none⟩ ∧
            stH h12 bv_19 (ov_17 + 2) [.slice tA_4 tN_4 tC_4] fun h13 =>
            Jv (()) h13) h11) h10))) h3
theorem cOf3 {h : PH} {K : Value → PH → Prop} {l : List PrR} (hl : SR EncPr h lA l) (hn : l.length ≤ 1000) (hs : ∀ x ∈ l, x.p.length ≤ 1000000)
    (h1 : mayB l = true ∧ l.length ≤ 48 → ∀ b h', Tr b h' l → h b = none → Chg [] [b] h h' → K (.tuple #[.pointer (some ⟨b, 0, none⟩), .int .i64 (0 : Int)]) h')
    (h2 : ¬ (mayB l = true ∧ l.length ≤ 48) → ∀ e : Int, (e = 1 ∨ e = 6) → (e = 1 ↔ mayB l = false) → K (.tuple #[.pointer none, .int .i64 e]) h) : CallH Tryz.prog id_tree_Of [.slice lA l.length lC] K h := by
  by_cases hm : mayB l = true
  · by_cases h48 : l.length ≤ 48
    · exact cOfT hl hm h48 (h1 ⟨hm, h48⟩)
    · exact F_tree_Of_ok (cMay hl (by omega) hs ⟨_, rfl, fun e => (by rw [hm] at e; cases e), fun _ => ⟨fun _ => h2 (fun hh => h48 hh.2) 6 (.inr rfl) ⟨fun e => (by omega), fun e => (by rw [hm] at e; cases e)⟩, fun e => (by simp at e; omega)⟩⟩)
  · exact cOfNo hl (by omega) hs (by simpa using hm) (h2 (fun hh => hm hh.1) 1 (.inl rfl) ⟨fun _ => by simpa using hm, fun _ => rfl⟩)
/-- a new copy, in memory -/
theorem mkShot {bv : Nat} {Jv : Unit → PH → Prop} (x : ShipAt g N h sb s) (sp : Spl g ([bv] ++ N) h) (hd : bv ∉ N) (vw : VwOk g v) (hat : -9223372036854775808 ≤ v.at_ ∧ v.at_ ≤ 9223372036854775807) (htl : s.texts.length ≤ 100000)
    (hno : ¬ (mayB v.prs = true ∧ v.prs.length ≤ 48) → ∀ h', Stp g ([bv] ++ N) h g ([bv] ++ N) h' → (∀ b ∈ [bv] ++ N, ∀ o, h b = some o → h' b = some o) → K (.slice (some ⟨bv, 0, none⟩) 1 1) h')
    (hyes : mayB v.prs = true ∧ v.prs.length ≤ 48 → ∀ g' N' h', ShipAt g' N' h' sb { s with shot := some (v.at_, v.ae, v.prs), texts := s.texts ++ textsT v.prs } → Stp g ([bv] ++ N) h g' ([bv] ++ N') h' → bv ∉ N' → (∀ o, h bv = some o → h' bv = some o) → Jv () h') :
    shotBlk sb v bv K Jv h := by
  obtain ⟨⟨pa, ps, tA, tN, tC, Bt, rfl, nB, hb, hbuf, ha, hsh⟩, hr⟩ := x
  have hbs : bv ≠ sb := fun e => hd (e ▸ List.mem_cons_self)
  have hbB : bv ∉ Bt := fun e => hd (List.mem_cons_of_mem _ e)
  refine sp.call (K := fun v' g' => ((mayB v.prs = true ∧ v.prs.length ≤ 48) ∧ ∃ b, v' = .tuple #[.pointer (some ⟨b, 0, none⟩), .int .i64 (0 : Int)] ∧ Tr b g' v.prs ∧ g.Sub g') ∨ (¬ (mayB v.prs = true ∧ v.prs.length ≤ 48) ∧ (∃ e : Int, (e = 1 ∨ e = 6) ∧ v' = .tuple #[.pointer none, .int .i64 e]) ∧ g' = g))
    (cOf3 vw.prs vw.pn vw.pl (fun hok b g' t hn c => .inl ⟨hok, b, rfl, t, c.sub0⟩) (fun hn e he _ => .inr ⟨hn, ⟨e, he, rfl⟩, rfl⟩)) ?_
  rintro v' g1 h8 (⟨hok, b, rfl, t8, s8⟩ | ⟨hn, ⟨e, he, rfl⟩, rfl⟩) st
  rotate_left
  · obtain ⟨st8, same8⟩ := st (PH.Sub.rf _)
    exact ⟨_, _, rfl, fun _ => hno hn h8 st8 same8, fun e2 => by rcases he with rfl | rfl <;> simp at e2⟩
  obtain ⟨st8, same8⟩ := st s8
  refine ⟨_, _, rfl, fun e => by simp at e, fun _ => nwL (cs := [.int .i64 v.at_, .int .i64 v.ae, .pointer (some ⟨b, 0, none⟩)]) fun bs h9 hsn hb9 c9 => ⟨sb, 0, rfl, ?_⟩⟩
  have st9 := st8.spl.new c9
  have hbs9 := c9.keep (same8 sb (by simp) _ hb) (by simp)
  refine stL hbs9 rfl rfl fun h10 hb10 c10 => ⟨sb, 0, rfl, _, _, _, rdsL hb10 rfl rfl, ?_⟩
  have keepB : ∀ {q : Nat}, q ∈ Bt → q ∉ [sb] := fun {q} hq hm => notIn1 nB q hq hm
  have st10 := st9.spl.chg ((c10.head (B := Bt)).tail (b := bv)) (fun q hq => by
    rcases List.mem_cons.1 hq with rfl | hq
    · obtain ⟨o, ho⟩ := st9.spl.has q (by simp)
      exact ⟨o, c10.keep ho (by simpa using hbs)⟩
    · rcases List.mem_cons.1 hq with rfl | hq
      · exact ⟨_, hb10⟩
      · obtain ⟨o, ho⟩ := st9.spl.has q (by simp [hq])
        exact ⟨o, c10.keep ho (keepB hq)⟩)
  have t9 : Tr b (PH.plus g1 h9 [bs]) v.prs := t8.sub st9.gs
  refine st10.spl.call (K := fun v' g' => ∃ a' c', v' = .slice a' (textsT v.prs).length c' ∧ SR EncS g' a' (textsT v.prs) ∧ (PH.plus g1 h9 [bs]).Sub g') (cTexts t9 fun a' c' B' h' hb' hc' => ⟨a', c', rfl, hb'.sr, hc'.sub0⟩) ?_
  rintro _ g11 h11 ⟨aT, cT, rfl, srT, s11⟩ st
  obtain ⟨st11, same11⟩ := st s11
  have hb11 := same11 sb (by simp) _ hb10
  have hbuf11 : Buf EncS 9 Bt h11 tA tN tC s.texts := (((hbuf.keep fun q hq o e => same8 q (by simp [hq]) o e).chg c9 (Dj.nil _)).chg c10 fun q hq => keepB hq).keep fun q hq o e => same11 q (by simp [hq]) o e
  refine ⟨_, _, _, rfl, rdsL hb11 rfl rfl, EncS.row (textsT v.prs), (srT.sub st11.spl.sub).src, hbuf11.append (new := textsT v.prs) rfl rfl rfl (by rw [hbuf11.1, texts_len]; omega) fun a' c' B2 h12 hb12 c12 _ => ⟨sb, 0, rfl, ?_⟩⟩
  have hsb12 := c12.keep hb11 nB
  have nB2 : sb ∉ B2 := c12.fresh hb11 nB
  obtain ⟨obv, hobv⟩ := st11.spl.has bv (by simp)
  have hbv12 := c12.keep hobv hbB
  have nbv2 : bv ∉ B2 := c12.fresh hobv hbB
  have st12 := st11.spl.chg ((c12.tail (b := sb)).tail (b := bv)) (fun q hq => by
    rcases List.mem_cons.1 hq with rfl | hq
    · exact ⟨_, hbv12⟩
    · rcases List.mem_cons.1 hq with rfl | hq
      · exact ⟨_, hsb12⟩
      · exact hb12.has q hq)
  refine stL hsb12 rfl rfl fun h13 hb13 c13 => ?_
  have hbv13 := c13.keep hbv12 (by simpa using hbs)
  have hb12' := hb12.chg c13 (notIn1 nB2)
  have st13 := st12.spl.chg ((c13.head (B := B2)).tail (b := bv)) (fun q hq => by
    rcases List.mem_cons.1 hq with rfl | hq
    · exact ⟨_, hbv13⟩
    · rcases List.mem_cons.1 hq with rfl | hq
      · exact ⟨_, hb13⟩
      · exact hb12'.has q hq)
  have stAll := ((((st8.trans st9).trans st10).trans st11).trans st12).trans st13
  refine hyes hok g11 (sb :: B2) h13 ⟨⟨pa, some ⟨bs, 0, none⟩, a', _, c', B2, rfl, nB2, hb13, ?_, ha.sub (((st8.gs.tr st9.gs)).tr s11), ?_⟩, fun x y S e => ?_⟩ stAll (fun hm => ?_) (fun o e => ?_)
  · exact hb12'
  · exact ⟨bs, b, _, _, rfl, s11 _ _ (by rw [plus_in (by simp)]; exact hb9), t9.sub s11⟩
  · dsimp only at e; cases e; exact hat
  · rcases List.mem_cons.1 hm with h | h
    · exact hbs h
    · exact nbv2 h
  · have e8 := same8 bv (by simp) _ e
    have e9 := c9.keep e8 (by simp)
    have e10 := c10.keep e9 (by simpa using hbs)
    have e11 := same11 bv (by simp) _ e10
    exact c13.keep (c12.keep e11 hbB) (by simpa using hbs)
end TL

namespace TL
open Go Go.Proofs
/- twinlock/walk.New -/
def F_walk_New (baseA : Option Addr) (baseN baseC : Nat) (root : List Int) (K : Value → PH → Prop) (h : PH) : Prop :=
  CallH Tryz.prog id_tree_Of [.slice baseA baseN baseC] (fun v h1 =>
    ∃ t0 : Option Addr, ∃ t1 : Int, v = .tuple #[.pointer t0, .int .i64 t1] ∧
    (((t1 != (0 : Int)) = true →
        K (.tuple #[.pointer none, .int .i64 t1]) h1) ∧
      ((t1 != (0 : Int)) = false →
        JoinP (T := Option Addr × Unit) (fun Jv =>
          (newH h1 (.map #[] 0) fun bv h3 =>
            (newH h3 (.map #[] 0) fun bv_1 h4 =>
              CallH Tryz.prog id_tree_Tree_Texts [.pointer t0] (fun v_1 h5 =>
                ∃ (tA : Option Addr) (tN tC : Nat), v_1 = .slice tA tN tC ∧
                newH h5 (.cells ((.pointer t0 :: (root.map (Value.int .u8) ++ ([.map (some bv), .map (some bv_1), .slice tA tN tC] : List Value)))).toArray T_walk_Walk (0, 0)) fun bv_2 h6 =>
                Jv ((some ⟨bv_2, 0, none⟩), ()) h6) h4) ∧
            (CallH Tryz.prog id_tree_Tree_Texts [.pointer t0] (fun v_2 h7 =>
                ∃ (tA_1 : Option Addr) (tN_1 tC_1 : Nat), v_2 = .slice tA_1 tN_1 tC_1 ∧
                newH h7 (.map #[] 0) fun bv_3 h8 =>
                newH h8 (.cells ((.pointer t0 :: (root.map (Value.int .u8) ++ ([.map (some bv), .map (some bv_3), .slice tA_1 tN_1 tC_1] : List Value)))).toArray T_walk_Walk (0, 0)) fun bv_4 h9 =>
                Jv ((some ⟨bv_4, 0, none⟩), ()) h9) h3)) ∧
          ((newH h1 (.map #[] 0) fun bv_5 h10 =>
              (newH h10 (.map #[] 0) fun bv_6 h11 =>
                CallH Tryz.prog id_tree_Tree_Texts [.pointer t0] (fun v_3 h12 =>
                  ∃ (tA_2 : Option Addr) (tN_2 tC_2 : Nat), v_3 = .slice tA_2 tN_2 tC_2 ∧
                  newH h12 (.cells ((.pointer t0 :: (root.map (Value.int .u8) ++ ([.map (some bv_6), .map (some bv_5), .slice tA_2 tN_2 tC_2] : List Value)))).toArray T_walk_Walk (0, 0)) fun bv_7 h13 =>
                  Jv ((some ⟨bv_7, 0, none⟩), ()) h13) h11) ∧
              (CallH Tryz.prog id_tree_Tree_Texts [.pointer t0] (fun v_4 h14 =>
                  ∃ (tA_3 : Option Addr) (tN_3 tC_3 : Nat), v_4 = .slice tA_3 tN_3 tC_3 ∧
                  newH h14 (.map #[] 0) fun bv_8 h15 =>
                  newH h15 (.cells ((.pointer t0 :: (root.map (Value.int .u8) ++ ([.map (some bv_8), .map (some bv_5), .slice tA_3 tN_3 tC_3] : List Value)))).toArray T_walk_Walk (0, 0)) fun bv_9 h16 =>
                  Jv ((some ⟨bv_9, 0, none⟩), ()) h16) h10)) ∧
            (CallH Tryz.prog id_tree_Tree_Texts [.pointer t0] (fun v_5 h17 =>
                ∃ (tA_4 : Option Addr) (tN_4 tC_4 : Nat), v_5 = .slice tA_4 tN_4 tC_4 ∧
                (newH h17 (.map #[] 0) fun bv_10 h18 =>
                  newH h18 (.map #[] 0) fun bv_11 h19 =>
                  newH h19 (.cells ((.pointer t0 :: (root.map (Value.int .u8) ++ ([.map (some bv_10), .map (some bv_11), .slice tA_4 tN_4 tC_4] : List Value)))).toArray T_walk_Walk (0, 0)) fun bv_12 h20 =>
                  Jv ((some ⟨bv_12, 0, none⟩), ()) h20) ∧
                (newH h17 (.map #[] 0) fun bv_13 h21 =>
                  newH h21 (.map #[] 0) fun bv_14 h22 =>
                  newH h22 (.cells ((.pointer t0 :: (root.map (Value.int .u8) ++ ([.map (some bv_14), .map (some bv_13), .slice tA_4 tN_4 tC_4] : List Value)))).toArray T_walk_Walk (0, 0)) fun bv_15 h23 =>
                  Jv ((some ⟨bv_15, 0, none⟩), ()) h23)) h1)))
        (fun st h2 =>
          CallH Tryz.prog id_walk_Walk_ask [.pointer st.1, .agg #[.int .i64 (0 : Int), .int .i64 (0 : Int)], .agg ((root.map (Value.int .u8) ++ [])).toArray] (fun _ h24 =>
            K (.tuple #[.pointer st.1, .int .i64 (0 : Int)]) h24) h2)))) h
theorem F_walk_New_eq {baseA : Option Addr} {baseN baseC : Nat} {root : List Int} {K : Value → PH → Prop} {h : PH} : @Eq Prop (F_walk_New baseA baseN baseC root K h) (denF Tryz.prog Tryz.f39 ⟨[3], [(4, .one 0 (.one 1 (.one 4 (.alt 2 (.alt 3 (.of [5, 6, 7, 8]) (.of [5, 3, 6, 7, 8])) (.alt 3 (.alt 2 (.of [5, 6, 7, 8]) (.of [5, 2, 6, 7, 8])) (.one 5 (.alt 2 (.of [3, 6, 7, 8]) (.of [3, 2, 6, 7, 8]))))))))], [], [(12, ⟨[(8, .ptr)], [], []⟩)]⟩ [.v (.slice baseA baseN baseC), .agg [.ints .u8 32 root]] K h) := by
  kernel_rfl
theorem F_walk_New_ok {baseA : Option Addr} {baseN baseC : Nat} {root : List Int} (hk0 : root.length = 32) {K : Value → PH → Prop} {h : PH} (hh : F_walk_New baseA baseN baseC root K h) : CallH Tryz.prog id_walk_New [.slice baseA baseN baseC, .agg ((root.map (Value.int .u8) ++ [])).toArray] K h :=
  denF_sound' Tryz.func39 (H := ⟨[3], [(4, .one 0 (.one 1 (.one 4 (.alt 2 (.alt 3 (.of [5, 6, 7, 8]) (.of [5, 3, 6, 7, 8])) (.alt 3 (.alt 2 (.of [5, 6, 7, 8]) (.of [5, 2, 6, 7, 8])) (.one 5 (.alt 2 (.of [3, 6, 7, 8]) (.of [3, 2, 6, 7, 8]))))))))], [], [(12, ⟨[(8, .ptr)], [], []⟩)]⟩) (xs := [.v (.slice baseA baseN baseC), .agg [.ints .u8 32 root]]) (by kernel_rfl) (⟨rfl, ⟨hk0, trivial⟩, trivial⟩) (den_of F_walk_New_eq hh)

/- (*twinlock/walk.Walk).Want -/
def F_walk_Walk_Want (w : Option Addr) (n : Int) (K : Value → PH → Prop) (h : PH) : Prop :=
  CallH Tryz.prog id_walk_Walk_none [.pointer w] (fun v h1 =>
    ∃ t : Bool, v = .bool t ∧
    (((t || (decide (n < (1 : Int)))) = true →
        K (.slice none 0 0) h1) ∧
      ((t || (decide (n < (1 : Int)))) = false →
        ∃ bv ov : Nat, w = some ⟨bv, ov, none⟩ ∧
        ∃ t_1 : Option Nat, (h1.rds bv (ov + 33) 1 = some [.map t_1]) ∧
        CallH Tryz.prog id_maps_Keys_map_walk_Ask_api_Hash_walk_Ask_api_Hash [.map t_1] (fun v_1 h2 =>
          ∃ t_2 : Value, one1 t_2 = true ∧ v_1 = t_2 ∧
          CallH Tryz.prog id_slices_SortedFunc_walk_Ask [t_2, .func (.func 116) #[] #[]] (fun v_2 h3 =>
            ∃ (lA : Option Addr) (lN lC : Nat), v_2 = .slice lA lN lC ∧
            (0 ≤ (0 : Int) ∧ (0 : Int) ≤ (minV n ((lN : Nat) : Int)) ∧ (minV n ((lN : Nat) : Int)) ≤ ((lC : Nat) : Int) ∧ ((lC : Nat) : Int) ≤ (lC : Nat)) ∧
            K (.slice (slA lA 2 (0 : Int) ((lC : Nat) : Int)) ((minV n ((lN : Nat) : Int)).toNat - (0 : Int).toNat) (((lC : Nat) : Int).toNat - (0 : Int).toNat)) h3) h2) h1))) h
theorem F_walk_Walk_Want_eq {w : Option Addr} {n : Int} {K : Value → PH → Prop} {h : PH} : @Eq Prop (F_walk_Walk_Want w n K h) (denF Tryz.prog Tryz.f40 ⟨[], [], [], []⟩ [.v (.pointer w), .v (.int .i64 n)] K h) := by
  kernel_rfl
theorem F_walk_Walk_Want_ok {w : Option Addr} {n : Int}  {K : Value → PH → Prop} {h : PH} (hh : F_walk_Walk_Want w n K h) : CallH Tryz.prog id_walk_Walk_Want [.pointer w, .int .i64 n] K h :=
  denF_sound' Tryz.func40 (H := ⟨[], [], [], []⟩) (xs := [.v (.pointer w), .v (.int .i64 n)]) (by kernel_rfl) (⟨rfl, rfl, trivial⟩) (den_of F_walk_Walk_Want_eq hh)

/- (*twinlock/walk.Walk).Node -/
def F_walk_Walk_Node (w : Option Addr) (level : Int) (i : Int) (leftv : List Int) (rightv : List Int) (K : Value → PH → Prop) (h : PH) : Prop :=
  newH h (.cells ((leftv.map (Value.int .u8) ++ [])).toArray T_api_Hash (0, 0)) fun bv h1 =>
  newH h1 (.cells ((rightv.map (Value.int .u8) ++ [])).toArray T_api_Hash (0, 0)) fun bv_1 h2 =>
  CallH Tryz.prog id_walk_Walk_none [.pointer w] (fun v h3 =>
    ∃ t : Bool, v = .bool t ∧
    ((((t || (decide (level < (0 : Int)))) || (decide (level ≥ (4 : Int)))) = true →
        K (.bool false) h3) ∧
      (((t || (decide (level < (0 : Int)))) || (decide (level ≥ (4 : Int)))) = false →
        ∃ t_1 : List Int, t_1.length = 32 ∧ (h3.rds bv 0 32 = some (t_1.map (Value.int .u8) ++ [])) ∧
        ∃ t_2 : List Int, t_2.length = 32 ∧ (h3.rds bv_1 0 32 = some (t_2.map (Value.int .u8) ++ [])) ∧
        (0 ≤ (0 : Int) ∧ (0 : Int) ≤ ((32 : Nat) : Int) ∧ ((32 : Nat) : Int) ≤ ((32 : Nat) : Int) ∧ ((32 : Nat) : Int) ≤ (32 : Nat)) ∧
        ∃ t_3 : ByteArray, strH h3 (slA (some ⟨bv, 0, none⟩ : Option Addr) 1 (0 : Int) ((32 : Nat) : Int)) (((32 : Nat) : Int).toNat - (0 : Int).toNat) t_3 ∧
        (((ByteArray.size (⟨#[78]⟩ : ByteArray) + ByteArray.size t_3 : Nat) : Int) ≤ 9223372036854775807) ∧
        (0 ≤ (0 : Int) ∧ (0 : Int) ≤ ((32 : Nat) : Int) ∧ ((32 : Nat) : Int) ≤ ((32 : Nat) : Int) ∧ ((32 : Nat) : Int) ≤ (32 : Nat)) ∧
        ∃ t_4 : ByteArray, strH h3 (slA (some ⟨bv_1, 0, none⟩ : Option Addr) 1 (0 : Int) ((32 : Nat) : Int)) (((32 : Nat) : Int).toNat - (0 : Int).toNat) t_4 ∧
        (((ByteArray.size ((⟨#[78]⟩ : ByteArray) ++ t_3) + ByteArray.size t_4 : Nat) : Int) ≤ 9223372036854775807) ∧
        CallH Tryz.prog id_tree_Inner [.agg ((t_1.map (Value.int .u8) ++ [])).toArray, .agg ((t_2.map (Value.int .u8) ++ [])).toArray] (fun v_1 h4 =>
          ∃ t_5 : List Int, t_5.length = 32 ∧ v_1 = .agg ((t_5.map (Value.int .u8) ++ [])).toArray ∧
          (strH h4 (slA (some ⟨bv_1, 0, none⟩ : Option Addr) 1 (0 : Int) ((32 : Nat) : Int)) (((32 : Nat) : Int).toNat - (0 : Int).toNat) t_4) ∧
          (strH h4 (slA (some ⟨bv, 0, none⟩ : Option Addr) 1 (0 : Int) ((32 : Nat) : Int)) (((32 : Nat) : Int).toNat - (0 : Int).toNat) t_3) ∧
          CallH Tryz.prog id_walk_Walk_fits [.pointer w, .agg #[.int .i64 level, .int .i64 i], .agg ((t_5.map (Value.int .u8) ++ [])).toArray, .string (((⟨#[78]⟩ : ByteArray) ++ t_3) ++ t_4)] (fun v_2 h5 =>
            ∃ t_6 : Bool, v_2 = .bool t_6 ∧
            (((!t_6) = true →
                K (.bool false) h5) ∧
              ((!t_6) = false →
                ∃ t_7 : List Int, t_7.length = 32 ∧ (h5.rds bv 0 32 = some (t_7.map (Value.int .u8) ++ [])) ∧
                CallH Tryz.prog id_walk_Walk_ask [.pointer w, .agg #[.int .i64 (IntKind.wrap .i64 (level + (1 : Int))), .int .i64 (IntKind.wrap .i64 ((2 : Int) * i))], .agg ((t_7.map (Value.int .u8) ++ [])).toArray] (fun _ h6 =>
                  ∃ t_8 : List Int, t_8.length = 32 ∧ (h6.rds bv_1 0 32 = some (t_8.map (Value.int .u8) ++ [])) ∧
                  CallH Tryz.prog id_walk_Walk_ask [.pointer w, .agg #[.int .i64 (IntKind.wrap .i64 (level + (1 : Int))), .int .i64 (IntKind.wrap .i64 ((IntKind.wrap .i64 ((2 : Int) * i)) + (1 : Int)))], .agg ((t_8.map (Value.int .u8) ++ [])).toArray] (fun _ h7 =>
                    K (.bool true) h7) h6) h5))) h4) h3))) h2
theorem F_walk_Walk_Node_eq {w : Option Addr} {level : Int} {i : Int} {leftv : List Int} {rightv : List Int} {K : Value → PH → Prop} {h : PH} : @Eq Prop (F_walk_Walk_Node w level i leftv rightv K h) (denF Tryz.prog Tryz.f42 ⟨[], [(3, .of [0, 1, 2, 3, 4, 5, 7, 8, 9, 10, 11, 12, 6, 13, 14])], [], []⟩ [.v (.pointer w), .v (.int .i64 level), .v (.int .i64 i), .agg [.ints .u8 32 leftv], .agg [.ints .u8 32 rightv]] K h) := by
  kernel_rfl
theorem F_walk_Walk_Node_ok {w : Option Addr} {level : Int} {i : Int} {leftv : List Int} {rightv : List Int} (hk0 : leftv.length = 32) (hk1 : rightv.length = 32) {K : Value → PH → Prop} {h : PH} (hh : F_walk_Walk_Node w level i leftv rightv K h) : CallH Tryz.prog id_walk_Walk_Node [.pointer w, .int .i64 level, .int .i64 i, .agg ((leftv.map (Value.int .u8) ++ [])).toArray, .agg ((rightv.map (Value.int .u8) ++ [])).toArray] K h :=
  denF_sound' Tryz.func42 (H := ⟨[], [(3, .of [0, 1, 2, 3, 4, 5, 7, 8, 9, 10, 11, 12, 6, 13, 14])], [], []⟩) (xs := [.v (.pointer w), .v (.int .i64 level), .v (.int .i64 i), .agg [.ints .u8 32 leftv], .agg [.ints .u8 32 rightv]]) (by kernel_rfl) (⟨rfl, rfl, rfl, ⟨hk0, trivial⟩, ⟨hk1, trivial⟩, trivial⟩) (den_of F_walk_Walk_Node_eq hh)

/- (*twinlock/walk.Walk).Page -/
def F_walk_Walk_Page (w : Option Addr) (i : Int) (lA : Option Addr) (lN lC : Nat) (K : Value → PH → Prop) (h : PH) : Prop :=
  CallH Tryz.prog id_walk_Walk_none [.pointer w] (fun v h1 =>
    ∃ t : Bool, v = .bool t ∧
    ((t = true →
        K (.bool false) h1) ∧
      (t = false →
        CallH Tryz.prog id_bucket_Page [.int .i64 i, .slice lA lN lC] (fun v_1 h2 =>
          ∃ t0 : ByteArray, ∃ t1 : Int, v_1 = .tuple #[.string t0, .int .i64 t1] ∧
          (((t1 != (0 : Int)) = false →
              CallH Tryz.prog id_tree_Leaf [.string t0] (fun v_2 h3 =>
                ∃ t_1 : List Int, t_1.length = 32 ∧ v_2 = .agg ((t_1.map (Value.int .u8) ++ [])).toArray ∧
                (((ByteArray.size (⟨#[76]⟩ : ByteArray) + ByteArray.size t0 : Nat) : Int) ≤ 9223372036854775807) ∧
                CallH Tryz.prog id_walk_Walk_fits [.pointer w, .agg #[.int .i64 (4 : Int), .int .i64 i], .agg ((t_1.map (Value.int .u8) ++ [])).toArray, .string ((⟨#[76]⟩ : ByteArray) ++ t0)] (fun v_3 h4 =>
                  ∃ t_2 : Bool, v_3 = .bool t_2 ∧
                  (((!t_2) = true →
                      K (.bool false) h4) ∧
                    ((!t_2) = false →
                      ∃ bv ov : Nat, w = some ⟨bv, ov, none⟩ ∧
                      ∃ t_3 : Option Nat, (h4.rds bv (ov + 34) 1 = some [.map t_3]) ∧
                      CallH Tryz.prog id_slices_Clone_api_Pair_api_Pair [.slice lA lN lC] (fun v_4 h5 =>
                        ∃ (tA : Option Addr) (tN tC : Nat), v_4 = .slice tA tN tC ∧
                        (h5.rds bv (ov + 34) 1 = some [.map t_3]) ∧
                        muH (.int .i64) h5 t_3 (.int .i64 i) (.slice tA tN tC) fun h6 =>
                        K (.bool true) h6) h4))) h3) h2) ∧
            ((t1 != (0 : Int)) = true →
              K (.bool false) h2))) h1))) h
theorem F_walk_Walk_Page_eq {w : Option Addr} {i : Int} {lA : Option Addr} {lN lC : Nat} {K : Value → PH → Prop} {h : PH} : @Eq Prop (F_walk_Walk_Page w i lA lN lC K h) (denF Tryz.prog Tryz.f43 ⟨[], [], [], []⟩ [.v (.pointer w), .v (.int .i64 i), .v (.slice lA lN lC)] K h) := by
  kernel_rfl
theorem F_walk_Walk_Page_ok {w : Option Addr} {i : Int} {lA : Option Addr} {lN lC : Nat}  {K : Value → PH → Prop} {h : PH} (hh : F_walk_Walk_Page w i lA lN lC K h) : CallH Tryz.prog id_walk_Walk_Page [.pointer w, .int .i64 i, .slice lA lN lC] K h :=
  denF_sound' Tryz.func43 (H := ⟨[], [], [], []⟩) (xs := [.v (.pointer w), .v (.int .i64 i), .v (.slice lA lN lC)]) (by kernel_rfl) (⟨rfl, rfl, rfl, trivial⟩) (den_of F_walk_Walk_Page_eq hh)

/- (*twinlock/walk.Walk).Done -/
def F_walk_Walk_Done (w : Option Addr) (K : Value → PH → Prop) (h : PH) : Prop :=
  JoinP (T := Unit) (fun Jv =>
    CallH Tryz.prog id_walk_Walk_none [.pointer w] (fun v h2 =>
      ∃ t : Bool, v = .bool t ∧
      ∃ bv ov : Nat, (t = false → w = some ⟨bv, ov, none⟩) ∧
      ∃ t_1 : Option Nat, ((t = false → h2.rds bv (ov + 33) 1 = some [.map t_1])) ∧
      ((t = false →
          ∃ tN : Nat, lenM h2 t_1 tN ∧
          (((decide (((tN : Nat) : Int) > (0 : Int))) = true →
              K (.tuple #[.slice none 0 0, .bool false]) h2) ∧
            ((decide (((tN : Nat) : Int) > (0 : Int))) = false →
              Jv (()) h2))) ∧
        (t = true →
          K (.tuple #[.slice none 0 0, .bool false]) h2))) h)
  (fun _ h1 =>
    LoopP (T := (Option Addr × Nat × Nat) × Int × Unit) (fun Jv_1 st_1 h3 =>
      (((decide (st_1.2.1 < (16 : Int))) = true →
          ∃ bv_1 ov_1 : Nat, w = some ⟨bv_1, ov_1, none⟩ ∧
          ∃ t_2 : Option Nat, (h3.rds bv_1 (ov_1 + 34) 1 = some [.map t_2]) ∧
          ∃ (tA : Option Addr) (tN_1 tC : Nat), ∃ ok : Bool, lkH (.int .i64) h3 t_2 (.int .i64 st_1.2.1) (.slice none 0 0) (.slice tA tN_1 tC) ok ∧
          (((!ok) = true →
              ∃ bv_2 ov_2 : Nat, w = some ⟨bv_2, ov_2, none⟩ ∧
              ∃ t_3 : Option Addr, (h3.rds bv_2 ov_2 1 = some [.pointer t_3]) ∧
              CallH Tryz.prog id_tree_Tree_Pairs [.pointer t_3, .int .i64 st_1.2.1] (fun v_1 h4 =>
                ∃ (partA : Option Addr) (partN partC : Nat), v_1 = .slice partA partN partC ∧
                ∃ vs : List Value, srcH h4 partA (partN * 2) vs ∧
                appH T_api_Pair 2 32 [.string (⟨#[]⟩ : ByteArray), .string (⟨#[]⟩ : ByteArray)] st_1.1.1 st_1.1.2.1 st_1.1.2.2 partN vs (fun lA lN lC h5 =>
                  Jv_1 ((lA, lN, lC), (IntKind.wrap .i64 (st_1.2.1 + (1 : Int))), ()) h5) h4) h3) ∧
            ((!ok) = false →
              ∃ vs_1 : List Value, srcH h3 tA (tN_1 * 2) vs_1 ∧
              appH T_api_Pair 2 32 [.string (⟨#[]⟩ : ByteArray), .string (⟨#[]⟩ : ByteArray)] st_1.1.1 st_1.1.2.1 st_1.1.2.2 tN_1 vs_1 (fun lA_1 lN_1 lC_1 h6 =>
                Jv_1 ((lA_1, lN_1, lC_1), (IntKind.wrap .i64 (st_1.2.1 + (1 : Int))), ()) h6) h3))) ∧
        ((decide (st_1.2.1 < (16 : Int))) = false →
          (((decide (((st_1.1.2.1 : Nat) : Int) > (48 : Int))) = true →
              K (.tuple #[.slice none 0 0, .bool false]) h3) ∧
            ((decide (((st_1.1.2.1 : Nat) : Int) > (48 : Int))) = false →
              CallH Tryz.prog id_slices_SortFunc_api_Pair_api_Pair [.slice st_1.1.1 st_1.1.2.1 st_1.1.2.2, .func (.func 122) #[] #[]] (fun _ h7 =>
                K (.tuple #[.slice st_1.1.1 st_1.1.2.1 st_1.1.2.2, .bool true]) h7) h3))))) ((none, 0, 0), (0 : Int), ()) h1)
theorem F_walk_Walk_Done_eq {w : Option Addr} {K : Value → PH → Prop} {h : PH} : @Eq Prop (F_walk_Walk_Done w K h) (denF Tryz.prog Tryz.f44 ⟨[], [], [(0, ⟨[(4, .slice), (18, .int .i64)], [], []⟩)], [(8, ⟨[], [], []⟩)]⟩ [.v (.pointer w)] K h) := by
  kernel_rfl
theorem F_walk_Walk_Done_ok {w : Option Addr}  {K : Value → PH → Prop} {h : PH} (hh : F_walk_Walk_Done w K h) : CallH Tryz.prog id_walk_Walk_Done [.pointer w] K h :=
  denF_sound' Tryz.func44 (H := ⟨[], [], [(0, ⟨[(4, .slice), (18, .int .i64)], [], []⟩)], [(8, ⟨[], [], []⟩)]⟩) (xs := [.v (.pointer w)]) (by kernel_rfl) (⟨rfl, trivial⟩) (den_of F_walk_Walk_Done_eq hh)

/- (*twinlock/walk.Walk).Texts -/
def F_walk_Walk_Texts (w : Option Addr) (K : Value → PH → Prop) (h : PH) : Prop :=
  CallH Tryz.prog id_walk_Walk_none [.pointer w] (fun v h1 =>
    ∃ t : Bool, v = .bool t ∧
    ((t = true →
        K (.slice none 0 0) h1) ∧
      (t = false →
        ∃ bv ov : Nat, w = some ⟨bv, ov, none⟩ ∧
        ∃ (tA : Option Addr) (tN tC : Nat), (h1.rds bv (ov + 35) 1 = some [.slice tA tN tC]) ∧
        CallH Tryz.prog id_slices_Clone_string_string [.slice tA tN tC] (fun v_1 h2 =>
          ∃ (tA_1 : Option Addr) (tN_1 tC_1 : Nat), v_1 = .slice tA_1 tN_1 tC_1 ∧
          K (.slice tA_1 tN_1 tC_1) h2) h1))) h
theorem F_walk_Walk_Texts_eq {w : Option Addr} {K : Value → PH → Prop} {h : PH} : @Eq Prop (F_walk_Walk_Texts w K h) (denF Tryz.prog Tryz.f47 ⟨[], [], [], []⟩ [.v (.pointer w)] K h) := by
  kernel_rfl
theorem F_walk_Walk_Texts_ok {w : Option Addr}  {K : Value → PH → Prop} {h : PH} (hh : F_walk_Walk_Texts w K h) : CallH Tryz.prog id_walk_Walk_Texts [.pointer w] K h :=
  denF_sound' Tryz.func47 (H := ⟨[], [], [], []⟩) (xs := [.v (.pointer w)]) (by kernel_rfl) (⟨rfl, trivial⟩) (den_of F_walk_Walk_Texts_eq hh)

/- (*twinlock/walk.Walk).Root -/
/- (*twinlock/walk.Walk).ask -/
def F_walk_Walk_ask (w : Option Addr) (a0 : Int) (a1 : Int) (hv : List Int) (K : Value → PH → Prop) (h : PH) : Prop :=
  ∃ bv ov : Nat, w = some ⟨bv, ov, none⟩ ∧
  ∃ t : Option Addr, (h.rds bv ov 1 = some [.pointer t]) ∧
  (CallH Tryz.prog id_tree_Tree_Node [.pointer t, .int .i64 a0, .int .i64 a1] (fun v h1 =>
      ∃ t0 : List Int, t0.length = 32 ∧ ∃ t1 : Bool, v = .tuple #[.agg ((t0.map (Value.int .u8) ++ [])).toArray, .bool t1] ∧
      (((!(t0 == hv)) = true →
          ∃ bv_1 ov_1 : Nat, w = some ⟨bv_1, ov_1, none⟩ ∧
          ∃ t_1 : Option Nat, (h1.rds bv_1 (ov_1 + 33) 1 = some [.map t_1]) ∧
          muH (.rec2 .i64 .i64) h1 t_1 (.agg #[.int .i64 a0, .int .i64 a1]) (.agg ((hv.map (Value.int .u8) ++ [])).toArray) fun h2 =>
          K (.tuple #[]) h2) ∧
        ((!(t0 == hv)) = false →
          K (.tuple #[]) h1))) h) ∧
  (CallH Tryz.prog id_tree_Tree_Node [.pointer t, .int .i64 a0, .int .i64 a1] (fun v_1 h3 =>
      ∃ t0_1 : List Int, t0_1.length = 32 ∧ ∃ t1_1 : Bool, v_1 = .tuple #[.agg ((t0_1.map (Value.int .u8) ++ [])).toArray, .bool t1_1] ∧
      (((!(t0_1 == hv)) = true →
          ∃ bv_2 ov_2 : Nat, w = some ⟨bv_2, ov_2, none⟩ ∧
          ∃ t_2 : Option Nat, (h3.rds bv_2 (ov_2 + 33) 1 = some [.map t_2]) ∧
          muH (.rec2 .i64 .i64) h3 t_2 (.agg #[.int .i64 a0, .int .i64 a1]) (.agg ((hv.map (Value.int .u8) ++ [])).toArray) fun h4 =>
          K (.tuple #[]) h4) ∧
        ((!(t0_1 == hv)) = false →
          K (.tuple #[]) h3))) h)
theorem F_walk_Walk_ask_eq {w : Option Addr} {a0 : Int} {a1 : Int} {hv : List Int} {K : Value → PH → Prop} {h : PH} : @Eq Prop (F_walk_Walk_ask w a0 a1 hv K h) (denF Tryz.prog Tryz.f112 ⟨[4, 5, 6], [(1, .one 0 (.one 1 (.one 2 (.one 3 (.one 4 (.one 5 (.one 6 (.one 7 (.alt 8 (.of [9, 10, 11, 12, 13, 14]) (.of [12, 8, 9, 10, 11, 13, 14]))))))))))], [], []⟩ [.v (.pointer w), .agg [.one (.int .i64 a0), .one (.int .i64 a1)], .agg [.ints .u8 32 hv]] K h) := by
  kernel_rfl
theorem F_walk_Walk_ask_ok {w : Option Addr} {a0 : Int} {a1 : Int} {hv : List Int} (hk0 : hv.length = 32) {K : Value → PH → Prop} {h : PH} (hh : F_walk_Walk_ask w a0 a1 hv K h) : CallH Tryz.prog id_walk_Walk_ask [.pointer w, .agg #[.int .i64 a0, .int .i64 a1], .agg ((hv.map (Value.int .u8) ++ [])).toArray] K h :=
  denF_sound' Tryz.func112 (H := ⟨[4, 5, 6], [(1, .one 0 (.one 1 (.one 2 (.one 3 (.one 4 (.one 5 (.one 6 (.one 7 (.alt 8 (.of [9, 10, 11, 12, 13, 14]) (.of [12, 8, 9, 10, 11, 13, 14]))))))))))], [], []⟩) (xs := [.v (.pointer w), .agg [.one (.int .i64 a0), .one (.int .i64 a1)], .agg [.ints .u8 32 hv]]) (by kernel_rfl) (⟨rfl, ⟨rfl, rfl, trivial⟩, ⟨hk0, trivial⟩, trivial⟩) (den_of F_walk_Walk_ask_eq hh)

/- (*twinlock/walk.Walk).none -/
def F_walk_Walk_none (w : Option Addr) (K : Value → PH → Prop) (h : PH) : Prop :=
  ∃ bv ov : Nat, ((Option.isNone w) = false → w = some ⟨bv, ov, none⟩) ∧
  ∃ t : Option Addr, (((Option.isNone w) = false → h.rds bv ov 1 = some [.pointer t])) ∧
  K (.bool ((Option.isNone w) || (Option.isNone t))) h
theorem F_walk_Walk_none_eq {w : Option Addr} {K : Value → PH → Prop} {h : PH} : @Eq Prop (F_walk_Walk_none w K h) (denF Tryz.prog Tryz.f113 ⟨[], [], [], []⟩ [.v (.pointer w)] K h) := by
  kernel_rfl
theorem F_walk_Walk_none_ok {w : Option Addr}  {K : Value → PH → Prop} {h : PH} (hh : F_walk_Walk_none w K h) : CallH Tryz.prog id_walk_Walk_none [.pointer w] K h :=
  denF_sound' Tryz.func113 (H := ⟨[], [], [], []⟩) (xs := [.v (.pointer w)]) (by kernel_rfl) (⟨rfl, trivial⟩) (den_of F_walk_Walk_none_eq hh)

/- maps.Keys[map[twinlock/walk.Ask]twinlock/api.Hash,twinlock/walk.Ask,twinlock/api.Hash] -/
def F_maps_Keys_map_walk_Ask_api_Hash_walk_Ask_api_Hash (m : Option Nat) (K : Value → PH → Prop) (h : PH) : Prop :=
  newH h (.cells #[.map m] 184 (0, 0)) fun bv h1 =>
  K (.func (.func 151) #[] #[.pointer (some ⟨bv, 0, none⟩)]) h1
theorem F_maps_Keys_map_walk_Ask_api_Hash_walk_Ask_api_Hash_eq {m : Option Nat} {K : Value → PH → Prop} {h : PH} : @Eq Prop (F_maps_Keys_map_walk_Ask_api_Hash_walk_Ask_api_Hash m K h) (denF Tryz.prog Tryz.f115 ⟨[], [], [], []⟩ [.v (.map m)] K h) := by
  kernel_rfl
theorem F_maps_Keys_map_walk_Ask_api_Hash_walk_Ask_api_Hash_ok {m : Option Nat}  {K : Value → PH → Prop} {h : PH} (hh : F_maps_Keys_map_walk_Ask_api_Hash_walk_Ask_api_Hash m K h) : CallH Tryz.prog id_maps_Keys_map_walk_Ask_api_Hash_walk_Ask_api_Hash [.map m] K h :=
  denF_sound' Tryz.func115 (H := ⟨[], [], [], []⟩) (xs := [.v (.map m)]) (by kernel_rfl) (⟨rfl, trivial⟩) (den_of F_maps_Keys_map_walk_Ask_api_Hash_walk_Ask_api_Hash_eq hh)

/- (*twinlock/walk.Walk).fits -/
def F_walk_Walk_fits (w : Option Addr) (a0 : Int) (a1 : Int) (hv : List Int) (text : ByteArray) (K : Value → PH → Prop) (h : PH) : Prop :=
  ∃ bv ov : Nat, w = some ⟨bv, ov, none⟩ ∧
  ∃ t : Option Nat, (h.rds bv (ov + 33) 1 = some [.map t]) ∧
  ∃ t_1 : List Int, t_1.length = 32 ∧ ∃ ok : Bool, lkH (.rec2 .i64 .i64) h t (.agg #[.int .i64 a0, .int .i64 a1]) (.agg (((List.replicate 32 0).map (Value.int .u8) ++ [])).toArray) (.agg ((t_1.map (Value.int .u8) ++ [])).toArray) ok ∧
  ((((!ok) || (!(t_1 == hv))) = true →
      K (.bool false) h) ∧
    (((!ok) || (!(t_1 == hv))) = false →
      ∃ bv_1 ov_1 : Nat, w = some ⟨bv_1, ov_1, none⟩ ∧
      ∃ t_2 : Option Nat, (h.rds bv_1 (ov_1 + 33) 1 = some [.map t_2]) ∧
      mdH (.rec2 .i64 .i64) h t_2 (.agg #[.int .i64 a0, .int .i64 a1]) fun h1 =>
      ∃ bv_2 ov_2 : Nat, w = some ⟨bv_2, ov_2, none⟩ ∧
      ∃ (tA : Option Addr) (tN tC : Nat), (h1.rds bv_2 (ov_2 + 35) 1 = some [.slice tA tN tC]) ∧
      appH 9 1 16 [.string (⟨#[]⟩ : ByteArray)] tA tN tC 1 [.string text] (fun tA_1 tN_1 tC_1 h2 =>
        ∃ bv_3 ov_3 : Nat, w = some ⟨bv_3, ov_3, none⟩ ∧
        stH h2 bv_3 (ov_3 + 35) [.slice tA_1 tN_1 tC_1] fun h3 =>
        K (.bool true) h3) h1))
theorem F_walk_Walk_fits_eq {w : Option Addr} {a0 : Int} {a1 : Int} {hv : List Int} {text : ByteArray} {K : Value → PH → Prop} {h : PH} : @Eq Prop (F_walk_Walk_fits w a0 a1 hv text K h) (denF Tryz.prog Tryz.f119 ⟨[5, 6, 9, 38], [], [], []⟩ [.v (.pointer w), .agg [.one (.int .i64 a0), .one (.int .i64 a1)], .agg [.ints .u8 32 hv], .v (.string text)] K h) := by
  kernel_rfl
theorem F_walk_Walk_fits_ok {w : Option Addr} {a0 : Int} {a1 : Int} {hv : List Int} {text : ByteArray} (hk0 : hv.length = 32) {K : Value → PH → Prop} {h : PH} (hh : F_walk_Walk_fits w a0 a1 hv text K h) : CallH Tryz.prog id_walk_Walk_fits [.pointer w, .agg #[.int .i64 a0, .int .i64 a1], .agg ((hv.map (Value.int .u8) ++ [])).toArray, .string text] K h :=
  denF_sound' Tryz.func119 (H := ⟨[5, 6, 9, 38], [], [], []⟩) (xs := [.v (.pointer w), .agg [.one (.int .i64 a0), .one (.int .i64 a1)], .agg [.ints .u8 32 hv], .v (.string text)]) (by kernel_rfl) (⟨rfl, ⟨rfl, rfl, trivial⟩, ⟨hk0, trivial⟩, rfl, trivial⟩) (den_of F_walk_Walk_fits_eq hh)

end TL

namespace TL
open Go Go.Proofs
/-- where a node is -/
def askP (k : Nat) : Int × Int := ((k.log2 : Nat), ((k - 2 ^ k.log2 : Nat) : Int))
theorem askP_inj0 : ∀ a : Nat, a < 32 → ∀ b : Nat, b < 32 → (1 ≤ a ∧ 1 ≤ b ∧ (askP a).1 = (askP b).1 ∧ (askP a).2 = (askP b).2) → a = b := by decide +kernel
theorem askP_inj (a : Nat) (ha : a < 32) (b : Nat) (hb : b < 32) (h1 : 1 ≤ a) (h2 : 1 ≤ b) (e : askP a = askP b) : a = b := askP_inj0 a ha b hb ⟨h1, h2, by rw [e], by rw [e]⟩
theorem askP_lt0 : ∀ a : Nat, a < 32 → ∀ b : Nat, b < 32 → (1 ≤ a ∧ 1 ≤ b) → (ltA (askP a) (askP b) ↔ a < b) := by decide +kernel
theorem askP_lt (a : Nat) (ha : a < 32) (b : Nat) (hb : b < 32) (h1 : 1 ≤ a) (h2 : 1 ≤ b) : ltA (askP a) (askP b) ↔ a < b := askP_lt0 a ha b hb ⟨h1, h2⟩
theorem askP_at0 : ∀ lv : Nat, lv < 5 → ∀ i : Nat, i < 16 → i < 2 ^ lv → (askP (2 ^ lv + i)).1 = (lv : Int) ∧ (askP (2 ^ lv + i)).2 = (i : Int) := by decide +kernel
theorem askP_at (lv : Nat) (h1 : lv < 5) (i : Nat) (h2 : i < 16) (h3 : i < 2 ^ lv) : askP (2 ^ lv + i) = ((lv : Int), (i : Int)) := Prod.ext (askP_at0 lv h1 i h2 h3).1 (askP_at0 lv h1 i h2 h3).2
theorem askP_in : ∀ k, k < 32 → 1 ≤ k → k.log2 ≤ 4 ∧ k - 2 ^ k.log2 < 2 ^ k.log2 ∧ 2 ^ k.log2 + (k - 2 ^ k.log2) = k := by decide +kernel
theorem keyV_inj {x y : Int × Int} (h : keyV x = keyV y) : x = y := by
  unfold keyV at h
  obtain ⟨a, b⟩ := x
  obtain ⟨c, d⟩ := y
  simp only [Value.agg.injEq, Array.mk.injEq, List.cons.injEq, Value.int.injEq, true_and, and_true] at h
  rw [h.1, h.2]
theorem keyV_ok (x : Int × Int) : kOk (.rec2 .i64 .i64) (keyV x) = true := rfl
theorem keyV_keq (x y : Int × Int) : keq (keyV x) (keyV y) = decide (x = y) := by
  rw [Bool.eq_iff_iff, keq_eq (keyV_ok x) (keyV_ok y), decide_eq_true_eq]
  exact ⟨keyV_inj, fun e => by rw [e]⟩
def hashV (x : List UInt8) : Value := .agg (((bi x).map (Value.int .u8) ++ [])).toArray
theorem upM_born (es : List MapEntry) (k v : Value) (c : Nat) (h1 : ∀ e ∈ es, e.born < c) (h2 : (es.map (·.born)).Nodup) : (∀ e ∈ (upM es k v c).1, e.born < (upM es k v c).2) ∧ ((upM es k v c).1.map (·.born)).Nodup := by
  unfold upM
  split
  · rename_i i p hf
    have hm : (es.modify i fun e => { e with key := k, val := v }).map (·.born) = es.map (·.born) := by
      apply List.ext_getElem
      · simp
      · intro j h4 h5
        simp only [List.getElem_map, List.getElem_modify]
        split <;> rfl
    refine ⟨fun e he => ?_, by dsimp only; rw [hm]; exact h2⟩
    dsimp only at he ⊢
    have h3 : e.born ∈ (es.modify i fun e => { e with key := k, val := v }).map (·.born) := List.mem_map.2 ⟨e, he, rfl⟩
    rw [hm] at h3
    obtain ⟨e', he', e3⟩ := List.mem_map.1 h3
    rw [← e3]; exact h1 e' he'
  · refine ⟨fun e he => ?_, ?_⟩
    · dsimp only at he ⊢
      rcases List.mem_append.1 he with he | he
      · exact Nat.lt_succ_of_lt (h1 e he)
      · rw [List.mem_singleton] at he; subst he; exact Nat.lt_succ_self c
    · dsimp only
      rw [List.map_append, List.nodup_append]
      refine ⟨h2, by simp, fun a ha b hb => ?_⟩
      obtain ⟨e, he, rfl⟩ := List.mem_map.1 ha
      simp at hb; subst hb
      exact Nat.ne_of_lt (h1 e he)
/-- what is asked for, as a map's entries -/
structure AskMapE (es : List MapEntry) (c : Nat) (A : Nat → Option (List UInt8)) : Prop where
  key : ∀ e ∈ es, ∃ k, 1 ≤ k ∧ k < 32 ∧ e.key = keyV (askP k)
  at_ : ∀ k, 1 ≤ k → k < 32 → va es (keyV (askP k)) = (A k).map hashV
  nd : NdK es
  old : ∀ e ∈ es, e.born < c
  bn : (es.map (·.born)).Nodup
section
variable {es : List MapEntry} {c : Nat} {A : Nat → Option (List UInt8)}
theorem AskMapE.new : AskMapE [] 0 fun _ => none := ⟨fun _ h => (by cases h), fun _ _ _ => rfl, List.Pairwise.nil, fun _ h => (by cases h), List.nodup_nil⟩
theorem AskMapE.kOk (x : AskMapE es c A) : ∀ e ∈ es, kOk (.rec2 .i64 .i64) e.key = true := fun e he => by
  obtain ⟨k, _, _, h⟩ := x.key e he
  rw [h]; rfl
theorem AskMapE.out (x : AskMapE es c A) {p : Int × Int} (hp : ∀ k, 1 ≤ k → k < 32 → askP k ≠ p) : va es (keyV p) = none := va_none.2 fun e he => by
  obtain ⟨k, h1, h2, h⟩ := x.key e he
  rw [h, keyV_keq]
  exact decide_eq_false fun e => hp k h1 h2 e.symm
theorem AskMapE.put (x : AskMapE es c A) {k : Nat} (h1 : 1 ≤ k) (h2 : k < 32) (v : List UInt8) : AskMapE (upM es (keyV (askP k)) (hashV v) c).1 (upM es (keyV (askP k)) (hashV v) c).2 (upF A k (some v)) := by
  obtain ⟨b1, b2⟩ := upM_born es (keyV (askP k)) (hashV v) c x.old x.bn
  refine ⟨fun e he => ?_, fun k' h1' h2' => ?_, x.nd.upM (keyV_ok _) x.kOk, b1, b2⟩
  · unfold upM at he
    split at he
    · dsimp only at he
      obtain ⟨i, hi, rfl⟩ := List.getElem_of_mem he
      rw [List.getElem_modify]
      split
      · exact ⟨k, h1, h2, rfl⟩
      · exact x.key _ (List.getElem_mem _)
    · dsimp only at he
      rcases List.mem_append.1 he with he | he
      · exact x.key e he
      · rw [List.mem_singleton] at he; subst he; exact ⟨k, h1, h2, rfl⟩
  · rw [va_upM x.kOk (keyV_ok _) (keyV_ok _), keyV_keq]
    by_cases e : k' = k
    · subst e; simp [upF]
    · rw [if_neg (by simp only [decide_eq_true_eq]; exact fun e2 => e (askP_inj k' h2' k h2 h1' h1 e2)), x.at_ k' h1' h2', upF_ne _ _ e]
theorem AskMapE.del (x : AskMapE es c A) {k : Nat} (h1 : 1 ≤ k) (h2 : k < 32) : AskMapE (dlM es (keyV (askP k))) c (upF A k none) := by
  have hs := dlM_sub es (keyV (askP k))
  refine ⟨fun e he => x.key e (hs.subset he), fun k' h1' h2' => ?_, x.nd.dlM _, fun e he => x.old e (hs.subset he), x.bn.sublist (hs.map _)⟩
  rw [va_dlM x.kOk x.nd (keyV_ok _) (keyV_ok _), keyV_keq]
  by_cases e : k' = k
  · subst e; simp [upF]
  · rw [if_neg (by simp only [decide_eq_true_eq]; exact fun e2 => e (askP_inj k' h2' k h2 h1' h1 e2)), x.at_ k' h1' h2', upF_ne _ _ e]
end
/-- what is staged, as a map's entries -/
structure PartMapE (g : PH) (es : List MapEntry) (Q : Nat → Option (List PrR)) : Prop where
  key : ∀ e ∈ es, kOk (.int .i64) e.key = true
  no : ∀ i : Nat, i < 16 → Q i = none → va es (.int .i64 (i : Int)) = none
  yes : ∀ (i : Nat) l, i < 16 → Q i = some l → ∃ a c, va es (.int .i64 (i : Int)) = some (.slice a l.length c) ∧ SR EncPr g a l
theorem PartMapE.new {g : PH} : PartMapE g [] fun _ => none := ⟨fun _ h => (by cases h), fun _ _ _ => rfl, fun _ _ _ h => by cases h⟩
theorem PartMapE.sub {g g' : PH} {es : List MapEntry} {Q : Nat → Option (List PrR)} (x : PartMapE g es Q) (s : g.Sub g') : PartMapE g' es Q := ⟨x.key, x.no, fun i l hi h => by
  obtain ⟨a, c, h1, h2⟩ := x.yes i l hi h
  exact ⟨a, c, h1, h2.sub s⟩⟩
theorem PartMapE.put {g : PH} {es : List MapEntry} {Q : Nat → Option (List PrR)} {c : Nat} (x : PartMapE g es Q) {i : Nat} (_ : i < 16) {l : List PrR} {a : Option Addr} {sc : Nat} (hl : SR EncPr g a l) : PartMapE g (upM es (.int .i64 (i : Int)) (.slice a l.length sc) c).1 (upF Q i (some l)) := by
  have hkq : ∀ j : Nat, keq (.int .i64 (j : Int)) (.int .i64 (i : Int)) = decide (j = i) := fun j => by
    show (((j : Nat) : Int) == ((i : Nat) : Int)) = _
    rw [Bool.eq_iff_iff, beq_iff_eq, decide_eq_true_eq]; omega
  refine ⟨upM_keys rfl x.key, fun j hj hq => ?_, fun j m hj hq => ?_⟩
  · have e : j ≠ i := fun e => by subst e; rw [upF_same] at hq; cases hq
    rw [upF_ne _ _ e] at hq
    rw [va_upM x.key rfl rfl, hkq, if_neg (by simpa using e)]
    exact x.no j hj hq
  · rw [va_upM x.key rfl rfl, hkq]
    by_cases e : j = i
    · subst e
      rw [upF_same] at hq; cases hq
      exact ⟨a, sc, by simp, hl⟩
    · rw [upF_ne _ _ e] at hq
      obtain ⟨a', c', q1, q2⟩ := x.yes j m hj hq
      exact ⟨a', c', by rw [if_neg (by simpa using e)]; exact q1, q2⟩
/-- a walk's cells -/
def walkC (tb : Nat) (R : List UInt8) (ra rp : Nat) (tA : Option Addr) (tN tC : Nat) : List Value := .pointer (some ⟨tb, 0, none⟩) :: ((bi R).map (Value.int .u8) ++ [.map (some ra), .map (some rp), .slice tA tN tC])
structure WalkAt (g : PH) (N : List Nat) (h : PH) (wb : Nat) (s : WS) : Prop where
  mem : ∃ tb ra rp esA cA esP cP tA tN tC Bt, N = wb :: ra :: rp :: Bt ∧ wb ≠ ra ∧ wb ≠ rp ∧ ra ≠ rp ∧ wb ∉ Bt ∧ ra ∉ Bt ∧ rp ∉ Bt ∧ h wb = some (.cells (walkC tb s.R ra rp tA tN tC).toArray T_walk_Walk (0, 0)) ∧ Tr tb g s.S ∧
    h ra = some (.map (esA : List MapEntry).toArray cA) ∧ AskMapE esA cA s.A ∧ h rp = some (.map (esP : List MapEntry).toArray cP) ∧ PartMapE g esP s.Q ∧ Buf EncS 9 Bt h tA tN tC s.T
  R : s.R.length = 32
  al : ∀ k x, s.A k = some x → x.length = 32
section
variable {g h : PH} {N : List Nat} {K : Value → PH → Prop} {wb : Nat} {s : WS}
theorem WalkAt.keep {g' h' : PH} (x : WalkAt g N h wb s) (hs : g.Sub g') (hk : ∀ b ∈ N, ∀ o, h b = some o → h' b = some o) : WalkAt g' N h' wb s := by
  obtain ⟨⟨tb, ra, rp, esA, cA, esP, cP, tA, tN, tC, Bt, rfl, d1, d2, d3, d4, d5, d6, hw, ht, ha, hA, hp, hP, hB⟩, hR, hL⟩ := x
  exact ⟨⟨tb, ra, rp, esA, cA, esP, cP, tA, tN, tC, Bt, rfl, d1, d2, d3, d4, d5, d6, hk _ (by simp) _ hw, ht.sub hs, hk _ (by simp) _ ha, hA, hk _ (by simp) _ hp, hP.sub hs, hB.keep fun b hb => hk b (by simp [hb])⟩, hR, hL⟩
theorem WalkAt.stp {M M' : List Nat} {g' h' : PH} (x : WalkAt g N h wb s) (t : Stp g M h g' M' h') (d : Dj N M) : WalkAt g' N h' wb s :=
  x.keep t.gs fun b hb _ e => t.chg.keep e (d b hb)
section
variable {tb ra rp : Nat} {R : List UInt8} {tA : Option Addr} {tN tC : Nat} {T : TypeId} {fr : Nat × Nat}
theorem wk_base (hw : h wb = some (.cells (walkC tb R ra rp tA tN tC).toArray T fr)) : h.rds wb 0 1 = some [.pointer (some ⟨tb, 0, none⟩)] := rds_mid' (pre := []) hw rfl rfl rfl
theorem wk_ask (hw : h wb = some (.cells (walkC tb R ra rp tA tN tC).toArray T fr)) (hR : R.length = 32) : h.rds wb (0 + 33) 1 = some [.map (some ra)] :=
  rds_mid' (pre := .pointer (some ⟨tb, 0, none⟩) :: (bi R).map (Value.int .u8)) (post := [.map (some rp), .slice tA tN tC]) hw (by simp [walkC]) (by rw [List.length_cons, List.length_map, bi_len, hR]) rfl
theorem wk_part (hw : h wb = some (.cells (walkC tb R ra rp tA tN tC).toArray T fr)) (hR : R.length = 32) : h.rds wb (0 + 34) 1 = some [.map (some rp)] :=
  rds_mid' (pre := .pointer (some ⟨tb, 0, none⟩) :: ((bi R).map (Value.int .u8) ++ [.map (some ra)])) (post := [.slice tA tN tC]) hw (by simp [walkC]) (by simp [bi_len, hR]) rfl
theorem wk_text (hw : h wb = some (.cells (walkC tb R ra rp tA tN tC).toArray T fr)) (hR : R.length = 32) : h.rds wb (0 + 35) 1 = some [.slice tA tN tC] :=
  rds_mid' (pre := .pointer (some ⟨tb, 0, none⟩) :: ((bi R).map (Value.int .u8) ++ [.map (some ra), .map (some rp)])) (post := []) hw (by simp [walkC]) (by simp [bi_len, hR]) rfl
theorem wk_setText (hw : h wb = some (.cells (walkC tb R ra rp tA tN tC).toArray T (0, 0))) (hR : R.length = 32) {a' : Option Addr} {n' c' : Nat} {KK : PH → Prop} (hk : ∀ h', h' wb = some (.cells (walkC tb R ra rp a' n' c').toArray T (0, 0)) → Chg [wb] [wb] h h' → KK h') : stH h wb (0 + 35) [.slice a' n' c'] KK :=
  st_mid' (pre := .pointer (some ⟨tb, 0, none⟩) :: ((bi R).map (Value.int .u8) ++ [.map (some ra), .map (some rp)])) (mid := [.slice tA tN tC]) (post := []) hw (by simp [walkC]) (by simp [walkC]) (by simp [bi_len, hR]) rfl hk
end
theorem cWNone (x : WalkAt g N h wb s) (hk : K (.bool false) h) : CallH Tryz.prog id_walk_Walk_none [.pointer (some ⟨wb, 0, none⟩)] K h := by
  obtain ⟨⟨tb, ra, rp, esA, cA, esP, cP, tA, tN, tC, Bt, rfl, d1, d2, d3, d4, d5, d6, hw, ht, ha, hA, hp, hP, hB⟩, hR, _⟩ := x
  exact F_walk_Walk_none_ok ⟨wb, 0, fun _ => rfl, _, fun _ => wk_base hw, hk⟩
theorem cWAsk (x : WalkAt g N h wb s) (sp : Spl g N h) {lv i : Nat} (hl : lv ≤ 4) (hi : i < 2 ^ lv) {v : List UInt8} (hv : v.length = 32)
    (hk : ∀ h', WalkAt g N h' wb { s with A := wAsk s.S s.A (2 ^ lv + i) v } → Stp g N h g N h' → K (.tuple #[]) h') :
    CallH Tryz.prog id_walk_Walk_ask [.pointer (some ⟨wb, 0, none⟩), .agg #[.int .i64 (lv : Int), .int .i64 (i : Int)], .agg (((bi v).map (Value.int .u8) ++ [])).toArray] K h := by
  have hi16 : i < 16 := Nat.lt_of_lt_of_le hi (Nat.pow_le_pow_right (by decide) hl)
  have hk1 : 1 ≤ 2 ^ lv + i := by have := Nat.one_le_two_pow (n := lv); omega
  have hk2 : 2 ^ lv + i < 32 := by
    have : 2 ^ lv ≤ 2 ^ 4 := Nat.pow_le_pow_right (by decide) hl
    omega
  have hap := askP_at lv (by omega) i hi16 hi
  obtain ⟨⟨tb, ra, rp, esA, cA, esP, cP, tA, tN, tC, Bt, rfl, d1, d2, d3, d4, d5, d6, hw, ht, ha, hA, hp, hP, hB⟩, hR, hL⟩ := id x
  have main : CallH Tryz.prog id_tree_Tree_Node [.pointer (some ⟨tb, 0, none⟩), .int .i64 (lv : Int), .int .i64 (i : Int)] (fun v_1 h1 =>
      ∃ t0 : List Int, t0.length = 32 ∧ ∃ t1 : Bool, v_1 = .tuple #[.agg ((t0.map (Value.int .u8) ++ [])).toArray, .bool t1] ∧
      (((!(t0 == bi v)) = true →
          ∃ bv_1 ov_1 : Nat, (some ⟨wb, 0, none⟩ : Option Addr) = some ⟨bv_1, ov_1, none⟩ ∧
          ∃ t_1 : Option Nat, (h1.rds bv_1 (ov_1 + 33) 1 = some [.map t_1]) ∧
          muH (.rec2 .i64 .i64) h1 t_1 (.agg #[.int .i64 (lv : Int), .int .i64 (i : Int)]) (.agg (((bi v).map (Value.int .u8) ++ [])).toArray) fun h2 =>
          K (.tuple #[]) h2) ∧
        ((!(t0 == bi v)) = false →
          K (.tuple #[]) h1))) h := by
    refine cNode (ht.sub sp.sub) hl hi ⟨bi (nd s.S (2 ^ lv + i)), by rw [bi_len, nd_len], true, rfl, fun e => ?_, fun e => ?_⟩
    · rw [bi_beq] at e
      have e : nd s.S (2 ^ lv + i) ≠ v := by simpa using e
      have hkey : (.agg #[.int .i64 (lv : Int), .int .i64 (i : Int)] : Value) = keyV (askP (2 ^ lv + i)) := by rw [hap]; rfl
      refine ⟨wb, 0, rfl, _, wk_ask hw hR, ra, esA, cA, rfl, ha, hA.kOk, ?_⟩
      have cc : Chg [ra] [ra] h (h.upd ra (.map (upM esA (keyV (askP (2 ^ lv + i))) (hashV v) cA).1.toArray (upM esA (keyV (askP (2 ^ lv + i))) (hashV v) cA).2)) := Chg.upd _
      rw [hkey]
      refine hk _ ⟨⟨tb, ra, rp, _, _, esP, cP, tA, tN, tC, Bt, rfl, d1, d2, d3, d4, d5, d6, cc.keep hw (by simpa using d1), ht, PH.upd_same _ _ _, ?_, cc.keep hp (by simpa using Ne.symm d3), hP, hB.chg cc fun b hb hm => ?_⟩, hR, fun k y hy => ?_⟩ ?_
      · have : wAsk s.S s.A (2 ^ lv + i) v = upF s.A (2 ^ lv + i) (some v) := by unfold wAsk; rw [if_neg e]
        show AskMapE _ _ (wAsk s.S s.A (2 ^ lv + i) v)
        rw [this]
        exact hA.put hk1 hk2 v
      · rw [List.mem_singleton] at hm; subst hm; exact d5 hb
      · have hy : wAsk s.S s.A (2 ^ lv + i) v k = some y := hy
        by_cases ek : k = 2 ^ lv + i
        · subst ek
          unfold wAsk at hy
          rw [if_neg e, upF_same] at hy; cases hy; exact hv
        · rw [wAsk_ne ek] at hy; exact hL k y hy
      · refine sp.chg (cc.sub (fun b hb => by simp at hb; subst hb; simp) fun b hb => .inr hb) fun b hb => ?_
        by_cases hbr : b = ra
        · subst hbr; exact ⟨_, PH.upd_same _ _ _⟩
        · obtain ⟨o, ho⟩ := sp.has b hb
          exact ⟨o, cc.keep ho (by simpa using hbr)⟩
    · rw [bi_beq] at e
      have e : nd s.S (2 ^ lv + i) = v := by simpa using e
      refine hk h ?_ (Stp.refl sp)
      have : wAsk s.S s.A (2 ^ lv + i) v = s.A := by unfold wAsk; rw [if_pos e]
      rw [this]; exact x
  exact F_walk_Walk_ask_ok (by rw [bi_len]; assumption) ⟨wb, 0, rfl, _, wk_base hw, main, main⟩
end
end TL

namespace TL
open Go Go.Proofs
variable {g h : PH} {N : List Nat} {K : Value → PH → Prop} {wb : Nat} {s : WS}
theorem cWFits (x : WalkAt g N h wb s) (sp : Spl g N h) {a0 a1 : Int} {v t : List UInt8} (hv : v.length = 32) (hT : s.T.length ≤ 100000)
    (hno : (∀ k, 1 ≤ k → k < 32 → askP k = (a0, a1) → s.A k ≠ some v) → K (.bool false) h)
    (hyes : ∀ k N' h', 1 ≤ k → k < 32 → askP k = (a0, a1) → s.A k = some v → WalkAt g N' h' wb { s with A := upF s.A k none, T := s.T ++ [t] } → Stp g N h g N' h' → K (.bool true) h') :
    CallH Tryz.prog id_walk_Walk_fits [.pointer (some ⟨wb, 0, none⟩), .agg #[.int .i64 a0, .int .i64 a1], .agg (((bi v).map (Value.int .u8) ++ [])).toArray, .string (mk t)] K h := by
  obtain ⟨⟨tb, ra, rp, esA, cA, esP, cP, tA, tN, tC, Bt, rfl, d1, d2, d3, d4, d5, d6, hw, ht, ha, hA, hp, hP, hB⟩, hR, hL⟩ := id x
  have hkey : (.agg #[.int .i64 a0, .int .i64 a1] : Value) = keyV (a0, a1) := rfl
  by_cases hk : ∃ k, 1 ≤ k ∧ k < 32 ∧ askP k = (a0, a1)
  · obtain ⟨k, k1, k2, hka⟩ := hk
    have hva := hA.at_ k k1 k2
    cases hAk : s.A k with
    | none =>
      refine F_walk_Walk_fits_ok (by rw [bi_len]; exact hv) ⟨wb, 0, rfl, _, wk_ask hw hR, List.replicate 32 0, by simp, false, ⟨esA, ⟨⟨cA, ha⟩, hA.kOk⟩, ?_⟩, fun _ => hno fun j j1 j2 hj e => ?_, fun e => by simp at e⟩
      · rw [lk_va, hkey, ← hka, hva, hAk]; rfl
      · have : j = k := askP_inj j j2 k k2 j1 k1 (hj.trans hka.symm)
        subst this; rw [hAk] at e; cases e
    | some y =>
      have hy := hL k y hAk
      refine F_walk_Walk_fits_ok (by rw [bi_len]; exact hv) ⟨wb, 0, rfl, _, wk_ask hw hR, bi y, by rw [bi_len]; exact hy, true, ⟨esA, ⟨⟨cA, ha⟩, hA.kOk⟩, ?_⟩, fun e => hno fun j j1 j2 hj e2 => ?_, fun e => ?_⟩
      · rw [lk_va, hkey, ← hka, hva, hAk]; rfl
      · have : j = k := askP_inj j j2 k k2 j1 k1 (hj.trans hka.symm)
        subst this; rw [hAk] at e2; cases e2
        simp at e
      · rw [bi_beq] at e
        have e : y = v := by simpa using e
        subst e
        refine ⟨wb, 0, rfl, _, wk_ask hw hR, ?_⟩
        unfold mdH
        refine ⟨fun e => (by cases e), fun r0 er => ?_⟩
        cases er
        refine ⟨esA, cA, ha, hA.kOk, wb, 0, rfl, ?_⟩
        have c1 : Chg [ra] [ra] h (h.upd ra (.map (dlM esA (.agg #[.int .i64 a0, .int .i64 a1])).toArray cA)) := Chg.upd _
        generalize hh1 : h.upd ra (.map (dlM esA (.agg #[.int .i64 a0, .int .i64 a1])).toArray cA) = h1 at c1 ⊢
        have ha1 : h1 ra = some (.map (dlM esA (.agg #[.int .i64 a0, .int .i64 a1])).toArray cA) := by rw [← hh1]; exact PH.upd_same _ _ _
        have hw1 := c1.keep hw (by simpa using d1)
        have hp1 := c1.keep hp (by simpa using Ne.symm d3)
        have hB1 := hB.chg c1 fun b hb hm => by rw [List.mem_singleton] at hm; subst hm; exact d5 hb
        have htn := hB.1
        refine ⟨_, _, _, wk_text hw1 hR, hB1.append (new := [t]) rfl rfl rfl (by omega) fun a2 n2 B2 h2 hb2 c2 _ => ⟨wb, 0, rfl, ?_⟩⟩
        have hw2 := c2.keep hw1 d4
        have ha2 := c2.keep ha1 d5
        have hp2 := c2.keep hp1 d6
        refine wk_setText hw2 hR fun h3 hw3 c3 => ?_
        have nin : ∀ {b : Nat} {o : Obj}, h1 b = some o → b ∉ Bt → b ∉ B2 := fun hb hn hm => by
          rcases c2.2 _ hm with h4 | h4
          · exact hn h4
          · rw [hb] at h4; cases h4
        have n1 := nin hw1 d4
        have n2' := nin ha1 d5
        have n3 := nin hp1 d6
        have ha3 := c3.keep ha2 (by simpa using Ne.symm d1)
        have hp3 := c3.keep hp2 (by simpa using Ne.symm d2)
        have hb3 := hb2.chg c3 fun b hb hm => by rw [List.mem_singleton] at hm; subst hm; exact n1 hb
        refine hyes k (wb :: ra :: rp :: B2) h3 k1 k2 hka hAk ⟨⟨tb, ra, rp, _, _, esP, cP, a2, tN + 1, n2, B2, rfl, d1, d2, d3, n1, n2', n3, hw3, ht, ha3, ?_, hp3, hP, hb3⟩, hR, fun j y hy => ?_⟩ ?_
        · rw [hkey, ← hka]; exact hA.del k1 k2
        · have hy : upF s.A k none j = some y := hy
          by_cases ej : j = k
          · subst ej; rw [upF_same] at hy; cases hy
          · rw [upF_ne _ _ ej] at hy; exact hL j y hy
        · have C1 : Chg (wb :: ra :: rp :: Bt) (wb :: ra :: rp :: Bt) h h1 := c1.sub (fun b hb => by simp at hb; subst hb; simp) fun b hb => .inr hb
          have C2 : Chg (wb :: ra :: rp :: Bt) (wb :: ra :: rp :: B2) h1 h2 := c2.right (C := [wb, ra, rp])
          have C3 : Chg (wb :: ra :: rp :: B2) (wb :: ra :: rp :: B2) h2 h3 := c3.sub (fun b hb => by simp at hb; subst hb; simp) fun b hb => .inr hb
          refine sp.chg ((C1.trans C2).trans C3) fun b hb => ?_
          simp only [List.mem_cons] at hb
          rcases hb with rfl | rfl | rfl | hb
          · exact ⟨_, hw3⟩
          · exact ⟨_, ha3⟩
          · exact ⟨_, hp3⟩
          · exact hb3.has b hb
  · have hout : va esA (keyV (a0, a1)) = none := hA.out fun k k1 k2 e => hk ⟨k, k1, k2, e⟩
    refine F_walk_Walk_fits_ok (by rw [bi_len]; exact hv) ⟨wb, 0, rfl, _, wk_ask hw hR, List.replicate 32 0, by simp, false, ⟨esA, ⟨⟨cA, ha⟩, hA.kOk⟩, ?_⟩, fun _ => hno fun j j1 j2 hj _ => hk ⟨j, j1, j2, hj⟩, fun e => by simp at e⟩
    rw [lk_va, hkey, hout]
theorem nwM {K : Nat → PH → Prop} (hk : ∀ b h', h b = none → h' b = some (.map #[] 0) → Chg [] [b] h h' → K b h') : newH h (.map #[] 0) K :=
  fun b hb => hk b _ hb (PH.upd_same ..) (Chg.new _ hb)
/-- a walk's first state, ahead of its first ask -/
def wNew0 (S : List PrR) (R : List UInt8) : WS := ⟨S, R, fun _ => none, fun _ => none, textsT S⟩
def NewJ (g : PH) (N : List Nat) (h : PH) (S : List PrR) (R : List UInt8) (st : Option Addr × Unit) (h' : PH) : Prop := ∃ wb N', st.1 = some ⟨wb, 0, none⟩ ∧ WalkAt g N' h' wb (wNew0 S R) ∧ Stp g N h g (N' ++ N) h' ∧ Dj N' N
theorem newFin {M Bt : List Nat} {h5 : PH} {tb ra rp : Nat} {tA : Option Addr} {tN tC : Nat} {S : List PrR} {R : List UInt8} (sp : Spl g N h) (c : Chg [] M h h5) (hM : ∀ b ∈ ra :: rp :: Bt, b ∈ M) (hR : R.length = 32) (ht : Tr tb g S) (ha : h5 ra = some (.map #[] 0)) (hp : h5 rp = some (.map #[] 0))
    (d3 : ra ≠ rp) (d5 : ra ∉ Bt) (d6 : rp ∉ Bt) (hB : Buf EncS 9 Bt h5 tA tN tC (textsT S)) :
    newH h5 (.cells (walkC tb R ra rp tA tN tC).toArray T_walk_Walk (0, 0)) fun bv h6 => NewJ g N h S R (some ⟨bv, 0, none⟩, ()) h6 := by
  refine nwL fun wb h6 hbn hw c6 => ?_
  have n1 : wb ≠ ra := fun e => by subst e; rw [ha] at hbn; cases hbn
  have n2 : wb ≠ rp := fun e => by subst e; rw [hp] at hbn; cases hbn
  have n4 : wb ∉ Bt := fun hm => by
    obtain ⟨o, ho⟩ := hB.has wb hm
    rw [ho] at hbn; cases hbn
  have ha6 := c6.sub0 _ _ ha
  have hp6 := c6.sub0 _ _ hp
  have hB6 := hB.sub c6.sub0
  have hH : Has (wb :: ra :: rp :: Bt) h6 := fun b hb => by
    simp only [List.mem_cons] at hb
    rcases hb with rfl | rfl | rfl | hb
    · exact ⟨_, hw⟩
    · exact ⟨_, ha6⟩
    · exact ⟨_, hp6⟩
    · exact hB6.has b hb
  have c7 : Chg [] (wb :: ra :: rp :: Bt) h h6 := ⟨fun b o _ e => c6.sub0 _ _ (c.sub0 _ _ e), fun b hb => by
    rcases List.mem_cons.1 hb with rfl | hb
    · cases e : h b with
      | none => exact .inr rfl
      | some o => rw [c.sub0 _ _ e] at hbn; cases hbn
    · exact c.2 b (hM b hb)⟩
  exact ⟨wb, wb :: ra :: rp :: Bt, rfl, ⟨⟨tb, ra, rp, [], 0, [], 0, tA, tN, tC, Bt, rfl, n1, n2, d3, n4, d5, d6, hw, ht, ha6, AskMapE.new, hp6, PartMapE.new, hB6⟩, hR, fun _ _ e => by cases e⟩, sp.own c7 hH, Dj.new sp.has c7⟩
end TL

namespace TL
open Go Go.Proofs
variable {g h : PH} {N : List Nat} {K : Value → PH → Prop} {wb : Nat} {s : WS}
theorem Chg.more {M M' : List Nat} {h h' h'' : PH} (c : Chg [] M h h') (c' : Chg [] M' h' h'') : Chg [] (M' ++ M) h h'' := ⟨fun b o _ e => c'.sub0 _ _ (c.sub0 _ _ e), fun b hb => by
  rcases List.mem_append.1 hb with hb | hb
  · rcases c'.2 b hb with h1 | h1
    · cases h1
    · cases e : h b with
      | none => exact .inr rfl
      | some o => rw [c.sub0 _ _ e] at h1; cases h1
  · exact c.2 b hb⟩
theorem notNew {B : List Nat} {h h' : PH} {b : Nat} {o : Obj} (c : Chg [] B h h') (e : h b = some o) : b ∉ B := fun hm => by
  rcases c.2 b hm with h1 | h1
  · cases h1
  · rw [e] at h1; cases h1
theorem ne_new {h : PH} {b b' : Nat} {o : Obj} (e : h b = some o) (n : h b' = none) : b ≠ b' := fun hh => by subst hh; rw [e] at n; cases n
theorem cWNew (sp : Spl g N h) {lA : Option Addr} {lC : Nat} {l : List PrR} (hl : SR EncPr g lA l) (hn : l.length ≤ 1000) (hs : ∀ x ∈ l, x.p.length ≤ 1000000) {R : List UInt8} (hR : R.length = 32)
    (hno : ¬ (mayB l = true ∧ l.length ≤ 48) → ∀ e : Int, (e = 1 ∨ e = 6) → ∀ g' h', Stp g N h g' N h' → (∀ b ∈ N, ∀ o, h b = some o → h' b = some o) → K (.tuple #[.pointer none, .int .i64 e]) h')
    (hyes : mayB l = true → l.length ≤ 48 → ∀ wb N' g' h', WalkAt g' N' h' wb (wNew l R) → Stp g N h g' (N' ++ N) h' → Dj N' N → K (.tuple #[.pointer (some ⟨wb, 0, none⟩), .int .i64 (0 : Int)]) h') :
    CallH Tryz.prog id_walk_New [.slice lA l.length lC, .agg (((bi R).map (Value.int .u8) ++ [])).toArray] K h := by
  refine F_walk_New_ok (by rw [bi_len]; exact hR) (sp.call (K := fun v g' => g.Sub g' ∧ ((mayB l = true ∧ l.length ≤ 48 ∧ ∃ b, Tr b g' l ∧ v = .tuple #[.pointer (some ⟨b, 0, none⟩), .int .i64 (0 : Int)]) ∨ (¬ (mayB l = true ∧ l.length ≤ 48) ∧ ∃ e : Int, (e = 1 ∨ e = 6) ∧ v = .tuple #[.pointer none, .int .i64 e])))
    (cOf3 hl hn hs (fun hok b h' ht _ c => ⟨c.sub0, .inl ⟨hok.1, hok.2, b, ht, rfl⟩⟩) fun hno e he _ => ⟨PH.Sub.rf _, .inr ⟨hno, e, he, rfl⟩⟩) ?_)
  rintro _ g1 h1 ⟨hgs, ⟨hm, h48, tb, ht, rfl⟩ | ⟨hnn, e, he, rfl⟩⟩ st
  · obtain ⟨st1, _⟩ := st hgs
    have sp1 := st1.spl
    have tr : ∀ {h' : PH}, h1.Sub h' → Tr tb h' l := fun hs => ht.sub (sp1.sub.tr hs)
    refine ⟨_, _, rfl, fun e => by simp at e, fun _ => ⟨NewJ g1 N h1 l R, ⟨nwM fun ra h3 n3 e3 c3 => ⟨nwM fun rp h4 n4 e4 c4 => cTexts (tr (c3.more c4).sub0) fun tA tC Bt h5 hb c5 => ⟨_, _, _, rfl, ?_⟩,
      cTexts (tr c3.sub0) fun tA tC Bt h4 hb c4 => ⟨_, _, _, rfl, nwM fun rp h5 n5 e5 c5 => ?_⟩⟩, nwM fun rp h3 n3 e3 c3 => ⟨nwM fun ra h4 n4 e4 c4 => cTexts (tr (c3.more c4).sub0) fun tA tC Bt h5 hb c5 => ⟨_, _, _, rfl, ?_⟩,
      cTexts (tr c3.sub0) fun tA tC Bt h4 hb c4 => ⟨_, _, _, rfl, nwM fun ra h5 n5 e5 c5 => ?_⟩⟩, cTexts (tr (PH.Sub.rf _)) fun tA tC Bt h3 hb c3 => ⟨_, _, _, rfl, nwM fun ra h4 n4 e4 c4 => nwM fun rp h5 n5 e5 c5 => ?_, nwM fun rp h4 n4 e4 c4 => nwM fun ra h5 n5 e5 c5 => ?_⟩⟩, ?_⟩⟩
    · exact newFin sp1 ((c3.more c4).more c5) (fun b hb => by simp only [List.mem_cons, List.mem_append, List.not_mem_nil, or_false] at hb ⊢; rcases hb with rfl | rfl | hb <;> simp [*]) hR ht (c5.sub0 _ _ (c4.sub0 _ _ e3)) (c5.sub0 _ _ e4) (ne_new e3 n4) (notNew c5 (c4.sub0 _ _ e3)) (notNew c5 e4) hb
    · exact newFin sp1 ((c3.more c4).more c5) (fun b hb => by simp only [List.mem_cons, List.mem_append, List.not_mem_nil, or_false] at hb ⊢; rcases hb with rfl | rfl | hb <;> simp [*]) hR ht (c5.sub0 _ _ (c4.sub0 _ _ e3)) e5 (ne_new (c4.sub0 _ _ e3) n5) (notNew c4 e3) (fun hm => by obtain ⟨o, ho⟩ := hb.has _ hm; rw [ho] at n5; cases n5) (hb.sub c5.sub0)
    · exact newFin sp1 ((c3.more c4).more c5) (fun b hb => by simp only [List.mem_cons, List.mem_append, List.not_mem_nil, or_false] at hb ⊢; rcases hb with rfl | rfl | hb <;> simp [*]) hR ht (c5.sub0 _ _ e4) (c5.sub0 _ _ (c4.sub0 _ _ e3)) (Ne.symm (ne_new e3 n4)) (notNew c5 e4) (notNew c5 (c4.sub0 _ _ e3)) hb
    · exact newFin sp1 ((c3.more c4).more c5) (fun b hb => by simp only [List.mem_cons, List.mem_append, List.not_mem_nil, or_false] at hb ⊢; rcases hb with rfl | rfl | hb <;> simp [*]) hR ht e5 (c5.sub0 _ _ (c4.sub0 _ _ e3)) (Ne.symm (ne_new (c4.sub0 _ _ e3) n5)) (fun hm => by obtain ⟨o, ho⟩ := hb.has _ hm; rw [ho] at n5; cases n5) (notNew c4 e3) (hb.sub c5.sub0)
    · exact newFin sp1 ((c3.more c4).more c5) (fun b hb => by simp only [List.mem_cons, List.mem_append, List.not_mem_nil, or_false] at hb ⊢; rcases hb with rfl | rfl | hb <;> simp [*]) hR ht (c5.sub0 _ _ e4) e5 (ne_new e4 n5) (fun hm => by obtain ⟨o, ho⟩ := hb.has _ hm; rw [ho] at n4; cases n4) (fun hm => by obtain ⟨o, ho⟩ := hb.has _ hm; rw [c4.sub0 _ _ ho] at n5; cases n5) ((hb.sub c4.sub0).sub c5.sub0)
    · exact newFin sp1 ((c3.more c4).more c5) (fun b hb => by simp only [List.mem_cons, List.mem_append, List.not_mem_nil, or_false] at hb ⊢; rcases hb with rfl | rfl | hb <;> simp [*]) hR ht e5 (c5.sub0 _ _ e4) (Ne.symm (ne_new e4 n5)) (fun hm => by obtain ⟨o, ho⟩ := hb.has _ hm; rw [c4.sub0 _ _ ho] at n5; cases n5) (fun hm => by obtain ⟨o, ho⟩ := hb.has _ hm; rw [ho] at n4; cases n4) ((hb.sub c4.sub0).sub c5.sub0)
    · rintro ⟨w, u⟩ h2 ⟨wb, N', hw, x, st2, d⟩
      dsimp only at hw
      subst hw
      refine cWAsk (lv := 0) (i := 0) x st2.spl.left (by decide) (by decide) hR fun h6 x6 st6 => ?_
      obtain ⟨sf, d6⟩ := st6.frame st2.spl d.symm
      exact hyes hm h48 wb N' g1 h6 x6 (st1.trans (st2.trans sf)) d
  · obtain ⟨st1, keep1⟩ := st hgs
    refine ⟨_, _, rfl, fun _ => hno hnn e he g1 h1 st1 keep1, fun e2 => ?_⟩
    rcases he with rfl | rfl <;> simp at e2
theorem cWTexts (x : WalkAt g N h wb s) (hn : s.T.length ≤ 1000000) (hk : ∀ a' c' B' h', Buf EncS 9 B' h' a' s.T.length c' s.T → Chg [] B' h h' → K (.slice a' s.T.length c') h') : CallH Tryz.prog id_walk_Walk_Texts [.pointer (some ⟨wb, 0, none⟩)] K h := by
  refine F_walk_Walk_Texts_ok (cWNone x ⟨_, rfl, fun e => (by cases e), fun _ => ?_⟩)
  obtain ⟨⟨tb, ra, rp, esA, cA, esP, cP, tA, tN, tC, Bt, rfl, d1, d2, d3, d4, d5, d6, hw, ht, ha, hA, hp, hP, hB⟩, hR, hL⟩ := x
  have hl := hB.1
  subst hl
  exact ⟨wb, 0, rfl, _, _, _, wk_text hw hR, cCloneStr hB.sr hn fun a' c' B' h' hb' hc' => ⟨_, _, _, rfl, hk a' c' B' h' hb' hc'⟩⟩
end TL

namespace TL
open Go Go.Proofs
variable {g h : PH} {N : List Nat} {K : Value → PH → Prop} {wb : Nat} {s : WS}
theorem askP_16 : ∀ k : Nat, k < 32 → 1 ≤ k → (k < 16 ↔ (askP k).1 < 4) := by decide +kernel
theorem askP_nn : ∀ k : Nat, k < 32 → 1 ≤ k → 0 ≤ (askP k).1 ∧ (askP k).1 ≤ 4 ∧ 0 ≤ (askP k).2 ∧ (askP k).2 < 16 := by decide +kernel
theorem askP_kids : ∀ k : Nat, k < 16 → 1 ≤ k → k.log2 + 1 ≤ 4 ∧ 2 * (k - 2 ^ k.log2) + 1 < 2 ^ (k.log2 + 1) ∧ 2 ^ (k.log2 + 1) + 2 * (k - 2 ^ k.log2) = 2 * k := by decide +kernel
theorem cWNode (x : WalkAt g N h wb s) (sp : Spl g N h) {lv i : Int} {a b : List UInt8} (ha : a.length = 32) (hb : b.length = 32) (hT : s.T.length ≤ 100000)
    (hno : (∀ k, 1 ≤ k → k < 16 → askP k = (lv, i) → s.A k ≠ some (shaN (innT a b))) → ∀ h', WalkAt g N h' wb s → Stp g N h g N h' → K (.bool false) h')
    (hyes : ∀ k N' h', 1 ≤ k → k < 16 → askP k = (lv, i) → s.A k = some (shaN (innT a b)) → WalkAt g N' h' wb (wIn s k a b) → Stp g N h g N' h' → K (.bool true) h') :
    CallH Tryz.prog id_walk_Walk_Node [.pointer (some ⟨wb, 0, none⟩), .int .i64 lv, .int .i64 i, .agg (((bi a).map (Value.int .u8) ++ [])).toArray, .agg (((bi b).map (Value.int .u8) ++ [])).toArray] K h := by
  refine F_walk_Walk_Node_ok (by rw [bi_len, ha]) (by rw [bi_len, hb]) (nwL fun b1 h1 n1 hb1 c1 => nwL fun b2 h2 n2 hb2 c2 => ?_)
  have s2 : h.Sub h2 := c1.sub0.tr c2.sub0
  have hb1 := c2.sub0 _ _ hb1
  have nb1 : b1 ∉ N := fun hm => by obtain ⟨o, ho⟩ := sp.has _ hm; rw [ho] at n1; cases n1
  have nb2 : b2 ∉ N := fun hm => by obtain ⟨o, ho⟩ := sp.has _ hm; rw [c1.sub0 _ _ ho] at n2; cases n2
  have st2 := sp.grow s2
  have x2 : WalkAt g N h2 wb s := x.keep (PH.Sub.rf _) fun q _ o e => s2 q o e
  refine cWNone x2 ⟨_, rfl, fun e => hno (fun k k1 k2 hk _ => ?_) h2 x2 st2, fun e => ?_⟩
  · have := askP_nn k (by omega) k1
    have h16 := (askP_16 k (by omega) k1).1 k2
    rw [hk] at this h16
    simp only [Bool.false_or, Bool.or_eq_true, decide_eq_true_eq] at e
    dsimp only at this h16
    omega
  · have str1 : ∀ {h' : PH}, h2.Sub h' → strH h' (slA (some ⟨b1, 0, none⟩ : Option Addr) 1 (0 : Int) ((32 : Nat) : Int)) (((32 : Nat) : Int).toNat - (0 : Int).toNat) (mk a) := fun hs => by
      have := (sr_bi (hs _ _ hb1)).str
      rw [ha] at this; exact this
    have str2 : ∀ {h' : PH}, h2.Sub h' → strH h' (slA (some ⟨b2, 0, none⟩ : Option Addr) 1 (0 : Int) ((32 : Nat) : Int)) (((32 : Nat) : Int).toNat - (0 : Int).toNat) (mk b) := fun hs => by
      have := (sr_bi (hs _ _ hb2)).str
      rw [hb] at this; exact this
    have rd1 : ∀ {h' : PH}, h' b1 = h2 b1 → h'.rds b1 0 32 = some ((bi a).map (Value.int .u8) ++ []) := fun he => by
      rw [hb1] at he
      rw [List.append_nil] at he ⊢
      exact rds_mid' (pre := []) (post := []) he (by simp) rfl (by rw [List.length_map, bi_len, ha])
    have rd2 : ∀ {h' : PH}, h' b2 = h2 b2 → h'.rds b2 0 32 = some ((bi b).map (Value.int .u8) ++ []) := fun he => by
      rw [hb2] at he
      rw [List.append_nil] at he ⊢
      exact rds_mid' (pre := []) (post := []) he (by simp) rfl (by rw [List.length_map, bi_len, hb])
    refine ⟨bi a, by rw [bi_len, ha], rd1 rfl, bi b, by rw [bi_len, hb], rd2 rfl, by decide, mk a, str1 (PH.Sub.rf _), ?_, by decide, mk b, str2 (PH.Sub.rf _), ?_, cInner ha hb fun h4 s4 => ⟨bi (shaN (innT a b)), by rw [bi_len, shaN_len], rfl, str2 s4, str1 s4, ?_⟩⟩
    · have : (mk a).size = 32 := by rw [size_mk, ha]
      rw [this]; decide
    · rw [show (⟨#[78]⟩ : ByteArray) = mk [78] from rfl, mk_append, size_mk, size_mk, List.length_append, ha, hb]; decide
    · rw [show (⟨#[78]⟩ : ByteArray) = mk [78] from rfl, mk_append, mk_append]
      have st4 := st2.trans (st2.spl.grow s4)
      have x4 : WalkAt g N h4 wb s := x2.keep (PH.Sub.rf _) fun q _ o e => s4 q o e
      refine cWFits (t := innT a b) x4 st4.spl (shaN_len _) hT (fun hn => ⟨_, rfl, fun _ => hno (fun k k1 k2 hk => hn k k1 (by omega) hk) h4 x4 st4, fun e => by simp at e⟩) fun k N5 h5 k1 k2 hk hA x5 st5 => ⟨_, rfl, fun e => by simp at e, fun _ => ?_⟩
      have k16 : k < 16 := (askP_16 k k2 k1).2 (by
        rw [hk]
        simp only [Bool.false_or, Bool.or_eq_false_iff, decide_eq_false_iff_not] at e
        dsimp only; omega)
      obtain ⟨q1, q2, q3⟩ := askP_kids k k16 k1
      have hlv : lv = ((k.log2 : Nat) : Int) := (congrArg Prod.fst hk).symm
      have hi : i = ((k - 2 ^ k.log2 : Nat) : Int) := (congrArg Prod.snd hk).symm
      have w1 : IntKind.wrap .i64 (lv + 1) = ((k.log2 + 1 : Nat) : Int) := by rw [hlv, wrap64] <;> omega
      have w2 : IntKind.wrap .i64 ((2 : Int) * i) = ((2 * (k - 2 ^ k.log2) : Nat) : Int) := by rw [hi, wrap64] <;> omega
      have w3 : IntKind.wrap .i64 (((2 * (k - 2 ^ k.log2) : Nat) : Int) + 1) = ((2 * (k - 2 ^ k.log2) + 1 : Nat) : Int) := by rw [wrap64] <;> omega
      rw [w1, w2, w3]
      have e1 : h5 b1 = h2 b1 := by
        have := st5.chg.keep (s4 _ _ hb1) nb1
        rw [hb1]; exact this
      have e2 : h5 b2 = h2 b2 := by
        have := st5.chg.keep (s4 _ _ hb2) nb2
        rw [hb2]; exact this
      have n25 : b2 ∉ N5 := fun hm => by
        rcases st5.chg.2 b2 hm with h6 | h6
        · exact nb2 h6
        · rw [s4 _ _ hb2] at h6; cases h6
      refine ⟨bi a, by rw [bi_len, ha], rd1 e1, cWAsk x5 st5.spl q1 (by omega) ha fun h6 x6 st6 => ⟨bi b, by rw [bi_len, hb], rd2 ?_, ?_⟩⟩
      · have := st6.chg.keep (o := .cells ((bi b).map (Value.int .u8) ++ []).toArray T_api_Hash (0, 0)) (by rw [e2]; exact hb2) n25
        rw [this, hb2]
      · refine cWAsk x6 st6.spl q1 q2 hb fun h7 x7 st7 => ?_
        have r1 : 2 ^ (k.log2 + 1) + 2 * (k - 2 ^ k.log2) = 2 * k := q3
        have r2 : 2 ^ (k.log2 + 1) + (2 * (k - 2 ^ k.log2) + 1) = 2 * k + 1 := by omega
        rw [r1, r2] at x7
        exact hyes k N5 h7 k1 k16 hk hA x7 (st4.trans (st5.trans (st6.trans st7)))
end TL

namespace TL
open Go Go.Proofs
variable {g h : PH} {N : List Nat} {K : Value → PH → Prop} {wb : Nat} {s : WS}
theorem cPageOut {lA : Option Addr} {lN lC : Nat} {i : Int} (hi : ¬ (0 ≤ i ∧ i < 16)) (hk : K (.tuple #[.string (⟨#[]⟩ : ByteArray), .int .i64 (1 : Int)]) h) : CallH Tryz.prog id_bucket_Page [.int .i64 i, .slice lA lN lC] K h := by
  have hf : (decide (i ≥ (0 : Int)) && decide (i < (16 : Int))) = false := by
    rw [Bool.eq_false_iff]
    intro e
    simp only [Bool.and_eq_true, decide_eq_true_eq] at e
    omega
  refine F_bucket_Page_ok ⟨fun _ _ => False, F_bucket_bucket_ok ⟨_, rfl, fun e => ?_, fun _ => hk⟩, fun _ _ h => h.elim⟩
  rw [hf] at e; cases e
theorem pgOk_iff {i : Nat} {l : List PrR} : (mayB l = true ∧ (partB l i).length = l.length ∧ l.length ≤ 48) ↔ PgOk i l := by
  refine ⟨fun ⟨h1, h2, h3⟩ => ⟨h1, fun x hx => ?_, h3⟩, fun ⟨h1, h2, h3⟩ => ⟨h1, ?_, h3⟩⟩
  · have h4 : ∀ y ∈ l, (bkt y.p == i) = true := List.length_filter_eq_length_iff.1 h2
    simpa using h4 x hx
  · exact List.length_filter_eq_length_iff.2 fun y hy => by simp [h2 y hy]
theorem cWPage (x : WalkAt g N h wb s) (sp : Spl g N h) {i : Int} {lA : Option Addr} {lC : Nat} {l : List PrR} (hl : SR EncPr g lA l) (hn : l.length ≤ 1000) (hs : ∀ x ∈ l, x.p.length ≤ 1000000) (hT : s.T.length ≤ 100000)
    (hno : (∀ k : Nat, k < 16 → i = k → PgOk k l → s.A (16 + k) ≠ some (shaN (76 :: pageL l))) → ∀ h', WalkAt g N h' wb s → Stp g N h g N h' → K (.bool false) h')
    (hyes : ∀ (k : Nat) g' N' h', k < 16 → i = k → PgOk k l → s.A (16 + k) = some (shaN (76 :: pageL l)) → WalkAt g' N' h' wb (wPg s k l) → Stp g N h g' N' h' → K (.bool true) h') :
    CallH Tryz.prog id_walk_Walk_Page [.pointer (some ⟨wb, 0, none⟩), .int .i64 i, .slice lA l.length lC] K h := by
  refine F_walk_Walk_Page_ok (cWNone x ⟨_, rfl, fun e => (by cases e), fun _ => ?_⟩)
  by_cases hi : ¬ (0 ≤ i ∧ i < 16)
  · exact cPageOut hi ⟨_, _, rfl, fun e => by simp at e, fun _ => hno (fun k hk e _ => absurd (show 0 ≤ i ∧ i < 16 by omega) hi) h x (Stp.refl sp)⟩
  have hi : 0 ≤ i ∧ i < 16 := Classical.not_not.1 hi
  obtain ⟨k, rfl⟩ : ∃ k : Nat, i = k := ⟨i.toNat, by omega⟩
  have hk : k < 16 := by omega
  refine cPage hk (hl.sub sp.sub) (by omega) hs fun h2 s2 => ⟨_, _, rfl, fun e => ?_, fun e => ?_⟩
  · have hok : PgOk k l := by
      refine pgOk_iff.1 ?_
      unfold pageV at e
      split at e
      · rename_i hh
        split at e
        · rename_i h48; exact ⟨hh.1, hh.2, h48⟩
        · simp at e
      · simp at e
    have hpv := page_ok hok
    rw [hpv]
    dsimp only
    have hpl := page_len hok
    have st2 := sp.grow s2
    have x2 : WalkAt g N h2 wb s := x.keep (PH.Sub.rf _) fun q _ o e => s2 q o e
    refine cLeaf (by omega) fun h3 s3 => ⟨bi (shaN (76 :: pageL l)), by rw [bi_len, shaN_len], rfl, ?_, ?_⟩
    · rw [size_mk]; show ((1 + (pageL l).length : Nat) : Int) ≤ _; omega
    rw [show (⟨#[76]⟩ : ByteArray) = mk [76] from rfl, mk_append]
    have st3 := st2.trans (st2.spl.grow s3)
    have x3 : WalkAt g N h3 wb s := x2.keep (PH.Sub.rf _) fun q _ o e => s3 q o e
    have hap : askP (2 ^ 4 + k) = (4, (k : Int)) := askP_at 4 (by decide) k hk hk
    refine cWFits (t := 76 :: pageL l) x3 st3.spl (shaN_len _) hT (fun hn => ⟨_, rfl, fun _ => hno (fun j _ ej _ => ?_) h3 x3 st3, fun e => by simp at e⟩) fun j N5 h5 j1 j2 hj hA x5 st5 => ⟨_, rfl, fun e => by simp at e, fun _ => ?_⟩
    · have : j = k := by omega
      subst this
      exact hn (16 + j) (by omega) (by omega) hap
    have hjk : j = 16 + k := askP_inj j j2 (2 ^ 4 + k) (show 16 + k < 32 by omega) j1 (show 1 ≤ 16 + k by omega) (hj.trans hap.symm)
    subst hjk
    obtain ⟨⟨tb, ra, rp, esA, cA, esP, cP, tA, tN, tC, Bt, rfl, d1, d2, d3, d4, d5, d6, hw, ht, ha, hA5, hp, hP, hB⟩, hR, hL⟩ := x5
    refine ⟨wb, 0, rfl, _, wk_part hw hR, cClonePr (hl.sub st5.spl.sub) hn fun a6 c6 B6 h6 hb6 cc6 => ⟨_, _, _, rfl, wk_part (cc6.sub0 _ _ hw) hR, rp, esP, cP, rfl, cc6.sub0 _ _ hp, hP.key, ?_⟩⟩
    have st6 := st5.spl.new cc6
    have hsr : SR EncPr (PH.plus g h6 B6) a6 l := (hb6.keep fun b hb o e => by rw [plus_in hb]; exact e).sr
    have hw6 := cc6.sub0 _ _ hw
    have ha6 := cc6.sub0 _ _ ha
    have hB6 := hB.sub cc6.sub0
    have cc : Chg [rp] [rp] h6 (h6.upd rp (.map (upM esP (.int .i64 (k : Int)) (.slice a6 l.length c6) cP).1.toArray (upM esP (.int .i64 (k : Int)) (.slice a6 l.length c6) cP).2)) := Chg.upd _
    have hw7 := cc.keep hw6 (by simpa using d2)
    have ha7 := cc.keep ha6 (by simpa using d3)
    have hB7 := hB6.chg cc fun b hb hm => by rw [List.mem_singleton] at hm; subst hm; exact d6 hb
    have st7 := st6.spl.chg (cc.sub (C := wb :: ra :: rp :: Bt) (fun b hb => by simp at hb; subst hb; simp) fun b hb => .inr hb) (fun b hb => by
      simp only [List.mem_cons] at hb
      rcases hb with rfl | rfl | rfl | hb
      · exact ⟨_, hw7⟩
      · exact ⟨_, ha7⟩
      · exact ⟨_, PH.upd_same _ _ _⟩
      · exact hB7.has b hb)
    exact hyes k _ (wb :: ra :: rp :: Bt) _ hk rfl hok hA ⟨⟨tb, ra, rp, esA, cA, _, _, tA, tN, tC, Bt, rfl, d1, d2, d3, d4, d5, d6, hw7, ht.sub st6.gs, ha7, hA5, PH.upd_same _ _ _, (hP.sub st6.gs).put hk hsr, hB7⟩, hR, hL⟩ (st3.trans (st5.trans (st6.trans st7)))
  · refine hno (fun j _ ej hj => ?_) h2 (x.keep (PH.Sub.rf _) fun q _ o e => s2 q o e) (sp.grow s2)
    have : j = k := by omega
    subst this
    rw [page_ok hj] at e
    simp at e
end TL

namespace TL
open Go Go.Proofs
variable {g h : PH} {N : List Nat} {K : Value → PH → Prop} {wb : Nat} {s : WS}
theorem ltA_ext : ∀ {l m : List (Int × Int)}, l.Pairwise ltA → m.Pairwise ltA → (∀ x, x ∈ l ↔ x ∈ m) → l = m
  | [], [], _, _, _ => rfl
  | [], b :: m, _, _, h => by have := (h b).2 List.mem_cons_self; cases this
  | a :: l, [], _, _, h => by have := (h a).1 List.mem_cons_self; cases this
  | a :: l, b :: m, h1, h2, h => by
    obtain ⟨h1, h1'⟩ := List.pairwise_cons.1 h1
    obtain ⟨h2, h2'⟩ := List.pairwise_cons.1 h2
    have irr : ∀ x : Int × Int, ¬ ltA x x := fun x => by unfold ltA; omega
    have e : a = b := by
      rcases List.mem_cons.1 ((h a).1 List.mem_cons_self) with e | e
      · exact e
      · rcases List.mem_cons.1 ((h b).2 List.mem_cons_self) with e2 | e2
        · exact e2.symm
        · have q1 := h2 a e
          have q2 := h1 b e2
          unfold ltA at q1 q2; omega
    subst e
    rw [ltA_ext h1' h2' fun x => ⟨fun hx => ?_, fun hx => ?_⟩]
    · rcases List.mem_cons.1 ((h x).1 (List.mem_cons_of_mem _ hx)) with e | e
      · subst e; exact absurd (h1 x hx) (irr x)
      · exact e
    · rcases List.mem_cons.1 ((h x).2 (List.mem_cons_of_mem _ hx)) with e | e
      · subst e; exact absurd (h2 x hx) (irr x)
      · exact e
theorem wList_mem {A : Nat → Option (List UInt8)} {k : Nat} : k ∈ wList A ↔ k < 32 ∧ (A k).isSome = true := by
  unfold wList
  rw [List.mem_filter, List.mem_range]
theorem wList_sorted {A : Nat → Option (List UInt8)} (h0 : A 0 = none) : ((wList A).map askP).Pairwise ltA := by
  rw [List.pairwise_map]
  refine List.Pairwise.imp_of_mem (R := fun a b => a < b) (fun {a b} ha hb hab => ?_) (List.pairwise_lt_range.sublist List.filter_sublist)
  obtain ⟨a1, a2⟩ := wList_mem.1 ha
  obtain ⟨b1, b2⟩ := wList_mem.1 hb
  have n0 : ∀ k : Nat, (A k).isSome = true → 1 ≤ k := fun k hk => by
    rcases Nat.eq_zero_or_pos k with rfl | h
    · rw [h0] at hk; cases hk
    · exact h
  exact (askP_lt a a1 b b1 (n0 a a2) (n0 b b2)).2 hab
theorem asked_row {es : List MapEntry} {c : Nat} {A : Nat → Option (List UInt8)} (x : AskMapE es c A) (h0 : A 0 = none) {l : List (Int × Int)} (hp : (l.map keyV).Perm (es.map (·.key))) (hs : l.Pairwise fun a b => ¬ ltA b a) : l = (wList A).map askP := by
  have hnd : (es.map (·.key)).Nodup := by
    refine List.pairwise_map.2 (List.Pairwise.imp_of_mem (fun {a b} ha hb hab e => ?_) x.nd)
    rw [(keq_eq (x.kOk a ha) (x.kOk b hb)).2 e] at hab; cases hab
  have hln : l.Nodup := by
    have := hp.nodup_iff.2 hnd
    exact List.Pairwise.imp (fun h e => h (by rw [e])) (List.pairwise_map.1 this)
  have hmem : ∀ p : Int × Int, p ∈ l ↔ keyV p ∈ es.map (·.key) := fun p => by
    rw [← hp.mem_iff, List.mem_map]
    exact ⟨fun h => ⟨p, h, rfl⟩, fun ⟨q, hq, e⟩ => keyV_inj e ▸ hq⟩
  refine ltA_ext ?_ (wList_sorted h0) fun p => ?_
  · refine List.Pairwise.imp (fun {a b} h => ?_) (hs.and hln)
    obtain ⟨h1, h2⟩ := h
    have : ¬ (a.1 = b.1 ∧ a.2 = b.2) := fun e => h2 (Prod.ext e.1 e.2)
    unfold ltA at *; omega
  · rw [hmem p, List.mem_map]
    refine ⟨fun ⟨e, he, ek⟩ => ?_, fun hk => ?_⟩
    · obtain ⟨k, k1, k2, hk⟩ := x.key e he
      have hpk : p = askP k := keyV_inj (ek.symm.trans hk)
      subst hpk
      refine List.mem_map.2 ⟨k, wList_mem.2 ⟨k2, ?_⟩, rfl⟩
      cases hA : A k with
      | some y => rfl
      | none =>
        have hv := x.at_ k k1 k2
        rw [hA] at hv
        have := va_none.1 hv e he
        rw [hk, keyV_keq] at this
        simp at this
    · obtain ⟨k, hkm, rfl⟩ := List.mem_map.1 hk
      obtain ⟨k2, hs⟩ := wList_mem.1 hkm
      have k1 : 1 ≤ k := by
        rcases Nat.eq_zero_or_pos k with rfl | h
        · rw [h0] at hs; cases hs
        · exact h
      obtain ⟨y, hy⟩ := Option.isSome_iff_exists.1 hs
      have hv := x.at_ k k1 k2
      rw [hy] at hv
      have hnn : ¬ va es (keyV (askP k)) = none := by rw [hv]; simp
      rw [va_none] at hnn
      obtain ⟨e, he⟩ := Classical.not_forall.1 hnn
      obtain ⟨he, hq⟩ := Classical.not_imp.1 he
      have hq : keq (keyV (askP k)) e.key = true := by simpa using hq
      exact ⟨e, he, ((keq_eq (keyV_ok _) (x.kOk e he)).1 hq).symm⟩
theorem AskMapE.len {es : List MapEntry} {c : Nat} {A : Nat → Option (List UInt8)} (x : AskMapE es c A) : es.length ≤ 32 := by
  have hnd : (es.map (·.key)).Nodup := by
    refine List.pairwise_map.2 (List.Pairwise.imp_of_mem (fun {a b} ha hb hab e => ?_) x.nd)
    rw [(keq_eq (x.kOk a ha) (x.kOk b hb)).2 e] at hab; cases hab
  have := List.Nodup.length_le_of_subset (l₂ := (List.range 32).map fun k => keyV (askP k)) hnd fun v hv => by
    obtain ⟨e, he, rfl⟩ := List.mem_map.1 hv
    obtain ⟨k, _, k2, hk⟩ := x.key e he
    exact List.mem_map.2 ⟨k, List.mem_range.2 k2, hk.symm⟩
  simpa using this
theorem take_min_len {α : Type} (l : List α) (n : Nat) : l.take (min n l.length) = l.take n := by
  rcases Nat.le_total n l.length with h | h
  · rw [Nat.min_eq_left h]
  · rw [Nat.min_eq_right h, List.take_length, List.take_of_length_le h]
end TL

namespace TL
open Go Go.Proofs Go.Shelf Go.RowKit Go.Lib Go.Sort
set_option maxHeartbeats 1000000 in
theorem walkLess122 (a0 a1 b0 b1 : ByteArray) (w : World) :
    Calls Tryz.prog 122 #[.agg #[.string a0, .string a1], .agg #[.string b0, .string b1]] w fun e w' => e = .returned (.int .i64 (Lib.compareBytes a0.data.toList b0.data.toList)) ∧ ∃ q os', w' = grow (w.drewN q) os' := by
  have hcon := fun W => walkCompare a0 b0 W
  generalize Lib.compareBytes a0.data.toList b0.data.toList = r at hcon ⊢
  go_enter Tryz.func122, Tryz.ntmps122
  go_wp2_with (go_at_call 123; refine (hcon _).mono ?_; rintro e w' ⟨rfl, rfl⟩)
  go_ret
  exact ⟨rfl, 0, _, by rw [alloc_eq_grow, alloc_eq_grow, grow_grow]; rfl⟩
theorem cSortW {B : List Nat} {h : PH} {K : Value → PH → Prop} {a : Option Addr} {n c : Nat} {l : List PrR} {T : TypeId} (x : Buf EncPr T B h a n c l) (hn : l.length ≤ 1000000)
    (hk : ∀ l' h', l'.Perm l → (l'.Pairwise fun a b => ¬ b.p < a.p) → Buf EncPr T B h' a n c l' → Chg B B h h' → K (.tuple #[]) h') : CallH Tryz.prog 121 [.slice a n c, .func (.func 122) #[] #[]] K h :=
  cSortPr Tryz.srtA Tryz.isAgg101 Tryz.sizeOf101 122 (enters_of Tryz.func122 (by kernel_rfl) rfl) walkLess122 x hn hk
variable {g h : PH} {N : List Nat} {K : Value → PH → Prop} {wb : Nat} {s : WS}
/-- all parts of a walk -/
def wDone (s : WS) : List PrR := (List.range 16).flatMap (wPart s)
theorem part_le {s : WS} (hS : s.S.length ≤ 48) (hQ : ∀ i l, s.Q i = some l → l.length ≤ 48) (i : Nat) : (wPart s i).length ≤ 48 := by
  unfold wPart
  cases e : s.Q i with
  | none => exact Nat.le_trans (List.length_filter_le _ _) hS
  | some l => exact hQ i l e
theorem parts_le {s : WS} (hS : s.S.length ≤ 48) (hQ : ∀ i l, s.Q i = some l → l.length ≤ 48) (n : Nat) : ((List.range n).flatMap (wPart s)).length ≤ 48 * n := by
  induction n with
  | zero => simp
  | succ n ih =>
    rw [List.range_succ, List.flatMap_append, List.length_append, List.flatMap_cons, List.flatMap_nil, List.append_nil]
    have := part_le hS hQ n
    omega
theorem parts_succ (s : WS) (n : Nat) : (List.range (n + 1)).flatMap (wPart s) = (List.range n).flatMap (wPart s) ++ wPart s n := by
  rw [List.range_succ, List.flatMap_append, List.flatMap_cons, List.flatMap_nil, List.append_nil]
theorem cWDone (x : WalkAt g N h wb s) (sp : Spl g N h) (hQ : ∀ i l, s.Q i = some l → l.length ≤ 48)
    (hno : (∃ k, 1 ≤ k ∧ k < 32 ∧ (s.A k).isSome = true) ∨ ((∀ k, 1 ≤ k → k < 32 → s.A k = none) ∧ 48 < (wDone s).length) → ∀ h', h.Sub h' → K (.tuple #[.slice none 0 0, .bool false]) h')
    (hyes : (∀ k, 1 ≤ k → k < 32 → s.A k = none) → (wDone s).length ≤ 48 → ∀ l a' c' B' h', l.Perm (wDone s) → (l.Pairwise fun a b => ¬ b.p < a.p) → Buf EncPr T_api_Pair B' h' a' l.length c' l → Chg [] B' h h' → K (.tuple #[.slice a' l.length c', .bool true]) h') :
    CallH Tryz.prog id_walk_Walk_Done [.pointer (some ⟨wb, 0, none⟩)] K h := by
  have hxx := x
  obtain ⟨⟨tb, ra, rp, esA, cA, esP, cP, tA, tN, tC, Bt, rfl, d1, d2, d3, d4, d5, d6, hw, ht, ha, hA, hp, hP, hB⟩, hR, hL⟩ := x
  have hS : s.S.length ≤ 48 := ht.le
  refine F_walk_Walk_Done_ok ⟨fun _ h' => h' = h ∧ ∀ k, 1 ≤ k → k < 32 → s.A k = none, cWNone hxx ⟨_, rfl, wb, 0, fun _ => rfl, some ra, fun _ => wk_ask hw hR, fun _ => ⟨esA.length, ⟨_, cA, ha, by simp⟩, fun e => ?_, fun e => ⟨rfl, fun k k1 k2 => ?_⟩⟩, fun e => by cases e⟩, ?_⟩
  · have e : 0 < esA.length := by have := of_decide_eq_true e; omega
    refine hno (.inl ?_) h (PH.Sub.rf _)
    have hm := List.getElem_mem e
    obtain ⟨k, k1, k2, hk⟩ := hA.key _ hm
    refine ⟨k, k1, k2, ?_⟩
    cases hAk : s.A k with
    | some y => rfl
    | none =>
      have hv := hA.at_ k k1 k2
      rw [hAk] at hv
      have := va_none.1 hv _ hm
      rw [hk, keyV_keq] at this
      simp at this
  · have e : esA = [] := List.length_eq_zero_iff.1 (by have := of_decide_eq_false e; omega)
    have hv := hA.at_ k k1 k2
    rw [e] at hv
    cases hAk : s.A k with
    | none => rfl
    | some y => rw [hAk] at hv; cases hv
  rintro _ h1 ⟨rfl, hdone⟩
  refine LoopP.ind (fun (z : (Option Addr × Nat × Nat) × Int × Unit) h' => ∃ (i : Nat) (B' : List Nat), z.2.1 = i ∧ i ≤ 16 ∧ Buf EncPr T_api_Pair B' h' z.1.1 z.1.2.1 z.1.2.2 ((List.range i).flatMap (wPart s)) ∧ Chg [] B' h1 h') (fun z _ => (16 - z.2.1).toNat) ?_
    ⟨0, [], rfl, Nat.zero_le _, Buf.nil _ _ _ _, Chg.refl _ _⟩
  rintro ⟨⟨lA, lN, lC⟩, zi, u⟩ h2 ⟨i, B2, hzi, hi, hb, hc⟩
  dsimp only at hzi hb
  subst hzi
  dsimp only
  have hw2 := hc.sub0 _ _ hw
  have hlen := parts_le hS hQ i
  have hlN := hb.1
  refine ⟨fun e => ?_, fun e => ?_⟩
  · have e : i < 16 := by have := of_decide_eq_true e; omega
    have hwi : IntKind.wrap .i64 (((i : Nat) : Int) + (1 : Int)) = ((i + 1 : Nat) : Int) := by rw [wrap64] <;> omega
    have hpl := part_le hS hQ i
    rw [hwi]
    cases hq : s.Q i with
    | none =>
      refine ⟨wb, 0, rfl, _, wk_part hw2 hR, none, 0, 0, false, ⟨esP, ⟨⟨cP, hc.sub0 _ _ hp⟩, hP.key⟩, by rw [lk_va, hP.no i e hq]⟩, fun _ => ?_, fun e2 => by simp at e2⟩
      refine ⟨wb, 0, rfl, _, wk_base hw2, cPairs ((ht.sub sp.sub).sub hc.sub0) e fun a3 c3 B3 h3 hb3 hc3 => ⟨_, _, _, rfl, EncPr.row (partB s.S i), hb3.sr.src, ?_⟩⟩
      have hpw : wPart s i = partB s.S i := by unfold wPart; rw [hq]; rfl
      have hpl2 : (partB s.S i).length ≤ 48 := hpw ▸ hpl
      refine (hb.sub hc3.sub0).append (new := partB s.S i) rfl rfl rfl (by omega) fun a4 c4 B4 h4 hb4 hc4 _ => ⟨⟨i + 1, B4, rfl, by omega, ?_, ?_⟩, by omega⟩
      · rw [parts_succ, hpw]; exact hb4
      · exact (hc.trans ⟨fun b o hb e => hc3.sub0 b o e, fun b hb => .inl hb⟩).trans hc4
    | some l =>
      obtain ⟨a3, c3, hv, hsr⟩ := hP.yes i l e hq
      have hpw : wPart s i = l := by unfold wPart; rw [hq]; rfl
      have hpl2 : l.length ≤ 48 := hpw ▸ hpl
      refine ⟨wb, 0, rfl, _, wk_part hw2 hR, a3, l.length, c3, true, ⟨esP, ⟨⟨cP, hc.sub0 _ _ hp⟩, hP.key⟩, by rw [lk_va, hv]⟩, fun e2 => by simp at e2, fun _ => ⟨EncPr.row l, ((hsr.sub sp.sub).sub hc.sub0).src, ?_⟩⟩
      refine hb.append (new := l) rfl rfl rfl (by omega) fun a4 c4 B4 h4 hb4 hc4 _ => ⟨⟨i + 1, B4, rfl, by omega, ?_, hc.trans hc4⟩, by omega⟩
      rw [parts_succ, hpw]; exact hb4
  · have e : i = 16 := by have := of_decide_eq_false e; omega
    subst e
    have hb : Buf EncPr T_api_Pair B2 h2 lA lN lC (wDone s) := hb
    refine ⟨fun e2 => hno (.inr ⟨hdone, ?_⟩) h2 hc.sub0, fun e2 => cSortW hb (by have : (wDone s).length ≤ 48 * 16 := hlen; omega) fun l h3 hp3 hs3 hb3 hc3 => ?_⟩
    · have := of_decide_eq_true e2
      have hlN : lN = (wDone s).length := hlN
      omega
    · have := of_decide_eq_false e2
      have hlN : lN = (wDone s).length := hlN
      have hl3 := hp3.length_eq
      have := hyes hdone (by omega) l lA lC B2 h3 hp3 hs3 (by rw [hl3, ← hlN]; exact hb3) (hc.trans hc3)
      rw [hl3, ← hlN] at this; exact this
end TL

namespace TL
open Go Go.Proofs
/- twinlock/twinlocklaw16.WalkNobody -/
/- twinlock/twinlocklaw16.WalkQuiet -/
/- twinlock/twinlocklaw16.WalkKnown -/
/- twinlock/twinlocklaw16.WalkPlays -/
/- twinlock/twinlocklaw16.WalkFew -/
/- twinlock/twinlocklaw16.WalkLevel -/
/- twinlock/twinlocklaw16.wakes -/
/- twinlock/twinlocklaw16.Great -/
/- twinlock/twinlocklaw16.begin -/
/- twinlock/twinlocklaw16.answer -/
/- twinlock/twinlocklaw16.one -/
/- twinlock/twinlocklaw16.above -/
/- twinlock/twinlocklaw16.collides -/
/- twinlock/twinlocklaw16.node -/
/- twinlock/twinlocklaw16.rest -/
end TL

namespace TL
open Go Go.Proofs
variable {g h : PH} {N : List Nat} {K : Value → PH → Prop} {wb tb : Nat} {s : WS} {S T : List PrR}
theorem nd_in {c : Nat} (h1 : 1 ≤ c) (h2 : c < 16) : nd S c = shaN (innT (nd S (2 * c)) (nd S (2 * c + 1))) := by
  unfold nd; rw [node_in _ h1 h2]
theorem nd_leaf {i : Nat} (h : i < 16) : nd S (16 + i) = shaN (76 :: pageL (partB S i)) := by
  unfold nd; rw [node_leaf _ (by omega) (by omega), show 16 + i - 16 = i by omega]; rfl
theorem askP_leaf : ∀ c : Nat, c < 32 → 16 ≤ c → (askP c).1 = 4 ∧ (askP c).2 = ((c - 16 : Nat) : Int) := by decide +kernel
theorem nil_may : mayB ([] : List PrR) = true ∧ ([] : List PrR).length ≤ 48 := by decide
end TL

namespace TL
open Go Go.Proofs
variable {h : PH} {K : Value → PH → Prop}
end TL

namespace TL
open Go Go.Proofs
variable {h : PH} {K : Value → PH → Prop} {p v : List UInt8} {lA : Option Addr} {lC : Nat} {l : List PrR} {b : Nat}

theorem lv_rd {h : PH} {a : Option Addr} {l : List PrR} {j i : Nat} (x : SR EncH h a (lvRow l j (2 ^ j))) (hi : i < 2 ^ j) : ∃ bb ob, a = some ⟨bb, ob, none⟩ ∧ h.rds bb (ob + i * 32) 32 = some ((bi (nd l (2 ^ j + i))).map (Value.int .u8) ++ []) := by
  have hl : i < (lvRow l j (2 ^ j)).length := by rw [lvRow_len]; exact hi
  obtain ⟨bb, ob, hA, hr⟩ := x.get hl
  refine ⟨bb, ob, hA, ?_⟩
  have := hr (ob + i * 32) 0 32 (by show _ = ob + i * 32 + 0; omega) (by decide)
  rw [this, lvRow_get, List.drop_zero, List.append_nil, List.take_of_length_le (by rw [EncH.len]; decide)]; rfl
theorem cRTexts (hl : SR EncPr h lA l) (hm : mayB l = true) (h48 : l.length ≤ 48) (hk : ∀ a' c' B' h', Buf EncS 9 B' h' a' (textsT l).length c' (textsT l) → Chg [] B' h h' → K (.slice a' (textsT l).length c') h') :
    CallH Tryz.prog id_ref15_Texts [.slice lA l.length lC] K h := by
  refine F_ref15_Texts_ok (LoopP.ind (fun (z : (Option Addr × Nat × Nat) × Int × Unit) h' => ∃ (i : Nat) (B' : List Nat), z.2.1 = i ∧ i ≤ 16 ∧ Buf EncS 9 B' h' z.1.1 z.1.2.1 z.1.2.2 ((List.range i).map (leafT l)) ∧ Chg [] B' h h') (fun z _ => (16 - z.2.1).toNat) ?_ ⟨0, [], rfl, by omega, Buf.nil _ _ _ _, Chg.refl _ _⟩)
  rintro ⟨⟨oA, oN, oC⟩, zi, u⟩ h1 ⟨i, B1, hzi, hi, hb, hc⟩
  dsimp only at hzi hb
  subst hzi
  dsimp only
  have hon : oN = i := by rw [hb.1]; simp
  subst hon
  refine ⟨fun e => ?_, fun e => ?_⟩
  · have e : oN < 16 := by simp at e; omega
    refine cLeafText e (hl.sub hc.sub0) hm h48 fun h2 s2 => ⟨_, rfl, ?_⟩
    refine (hb.sub s2).append (new := [leafT l oN]) rfl rfl rfl (by omega) fun a' c' B' h' hb' hc' _ => ⟨⟨oN + 1, B', by rw [wrap64] <;> omega, by omega, ?_, (hc.onto s2).trans hc'⟩, by rw [wrap64] <;> omega⟩
    rw [List.range_succ, List.map_append]; exact hb'
  · have e : oN = 16 := by simp at e; omega
    subst e
    refine (Spl.of0 hc hb.has).call (cLevels (K := fun v g => ∃ bv f, LvB g bv f ∧ (∀ j, j < 5 → (f j).n = 2 ^ j ∧ SR EncH g (f j).a (lvRow l j (2 ^ j))) ∧ h.Sub g ∧ v = .slice (some ⟨bv, 0, none⟩) 5 5) hl hm h48 fun bv f g x1 x2 x3 => ⟨bv, f, x1, x2, x3, rfl⟩) ?_
    rintro _ g2 h2 ⟨bv, f, xv, rv, s2, rfl⟩ st
    obtain ⟨st, same⟩ := st s2
    have sp2 := st.spl
    refine ⟨_, _, _, rfl, ?_⟩
    have hb := hb.keep same
    have lvs : ∀ {g : PH}, g2.Sub g → ∀ j, j < 5 → g.rds bv (0 + j * 1) 1 = some [.slice (f j).a (f j).n (f j).c] ∧ (f j).n = 2 ^ j ∧ SR EncH g (f j).a (lvRow l j (2 ^ j)) := fun s j hj => ⟨(xv.sub s).get hj (by omega), (rv j hj).1, (rv j hj).2.sub s⟩
    refine LoopP.ind (fun (z : (Option Addr × Nat × Nat) × Int × Unit) h' => ∃ (m : Nat) (B' : List Nat), z.2.1 = (3 : Int) - m ∧ m ≤ 4 ∧ Buf EncS 9 B' h' z.1.1 z.1.2.1 z.1.2.2 ((List.range 16).map (leafT l) ++ (List.range m).flatMap fun d => inRow l (3 - d)) ∧ Spl g2 B' h') (fun z _ => (z.2.1 + 1).toNat) ?_ ⟨0, B1, rfl, by omega, by simpa using hb, sp2⟩
    rintro ⟨⟨oA, oN, oC⟩, zm, u⟩ h3 ⟨m, B2, hzm, hm4, hb2, s3⟩
    dsimp only at hzm hb2
    subst hzm
    dsimp only
    refine ⟨fun e => ?_, fun e => ?_⟩
    · have e : m < 4 := by simp at e; omega
      have hlv : ((3 : Int) - (m : Nat)) = ((3 - m : Nat) : Int) := by omega
      rw [hlv]
      generalize hlv2 : 3 - m = lv
      have hlv4 : lv ≤ 3 := by omega
      have h2lv : 2 ^ lv ≤ 8 := Nat.pow_le_pow_right (n := 2) (by decide) (show lv ≤ 3 from hlv4)
      have hp2 : 2 ^ (lv + 1) = 2 * 2 ^ lv := by rw [Nat.pow_succ]; omega
      have hrow : inRow l lv = (List.range (2 ^ lv)).map fun i => inT l (2 ^ lv + i) := rfl
      have hw : IntKind.wrap .i64 (((lv : Nat) : Int) - (1 : Int)) = (3 : Int) - ((m + 1 : Nat) : Int) := by rw [wrap64] <;> omega
      have hw1 : IntKind.wrap .i64 (((lv : Nat) : Int) + (1 : Int)) = ((lv + 1 : Nat) : Int) := by rw [wrap64] <;> omega
      have tn : ((lv : Nat) : Int).toNat = lv := by omega
      have tn1 : ((lv + 1 : Nat) : Int).toNat = lv + 1 := by omega
      rw [hw, hw1, tn, tn1]
      refine LoopP.ind (fun (z : (Option Addr × Nat × Nat) × Int × Unit) h' => ∃ (k : Nat) (B' : List Nat), z.2.1 = k ∧ k ≤ 2 ^ lv ∧ Buf EncS 9 B' h' z.1.1 z.1.2.1 z.1.2.2 ((List.range 16).map (leafT l) ++ ((List.range m).flatMap (fun d => inRow l (3 - d)) ++ (List.range k).map fun i => inT l (2 ^ lv + i))) ∧ Spl g2 B' h') (fun z _ => (((2 ^ lv : Nat) : Int) - z.2.1).toNat) ?_ ⟨0, B2, rfl, Nat.zero_le _, by simpa using hb2, s3⟩
      rintro ⟨⟨oA, oN, oC⟩, zk, u⟩ h4 ⟨k, B3, hzk, hk3, hb3, s4⟩
      dsimp only at hzk hb3
      subst hzk
      dsimp only
      have hon : oN ≤ 100 := by
        rw [hb3.1, List.length_append, List.length_append, List.length_map, List.length_map, List.length_range, List.length_range]
        have := pre_len l m
        omega
      obtain ⟨g0, n0, r0⟩ := lvs s4.sub lv (by omega)
      obtain ⟨g1, n1, r1⟩ := lvs s4.sub (lv + 1) (by omega)
      refine ⟨bv, 0, ⟨rfl, by omega, by omega⟩, _, _, _, g0, ?_⟩
      rw [n0]
      refine ⟨fun e5 => ?_, fun e5 => ?_⟩
      · have e5 : k < 2 ^ lv := Int.ofNat_lt.1 (of_decide_eq_true e5)
        have w1 : IntKind.wrap .i64 ((2 : Int) * ((k : Nat) : Int)) = ((2 * k : Nat) : Int) := by rw [wrap64] <;> omega
        have w2 : IntKind.wrap .i64 (((2 * k : Nat) : Int) + (1 : Int)) = ((2 * k + 1 : Nat) : Int) := by rw [wrap64] <;> omega
        have w5 : IntKind.wrap .i64 (((k : Nat) : Int) + (1 : Int)) = ((k + 1 : Nat) : Int) := by rw [wrap64] <;> omega
        have t1 : ((2 * k : Nat) : Int).toNat = 2 * k := by omega
        have t2 : ((2 * k + 1 : Nat) : Int).toNat = 2 * k + 1 := by omega
        rw [w1, w2, w5, t1, t2]
        obtain ⟨b1, o1, hA1, hr1⟩ := lv_rd r1 (i := 2 * k) (by omega)
        obtain ⟨b2, o2, hA2, hr2⟩ := lv_rd r1 (i := 2 * k + 1) (by omega)
        refine ⟨bv, 0, ⟨rfl, by omega, by show ((lv + 1 : Nat) : Int) < 5; omega⟩, _, _, _, g1, b1, o1, ⟨hA1, by omega, by rw [n1]; omega⟩, bi (nd l (2 ^ (lv + 1) + 2 * k)), by rw [bi_len, nd_len], hr1, bv, 0, ⟨rfl, by omega, by show ((lv + 1 : Nat) : Int) < 5; omega⟩, _, _, _, g1, b2, o2, ⟨hA2, by omega, by rw [n1]; omega⟩, bi (nd l (2 ^ (lv + 1) + (2 * k + 1))), by rw [bi_len, nd_len], hr2,
          cRInnerText (nd_len _ _) (nd_len _ _) fun h5 s5 => ⟨_, rfl, ?_⟩⟩
        have ht : innT (nd l (2 ^ (lv + 1) + 2 * k)) (nd l (2 ^ (lv + 1) + (2 * k + 1))) = inT l (2 ^ lv + k) := by
          unfold inT
          rw [show 2 ^ (lv + 1) + 2 * k = 2 * (2 ^ lv + k) by omega, show 2 ^ (lv + 1) + (2 * k + 1) = 2 * (2 ^ lv + k) + 1 by omega]
        rw [ht]
        refine (hb3.sub s5).append (new := [inT l (2 ^ lv + k)]) rfl rfl rfl (by omega) fun a' c' B' h' hb' hc' _ => ⟨⟨k + 1, B', rfl, by omega, ?_, ((s4.grow s5).spl.chg hc' hb'.has).spl⟩, by omega⟩
        rw [List.range_succ (n := k), List.map_append, ← List.append_assoc, ← List.append_assoc]
        rw [← List.append_assoc] at hb'
        exact hb'
      · have e5 : k = 2 ^ lv := by
          rcases Nat.lt_or_ge k (2 ^ lv) with h | h
          · exact absurd (Int.ofNat_lt.2 h) (of_decide_eq_false e5)
          · omega
        refine ⟨⟨m + 1, B3, rfl, by omega, ?_, s4⟩, by omega⟩
        rw [e5] at hb3
        have : ((List.range (m + 1)).flatMap fun d => inRow l (3 - d)) = ((List.range m).flatMap fun d => inRow l (3 - d)) ++ (List.range (2 ^ lv)).map fun i => inT l (2 ^ lv + i) := by
          rw [List.range_succ, List.flatMap_append, List.flatMap_cons, List.flatMap_nil, List.append_nil, hlv2, hrow]
        rw [this]; exact hb3
    · have e : m = 4 := by simp at e; omega
      subst e
      have := hb2.1
      subst this
      exact hk _ _ _ _ hb2 (s3.chg0 s2)
end TL

namespace TL
open Go Go.Proofs
variable {g h : PH} {N : List Nat} {K : Value → PH → Prop} {sb : Nat} {s : ShS} {v : VwR} {lA : Option Addr} {lC : Nat}

theorem hello_row (ep : Int) : EncMsg.row [fOf (helloM ep) none 0] ++ [] = (.int .u8 (1 : Int) :: (.int .i64 ep :: (.int .i64 (0 : Int) :: (.int .i64 (0 : Int) :: (.int .i64 (0 : Int) :: (.int .i64 (0 : Int) :: (.slice none 0 0 :: (.int .i64 (0 : Int) :: ((List.replicate 32 0).map (Value.int .u8) ++ (.int .i64 (0 : Int) :: (.int .i64 (0 : Int) :: ((List.replicate 32 0).map (Value.int .u8) ++ ((List.replicate 32 0).map (Value.int .u8) ++ ([.slice none 0 0] : List Value)))))))))))))) := by
  simp only [Enc.row, List.flatMap_cons, List.flatMap_nil, EncMsg, encMsg, fOf, helloM, msg0, hv_zero, List.append_nil]
  rfl
theorem ops_one (h : PH) (m : MsgA) (hm : m.ops = []) : OpsAt h [] [fOf m none 0] := by
  have : OpsAt h ([] ++ []) [fOf m none 0] := OpsAt.cons (Be := []) (Bs := []) (by
    show Buf EncOp T_api_Op [] h none m.ops.length 0 m.ops
    rw [hm]; exact Buf.nil _ _ _ _) (Dj.nil _) .nil
  exact this
theorem cTick (x : ShipAt g N h sb s) (sp : Spl g N h) (vw : VwOk g v) (hat : -9223372036854775808 ≤ v.at_ ∧ v.at_ ≤ 9223372036854775807) (htl : s.texts.length ≤ 100000)
    (hk : ∀ g' N' B' h' a' c' L, ShipAt g' N' h' sb (tickV s v).2 → Msgs B' h' a' c' L → L.map (·.m) = (tickV s v).1 → Stp g N h g' (B' ++ N') h' → Dj B' N' → K (.slice a' L.length c') h') :
    CallH Tryz.prog id_ship_Ship_Tick [.pointer (some ⟨sb, 0, none⟩), v.val] K h := by
  refine F_ship_Ship_Tick_ok ⟨fun e => by simp at e, fun _ => nwL fun bv h1 hbn hb1 c1 => ⟨sb, 0, rfl, ?_⟩⟩
  have st1 := sp.own c1 (has1 hb1)
  have sp1 := st1.spl
  have hbvN : bv ∉ N := Dj.new sp.has c1 bv (by simp)
  have x1 := x.keep (PH.Sub.rf _) fun b hb o e => c1.keep e (by simp)
  have hbuf0 : Buf EncMsg T_api_Msg [bv] h1 (some ⟨bv, 0, none⟩) 1 1 [fOf (helloM v.ep) none 0] := ⟨rfl, .inr ⟨bv, [], rfl, rfl, by rw [hb1, hello_row], rfl, by decide⟩⟩
  have hbvo : ∃ o, h1 bv = some o := ⟨_, hb1⟩
  clear hb1
  have fin1 : ∀ {g' : PH} {N' : List Nat} {h' : PH}, ShipAt g' N' h' sb (tickV s v).2 → (tickV s v).1 = [helloM v.ep] → Stp g ([bv] ++ N) h1 g' ([bv] ++ N') h' → bv ∉ N' → (∀ o, h1 bv = some o → h' bv = some o) → K (.slice (some ⟨bv, 0, none⟩) 1 1) h' := fun {g' N' h'} hS hT st nN hkp =>
    hk g' N' [bv] h' _ 1 [fOf (helloM v.ep) none 0] hS ⟨[bv], [], rfl, hbuf0.keep fun b hb o e => (by rw [List.mem_singleton] at hb; subst hb; exact hkp o e), ops_one _ _ rfl, Dj.nil _, fun f hf => (by rw [List.mem_singleton] at hf; subst hf; exact ⟨rfl, Nat.zero_le _⟩)⟩ hT.symm (st1.trans st) fun b hb => (by rw [List.mem_singleton] at hb; subst hb; exact nN)
  obtain ⟨⟨pa, ps, tA, tN, tC, Bt, rfl, nB, hb, hbuf, ha, hsh⟩, hr⟩ := id x1
  have hbs : bv ≠ sb := fun e => hbvN (e ▸ List.mem_cons_self)
  refine ⟨pa, rdsL hb rfl rfl, ?_⟩
  cases hack : s.ack with
  | none =>
    rw [hack] at ha
    have hpa : pa = none := ha
    subst hpa
    have ht : tickV s v = ([helloM v.ep], s) := by unfold tickV; simp only [hack]
    exact ⟨fun _ => fin1 (by rw [ht]; exact x1) (by rw [ht]) (Stp.refl sp1) hbvN fun _ e => e, fun e => by simp at e⟩
  | some q =>
    obtain ⟨a, e⟩ := q
    rw [hack] at ha
    obtain ⟨ba, T, fr, hpa, hga⟩ := ha
    subst hpa
    have hra : h1.rds ba 0 2 = some [.int .i64 a, .int .i64 e] := rdsL (sp1.sub _ _ hga) rfl rfl
    have hra1 : h1.rds ba 0 1 = some [.int .i64 a] := rdsL (sp1.sub _ _ hga) rfl rfl
    refine ⟨fun e => by simp at e, fun _ => ⟨sb, 0, rfl, _, rdsL hb rfl rfl, ba, 0, rfl, a, e, hra, fun e1 => ?_, fun e1 => ?_⟩⟩
    · have e1 : a = v.at_ ∧ e = v.ae := by simpa using e1
      have ht : tickV s v = ([helloM v.ep], { s with shot := none }) := by unfold tickV; simp only [hack]; rw [if_pos e1]
      refine ⟨sb, 0, rfl, stL hb rfl rfl fun h2 hb2 c2 => ?_⟩
      have kB : ∀ {q : Nat}, q ∈ Bt → q ∉ [sb] := fun {q} hq hm => notIn1 nB q hq hm
      refine fin1 (g' := g) (N' := sb :: Bt) ?_ (by rw [ht]) (sp1.chg ((c2.head (B := Bt)).tail (b := bv)) fun q hq => ?_) hbvN fun o eo => c2.keep eo (by simpa using hbs)
      · rw [ht]
        exact ⟨⟨some ⟨ba, 0, none⟩, none, tA, tN, tC, Bt, rfl, nB, hb2, hbuf.chg c2 fun q hq => kB hq, (by show ackAt g _ s.ack; rw [hack]; exact ⟨ba, T, fr, rfl, hga⟩), rfl⟩, fun _ _ _ e => by cases e⟩
      · rcases List.mem_cons.1 hq with rfl | hq
        · obtain ⟨o, ho⟩ := hbvo
          exact ⟨o, c2.keep ho (by simpa using hbs)⟩
        · rcases List.mem_cons.1 hq with rfl | hq
          · exact ⟨_, hb2⟩
          · obtain ⟨o, ho⟩ := hbuf.has q hq
            exact ⟨o, c2.keep ho (kB hq)⟩
    · have e1 : ¬ (a = v.at_ ∧ e = v.ae) := fun hh => by simp [hh.1, hh.2] at e1
      refine ⟨sb, 0, rfl, _, rdsL hb rfl rfl, ba, 0, rfl, a, e, hra, cNext (vw.sub sp1.sub) ?_⟩
      cases hn : nextV v a e with
      | some i =>
        have ht : tickV s v = (helloM v.ep :: entsV v i, s) := by unfold tickV; simp only [hack, hn]; rw [if_neg e1]
        refine ⟨_, _, rfl, fun _ => cEntries (vw.sub sp1.sub) (nextV_le hn) fun a4 c4 L B4 h4 hm4 hmap4 hc4 => ⟨_, _, _, rfl, EncMsg.row L, ?_, ?_⟩, fun en => by simp at en⟩
        · obtain ⟨B0, Bs, rfl, q1, _⟩ := hm4
          exact q1.sr.src
        · have hlen : L.length ≤ 4 := by
            have := congrArg List.length hmap4
            unfold entsV at this
            simp only [List.length_map, List.length_range] at this
            omega
          refine (hbuf0.sub hc4.sub0).append (new := L) rfl rfl rfl (by omega) fun a5 c5 B5 h5 hb5 hc5 _ => ?_
          have hB4 : Has B4 h4 := hm4.has
          obtain ⟨B0, Bs, rfl, q1, q2, q3, q4⟩ := hm4
          have dj4 : Dj (B0 ++ Bs) ([bv] ++ (sb :: Bt)) := Dj.new sp1.has hc4
          have st4 := sp1.own hc4 hB4
          have hN4 : Has (sb :: Bt) h4 := fun q hq => st4.spl.has q (List.mem_append_right _ (List.mem_append_right _ hq))
          have dbs : Dj [bv] Bs := fun q hq hm => dj4 q (List.mem_append_right _ hm) (List.mem_append_left _ hq)
          have dbn : Dj [bv] (sb :: Bt) := fun q hq hm => hbvN (by rw [List.mem_singleton] at hq; subst hq; exact hm)
          have d5s : Dj B5 Bs := dbs.chg q2.has hc5
          have d5n : Dj B5 (sb :: Bt) := dbn.chg hN4 hc5
          have dsn : Dj Bs (sb :: Bt) := fun q hq hm => dj4 q (List.mem_append_right _ hq) (List.mem_append_right _ hm)
          have cc5 := (hc5.left (C := sb :: Bt)).right (C := B0 ++ Bs)
          have st5 := st4.spl.chg cc5 (fun q hq => by
            rcases List.mem_append.1 hq with hq | hq
            · obtain ⟨o, ho⟩ := hB4 q hq
              exact ⟨o, hc5.keep ho fun hm => dj4 q hq (List.mem_append_left _ hm)⟩
            · rcases List.mem_append.1 hq with hq | hq
              · exact hb5.has q hq
              · obtain ⟨o, ho⟩ := hN4 q hq
                exact ⟨o, hc5.keep ho fun hm => dbn q hm hq⟩)
          have st := (st1.trans (st4.trans st5)).less (M := (B5 ++ Bs) ++ (sb :: Bt)) (fun q hq => by
            simp only [List.mem_append] at hq ⊢
            rcases hq with (hq | hq) | hq
            · exact .inr (.inl hq)
            · exact .inl (.inr hq)
            · exact .inr (.inr hq))
          have h45 : ∀ q ∈ Bs, ∀ o, h4 q = some o → h5 q = some o := fun q hq o eo => hc5.keep eo fun hm => dbs q hm hq
          have := hk g (sb :: Bt) (B5 ++ Bs) h5 a5 c5 (fOf (helloM v.ep) none 0 :: L) (by
              rw [ht]
              exact x1.keep (PH.Sub.rf _) fun q hq o eo => hc5.keep (hc4.sub0 _ _ eo) fun hm => dbn q hm hq)
            ⟨B5, Bs, rfl, by rw [List.length_cons, Nat.add_comm]; exact hb5, (OpsAt.cons (Be := []) (f := fOf (helloM v.ep) none 0) (Buf.nil _ _ _ _) (fun _ h => by cases h) (q2.keep h45) : OpsAt h5 ([] ++ Bs) _), d5s, fun f hf => by
              rcases List.mem_cons.1 hf with rfl | hf
              · exact ⟨rfl, Nat.zero_le _⟩
              · exact q4 f hf⟩ (by rw [ht, List.map_cons, hmap4]; rfl) st (d5n.app dsn)
          rw [List.length_cons, Nat.add_comm] at this; exact this
      | none =>
        refine ⟨_, _, rfl, fun en => by simp at en, fun _ => ?_⟩
        refine ⟨fun _ h' => ∃ g' N' s' x y S, ShipAt g' N' h' sb s' ∧ s'.shot = some (x, y, S) ∧ tickV s v = ([helloM v.ep, rootM v.ep x y (rootH S)], s') ∧ Stp g ([bv] ++ (sb :: Bt)) h1 g' ([bv] ++ N') h' ∧ bv ∉ N' ∧ ∀ o, h1 bv = some o → h' bv = some o, ?_, ?_⟩
        · -- what there is, or a new copy
          have blk : needV s v a → shotBlk sb v bv K (fun _ h' => ∃ g' N' s' x y S, ShipAt g' N' h' sb s' ∧ s'.shot = some (x, y, S) ∧ tickV s v = ([helloM v.ep, rootM v.ep x y (rootH S)], s') ∧ Stp g ([bv] ++ (sb :: Bt)) h1 g' ([bv] ++ N') h' ∧ bv ∉ N' ∧ ∀ o, h1 bv = some o → h' bv = some o) h1 := fun hneed => by
            refine mkShot x1 sp1 hbvN vw hat htl (fun hno h' st same => ?_) (fun hok g' N' h' hS st nN hkp => ⟨g', N', _, _, _, _, hS, rfl, ?_, st, nN, hkp⟩)
            · have ht : tickV s v = ([helloM v.ep], s) := by unfold tickV; simp only [hack, hn]; rw [if_neg e1, if_pos hneed, if_neg hno]
              exact fin1 (by rw [ht]; exact x1.keep (PH.Sub.rf _) fun q hq o eo => same q (List.mem_append_right _ hq) o eo) (by rw [ht]) st hbvN fun o eo => same bv (by simp) o eo
            · unfold tickV; simp only [hack, hn]; rw [if_neg e1, if_pos hneed, if_pos hok]
          refine ⟨sb, 0, rfl, ps, rdsL hb rfl rfl, sb, 0, fun _ => rfl, ps, fun _ => rdsL hb rfl rfl, ?_⟩
          cases hs : s.shot with
          | none =>
            rw [hs] at hsh
            have hps : ps = none := hsh
            subst hps
            refine ⟨0, 0, fun e => by simp at e, 0, fun e => by simp at e, 0, 0, fun e => by simp at e, none, fun e => by simp at e, 0, 0, fun e => by simp at e, 0, fun e => by simp at e, fun e => by simp at e, fun _ => ?_⟩
            exact blk (by unfold needV; rw [hs]; trivial)
          | some q =>
            obtain ⟨x0, y0, S0⟩ := q
            rw [hs] at hsh
            obtain ⟨bsh, tb, T2, fr2, hps, hgs, htr⟩ := hsh
            subst hps
            have hrx : h1.rds bsh 0 1 = some [.int .i64 x0] := rdsL (sp1.sub _ _ hgs) rfl rfl
            obtain ⟨hx1, hx2⟩ := hr x0 y0 S0 hs
            have hneed : needV s v a ↔ ((x0 ≤ a ∧ x0 < v.at_) ∨ (x0 ≤ 9223372036854775743 ∧ v.at_ > x0 + 64)) := by unfold needV; rw [hs]
            refine ⟨bsh, 0, fun _ => rfl, x0, fun _ => hrx, sb, 0, fun _ => rfl, _, fun _ => rdsL hb rfl rfl, ba, 0, fun _ => rfl, a, fun _ => hra1, fun _ => ⟨sb, 0, fun _ => rfl, _, fun _ => rdsL hb rfl rfl, bsh, 0, fun _ => rfl, x0, fun _ => hrx, sb, 0, fun _ => rfl, _, fun _ => rdsL hb rfl rfl, bsh, 0, fun _ => rfl, x0, fun _ => hrx, fun e2 => ?_, fun e2 => ?_⟩, fun e => by simp at e⟩
            · refine F_ship_above_ok ⟨_, rfl, fun e3 => ?_, fun e3 => ?_⟩
              · refine blk (hneed.2 (.inr ?_))
                simp only [Bool.and_eq_true, decide_eq_true_eq] at e3
                rw [wrap64 (by omega) (by omega)] at e3
                exact e3
              · have hnn : ¬ needV s v a := fun hh => by
                  rcases hneed.1 hh with h | h
                  · simp [h.1, h.2] at e2
                  · have : (decide (x0 ≤ (9223372036854775743 : Int)) && decide (v.at_ > IntKind.wrap .i64 (x0 + (64 : Int)))) = true := by
                      rw [wrap64 (by omega) (by omega)]
                      simp only [Bool.and_eq_true, decide_eq_true_eq]; exact h
                    rw [this] at e3; cases e3
                exact ⟨g, sb :: Bt, s, x0, y0, S0, x1, hs, by unfold tickV; simp only [hack, hn]; rw [if_neg e1, if_neg hnn]; simp only [hs], Stp.refl sp1, hbvN, fun _ e => e⟩
            · refine blk (hneed.2 (.inl ?_))
              simpa using e2
        · rintro u h6 ⟨g6, N6, s6, x6, y6, S6, hS6, hs6, ht6, st6, nN6, hkp6⟩
          obtain ⟨⟨pa6, ps6, tA6, tN6, tC6, Bt6, rfl, nB6, hb6, hbuf6, ha6, hsh6⟩, hr6⟩ := id hS6
          rw [hs6] at hsh6
          obtain ⟨bsh, tb, T2, fr2, hps, hgs, htr⟩ := hsh6
          subst hps
          have hrg := st6.spl.sub _ _ hgs
          have r1 : h6.rds sb (0 + 1) 1 = some [.pointer (some ⟨bsh, 0, none⟩)] := rdsL hb6 rfl rfl
          have r2 : h6.rds bsh 0 1 = some [.int .i64 x6] := rdsL hrg rfl rfl
          have r3 : h6.rds bsh (0 + 1) 1 = some [.int .i64 y6] := rdsL hrg rfl rfl
          have r4 : h6.rds bsh (0 + 2) 1 = some [.pointer (some ⟨tb, 0, none⟩)] := rdsL hrg rfl rfl
          refine ⟨sb, 0, rfl, _, r1, bsh, 0, rfl, x6, r2, sb, 0, rfl, _, r1, bsh, 0, rfl, y6, r3, sb, 0, rfl, _, r1, bsh, 0, rfl, _, r4, cRoot (htr.sub st6.spl.sub) ⟨bi (nd S6 1), by rw [bi_len, nd_len], rfl, r3, r1, r2, r1, ?_⟩⟩
          have hb06 : Buf EncMsg T_api_Msg [bv] h6 (some ⟨bv, 0, none⟩) 1 1 [fOf (helloM v.ep) none 0] := hbuf0.keep fun q hq o eo => by
            rw [List.mem_singleton] at hq; subst hq; exact hkp6 o eo
          refine hb06.append (new := [fOf (rootM v.ep x6 y6 (rootH S6)) none 0]) rfl ?_ rfl (by omega) fun a7 c7 B7 h7 hb7 hc7 _ => ?_
          · simp only [Enc.row, List.flatMap_cons, List.flatMap_nil, EncMsg, encMsg, fOf, rootM, msg0, hv_zero, List.append_nil]
            rfl
          · have d6 : Dj [bv] (sb :: Bt6) := fun q hq hm => nN6 (by rw [List.mem_singleton] at hq; subst hq; exact hm)
            have hN6 : Has (sb :: Bt6) h6 := st6.spl.right.has
            have st7 := st6.spl.part d6 hc7 hb7.has
            refine hk g6 (sb :: Bt6) B7 h7 a7 c7 [fOf (helloM v.ep) none 0, fOf (rootM v.ep x6 y6 (rootH S6)) none 0] ?_ ⟨B7, [], by simp, hb7, (OpsAt.cons (Be := []) (Bs := []) (Buf.nil _ _ _ _) (Dj.nil _) (ops_one _ _ rfl) : OpsAt h7 ([] ++ []) _), Dj.nil _, fun f hf => ?_⟩ (by rw [ht6]; rfl) (st1.trans (st6.trans st7)) (d6.chg hN6 hc7)
            · rw [ht6]
              exact hS6.keep (PH.Sub.rf _) fun q hq o eo => hc7.keep eo fun hm => d6 q hm hq
            · simp only [List.mem_cons, List.not_mem_nil, or_false] at hf
              rcases hf with rfl | rfl <;> exact ⟨rfl, Nat.zero_le _⟩
end TL

namespace TL
open Go Go.Proofs
variable {g h : PH} {N : List Nat} {K : Value → PH → Prop} {sb : Nat} {s : ShS} {v : VwR} {lA : Option Addr} {lC : Nat}

theorem cShTexts (x : ShipAt g N h sb s) (hn : s.texts.length ≤ 1000000) (hk : ∀ a' c' B' h', Buf EncS 9 B' h' a' s.texts.length c' s.texts → Chg [] B' h h' → K (.slice a' s.texts.length c') h') : CallH Tryz.prog id_ship_Ship_Texts [.pointer (some ⟨sb, 0, none⟩)] K h := by
  obtain ⟨⟨pa, ps, tA, tN, tC, Bt, rfl, nB, hb, hbuf, ha, hsh⟩, hr⟩ := x
  have hl := hbuf.1
  subst hl
  exact F_ship_Ship_Texts_ok ⟨fun e => by simp at e, fun _ => ⟨sb, 0, rfl, _, _, _, rdsL hb rfl rfl, cCloneStr hbuf.sr hn fun a' c' B' h' hb' hc' => ⟨_, _, _, rfl, hk a' c' B' h' hb' hc'⟩⟩⟩
theorem cCopy (x : ShipAt g N h sb s) (sp : Spl g N h) (h0 : s.shot = none → K (.tuple #[.int .i64 (0 : Int), .agg (((List.replicate 32 0).map (Value.int .u8) ++ [])).toArray, .bool false]) h)
    (h1 : ∀ x y S, s.shot = some (x, y, S) → K (.tuple #[.int .i64 x, .agg (((bi (nd S 1)).map (Value.int .u8) ++ [])).toArray, .bool true]) h) : CallH Tryz.prog id_ship_Ship_Copy [.pointer (some ⟨sb, 0, none⟩)] K h := by
  obtain ⟨⟨pa, ps, tA, tN, tC, Bt, rfl, nB, hb, hbuf, ha, hsh⟩, hr⟩ := x
  have r1 : h.rds sb (0 + 1) 1 = some [.pointer ps] := rdsL hb rfl rfl
  refine F_ship_Ship_Copy_ok ⟨sb, 0, fun _ => rfl, ps, fun _ => r1, ?_⟩
  cases hs : s.shot with
  | none =>
    rw [hs] at hsh
    have hps : ps = none := hsh
    subst hps
    exact ⟨fun _ => h0 hs, fun e => by simp at e⟩
  | some q =>
    obtain ⟨x0, y0, S0⟩ := q
    rw [hs] at hsh
    obtain ⟨bsh, tb, T2, fr2, hps, hgs, htr⟩ := hsh
    subst hps
    have hg := sp.sub _ _ hgs
    have r2 : h.rds bsh 0 1 = some [.int .i64 x0] := rdsL hg rfl rfl
    have r4 : h.rds bsh (0 + 2) 1 = some [.pointer (some ⟨tb, 0, none⟩)] := rdsL hg rfl rfl
    exact ⟨fun e => by simp at e, fun _ => ⟨sb, 0, rfl, _, r1, bsh, 0, rfl, x0, r2, sb, 0, rfl, _, r1, bsh, 0, rfl, _, r4, cRoot (htr.sub sp.sub) ⟨bi (nd S0 1), by rw [bi_len, nd_len], rfl, r2, r1, h1 x0 y0 S0 hs⟩⟩⟩
abbrev Z32 : List Int := List.replicate 32 0
theorem inRange {lv i : Int} (h : 0 ≤ lv ∧ lv ≤ 4 ∧ 0 ≤ i ∧ i < ((2 ^ lv.toNat : Nat) : Int)) : ∃ n m : Nat, lv = n ∧ i = m ∧ n ≤ 4 ∧ m < 2 ^ n := by
  obtain ⟨h1, h2, h3, h4⟩ := h
  refine ⟨lv.toNat, i.toNat, by omega, by omega, by omega, ?_⟩
  exact Int.ofNat_lt.1 (by rw [Int.toNat_of_nonneg h3]; exact h4)
/-- a node that there is not -/
theorem cNodeOut {t : Option Addr} {lv i : Int} (ho : ¬ (0 ≤ lv ∧ lv ≤ 4 ∧ 0 ≤ i ∧ i < ((2 ^ lv.toNat : Nat) : Int))) (hk : K (.tuple #[.agg (((List.replicate 32 (0 : Int)).map (Value.int .u8) ++ [])).toArray, .bool false]) h) :
    CallH Tryz.prog id_tree_Tree_Node [.pointer t, .int .i64 lv, .int .i64 i] K h := by
  refine cNodeNo (fun e => ?_) ?_ hk
  · simp only [Bool.or_eq_false_iff, decide_eq_false_iff_not] at e; omega
  · by_cases b1 : lv < 0
    · simp [b1]
    · by_cases b2 : 4 < lv
      · simp [b2]
      · by_cases b3 : i < 0
        · simp [b3]
        · obtain ⟨n, rfl⟩ : ∃ n : Nat, lv = n := ⟨lv.toNat, by omega⟩
          rw [shl1 n (by omega)]
          have : ¬ i < ((2 ^ n : Nat) : Int) := fun hh => ho ⟨by omega, by omega, by omega, by rw [Int.toNat_natCast]; exact hh⟩
          simp only [Bool.or_eq_true, decide_eq_true_eq]
          exact .inr (by omega)
section
variable {m0 m1 m2 m3 m4 m5 m7 m9 m10 ep : Int} {m6A m13A : Option Addr} {m6N m6C m13N m13C : Nat} {m8 m11 m12 : List Int}
theorem cAsk (x : ShipAt g N h sb s) (sp : Spl g N h) (h8 : m8.length = 32) (h11 : m11.length = 32) (h12 : m12.length = 32)
    (hno : (∀ x y S, s.shot = some (x, y, S) → ¬ (m0 = 5 ∧ m2 = x ∧ (0 ≤ m9 ∧ m9 ≤ 4 ∧ 0 ≤ m10 ∧ m10 < ((2 ^ m9.toNat : Nat) : Int)))) → K (.tuple #[mV 0 0 0 0 0 0 none 0 0 0 Z32 0 0 Z32 Z32 none 0 0, .bool false]) h)
    (hpage : ∀ x y S, s.shot = some (x, y, S) → m0 = 5 → m2 = x → m9 = 4 → ∀ i : Nat, m10 = i → i < 16 → ∀ a' c' B' h', Buf EncPr T_api_Pair B' h' a' (partB S i).length c' (partB S i) → Chg [] B' h h' → K (.tuple #[mV 7 ep m2 0 0 0 none 0 0 0 Z32 0 m10 Z32 Z32 a' (partB S i).length c', .bool true]) h')
    (hnode : ∀ x y S, s.shot = some (x, y, S) → m0 = 5 → m2 = x → ∀ lv i : Nat, m9 = lv → m10 = i → lv < 4 → i < 2 ^ lv → K (.tuple #[mV 6 ep m2 0 0 0 none 0 0 0 Z32 m9 m10 (bi (nd S (2 ^ (lv + 1) + 2 * i))) (bi (nd S (2 ^ (lv + 1) + (2 * i + 1)))) none 0 0, .bool true]) h) :
    CallH Tryz.prog id_ship_Ship_Ask [.pointer (some ⟨sb, 0, none⟩), mV m0 m1 m2 m3 m4 m5 m6A m6N m6C m7 m8 m9 m10 m11 m12 m13A m13N m13C, .int .i64 ep] K h := by
  obtain ⟨⟨pa, ps, tA, tN, tC, Bt, rfl, nB, hb, hbuf, ha, hsh⟩, hr⟩ := x
  have r1 : h.rds sb (0 + 1) 1 = some [.pointer ps] := rdsL hb rfl rfl
  refine F_ship_Ship_Ask_ok h8 h11 h12 ⟨sb, 0, fun _ => rfl, ps, fun _ => r1, sb, 0, fun _ => rfl, ps, fun _ => r1, ?_⟩
  cases hs : s.shot with
  | none =>
    rw [hs] at hsh
    have hps : ps = none := hsh
    subst hps
    refine ⟨0, 0, fun e => by simp at e, 0, fun e => by simp at e, fun _ => hno fun x y S e => (by rw [hs] at e; cases e), fun e => by simp at e⟩
  | some q =>
    obtain ⟨x0, y0, S0⟩ := q
    rw [hs] at hsh
    obtain ⟨bsh, tb, T2, fr2, hps, hgs, htr⟩ := hsh
    subst hps
    have hg := sp.sub _ _ hgs
    have htr := htr.sub sp.sub
    have r2 : h.rds bsh 0 1 = some [.int .i64 x0] := rdsL hg rfl rfl
    have r4 : h.rds bsh (0 + 2) 1 = some [.pointer (some ⟨tb, 0, none⟩)] := rdsL hg rfl rfl
    have no : ¬ (m0 = 5 ∧ m2 = x0 ∧ (0 ≤ m9 ∧ m9 ≤ 4 ∧ 0 ≤ m10 ∧ m10 < ((2 ^ m9.toNat : Nat) : Int))) → K (.tuple #[mV 0 0 0 0 0 0 none 0 0 0 Z32 0 0 Z32 Z32 none 0 0, .bool false]) h := fun hn => hno fun x y S e => by
      rw [hs] at e; cases e; exact hn
    refine ⟨bsh, 0, fun _ => rfl, x0, fun _ => r2, fun e => no fun hh => ?_, fun e => ?_⟩
    · simp [hh.1, hh.2.1] at e
    have e : m0 = 5 ∧ m2 = x0 := by simpa using e
    by_cases hin : 0 ≤ m9 ∧ m9 ≤ 4 ∧ 0 ≤ m10 ∧ m10 < ((2 ^ m9.toNat : Nat) : Int)
    · obtain ⟨lv, i, rfl, rfl, hlv, hi⟩ := inRange hin
      refine ⟨fun _ h' => h' = h, ⟨sb, 0, rfl, _, r1, bsh, 0, rfl, _, r4, cNode htr hlv hi ⟨bi _, by rw [bi_len, nd_len], true, rfl, fun e => by simp at e, fun _ => rfl⟩, cNode htr hlv hi ⟨bi _, by rw [bi_len, nd_len], true, rfl, fun e => by simp at e, fun _ => rfl⟩⟩, ?_⟩
      rintro st _ rfl
      refine ⟨fun e4 => ?_, fun e4 => ?_⟩
      · have e4 : lv = 4 := by simp at e4; omega
        subst e4
        exact ⟨sb, 0, rfl, _, r1, bsh, 0, rfl, _, r4, cPairs htr (by simpa using hi) fun a' c' B' h' hb' hc' => ⟨_, _, _, rfl, hpage x0 y0 S0 hs e.1 e.2 rfl i rfl (by simpa using hi) a' c' B' h' hb' hc'⟩⟩
      · have e4 : lv < 4 := by
          have : lv ≠ 4 := fun hh => by subst hh; simp at e4
          omega
        have hp2 : 2 ^ (lv + 1) = 2 * 2 ^ lv := by rw [Nat.pow_succ]; omega
        have hp16 : 2 ^ lv ≤ 16 := Nat.pow_le_pow_right (n := 2) (by decide) (show lv ≤ 4 by omega)
        have w1 : IntKind.wrap .i64 (((lv : Nat) : Int) + (1 : Int)) = ((lv + 1 : Nat) : Int) := by rw [wrap64] <;> omega
        have w2 : IntKind.wrap .i64 ((2 : Int) * ((i : Nat) : Int)) = ((2 * i : Nat) : Int) := by rw [wrap64] <;> omega
        have w3 : IntKind.wrap .i64 (((2 * i : Nat) : Int) + (1 : Int)) = ((2 * i + 1 : Nat) : Int) := by rw [wrap64] <;> omega
        rw [w1, w2, w3]
        have goal := hnode x0 y0 S0 hs e.1 e.2 lv i rfl rfl e4 hi
        refine ⟨sb, 0, rfl, _, r1, bsh, 0, rfl, _, r4, cNode htr (by omega) (by omega) ⟨bi _, by rw [bi_len, nd_len], true, rfl, sb, 0, rfl, _, r1, bsh, 0, rfl, _, r4, cNode htr (by omega) (by omega) ⟨bi _, by rw [bi_len, nd_len], true, rfl, goal⟩, cNode htr (by omega) (by omega) ⟨bi _, by rw [bi_len, nd_len], true, rfl, goal⟩⟩,
          cNode htr (by omega) (by omega) ⟨bi _, by rw [bi_len, nd_len], true, rfl, sb, 0, rfl, _, r1, bsh, 0, rfl, _, r4, cNode htr (by omega) (by omega) ⟨bi _, by rw [bi_len, nd_len], true, rfl, goal⟩, cNode htr (by omega) (by omega) ⟨bi _, by rw [bi_len, nd_len], true, rfl, goal⟩⟩⟩
    · have hkn := no fun hh => hin hh.2.2
      refine ⟨fun _ h' => h' = h ∧ False, ⟨sb, 0, rfl, _, r1, bsh, 0, rfl, _, r4, cNodeOut hin ⟨List.replicate 32 0, by simp, false, rfl, fun _ => hkn, fun e => by simp at e⟩, cNodeOut hin ⟨List.replicate 32 0, by simp, false, rfl, fun _ => hkn, fun e => by simp at e⟩⟩, ?_⟩
      rintro st _ ⟨_, hf⟩
      exact hf.elim
end
end TL
