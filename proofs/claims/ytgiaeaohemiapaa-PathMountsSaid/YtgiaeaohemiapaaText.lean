/-
  The functions of the program as predicates on heap fragments, each tied to its code. No condition.
-/
import Derived.Test.YtgiaeaohemiapaaLibC
import Derived.Test.YtgiaeaohemiapaaProg
namespace TL
open Go Go.Proofs
abbrev id_gosem_cut_init : FuncId := 2
abbrev id_law11_PathCuts : FuncId := 3
abbrev id_law11_PathBack : FuncId := 4
abbrev id_law11_PathSides : FuncId := 5
abbrev id_law11_PathMounts : FuncId := 6
abbrev id_law11_PathFilter : FuncId := 7
abbrev id_law11_PathKnown : FuncId := 8
abbrev id_law11_wakes : FuncId := 9
abbrev id_path_Cut : FuncId := 10
abbrev id_ref11_Cut : FuncId := 11
abbrev id_path_Join : FuncId := 12
abbrev id_ref11_Named : FuncId := 13
abbrev id_ref11_Key : FuncId := 14
abbrev id_law11_Great : FuncId := 15
abbrev id_path_Of : FuncId := 16
abbrev id_ref11_Of : FuncId := 17
abbrev id_path_Right : FuncId := 18
abbrev id_ref11_Right : FuncId := 19
abbrev id_path_Ships : FuncId := 20
abbrev id_ref11_Ships : FuncId := 21
abbrev id_path_Same : FuncId := 22
abbrev id_law11_two : FuncId := 23
abbrev id_strings_Cut : FuncId := 24
abbrev id_path_named : FuncId := 25
abbrev id_path_key : FuncId := 26
abbrev id_slices_IndexFunc_api_Mount_api_Mount : FuncId := 27
abbrev id_path_Of_1 : FuncId := 28
abbrev id_path_Right_1 : FuncId := 29
abbrev id_slices_ContainsFunc_api_Mount_api_Mount : FuncId := 30
abbrev id_slices_Equal_api_Mount_api_Mount : FuncId := 31
abbrev id_internal_stringslite_Cut : FuncId := 32
abbrev id_strings_IndexByte : FuncId := 33
abbrev id_internal_stringslite_Index : FuncId := 34
abbrev id_internal_stringslite_IndexByte : FuncId := 35
abbrev id_internal_bytealg_IndexString : FuncId := 36
abbrev id_internal_bytealg_Cutover : FuncId := 37
abbrev id_internal_bytealg_IndexRabinKarp_string : FuncId := 38
abbrev id_internal_bytealg_IndexByteString : FuncId := 39
abbrev id_internal_bytealg_hashStr_string : FuncId := 40
abbrev T_api_Mount : TypeId := 33
/- twinlock/twinlocklaw11.PathCuts -/
def F_law11_PathCuts (p : ByteArray) (k : ByteArray) (K : Value → PH → Prop) (h : PH) : Prop :=
  ((((decide ((p.size : Int) > (3000 : Int))) || (decide ((k.size : Int) > (3000 : Int)))) = true →
      CallH Try.prog id_law11_wakes [] (fun v h1 =>
        ∃ t : Bool, v = .bool t ∧
        K (.bool t) h1) h) ∧
    (((decide ((p.size : Int) > (3000 : Int))) || (decide ((k.size : Int) > (3000 : Int)))) = false →
      CallH Try.prog id_path_Cut [.string p] (fun v_1 h2 =>
        ∃ t0 : ByteArray, ∃ t1 : ByteArray, ∃ t2 : Bool, v_1 = .tuple #[.string t0, .string t1, .bool t2] ∧
        CallH Try.prog id_ref11_Cut [.string p] (fun v_2 h3 =>
          ∃ t0_1 : ByteArray, ∃ t1_1 : ByteArray, ∃ t2_1 : Bool, v_2 = .tuple #[.string t0_1, .string t1_1, .bool t2_1] ∧
          CallH Try.prog id_path_Join [.string p, .string k] (fun v_3 h4 =>
            ∃ t0_2 : ByteArray, ∃ t1_2 : Bool, v_3 = .tuple #[.string t0_2, .bool t1_2] ∧
            JoinP (T := Bool × Unit) (fun Jv =>
              CallH Try.prog id_ref11_Named [.string p] (fun v_4 h6 =>
                ∃ t_1 : Bool, v_4 = .bool t_1 ∧
                ((t_1 = true →
                    CallH Try.prog id_ref11_Key [.string k] (fun v_5 h7 =>
                      ∃ t_2 : Bool, v_5 = .bool t_2 ∧
                      Jv (t_2, ()) h7) h6) ∧
                  (t_1 = false →
                    Jv (false, ()) h6))) h4)
            (fun st h5 =>
              JoinP (T := ByteArray × Unit) (fun Jv_1 =>
                ((st.1 = true →
                    (((ByteArray.size p + ByteArray.size (⟨#[47]⟩ : ByteArray) : Nat) : Int) ≤ 9223372036854775807) ∧
                    (((ByteArray.size (p ++ (⟨#[47]⟩ : ByteArray)) + ByteArray.size k : Nat) : Int) ≤ 9223372036854775807) ∧
                    Jv_1 (((p ++ (⟨#[47]⟩ : ByteArray)) ++ k), ()) h5) ∧
                  (st.1 = false →
                    Jv_1 ((⟨#[]⟩ : ByteArray), ()) h5)))
              (fun st_1 h8 =>
                (((((((strEq t0 t0_1) && (strEq t1 t1_1)) && (t2 == t2_1)) && (t1_2 == st.1)) && (strEq t0_2 st_1.1)) = true →
                    CallH Try.prog id_law11_wakes [] (fun v_6 h9 =>
                      ∃ t_3 : Bool, v_6 = .bool t_3 ∧
                      K (.bool t_3) h9) h8) ∧
                  ((((((strEq t0 t0_1) && (strEq t1 t1_1)) && (t2 == t2_1)) && (t1_2 == st.1)) && (strEq t0_2 st_1.1)) = false →
                    K (.bool false) h8))))) h3) h2) h))
theorem F_law11_PathCuts_ok {p : ByteArray} {k : ByteArray}  {K : Value → PH → Prop} {h : PH} (hh : F_law11_PathCuts p k K h) : CallH Try.prog id_law11_PathCuts [.string p, .string k] K h :=
  denF_sound Try.func3 (H := ⟨[], [], [], [(16, ⟨[(13, .bool)], [], []⟩), (22, ⟨[(14, .str)], [], []⟩)]⟩) (xs := [.v (.string p), .v (.string k)]) (by kernel_rfl) (⟨rfl, rfl, trivial⟩) (cast (by kernel_rfl : F_law11_PathCuts p k K h = denF Try.prog Try.f3 ⟨[], [], [], [(16, ⟨[(13, .bool)], [], []⟩), (22, ⟨[(14, .str)], [], []⟩)]⟩ [.v (.string p), .v (.string k)] K h) hh)

/- twinlock/twinlocklaw11.PathBack -/
def F_law11_PathBack (p : ByteArray) (k : ByteArray) (K : Value → PH → Prop) (h : PH) : Prop :=
  ((((decide ((p.size : Int) > (3000 : Int))) || (decide ((k.size : Int) > (3000 : Int)))) = true →
      CallH Try.prog id_law11_wakes [] (fun v h1 =>
        ∃ t : Bool, v = .bool t ∧
        K (.bool t) h1) h) ∧
    (((decide ((p.size : Int) > (3000 : Int))) || (decide ((k.size : Int) > (3000 : Int)))) = false →
      CallH Try.prog id_path_Cut [.string p] (fun v_1 h2 =>
        ∃ t0 : ByteArray, ∃ t1 : ByteArray, ∃ t2 : Bool, v_1 = .tuple #[.string t0, .string t1, .bool t2] ∧
        JoinP (T := Unit) (fun Jv =>
          ((t2 = true →
              CallH Try.prog id_path_Join [.string t0, .string t1] (fun v_2 h4 =>
                ∃ t0_1 : ByteArray, ∃ t1_1 : Bool, v_2 = .tuple #[.string t0_1, .bool t1_1] ∧
                (((((!t1_1) || (!(strEq t0_1 p))) || (decide ((p.size : Int) > (33 : Int)))) = true →
                    K (.bool false) h4) ∧
                  ((((!t1_1) || (!(strEq t0_1 p))) || (decide ((p.size : Int) > (33 : Int)))) = false →
                    Jv (()) h4))) h2) ∧
            (t2 = false →
              ((((!(strEq t0 (⟨#[]⟩ : ByteArray))) || (!(strEq t1 (⟨#[]⟩ : ByteArray)))) = true →
                  K (.bool false) h2) ∧
                (((!(strEq t0 (⟨#[]⟩ : ByteArray))) || (!(strEq t1 (⟨#[]⟩ : ByteArray)))) = false →
                  Jv (()) h2)))))
        (fun _ h3 =>
          CallH Try.prog id_path_Join [.string p, .string k] (fun v_3 h5 =>
            ∃ t0_2 : ByteArray, ∃ t1_2 : Bool, v_3 = .tuple #[.string t0_2, .bool t1_2] ∧
            (((!t1_2) = true →
                (((strEq t0_2 (⟨#[]⟩ : ByteArray)) = true →
                    CallH Try.prog id_law11_wakes [] (fun v_4 h6 =>
                      ∃ t_1 : Bool, v_4 = .bool t_1 ∧
                      K (.bool t_1) h6) h5) ∧
                  ((strEq t0_2 (⟨#[]⟩ : ByteArray)) = false →
                    K (.bool false) h5))) ∧
              ((!t1_2) = false →
                CallH Try.prog id_path_Cut [.string t0_2] (fun v_5 h7 =>
                  ∃ t0_3 : ByteArray, ∃ t1_3 : ByteArray, ∃ t2_1 : Bool, v_5 = .tuple #[.string t0_3, .string t1_3, .bool t2_1] ∧
                  ((((t2_1 && (strEq t0_3 p)) && (strEq t1_3 k)) = true →
                      CallH Try.prog id_law11_wakes [] (fun v_6 h8 =>
                        ∃ t_2 : Bool, v_6 = .bool t_2 ∧
                        K (.bool t_2) h8) h7) ∧
                    (((t2_1 && (strEq t0_3 p)) && (strEq t1_3 k)) = false →
                      K (.bool false) h7))) h5))) h3)) h))
theorem F_law11_PathBack_ok {p : ByteArray} {k : ByteArray}  {K : Value → PH → Prop} {h : PH} (hh : F_law11_PathBack p k K h) : CallH Try.prog id_law11_PathBack [.string p, .string k] K h :=
  denF_sound Try.func4 (H := ⟨[], [], [], [(22, ⟨[], [], []⟩)]⟩) (xs := [.v (.string p), .v (.string k)]) (by kernel_rfl) (⟨rfl, rfl, trivial⟩) (cast (by kernel_rfl : F_law11_PathBack p k K h = denF Try.prog Try.f4 ⟨[], [], [], [(22, ⟨[], [], []⟩)]⟩ [.v (.string p), .v (.string k)] K h) hh)

/- twinlock/twinlocklaw11.PathSides -/
def F_law11_PathSides (a : ByteArray) (bv : ByteArray) (cv : ByteArray) (K : Value → PH → Prop) (h : PH) : Prop :=
  (((((decide ((a.size : Int) > (100 : Int))) || (decide ((bv.size : Int) > (100 : Int)))) || (decide ((cv.size : Int) > (100 : Int)))) = true →
      CallH Try.prog id_law11_wakes [] (fun v h1 =>
        ∃ t : Bool, v = .bool t ∧
        K (.bool t) h1) h) ∧
    ((((decide ((a.size : Int) > (100 : Int))) || (decide ((bv.size : Int) > (100 : Int)))) || (decide ((cv.size : Int) > (100 : Int)))) = false →
      CallH Try.prog id_path_Cut [.string a] (fun v_1 h2 =>
        ∃ t0 : ByteArray, ∃ t1 : ByteArray, ∃ t2 : Bool, v_1 = .tuple #[.string t0, .string t1, .bool t2] ∧
        CallH Try.prog id_path_Cut [.string bv] (fun v_2 h3 =>
          ∃ t0_1 : ByteArray, ∃ t1_1 : ByteArray, ∃ t2_1 : Bool, v_2 = .tuple #[.string t0_1, .string t1_1, .bool t2_1] ∧
          CallH Try.prog id_path_Cut [.string cv] (fun v_3 h4 =>
            ∃ t0_2 : ByteArray, ∃ t1_2 : ByteArray, ∃ t2_2 : Bool, v_3 = .tuple #[.string t0_2, .string t1_2, .bool t2_2] ∧
            ((((((!t2) || (!t2_1)) || (!t2_2)) || (!(strEq t0 t0_1))) = false →
                ((((strLt a cv || strEq a cv) && (strLt cv bv || strEq cv bv)) = false →
                    (((!((strLt bv cv || strEq bv cv) && (strLt cv a || strEq cv a))) = true →
                        CallH Try.prog id_law11_wakes [] (fun v_4 h5 =>
                          ∃ t_1 : Bool, v_4 = .bool t_1 ∧
                          K (.bool t_1) h5) h4) ∧
                      ((!((strLt bv cv || strEq bv cv) && (strLt cv a || strEq cv a))) = false →
                        (((strEq t0_2 t0) = true →
                            CallH Try.prog id_law11_wakes [] (fun v_5 h6 =>
                              ∃ t_2 : Bool, v_5 = .bool t_2 ∧
                              K (.bool t_2) h6) h4) ∧
                          ((strEq t0_2 t0) = false →
                            K (.bool false) h4))))) ∧
                  (((strLt a cv || strEq a cv) && (strLt cv bv || strEq cv bv)) = true →
                    (((strEq t0_2 t0) = true →
                        CallH Try.prog id_law11_wakes [] (fun v_6 h7 =>
                          ∃ t_3 : Bool, v_6 = .bool t_3 ∧
                          K (.bool t_3) h7) h4) ∧
                      ((strEq t0_2 t0) = false →
                        K (.bool false) h4))))) ∧
              (((((!t2) || (!t2_1)) || (!t2_2)) || (!(strEq t0 t0_1))) = true →
                CallH Try.prog id_law11_wakes [] (fun v_7 h8 =>
                  ∃ t_4 : Bool, v_7 = .bool t_4 ∧
                  K (.bool t_4) h8) h4))) h3) h2) h))
theorem F_law11_PathSides_ok {a : ByteArray} {bv : ByteArray} {cv : ByteArray}  {K : Value → PH → Prop} {h : PH} (hh : F_law11_PathSides a bv cv K h) : CallH Try.prog id_law11_PathSides [.string a, .string bv, .string cv] K h :=
  denF_sound Try.func5 (H := ⟨[], [], [], []⟩) (xs := [.v (.string a), .v (.string bv), .v (.string cv)]) (by kernel_rfl) (⟨rfl, rfl, rfl, trivial⟩) (cast (by kernel_rfl : F_law11_PathSides a bv cv K h = denF Try.prog Try.f5 ⟨[], [], [], []⟩ [.v (.string a), .v (.string bv), .v (.string cv)] K h) hh)

/- twinlock/twinlocklaw11.PathMounts -/
def F_law11_PathMounts (lA : Option Addr) (lN lC : Nat) (p : ByteArray) (K : Value → PH → Prop) (h : PH) : Prop :=
  CallH Try.prog id_law11_Great [.slice lA lN lC] (fun v h1 =>
    ∃ t : Bool, v = .bool t ∧
    (((t || (decide ((p.size : Int) > (3000 : Int)))) = true →
        CallH Try.prog id_law11_wakes [] (fun v_1 h2 =>
          ∃ t_1 : Bool, v_1 = .bool t_1 ∧
          K (.bool t_1) h2) h1) ∧
      ((t || (decide ((p.size : Int) > (3000 : Int)))) = false →
        CallH Try.prog id_path_Of [.slice lA lN lC, .string p] (fun v_2 h3 =>
          ∃ t00 : ByteArray, ∃ t01 : Bool, ∃ t1 : Int, v_2 = .tuple #[.agg #[.string t00, .bool t01], .int .i64 t1] ∧
          CallH Try.prog id_ref11_Of [.slice lA lN lC, .string p] (fun v_3 h4 =>
            ∃ t00_1 : ByteArray, ∃ t01_1 : Bool, ∃ t1_1 : Int, v_3 = .tuple #[.agg #[.string t00_1, .bool t01_1], .int .i64 t1_1] ∧
            (((((strEq t00 t00_1) && ((t01 == t01_1) && true)) && (t1 == t1_1)) = true →
                CallH Try.prog id_path_Right [.slice lA lN lC] (fun v_4 h5 =>
                  ∃ t_2 : Bool, v_4 = .bool t_2 ∧
                  CallH Try.prog id_ref11_Right [.slice lA lN lC] (fun v_5 h6 =>
                    ∃ t_3 : Bool, v_5 = .bool t_3 ∧
                    (((t_2 == t_3) = true →
                        CallH Try.prog id_path_Ships [.slice lA lN lC, .string p] (fun v_6 h7 =>
                          ∃ t_4 : Bool, v_6 = .bool t_4 ∧
                          CallH Try.prog id_ref11_Ships [.slice lA lN lC, .string p] (fun v_7 h8 =>
                            ∃ t_5 : Bool, v_7 = .bool t_5 ∧
                            (((t_4 == t_5) = true →
                                CallH Try.prog id_law11_wakes [] (fun v_8 h9 =>
                                  ∃ t_6 : Bool, v_8 = .bool t_6 ∧
                                  K (.bool t_6) h9) h8) ∧
                              ((t_4 == t_5) = false →
                                K (.bool false) h8))) h7) h6) ∧
                      ((t_2 == t_3) = false →
                        K (.bool false) h6))) h5) h4) ∧
              ((((strEq t00 t00_1) && ((t01 == t01_1) && true)) && (t1 == t1_1)) = false →
                K (.bool false) h4))) h3) h1))) h
theorem F_law11_PathMounts_ok {lA : Option Addr} {lN lC : Nat} {p : ByteArray}  {K : Value → PH → Prop} {h : PH} (hh : F_law11_PathMounts lA lN lC p K h) : CallH Try.prog id_law11_PathMounts [.slice lA lN lC, .string p] K h :=
  denF_sound Try.func6 (H := ⟨[5, 7], [], [], []⟩) (xs := [.v (.slice lA lN lC), .v (.string p)]) (by kernel_rfl) (⟨rfl, rfl, trivial⟩) (cast (by kernel_rfl : F_law11_PathMounts lA lN lC p K h = denF Try.prog Try.f6 ⟨[5, 7], [], [], []⟩ [.v (.slice lA lN lC), .v (.string p)] K h) hh)

/- twinlock/twinlocklaw11.PathFilter -/
def F_law11_PathFilter (lA : Option Addr) (lN lC : Nat) (p : ByteArray) (q : ByteArray) (K : Value → PH → Prop) (h : PH) : Prop :=
  CallH Try.prog id_law11_Great [.slice lA lN lC] (fun v h1 =>
    ∃ t : Bool, v = .bool t ∧
    ((((t || (decide ((p.size : Int) > (100 : Int)))) || (decide ((q.size : Int) > (100 : Int)))) = true →
        CallH Try.prog id_law11_wakes [] (fun v_1 h2 =>
          ∃ t_1 : Bool, v_1 = .bool t_1 ∧
          K (.bool t_1) h2) h1) ∧
      (((t || (decide ((p.size : Int) > (100 : Int)))) || (decide ((q.size : Int) > (100 : Int)))) = false →
        CallH Try.prog id_path_Cut [.string p] (fun v_2 h3 =>
          ∃ t0 : ByteArray, ∃ t1 : ByteArray, ∃ t2 : Bool, v_2 = .tuple #[.string t0, .string t1, .bool t2] ∧
          CallH Try.prog id_path_Cut [.string q] (fun v_3 h4 =>
            ∃ t0_1 : ByteArray, ∃ t1_1 : ByteArray, ∃ t2_1 : Bool, v_3 = .tuple #[.string t0_1, .string t1_1, .bool t2_1] ∧
            JoinP (T := Unit) (fun Jv =>
              ((((t2 && t2_1) && (strEq t0 t0_1)) = true →
                  CallH Try.prog id_path_Ships [.slice lA lN lC, .string p] (fun v_4 h6 =>
                    ∃ t_2 : Bool, v_4 = .bool t_2 ∧
                    CallH Try.prog id_path_Ships [.slice lA lN lC, .string q] (fun v_5 h7 =>
                      ∃ t_3 : Bool, v_5 = .bool t_3 ∧
                      (((!(t_2 == t_3)) = false →
                          (((!t2) = true →
                              CallH Try.prog id_path_Ships [.slice lA lN lC, .string p] (fun v_6 h8 =>
                                ∃ t_4 : Bool, v_6 = .bool t_4 ∧
                                ((t_4 = true →
                                    K (.bool false) h8) ∧
                                  (t_4 = false →
                                    Jv (()) h8))) h7) ∧
                            ((!t2) = false →
                              Jv (()) h7))) ∧
                        ((!(t_2 == t_3)) = true →
                          K (.bool false) h7))) h6) h4) ∧
                (((t2 && t2_1) && (strEq t0 t0_1)) = false →
                  (((!t2) = true →
                      CallH Try.prog id_path_Ships [.slice lA lN lC, .string p] (fun v_7 h9 =>
                        ∃ t_5 : Bool, v_7 = .bool t_5 ∧
                        ((t_5 = true →
                            K (.bool false) h9) ∧
                          (t_5 = false →
                            Jv (()) h9))) h4) ∧
                    ((!t2) = false →
                      Jv (()) h4)))))
            (fun _ h5 =>
              LoopP (T := (Option Addr × Nat × Nat) × Int × Unit) (fun Jv_1 st_1 h10 =>
                (((decide (st_1.2.1 ≥ (0 : Int))) = true →
                    ∃ bv ov : Nat, (lA = some ⟨bv, ov, none⟩ ∧ 0 ≤ st_1.2.1 ∧ st_1.2.1 < (lN : Nat)) ∧
                    ∃ t0_2 : ByteArray, ∃ t1_2 : Bool, (h10.rds bv (ov + st_1.2.1.toNat * 2) 2 = some [.string t0_2, .bool t1_2]) ∧
                    appH T_api_Mount 2 24 [.string (⟨#[]⟩ : ByteArray), .bool false] st_1.1.1 st_1.1.2.1 st_1.1.2.2 1 [.string t0_2, .bool t1_2] (fun turnedA turnedN turnedC h11 =>
                      Jv_1 ((turnedA, turnedN, turnedC), (IntKind.wrap .i64 (st_1.2.1 - (1 : Int))), ()) h11) h10) ∧
                  ((decide (st_1.2.1 ≥ (0 : Int))) = false →
                    CallH Try.prog id_path_Right [.slice lA lN lC] (fun v_8 h12 =>
                      ∃ t_6 : Bool, v_8 = .bool t_6 ∧
                      (((!t_6) = true →
                          CallH Try.prog id_law11_wakes [] (fun v_9 h13 =>
                            ∃ t_7 : Bool, v_9 = .bool t_7 ∧
                            K (.bool t_7) h13) h12) ∧
                        ((!t_6) = false →
                          CallH Try.prog id_path_Of [.slice lA lN lC, .string p] (fun v_10 h14 =>
                            ∃ t00 : ByteArray, ∃ t01 : Bool, ∃ t1_3 : Int, v_10 = .tuple #[.agg #[.string t00, .bool t01], .int .i64 t1_3] ∧
                            CallH Try.prog id_path_Of [.slice st_1.1.1 st_1.1.2.1 st_1.1.2.2, .string p] (fun v_11 h15 =>
                              ∃ t00_1 : ByteArray, ∃ t01_1 : Bool, ∃ t1_4 : Int, v_11 = .tuple #[.agg #[.string t00_1, .bool t01_1], .int .i64 t1_4] ∧
                              CallH Try.prog id_path_Right [.slice st_1.1.1 st_1.1.2.1 st_1.1.2.2] (fun v_12 h16 =>
                                ∃ t_8 : Bool, v_12 = .bool t_8 ∧
                                ((((t_8 && ((strEq t00 t00_1) && ((t01 == t01_1) && true))) && (t1_3 == t1_4)) = true →
                                    CallH Try.prog id_path_Ships [.slice lA lN lC, .string p] (fun v_13 h17 =>
                                      ∃ t_9 : Bool, v_13 = .bool t_9 ∧
                                      CallH Try.prog id_path_Ships [.slice st_1.1.1 st_1.1.2.1 st_1.1.2.2, .string p] (fun v_14 h18 =>
                                        ∃ t_10 : Bool, v_14 = .bool t_10 ∧
                                        (((t_9 == t_10) = true →
                                            CallH Try.prog id_path_Same [.slice lA lN lC, .slice lA lN lC] (fun v_15 h19 =>
                                              ∃ t_11 : Bool, v_15 = .bool t_11 ∧
                                              ((t_11 = true →
                                                  (((decide (((lN : Nat) : Int) < (2 : Int))) = false →
                                                      CallH Try.prog id_path_Same [.slice lA lN lC, .slice st_1.1.1 st_1.1.2.1 st_1.1.2.2] (fun v_16 h20 =>
                                                        ∃ t_12 : Bool, v_16 = .bool t_12 ∧
                                                        (((!t_12) = true →
                                                            CallH Try.prog id_law11_wakes [] (fun v_17 h21 =>
                                                              ∃ t_13 : Bool, v_17 = .bool t_13 ∧
                                                              K (.bool t_13) h21) h20) ∧
                                                          ((!t_12) = false →
                                                            K (.bool false) h20))) h19) ∧
                                                    ((decide (((lN : Nat) : Int) < (2 : Int))) = true →
                                                      CallH Try.prog id_law11_wakes [] (fun v_18 h22 =>
                                                        ∃ t_14 : Bool, v_18 = .bool t_14 ∧
                                                        K (.bool t_14) h22) h19))) ∧
                                                (t_11 = false →
                                                  K (.bool false) h19))) h18) ∧
                                          ((t_9 == t_10) = false →
                                            K (.bool false) h18))) h17) h16) ∧
                                  (((t_8 && ((strEq t00 t00_1) && ((t01 == t01_1) && true))) && (t1_3 == t1_4)) = false →
                                    K (.bool false) h16))) h15) h14) h12))) h10))) ((none, 0, 0), (IntKind.wrap .i64 (((lN : Nat) : Int) - (1 : Int))), ()) h5)) h3) h1))) h
theorem F_law11_PathFilter_ok {lA : Option Addr} {lN lC : Nat} {p : ByteArray} {q : ByteArray}  {K : Value → PH → Prop} {h : PH} (hh : F_law11_PathFilter lA lN lC p q K h) : CallH Try.prog id_law11_PathFilter [.slice lA lN lC, .string p, .string q] K h :=
  denF_sound Try.func7 (H := ⟨[15, 17, 83], [], [(0, ⟨[(13, .slice), (14, .int .i64)], [], []⟩)], [(16, ⟨[], [], []⟩)]⟩) (xs := [.v (.slice lA lN lC), .v (.string p), .v (.string q)]) (by kernel_rfl) (⟨rfl, rfl, rfl, trivial⟩) (cast (by kernel_rfl : F_law11_PathFilter lA lN lC p q K h = denF Try.prog Try.f7 ⟨[15, 17, 83], [], [(0, ⟨[(13, .slice), (14, .int .i64)], [], []⟩)], [(16, ⟨[], [], []⟩)]⟩ [.v (.slice lA lN lC), .v (.string p), .v (.string q)] K h) hh)

/- twinlock/twinlocklaw11.PathKnown -/
def F_law11_PathKnown  (K : Value → PH → Prop) (h : PH) : Prop :=
  newH h (.cells #[.string (⟨#[97, 112, 112, 47]⟩ : ByteArray), .string (⟨#[47, 100, 98]⟩ : ByteArray), .string (⟨#[97, 112, 112, 47, 97, 47, 98]⟩ : ByteArray), .string (⟨#[65, 112, 112, 47, 120]⟩ : ByteArray), .string (⟨#[97, 112, 112]⟩ : ByteArray), .string (⟨#[]⟩ : ByteArray), .string (⟨#[47]⟩ : ByteArray), .string (⟨#[97, 98, 99, 100, 101, 102, 103, 104, 105, 47, 120]⟩ : ByteArray), .string (⟨#[97, 112, 112, 47, 48, 49, 50, 51, 52, 53, 54, 55, 56, 57, 48, 49, 50, 51, 52, 53, 54, 55, 56, 57, 48, 49, 50, 51, 52]⟩ : ByteArray), .string (⟨#[97, 112, 112, 47, 97, 0]⟩ : ByteArray)] 9 (0, 0)) fun bv h1 =>
  LoopP (T := Int × Unit) (fun Jv st h2 =>
    (((decide (st.1 < ((10 : Nat) : Int))) = true →
        ∃ bv_1 ov : Nat, ((some ⟨bv, 0, none⟩ : Option Addr) = some ⟨bv_1, ov, none⟩ ∧ 0 ≤ st.1 ∧ st.1 < (10 : Nat)) ∧
        ∃ p : ByteArray, (h2.rds bv_1 (ov + st.1.toNat * 1) 1 = some [.string p]) ∧
        CallH Try.prog id_path_Cut [.string p] (fun v h3 =>
          ∃ t0 : ByteArray, ∃ t1 : ByteArray, ∃ t2 : Bool, v = .tuple #[.string t0, .string t1, .bool t2] ∧
          ((t2 = true →
              K (.bool false) h3) ∧
            (t2 = false →
              Jv ((IntKind.wrap .i64 (st.1 + (1 : Int))), ()) h3))) h2) ∧
      ((decide (st.1 < ((10 : Nat) : Int))) = false →
        CallH Try.prog id_path_Cut [.string (⟨#[97, 98, 99, 100, 101, 102, 103, 104, 47, 48, 49, 50, 51, 52, 53, 54, 55, 56, 57, 48, 49, 50, 51, 52, 53, 54, 55, 56, 57, 48, 49, 50, 51]⟩ : ByteArray)] (fun v_1 h4 =>
          ∃ t0_1 : ByteArray, ∃ t1_1 : ByteArray, ∃ t2_1 : Bool, v_1 = .tuple #[.string t0_1, .string t1_1, .bool t2_1] ∧
          CallH Try.prog id_path_Join [.string (⟨#[97, 112, 112]⟩ : ByteArray), .string (⟨#[97, 47, 98]⟩ : ByteArray)] (fun v_2 h5 =>
            ∃ t0_2 : ByteArray, ∃ t1_2 : Bool, v_2 = .tuple #[.string t0_2, .bool t1_2] ∧
            CallH Try.prog id_path_Join [.string (⟨#[110, 105, 110, 101, 99, 104, 97, 114, 115]⟩ : ByteArray), .string (⟨#[120]⟩ : ByteArray)] (fun v_3 h6 =>
              ∃ t0_3 : ByteArray, ∃ t1_3 : Bool, v_3 = .tuple #[.string t0_3, .bool t1_3] ∧
              CallH Try.prog id_law11_two [] (fun v_4 h7 =>
                ∃ (tA : Option Addr) (tN tC : Nat), v_4 = .slice tA tN tC ∧
                CallH Try.prog id_path_Of [.slice tA tN tC, .string (⟨#[97, 112, 112, 47, 100, 98]⟩ : ByteArray)] (fun v_5 h8 =>
                  ∃ t00 : ByteArray, ∃ t01 : Bool, ∃ t1_4 : Int, v_5 = .tuple #[.agg #[.string t00, .bool t01], .int .i64 t1_4] ∧
                  CallH Try.prog id_law11_two [] (fun v_6 h9 =>
                    ∃ (tA_1 : Option Addr) (tN_1 tC_1 : Nat), v_6 = .slice tA_1 tN_1 tC_1 ∧
                    CallH Try.prog id_path_Of [.slice tA_1 tN_1 tC_1, .string (⟨#[119, 101, 98, 47, 120]⟩ : ByteArray)] (fun v_7 h10 =>
                      ∃ t00_1 : ByteArray, ∃ t01_1 : Bool, ∃ t1_5 : Int, v_7 = .tuple #[.agg #[.string t00_1, .bool t01_1], .int .i64 t1_5] ∧
                      CallH Try.prog id_law11_two [] (fun v_8 h11 =>
                        ∃ (tA_2 : Option Addr) (tN_2 tC_2 : Nat), v_8 = .slice tA_2 tN_2 tC_2 ∧
                        CallH Try.prog id_path_Of [.slice tA_2 tN_2 tC_2, .string (⟨#[97, 112, 112]⟩ : ByteArray)] (fun v_9 h12 =>
                          ∃ t00_2 : ByteArray, ∃ t01_2 : Bool, ∃ t1_6 : Int, v_9 = .tuple #[.agg #[.string t00_2, .bool t01_2], .int .i64 t1_6] ∧
                          newH h12 (.cells #[.string (⟨#[97]⟩ : ByteArray), .bool false, .string (⟨#[98]⟩ : ByteArray), .bool false, .string (⟨#[99]⟩ : ByteArray), .bool false, .string (⟨#[100]⟩ : ByteArray), .bool false, .string (⟨#[101]⟩ : ByteArray), .bool false] T_api_Mount (0, 0)) fun bv_2 h13 =>
                          JoinP (T := Bool × Unit) (fun Jv_1 =>
                            CallH Try.prog id_law11_two [] (fun v_10 h15 =>
                              ∃ (tA_3 : Option Addr) (tN_3 tC_3 : Nat), v_10 = .slice tA_3 tN_3 tC_3 ∧
                              CallH Try.prog id_path_Right [.slice tA_3 tN_3 tC_3] (fun v_11 h16 =>
                                ∃ t : Bool, v_11 = .bool t ∧
                                ((t = true →
                                    CallH Try.prog id_path_Right [.slice none 0 0] (fun v_12 h17 =>
                                      ∃ t_1 : Bool, v_12 = .bool t_1 ∧
                                      (((!t_1) = true →
                                          newH h17 (.cells #[.string (⟨#[97, 112, 112]⟩ : ByteArray), .bool false, .string (⟨#[97, 112, 112]⟩ : ByteArray), .bool true] T_api_Mount (0, 0)) fun bv_3 h18 =>
                                          CallH Try.prog id_path_Right [.slice (some ⟨bv_3, 0, none⟩) 2 2] (fun v_13 h19 =>
                                            ∃ t_2 : Bool, v_13 = .bool t_2 ∧
                                            (((!t_2) = true →
                                                CallH Try.prog id_path_Right [.slice (some ⟨bv_2, 0, none⟩) 5 5] (fun v_14 h20 =>
                                                  ∃ t_3 : Bool, v_14 = .bool t_3 ∧
                                                  (((!t_3) = true → 0 ≤ (0 : Int) ∧ (0 : Int) ≤ (4 : Int) ∧ (4 : Int) ≤ ((5 : Nat) : Int) ∧ ((5 : Nat) : Int) ≤ (5 : Nat))) ∧
                                                  (((!t_3) = true →
                                                      CallH Try.prog id_path_Right [.slice (slA (some ⟨bv_2, 0, none⟩ : Option Addr) 2 (0 : Int) ((5 : Nat) : Int)) ((4 : Int).toNat - (0 : Int).toNat) (((5 : Nat) : Int).toNat - (0 : Int).toNat)] (fun v_15 h21 =>
                                                        ∃ t_4 : Bool, v_15 = .bool t_4 ∧
                                                        ((t_4 = true →
                                                            newH h21 (.cells #[.string (⟨#[]⟩ : ByteArray), .bool false] T_api_Mount (0, 0)) fun bv_4 h22 =>
                                                            CallH Try.prog id_path_Right [.slice (some ⟨bv_4, 0, none⟩) 1 1] (fun v_16 h23 =>
                                                              ∃ t_5 : Bool, v_16 = .bool t_5 ∧
                                                              Jv_1 ((!t_5), ()) h23) h22) ∧
                                                          (t_4 = false →
                                                            Jv_1 (false, ()) h21))) h20) ∧
                                                    ((!t_3) = false →
                                                      Jv_1 (false, ()) h20))) h19) ∧
                                              ((!t_2) = false →
                                                Jv_1 (false, ()) h19))) h18) ∧
                                        ((!t_1) = false →
                                          Jv_1 (false, ()) h17))) h16) ∧
                                  (t = false →
                                    Jv_1 (false, ()) h16))) h15) h13)
                          (fun st_1 h14 =>
                            (((((((((t2_1 && (!t1_2)) && (!t1_3)) && (strEq t00 (⟨#[97, 112, 112]⟩ : ByteArray))) && (t1_4 == (0 : Int))) && (t1_5 == (21 : Int))) && (t1_6 == (20 : Int))) && st_1.1) = true →
                                CallH Try.prog id_path_Same [.slice none 0 0, .slice none 0 0] (fun v_17 h24 =>
                                  ∃ t_6 : Bool, v_17 = .bool t_6 ∧
                                  ((t_6 = true →
                                      CallH Try.prog id_law11_two [] (fun v_18 h25 =>
                                        ∃ (tA_4 : Option Addr) (tN_4 tC_4 : Nat), v_18 = .slice tA_4 tN_4 tC_4 ∧
                                        CallH Try.prog id_law11_two [] (fun v_19 h26 =>
                                          ∃ (tA_5 : Option Addr) (tN_5 tC_5 : Nat), v_19 = .slice tA_5 tN_5 tC_5 ∧
                                          (0 ≤ (0 : Int) ∧ (0 : Int) ≤ (1 : Int) ∧ (1 : Int) ≤ ((tC_5 : Nat) : Int) ∧ ((tC_5 : Nat) : Int) ≤ (tC_5 : Nat)) ∧
                                          CallH Try.prog id_path_Same [.slice tA_4 tN_4 tC_4, .slice (slA tA_5 2 (0 : Int) ((tC_5 : Nat) : Int)) ((1 : Int).toNat - (0 : Int).toNat) (((tC_5 : Nat) : Int).toNat - (0 : Int).toNat)] (fun v_20 h27 =>
                                            ∃ t_7 : Bool, v_20 = .bool t_7 ∧
                                            (((!t_7) = true →
                                                CallH Try.prog id_law11_wakes [] (fun v_21 h28 =>
                                                  ∃ t_8 : Bool, v_21 = .bool t_8 ∧
                                                  K (.bool t_8) h28) h27) ∧
                                              ((!t_7) = false →
                                                K (.bool false) h27))) h26) h25) h24) ∧
                                    (t_6 = false →
                                      K (.bool false) h24))) h14) ∧
                              ((((((((t2_1 && (!t1_2)) && (!t1_3)) && (strEq t00 (⟨#[97, 112, 112]⟩ : ByteArray))) && (t1_4 == (0 : Int))) && (t1_5 == (21 : Int))) && (t1_6 == (20 : Int))) && st_1.1) = false →
                                K (.bool false) h14)))) h11) h10) h9) h8) h7) h6) h5) h4) h2))) ((0 : Int), ()) h1
theorem F_law11_PathKnown_ok   {K : Value → PH → Prop} {h : PH} (hh : F_law11_PathKnown  K h) : CallH Try.prog id_law11_PathKnown [] K h :=
  denF_sound Try.func8 (H := ⟨[13, 15, 17], [], [(0, ⟨[(23, .int .i64)], [], []⟩)], [(34, ⟨[(20, .bool)], [], []⟩)]⟩) (xs := []) (by kernel_rfl) (trivial) (cast (by kernel_rfl : F_law11_PathKnown  K h = denF Try.prog Try.f8 ⟨[13, 15, 17], [], [(0, ⟨[(23, .int .i64)], [], []⟩)], [(34, ⟨[(20, .bool)], [], []⟩)]⟩ [] K h) hh)

/- twinlock/twinlocklaw11.wakes -/
def F_law11_wakes  (K : Value → PH → Prop) (h : PH) : Prop :=
  CallH Try.prog id_path_Cut [.string (⟨#[97, 112, 112, 47, 100, 98]⟩ : ByteArray)] (fun v h1 =>
    ∃ t0 : ByteArray, ∃ t1 : ByteArray, ∃ t2 : Bool, v = .tuple #[.string t0, .string t1, .bool t2] ∧
    CallH Try.prog id_path_Join [.string (⟨#[97, 112, 112]⟩ : ByteArray), .string (⟨#[100, 98]⟩ : ByteArray)] (fun v_1 h2 =>
      ∃ t0_1 : ByteArray, ∃ t1_1 : Bool, v_1 = .tuple #[.string t0_1, .bool t1_1] ∧
      (((((((strEq t0 (⟨#[97, 112, 112]⟩ : ByteArray)) && (strEq t1 (⟨#[100, 98]⟩ : ByteArray))) && t2) && (strEq t0_1 (⟨#[97, 112, 112, 47, 100, 98]⟩ : ByteArray))) && t1_1) = true →
          CallH Try.prog id_law11_two [] (fun v_2 h3 =>
            ∃ (tA : Option Addr) (tN tC : Nat), v_2 = .slice tA tN tC ∧
            CallH Try.prog id_path_Ships [.slice tA tN tC, .string (⟨#[97, 112, 112, 47, 100, 98]⟩ : ByteArray)] (fun v_3 h4 =>
              ∃ t : Bool, v_3 = .bool t ∧
              ((t = true →
                  CallH Try.prog id_law11_two [] (fun v_4 h5 =>
                    ∃ (tA_1 : Option Addr) (tN_1 tC_1 : Nat), v_4 = .slice tA_1 tN_1 tC_1 ∧
                    CallH Try.prog id_path_Ships [.slice tA_1 tN_1 tC_1, .string (⟨#[111, 112, 115, 47, 107]⟩ : ByteArray)] (fun v_5 h6 =>
                      ∃ t_1 : Bool, v_5 = .bool t_1 ∧
                      K (.bool (!t_1)) h6) h5) h4) ∧
                (t = false →
                  K (.bool false) h4))) h3) h2) ∧
        ((((((strEq t0 (⟨#[97, 112, 112]⟩ : ByteArray)) && (strEq t1 (⟨#[100, 98]⟩ : ByteArray))) && t2) && (strEq t0_1 (⟨#[97, 112, 112, 47, 100, 98]⟩ : ByteArray))) && t1_1) = false →
          K (.bool false) h2))) h1) h
theorem F_law11_wakes_ok   {K : Value → PH → Prop} {h : PH} (hh : F_law11_wakes  K h) : CallH Try.prog id_law11_wakes [] K h :=
  denF_sound Try.func9 (H := ⟨[], [], [], []⟩) (xs := []) (by kernel_rfl) (trivial) (cast (by kernel_rfl : F_law11_wakes  K h = denF Try.prog Try.f9 ⟨[], [], [], []⟩ [] K h) hh)

/- twinlock/path.Cut -/
def F_path_Cut (p : ByteArray) (K : Value → PH → Prop) (h : PH) : Prop :=
  CallH Try.prog id_strings_Cut [.string p, .string (⟨#[47]⟩ : ByteArray)] (fun v h1 =>
    ∃ t0 : ByteArray, ∃ t1 : ByteArray, ∃ t2 : Bool, v = .tuple #[.string t0, .string t1, .bool t2] ∧
    (((!t2) = false →
        CallH Try.prog id_path_named [.string t0] (fun v_1 h2 =>
          ∃ t : Bool, v_1 = .bool t ∧
          (((!t) = false →
              CallH Try.prog id_path_key [.string t1] (fun v_2 h3 =>
                ∃ t_1 : Bool, v_2 = .bool t_1 ∧
                (((!t_1) = true →
                    K (.tuple #[.string (⟨#[]⟩ : ByteArray), .string (⟨#[]⟩ : ByteArray), .bool false]) h3) ∧
                  ((!t_1) = false →
                    K (.tuple #[.string t0, .string t1, .bool true]) h3))) h2) ∧
            ((!t) = true →
              K (.tuple #[.string (⟨#[]⟩ : ByteArray), .string (⟨#[]⟩ : ByteArray), .bool false]) h2))) h1) ∧
      ((!t2) = true →
        K (.tuple #[.string (⟨#[]⟩ : ByteArray), .string (⟨#[]⟩ : ByteArray), .bool false]) h1))) h
theorem F_path_Cut_ok {p : ByteArray}  {K : Value → PH → Prop} {h : PH} (hh : F_path_Cut p K h) : CallH Try.prog id_path_Cut [.string p] K h :=
  denF_sound Try.func10 (H := ⟨[], [], [], []⟩) (xs := [.v (.string p)]) (by kernel_rfl) (⟨rfl, trivial⟩) (cast (by kernel_rfl : F_path_Cut p K h = denF Try.prog Try.f10 ⟨[], [], [], []⟩ [.v (.string p)] K h) hh)

/- twinlock/twinlockref11.Cut -/
def F_ref11_Cut (p : ByteArray) (K : Value → PH → Prop) (h : PH) : Prop :=
  LoopP (T := Int × Unit) (fun Jv st h1 =>
    (((decide (st.1 < (p.size : Int))) = true →
        (0 ≤ st.1 ∧ st.1 < (ByteArray.size p : Nat)) ∧
        ((((byteAt p st.1) == (47 : Int)) = true →
            (0 ≤ (0 : Int) ∧ (0 : Int) ≤ st.1 ∧ st.1 ≤ (ByteArray.size p : Nat)) ∧
            CallH Try.prog id_ref11_Named [.string (subS p (0 : Int) st.1)] (fun v h2 =>
              ∃ t : Bool, v = .bool t ∧
              ((t = true → 0 ≤ (IntKind.wrap .i64 (st.1 + (1 : Int))) ∧ (IntKind.wrap .i64 (st.1 + (1 : Int))) ≤ ((ByteArray.size p : Nat) : Int) ∧ ((ByteArray.size p : Nat) : Int) ≤ (ByteArray.size p : Nat))) ∧
              ((t = true →
                  CallH Try.prog id_ref11_Key [.string (subS p (IntKind.wrap .i64 (st.1 + (1 : Int))) ((ByteArray.size p : Nat) : Int))] (fun v_1 h3 =>
                    ∃ t_1 : Bool, v_1 = .bool t_1 ∧
                    ((t_1 = true →
                        (0 ≤ (0 : Int) ∧ (0 : Int) ≤ st.1 ∧ st.1 ≤ (ByteArray.size p : Nat)) ∧
                        (0 ≤ (IntKind.wrap .i64 (st.1 + (1 : Int))) ∧ (IntKind.wrap .i64 (st.1 + (1 : Int))) ≤ ((ByteArray.size p : Nat) : Int) ∧ ((ByteArray.size p : Nat) : Int) ≤ (ByteArray.size p : Nat)) ∧
                        K (.tuple #[.string (subS p (0 : Int) st.1), .string (subS p (IntKind.wrap .i64 (st.1 + (1 : Int))) ((ByteArray.size p : Nat) : Int)), .bool true]) h3) ∧
                      (t_1 = false →
                        K (.tuple #[.string (⟨#[]⟩ : ByteArray), .string (⟨#[]⟩ : ByteArray), .bool false]) h3))) h2) ∧
                (t = false →
                  K (.tuple #[.string (⟨#[]⟩ : ByteArray), .string (⟨#[]⟩ : ByteArray), .bool false]) h2))) h1) ∧
          (((byteAt p st.1) == (47 : Int)) = false →
            Jv ((IntKind.wrap .i64 (st.1 + (1 : Int))), ()) h1))) ∧
      ((decide (st.1 < (p.size : Int))) = false →
        K (.tuple #[.string (⟨#[]⟩ : ByteArray), .string (⟨#[]⟩ : ByteArray), .bool false]) h1))) ((0 : Int), ()) h
theorem F_ref11_Cut_ok {p : ByteArray}  {K : Value → PH → Prop} {h : PH} (hh : F_ref11_Cut p K h) : CallH Try.prog id_ref11_Cut [.string p] K h :=
  denF_sound Try.func11 (H := ⟨[], [], [(0, ⟨[(5, .int .i64)], [], []⟩)], []⟩) (xs := [.v (.string p)]) (by kernel_rfl) (⟨rfl, trivial⟩) (cast (by kernel_rfl : F_ref11_Cut p K h = denF Try.prog Try.f11 ⟨[], [], [(0, ⟨[(5, .int .i64)], [], []⟩)], []⟩ [.v (.string p)] K h) hh)

/- twinlock/path.Join -/
def F_path_Join (mount : ByteArray) (k : ByteArray) (K : Value → PH → Prop) (h : PH) : Prop :=
  CallH Try.prog id_path_named [.string mount] (fun v h1 =>
    ∃ t : Bool, v = .bool t ∧
    (((!t) = false →
        CallH Try.prog id_path_key [.string k] (fun v_1 h2 =>
          ∃ t_1 : Bool, v_1 = .bool t_1 ∧
          (((!t_1) = true →
              K (.tuple #[.string (⟨#[]⟩ : ByteArray), .bool false]) h2) ∧
            ((!t_1) = false →
              (((ByteArray.size mount + ByteArray.size (⟨#[47]⟩ : ByteArray) : Nat) : Int) ≤ 9223372036854775807) ∧
              (((ByteArray.size (mount ++ (⟨#[47]⟩ : ByteArray)) + ByteArray.size k : Nat) : Int) ≤ 9223372036854775807) ∧
              K (.tuple #[.string ((mount ++ (⟨#[47]⟩ : ByteArray)) ++ k), .bool true]) h2))) h1) ∧
      ((!t) = true →
        K (.tuple #[.string (⟨#[]⟩ : ByteArray), .bool false]) h1))) h
theorem F_path_Join_ok {mount : ByteArray} {k : ByteArray}  {K : Value → PH → Prop} {h : PH} (hh : F_path_Join mount k K h) : CallH Try.prog id_path_Join [.string mount, .string k] K h :=
  denF_sound Try.func12 (H := ⟨[], [], [], []⟩) (xs := [.v (.string mount), .v (.string k)]) (by kernel_rfl) (⟨rfl, rfl, trivial⟩) (cast (by kernel_rfl : F_path_Join mount k K h = denF Try.prog Try.f12 ⟨[], [], [], []⟩ [.v (.string mount), .v (.string k)] K h) hh)

/- twinlock/twinlockref11.Named -/
def F_ref11_Named (sv : ByteArray) (K : Value → PH → Prop) (h : PH) : Prop :=
  ((((decide ((sv.size : Int) < (1 : Int))) || (decide ((sv.size : Int) > (8 : Int)))) = true →
      K (.bool false) h) ∧
    (((decide ((sv.size : Int) < (1 : Int))) || (decide ((sv.size : Int) > (8 : Int)))) = false →
      LoopP (T := Int × Unit) (fun Jv st h1 =>
        (((decide (st.1 < (sv.size : Int))) = true →
            (0 ≤ st.1 ∧ st.1 < (ByteArray.size sv : Nat)) ∧
            (((decide ((byteAt sv st.1) < (97 : Int))) = false → 0 ≤ st.1 ∧ st.1 < (ByteArray.size sv : Nat))) ∧
            ((((decide ((byteAt sv st.1) < (97 : Int))) || (decide ((byteAt sv st.1) > (122 : Int)))) = true →
                K (.bool false) h1) ∧
              (((decide ((byteAt sv st.1) < (97 : Int))) || (decide ((byteAt sv st.1) > (122 : Int)))) = false →
                Jv ((IntKind.wrap .i64 (st.1 + (1 : Int))), ()) h1))) ∧
          ((decide (st.1 < (sv.size : Int))) = false →
            K (.bool true) h1))) ((0 : Int), ()) h))
theorem F_ref11_Named_ok {sv : ByteArray}  {K : Value → PH → Prop} {h : PH} (hh : F_ref11_Named sv K h) : CallH Try.prog id_ref11_Named [.string sv] K h :=
  denF_sound Try.func13 (H := ⟨[], [], [(0, ⟨[(3, .int .i64)], [], []⟩)], []⟩) (xs := [.v (.string sv)]) (by kernel_rfl) (⟨rfl, trivial⟩) (cast (by kernel_rfl : F_ref11_Named sv K h = denF Try.prog Try.f13 ⟨[], [], [(0, ⟨[(3, .int .i64)], [], []⟩)], []⟩ [.v (.string sv)] K h) hh)

/- twinlock/twinlockref11.Key -/
def F_ref11_Key (sv : ByteArray) (K : Value → PH → Prop) (h : PH) : Prop :=
  ((((decide ((sv.size : Int) < (1 : Int))) || (decide ((sv.size : Int) > (24 : Int)))) = true →
      K (.bool false) h) ∧
    (((decide ((sv.size : Int) < (1 : Int))) || (decide ((sv.size : Int) > (24 : Int)))) = false →
      LoopP (T := Int × Unit) (fun Jv st h1 =>
        (((decide (st.1 < (sv.size : Int))) = true →
            (0 ≤ st.1 ∧ st.1 < (ByteArray.size sv : Nat)) ∧
            ((((byteAt sv st.1) == (0 : Int)) = false → 0 ≤ st.1 ∧ st.1 < (ByteArray.size sv : Nat))) ∧
            (((((byteAt sv st.1) == (0 : Int)) || ((byteAt sv st.1) == (47 : Int))) = true →
                K (.bool false) h1) ∧
              ((((byteAt sv st.1) == (0 : Int)) || ((byteAt sv st.1) == (47 : Int))) = false →
                Jv ((IntKind.wrap .i64 (st.1 + (1 : Int))), ()) h1))) ∧
          ((decide (st.1 < (sv.size : Int))) = false →
            K (.bool true) h1))) ((0 : Int), ()) h))
theorem F_ref11_Key_ok {sv : ByteArray}  {K : Value → PH → Prop} {h : PH} (hh : F_ref11_Key sv K h) : CallH Try.prog id_ref11_Key [.string sv] K h :=
  denF_sound Try.func14 (H := ⟨[], [], [(0, ⟨[(3, .int .i64)], [], []⟩)], []⟩) (xs := [.v (.string sv)]) (by kernel_rfl) (⟨rfl, trivial⟩) (cast (by kernel_rfl : F_ref11_Key sv K h = denF Try.prog Try.f14 ⟨[], [], [(0, ⟨[(3, .int .i64)], [], []⟩)], []⟩ [.v (.string sv)] K h) hh)

/- twinlock/twinlocklaw11.Great -/
def F_law11_Great (lA : Option Addr) (lN _ : Nat) (K : Value → PH → Prop) (h : PH) : Prop :=
  (((decide (((lN : Nat) : Int) > (100 : Int))) = true →
      K (.bool true) h) ∧
    ((decide (((lN : Nat) : Int) > (100 : Int))) = false →
      LoopP (T := Int × Unit) (fun Jv st h1 =>
        (((decide (st.1 < ((lN : Nat) : Int))) = true →
            ∃ bv ov : Nat, (lA = some ⟨bv, ov, none⟩ ∧ 0 ≤ st.1 ∧ st.1 < (lN : Nat)) ∧
            ∃ t : ByteArray, (h1.rds bv (ov + st.1.toNat * 2) 1 = some [.string t]) ∧
            (((decide ((t.size : Int) > (1000 : Int))) = true →
                K (.bool true) h1) ∧
              ((decide ((t.size : Int) > (1000 : Int))) = false →
                Jv ((IntKind.wrap .i64 (st.1 + (1 : Int))), ()) h1))) ∧
          ((decide (st.1 < ((lN : Nat) : Int))) = false →
            K (.bool false) h1))) ((0 : Int), ()) h))
theorem F_law11_Great_ok {lA : Option Addr} {lN lC : Nat}  {K : Value → PH → Prop} {h : PH} (hh : F_law11_Great lA lN lC K h) : CallH Try.prog id_law11_Great [.slice lA lN lC] K h :=
  denF_sound Try.func15 (H := ⟨[], [], [(0, ⟨[(3, .int .i64)], [], []⟩)], []⟩) (xs := [.v (.slice lA lN lC)]) (by kernel_rfl) (⟨rfl, trivial⟩) (cast (by kernel_rfl : F_law11_Great lA lN lC K h = denF Try.prog Try.f15 ⟨[], [], [(0, ⟨[(3, .int .i64)], [], []⟩)], []⟩ [.v (.slice lA lN lC)] K h) hh)

/- twinlock/path.Of -/
def F_path_Of (lA : Option Addr) (lN lC : Nat) (p : ByteArray) (K : Value → PH → Prop) (h : PH) : Prop :=
  CallH Try.prog id_path_Cut [.string p] (fun v h1 =>
    ∃ t0 : ByteArray, ∃ t1 : ByteArray, ∃ t2 : Bool, v = .tuple #[.string t0, .string t1, .bool t2] ∧
    newH h1 (.cells #[.string (⟨#[]⟩ : ByteArray)] 9 (0, 0)) fun bv h2 =>
    stH h2 bv 0 [.string t0] fun h3 =>
    (((!t2) = true →
        K (.tuple #[.agg #[.string (⟨#[]⟩ : ByteArray), .bool false], .int .i64 (20 : Int)]) h3) ∧
      ((!t2) = false →
        CallH Try.prog id_slices_IndexFunc_api_Mount_api_Mount [.slice lA lN lC, .func (.func 28) #[] #[.pointer (some ⟨bv, 0, none⟩)]] (fun v_1 h4 =>
          ∃ i : Int, v_1 = .int .i64 i ∧
          (((decide (i < (0 : Int))) = true →
              K (.tuple #[.agg #[.string (⟨#[]⟩ : ByteArray), .bool false], .int .i64 (21 : Int)]) h4) ∧
            ((decide (i < (0 : Int))) = false →
              ∃ bv_1 ov : Nat, (lA = some ⟨bv_1, ov, none⟩ ∧ 0 ≤ i ∧ i < (lN : Nat)) ∧
              ∃ t0_1 : ByteArray, ∃ t1_1 : Bool, (h4.rds bv_1 (ov + i.toNat * 2) 2 = some [.string t0_1, .bool t1_1]) ∧
              K (.tuple #[.agg #[.string t0_1, .bool t1_1], .int .i64 (0 : Int)]) h4))) h3))) h
theorem F_path_Of_ok {lA : Option Addr} {lN lC : Nat} {p : ByteArray}  {K : Value → PH → Prop} {h : PH} (hh : F_path_Of lA lN lC p K h) : CallH Try.prog id_path_Of [.slice lA lN lC, .string p] K h :=
  denF_sound Try.func16 (H := ⟨[4], [], [], []⟩) (xs := [.v (.slice lA lN lC), .v (.string p)]) (by kernel_rfl) (⟨rfl, rfl, trivial⟩) (cast (by kernel_rfl : F_path_Of lA lN lC p K h = denF Try.prog Try.f16 ⟨[4], [], [], []⟩ [.v (.slice lA lN lC), .v (.string p)] K h) hh)

/- twinlock/twinlockref11.Of -/
def F_ref11_Of (lA : Option Addr) (lN _ : Nat) (p : ByteArray) (K : Value → PH → Prop) (h : PH) : Prop :=
  CallH Try.prog id_ref11_Cut [.string p] (fun v h1 =>
    ∃ t0 : ByteArray, ∃ t1 : ByteArray, ∃ t2 : Bool, v = .tuple #[.string t0, .string t1, .bool t2] ∧
    (((!t2) = true →
        K (.tuple #[.agg #[.string (⟨#[]⟩ : ByteArray), .bool false], .int .i64 (20 : Int)]) h1) ∧
      ((!t2) = false →
        LoopP (T := Int × ByteArray × Bool × Unit) (fun Jv st h2 =>
          (((decide (st.1 < ((lN : Nat) : Int))) = true →
              ∃ bv ov : Nat, (lA = some ⟨bv, ov, none⟩ ∧ 0 ≤ st.1 ∧ st.1 < (lN : Nat)) ∧
              ∃ t : ByteArray, (h2.rds bv (ov + st.1.toNat * 2) 1 = some [.string t]) ∧
              (((strEq t t0) = true →
                  ∃ bv_1 ov_1 : Nat, (lA = some ⟨bv_1, ov_1, none⟩ ∧ 0 ≤ st.1 ∧ st.1 < (lN : Nat)) ∧
                  ∃ t0_1 : ByteArray, ∃ t1_1 : Bool, (h2.rds bv_1 (ov_1 + st.1.toNat * 2) 2 = some [.string t0_1, .bool t1_1]) ∧
                  K (.tuple #[.agg #[.string t0_1, .bool t1_1], .int .i64 (0 : Int)]) h2) ∧
                ((strEq t t0) = false →
                  Jv ((IntKind.wrap .i64 (st.1 + (1 : Int))), st.2.1, st.2.2.1, ()) h2))) ∧
            ((decide (st.1 < ((lN : Nat) : Int))) = false →
              K (.tuple #[.agg #[.string (⟨#[]⟩ : ByteArray), .bool false], .int .i64 (21 : Int)]) h2))) ((0 : Int), (⟨#[]⟩ : ByteArray), false, ()) h1))) h
theorem F_ref11_Of_ok {lA : Option Addr} {lN lC : Nat} {p : ByteArray}  {K : Value → PH → Prop} {h : PH} (hh : F_ref11_Of lA lN lC p K h) : CallH Try.prog id_ref11_Of [.slice lA lN lC, .string p] K h :=
  denF_sound Try.func17 (H := ⟨[4], [], [(0, ⟨[(9, .int .i64)], [], [(0, [.one (.str), .one (.bool)])]⟩)], []⟩) (xs := [.v (.slice lA lN lC), .v (.string p)]) (by kernel_rfl) (⟨rfl, rfl, trivial⟩) (cast (by kernel_rfl : F_ref11_Of lA lN lC p K h = denF Try.prog Try.f17 ⟨[4], [], [(0, ⟨[(9, .int .i64)], [], [(0, [.one (.str), .one (.bool)])]⟩)], []⟩ [.v (.slice lA lN lC), .v (.string p)] K h) hh)

/- twinlock/path.Right -/
def F_path_Right (lA : Option Addr) (lN lC : Nat) (K : Value → PH → Prop) (h : PH) : Prop :=
  LoopP (T := Int × Unit) (fun Jv st h1 =>
    (((decide (st.1 < ((lN : Nat) : Int))) = true →
        ∃ bv ov : Nat, (lA = some ⟨bv, ov, none⟩ ∧ 0 ≤ st.1 ∧ st.1 < (lN : Nat)) ∧
        ∃ m0 : ByteArray, ∃ m1 : Bool, (h1.rds bv (ov + st.1.toNat * 2) 2 = some [.string m0, .bool m1]) ∧
        newH h1 (.cells #[.string (⟨#[]⟩ : ByteArray), .bool false] T_api_Mount (0, 0)) fun bv_1 h2 =>
        stH h2 bv_1 0 [.string m0, .bool m1] fun h3 =>
        ∃ t : ByteArray, (h3.rds bv_1 0 1 = some [.string t]) ∧
        CallH Try.prog id_path_named [.string t] (fun v h4 =>
          ∃ t_1 : Bool, v = .bool t_1 ∧
          (((!t_1) = false → 0 ≤ (0 : Int) ∧ (0 : Int) ≤ st.1 ∧ st.1 ≤ ((lC : Nat) : Int) ∧ ((lC : Nat) : Int) ≤ (lC : Nat))) ∧
          (((!t_1) = false →
              CallH Try.prog id_slices_ContainsFunc_api_Mount_api_Mount [.slice (slA lA 2 (0 : Int) ((lC : Nat) : Int)) (st.1.toNat - (0 : Int).toNat) (((lC : Nat) : Int).toNat - (0 : Int).toNat), .func (.func 29) #[] #[.pointer (some ⟨bv_1, 0, none⟩)]] (fun v_1 h5 =>
                ∃ t_2 : Bool, v_1 = .bool t_2 ∧
                ((t_2 = true →
                    K (.bool false) h5) ∧
                  (t_2 = false →
                    Jv ((IntKind.wrap .i64 (st.1 + (1 : Int))), ()) h5))) h4) ∧
            ((!t_1) = true →
              K (.bool false) h4))) h3) ∧
      ((decide (st.1 < ((lN : Nat) : Int))) = false →
        K (.bool ((decide (((lN : Nat) : Int) ≥ (1 : Int))) && (decide (((lN : Nat) : Int) ≤ (4 : Int))))) h1))) ((0 : Int), ()) h
theorem F_path_Right_ok {lA : Option Addr} {lN lC : Nat}  {K : Value → PH → Prop} {h : PH} (hh : F_path_Right lA lN lC K h) : CallH Try.prog id_path_Right [.slice lA lN lC] K h :=
  denF_sound Try.func18 (H := ⟨[], [], [(0, ⟨[(8, .int .i64)], [], []⟩)], []⟩) (xs := [.v (.slice lA lN lC)]) (by kernel_rfl) (⟨rfl, trivial⟩) (cast (by kernel_rfl : F_path_Right lA lN lC K h = denF Try.prog Try.f18 ⟨[], [], [(0, ⟨[(8, .int .i64)], [], []⟩)], []⟩ [.v (.slice lA lN lC)] K h) hh)

/- twinlock/twinlockref11.Right -/
def F_ref11_Right (lA : Option Addr) (lN _ : Nat) (K : Value → PH → Prop) (h : PH) : Prop :=
  ((((decide (((lN : Nat) : Int) < (1 : Int))) || (decide (((lN : Nat) : Int) > (4 : Int)))) = true →
      K (.bool false) h) ∧
    (((decide (((lN : Nat) : Int) < (1 : Int))) || (decide (((lN : Nat) : Int) > (4 : Int)))) = false →
      LoopP (T := Int × Unit) (fun Jv st h1 =>
        (((decide (st.1 < ((lN : Nat) : Int))) = true →
            ∃ bv ov : Nat, (lA = some ⟨bv, ov, none⟩ ∧ 0 ≤ st.1 ∧ st.1 < (lN : Nat)) ∧
            ∃ t : ByteArray, (h1.rds bv (ov + st.1.toNat * 2) 1 = some [.string t]) ∧
            CallH Try.prog id_ref11_Named [.string t] (fun v h2 =>
              ∃ t_1 : Bool, v = .bool t_1 ∧
              (((!t_1) = true →
                  K (.bool false) h2) ∧
                ((!t_1) = false →
                  LoopP (T := Int × Unit) (fun Jv_1 st_1 h3 =>
                    (((decide (st_1.1 < st.1)) = true →
                        ∃ bv_1 ov_1 : Nat, (lA = some ⟨bv_1, ov_1, none⟩ ∧ 0 ≤ st_1.1 ∧ st_1.1 < (lN : Nat)) ∧
                        ∃ t_2 : ByteArray, (h3.rds bv_1 (ov_1 + st_1.1.toNat * 2) 1 = some [.string t_2]) ∧
                        ∃ bv_2 ov_2 : Nat, (lA = some ⟨bv_2, ov_2, none⟩ ∧ 0 ≤ st.1 ∧ st.1 < (lN : Nat)) ∧
                        ∃ t_3 : ByteArray, (h3.rds bv_2 (ov_2 + st.1.toNat * 2) 1 = some [.string t_3]) ∧
                        (((strEq t_2 t_3) = true →
                            K (.bool false) h3) ∧
                          ((strEq t_2 t_3) = false →
                            Jv_1 ((IntKind.wrap .i64 (st_1.1 + (1 : Int))), ()) h3))) ∧
                      ((decide (st_1.1 < st.1)) = false →
                        Jv ((IntKind.wrap .i64 (st.1 + (1 : Int))), ()) h3))) ((0 : Int), ()) h2))) h1) ∧
          ((decide (st.1 < ((lN : Nat) : Int))) = false →
            K (.bool true) h1))) ((0 : Int), ()) h))
theorem F_ref11_Right_ok {lA : Option Addr} {lN lC : Nat}  {K : Value → PH → Prop} {h : PH} (hh : F_ref11_Right lA lN lC K h) : CallH Try.prog id_ref11_Right [.slice lA lN lC] K h :=
  denF_sound Try.func19 (H := ⟨[], [], [(0, ⟨[(3, .int .i64)], [], []⟩), (2, ⟨[(4, .int .i64)], [], []⟩)], []⟩) (xs := [.v (.slice lA lN lC)]) (by kernel_rfl) (⟨rfl, trivial⟩) (cast (by kernel_rfl : F_ref11_Right lA lN lC K h = denF Try.prog Try.f19 ⟨[], [], [(0, ⟨[(3, .int .i64)], [], []⟩), (2, ⟨[(4, .int .i64)], [], []⟩)], []⟩ [.v (.slice lA lN lC)] K h) hh)

/- twinlock/path.Ships -/
def F_path_Ships (lA : Option Addr) (lN lC : Nat) (p : ByteArray) (K : Value → PH → Prop) (h : PH) : Prop :=
  CallH Try.prog id_path_Of [.slice lA lN lC, .string p] (fun v h1 =>
    ∃ t00 : ByteArray, ∃ t01 : Bool, ∃ t1 : Int, v = .tuple #[.agg #[.string t00, .bool t01], .int .i64 t1] ∧
    K (.bool ((t1 == (0 : Int)) && t01)) h1) h
theorem F_path_Ships_ok {lA : Option Addr} {lN lC : Nat} {p : ByteArray}  {K : Value → PH → Prop} {h : PH} (hh : F_path_Ships lA lN lC p K h) : CallH Try.prog id_path_Ships [.slice lA lN lC, .string p] K h :=
  denF_sound Try.func20 (H := ⟨[5], [], [], []⟩) (xs := [.v (.slice lA lN lC), .v (.string p)]) (by kernel_rfl) (⟨rfl, rfl, trivial⟩) (cast (by kernel_rfl : F_path_Ships lA lN lC p K h = denF Try.prog Try.f20 ⟨[5], [], [], []⟩ [.v (.slice lA lN lC), .v (.string p)] K h) hh)

/- twinlock/twinlockref11.Ships -/
def F_ref11_Ships (lA : Option Addr) (lN lC : Nat) (p : ByteArray) (K : Value → PH → Prop) (h : PH) : Prop :=
  CallH Try.prog id_ref11_Of [.slice lA lN lC, .string p] (fun v h1 =>
    ∃ t00 : ByteArray, ∃ t01 : Bool, ∃ t1 : Int, v = .tuple #[.agg #[.string t00, .bool t01], .int .i64 t1] ∧
    K (.bool ((t1 == (0 : Int)) && t01)) h1) h
theorem F_ref11_Ships_ok {lA : Option Addr} {lN lC : Nat} {p : ByteArray}  {K : Value → PH → Prop} {h : PH} (hh : F_ref11_Ships lA lN lC p K h) : CallH Try.prog id_ref11_Ships [.slice lA lN lC, .string p] K h :=
  denF_sound Try.func21 (H := ⟨[5], [], [], []⟩) (xs := [.v (.slice lA lN lC), .v (.string p)]) (by kernel_rfl) (⟨rfl, rfl, trivial⟩) (cast (by kernel_rfl : F_ref11_Ships lA lN lC p K h = denF Try.prog Try.f21 ⟨[5], [], [], []⟩ [.v (.slice lA lN lC), .v (.string p)] K h) hh)

/- twinlock/path.Same -/
def F_path_Same (aA : Option Addr) (aN aC : Nat) (bA : Option Addr) (bN bC : Nat) (K : Value → PH → Prop) (h : PH) : Prop :=
  CallH Try.prog id_slices_Equal_api_Mount_api_Mount [.slice aA aN aC, .slice bA bN bC] (fun v h1 =>
    ∃ t : Bool, v = .bool t ∧
    K (.bool t) h1) h
theorem F_path_Same_ok {aA : Option Addr} {aN aC : Nat} {bA : Option Addr} {bN bC : Nat}  {K : Value → PH → Prop} {h : PH} (hh : F_path_Same aA aN aC bA bN bC K h) : CallH Try.prog id_path_Same [.slice aA aN aC, .slice bA bN bC] K h :=
  denF_sound Try.func22 (H := ⟨[], [], [], []⟩) (xs := [.v (.slice aA aN aC), .v (.slice bA bN bC)]) (by kernel_rfl) (⟨rfl, rfl, trivial⟩) (cast (by kernel_rfl : F_path_Same aA aN aC bA bN bC K h = denF Try.prog Try.f22 ⟨[], [], [], []⟩ [.v (.slice aA aN aC), .v (.slice bA bN bC)] K h) hh)

/- twinlock/twinlocklaw11.two -/
def F_law11_two  (K : Value → PH → Prop) (h : PH) : Prop :=
  newH h (.cells #[.string (⟨#[97, 112, 112]⟩ : ByteArray), .bool true, .string (⟨#[111, 112, 115]⟩ : ByteArray), .bool false] T_api_Mount (0, 0)) fun bv h1 =>
  K (.slice (some ⟨bv, 0, none⟩) 2 2) h1
theorem F_law11_two_ok   {K : Value → PH → Prop} {h : PH} (hh : F_law11_two  K h) : CallH Try.prog id_law11_two [] K h :=
  denF_sound Try.func23 (H := ⟨[], [], [], []⟩) (xs := []) (by kernel_rfl) (trivial) (cast (by kernel_rfl : F_law11_two  K h = denF Try.prog Try.f23 ⟨[], [], [], []⟩ [] K h) hh)

/- strings.Cut -/
def F_strings_Cut (sv : ByteArray) (sep : ByteArray) (K : Value → PH → Prop) (h : PH) : Prop :=
  CallH Try.prog id_internal_stringslite_Cut [.string sv, .string sep] (fun v h1 =>
    ∃ t0 : ByteArray, ∃ t1 : ByteArray, ∃ t2 : Bool, v = .tuple #[.string t0, .string t1, .bool t2] ∧
    K (.tuple #[.string t0, .string t1, .bool t2]) h1) h
theorem F_strings_Cut_ok {sv : ByteArray} {sep : ByteArray}  {K : Value → PH → Prop} {h : PH} (hh : F_strings_Cut sv sep K h) : CallH Try.prog id_strings_Cut [.string sv, .string sep] K h :=
  denF_sound Try.func24 (H := ⟨[], [], [], []⟩) (xs := [.v (.string sv), .v (.string sep)]) (by kernel_rfl) (⟨rfl, rfl, trivial⟩) (cast (by kernel_rfl : F_strings_Cut sv sep K h = denF Try.prog Try.f24 ⟨[], [], [], []⟩ [.v (.string sv), .v (.string sep)] K h) hh)

/- twinlock/path.named -/
def F_path_named (sv : ByteArray) (K : Value → PH → Prop) (h : PH) : Prop :=
  LoopP (T := Int × Unit) (fun Jv st h1 =>
    (((decide (st.1 < (sv.size : Int))) = true →
        (0 ≤ st.1 ∧ st.1 < (ByteArray.size sv : Nat)) ∧
        (((decide ((byteAt sv st.1) < (97 : Int))) = false → 0 ≤ st.1 ∧ st.1 < (ByteArray.size sv : Nat))) ∧
        ((((decide ((byteAt sv st.1) < (97 : Int))) || (decide ((byteAt sv st.1) > (122 : Int)))) = true →
            K (.bool false) h1) ∧
          (((decide ((byteAt sv st.1) < (97 : Int))) || (decide ((byteAt sv st.1) > (122 : Int)))) = false →
            Jv ((IntKind.wrap .i64 (st.1 + (1 : Int))), ()) h1))) ∧
      ((decide (st.1 < (sv.size : Int))) = false →
        K (.bool ((decide ((sv.size : Int) ≥ (1 : Int))) && (decide ((sv.size : Int) ≤ (8 : Int))))) h1))) ((0 : Int), ()) h
theorem F_path_named_ok {sv : ByteArray}  {K : Value → PH → Prop} {h : PH} (hh : F_path_named sv K h) : CallH Try.prog id_path_named [.string sv] K h :=
  denF_sound Try.func25 (H := ⟨[], [], [(0, ⟨[(6, .int .i64)], [], []⟩)], []⟩) (xs := [.v (.string sv)]) (by kernel_rfl) (⟨rfl, trivial⟩) (cast (by kernel_rfl : F_path_named sv K h = denF Try.prog Try.f25 ⟨[], [], [(0, ⟨[(6, .int .i64)], [], []⟩)], []⟩ [.v (.string sv)] K h) hh)

/- twinlock/path.key -/
def F_path_key (sv : ByteArray) (K : Value → PH → Prop) (h : PH) : Prop :=
  ((((decide ((sv.size : Int) ≥ (1 : Int))) && (decide ((sv.size : Int) ≤ (24 : Int)))) = true →
      CallH Try.prog id_strings_IndexByte [.string sv, .int .u8 (0 : Int)] (fun v h1 =>
        ∃ t : Int, v = .int .i64 t ∧
        (((decide (t < (0 : Int))) = true →
            CallH Try.prog id_strings_IndexByte [.string sv, .int .u8 (47 : Int)] (fun v_1 h2 =>
              ∃ t_1 : Int, v_1 = .int .i64 t_1 ∧
              K (.bool (decide (t_1 < (0 : Int)))) h2) h1) ∧
          ((decide (t < (0 : Int))) = false →
            K (.bool false) h1))) h) ∧
    (((decide ((sv.size : Int) ≥ (1 : Int))) && (decide ((sv.size : Int) ≤ (24 : Int)))) = false →
      K (.bool false) h))
theorem F_path_key_ok {sv : ByteArray}  {K : Value → PH → Prop} {h : PH} (hh : F_path_key sv K h) : CallH Try.prog id_path_key [.string sv] K h :=
  denF_sound Try.func26 (H := ⟨[], [], [], []⟩) (xs := [.v (.string sv)]) (by kernel_rfl) (⟨rfl, trivial⟩) (cast (by kernel_rfl : F_path_key sv K h = denF Try.prog Try.f26 ⟨[], [], [], []⟩ [.v (.string sv)] K h) hh)

/- slices.IndexFunc[[]twinlock/api.Mount,twinlock/api.Mount] -/
def F_slices_IndexFunc_api_Mount_api_Mount (sA : Option Addr) (sN _ : Nat) (f : Value) (K : Value → PH → Prop) (h : PH) : Prop :=
  LoopP (T := Int × Unit) (fun Jv st h1 =>
    (((decide (st.1 < ((sN : Nat) : Int))) = true →
        ∃ bv ov : Nat, (sA = some ⟨bv, ov, none⟩ ∧ 0 ≤ st.1 ∧ st.1 < (sN : Nat)) ∧
        ∃ t0 : ByteArray, ∃ t1 : Bool, (h1.rds bv (ov + st.1.toNat * 2) 2 = some [.string t0, .bool t1]) ∧
        CallV Try.prog f [.agg #[.string t0, .bool t1]] (fun v h2 =>
          ∃ t : Bool, v = .bool t ∧
          ((t = true →
              K (.int .i64 st.1) h2) ∧
            (t = false →
              Jv ((IntKind.wrap .i64 (st.1 + (1 : Int))), ()) h2))) h1) ∧
      ((decide (st.1 < ((sN : Nat) : Int))) = false →
        K (.int .i64 (-1 : Int)) h1))) ((0 : Int), ()) h
theorem F_slices_IndexFunc_api_Mount_api_Mount_ok {sA : Option Addr} {sN sC : Nat} {f : Value} (hk0 : one1 f = true) {K : Value → PH → Prop} {h : PH} (hh : F_slices_IndexFunc_api_Mount_api_Mount sA sN sC f K h) : CallH Try.prog id_slices_IndexFunc_api_Mount_api_Mount [.slice sA sN sC, f] K h :=
  denF_sound Try.func27 (H := ⟨[], [], [(0, ⟨[(8, .int .i64)], [], []⟩)], []⟩) (xs := [.v (.slice sA sN sC), .fn f]) (by kernel_rfl) (⟨rfl, hk0, trivial⟩) (cast (by kernel_rfl : F_slices_IndexFunc_api_Mount_api_Mount sA sN sC f K h = denF Try.prog Try.f27 ⟨[], [], [(0, ⟨[(8, .int .i64)], [], []⟩)], []⟩ [.v (.slice sA sN sC), .fn f] K h) hh)

/- twinlock/path.Of-1 -/
def F_path_Of_1 (m0 : ByteArray) (_ : Bool) (cap0B : Nat) (K : Value → PH → Prop) (h : PH) : Prop :=
  ∃ t : ByteArray, (h.rds cap0B 0 1 = some [.string t]) ∧
  K (.bool (strEq m0 t)) h
theorem F_path_Of_1_ok {m0 : ByteArray} {m1 : Bool} {cap0B : Nat}  {K : Value → PH → Prop} {h : PH} (hh : F_path_Of_1 m0 m1 cap0B K h) : CallH Try.prog id_path_Of_1 [.agg #[.string m0, .bool m1], .pointer (some ⟨cap0B, 0, none⟩)] K h :=
  denF_sound Try.func28 (H := ⟨[2], [], [], []⟩) (xs := [.agg [.one (.string m0), .one (.bool m1)], .v (.pointer (some ⟨cap0B, 0, none⟩))]) (by kernel_rfl) (⟨⟨rfl, rfl, trivial⟩, rfl, trivial⟩) (cast (by kernel_rfl : F_path_Of_1 m0 m1 cap0B K h = denF Try.prog Try.f28 ⟨[2], [], [], []⟩ [.agg [.one (.string m0), .one (.bool m1)], .v (.pointer (some ⟨cap0B, 0, none⟩))] K h) hh)

/- twinlock/path.Right-1 -/
def F_path_Right_1 (o0 : ByteArray) (_ : Bool) (cap0B : Nat) (K : Value → PH → Prop) (h : PH) : Prop :=
  ∃ t : ByteArray, (h.rds cap0B 0 1 = some [.string t]) ∧
  K (.bool (strEq o0 t)) h
theorem F_path_Right_1_ok {o0 : ByteArray} {o1 : Bool} {cap0B : Nat}  {K : Value → PH → Prop} {h : PH} (hh : F_path_Right_1 o0 o1 cap0B K h) : CallH Try.prog id_path_Right_1 [.agg #[.string o0, .bool o1], .pointer (some ⟨cap0B, 0, none⟩)] K h :=
  denF_sound Try.func29 (H := ⟨[2], [], [], []⟩) (xs := [.agg [.one (.string o0), .one (.bool o1)], .v (.pointer (some ⟨cap0B, 0, none⟩))]) (by kernel_rfl) (⟨⟨rfl, rfl, trivial⟩, rfl, trivial⟩) (cast (by kernel_rfl : F_path_Right_1 o0 o1 cap0B K h = denF Try.prog Try.f29 ⟨[2], [], [], []⟩ [.agg [.one (.string o0), .one (.bool o1)], .v (.pointer (some ⟨cap0B, 0, none⟩))] K h) hh)

/- slices.ContainsFunc[[]twinlock/api.Mount,twinlock/api.Mount] -/
def F_slices_ContainsFunc_api_Mount_api_Mount (sA : Option Addr) (sN sC : Nat) (f : Value) (K : Value → PH → Prop) (h : PH) : Prop :=
  CallH Try.prog id_slices_IndexFunc_api_Mount_api_Mount [.slice sA sN sC, f] (fun v h1 =>
    ∃ t : Int, v = .int .i64 t ∧
    K (.bool (decide (t ≥ (0 : Int)))) h1) h
theorem F_slices_ContainsFunc_api_Mount_api_Mount_ok {sA : Option Addr} {sN sC : Nat} {f : Value} (hk0 : one1 f = true) {K : Value → PH → Prop} {h : PH} (hh : F_slices_ContainsFunc_api_Mount_api_Mount sA sN sC f K h) : CallH Try.prog id_slices_ContainsFunc_api_Mount_api_Mount [.slice sA sN sC, f] K h :=
  denF_sound Try.func30 (H := ⟨[], [], [], []⟩) (xs := [.v (.slice sA sN sC), .fn f]) (by kernel_rfl) (⟨rfl, hk0, trivial⟩) (cast (by kernel_rfl : F_slices_ContainsFunc_api_Mount_api_Mount sA sN sC f K h = denF Try.prog Try.f30 ⟨[], [], [], []⟩ [.v (.slice sA sN sC), .fn f] K h) hh)

/- slices.Equal[[]twinlock/api.Mount,twinlock/api.Mount] -/
def F_slices_Equal_api_Mount_api_Mount (s1A : Option Addr) (s1N _ : Nat) (s2A : Option Addr) (s2N _ : Nat) (K : Value → PH → Prop) (h : PH) : Prop :=
  (((((s1N : Nat) : Int) != ((s2N : Nat) : Int)) = true →
      K (.bool false) h) ∧
    ((((s1N : Nat) : Int) != ((s2N : Nat) : Int)) = false →
      LoopP (T := Int × Unit) (fun Jv st h1 =>
        (((decide (st.1 < ((s1N : Nat) : Int))) = true →
            ∃ bv ov : Nat, (s1A = some ⟨bv, ov, none⟩ ∧ 0 ≤ st.1 ∧ st.1 < (s1N : Nat)) ∧
            ∃ t0 : ByteArray, ∃ t1 : Bool, (h1.rds bv (ov + st.1.toNat * 2) 2 = some [.string t0, .bool t1]) ∧
            ∃ bv_1 ov_1 : Nat, (s2A = some ⟨bv_1, ov_1, none⟩ ∧ 0 ≤ st.1 ∧ st.1 < (s2N : Nat)) ∧
            ∃ t0_1 : ByteArray, ∃ t1_1 : Bool, (h1.rds bv_1 (ov_1 + st.1.toNat * 2) 2 = some [.string t0_1, .bool t1_1]) ∧
            (((!((strEq t0 t0_1) && ((t1 == t1_1) && true))) = true →
                K (.bool false) h1) ∧
              ((!((strEq t0 t0_1) && ((t1 == t1_1) && true))) = false →
                Jv ((IntKind.wrap .i64 (st.1 + (1 : Int))), ()) h1))) ∧
          ((decide (st.1 < ((s1N : Nat) : Int))) = false →
            K (.bool true) h1))) ((0 : Int), ()) h))
theorem F_slices_Equal_api_Mount_api_Mount_ok {s1A : Option Addr} {s1N s1C : Nat} {s2A : Option Addr} {s2N s2C : Nat}  {K : Value → PH → Prop} {h : PH} (hh : F_slices_Equal_api_Mount_api_Mount s1A s1N s1C s2A s2N s2C K h) : CallH Try.prog id_slices_Equal_api_Mount_api_Mount [.slice s1A s1N s1C, .slice s2A s2N s2C] K h :=
  denF_sound Try.func31 (H := ⟨[], [], [(0, ⟨[(13, .int .i64)], [], []⟩)], []⟩) (xs := [.v (.slice s1A s1N s1C), .v (.slice s2A s2N s2C)]) (by kernel_rfl) (⟨rfl, rfl, trivial⟩) (cast (by kernel_rfl : F_slices_Equal_api_Mount_api_Mount s1A s1N s1C s2A s2N s2C K h = denF Try.prog Try.f31 ⟨[], [], [(0, ⟨[(13, .int .i64)], [], []⟩)], []⟩ [.v (.slice s1A s1N s1C), .v (.slice s2A s2N s2C)] K h) hh)

/- internal/stringslite.Cut -/
def F_internal_stringslite_Cut (sv : ByteArray) (sep : ByteArray) (K : Value → PH → Prop) (h : PH) : Prop :=
  CallH Try.prog id_internal_stringslite_Index [.string sv, .string sep] (fun v h1 =>
    ∃ i : Int, v = .int .i64 i ∧
    (((decide (i ≥ (0 : Int))) = true →
        (0 ≤ (0 : Int) ∧ (0 : Int) ≤ i ∧ i ≤ (ByteArray.size sv : Nat)) ∧
        (0 ≤ (IntKind.wrap .i64 (i + (sep.size : Int))) ∧ (IntKind.wrap .i64 (i + (sep.size : Int))) ≤ ((ByteArray.size sv : Nat) : Int) ∧ ((ByteArray.size sv : Nat) : Int) ≤ (ByteArray.size sv : Nat)) ∧
        K (.tuple #[.string (subS sv (0 : Int) i), .string (subS sv (IntKind.wrap .i64 (i + (sep.size : Int))) ((ByteArray.size sv : Nat) : Int)), .bool true]) h1) ∧
      ((decide (i ≥ (0 : Int))) = false →
        K (.tuple #[.string sv, .string (⟨#[]⟩ : ByteArray), .bool false]) h1))) h
theorem F_internal_stringslite_Cut_ok {sv : ByteArray} {sep : ByteArray}  {K : Value → PH → Prop} {h : PH} (hh : F_internal_stringslite_Cut sv sep K h) : CallH Try.prog id_internal_stringslite_Cut [.string sv, .string sep] K h :=
  denF_sound Try.func32 (H := ⟨[], [], [], []⟩) (xs := [.v (.string sv), .v (.string sep)]) (by kernel_rfl) (⟨rfl, rfl, trivial⟩) (cast (by kernel_rfl : F_internal_stringslite_Cut sv sep K h = denF Try.prog Try.f32 ⟨[], [], [], []⟩ [.v (.string sv), .v (.string sep)] K h) hh)

/- strings.IndexByte -/
def F_strings_IndexByte (sv : ByteArray) (cv : Int) (K : Value → PH → Prop) (h : PH) : Prop :=
  CallH Try.prog id_internal_stringslite_IndexByte [.string sv, .int .u8 cv] (fun v h1 =>
    ∃ t : Int, v = .int .i64 t ∧
    K (.int .i64 t) h1) h
theorem F_strings_IndexByte_ok {sv : ByteArray} {cv : Int}  {K : Value → PH → Prop} {h : PH} (hh : F_strings_IndexByte sv cv K h) : CallH Try.prog id_strings_IndexByte [.string sv, .int .u8 cv] K h :=
  denF_sound Try.func33 (H := ⟨[], [], [], []⟩) (xs := [.v (.string sv), .v (.int .u8 cv)]) (by kernel_rfl) (⟨rfl, rfl, trivial⟩) (cast (by kernel_rfl : F_strings_IndexByte sv cv K h = denF Try.prog Try.f33 ⟨[], [], [], []⟩ [.v (.string sv), .v (.int .u8 cv)] K h) hh)

/- internal/stringslite.Index -/
def F_internal_stringslite_Index (sv : ByteArray) (substr : ByteArray) (K : Value → PH → Prop) (h : PH) : Prop :=
  (((((substr.size : Int) == (0 : Int)) || (strEq substr sv)) = true →
      K (.int .i64 (0 : Int)) h) ∧
    ((((substr.size : Int) == (0 : Int)) || (strEq substr sv)) = false →
      ((((substr.size : Int) == (1 : Int)) = true →
          (0 ≤ (0 : Int) ∧ (0 : Int) < (ByteArray.size substr : Nat)) ∧
          CallH Try.prog id_internal_stringslite_IndexByte [.string sv, .int .u8 (byteAt substr (0 : Int))] (fun v h1 =>
            ∃ t : Int, v = .int .i64 t ∧
            K (.int .i64 t) h1) h) ∧
        (((substr.size : Int) == (1 : Int)) = false →
          (((decide ((substr.size : Int) ≥ (sv.size : Int))) = true →
              K (.int .i64 (-1 : Int)) h) ∧
            ((decide ((substr.size : Int) ≥ (sv.size : Int))) = false →
              ∃ t_1 : Int, (h.rds 0 0 1 = some [.int .i64 t_1]) ∧
              ((((decide ((substr.size : Int) ≤ t_1)) && (decide ((sv.size : Int) ≤ (64 : Int)))) = true →
                  ExtH Try.prog id_internal_bytealg_IndexString [.string sv, .string substr] (fun v_1 h2 =>
                    ∃ t_2 : Int, v_1 = .int .i64 t_2 ∧
                    K (.int .i64 t_2) h2) h) ∧
                (((decide ((substr.size : Int) ≤ t_1)) && (decide ((sv.size : Int) ≤ (64 : Int)))) = false →
                  (0 ≤ (0 : Int) ∧ (0 : Int) < (ByteArray.size substr : Nat)) ∧
                  (0 ≤ (1 : Int) ∧ (1 : Int) < (ByteArray.size substr : Nat)) ∧
                  LoopP (T := Int × Int × Unit) (fun Jv st h3 =>
                    (((decide (st.1 < (IntKind.wrap .i64 ((IntKind.wrap .i64 ((sv.size : Int) - (substr.size : Int))) + (1 : Int))))) = true →
                        JoinP (T := Int × Unit) (fun Jv_1 =>
                          (0 ≤ st.1 ∧ st.1 < (ByteArray.size sv : Nat)) ∧
                          ((((byteAt sv st.1) != (byteAt substr (0 : Int))) = true →
                              (0 ≤ (IntKind.wrap .i64 (st.1 + (1 : Int))) ∧ (IntKind.wrap .i64 (st.1 + (1 : Int))) ≤ (IntKind.wrap .i64 ((IntKind.wrap .i64 ((sv.size : Int) - (substr.size : Int))) + (1 : Int))) ∧ (IntKind.wrap .i64 ((IntKind.wrap .i64 ((sv.size : Int) - (substr.size : Int))) + (1 : Int))) ≤ (ByteArray.size sv : Nat)) ∧
                              CallH Try.prog id_internal_stringslite_IndexByte [.string (subS sv (IntKind.wrap .i64 (st.1 + (1 : Int))) (IntKind.wrap .i64 ((IntKind.wrap .i64 ((sv.size : Int) - (substr.size : Int))) + (1 : Int)))), .int .u8 (byteAt substr (0 : Int))] (fun v_2 h5 =>
                                ∃ ov : Int, v_2 = .int .i64 ov ∧
                                (((decide (ov < (0 : Int))) = true →
                                    K (.int .i64 (-1 : Int)) h5) ∧
                                  ((decide (ov < (0 : Int))) = false →
                                    Jv_1 ((IntKind.wrap .i64 (st.1 + (IntKind.wrap .i64 (ov + (1 : Int))))), ()) h5))) h3) ∧
                            (((byteAt sv st.1) != (byteAt substr (0 : Int))) = false →
                              Jv_1 (st.1, ()) h3)))
                        (fun st_1 h4 =>
                          (0 ≤ (IntKind.wrap .i64 (st_1.1 + (1 : Int))) ∧ (IntKind.wrap .i64 (st_1.1 + (1 : Int))) < (ByteArray.size sv : Nat)) ∧
                          ((((byteAt sv (IntKind.wrap .i64 (st_1.1 + (1 : Int)))) == (byteAt substr (1 : Int))) = true → 0 ≤ st_1.1 ∧ st_1.1 ≤ (IntKind.wrap .i64 (st_1.1 + (substr.size : Int))) ∧ (IntKind.wrap .i64 (st_1.1 + (substr.size : Int))) ≤ (ByteArray.size sv : Nat))) ∧
                          (((((byteAt sv (IntKind.wrap .i64 (st_1.1 + (1 : Int)))) == (byteAt substr (1 : Int))) && (strEq (subS sv st_1.1 (IntKind.wrap .i64 (st_1.1 + (substr.size : Int)))) substr)) = true →
                              K (.int .i64 st_1.1) h4) ∧
                            ((((byteAt sv (IntKind.wrap .i64 (st_1.1 + (1 : Int)))) == (byteAt substr (1 : Int))) && (strEq (subS sv st_1.1 (IntKind.wrap .i64 (st_1.1 + (substr.size : Int)))) substr)) = false →
                              ∃ t_3 : Int, (h4.rds 0 0 1 = some [.int .i64 t_3]) ∧
                              (((decide ((substr.size : Int) ≤ t_3)) = true →
                                  CallH Try.prog id_internal_bytealg_Cutover [.int .i64 (IntKind.wrap .i64 (st_1.1 + (1 : Int)))] (fun v_3 h6 =>
                                    ∃ t_4 : Int, v_3 = .int .i64 t_4 ∧
                                    (((decide ((IntKind.wrap .i64 (st.2.1 + (1 : Int))) > t_4)) = true →
                                        (0 ≤ (IntKind.wrap .i64 (st_1.1 + (1 : Int))) ∧ (IntKind.wrap .i64 (st_1.1 + (1 : Int))) ≤ ((ByteArray.size sv : Nat) : Int) ∧ ((ByteArray.size sv : Nat) : Int) ≤ (ByteArray.size sv : Nat)) ∧
                                        ExtH Try.prog id_internal_bytealg_IndexString [.string (subS sv (IntKind.wrap .i64 (st_1.1 + (1 : Int))) ((ByteArray.size sv : Nat) : Int)), .string substr] (fun v_4 h7 =>
                                          ∃ r : Int, v_4 = .int .i64 r ∧
                                          (((decide (r ≥ (0 : Int))) = true →
                                              K (.int .i64 (IntKind.wrap .i64 (r + (IntKind.wrap .i64 (st_1.1 + (1 : Int)))))) h7) ∧
                                            ((decide (r ≥ (0 : Int))) = false →
                                              K (.int .i64 (-1 : Int)) h7))) h6) ∧
                                      ((decide ((IntKind.wrap .i64 (st.2.1 + (1 : Int))) > t_4)) = false →
                                        ∃ t_5 : Int, (h6.rds 0 0 1 = some [.int .i64 t_5]) ∧
                                        (((((decide ((substr.size : Int) > t_5)) && (decide ((IntKind.wrap .i64 (st.2.1 + (1 : Int))) ≥ (IntKind.wrap .i64 ((4 : Int) + (shrV .i64 (IntKind.wrap .i64 (st_1.1 + (1 : Int))) (4 : Int))))))) && (decide ((IntKind.wrap .i64 (st_1.1 + (1 : Int))) < (IntKind.wrap .i64 ((IntKind.wrap .i64 ((sv.size : Int) - (substr.size : Int))) + (1 : Int)))))) = true →
                                            (0 ≤ (IntKind.wrap .i64 (st_1.1 + (1 : Int))) ∧ (IntKind.wrap .i64 (st_1.1 + (1 : Int))) ≤ ((ByteArray.size sv : Nat) : Int) ∧ ((ByteArray.size sv : Nat) : Int) ≤ (ByteArray.size sv : Nat)) ∧
                                            CallH Try.prog id_internal_bytealg_IndexRabinKarp_string [.string (subS sv (IntKind.wrap .i64 (st_1.1 + (1 : Int))) ((ByteArray.size sv : Nat) : Int)), .string substr] (fun v_5 h8 =>
                                              ∃ j : Int, v_5 = .int .i64 j ∧
                                              (((decide (j < (0 : Int))) = true →
                                                  K (.int .i64 (-1 : Int)) h8) ∧
                                                ((decide (j < (0 : Int))) = false →
                                                  K (.int .i64 (IntKind.wrap .i64 ((IntKind.wrap .i64 (st_1.1 + (1 : Int))) + j))) h8))) h6) ∧
                                          ((((decide ((substr.size : Int) > t_5)) && (decide ((IntKind.wrap .i64 (st.2.1 + (1 : Int))) ≥ (IntKind.wrap .i64 ((4 : Int) + (shrV .i64 (IntKind.wrap .i64 (st_1.1 + (1 : Int))) (4 : Int))))))) && (decide ((IntKind.wrap .i64 (st_1.1 + (1 : Int))) < (IntKind.wrap .i64 ((IntKind.wrap .i64 ((sv.size : Int) - (substr.size : Int))) + (1 : Int)))))) = false →
                                            Jv ((IntKind.wrap .i64 (st_1.1 + (1 : Int))), (IntKind.wrap .i64 (st.2.1 + (1 : Int))), ()) h6))))) h4) ∧
                                ((decide ((substr.size : Int) ≤ t_3)) = false →
                                  ∃ t_6 : Int, (h4.rds 0 0 1 = some [.int .i64 t_6]) ∧
                                  (((((decide ((substr.size : Int) > t_6)) && (decide ((IntKind.wrap .i64 (st.2.1 + (1 : Int))) ≥ (IntKind.wrap .i64 ((4 : Int) + (shrV .i64 (IntKind.wrap .i64 (st_1.1 + (1 : Int))) (4 : Int))))))) && (decide ((IntKind.wrap .i64 (st_1.1 + (1 : Int))) < (IntKind.wrap .i64 ((IntKind.wrap .i64 ((sv.size : Int) - (substr.size : Int))) + (1 : Int)))))) = true →
                                      (0 ≤ (IntKind.wrap .i64 (st_1.1 + (1 : Int))) ∧ (IntKind.wrap .i64 (st_1.1 + (1 : Int))) ≤ ((ByteArray.size sv : Nat) : Int) ∧ ((ByteArray.size sv : Nat) : Int) ≤ (ByteArray.size sv : Nat)) ∧
                                      CallH Try.prog id_internal_bytealg_IndexRabinKarp_string [.string (subS sv (IntKind.wrap .i64 (st_1.1 + (1 : Int))) ((ByteArray.size sv : Nat) : Int)), .string substr] (fun v_6 h9 =>
                                        ∃ j_1 : Int, v_6 = .int .i64 j_1 ∧
                                        (((decide (j_1 < (0 : Int))) = true →
                                            K (.int .i64 (-1 : Int)) h9) ∧
                                          ((decide (j_1 < (0 : Int))) = false →
                                            K (.int .i64 (IntKind.wrap .i64 ((IntKind.wrap .i64 (st_1.1 + (1 : Int))) + j_1))) h9))) h4) ∧
                                    ((((decide ((substr.size : Int) > t_6)) && (decide ((IntKind.wrap .i64 (st.2.1 + (1 : Int))) ≥ (IntKind.wrap .i64 ((4 : Int) + (shrV .i64 (IntKind.wrap .i64 (st_1.1 + (1 : Int))) (4 : Int))))))) && (decide ((IntKind.wrap .i64 (st_1.1 + (1 : Int))) < (IntKind.wrap .i64 ((IntKind.wrap .i64 ((sv.size : Int) - (substr.size : Int))) + (1 : Int)))))) = false →
                                      Jv ((IntKind.wrap .i64 (st_1.1 + (1 : Int))), (IntKind.wrap .i64 (st.2.1 + (1 : Int))), ()) h4)))))))) ∧
                      ((decide (st.1 < (IntKind.wrap .i64 ((IntKind.wrap .i64 ((sv.size : Int) - (substr.size : Int))) + (1 : Int))))) = false →
                        K (.int .i64 (-1 : Int)) h3))) ((0 : Int), (0 : Int), ()) h))))))))
theorem F_internal_stringslite_Index_ok {sv : ByteArray} {substr : ByteArray}  {K : Value → PH → Prop} {h : PH} (hh : F_internal_stringslite_Index sv substr K h) : CallH Try.prog id_internal_stringslite_Index [.string sv, .string substr] K h :=
  denF_sound Try.func34 (H := ⟨[], [], [(1, ⟨[(8, .int .i64), (10, .int .i64)], [], []⟩)], [(44, ⟨[(8, .int .i64)], [], []⟩)]⟩) (xs := [.v (.string sv), .v (.string substr)]) (by kernel_rfl) (⟨rfl, rfl, trivial⟩) (cast (by kernel_rfl : F_internal_stringslite_Index sv substr K h = denF Try.prog Try.f34 ⟨[], [], [(1, ⟨[(8, .int .i64), (10, .int .i64)], [], []⟩)], [(44, ⟨[(8, .int .i64)], [], []⟩)]⟩ [.v (.string sv), .v (.string substr)] K h) hh)

/- internal/stringslite.IndexByte -/
def F_internal_stringslite_IndexByte (sv : ByteArray) (cv : Int) (K : Value → PH → Prop) (h : PH) : Prop :=
  ExtH Try.prog id_internal_bytealg_IndexByteString [.string sv, .int .u8 cv] (fun v h1 =>
    ∃ t : Int, v = .int .i64 t ∧
    K (.int .i64 t) h1) h
theorem F_internal_stringslite_IndexByte_ok {sv : ByteArray} {cv : Int}  {K : Value → PH → Prop} {h : PH} (hh : F_internal_stringslite_IndexByte sv cv K h) : CallH Try.prog id_internal_stringslite_IndexByte [.string sv, .int .u8 cv] K h :=
  denF_sound Try.func35 (H := ⟨[], [], [], []⟩) (xs := [.v (.string sv), .v (.int .u8 cv)]) (by kernel_rfl) (⟨rfl, rfl, trivial⟩) (cast (by kernel_rfl : F_internal_stringslite_IndexByte sv cv K h = denF Try.prog Try.f35 ⟨[], [], [], []⟩ [.v (.string sv), .v (.int .u8 cv)] K h) hh)

/- internal/bytealg.Cutover -/
def F_internal_bytealg_Cutover (n : Int) (K : Value → PH → Prop) (h : PH) : Prop :=
  K (.int .i64 (IntKind.wrap .i64 ((IntKind.wrap .i64 (n + (16 : Int))).tdiv (8 : Int)))) h
theorem F_internal_bytealg_Cutover_ok {n : Int}  {K : Value → PH → Prop} {h : PH} (hh : F_internal_bytealg_Cutover n K h) : CallH Try.prog id_internal_bytealg_Cutover [.int .i64 n] K h :=
  denF_sound Try.func37 (H := ⟨[], [], [], []⟩) (xs := [.v (.int .i64 n)]) (by kernel_rfl) (⟨rfl, trivial⟩) (cast (by kernel_rfl : F_internal_bytealg_Cutover n K h = denF Try.prog Try.f37 ⟨[], [], [], []⟩ [.v (.int .i64 n)] K h) hh)

/- internal/bytealg.IndexRabinKarp[string] -/
def F_internal_bytealg_IndexRabinKarp_string (sv : ByteArray) (sep : ByteArray) (K : Value → PH → Prop) (h : PH) : Prop :=
  CallH Try.prog id_internal_bytealg_hashStr_string [.string sep] (fun v h1 =>
    ∃ t0 : Int, ∃ t1 : Int, v = .tuple #[.int .u32 t0, .int .u32 t1] ∧
    LoopP (T := Int × Int × Unit) (fun Jv st h2 =>
      (((decide (st.2.1 < (sep.size : Int))) = true →
          (0 ≤ st.2.1 ∧ st.2.1 < (ByteArray.size sv : Nat)) ∧
          Jv ((IntKind.wrap .u32 ((IntKind.wrap .u32 (st.1 * (16777619 : Int))) + (IntKind.wrap .u32 (byteAt sv st.2.1)))), (IntKind.wrap .i64 (st.2.1 + (1 : Int))), ()) h2) ∧
        ((decide (st.2.1 < (sep.size : Int))) = false →
          (((st.1 == t0) = true → 0 ≤ (0 : Int) ∧ (0 : Int) ≤ (sep.size : Int) ∧ (sep.size : Int) ≤ (ByteArray.size sv : Nat))) ∧
          ((((st.1 == t0) && (strEq (subS sv (0 : Int) (sep.size : Int)) sep)) = true →
              K (.int .i64 (0 : Int)) h2) ∧
            (((st.1 == t0) && (strEq (subS sv (0 : Int) (sep.size : Int)) sep)) = false →
              LoopP (T := Int × Int × Unit) (fun Jv_1 st_1 h3 =>
                (((decide (st_1.2.1 < (sv.size : Int))) = true →
                    (0 ≤ st_1.2.1 ∧ st_1.2.1 < (ByteArray.size sv : Nat)) ∧
                    (0 ≤ (IntKind.wrap .i64 (st_1.2.1 - (sep.size : Int))) ∧ (IntKind.wrap .i64 (st_1.2.1 - (sep.size : Int))) < (ByteArray.size sv : Nat)) ∧
                    ((((IntKind.wrap .u32 ((IntKind.wrap .u32 ((IntKind.wrap .u32 (st_1.1 * (16777619 : Int))) + (IntKind.wrap .u32 (byteAt sv st_1.2.1)))) - (IntKind.wrap .u32 (t1 * (IntKind.wrap .u32 (byteAt sv (IntKind.wrap .i64 (st_1.2.1 - (sep.size : Int))))))))) == t0) = true → 0 ≤ (IntKind.wrap .i64 ((IntKind.wrap .i64 (st_1.2.1 + (1 : Int))) - (sep.size : Int))) ∧ (IntKind.wrap .i64 ((IntKind.wrap .i64 (st_1.2.1 + (1 : Int))) - (sep.size : Int))) ≤ (IntKind.wrap .i64 (st_1.2.1 + (1 : Int))) ∧ (IntKind.wrap .i64 (st_1.2.1 + (1 : Int))) ≤ (ByteArray.size sv : Nat))) ∧
                    (((((IntKind.wrap .u32 ((IntKind.wrap .u32 ((IntKind.wrap .u32 (st_1.1 * (16777619 : Int))) + (IntKind.wrap .u32 (byteAt sv st_1.2.1)))) - (IntKind.wrap .u32 (t1 * (IntKind.wrap .u32 (byteAt sv (IntKind.wrap .i64 (st_1.2.1 - (sep.size : Int))))))))) == t0) && (strEq (subS sv (IntKind.wrap .i64 ((IntKind.wrap .i64 (st_1.2.1 + (1 : Int))) - (sep.size : Int))) (IntKind.wrap .i64 (st_1.2.1 + (1 : Int)))) sep)) = true →
                        K (.int .i64 (IntKind.wrap .i64 ((IntKind.wrap .i64 (st_1.2.1 + (1 : Int))) - (sep.size : Int)))) h3) ∧
                      ((((IntKind.wrap .u32 ((IntKind.wrap .u32 ((IntKind.wrap .u32 (st_1.1 * (16777619 : Int))) + (IntKind.wrap .u32 (byteAt sv st_1.2.1)))) - (IntKind.wrap .u32 (t1 * (IntKind.wrap .u32 (byteAt sv (IntKind.wrap .i64 (st_1.2.1 - (sep.size : Int))))))))) == t0) && (strEq (subS sv (IntKind.wrap .i64 ((IntKind.wrap .i64 (st_1.2.1 + (1 : Int))) - (sep.size : Int))) (IntKind.wrap .i64 (st_1.2.1 + (1 : Int)))) sep)) = false →
                        Jv_1 ((IntKind.wrap .u32 ((IntKind.wrap .u32 ((IntKind.wrap .u32 (st_1.1 * (16777619 : Int))) + (IntKind.wrap .u32 (byteAt sv st_1.2.1)))) - (IntKind.wrap .u32 (t1 * (IntKind.wrap .u32 (byteAt sv (IntKind.wrap .i64 (st_1.2.1 - (sep.size : Int))))))))), (IntKind.wrap .i64 (st_1.2.1 + (1 : Int))), ()) h3))) ∧
                  ((decide (st_1.2.1 < (sv.size : Int))) = false →
                    K (.int .i64 (-1 : Int)) h3))) (st.1, (sep.size : Int), ()) h2))))) ((0 : Int), (0 : Int), ()) h1) h
theorem F_internal_bytealg_IndexRabinKarp_string_ok {sv : ByteArray} {sep : ByteArray}  {K : Value → PH → Prop} {h : PH} (hh : F_internal_bytealg_IndexRabinKarp_string sv sep K h) : CallH Try.prog id_internal_bytealg_IndexRabinKarp_string [.string sv, .string sep] K h :=
  denF_sound Try.func38 (H := ⟨[], [], [(0, ⟨[(8, .int .u32), (9, .int .i64)], [], []⟩), (2, ⟨[(8, .int .u32), (10, .int .i64)], [], []⟩)], []⟩) (xs := [.v (.string sv), .v (.string sep)]) (by kernel_rfl) (⟨rfl, rfl, trivial⟩) (cast (by kernel_rfl : F_internal_bytealg_IndexRabinKarp_string sv sep K h = denF Try.prog Try.f38 ⟨[], [], [(0, ⟨[(8, .int .u32), (9, .int .i64)], [], []⟩), (2, ⟨[(8, .int .u32), (10, .int .i64)], [], []⟩)], []⟩ [.v (.string sv), .v (.string sep)] K h) hh)

/- internal/bytealg.hashStr[string] -/
def F_internal_bytealg_hashStr_string (sep : ByteArray) (K : Value → PH → Prop) (h : PH) : Prop :=
  LoopP (T := Int × Int × Unit) (fun Jv st h1 =>
    (((decide (st.2.1 < (sep.size : Int))) = true →
        (0 ≤ st.2.1 ∧ st.2.1 < (ByteArray.size sep : Nat)) ∧
        Jv ((IntKind.wrap .u32 ((IntKind.wrap .u32 (st.1 * (16777619 : Int))) + (IntKind.wrap .u32 (byteAt sep st.2.1)))), (IntKind.wrap .i64 (st.2.1 + (1 : Int))), ()) h1) ∧
      ((decide (st.2.1 < (sep.size : Int))) = false →
        LoopP (T := Int × Int × Int × Unit) (fun Jv_1 st_1 h2 =>
          (((decide (st_1.2.2.1 > (0 : Int))) = true →
              ((((bitsV .and .i64 st_1.2.2.1 (1 : Int)) != (0 : Int)) = true →
                  Jv_1 ((IntKind.wrap .u32 (st_1.1 * st_1.2.1)), (IntKind.wrap .u32 (st_1.2.1 * st_1.2.1)), (shrV .i64 st_1.2.2.1 (1 : Int)), ()) h2) ∧
                (((bitsV .and .i64 st_1.2.2.1 (1 : Int)) != (0 : Int)) = false →
                  Jv_1 (st_1.1, (IntKind.wrap .u32 (st_1.2.1 * st_1.2.1)), (shrV .i64 st_1.2.2.1 (1 : Int)), ()) h2))) ∧
            ((decide (st_1.2.2.1 > (0 : Int))) = false →
              K (.tuple #[.int .u32 st.1, .int .u32 st_1.1]) h2))) ((1 : Int), (16777619 : Int), (sep.size : Int), ()) h1))) ((0 : Int), (0 : Int), ()) h
theorem F_internal_bytealg_hashStr_string_ok {sep : ByteArray}  {K : Value → PH → Prop} {h : PH} (hh : F_internal_bytealg_hashStr_string sep K h) : CallH Try.prog id_internal_bytealg_hashStr_string [.string sep] K h :=
  denF_sound Try.func40 (H := ⟨[], [], [(0, ⟨[(4, .int .u32), (5, .int .i64)], [], []⟩), (2, ⟨[(6, .int .u32), (7, .int .u32), (8, .int .i64)], [], []⟩)], []⟩) (xs := [.v (.string sep)]) (by kernel_rfl) (⟨rfl, trivial⟩) (cast (by kernel_rfl : F_internal_bytealg_hashStr_string sep K h = denF Try.prog Try.f40 ⟨[], [], [(0, ⟨[(4, .int .u32), (5, .int .i64)], [], []⟩), (2, ⟨[(6, .int .u32), (7, .int .u32), (8, .int .i64)], [], []⟩)], []⟩ [.v (.string sep)] K h) hh)


end TL
