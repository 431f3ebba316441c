/-
  The functions of the program as predicates on heap fragments, each tied to its code (a part). No condition.
-/
import Derived.Test.YtdbleohhiakpgaaTextA
namespace TL
open Go Go.Proofs
/- twinlock/twinlocklaw15.TreeOne -/
def F_law15_TreeOne (aheadA : Option Addr) (aheadN aheadC : Nat) (a0 : Int) (a1 : ByteArray) (a2 : ByteArray) (K : Value → PH → Prop) (h : PH) : Prop :=
  JoinP (T := Unit) (fun Jv =>
    CallH Try.prog id_law15_Great [.slice aheadA aheadN aheadC] (fun v h2 =>
      ∃ t : Bool, v = .bool t ∧
      ((t = false →
          newH h2 (.cells #[.int .u8 a0, .string a1, .string a2] T_law15_Act (0, 0)) fun bv h3 =>
          CallH Try.prog id_law15_Great [.slice (some ⟨bv, 0, none⟩) 1 1] (fun v_1 h4 =>
            ∃ t_1 : Bool, v_1 = .bool t_1 ∧
            ((t_1 = true →
                CallH Try.prog id_law15_wakes [] (fun v_2 h5 =>
                  ∃ t_2 : Bool, v_2 = .bool t_2 ∧
                  K (.bool t_2) h5) h4) ∧
              (t_1 = false →
                Jv (()) h4))) h3) ∧
        (t = true →
          CallH Try.prog id_law15_wakes [] (fun v_3 h6 =>
            ∃ t_3 : Bool, v_3 = .bool t_3 ∧
            K (.bool t_3) h6) h2))) h)
  (fun _ h1 =>
    CallH Try.prog id_tree_New [] (fun v_4 h7 =>
      ∃ t_4 : Option Addr, v_4 = .pointer t_4 ∧
      CallH Try.prog id_law15_plays [.pointer t_4, .slice aheadA aheadN aheadC] (fun _ h8 =>
        CallH Try.prog id_tree_Tree_Twin [.pointer t_4] (fun v_6 h9 =>
          ∃ u : Option Addr, v_6 = .pointer u ∧
          newH h9 (.cells #[.int .u8 a0, .string a1, .string a2] T_law15_Act (0, 0)) fun bv_1 h10 =>
          CallH Try.prog id_law15_plays [.pointer t_4, .slice (some ⟨bv_1, 0, none⟩) 1 1] (fun _ h11 =>
            LoopP (T := Int × Int × Unit) (fun Jv_1 st_1 h12 =>
              (((decide (st_1.2.1 < (16 : Int))) = true →
                  CallH Try.prog id_tree_Tree_Pairs [.pointer t_4, .int .i64 st_1.2.1] (fun v_8 h13 =>
                    ∃ (tA : Option Addr) (tN tC : Nat), v_8 = .slice tA tN tC ∧
                    CallH Try.prog id_tree_Tree_Pairs [.pointer u, .int .i64 st_1.2.1] (fun v_9 h14 =>
                      ∃ (tA_1 : Option Addr) (tN_1 tC_1 : Nat), v_9 = .slice tA_1 tN_1 tC_1 ∧
                      CallH Try.prog id_ref13_Same [.slice tA tN tC, .slice tA_1 tN_1 tC_1] (fun v_10 h15 =>
                        ∃ t_5 : Bool, v_10 = .bool t_5 ∧
                        (((!t_5) = true →
                            (((decide (st_1.1 ≥ (0 : Int))) = true →
                                K (.bool false) h15) ∧
                              ((decide (st_1.1 ≥ (0 : Int))) = false →
                                Jv_1 (st_1.2.1, (IntKind.wrap .i64 (st_1.2.1 + (1 : Int))), ()) h15))) ∧
                          ((!t_5) = false →
                            Jv_1 (st_1.1, (IntKind.wrap .i64 (st_1.2.1 + (1 : Int))), ()) h15))) h14) h13) h12) ∧
                ((decide (st_1.2.1 < (16 : Int))) = false →
                  LoopP (T := Int × Unit) (fun Jv_2 st_2 h16 =>
                    (((decide (st_2.1 ≤ (4 : Int))) = true →
                        LoopP (T := Int × Unit) (fun Jv_3 st_3 h17 =>
                          (0 ≤ (IntKind.wrap .u64 st_2.1)) ∧
                          (((decide (st_3.1 < (shlV .i64 (1 : Int) (IntKind.wrap .u64 st_2.1)))) = true →
                              CallH Try.prog id_tree_Tree_Node [.pointer t_4, .int .i64 st_2.1, .int .i64 st_3.1] (fun v_11 h18 =>
                                ∃ t0 : List Int, t0.length = 32 ∧ ∃ t1 : Bool, v_11 = .tuple #[.agg ((t0.map (Value.int .u8) ++ [])).toArray, .bool t1] ∧
                                CallH Try.prog id_tree_Tree_Node [.pointer u, .int .i64 st_2.1, .int .i64 st_3.1] (fun v_12 h19 =>
                                  ∃ t0_1 : List Int, t0_1.length = 32 ∧ ∃ t1_1 : Bool, v_12 = .tuple #[.agg ((t0_1.map (Value.int .u8) ++ [])).toArray, .bool t1_1] ∧
                                  (((decide (st_1.1 ≥ (0 : Int))) = true → 0 ≤ (IntKind.wrap .u64 (IntKind.wrap .i64 ((4 : Int) - st_2.1))))) ∧
                                  ((((!(t0 == t0_1)) && (!((decide (st_1.1 ≥ (0 : Int))) && ((shrV .i64 st_1.1 (IntKind.wrap .u64 (IntKind.wrap .i64 ((4 : Int) - st_2.1)))) == st_3.1)))) = true →
                                      K (.bool false) h19) ∧
                                    (((!(t0 == t0_1)) && (!((decide (st_1.1 ≥ (0 : Int))) && ((shrV .i64 st_1.1 (IntKind.wrap .u64 (IntKind.wrap .i64 ((4 : Int) - st_2.1)))) == st_3.1)))) = false →
                                      Jv_3 ((IntKind.wrap .i64 (st_3.1 + (1 : Int))), ()) h19))) h18) h17) ∧
                            ((decide (st_3.1 < (shlV .i64 (1 : Int) (IntKind.wrap .u64 st_2.1)))) = false →
                              Jv_2 ((IntKind.wrap .i64 (st_2.1 + (1 : Int))), ()) h17))) ((0 : Int), ()) h16) ∧
                      ((decide (st_2.1 ≤ (4 : Int))) = false →
                        CallH Try.prog id_law15_wakes [] (fun v_13 h20 =>
                          ∃ t_6 : Bool, v_13 = .bool t_6 ∧
                          K (.bool t_6) h20) h16))) ((0 : Int), ()) h12))) ((-1 : Int), (0 : Int), ()) h11) h10) h8) h7) h1)
theorem F_law15_TreeOne_eq {aheadA : Option Addr} {aheadN aheadC : Nat} {a0 : Int} {a1 : ByteArray} {a2 : ByteArray} {K : Value → PH → Prop} {h : PH} : @Eq Prop (F_law15_TreeOne aheadA aheadN aheadC a0 a1 a2 K h) (denF Try.prog Try.f3 ⟨[3, 11, 13], [], [(0, ⟨[(7, .int .i64), (8, .int .i64)], [], []⟩), (2, ⟨[(9, .int .i64)], [], []⟩), (4, ⟨[(10, .int .i64)], [], []⟩)], [(8, ⟨[], [], []⟩)]⟩ [.v (.slice aheadA aheadN aheadC), .agg [.one (.int .u8 a0), .one (.string a1), .one (.string a2)]] K h) := by
  kernel_rfl
theorem F_law15_TreeOne_ok {aheadA : Option Addr} {aheadN aheadC : Nat} {a0 : Int} {a1 : ByteArray} {a2 : ByteArray}  {K : Value → PH → Prop} {h : PH} (hh : F_law15_TreeOne aheadA aheadN aheadC a0 a1 a2 K h) : CallH Try.prog id_law15_TreeOne [.slice aheadA aheadN aheadC, .agg #[.int .u8 a0, .string a1, .string a2]] K h :=
  denF_sound' Try.func3 (H := ⟨[3, 11, 13], [], [(0, ⟨[(7, .int .i64), (8, .int .i64)], [], []⟩), (2, ⟨[(9, .int .i64)], [], []⟩), (4, ⟨[(10, .int .i64)], [], []⟩)], [(8, ⟨[], [], []⟩)]⟩) (xs := [.v (.slice aheadA aheadN aheadC), .agg [.one (.int .u8 a0), .one (.string a1), .one (.string a2)]]) (by kernel_rfl) (⟨rfl, ⟨rfl, rfl, rfl, trivial⟩, trivial⟩) (den_of F_law15_TreeOne_eq hh)

/- twinlock/twinlocklaw15.TreeHashes -/
def F_law15_TreeHashes (page : ByteArray) (leftv : List Int) (rightv : List Int) (K : Value → PH → Prop) (h : PH) : Prop :=
  (((decide ((page.size : Int) > (5000 : Int))) = true →
      CallH Try.prog id_law15_wakes [] (fun v h1 =>
        ∃ t : Bool, v = .bool t ∧
        K (.bool t) h1) h) ∧
    ((decide ((page.size : Int) > (5000 : Int))) = false →
      (((ByteArray.size (⟨#[76]⟩ : ByteArray) + ByteArray.size page : Nat) : Int) ≤ 9223372036854775807) ∧
      CallH Try.prog id_tree_Leaf [.string page] (fun v_1 h2 =>
        ∃ t_1 : List Int, t_1.length = 32 ∧ v_1 = .agg ((t_1.map (Value.int .u8) ++ [])).toArray ∧
        CallH Try.prog id_ref02_Sum [.string ((⟨#[76]⟩ : ByteArray) ++ page)] (fun v_2 h3 =>
          ∃ t_2 : List Int, t_2.length = 32 ∧ v_2 = .agg ((t_2.map (Value.int .u8) ++ [])).toArray ∧
          (((t_1 == t_2) = true →
              CallH Try.prog id_tree_Inner [.agg ((leftv.map (Value.int .u8) ++ [])).toArray, .agg ((rightv.map (Value.int .u8) ++ [])).toArray] (fun v_3 h4 =>
                ∃ t_3 : List Int, t_3.length = 32 ∧ v_3 = .agg ((t_3.map (Value.int .u8) ++ [])).toArray ∧
                CallH Try.prog id_ref15_InnerText [.agg ((leftv.map (Value.int .u8) ++ [])).toArray, .agg ((rightv.map (Value.int .u8) ++ [])).toArray] (fun v_4 h5 =>
                  ∃ t_4 : ByteArray, v_4 = .string t_4 ∧
                  CallH Try.prog id_ref02_Sum [.string t_4] (fun v_5 h6 =>
                    ∃ t_5 : List Int, t_5.length = 32 ∧ v_5 = .agg ((t_5.map (Value.int .u8) ++ [])).toArray ∧
                    (((t_3 == t_5) = true →
                        CallH Try.prog id_law15_wakes [] (fun v_6 h7 =>
                          ∃ t_6 : Bool, v_6 = .bool t_6 ∧
                          K (.bool t_6) h7) h6) ∧
                      ((t_3 == t_5) = false →
                        K (.bool false) h6))) h5) h4) h3) ∧
            ((t_1 == t_2) = false →
              K (.bool false) h3))) h2) h))
theorem F_law15_TreeHashes_eq {page : ByteArray} {leftv : List Int} {rightv : List Int} {K : Value → PH → Prop} {h : PH} : @Eq Prop (F_law15_TreeHashes page leftv rightv K h) (denF Try.prog Try.f4 ⟨[4, 5], [(3, .of [0, 2, 3, 1, 4, 5, 6, 7, 8, 10, 11, 9, 12, 13, 14, 15, 16, 17, 18, 19])], [], []⟩ [.v (.string page), .agg [.ints .u8 32 leftv], .agg [.ints .u8 32 rightv]] K h) := by
  kernel_rfl
theorem F_law15_TreeHashes_ok {page : ByteArray} {leftv : List Int} {rightv : List Int} (hk0 : leftv.length = 32) (hk1 : rightv.length = 32) {K : Value → PH → Prop} {h : PH} (hh : F_law15_TreeHashes page leftv rightv K h) : CallH Try.prog id_law15_TreeHashes [.string page, .agg ((leftv.map (Value.int .u8) ++ [])).toArray, .agg ((rightv.map (Value.int .u8) ++ [])).toArray] K h :=
  denF_sound' Try.func4 (H := ⟨[4, 5], [(3, .of [0, 2, 3, 1, 4, 5, 6, 7, 8, 10, 11, 9, 12, 13, 14, 15, 16, 17, 18, 19])], [], []⟩) (xs := [.v (.string page), .agg [.ints .u8 32 leftv], .agg [.ints .u8 32 rightv]]) (by kernel_rfl) (⟨rfl, ⟨hk0, trivial⟩, ⟨hk1, trivial⟩, trivial⟩) (den_of F_law15_TreeHashes_eq hh)

/- twinlock/twinlocklaw15.TreeTexts -/
def F_law15_TreeTexts (lA : Option Addr) (lN lC : Nat) (K : Value → PH → Prop) (h : PH) : Prop :=
  CallH Try.prog id_law15_Great [.slice lA lN lC] (fun v h1 =>
    ∃ t : Bool, v = .bool t ∧
    ((t = true →
        CallH Try.prog id_law15_wakes [] (fun v_1 h2 =>
          ∃ t_1 : Bool, v_1 = .bool t_1 ∧
          K (.bool t_1) h2) h1) ∧
      (t = false →
        CallH Try.prog id_tree_New [] (fun v_2 h3 =>
          ∃ t_2 : Option Addr, v_2 = .pointer t_2 ∧
          CallH Try.prog id_law15_plays [.pointer t_2, .slice lA lN lC] (fun _ h4 =>
            CallH Try.prog id_tree_Tree_Texts [.pointer t_2] (fun v_4 h5 =>
              ∃ (textsA : Option Addr) (textsN textsC : Nat), v_4 = .slice textsA textsN textsC ∧
              (((((textsN : Nat) : Int) != (31 : Int)) = true →
                  K (.bool false) h5) ∧
                ((((textsN : Nat) : Int) != (31 : Int)) = false →
                  LoopP (T := Int × Int × Unit) (fun Jv st h6 =>
                    (((decide (st.2.1 ≥ (0 : Int))) = true →
                        LoopP (T := Int × Int × Unit) (fun Jv_1 st_1 h7 =>
                          (0 ≤ (IntKind.wrap .u64 st.2.1)) ∧
                          (((decide (st_1.2.1 < (shlV .i64 (1 : Int) (IntKind.wrap .u64 st.2.1)))) = true →
                              CallH Try.prog id_tree_Tree_Node [.pointer t_2, .int .i64 st.2.1, .int .i64 st_1.2.1] (fun v_5 h8 =>
                                ∃ t0 : List Int, t0.length = 32 ∧ ∃ t1 : Bool, v_5 = .tuple #[.agg ((t0.map (Value.int .u8) ++ [])).toArray, .bool t1] ∧
                                JoinP (T := Unit) (fun Jv_2 =>
                                  ∃ bv ov : Nat, (((!t1) = false → textsA = some ⟨bv, ov, none⟩ ∧ 0 ≤ st_1.1 ∧ st_1.1 < (textsN : Nat))) ∧
                                  ∃ t_3 : ByteArray, (((!t1) = false → h8.rds bv (ov + st_1.1.toNat * 1) 1 = some [.string t_3])) ∧
                                  (((!t1) = false →
                                      CallH Try.prog id_sha_Sum [.string t_3] (fun v_6 h10 =>
                                        ∃ t_4 : List Int, t_4.length = 32 ∧ v_6 = .agg ((t_4.map (Value.int .u8) ++ [])).toArray ∧
                                        (((!(t0 == t_4)) = true →
                                            K (.bool false) h10) ∧
                                          ((!(t0 == t_4)) = false →
                                            Jv_2 (()) h10))) h8) ∧
                                    ((!t1) = true →
                                      K (.bool false) h8)))
                                (fun _ h9 =>
                                  (((decide (st.2.1 < (4 : Int))) = true →
                                      CallH Try.prog id_tree_Tree_Node [.pointer t_2, .int .i64 (IntKind.wrap .i64 (st.2.1 + (1 : Int))), .int .i64 (IntKind.wrap .i64 ((2 : Int) * st_1.2.1))] (fun v_7 h11 =>
                                        ∃ t0_1 : List Int, t0_1.length = 32 ∧ ∃ t1_1 : Bool, v_7 = .tuple #[.agg ((t0_1.map (Value.int .u8) ++ [])).toArray, .bool t1_1] ∧
                                        CallH Try.prog id_tree_Tree_Node [.pointer t_2, .int .i64 (IntKind.wrap .i64 (st.2.1 + (1 : Int))), .int .i64 (IntKind.wrap .i64 ((IntKind.wrap .i64 ((2 : Int) * st_1.2.1)) + (1 : Int)))] (fun v_8 h12 =>
                                          ∃ t0_2 : List Int, t0_2.length = 32 ∧ ∃ t1_2 : Bool, v_8 = .tuple #[.agg ((t0_2.map (Value.int .u8) ++ [])).toArray, .bool t1_2] ∧
                                          CallH Try.prog id_tree_Inner [.agg ((t0_1.map (Value.int .u8) ++ [])).toArray, .agg ((t0_2.map (Value.int .u8) ++ [])).toArray] (fun v_9 h13 =>
                                            ∃ t_5 : List Int, t_5.length = 32 ∧ v_9 = .agg ((t_5.map (Value.int .u8) ++ [])).toArray ∧
                                            ∃ bv_1 ov_1 : Nat, (((!(t_5 == t0)) = false → textsA = some ⟨bv_1, ov_1, none⟩ ∧ 0 ≤ st_1.1 ∧ st_1.1 < (textsN : Nat))) ∧
                                            ∃ t_6 : ByteArray, (((!(t_5 == t0)) = false → h13.rds bv_1 (ov_1 + st_1.1.toNat * 1) 1 = some [.string t_6])) ∧
                                            ((((!(t_5 == t0)) || ((t_6.size : Int) != (65 : Int))) = true →
                                                K (.bool false) h13) ∧
                                              (((!(t_5 == t0)) || ((t_6.size : Int) != (65 : Int))) = false →
                                                Jv_1 ((IntKind.wrap .i64 (st_1.1 + (1 : Int))), (IntKind.wrap .i64 (st_1.2.1 + (1 : Int))), ()) h13))) h12) h11) h9) ∧
                                    ((decide (st.2.1 < (4 : Int))) = false →
                                      Jv_1 ((IntKind.wrap .i64 (st_1.1 + (1 : Int))), (IntKind.wrap .i64 (st_1.2.1 + (1 : Int))), ()) h9)))) h7) ∧
                            ((decide (st_1.2.1 < (shlV .i64 (1 : Int) (IntKind.wrap .u64 st.2.1)))) = false →
                              Jv (st_1.1, (IntKind.wrap .i64 (st.2.1 - (1 : Int))), ()) h7))) (st.1, (0 : Int), ()) h6) ∧
                      ((decide (st.2.1 ≥ (0 : Int))) = false →
                        CallH Try.prog id_law15_wakes [] (fun v_10 h14 =>
                          ∃ t_7 : Bool, v_10 = .bool t_7 ∧
                          K (.bool t_7) h14) h6))) ((0 : Int), (4 : Int), ()) h5))) h4) h3) h1))) h
theorem F_law15_TreeTexts_eq {lA : Option Addr} {lN lC : Nat} {K : Value → PH → Prop} {h : PH} : @Eq Prop (F_law15_TreeTexts lA lN lC K h) (denF Try.prog Try.f5 ⟨[8, 10, 12], [(21, .of [0, 1, 3, 2, 4, 5, 6, 7, 8, 9, 10, 11, 12])], [(0, ⟨[(5, .int .i64), (6, .int .i64)], [], []⟩), (2, ⟨[(5, .int .i64), (7, .int .i64)], [], []⟩)], [(38, ⟨[], [], []⟩)]⟩ [.v (.slice lA lN lC)] K h) := by
  kernel_rfl
theorem F_law15_TreeTexts_ok {lA : Option Addr} {lN lC : Nat}  {K : Value → PH → Prop} {h : PH} (hh : F_law15_TreeTexts lA lN lC K h) : CallH Try.prog id_law15_TreeTexts [.slice lA lN lC] K h :=
  denF_sound' Try.func5 (H := ⟨[8, 10, 12], [(21, .of [0, 1, 3, 2, 4, 5, 6, 7, 8, 9, 10, 11, 12])], [(0, ⟨[(5, .int .i64), (6, .int .i64)], [], []⟩), (2, ⟨[(5, .int .i64), (7, .int .i64)], [], []⟩)], [(38, ⟨[], [], []⟩)]⟩) (xs := [.v (.slice lA lN lC)]) (by kernel_rfl) (⟨rfl, trivial⟩) (den_of F_law15_TreeTexts_eq hh)

/- twinlock/twinlocklaw15.TreeAlike -/
def F_law15_TreeAlike (aheadA : Option Addr) (aheadN aheadC : Nat) (behindA : Option Addr) (behindN behindC : Nat) (K : Value → PH → Prop) (h : PH) : Prop :=
  JoinP (T := Unit) (fun Jv =>
    CallH Try.prog id_law15_Great [.slice aheadA aheadN aheadC] (fun v h2 =>
      ∃ t : Bool, v = .bool t ∧
      ((t = false →
          CallH Try.prog id_law15_Great [.slice behindA behindN behindC] (fun v_1 h3 =>
            ∃ t_1 : Bool, v_1 = .bool t_1 ∧
            ((t_1 = true →
                CallH Try.prog id_law15_wakes [] (fun v_2 h4 =>
                  ∃ t_2 : Bool, v_2 = .bool t_2 ∧
                  K (.bool t_2) h4) h3) ∧
              (t_1 = false →
                Jv (()) h3))) h2) ∧
        (t = true →
          CallH Try.prog id_law15_wakes [] (fun v_3 h5 =>
            ∃ t_3 : Bool, v_3 = .bool t_3 ∧
            K (.bool t_3) h5) h2))) h)
  (fun _ h1 =>
    CallH Try.prog id_tree_New [] (fun v_4 h6 =>
      ∃ t_4 : Option Addr, v_4 = .pointer t_4 ∧
      CallH Try.prog id_law15_plays [.pointer t_4, .slice aheadA aheadN aheadC] (fun _ h7 =>
        CallH Try.prog id_tree_Tree_All [.pointer t_4] (fun v_6 h8 =>
          ∃ (tA : Option Addr) (tN tC : Nat), v_6 = .slice tA tN tC ∧
          CallH Try.prog id_tree_Of [.slice tA tN tC] (fun v_7 h9 =>
            ∃ t0 : Option Addr, ∃ t1 : Int, v_7 = .tuple #[.pointer t0, .int .i64 t1] ∧
            ((((t1 != (0 : Int)) || (Option.isNone t0)) = true →
                K (.bool false) h9) ∧
              (((t1 != (0 : Int)) || (Option.isNone t0)) = false →
                CallH Try.prog id_tree_Tree_Twin [.pointer t_4] (fun v_8 h10 =>
                  ∃ v_9 : Option Addr, v_8 = .pointer v_9 ∧
                  CallH Try.prog id_law15_plays [.pointer v_9, .slice behindA behindN behindC] (fun _ h11 =>
                    LoopP (T := Int × Unit) (fun Jv_1 st_1 h12 =>
                      (((decide (st_1.1 ≤ (4 : Int))) = true →
                          LoopP (T := Int × Unit) (fun Jv_2 st_2 h13 =>
                            (0 ≤ (IntKind.wrap .u64 st_1.1)) ∧
                            (((decide (st_2.1 < (shlV .i64 (1 : Int) (IntKind.wrap .u64 st_1.1)))) = true →
                                CallH Try.prog id_tree_Tree_Node [.pointer t_4, .int .i64 st_1.1, .int .i64 st_2.1] (fun v_11 h14 =>
                                  ∃ t0_1 : List Int, t0_1.length = 32 ∧ ∃ t1_1 : Bool, v_11 = .tuple #[.agg ((t0_1.map (Value.int .u8) ++ [])).toArray, .bool t1_1] ∧
                                  CallH Try.prog id_tree_Tree_Node [.pointer t0, .int .i64 st_1.1, .int .i64 st_2.1] (fun v_12 h15 =>
                                    ∃ t0_2 : List Int, t0_2.length = 32 ∧ ∃ t1_2 : Bool, v_12 = .tuple #[.agg ((t0_2.map (Value.int .u8) ++ [])).toArray, .bool t1_2] ∧
                                    (((((!(t0_1 == t0_2)) || (!t1_1)) || (!t1_2)) = true →
                                        K (.bool false) h15) ∧
                                      ((((!(t0_1 == t0_2)) || (!t1_1)) || (!t1_2)) = false →
                                        Jv_2 ((IntKind.wrap .i64 (st_2.1 + (1 : Int))), ()) h15))) h14) h13) ∧
                              ((decide (st_2.1 < (shlV .i64 (1 : Int) (IntKind.wrap .u64 st_1.1)))) = false →
                                Jv_1 ((IntKind.wrap .i64 (st_1.1 + (1 : Int))), ()) h13))) ((0 : Int), ()) h12) ∧
                        ((decide (st_1.1 ≤ (4 : Int))) = false →
                          CallH Try.prog id_law15_plays [.pointer t0, .slice behindA behindN behindC] (fun _ h16 =>
                            CallH Try.prog id_tree_Tree_Root [.pointer t0] (fun v_14 h17 =>
                              ∃ t_5 : List Int, t_5.length = 32 ∧ v_14 = .agg ((t_5.map (Value.int .u8) ++ [])).toArray ∧
                              CallH Try.prog id_tree_Tree_Root [.pointer v_9] (fun v_15 h18 =>
                                ∃ t_6 : List Int, t_6.length = 32 ∧ v_15 = .agg ((t_6.map (Value.int .u8) ++ [])).toArray ∧
                                (((t_5 == t_6) = true →
                                    CallH Try.prog id_tree_Tree_All [.pointer t0] (fun v_16 h19 =>
                                      ∃ (tA_1 : Option Addr) (tN_1 tC_1 : Nat), v_16 = .slice tA_1 tN_1 tC_1 ∧
                                      CallH Try.prog id_tree_Tree_All [.pointer v_9] (fun v_17 h20 =>
                                        ∃ (tA_2 : Option Addr) (tN_2 tC_2 : Nat), v_17 = .slice tA_2 tN_2 tC_2 ∧
                                        CallH Try.prog id_ref13_Same [.slice tA_1 tN_1 tC_1, .slice tA_2 tN_2 tC_2] (fun v_18 h21 =>
                                          ∃ t_7 : Bool, v_18 = .bool t_7 ∧
                                          ((t_7 = true →
                                              CallH Try.prog id_law15_wakes [] (fun v_19 h22 =>
                                                ∃ t_8 : Bool, v_19 = .bool t_8 ∧
                                                K (.bool t_8) h22) h21) ∧
                                            (t_7 = false →
                                              K (.bool false) h21))) h20) h19) h18) ∧
                                  ((t_5 == t_6) = false →
                                    K (.bool false) h18))) h17) h16) h12))) ((0 : Int), ()) h11) h10) h9))) h8) h7) h6) h1)
theorem F_law15_TreeAlike_eq {aheadA : Option Addr} {aheadN aheadC : Nat} {behindA : Option Addr} {behindN behindC : Nat} {K : Value → PH → Prop} {h : PH} : @Eq Prop (F_law15_TreeAlike aheadA aheadN aheadC behindA behindN behindC K h) (denF Try.prog Try.f6 ⟨[11, 13], [], [(0, ⟨[(9, .int .i64)], [], []⟩), (2, ⟨[(10, .int .i64)], [], []⟩)], [(8, ⟨[], [], []⟩)]⟩ [.v (.slice aheadA aheadN aheadC), .v (.slice behindA behindN behindC)] K h) := by
  kernel_rfl
theorem F_law15_TreeAlike_ok {aheadA : Option Addr} {aheadN aheadC : Nat} {behindA : Option Addr} {behindN behindC : Nat}  {K : Value → PH → Prop} {h : PH} (hh : F_law15_TreeAlike aheadA aheadN aheadC behindA behindN behindC K h) : CallH Try.prog id_law15_TreeAlike [.slice aheadA aheadN aheadC, .slice behindA behindN behindC] K h :=
  denF_sound' Try.func6 (H := ⟨[11, 13], [], [(0, ⟨[(9, .int .i64)], [], []⟩), (2, ⟨[(10, .int .i64)], [], []⟩)], [(8, ⟨[], [], []⟩)]⟩) (xs := [.v (.slice aheadA aheadN aheadC), .v (.slice behindA behindN behindC)]) (by kernel_rfl) (⟨rfl, rfl, trivial⟩) (den_of F_law15_TreeAlike_eq hh)

/- twinlock/twinlocklaw15.TreeQuiet -/
set_option maxRecDepth 100000 in
def F_law15_TreeQuiet (aheadA : Option Addr) (aheadN aheadC : Nat) (a0 : Int) (a1 : ByteArray) (a2 : ByteArray) (K : Value → PH → Prop) (h : PH) : Prop :=
  JoinP (T := Unit) (fun Jv =>
    CallH Try.prog id_law15_Great [.slice aheadA aheadN aheadC] (fun v h2 =>
      ∃ t : Bool, v = .bool t ∧
      ((t = false →
          newH h2 (.cells #[.int .u8 a0, .string a1, .string a2] T_law15_Act (0, 0)) fun bv h3 =>
          CallH Try.prog id_law15_Great [.slice (some ⟨bv, 0, none⟩) 1 1] (fun v_1 h4 =>
            ∃ t_1 : Bool, v_1 = .bool t_1 ∧
            ((t_1 = true →
                CallH Try.prog id_law15_wakes [] (fun v_2 h5 =>
                  ∃ t_2 : Bool, v_2 = .bool t_2 ∧
                  K (.bool t_2) h5) h4) ∧
              (t_1 = false →
                Jv (()) h4))) h3) ∧
        (t = true →
          CallH Try.prog id_law15_wakes [] (fun v_3 h6 =>
            ∃ t_3 : Bool, v_3 = .bool t_3 ∧
            K (.bool t_3) h6) h2))) h)
  (fun _ h1 =>
    CallH Try.prog id_tree_New [] (fun v_4 h7 =>
      ∃ t_4 : Option Addr, v_4 = .pointer t_4 ∧
      CallH Try.prog id_law15_plays [.pointer t_4, .slice aheadA aheadN aheadC] (fun _ h8 =>
        CallH Try.prog id_tree_Tree_Twin [.pointer t_4] (fun v_6 h9 =>
          ∃ u : Option Addr, v_6 = .pointer u ∧
          JoinP (T := Unit) (fun Jv_1 =>
            (((a0 == (0 : Int)) = true →
                CallH Try.prog id_tree_Tree_Set [.pointer t_4, .string a1, .string a2] (fun v_7 h11 =>
                  ∃ e : Int, v_7 = .int .i64 e ∧
                  (((e == (0 : Int)) = true →
                      CallH Try.prog id_tree_Tree_Root [.pointer t_4] (fun v_8 h12 =>
                        ∃ r : List Int, r.length = 32 ∧ v_8 = .agg ((r.map (Value.int .u8) ++ [])).toArray ∧
                        CallH Try.prog id_tree_Tree_Set [.pointer t_4, .string a1, .string a2] (fun v_9 h13 =>
                          ∃ f : Int, v_9 = .int .i64 f ∧
                          (((f == (0 : Int)) = true →
                              CallH Try.prog id_tree_Tree_Root [.pointer t_4] (fun v_10 h14 =>
                                ∃ t_5 : List Int, t_5.length = 32 ∧ v_10 = .agg ((t_5.map (Value.int .u8) ++ [])).toArray ∧
                                (((t_5 == r) = true →
                                    CallH Try.prog id_tree_Tree_Drop [.pointer t_4, .string a1] (fun v_11 h15 =>
                                      ∃ t_6 : Bool, v_11 = .bool t_6 ∧
                                      ((t_6 = true →
                                          CallH Try.prog id_law15_wakes [] (fun v_12 h16 =>
                                            ∃ t_7 : Bool, v_12 = .bool t_7 ∧
                                            K (.bool t_7) h16) h15) ∧
                                        (t_6 = false →
                                          K (.bool false) h15))) h14) ∧
                                  ((t_5 == r) = false →
                                    K (.bool false) h14))) h13) ∧
                            ((f == (0 : Int)) = false →
                              K (.bool false) h13))) h12) h11) ∧
                    ((e == (0 : Int)) = false →
                      Jv_1 (()) h11))) h9) ∧
              ((a0 == (0 : Int)) = false →
                CallH Try.prog id_tree_Tree_Drop [.pointer t_4, .string a1] (fun v_13 h17 =>
                  ∃ t_8 : Bool, v_13 = .bool t_8 ∧
                  ((t_8 = true →
                      CallH Try.prog id_tree_Tree_Drop [.pointer t_4, .string a1] (fun v_14 h18 =>
                        ∃ t_9 : Bool, v_14 = .bool t_9 ∧
                        (((!t_9) = true →
                            CallH Try.prog id_tree_Tree_All [.pointer t_4] (fun v_15 h19 =>
                              ∃ (tA : Option Addr) (tN tC : Nat), v_15 = .slice tA tN tC ∧
                              CallH Try.prog id_tree_Tree_All [.pointer u] (fun v_16 h20 =>
                                ∃ (tA_1 : Option Addr) (tN_1 tC_1 : Nat), v_16 = .slice tA_1 tN_1 tC_1 ∧
                                ((((IntKind.wrap .i64 (((tN : Nat) : Int) + (1 : Int))) == ((tN_1 : Nat) : Int)) = true →
                                    CallH Try.prog id_law15_wakes [] (fun v_17 h21 =>
                                      ∃ t_10 : Bool, v_17 = .bool t_10 ∧
                                      K (.bool t_10) h21) h20) ∧
                                  (((IntKind.wrap .i64 (((tN : Nat) : Int) + (1 : Int))) == ((tN_1 : Nat) : Int)) = false →
                                    K (.bool false) h20))) h19) h18) ∧
                          ((!t_9) = false →
                            K (.bool false) h18))) h17) ∧
                    (t_8 = false →
                      Jv_1 (()) h17))) h9)))
          (fun _ h10 =>
            CallH Try.prog id_tree_Tree_Root [.pointer t_4] (fun v_18 h22 =>
              ∃ t_11 : List Int, t_11.length = 32 ∧ v_18 = .agg ((t_11.map (Value.int .u8) ++ [])).toArray ∧
              CallH Try.prog id_tree_Tree_Root [.pointer u] (fun v_19 h23 =>
                ∃ t_12 : List Int, t_12.length = 32 ∧ v_19 = .agg ((t_12.map (Value.int .u8) ++ [])).toArray ∧
                (((t_11 == t_12) = true →
                    CallH Try.prog id_tree_Tree_All [.pointer t_4] (fun v_20 h24 =>
                      ∃ (tA_2 : Option Addr) (tN_2 tC_2 : Nat), v_20 = .slice tA_2 tN_2 tC_2 ∧
                      CallH Try.prog id_tree_Tree_All [.pointer u] (fun v_21 h25 =>
                        ∃ (tA_3 : Option Addr) (tN_3 tC_3 : Nat), v_21 = .slice tA_3 tN_3 tC_3 ∧
                        CallH Try.prog id_ref13_Same [.slice tA_2 tN_2 tC_2, .slice tA_3 tN_3 tC_3] (fun v_22 h26 =>
                          ∃ t_13 : Bool, v_22 = .bool t_13 ∧
                          ((t_13 = true →
                              CallH Try.prog id_tree_Tree_Texts [.pointer t_4] (fun v_23 h27 =>
                                ∃ (tA_4 : Option Addr) (tN_4 tC_4 : Nat), v_23 = .slice tA_4 tN_4 tC_4 ∧
                                CallH Try.prog id_tree_Tree_Texts [.pointer u] (fun v_24 h28 =>
                                  ∃ (tA_5 : Option Addr) (tN_5 tC_5 : Nat), v_24 = .slice tA_5 tN_5 tC_5 ∧
                                  CallH Try.prog id_law13_SameTexts [.slice tA_4 tN_4 tC_4, .slice tA_5 tN_5 tC_5] (fun v_25 h29 =>
                                    ∃ t_14 : Bool, v_25 = .bool t_14 ∧
                                    ((t_14 = true →
                                        CallH Try.prog id_law15_wakes [] (fun v_26 h30 =>
                                          ∃ t_15 : Bool, v_26 = .bool t_15 ∧
                                          K (.bool t_15) h30) h29) ∧
                                      (t_14 = false →
                                        K (.bool false) h29))) h28) h27) h26) ∧
                            (t_13 = false →
                              K (.bool false) h26))) h25) h24) h23) ∧
                  ((t_11 == t_12) = false →
                    K (.bool false) h23))) h22) h10)) h8) h7) h1)
set_option maxRecDepth 100000 in
theorem F_law15_TreeQuiet_eq {aheadA : Option Addr} {aheadN aheadC : Nat} {a0 : Int} {a1 : ByteArray} {a2 : ByteArray} {K : Value → PH → Prop} {h : PH} : @Eq Prop (F_law15_TreeQuiet aheadA aheadN aheadC a0 a1 a2 K h) (denF Try.prog Try.f7 ⟨[3, 8], [(11, .of [0, 1, 2, 3, 5, 4, 6, 7, 8, 9, 10, 11, 12, 13, 14, 15, 16, 17])], [], [(8, ⟨[], [], []⟩), (30, ⟨[], [], []⟩)]⟩ [.v (.slice aheadA aheadN aheadC), .agg [.one (.int .u8 a0), .one (.string a1), .one (.string a2)]] K h) := by
  kernel_rfl
theorem F_law15_TreeQuiet_ok {aheadA : Option Addr} {aheadN aheadC : Nat} {a0 : Int} {a1 : ByteArray} {a2 : ByteArray}  {K : Value → PH → Prop} {h : PH} (hh : F_law15_TreeQuiet aheadA aheadN aheadC a0 a1 a2 K h) : CallH Try.prog id_law15_TreeQuiet [.slice aheadA aheadN aheadC, .agg #[.int .u8 a0, .string a1, .string a2]] K h :=
  denF_sound' Try.func7 (H := ⟨[3, 8], [(11, .of [0, 1, 2, 3, 5, 4, 6, 7, 8, 9, 10, 11, 12, 13, 14, 15, 16, 17])], [], [(8, ⟨[], [], []⟩), (30, ⟨[], [], []⟩)]⟩) (xs := [.v (.slice aheadA aheadN aheadC), .agg [.one (.int .u8 a0), .one (.string a1), .one (.string a2)]]) (by kernel_rfl) (⟨rfl, ⟨rfl, rfl, rfl, trivial⟩, trivial⟩) (den_of F_law15_TreeQuiet_eq hh)

/- twinlock/twinlocklaw15.TreeNobody -/
def F_law15_TreeNobody (p : ByteArray) (v : ByteArray) (level : Int) (i : Int) (K : Value → PH → Prop) (h : PH) : Prop :=
  ((((decide ((p.size : Int) > (1000 : Int))) || (decide ((v.size : Int) > (1000 : Int)))) = true →
      CallH Try.prog id_law15_wakes [] (fun v_1 h1 =>
        ∃ t : Bool, v_1 = .bool t ∧
        K (.bool t) h1) h) ∧
    (((decide ((p.size : Int) > (1000 : Int))) || (decide ((v.size : Int) > (1000 : Int)))) = false →
      CallH Try.prog id_tree_Tree_Node [.pointer none, .int .i64 level, .int .i64 i] (fun v_2 h2 =>
        ∃ t0 : List Int, t0.length = 32 ∧ ∃ t1 : Bool, v_2 = .tuple #[.agg ((t0.map (Value.int .u8) ++ [])).toArray, .bool t1] ∧
        CallH Try.prog id_tree_Tree_Set [.pointer none, .string p, .string v] (fun v_3 h3 =>
          ∃ t_1 : Int, v_3 = .int .i64 t_1 ∧
          (((t_1 == (2 : Int)) = true →
              CallH Try.prog id_tree_Tree_Drop [.pointer none, .string p] (fun v_4 h4 =>
                ∃ t_2 : Bool, v_4 = .bool t_2 ∧
                (((!t_2) = true →
                    CallH Try.prog id_tree_Tree_Root [.pointer none] (fun v_5 h5 =>
                      ∃ t_3 : List Int, t_3.length = 32 ∧ v_5 = .agg ((t_3.map (Value.int .u8) ++ [])).toArray ∧
                      (((t_3 == (List.replicate 32 0)) = true →
                          ((((t0 == (List.replicate 32 0)) && (!t1)) = true →
                              CallH Try.prog id_tree_Tree_Pairs [.pointer none, .int .i64 i] (fun v_6 h6 =>
                                ∃ (tA : Option Addr) (tN tC : Nat), v_6 = .slice tA tN tC ∧
                                (((((tN : Nat) : Int) == (0 : Int)) = true →
                                    CallH Try.prog id_tree_Tree_All [.pointer none] (fun v_7 h7 =>
                                      ∃ (tA_1 : Option Addr) (tN_1 tC_1 : Nat), v_7 = .slice tA_1 tN_1 tC_1 ∧
                                      (((((tN_1 : Nat) : Int) == (0 : Int)) = true →
                                          CallH Try.prog id_tree_Tree_Texts [.pointer none] (fun v_8 h8 =>
                                            ∃ (tA_2 : Option Addr) (tN_2 tC_2 : Nat), v_8 = .slice tA_2 tN_2 tC_2 ∧
                                            (((((tN_2 : Nat) : Int) == (0 : Int)) = true →
                                                CallH Try.prog id_tree_Tree_Twin [.pointer none] (fun v_9 h9 =>
                                                  ∃ t_4 : Option Addr, v_9 = .pointer t_4 ∧
                                                  (((Option.isNone t_4) = true →
                                                      CallH Try.prog id_law15_wakes [] (fun v_10 h10 =>
                                                        ∃ t_5 : Bool, v_10 = .bool t_5 ∧
                                                        K (.bool t_5) h10) h9) ∧
                                                    ((Option.isNone t_4) = false →
                                                      K (.bool false) h9))) h8) ∧
                                              ((((tN_2 : Nat) : Int) == (0 : Int)) = false →
                                                K (.bool false) h8))) h7) ∧
                                        ((((tN_1 : Nat) : Int) == (0 : Int)) = false →
                                          K (.bool false) h7))) h6) ∧
                                  ((((tN : Nat) : Int) == (0 : Int)) = false →
                                    K (.bool false) h6))) h5) ∧
                            (((t0 == (List.replicate 32 0)) && (!t1)) = false →
                              K (.bool false) h5))) ∧
                        ((t_3 == (List.replicate 32 0)) = false →
                          K (.bool false) h5))) h4) ∧
                  ((!t_2) = false →
                    K (.bool false) h4))) h3) ∧
            ((t_1 == (2 : Int)) = false →
              K (.bool false) h3))) h2) h))
theorem F_law15_TreeNobody_eq {p : ByteArray} {v : ByteArray} {level : Int} {i : Int} {K : Value → PH → Prop} {h : PH} : @Eq Prop (F_law15_TreeNobody p v level i K h) (denF Try.prog Try.f8 ⟨[10], [], [], []⟩ [.v (.string p), .v (.string v), .v (.int .i64 level), .v (.int .i64 i)] K h) := by
  kernel_rfl
theorem F_law15_TreeNobody_ok {p : ByteArray} {v : ByteArray} {level : Int} {i : Int}  {K : Value → PH → Prop} {h : PH} (hh : F_law15_TreeNobody p v level i K h) : CallH Try.prog id_law15_TreeNobody [.string p, .string v, .int .i64 level, .int .i64 i] K h :=
  denF_sound' Try.func8 (H := ⟨[10], [], [], []⟩) (xs := [.v (.string p), .v (.string v), .v (.int .i64 level), .v (.int .i64 i)]) (by kernel_rfl) (⟨rfl, rfl, rfl, rfl, trivial⟩) (den_of F_law15_TreeNobody_eq hh)

/- twinlock/twinlocklaw15.TreeRoots -/
def F_law15_TreeRoots (aA : Option Addr) (aN aC : Nat) (bA : Option Addr) (bN bC : Nat) (K : Value → PH → Prop) (h : PH) : Prop :=
  JoinP (T := Unit) (fun Jv =>
    CallH Try.prog id_law15_Great [.slice aA aN aC] (fun v h2 =>
      ∃ t : Bool, v = .bool t ∧
      ((t = false →
          CallH Try.prog id_law15_Great [.slice bA bN bC] (fun v_1 h3 =>
            ∃ t_1 : Bool, v_1 = .bool t_1 ∧
            ((t_1 = true →
                CallH Try.prog id_law15_wakes [] (fun v_2 h4 =>
                  ∃ t_2 : Bool, v_2 = .bool t_2 ∧
                  K (.bool t_2) h4) h3) ∧
              (t_1 = false →
                Jv (()) h3))) h2) ∧
        (t = true →
          CallH Try.prog id_law15_wakes [] (fun v_3 h5 =>
            ∃ t_3 : Bool, v_3 = .bool t_3 ∧
            K (.bool t_3) h5) h2))) h)
  (fun _ h1 =>
    CallH Try.prog id_tree_New [] (fun v_4 h6 =>
      ∃ t_4 : Option Addr, v_4 = .pointer t_4 ∧
      CallH Try.prog id_tree_New [] (fun v_5 h7 =>
        ∃ u : Option Addr, v_5 = .pointer u ∧
        CallH Try.prog id_law15_plays [.pointer t_4, .slice aA aN aC] (fun _ h8 =>
          CallH Try.prog id_law15_plays [.pointer u, .slice bA bN bC] (fun _ h9 =>
            CallH Try.prog id_tree_Tree_All [.pointer t_4] (fun v_8 h10 =>
              ∃ (tA : Option Addr) (tN tC : Nat), v_8 = .slice tA tN tC ∧
              CallH Try.prog id_tree_Tree_All [.pointer u] (fun v_9 h11 =>
                ∃ (tA_1 : Option Addr) (tN_1 tC_1 : Nat), v_9 = .slice tA_1 tN_1 tC_1 ∧
                CallH Try.prog id_ref13_Same [.slice tA tN tC, .slice tA_1 tN_1 tC_1] (fun v_10 h12 =>
                  ∃ same : Bool, v_10 = .bool same ∧
                  CallH Try.prog id_tree_Tree_Root [.pointer t_4] (fun v_11 h13 =>
                    ∃ t_5 : List Int, t_5.length = 32 ∧ v_11 = .agg ((t_5.map (Value.int .u8) ++ [])).toArray ∧
                    CallH Try.prog id_tree_Tree_Root [.pointer u] (fun v_12 h14 =>
                      ∃ t_6 : List Int, t_6.length = 32 ∧ v_12 = .agg ((t_6.map (Value.int .u8) ++ [])).toArray ∧
                      (((same == (t_5 == t_6)) = true →
                          CallH Try.prog id_law15_wakes [] (fun v_13 h15 =>
                            ∃ t_7 : Bool, v_13 = .bool t_7 ∧
                            K (.bool t_7) h15) h14) ∧
                        ((same == (t_5 == t_6)) = false →
                          (((!same) = true →
                              CallH Try.prog id_tree_Tree_Texts [.pointer t_4] (fun v_14 h16 =>
                                ∃ (tA_2 : Option Addr) (tN_2 tC_2 : Nat), v_14 = .slice tA_2 tN_2 tC_2 ∧
                                CallH Try.prog id_tree_Tree_Texts [.pointer u] (fun v_15 h17 =>
                                  ∃ (tA_3 : Option Addr) (tN_3 tC_3 : Nat), v_15 = .slice tA_3 tN_3 tC_3 ∧
                                  ∃ vs : List Value, srcH h17 tA_3 (tN_3 * 1) vs ∧
                                  appH 9 1 16 [.string (⟨#[]⟩ : ByteArray)] tA_2 tN_2 tC_2 tN_3 vs (fun tA_4 tN_4 tC_4 h18 =>
                                    CallH Try.prog id_ref15_Collides [.slice tA_4 tN_4 tC_4] (fun v_16 h19 =>
                                      ∃ t_8 : Bool, v_16 = .bool t_8 ∧
                                      ((t_8 = true →
                                          CallH Try.prog id_law15_wakes [] (fun v_17 h20 =>
                                            ∃ t_9 : Bool, v_17 = .bool t_9 ∧
                                            K (.bool t_9) h20) h19) ∧
                                        (t_8 = false →
                                          K (.bool false) h19))) h18) h17) h16) h14) ∧
                            ((!same) = false →
                              K (.bool false) h14))))) h13) h12) h11) h10) h9) h8) h7) h6) h1)
theorem F_law15_TreeRoots_eq {aA : Option Addr} {aN aC : Nat} {bA : Option Addr} {bN bC : Nat} {K : Value → PH → Prop} {h : PH} : @Eq Prop (F_law15_TreeRoots aA aN aC bA bN bC K h) (denF Try.prog Try.f9 ⟨[], [], [], [(8, ⟨[], [], []⟩)]⟩ [.v (.slice aA aN aC), .v (.slice bA bN bC)] K h) := by
  kernel_rfl
theorem F_law15_TreeRoots_ok {aA : Option Addr} {aN aC : Nat} {bA : Option Addr} {bN bC : Nat}  {K : Value → PH → Prop} {h : PH} (hh : F_law15_TreeRoots aA aN aC bA bN bC K h) : CallH Try.prog id_law15_TreeRoots [.slice aA aN aC, .slice bA bN bC] K h :=
  denF_sound' Try.func9 (H := ⟨[], [], [], [(8, ⟨[], [], []⟩)]⟩) (xs := [.v (.slice aA aN aC), .v (.slice bA bN bC)]) (by kernel_rfl) (⟨rfl, rfl, trivial⟩) (den_of F_law15_TreeRoots_eq hh)

/- twinlock/twinlocklaw15.TreeKnown -/
set_option maxRecDepth 100000 in
def F_law15_TreeKnown  (K : Value → PH → Prop) (h : PH) : Prop :=
  CallH Try.prog id_tree_New [] (fun v h1 =>
    ∃ t : Option Addr, v = .pointer t ∧
    CallH Try.prog id_tree_Tree_Node [.pointer t, .int .i64 (4 : Int), .int .i64 (0 : Int)] (fun v_1 h2 =>
      ∃ t0 : List Int, t0.length = 32 ∧ ∃ t1 : Bool, v_1 = .tuple #[.agg ((t0.map (Value.int .u8) ++ [])).toArray, .bool t1] ∧
      CallH Try.prog id_tree_Tree_Node [.pointer t, .int .i64 (5 : Int), .int .i64 (0 : Int)] (fun v_2 h3 =>
        ∃ t0_1 : List Int, t0_1.length = 32 ∧ ∃ t1_1 : Bool, v_2 = .tuple #[.agg ((t0_1.map (Value.int .u8) ++ [])).toArray, .bool t1_1] ∧
        CallH Try.prog id_tree_Tree_Node [.pointer t, .int .i64 (4 : Int), .int .i64 (16 : Int)] (fun v_3 h4 =>
          ∃ t0_2 : List Int, t0_2.length = 32 ∧ ∃ t1_2 : Bool, v_3 = .tuple #[.agg ((t0_2.map (Value.int .u8) ++ [])).toArray, .bool t1_2] ∧
          CallH Try.prog id_tree_Tree_Node [.pointer t, .int .i64 (0 : Int), .int .i64 (1 : Int)] (fun v_4 h5 =>
            ∃ t0_3 : List Int, t0_3.length = 32 ∧ ∃ t1_3 : Bool, v_4 = .tuple #[.agg ((t0_3.map (Value.int .u8) ++ [])).toArray, .bool t1_3] ∧
            CallH Try.prog id_tree_Tree_Node [.pointer t, .int .i64 (-1 : Int), .int .i64 (0 : Int)] (fun v_5 h6 =>
              ∃ t0_4 : List Int, t0_4.length = 32 ∧ ∃ t1_4 : Bool, v_5 = .tuple #[.agg ((t0_4.map (Value.int .u8) ++ [])).toArray, .bool t1_4] ∧
              JoinP (T := Bool × Unit) (fun Jv =>
                ((t1 = true →
                    CallH Try.prog id_tree_Leaf [.string (⟨#[0]⟩ : ByteArray)] (fun v_6 h8 =>
                      ∃ t_1 : List Int, t_1.length = 32 ∧ v_6 = .agg ((t_1.map (Value.int .u8) ++ [])).toArray ∧
                      (((((((t0 == t_1) && (!t1_1)) && (!t1_2)) && (!t1_3)) && (!t1_4)) = true →
                          CallH Try.prog id_tree_Tree_Pairs [.pointer t, .int .i64 (0 : Int)] (fun v_7 h9 =>
                            ∃ (tA : Option Addr) (tN tC : Nat), v_7 = .slice tA tN tC ∧
                            (((((tN : Nat) : Int) == (0 : Int)) = true →
                                CallH Try.prog id_tree_Tree_Texts [.pointer t] (fun v_8 h10 =>
                                  ∃ (tA_1 : Option Addr) (tN_1 tC_1 : Nat), v_8 = .slice tA_1 tN_1 tC_1 ∧
                                  Jv ((((tN_1 : Nat) : Int) == (31 : Int)), ()) h10) h9) ∧
                              ((((tN : Nat) : Int) == (0 : Int)) = false →
                                Jv (false, ()) h9))) h8) ∧
                        ((((((t0 == t_1) && (!t1_1)) && (!t1_2)) && (!t1_3)) && (!t1_4)) = false →
                          Jv (false, ()) h8))) h6) ∧
                  (t1 = false →
                    Jv (false, ()) h6)))
              (fun st h7 =>
                CallH Try.prog id_tree_Tree_Root [.pointer t] (fun v_9 h11 =>
                  ∃ root : List Int, root.length = 32 ∧ v_9 = .agg ((root.map (Value.int .u8) ++ [])).toArray ∧
                  CallH Try.prog id_tree_Tree_Set [.pointer t, .string (⟨#[97, 112, 112, 47, 97]⟩ : ByteArray), .string (⟨#[49]⟩ : ByteArray)] (fun v_10 h12 =>
                    ∃ e : Int, v_10 = .int .i64 e ∧
                    CallH Try.prog id_tree_Tree_Set [.pointer t, .string (⟨#[97, 112, 112]⟩ : ByteArray), .string (⟨#[49]⟩ : ByteArray)] (fun v_11 h13 =>
                      ∃ f : Int, v_11 = .int .i64 f ∧
                      CallH Try.prog id_tree_Tree_Set [.pointer t, .string (⟨#[97, 112, 112, 47, 97]⟩ : ByteArray), .string (⟨#[48, 49, 50, 51, 52, 53, 54, 55, 56, 57, 48, 49, 50, 51, 52, 53, 54, 55, 56, 57, 48, 49, 50, 51, 52, 53, 54, 55, 56, 57, 48, 49, 50]⟩ : ByteArray)] (fun v_12 h14 =>
                        ∃ g : Int, v_12 = .int .i64 g ∧
                        CallH Try.prog id_tree_Tree_Root [.pointer t] (fun v_13 h15 =>
                          ∃ t_2 : List Int, t_2.length = 32 ∧ v_13 = .agg ((t_2.map (Value.int .u8) ++ [])).toArray ∧
                          JoinP (T := Bool × Unit) (fun Jv_1 =>
                            CallH Try.prog id_tree_Tree_Drop [.pointer t, .string (⟨#[97, 112, 112, 47, 97]⟩ : ByteArray)] (fun v_14 h17 =>
                              ∃ t_3 : Bool, v_14 = .bool t_3 ∧
                              ((t_3 = true →
                                  CallH Try.prog id_tree_Tree_Drop [.pointer t, .string (⟨#[97, 112, 112, 47, 97]⟩ : ByteArray)] (fun v_15 h18 =>
                                    ∃ t_4 : Bool, v_15 = .bool t_4 ∧
                                    (((!t_4) = true →
                                        CallH Try.prog id_tree_Tree_Root [.pointer t] (fun v_16 h19 =>
                                          ∃ t_5 : List Int, t_5.length = 32 ∧ v_16 = .agg ((t_5.map (Value.int .u8) ++ [])).toArray ∧
                                          Jv_1 ((t_5 == root), ()) h19) h18) ∧
                                      ((!t_4) = false →
                                        Jv_1 (false, ()) h18))) h17) ∧
                                (t_3 = false →
                                  Jv_1 (false, ()) h17))) h15)
                          (fun st_1 h16 =>
                            newH h16 (.cells #[.string (⟨#[97, 112, 112, 47, 98]⟩ : ByteArray), .string (⟨#[]⟩ : ByteArray), .string (⟨#[97, 112, 112, 47, 97]⟩ : ByteArray), .string (⟨#[]⟩ : ByteArray)] T_api_Pair (0, 0)) fun bv h20 =>
                            CallH Try.prog id_tree_Of [.slice (some ⟨bv, 0, none⟩) 2 2] (fun v_17 h21 =>
                              ∃ t0_5 : Option Addr, ∃ t1_5 : Int, v_17 = .tuple #[.pointer t0_5, .int .i64 t1_5] ∧
                              LoopP (T := Int × Unit) (fun Jv_2 st_2 h22 =>
                                (((decide (st_2.1 < (48 : Int))) = true →
                                    newH h22 (.cells #[.int .u8 (IntKind.wrap .u8 (IntKind.wrap .i64 ((97 : Int) + (st_2.1.tmod (24 : Int))))), .int .u8 (IntKind.wrap .u8 (IntKind.wrap .i64 ((97 : Int) + (IntKind.wrap .i64 (st_2.1.tdiv (24 : Int))))))] 5 (0, 0)) fun bv_1 h23 =>
                                    ∃ t_6 : ByteArray, strH h23 (some ⟨bv_1, 0, none⟩ : Option Addr) 2 t_6 ∧
                                    (((ByteArray.size (⟨#[97, 112, 112, 47]⟩ : ByteArray) + ByteArray.size t_6 : Nat) : Int) ≤ 9223372036854775807) ∧
                                    CallH Try.prog id_tree_Tree_Set [.pointer t, .string ((⟨#[97, 112, 112, 47]⟩ : ByteArray) ++ t_6), .string (⟨#[49]⟩ : ByteArray)] (fun v_18 h24 =>
                                      ∃ t_7 : Int, v_18 = .int .i64 t_7 ∧
                                      (((t_7 != (0 : Int)) = true →
                                          K (.bool false) h24) ∧
                                        ((t_7 != (0 : Int)) = false →
                                          Jv_2 ((IntKind.wrap .i64 (st_2.1 + (1 : Int))), ()) h24))) h23) ∧
                                  ((decide (st_2.1 < (48 : Int))) = false →
                                    CallH Try.prog id_tree_Tree_Set [.pointer t, .string (⟨#[97, 112, 112, 47, 122, 122]⟩ : ByteArray), .string (⟨#[49]⟩ : ByteArray)] (fun v_19 h25 =>
                                      ∃ j : Int, v_19 = .int .i64 j ∧
                                      CallH Try.prog id_tree_Tree_Set [.pointer t, .string (⟨#[97, 112, 112, 47, 97, 97]⟩ : ByteArray), .string (⟨#[50]⟩ : ByteArray)] (fun v_20 h26 =>
                                        ∃ k : Int, v_20 = .int .i64 k ∧
                                        ((((((((((st.1 && (e == (0 : Int))) && (f == (20 : Int))) && (g == (3 : Int))) && (!(t_2 == root))) && st_1.1) && (t1_5 == (1 : Int))) && (j == (6 : Int))) && (k == (0 : Int))) = true →
                                            CallH Try.prog id_tree_Tree_All [.pointer t] (fun v_21 h27 =>
                                              ∃ (tA_2 : Option Addr) (tN_2 tC_2 : Nat), v_21 = .slice tA_2 tN_2 tC_2 ∧
                                              (((((tN_2 : Nat) : Int) == (48 : Int)) = true →
                                                  CallH Try.prog id_tree_Inner [.agg ((t0.map (Value.int .u8) ++ [])).toArray, .agg ((root.map (Value.int .u8) ++ [])).toArray] (fun v_22 h28 =>
                                                    ∃ t_8 : List Int, t_8.length = 32 ∧ v_22 = .agg ((t_8.map (Value.int .u8) ++ [])).toArray ∧
                                                    CallH Try.prog id_tree_Inner [.agg ((root.map (Value.int .u8) ++ [])).toArray, .agg ((t0.map (Value.int .u8) ++ [])).toArray] (fun v_23 h29 =>
                                                      ∃ t_9 : List Int, t_9.length = 32 ∧ v_23 = .agg ((t_9.map (Value.int .u8) ++ [])).toArray ∧
                                                      (((!(t_8 == t_9)) = true →
                                                          CallH Try.prog id_law15_wakes [] (fun v_24 h30 =>
                                                            ∃ t_10 : Bool, v_24 = .bool t_10 ∧
                                                            K (.bool t_10) h30) h29) ∧
                                                        ((!(t_8 == t_9)) = false →
                                                          K (.bool false) h29))) h28) h27) ∧
                                                ((((tN_2 : Nat) : Int) == (48 : Int)) = false →
                                                  K (.bool false) h27))) h26) ∧
                                          (((((((((st.1 && (e == (0 : Int))) && (f == (20 : Int))) && (g == (3 : Int))) && (!(t_2 == root))) && st_1.1) && (t1_5 == (1 : Int))) && (j == (6 : Int))) && (k == (0 : Int))) = false →
                                            K (.bool false) h26))) h25) h22))) ((0 : Int), ()) h21) h20)) h14) h13) h12) h11) h7)) h5) h4) h3) h2) h1) h
set_option maxRecDepth 100000 in
theorem F_law15_TreeKnown_eq  {K : Value → PH → Prop} {h : PH} : @Eq Prop (F_law15_TreeKnown  K h) (denF Try.prog Try.f10 ⟨[2, 4, 6, 8, 10, 13], [(12, .of [0, 2, 1, 3, 4]), (13, .of [0, 1, 2, 3, 4, 5, 6, 7, 8, 10, 9, 11, 12, 13]), (22, .of [0, 1, 2, 3, 4, 5, 6, 7, 8, 9, 10, 11, 12, 13, 14, 15, 16, 17, 18, 19, 20, 21, 22, 23, 24, 25, 26, 27, 28, 29, 30, 31, 32, 33, 34, 35, 36, 37, 38, 39, 41, 42, 40, 43, 44, 45, 46, 47, 48, 49])], [(0, ⟨[(21, .int .i64)], [], []⟩)], [(18, ⟨[(12, .bool)], [], []⟩), (30, ⟨[(18, .bool)], [], []⟩)]⟩ [] K h) := by
  kernel_rfl
theorem F_law15_TreeKnown_ok   {K : Value → PH → Prop} {h : PH} (hh : F_law15_TreeKnown  K h) : CallH Try.prog id_law15_TreeKnown [] K h :=
  denF_sound' Try.func10 (H := ⟨[2, 4, 6, 8, 10, 13], [(12, .of [0, 2, 1, 3, 4]), (13, .of [0, 1, 2, 3, 4, 5, 6, 7, 8, 10, 9, 11, 12, 13]), (22, .of [0, 1, 2, 3, 4, 5, 6, 7, 8, 9, 10, 11, 12, 13, 14, 15, 16, 17, 18, 19, 20, 21, 22, 23, 24, 25, 26, 27, 28, 29, 30, 31, 32, 33, 34, 35, 36, 37, 38, 39, 41, 42, 40, 43, 44, 45, 46, 47, 48, 49])], [(0, ⟨[(21, .int .i64)], [], []⟩)], [(18, ⟨[(12, .bool)], [], []⟩), (30, ⟨[(18, .bool)], [], []⟩)]⟩) (xs := []) (by kernel_rfl) (trivial) (den_of F_law15_TreeKnown_eq hh)

/- twinlock/twinlocklaw15.Great -/
def F_law15_Great (lA : Option Addr) (lN _ : Nat) (K : Value → PH → Prop) (h : PH) : Prop :=
  (((decide (((lN : Nat) : Int) > (150 : Int))) = true →
      K (.bool true) h) ∧
    ((decide (((lN : Nat) : Int) > (150 : Int))) = false →
      LoopP (T := Int × Unit) (fun Jv st h1 =>
        (((decide (st.1 < ((lN : Nat) : Int))) = true →
            ∃ bv ov : Nat, (lA = some ⟨bv, ov, none⟩ ∧ 0 ≤ st.1 ∧ st.1 < (lN : Nat)) ∧
            ∃ t : ByteArray, (h1.rds bv ((ov + st.1.toNat * 3) + 1) 1 = some [.string t]) ∧
            ∃ bv_1 ov_1 : Nat, (((decide ((t.size : Int) > (1000 : Int))) = false → lA = some ⟨bv_1, ov_1, none⟩ ∧ 0 ≤ st.1 ∧ st.1 < (lN : Nat))) ∧
            ∃ t_1 : ByteArray, (((decide ((t.size : Int) > (1000 : Int))) = false → h1.rds bv_1 ((ov_1 + st.1.toNat * 3) + 2) 1 = some [.string t_1])) ∧
            ((((decide ((t.size : Int) > (1000 : Int))) || (decide ((t_1.size : Int) > (1000 : Int)))) = true →
                K (.bool true) h1) ∧
              (((decide ((t.size : Int) > (1000 : Int))) || (decide ((t_1.size : Int) > (1000 : Int)))) = false →
                Jv ((IntKind.wrap .i64 (st.1 + (1 : Int))), ()) h1))) ∧
          ((decide (st.1 < ((lN : Nat) : Int))) = false →
            K (.bool false) h1))) ((0 : Int), ()) h))
theorem F_law15_Great_eq {lA : Option Addr} {lN lC : Nat} {K : Value → PH → Prop} {h : PH} : @Eq Prop (F_law15_Great lA lN lC K h) (denF Try.prog Try.f11 ⟨[], [], [(0, ⟨[(3, .int .i64)], [], []⟩)], []⟩ [.v (.slice lA lN lC)] K h) := by
  kernel_rfl
theorem F_law15_Great_ok {lA : Option Addr} {lN lC : Nat}  {K : Value → PH → Prop} {h : PH} (hh : F_law15_Great lA lN lC K h) : CallH Try.prog id_law15_Great [.slice lA lN lC] K h :=
  denF_sound' Try.func11 (H := ⟨[], [], [(0, ⟨[(3, .int .i64)], [], []⟩)], []⟩) (xs := [.v (.slice lA lN lC)]) (by kernel_rfl) (⟨rfl, trivial⟩) (den_of F_law15_Great_eq hh)

/- twinlock/twinlocklaw15.wakes -/
def F_law15_wakes  (K : Value → PH → Prop) (h : PH) : Prop :=
  CallH Try.prog id_tree_New [] (fun v h1 =>
    ∃ t : Option Addr, v = .pointer t ∧
    CallH Try.prog id_tree_Tree_Root [.pointer t] (fun v_1 h2 =>
      ∃ nonev : List Int, nonev.length = 32 ∧ v_1 = .agg ((nonev.map (Value.int .u8) ++ [])).toArray ∧
      CallH Try.prog id_tree_Tree_Set [.pointer t, .string (⟨#[97, 112, 112, 47, 97]⟩ : ByteArray), .string (⟨#[49]⟩ : ByteArray)] (fun v_2 h3 =>
        ∃ e : Int, v_2 = .int .i64 e ∧
        CallH Try.prog id_tree_Tree_Root [.pointer t] (fun v_3 h4 =>
          ∃ one : List Int, one.length = 32 ∧ v_3 = .agg ((one.map (Value.int .u8) ++ [])).toArray ∧
          CallH Try.prog id_tree_Tree_Drop [.pointer t, .string (⟨#[97, 112, 112, 47, 97]⟩ : ByteArray)] (fun v_4 h5 =>
            ∃ ok : Bool, v_4 = .bool ok ∧
            ((((e == (0 : Int)) && ok) = true →
                CallH Try.prog id_tree_Tree_Root [.pointer t] (fun v_5 h6 =>
                  ∃ t_1 : List Int, t_1.length = 32 ∧ v_5 = .agg ((t_1.map (Value.int .u8) ++ [])).toArray ∧
                  ((((t_1 == nonev) && (!(one == nonev))) = true →
                      K (.bool (!(nonev == (List.replicate 32 0)))) h6) ∧
                    (((t_1 == nonev) && (!(one == nonev))) = false →
                      K (.bool false) h6))) h5) ∧
              (((e == (0 : Int)) && ok) = false →
                K (.bool false) h5))) h4) h3) h2) h1) h
theorem F_law15_wakes_eq  {K : Value → PH → Prop} {h : PH} : @Eq Prop (F_law15_wakes  K h) (denF Try.prog Try.f12 ⟨[2, 4], [(6, .of [0, 1, 2, 3, 4, 5, 6, 8, 7, 9, 10, 11, 12, 13, 14, 15, 16, 17, 18, 19, 20, 21])], [], []⟩ [] K h) := by
  kernel_rfl
theorem F_law15_wakes_ok   {K : Value → PH → Prop} {h : PH} (hh : F_law15_wakes  K h) : CallH Try.prog id_law15_wakes [] K h :=
  denF_sound' Try.func12 (H := ⟨[2, 4], [(6, .of [0, 1, 2, 3, 4, 5, 6, 8, 7, 9, 10, 11, 12, 13, 14, 15, 16, 17, 18, 19, 20, 21])], [], []⟩) (xs := []) (by kernel_rfl) (trivial) (den_of F_law15_wakes_eq hh)

/- twinlock/tree.New -/
def F_tree_New  (K : Value → PH → Prop) (h : PH) : Prop :=
  newH h (.cells (((List.replicate 16 (.slice none 0 0 : Value)) ++ ((List.replicate 1024 (.int .u8 (0 : Int) : Value)) ++ ([.int .i64 (0 : Int)] : List Value)))).toArray T_tree_Tree (0, 0)) fun bv h1 =>
  LoopP (T := Int × Unit) (fun Jv st h2 =>
    (((decide (st.1 < (16 : Int))) = true →
        ∃ bv_1 ov : Nat, (some ⟨bv, 0, none⟩ : Option Addr) = some ⟨bv_1, ov, none⟩ ∧
        CallH Try.prog id_tree_Tree_page [.pointer (some ⟨bv, 0, none⟩), .int .i64 st.1] (fun v h3 =>
          ∃ t : ByteArray, v = .string t ∧
          CallH Try.prog id_tree_Leaf [.string t] (fun v_1 h4 =>
            ∃ t_1 : List Int, t_1.length = 32 ∧ v_1 = .agg ((t_1.map (Value.int .u8) ++ [])).toArray ∧
            (0 ≤ (IntKind.wrap .i64 ((16 : Int) + st.1)) ∧ (IntKind.wrap .i64 ((16 : Int) + st.1)) < (32 : Nat)) ∧
            stH h4 bv_1 ((ov + 16) + (IntKind.wrap .i64 ((16 : Int) + st.1)).toNat * 32) (t_1.map (Value.int .u8) ++ []) fun h5 =>
            Jv ((IntKind.wrap .i64 (st.1 + (1 : Int))), ()) h5) h3) h2) ∧
      ((decide (st.1 < (16 : Int))) = false →
        LoopP (T := Int × Unit) (fun Jv_1 st_1 h6 =>
          (((decide (st_1.1 > (0 : Int))) = true →
              ∃ bv_2 ov_1 : Nat, (some ⟨bv, 0, none⟩ : Option Addr) = some ⟨bv_2, ov_1, none⟩ ∧
              (0 ≤ (IntKind.wrap .i64 ((2 : Int) * st_1.1)) ∧ (IntKind.wrap .i64 ((2 : Int) * st_1.1)) < (32 : Nat)) ∧
              ∃ t_2 : List Int, t_2.length = 32 ∧ (h6.rds bv_2 ((ov_1 + 16) + (IntKind.wrap .i64 ((2 : Int) * st_1.1)).toNat * 32) 32 = some (t_2.map (Value.int .u8) ++ [])) ∧
              ∃ bv_3 ov_2 : Nat, (some ⟨bv, 0, none⟩ : Option Addr) = some ⟨bv_3, ov_2, none⟩ ∧
              (0 ≤ (IntKind.wrap .i64 ((IntKind.wrap .i64 ((2 : Int) * st_1.1)) + (1 : Int))) ∧ (IntKind.wrap .i64 ((IntKind.wrap .i64 ((2 : Int) * st_1.1)) + (1 : Int))) < (32 : Nat)) ∧
              ∃ t_3 : List Int, t_3.length = 32 ∧ (h6.rds bv_3 ((ov_2 + 16) + (IntKind.wrap .i64 ((IntKind.wrap .i64 ((2 : Int) * st_1.1)) + (1 : Int))).toNat * 32) 32 = some (t_3.map (Value.int .u8) ++ [])) ∧
              ∃ bv_4 ov_3 : Nat, (some ⟨bv, 0, none⟩ : Option Addr) = some ⟨bv_4, ov_3, none⟩ ∧
              CallH Try.prog id_tree_Inner [.agg ((t_2.map (Value.int .u8) ++ [])).toArray, .agg ((t_3.map (Value.int .u8) ++ [])).toArray] (fun v_2 h7 =>
                ∃ t_4 : List Int, t_4.length = 32 ∧ v_2 = .agg ((t_4.map (Value.int .u8) ++ [])).toArray ∧
                (0 ≤ st_1.1 ∧ st_1.1 < (32 : Nat)) ∧
                stH h7 bv_4 ((ov_3 + 16) + st_1.1.toNat * 32) (t_4.map (Value.int .u8) ++ []) fun h8 =>
                Jv_1 ((IntKind.wrap .i64 (st_1.1 - (1 : Int))), ()) h8) h6) ∧
            ((decide (st_1.1 > (0 : Int))) = false →
              K (.pointer (some ⟨bv, 0, none⟩)) h6))) ((15 : Int), ()) h2))) ((0 : Int), ()) h1
theorem F_tree_New_eq  {K : Value → PH → Prop} {h : PH} : @Eq Prop (F_tree_New  K h) (denF Try.prog Try.f13 ⟨[], [(5, .of [0, 1, 2, 3, 4, 7, 8, 5, 6, 9, 10]), (10, .of [0, 1, 2, 3, 4, 5, 6, 7, 8, 9, 10, 11, 12, 13, 14, 15, 16, 18, 19, 17, 20, 21])], [(0, ⟨[(6, .int .i64)], [], []⟩), (2, ⟨[(3, .int .i64)], [], []⟩)], []⟩ [] K h) := by
  kernel_rfl
theorem F_tree_New_ok   {K : Value → PH → Prop} {h : PH} (hh : F_tree_New  K h) : CallH Try.prog id_tree_New [] K h :=
  denF_sound' Try.func13 (H := ⟨[], [(5, .of [0, 1, 2, 3, 4, 7, 8, 5, 6, 9, 10]), (10, .of [0, 1, 2, 3, 4, 5, 6, 7, 8, 9, 10, 11, 12, 13, 14, 15, 16, 18, 19, 17, 20, 21])], [(0, ⟨[(6, .int .i64)], [], []⟩), (2, ⟨[(3, .int .i64)], [], []⟩)], []⟩) (xs := []) (by kernel_rfl) (trivial) (den_of F_tree_New_eq hh)

/- twinlock/twinlocklaw15.plays -/
def F_law15_plays (t : Option Addr) (lA : Option Addr) (lN _ : Nat) (K : Value → PH → Prop) (h : PH) : Prop :=
  LoopP (T := Int × Unit) (fun Jv st h1 =>
    (((decide (st.1 < ((lN : Nat) : Int))) = true →
        ∃ bv ov : Nat, (lA = some ⟨bv, ov, none⟩ ∧ 0 ≤ st.1 ∧ st.1 < (lN : Nat)) ∧
        ∃ t_1 : Int, (h1.rds bv (ov + st.1.toNat * 3) 1 = some [.int .u8 t_1]) ∧
        (((t_1 == (0 : Int)) = true →
            ∃ bv_1 ov_1 : Nat, (lA = some ⟨bv_1, ov_1, none⟩ ∧ 0 ≤ st.1 ∧ st.1 < (lN : Nat)) ∧
            ∃ t_2 : ByteArray, (h1.rds bv_1 ((ov_1 + st.1.toNat * 3) + 1) 1 = some [.string t_2]) ∧
            ∃ bv_2 ov_2 : Nat, (lA = some ⟨bv_2, ov_2, none⟩ ∧ 0 ≤ st.1 ∧ st.1 < (lN : Nat)) ∧
            ∃ t_3 : ByteArray, (h1.rds bv_2 ((ov_2 + st.1.toNat * 3) + 2) 1 = some [.string t_3]) ∧
            CallH Try.prog id_tree_Tree_Set [.pointer t, .string t_2, .string t_3] (fun v h2 =>
              ∃ t_4 : Int, v = .int .i64 t_4 ∧
              Jv ((IntKind.wrap .i64 (st.1 + (1 : Int))), ()) h2) h1) ∧
          ((t_1 == (0 : Int)) = false →
            (((t_1 == (1 : Int)) = true →
                ∃ bv_3 ov_3 : Nat, (lA = some ⟨bv_3, ov_3, none⟩ ∧ 0 ≤ st.1 ∧ st.1 < (lN : Nat)) ∧
                ∃ t_5 : ByteArray, (h1.rds bv_3 ((ov_3 + st.1.toNat * 3) + 1) 1 = some [.string t_5]) ∧
                CallH Try.prog id_tree_Tree_Drop [.pointer t, .string t_5] (fun v_1 h3 =>
                  ∃ t_6 : Bool, v_1 = .bool t_6 ∧
                  Jv ((IntKind.wrap .i64 (st.1 + (1 : Int))), ()) h3) h1) ∧
              ((t_1 == (1 : Int)) = false →
                Jv ((IntKind.wrap .i64 (st.1 + (1 : Int))), ()) h1))))) ∧
      ((decide (st.1 < ((lN : Nat) : Int))) = false →
        K (.tuple #[]) h1))) ((0 : Int), ()) h
theorem F_law15_plays_eq {t : Option Addr} {lA : Option Addr} {lN lC : Nat} {K : Value → PH → Prop} {h : PH} : @Eq Prop (F_law15_plays t lA lN lC K h) (denF Try.prog Try.f14 ⟨[], [], [(0, ⟨[(4, .int .i64)], [], []⟩)], []⟩ [.v (.pointer t), .v (.slice lA lN lC)] K h) := by
  kernel_rfl
theorem F_law15_plays_ok {t : Option Addr} {lA : Option Addr} {lN lC : Nat}  {K : Value → PH → Prop} {h : PH} (hh : F_law15_plays t lA lN lC K h) : CallH Try.prog id_law15_plays [.pointer t, .slice lA lN lC] K h :=
  denF_sound' Try.func14 (H := ⟨[], [], [(0, ⟨[(4, .int .i64)], [], []⟩)], []⟩) (xs := [.v (.pointer t), .v (.slice lA lN lC)]) (by kernel_rfl) (⟨rfl, rfl, trivial⟩) (den_of F_law15_plays_eq hh)

/- (*twinlock/tree.Tree).Twin -/
def F_tree_Tree_Twin (t : Option Addr) (K : Value → PH → Prop) (h : PH) : Prop :=
  (((Option.isNone t) = true →
      K (.pointer none) h) ∧
    ((Option.isNone t) = false →
      ∃ bv ov : Nat, t = some ⟨bv, ov, none⟩ ∧
      ∃ u0 : List Value, (u0.length = 16 ∧ ∀ v ∈ u0, one1 v = true) ∧ ∃ u1 : List Value, (u1.length = 1024 ∧ ∀ v ∈ u1, one1 v = true) ∧ ∃ u2 : Int, (h.rds bv ov 1041 = some (u0 ++ (u1 ++ ([.int .i64 u2] : List Value)))) ∧
      newH h (.cells (((List.replicate 16 (.slice none 0 0 : Value)) ++ ((List.replicate 1024 (.int .u8 (0 : Int) : Value)) ++ ([.int .i64 (0 : Int)] : List Value)))).toArray T_tree_Tree (0, 0)) fun bv_1 h1 =>
      stH h1 bv_1 0 (u0 ++ (u1 ++ ([.int .i64 u2] : List Value))) fun h2 =>
      K (.pointer (some ⟨bv_1, 0, none⟩)) h2))
theorem F_tree_Tree_Twin_eq {t : Option Addr} {K : Value → PH → Prop} {h : PH} : @Eq Prop (F_tree_Tree_Twin t K h) (denF Try.prog Try.f15 ⟨[], [], [], []⟩ [.v (.pointer t)] K h) := by
  kernel_rfl
theorem F_tree_Tree_Twin_ok {t : Option Addr}  {K : Value → PH → Prop} {h : PH} (hh : F_tree_Tree_Twin t K h) : CallH Try.prog id_tree_Tree_Twin [.pointer t] K h :=
  denF_sound' Try.func15 (H := ⟨[], [], [], []⟩) (xs := [.v (.pointer t)]) (by kernel_rfl) (⟨rfl, trivial⟩) (den_of F_tree_Tree_Twin_eq hh)

/- (*twinlock/tree.Tree).Pairs -/
def F_tree_Tree_Pairs (t : Option Addr) (i : Int) (K : Value → PH → Prop) (h : PH) : Prop :=
  (((((Option.isNone t) || (decide (i < (0 : Int)))) || (decide (i ≥ (16 : Int)))) = true →
      K (.slice none 0 0) h) ∧
    ((((Option.isNone t) || (decide (i < (0 : Int)))) || (decide (i ≥ (16 : Int)))) = false →
      ∃ bv ov : Nat, t = some ⟨bv, ov, none⟩ ∧
      (0 ≤ i ∧ i < (16 : Nat)) ∧
      ∃ (tA : Option Addr) (tN tC : Nat), (h.rds bv (ov + i.toNat * 1) 1 = some [.slice tA tN tC]) ∧
      CallH Try.prog id_slices_Clone_api_Pair_api_Pair [.slice tA tN tC] (fun v h1 =>
        ∃ (tA_1 : Option Addr) (tN_1 tC_1 : Nat), v = .slice tA_1 tN_1 tC_1 ∧
        K (.slice tA_1 tN_1 tC_1) h1) h))
theorem F_tree_Tree_Pairs_eq {t : Option Addr} {i : Int} {K : Value → PH → Prop} {h : PH} : @Eq Prop (F_tree_Tree_Pairs t i K h) (denF Try.prog Try.f17 ⟨[], [], [], []⟩ [.v (.pointer t), .v (.int .i64 i)] K h) := by
  kernel_rfl
theorem F_tree_Tree_Pairs_ok {t : Option Addr} {i : Int}  {K : Value → PH → Prop} {h : PH} (hh : F_tree_Tree_Pairs t i K h) : CallH Try.prog id_tree_Tree_Pairs [.pointer t, .int .i64 i] K h :=
  denF_sound' Try.func17 (H := ⟨[], [], [], []⟩) (xs := [.v (.pointer t), .v (.int .i64 i)]) (by kernel_rfl) (⟨rfl, rfl, trivial⟩) (den_of F_tree_Tree_Pairs_eq hh)

/- (*twinlock/tree.Tree).Node -/
def F_tree_Tree_Node (t : Option Addr) (level : Int) (i : Int) (K : Value → PH → Prop) (h : PH) : Prop :=
  ((((((Option.isNone t) || (decide (level < (0 : Int)))) || (decide (level > (4 : Int)))) || (decide (i < (0 : Int)))) = false → 0 ≤ level)) ∧
  (((((((Option.isNone t) || (decide (level < (0 : Int)))) || (decide (level > (4 : Int)))) || (decide (i < (0 : Int)))) || (decide (i ≥ (shlV .i64 (1 : Int) level)))) = true →
      K (.tuple #[.agg (((List.replicate 32 0).map (Value.int .u8) ++ [])).toArray, .bool false]) h) ∧
    ((((((Option.isNone t) || (decide (level < (0 : Int)))) || (decide (level > (4 : Int)))) || (decide (i < (0 : Int)))) || (decide (i ≥ (shlV .i64 (1 : Int) level)))) = false →
      (0 ≤ level) ∧
      ∃ bv ov : Nat, t = some ⟨bv, ov, none⟩ ∧
      (0 ≤ (IntKind.wrap .i64 ((shlV .i64 (1 : Int) level) + i)) ∧ (IntKind.wrap .i64 ((shlV .i64 (1 : Int) level) + i)) < (32 : Nat)) ∧
      ∃ t_1 : List Int, t_1.length = 32 ∧ (h.rds bv ((ov + 16) + (IntKind.wrap .i64 ((shlV .i64 (1 : Int) level) + i)).toNat * 32) 32 = some (t_1.map (Value.int .u8) ++ [])) ∧
      K (.tuple #[.agg ((t_1.map (Value.int .u8) ++ [])).toArray, .bool true]) h))
theorem F_tree_Tree_Node_eq {t : Option Addr} {level : Int} {i : Int} {K : Value → PH → Prop} {h : PH} : @Eq Prop (F_tree_Tree_Node t level i K h) (denF Try.prog Try.f18 ⟨[6], [], [], []⟩ [.v (.pointer t), .v (.int .i64 level), .v (.int .i64 i)] K h) := by
  kernel_rfl
theorem F_tree_Tree_Node_ok {t : Option Addr} {level : Int} {i : Int}  {K : Value → PH → Prop} {h : PH} (hh : F_tree_Tree_Node t level i K h) : CallH Try.prog id_tree_Tree_Node [.pointer t, .int .i64 level, .int .i64 i] K h :=
  denF_sound' Try.func18 (H := ⟨[6], [], [], []⟩) (xs := [.v (.pointer t), .v (.int .i64 level), .v (.int .i64 i)]) (by kernel_rfl) (⟨rfl, rfl, rfl, trivial⟩) (den_of F_tree_Tree_Node_eq hh)

/- twinlock/tree.Leaf -/
def F_tree_Leaf (page : ByteArray) (K : Value → PH → Prop) (h : PH) : Prop :=
  (((ByteArray.size (⟨#[76]⟩ : ByteArray) + ByteArray.size page : Nat) : Int) ≤ 9223372036854775807) ∧
  CallH Try.prog id_sha_Sum [.string ((⟨#[76]⟩ : ByteArray) ++ page)] (fun v h1 =>
    ∃ t : List Int, t.length = 32 ∧ v = .agg ((t.map (Value.int .u8) ++ [])).toArray ∧
    K (.agg ((t.map (Value.int .u8) ++ [])).toArray) h1) h
theorem F_tree_Leaf_eq {page : ByteArray} {K : Value → PH → Prop} {h : PH} : @Eq Prop (F_tree_Leaf page K h) (denF Try.prog Try.f19 ⟨[2], [], [], []⟩ [.v (.string page)] K h) := by
  kernel_rfl
theorem F_tree_Leaf_ok {page : ByteArray}  {K : Value → PH → Prop} {h : PH} (hh : F_tree_Leaf page K h) : CallH Try.prog id_tree_Leaf [.string page] K h :=
  denF_sound' Try.func19 (H := ⟨[2], [], [], []⟩) (xs := [.v (.string page)]) (by kernel_rfl) (⟨rfl, trivial⟩) (den_of F_tree_Leaf_eq hh)

/- twinlock/tree.Inner -/
def F_tree_Inner (leftv : List Int) (rightv : List Int) (K : Value → PH → Prop) (h : PH) : Prop :=
  CallH Try.prog id_tree_innerText [.agg ((leftv.map (Value.int .u8) ++ [])).toArray, .agg ((rightv.map (Value.int .u8) ++ [])).toArray] (fun v h1 =>
    ∃ t : ByteArray, v = .string t ∧
    CallH Try.prog id_sha_Sum [.string t] (fun v_1 h2 =>
      ∃ t_1 : List Int, t_1.length = 32 ∧ v_1 = .agg ((t_1.map (Value.int .u8) ++ [])).toArray ∧
      K (.agg ((t_1.map (Value.int .u8) ++ [])).toArray) h2) h1) h
theorem F_tree_Inner_eq {leftv : List Int} {rightv : List Int} {K : Value → PH → Prop} {h : PH} : @Eq Prop (F_tree_Inner leftv rightv K h) (denF Try.prog Try.f21 ⟨[2, 3, 4], [], [], []⟩ [.agg [.ints .u8 32 leftv], .agg [.ints .u8 32 rightv]] K h) := by
  kernel_rfl
theorem F_tree_Inner_ok {leftv : List Int} {rightv : List Int} (hk0 : leftv.length = 32) (hk1 : rightv.length = 32) {K : Value → PH → Prop} {h : PH} (hh : F_tree_Inner leftv rightv K h) : CallH Try.prog id_tree_Inner [.agg ((leftv.map (Value.int .u8) ++ [])).toArray, .agg ((rightv.map (Value.int .u8) ++ [])).toArray] K h :=
  denF_sound' Try.func21 (H := ⟨[2, 3, 4], [], [], []⟩) (xs := [.agg [.ints .u8 32 leftv], .agg [.ints .u8 32 rightv]]) (by kernel_rfl) (⟨⟨hk0, trivial⟩, ⟨hk1, trivial⟩, trivial⟩) (den_of F_tree_Inner_eq hh)

/- (*twinlock/tree.Tree).Texts -/
def F_tree_Tree_Texts (t : Option Addr) (K : Value → PH → Prop) (h : PH) : Prop :=
  (((Option.isNone t) = true →
      K (.slice none 0 0) h) ∧
    ((Option.isNone t) = false →
      LoopP (T := (Option Addr × Nat × Nat) × Int × Unit) (fun Jv st h1 =>
        (((decide (st.2.1 < (16 : Int))) = true →
            CallH Try.prog id_tree_Tree_page [.pointer t, .int .i64 st.2.1] (fun v h2 =>
              ∃ t_1 : ByteArray, v = .string t_1 ∧
              (((ByteArray.size (⟨#[76]⟩ : ByteArray) + ByteArray.size t_1 : Nat) : Int) ≤ 9223372036854775807) ∧
              appH 9 1 16 [.string (⟨#[]⟩ : ByteArray)] st.1.1 st.1.2.1 st.1.2.2 1 [.string ((⟨#[76]⟩ : ByteArray) ++ t_1)] (fun outA outN outC h3 =>
                Jv ((outA, outN, outC), (IntKind.wrap .i64 (st.2.1 + (1 : Int))), ()) h3) h2) h1) ∧
          ((decide (st.2.1 < (16 : Int))) = false →
            LoopP (T := (Option Addr × Nat × Nat) × Int × Unit) (fun Jv_1 st_1 h4 =>
              (((decide (st_1.2.1 ≥ (0 : Int))) = true →
                  (0 ≤ st_1.2.1) ∧
                  LoopP (T := (Option Addr × Nat × Nat) × Int × Unit) (fun Jv_2 st_2 h5 =>
                    (((decide (st_2.2.1 < (shlV .i64 (1 : Int) st_1.2.1))) = true →
                        (0 ≤ st_1.2.1) ∧
                        ∃ bv ov : Nat, t = some ⟨bv, ov, none⟩ ∧
                        (0 ≤ (IntKind.wrap .i64 ((2 : Int) * (IntKind.wrap .i64 ((shlV .i64 (1 : Int) st_1.2.1) + st_2.2.1)))) ∧ (IntKind.wrap .i64 ((2 : Int) * (IntKind.wrap .i64 ((shlV .i64 (1 : Int) st_1.2.1) + st_2.2.1)))) < (32 : Nat)) ∧
                        ∃ t_2 : List Int, t_2.length = 32 ∧ (h5.rds bv ((ov + 16) + (IntKind.wrap .i64 ((2 : Int) * (IntKind.wrap .i64 ((shlV .i64 (1 : Int) st_1.2.1) + st_2.2.1)))).toNat * 32) 32 = some (t_2.map (Value.int .u8) ++ [])) ∧
                        ∃ bv_1 ov_1 : Nat, t = some ⟨bv_1, ov_1, none⟩ ∧
                        (0 ≤ (IntKind.wrap .i64 ((IntKind.wrap .i64 ((2 : Int) * (IntKind.wrap .i64 ((shlV .i64 (1 : Int) st_1.2.1) + st_2.2.1)))) + (1 : Int))) ∧ (IntKind.wrap .i64 ((IntKind.wrap .i64 ((2 : Int) * (IntKind.wrap .i64 ((shlV .i64 (1 : Int) st_1.2.1) + st_2.2.1)))) + (1 : Int))) < (32 : Nat)) ∧
                        ∃ t_3 : List Int, t_3.length = 32 ∧ (h5.rds bv_1 ((ov_1 + 16) + (IntKind.wrap .i64 ((IntKind.wrap .i64 ((2 : Int) * (IntKind.wrap .i64 ((shlV .i64 (1 : Int) st_1.2.1) + st_2.2.1)))) + (1 : Int))).toNat * 32) 32 = some (t_3.map (Value.int .u8) ++ [])) ∧
                        CallH Try.prog id_tree_innerText [.agg ((t_2.map (Value.int .u8) ++ [])).toArray, .agg ((t_3.map (Value.int .u8) ++ [])).toArray] (fun v_1 h6 =>
                          ∃ t_4 : ByteArray, v_1 = .string t_4 ∧
                          appH 9 1 16 [.string (⟨#[]⟩ : ByteArray)] st_2.1.1 st_2.1.2.1 st_2.1.2.2 1 [.string t_4] (fun outA_1 outN_1 outC_1 h7 =>
                            Jv_2 ((outA_1, outN_1, outC_1), (IntKind.wrap .i64 (st_2.2.1 + (1 : Int))), ()) h7) h6) h5) ∧
                      ((decide (st_2.2.1 < (shlV .i64 (1 : Int) st_1.2.1))) = false →
                        Jv_1 ((st_2.1.1, st_2.1.2.1, st_2.1.2.2), (IntKind.wrap .i64 (st_1.2.1 - (1 : Int))), ()) h5))) ((st_1.1.1, st_1.1.2.1, st_1.1.2.2), (0 : Int), ()) h4) ∧
                ((decide (st_1.2.1 ≥ (0 : Int))) = false →
                  K (.slice st_1.1.1 st_1.1.2.1 st_1.1.2.2) h4))) ((st.1.1, st.1.2.1, st.1.2.2), (3 : Int), ()) h1))) ((none, 0, 0), (0 : Int), ()) h))
theorem F_tree_Tree_Texts_eq {t : Option Addr} {K : Value → PH → Prop} {h : PH} : @Eq Prop (F_tree_Tree_Texts t K h) (denF Try.prog Try.f23 ⟨[18, 51], [], [(0, ⟨[(3, .slice), (10, .int .i64)], [], []⟩), (2, ⟨[(3, .slice), (5, .int .i64)], [], []⟩), (4, ⟨[(3, .slice), (27, .int .i64)], [], []⟩)], []⟩ [.v (.pointer t)] K h) := by
  kernel_rfl
theorem F_tree_Tree_Texts_ok {t : Option Addr}  {K : Value → PH → Prop} {h : PH} (hh : F_tree_Tree_Texts t K h) : CallH Try.prog id_tree_Tree_Texts [.pointer t] K h :=
  denF_sound' Try.func23 (H := ⟨[18, 51], [], [(0, ⟨[(3, .slice), (10, .int .i64)], [], []⟩), (2, ⟨[(3, .slice), (5, .int .i64)], [], []⟩), (4, ⟨[(3, .slice), (27, .int .i64)], [], []⟩)], []⟩) (xs := [.v (.pointer t)]) (by kernel_rfl) (⟨rfl, trivial⟩) (den_of F_tree_Tree_Texts_eq hh)

/- twinlock/tree.Of -/
def F_tree_Of (lA : Option Addr) (lN lC : Nat) (K : Value → PH → Prop) (h : PH) : Prop :=
  CallH Try.prog id_bucket_May [.slice lA lN lC] (fun v h1 =>
    ∃ t : Bool, v = .bool t ∧
    (((!t) = true →
        K (.tuple #[.pointer none, .int .i64 (1 : Int)]) h1) ∧
      ((!t) = false →
        (((decide (((lN : Nat) : Int) > (48 : Int))) = true →
            K (.tuple #[.pointer none, .int .i64 (6 : Int)]) h1) ∧
          ((decide (((lN : Nat) : Int) > (48 : Int))) = false →
            CallH Try.prog id_tree_New [] (fun v_1 h2 =>
              ∃ t_1 : Option Addr, v_1 = .pointer t_1 ∧
              LoopP (T := Int × Unit) (fun Jv st h3 =>
                (((decide (st.1 < ((lN : Nat) : Int))) = true →
                    ∃ bv ov : Nat, (lA = some ⟨bv, ov, none⟩ ∧ 0 ≤ st.1 ∧ st.1 < (lN : Nat)) ∧
                    ∃ x0 : ByteArray, ∃ x1 : ByteArray, (h3.rds bv (ov + st.1.toNat * 2) 2 = some [.string x0, .string x1]) ∧
                    CallH Try.prog id_tree_Tree_Set [.pointer t_1, .string x0, .string x1] (fun v_2 h4 =>
                      ∃ t_2 : Int, v_2 = .int .i64 t_2 ∧
                      Jv ((IntKind.wrap .i64 (st.1 + (1 : Int))), ()) h4) h3) ∧
                  ((decide (st.1 < ((lN : Nat) : Int))) = false →
                    K (.tuple #[.pointer t_1, .int .i64 (0 : Int)]) h3))) ((0 : Int), ()) h2) h1))))) h
theorem F_tree_Of_eq {lA : Option Addr} {lN lC : Nat} {K : Value → PH → Prop} {h : PH} : @Eq Prop (F_tree_Of lA lN lC K h) (denF Try.prog Try.f25 ⟨[6], [], [(1, ⟨[(18, .int .i64)], [], []⟩)], []⟩ [.v (.slice lA lN lC)] K h) := by
  kernel_rfl
theorem F_tree_Of_ok {lA : Option Addr} {lN lC : Nat}  {K : Value → PH → Prop} {h : PH} (hh : F_tree_Of lA lN lC K h) : CallH Try.prog id_tree_Of [.slice lA lN lC] K h :=
  denF_sound' Try.func25 (H := ⟨[6], [], [(1, ⟨[(18, .int .i64)], [], []⟩)], []⟩) (xs := [.v (.slice lA lN lC)]) (by kernel_rfl) (⟨rfl, trivial⟩) (den_of F_tree_Of_eq hh)

/- (*twinlock/tree.Tree).All -/
def F_tree_Tree_All (t : Option Addr) (K : Value → PH → Prop) (h : PH) : Prop :=
  (((Option.isNone t) = true →
      K (.slice none 0 0) h) ∧
    ((Option.isNone t) = false →
      ∃ bv ov : Nat, t = some ⟨bv, ov, none⟩ ∧
      (0 ≤ (0 : Int) ∧ (0 : Int) ≤ ((16 : Nat) : Int) ∧ ((16 : Nat) : Int) ≤ ((16 : Nat) : Int) ∧ ((16 : Nat) : Int) ≤ (16 : Nat)) ∧
      CallH Try.prog id_slices_Concat_api_Pair_api_Pair [.slice (slA (some ⟨bv, ov, none⟩ : Option Addr) 1 (0 : Int) ((16 : Nat) : Int)) (((16 : Nat) : Int).toNat - (0 : Int).toNat) (((16 : Nat) : Int).toNat - (0 : Int).toNat)] (fun v h1 =>
        ∃ (lA : Option Addr) (lN lC : Nat), v = .slice lA lN lC ∧
        CallH Try.prog id_slices_SortFunc_api_Pair_api_Pair [.slice lA lN lC, .func (.func 44) #[] #[]] (fun _ h2 =>
          K (.slice lA lN lC) h2) h1) h))
theorem F_tree_Tree_All_eq {t : Option Addr} {K : Value → PH → Prop} {h : PH} : @Eq Prop (F_tree_Tree_All t K h) (denF Try.prog Try.f26 ⟨[], [], [], []⟩ [.v (.pointer t)] K h) := by
  kernel_rfl
theorem F_tree_Tree_All_ok {t : Option Addr}  {K : Value → PH → Prop} {h : PH} (hh : F_tree_Tree_All t K h) : CallH Try.prog id_tree_Tree_All [.pointer t] K h :=
  denF_sound' Try.func26 (H := ⟨[], [], [], []⟩) (xs := [.v (.pointer t)]) (by kernel_rfl) (⟨rfl, trivial⟩) (den_of F_tree_Tree_All_eq hh)

/- (*twinlock/tree.Tree).Root -/
def F_tree_Tree_Root (t : Option Addr) (K : Value → PH → Prop) (h : PH) : Prop :=
  CallH Try.prog id_tree_Tree_Node [.pointer t, .int .i64 (0 : Int), .int .i64 (0 : Int)] (fun v h1 =>
    ∃ t0 : List Int, t0.length = 32 ∧ ∃ t1 : Bool, v = .tuple #[.agg ((t0.map (Value.int .u8) ++ [])).toArray, .bool t1] ∧
    K (.agg ((t0.map (Value.int .u8) ++ [])).toArray) h1) h
theorem F_tree_Tree_Root_eq {t : Option Addr} {K : Value → PH → Prop} {h : PH} : @Eq Prop (F_tree_Tree_Root t K h) (denF Try.prog Try.f27 ⟨[2, 3], [], [], []⟩ [.v (.pointer t)] K h) := by
  kernel_rfl
theorem F_tree_Tree_Root_ok {t : Option Addr}  {K : Value → PH → Prop} {h : PH} (hh : F_tree_Tree_Root t K h) : CallH Try.prog id_tree_Tree_Root [.pointer t] K h :=
  denF_sound' Try.func27 (H := ⟨[2, 3], [], [], []⟩) (xs := [.v (.pointer t)]) (by kernel_rfl) (⟨rfl, trivial⟩) (den_of F_tree_Tree_Root_eq hh)

/- (*twinlock/tree.Tree).Set -/
set_option maxRecDepth 100000 in
def F_tree_Tree_Set (t : Option Addr) (p : ByteArray) (v : ByteArray) (K : Value → PH → Prop) (h : PH) : Prop :=
  (((Option.isNone t) = true →
      K (.int .i64 (2 : Int)) h) ∧
    ((Option.isNone t) = false →
      CallH Try.prog id_path_Cut [.string p] (fun v_1 h1 =>
        ∃ t0 : ByteArray, ∃ t1 : ByteArray, ∃ t2 : Bool, v_1 = .tuple #[.string t0, .string t1, .bool t2] ∧
        (((!t2) = true →
            K (.int .i64 (20 : Int)) h1) ∧
          ((!t2) = false →
            (((decide ((v.size : Int) > (32 : Int))) = true →
                K (.int .i64 (3 : Int)) h1) ∧
              ((decide ((v.size : Int) > (32 : Int))) = false →
                CallH Try.prog id_tree_Tree_find [.pointer t, .string p] (fun v_2 h2 =>
                  ∃ t0_1 : Int, ∃ t1_1 : Int, ∃ t2_1 : Bool, v_2 = .tuple #[.int .i64 t0_1, .int .i64 t1_1, .bool t2_1] ∧
                  JoinP (T := Unit) (fun Jv =>
                    ((t2_1 = true →
                        ∃ bv ov : Nat, t = some ⟨bv, ov, none⟩ ∧
                        (0 ≤ t0_1 ∧ t0_1 < (16 : Nat)) ∧
                        ∃ (tA : Option Addr) (tN tC : Nat), (h2.rds bv (ov + t0_1.toNat * 1) 1 = some [.slice tA tN tC]) ∧
                        ∃ bv_1 ov_1 : Nat, t = some ⟨bv_1, ov_1, none⟩ ∧
                        (CallH Try.prog id_slices_Clone_api_Pair_api_Pair [.slice tA tN tC] (fun v_3 h4 =>
                            ∃ (tA_1 : Option Addr) (tN_1 tC_1 : Nat), v_3 = .slice tA_1 tN_1 tC_1 ∧
                            newH h4 (.cells #[.string p, .string v] T_api_Pair (0, 0)) fun bv_2 h5 =>
                            CallH Try.prog id_slices_Replace_api_Pair_api_Pair [.slice tA_1 tN_1 tC_1, .int .i64 t1_1, .int .i64 (IntKind.wrap .i64 (t1_1 + (1 : Int))), .slice (some ⟨bv_2, 0, none⟩) 1 1] (fun v_4 h6 =>
                              ∃ (tA_2 : Option Addr) (tN_2 tC_2 : Nat), v_4 = .slice tA_2 tN_2 tC_2 ∧
                              (0 ≤ t0_1 ∧ t0_1 < (16 : Nat)) ∧
                              stH h6 bv_1 (ov_1 + t0_1.toNat * 1) [.slice tA_2 tN_2 tC_2] fun h7 =>
                              Jv (()) h7) h5) h2) ∧
                        (newH h2 (.cells #[.string p, .string v] T_api_Pair (0, 0)) fun bv_3 h8 =>
                          CallH Try.prog id_slices_Clone_api_Pair_api_Pair [.slice tA tN tC] (fun v_5 h9 =>
                            ∃ (tA_3 : Option Addr) (tN_3 tC_3 : Nat), v_5 = .slice tA_3 tN_3 tC_3 ∧
                            CallH Try.prog id_slices_Replace_api_Pair_api_Pair [.slice tA_3 tN_3 tC_3, .int .i64 t1_1, .int .i64 (IntKind.wrap .i64 (t1_1 + (1 : Int))), .slice (some ⟨bv_3, 0, none⟩) 1 1] (fun v_6 h10 =>
                              ∃ (tA_4 : Option Addr) (tN_4 tC_4 : Nat), v_6 = .slice tA_4 tN_4 tC_4 ∧
                              (0 ≤ t0_1 ∧ t0_1 < (16 : Nat)) ∧
                              stH h10 bv_1 (ov_1 + t0_1.toNat * 1) [.slice tA_4 tN_4 tC_4] fun h11 =>
                              Jv (()) h11) h9) h8)) ∧
                      (t2_1 = false →
                        ∃ bv_4 ov_2 : Nat, t = some ⟨bv_4, ov_2, none⟩ ∧
                        ∃ t_1 : Int, (h2.rds bv_4 (ov_2 + 1040) 1 = some [.int .i64 t_1]) ∧
                        (((decide (t_1 ≥ (48 : Int))) = true →
                            K (.int .i64 (6 : Int)) h2) ∧
                          ((decide (t_1 ≥ (48 : Int))) = false →
                            ∃ bv_5 ov_3 : Nat, t = some ⟨bv_5, ov_3, none⟩ ∧
                            (0 ≤ t0_1 ∧ t0_1 < (16 : Nat)) ∧
                            ∃ (tA_5 : Option Addr) (tN_5 tC_5 : Nat), (h2.rds bv_5 (ov_3 + t0_1.toNat * 1) 1 = some [.slice tA_5 tN_5 tC_5]) ∧
                            ∃ bv_6 ov_4 : Nat, t = some ⟨bv_6, ov_4, none⟩ ∧
                            (CallH Try.prog id_slices_Clone_api_Pair_api_Pair [.slice tA_5 tN_5 tC_5] (fun v_7 h12 =>
                                ∃ (tA_6 : Option Addr) (tN_6 tC_6 : Nat), v_7 = .slice tA_6 tN_6 tC_6 ∧
                                newH h12 (.cells #[.string p, .string v] T_api_Pair (0, 0)) fun bv_7 h13 =>
                                CallH Try.prog id_slices_Insert_api_Pair_api_Pair [.slice tA_6 tN_6 tC_6, .int .i64 t1_1, .slice (some ⟨bv_7, 0, none⟩) 1 1] (fun v_8 h14 =>
                                  ∃ (tA_7 : Option Addr) (tN_7 tC_7 : Nat), v_8 = .slice tA_7 tN_7 tC_7 ∧
                                  (0 ≤ t0_1 ∧ t0_1 < (16 : Nat)) ∧
                                  stH h14 bv_6 (ov_4 + t0_1.toNat * 1) [.slice tA_7 tN_7 tC_7] fun h15 =>
                                  ∃ bv_8 ov_5 : Nat, t = some ⟨bv_8, ov_5, none⟩ ∧
                                  ∃ t_2 : Int, (h15.rds bv_8 (ov_5 + 1040) 1 = some [.int .i64 t_2]) ∧
                                  ∃ bv_9 ov_6 : Nat, t = some ⟨bv_9, ov_6, none⟩ ∧
                                  stH h15 bv_9 (ov_6 + 1040) [.int .i64 (IntKind.wrap .i64 (t_2 + (1 : Int)))] fun h16 =>
                                  Jv (()) h16) h13) h2) ∧
                            (newH h2 (.cells #[.string p, .string v] T_api_Pair (0, 0)) fun bv_10 h17 =>
                              CallH Try.prog id_slices_Clone_api_Pair_api_Pair [.slice tA_5 tN_5 tC_5] (fun v_9 h18 =>
                                ∃ (tA_8 : Option Addr) (tN_8 tC_8 : Nat), v_9 = .slice tA_8 tN_8 tC_8 ∧
                                CallH Try.prog id_slices_Insert_api_Pair_api_Pair [.slice tA_8 tN_8 tC_8, .int .i64 t1_1, .slice (some ⟨bv_10, 0, none⟩) 1 1] (fun v_10 h19 =>
                                  ∃ (tA_9 : Option Addr) (tN_9 tC_9 : Nat), v_10 = .slice tA_9 tN_9 tC_9 ∧
                                  (0 ≤ t0_1 ∧ t0_1 < (16 : Nat)) ∧
                                  stH h19 bv_6 (ov_4 + t0_1.toNat * 1) [.slice tA_9 tN_9 tC_9] fun h20 =>
                                  ∃ bv_11 ov_7 : Nat, t = some ⟨bv_11, ov_7, none⟩ ∧
                                  ∃ t_3 : Int, (h20.rds bv_11 (ov_7 + 1040) 1 = some [.int .i64 t_3]) ∧
                                  ∃ bv_12 ov_8 : Nat, t = some ⟨bv_12, ov_8, none⟩ ∧
                                  stH h20 bv_12 (ov_8 + 1040) [.int .i64 (IntKind.wrap .i64 (t_3 + (1 : Int)))] fun h21 =>
                                  Jv (()) h21) h18) h17))))))
                  (fun _ h3 =>
                    CallH Try.prog id_tree_Tree_anew [.pointer t, .int .i64 t0_1] (fun _ h22 =>
                      K (.int .i64 (0 : Int)) h22) h3)) h1))))) h))
set_option maxRecDepth 100000 in
theorem F_tree_Tree_Set_eq {t : Option Addr} {p : ByteArray} {v : ByteArray} {K : Value → PH → Prop} {h : PH} : @Eq Prop (F_tree_Tree_Set t p v K h) (denF Try.prog Try.f28 ⟨[13], [(13, .one 0 (.one 1 (.one 2 (.one 3 (.one 4 (.one 5 (.one 6 (.one 7 (.one 9 (.one 10 (.one 11 (.one 12 (.one 15 (.one 16 (.alt 8 (.of [13, 14, 17, 18]) (.of [13, 8, 14, 17, 18])))))))))))))))), (10, .one 0 (.one 1 (.one 2 (.one 3 (.one 4 (.one 5 (.one 6 (.one 7 (.one 9 (.one 10 (.one 13 (.one 14 (.alt 8 (.of [11, 12, 15, 16]) (.of [11, 8, 12, 15, 16]))))))))))))))], [], [(34, ⟨[], [], []⟩)]⟩ [.v (.pointer t), .v (.string p), .v (.string v)] K h) := by
  kernel_rfl
theorem F_tree_Tree_Set_ok {t : Option Addr} {p : ByteArray} {v : ByteArray}  {K : Value → PH → Prop} {h : PH} (hh : F_tree_Tree_Set t p v K h) : CallH Try.prog id_tree_Tree_Set [.pointer t, .string p, .string v] K h :=
  denF_sound' Try.func28 (H := ⟨[13], [(13, .one 0 (.one 1 (.one 2 (.one 3 (.one 4 (.one 5 (.one 6 (.one 7 (.one 9 (.one 10 (.one 11 (.one 12 (.one 15 (.one 16 (.alt 8 (.of [13, 14, 17, 18]) (.of [13, 8, 14, 17, 18])))))))))))))))), (10, .one 0 (.one 1 (.one 2 (.one 3 (.one 4 (.one 5 (.one 6 (.one 7 (.one 9 (.one 10 (.one 13 (.one 14 (.alt 8 (.of [11, 12, 15, 16]) (.of [11, 8, 12, 15, 16]))))))))))))))], [], [(34, ⟨[], [], []⟩)]⟩) (xs := [.v (.pointer t), .v (.string p), .v (.string v)]) (by kernel_rfl) (⟨rfl, rfl, rfl, trivial⟩) (den_of F_tree_Tree_Set_eq hh)

/- (*twinlock/tree.Tree).Drop -/
def F_tree_Tree_Drop (t : Option Addr) (p : ByteArray) (K : Value → PH → Prop) (h : PH) : Prop :=
  (((Option.isNone t) = true →
      K (.bool false) h) ∧
    ((Option.isNone t) = false →
      CallH Try.prog id_tree_Tree_find [.pointer t, .string p] (fun v h1 =>
        ∃ t0 : Int, ∃ t1 : Int, ∃ t2 : Bool, v = .tuple #[.int .i64 t0, .int .i64 t1, .bool t2] ∧
        ((t2 = true →
            ∃ bv ov : Nat, t = some ⟨bv, ov, none⟩ ∧
            (0 ≤ t0 ∧ t0 < (16 : Nat)) ∧
            ∃ (tA : Option Addr) (tN tC : Nat), (h1.rds bv (ov + t0.toNat * 1) 1 = some [.slice tA tN tC]) ∧
            ∃ bv_1 ov_1 : Nat, t = some ⟨bv_1, ov_1, none⟩ ∧
            CallH Try.prog id_slices_Clone_api_Pair_api_Pair [.slice tA tN tC] (fun v_1 h2 =>
              ∃ (tA_1 : Option Addr) (tN_1 tC_1 : Nat), v_1 = .slice tA_1 tN_1 tC_1 ∧
              CallH Try.prog id_slices_Delete_api_Pair_api_Pair [.slice tA_1 tN_1 tC_1, .int .i64 t1, .int .i64 (IntKind.wrap .i64 (t1 + (1 : Int)))] (fun v_2 h3 =>
                ∃ (tA_2 : Option Addr) (tN_2 tC_2 : Nat), v_2 = .slice tA_2 tN_2 tC_2 ∧
                (0 ≤ t0 ∧ t0 < (16 : Nat)) ∧
                stH h3 bv_1 (ov_1 + t0.toNat * 1) [.slice tA_2 tN_2 tC_2] fun h4 =>
                ∃ bv_2 ov_2 : Nat, t = some ⟨bv_2, ov_2, none⟩ ∧
                ∃ t_1 : Int, (h4.rds bv_2 (ov_2 + 1040) 1 = some [.int .i64 t_1]) ∧
                ∃ bv_3 ov_3 : Nat, t = some ⟨bv_3, ov_3, none⟩ ∧
                stH h4 bv_3 (ov_3 + 1040) [.int .i64 (IntKind.wrap .i64 (t_1 - (1 : Int)))] fun h5 =>
                CallH Try.prog id_tree_Tree_anew [.pointer t, .int .i64 t0] (fun _ h6 =>
                  K (.bool t2) h6) h5) h2) h1) ∧
          (t2 = false →
            K (.bool t2) h1))) h))
theorem F_tree_Tree_Drop_eq {t : Option Addr} {p : ByteArray} {K : Value → PH → Prop} {h : PH} : @Eq Prop (F_tree_Tree_Drop t p K h) (denF Try.prog Try.f29 ⟨[], [(5, .of [0, 1, 2, 3, 4, 5, 6, 7, 9, 10, 11, 13, 14, 8, 12, 15, 16])], [], []⟩ [.v (.pointer t), .v (.string p)] K h) := by
  kernel_rfl
theorem F_tree_Tree_Drop_ok {t : Option Addr} {p : ByteArray}  {K : Value → PH → Prop} {h : PH} (hh : F_tree_Tree_Drop t p K h) : CallH Try.prog id_tree_Tree_Drop [.pointer t, .string p] K h :=
  denF_sound' Try.func29 (H := ⟨[], [(5, .of [0, 1, 2, 3, 4, 5, 6, 7, 9, 10, 11, 13, 14, 8, 12, 15, 16])], [], []⟩) (xs := [.v (.pointer t), .v (.string p)]) (by kernel_rfl) (⟨rfl, rfl, trivial⟩) (den_of F_tree_Tree_Drop_eq hh)

/- (*twinlock/tree.Tree).page -/
def F_tree_Tree_page (t : Option Addr) (i : Int) (K : Value → PH → Prop) (h : PH) : Prop :=
  ∃ bv ov : Nat, t = some ⟨bv, ov, none⟩ ∧
  (0 ≤ i ∧ i < (16 : Nat)) ∧
  ∃ (tA : Option Addr) (tN tC : Nat), (h.rds bv (ov + i.toNat * 1) 1 = some [.slice tA tN tC]) ∧
  CallH Try.prog id_bucket_Page [.int .i64 i, .slice tA tN tC] (fun v h1 =>
    ∃ t0 : ByteArray, ∃ t1 : Int, v = .tuple #[.string t0, .int .i64 t1] ∧
    K (.string t0) h1) h
theorem F_tree_Tree_page_eq {t : Option Addr} {i : Int} {K : Value → PH → Prop} {h : PH} : @Eq Prop (F_tree_Tree_page t i K h) (denF Try.prog Try.f32 ⟨[], [], [], []⟩ [.v (.pointer t), .v (.int .i64 i)] K h) := by
  kernel_rfl
theorem F_tree_Tree_page_ok {t : Option Addr} {i : Int}  {K : Value → PH → Prop} {h : PH} (hh : F_tree_Tree_page t i K h) : CallH Try.prog id_tree_Tree_page [.pointer t, .int .i64 i] K h :=
  denF_sound' Try.func32 (H := ⟨[], [], [], []⟩) (xs := [.v (.pointer t), .v (.int .i64 i)]) (by kernel_rfl) (⟨rfl, rfl, trivial⟩) (den_of F_tree_Tree_page_eq hh)

/- twinlock/tree.innerText -/
def F_tree_innerText (leftv : List Int) (rightv : List Int) (K : Value → PH → Prop) (h : PH) : Prop :=
  newH h (.cells ((leftv.map (Value.int .u8) ++ [])).toArray T_api_Hash (0, 0)) fun bv h1 =>
  newH h1 (.cells ((rightv.map (Value.int .u8) ++ [])).toArray T_api_Hash (0, 0)) fun bv_1 h2 =>
  (0 ≤ (0 : Int) ∧ (0 : Int) ≤ ((32 : Nat) : Int) ∧ ((32 : Nat) : Int) ≤ ((32 : Nat) : Int) ∧ ((32 : Nat) : Int) ≤ (32 : Nat)) ∧
  ∃ t : ByteArray, strH h2 (slA (some ⟨bv, 0, none⟩ : Option Addr) 1 (0 : Int) ((32 : Nat) : Int)) (((32 : Nat) : Int).toNat - (0 : Int).toNat) t ∧
  (((ByteArray.size (⟨#[78]⟩ : ByteArray) + ByteArray.size t : Nat) : Int) ≤ 9223372036854775807) ∧
  (0 ≤ (0 : Int) ∧ (0 : Int) ≤ ((32 : Nat) : Int) ∧ ((32 : Nat) : Int) ≤ ((32 : Nat) : Int) ∧ ((32 : Nat) : Int) ≤ (32 : Nat)) ∧
  ∃ t_1 : ByteArray, strH h2 (slA (some ⟨bv_1, 0, none⟩ : Option Addr) 1 (0 : Int) ((32 : Nat) : Int)) (((32 : Nat) : Int).toNat - (0 : Int).toNat) t_1 ∧
  (((ByteArray.size ((⟨#[78]⟩ : ByteArray) ++ t) + ByteArray.size t_1 : Nat) : Int) ≤ 9223372036854775807) ∧
  K (.string (((⟨#[78]⟩ : ByteArray) ++ t) ++ t_1)) h2
theorem F_tree_innerText_eq {leftv : List Int} {rightv : List Int} {K : Value → PH → Prop} {h : PH} : @Eq Prop (F_tree_innerText leftv rightv K h) (denF Try.prog Try.f37 ⟨[], [], [], []⟩ [.agg [.ints .u8 32 leftv], .agg [.ints .u8 32 rightv]] K h) := by
  kernel_rfl
theorem F_tree_innerText_ok {leftv : List Int} {rightv : List Int} (hk0 : leftv.length = 32) (hk1 : rightv.length = 32) {K : Value → PH → Prop} {h : PH} (hh : F_tree_innerText leftv rightv K h) : CallH Try.prog id_tree_innerText [.agg ((leftv.map (Value.int .u8) ++ [])).toArray, .agg ((rightv.map (Value.int .u8) ++ [])).toArray] K h :=
  denF_sound' Try.func37 (H := ⟨[], [], [], []⟩) (xs := [.agg [.ints .u8 32 leftv], .agg [.ints .u8 32 rightv]]) (by kernel_rfl) (⟨⟨hk0, trivial⟩, ⟨hk1, trivial⟩, trivial⟩) (den_of F_tree_innerText_eq hh)

/- (*twinlock/tree.Tree).All-1 -/
def F_tree_Tree_All_1 (a0 : ByteArray) (_ : ByteArray) (b0 : ByteArray) (_ : ByteArray) (K : Value → PH → Prop) (h : PH) : Prop :=
  CallH Try.prog id_strings_Compare [.string a0, .string b0] (fun v h1 =>
    ∃ t : Int, v = .int .i64 t ∧
    K (.int .i64 t) h1) h
theorem F_tree_Tree_All_1_eq {a0 : ByteArray} {a1 : ByteArray} {b0 : ByteArray} {b1 : ByteArray} {K : Value → PH → Prop} {h : PH} : @Eq Prop (F_tree_Tree_All_1 a0 a1 b0 b1 K h) (denF Try.prog Try.f44 ⟨[2, 3], [], [], []⟩ [.agg [.one (.string a0), .one (.string a1)], .agg [.one (.string b0), .one (.string b1)]] K h) := by
  kernel_rfl
theorem F_tree_Tree_All_1_ok {a0 : ByteArray} {a1 : ByteArray} {b0 : ByteArray} {b1 : ByteArray}  {K : Value → PH → Prop} {h : PH} (hh : F_tree_Tree_All_1 a0 a1 b0 b1 K h) : CallH Try.prog id_tree_Tree_All_1 [.agg #[.string a0, .string a1], .agg #[.string b0, .string b1]] K h :=
  denF_sound' Try.func44 (H := ⟨[2, 3], [], [], []⟩) (xs := [.agg [.one (.string a0), .one (.string a1)], .agg [.one (.string b0), .one (.string b1)]]) (by kernel_rfl) (⟨⟨rfl, rfl, trivial⟩, ⟨rfl, rfl, trivial⟩, trivial⟩) (den_of F_tree_Tree_All_1_eq hh)

/- (*twinlock/tree.Tree).find -/
def F_tree_Tree_find (t : Option Addr) (p : ByteArray) (K : Value → PH → Prop) (h : PH) : Prop :=
  CallH Try.prog id_bucket_Of [.string p] (fun v h1 =>
    ∃ part : Int, v = .int .i64 part ∧
    ∃ bv ov : Nat, t = some ⟨bv, ov, none⟩ ∧
    (0 ≤ part ∧ part < (16 : Nat)) ∧
    ∃ (tA : Option Addr) (tN tC : Nat), (h1.rds bv (ov + part.toNat * 1) 1 = some [.slice tA tN tC]) ∧
    CallH Try.prog id_slices_BinarySearchFunc_api_Pair_api_Pair_string [.slice tA tN tC, .string p, .func (.func 70) #[] #[]] (fun v_1 h2 =>
      ∃ t0 : Int, ∃ t1 : Bool, v_1 = .tuple #[.int .i64 t0, .bool t1] ∧
      K (.tuple #[.int .i64 part, .int .i64 t0, .bool t1]) h2) h1) h
theorem F_tree_Tree_find_eq {t : Option Addr} {p : ByteArray} {K : Value → PH → Prop} {h : PH} : @Eq Prop (F_tree_Tree_find t p K h) (denF Try.prog Try.f47 ⟨[], [], [], []⟩ [.v (.pointer t), .v (.string p)] K h) := by
  kernel_rfl
theorem F_tree_Tree_find_ok {t : Option Addr} {p : ByteArray}  {K : Value → PH → Prop} {h : PH} (hh : F_tree_Tree_find t p K h) : CallH Try.prog id_tree_Tree_find [.pointer t, .string p] K h :=
  denF_sound' Try.func47 (H := ⟨[], [], [], []⟩) (xs := [.v (.pointer t), .v (.string p)]) (by kernel_rfl) (⟨rfl, rfl, trivial⟩) (den_of F_tree_Tree_find_eq hh)

/- (*twinlock/tree.Tree).anew -/
def F_tree_Tree_anew (t : Option Addr) (part : Int) (K : Value → PH → Prop) (h : PH) : Prop :=
  newH h (.cells #[.pointer t] 27 (0, 0)) fun bv h1 =>
  ∃ t_1 : Option Addr, (h1.rds bv 0 1 = some [.pointer t_1]) ∧
  ∃ t_2 : Option Addr, (h1.rds bv 0 1 = some [.pointer t_2]) ∧
  ∃ bv_1 ov : Nat, t_1 = some ⟨bv_1, ov, none⟩ ∧
  CallH Try.prog id_tree_Tree_page [.pointer t_2, .int .i64 part] (fun v h2 =>
    ∃ t_3 : ByteArray, v = .string t_3 ∧
    (h2.rds bv 0 1 = some [.pointer t_1]) ∧
    CallH Try.prog id_tree_Leaf [.string t_3] (fun v_1 h3 =>
      ∃ t_4 : List Int, t_4.length = 32 ∧ v_1 = .agg ((t_4.map (Value.int .u8) ++ [])).toArray ∧
      (h3.rds bv 0 1 = some [.pointer t_1]) ∧
      (0 ≤ (IntKind.wrap .i64 ((16 : Int) + part)) ∧ (IntKind.wrap .i64 ((16 : Int) + part)) < (32 : Nat)) ∧
      stH h3 bv_1 ((ov + 16) + (IntKind.wrap .i64 ((16 : Int) + part)).toNat * 32) (t_4.map (Value.int .u8) ++ []) fun h4 =>
      LoopP (T := Int × Unit) (fun Jv st h5 =>
        (((decide (st.1 > (0 : Int))) = true →
            CallH Try.prog id_tree_Tree_anew_1 [.int .i64 st.1, .pointer (some ⟨bv, 0, none⟩)] (fun _ h6 =>
              Jv ((IntKind.wrap .i64 (st.1.tdiv (2 : Int))), ()) h6) h5) ∧
          ((decide (st.1 > (0 : Int))) = false →
            K (.tuple #[]) h5))) ((IntKind.wrap .i64 ((IntKind.wrap .i64 ((16 : Int) + part)).tdiv (2 : Int))), ()) h4) h2) h1
theorem F_tree_Tree_anew_eq {t : Option Addr} {part : Int} {K : Value → PH → Prop} {h : PH} : @Eq Prop (F_tree_Tree_anew t part K h) (denF Try.prog Try.f50 ⟨[], [(1, .of [0, 1, 2, 3, 4, 7, 8, 5, 6, 9, 10])], [(0, ⟨[(5, .int .i64)], [], []⟩)], []⟩ [.v (.pointer t), .v (.int .i64 part)] K h) := by
  kernel_rfl
theorem F_tree_Tree_anew_ok {t : Option Addr} {part : Int}  {K : Value → PH → Prop} {h : PH} (hh : F_tree_Tree_anew t part K h) : CallH Try.prog id_tree_Tree_anew [.pointer t, .int .i64 part] K h :=
  denF_sound' Try.func50 (H := ⟨[], [(1, .of [0, 1, 2, 3, 4, 7, 8, 5, 6, 9, 10])], [(0, ⟨[(5, .int .i64)], [], []⟩)], []⟩) (xs := [.v (.pointer t), .v (.int .i64 part)]) (by kernel_rfl) (⟨rfl, rfl, trivial⟩) (den_of F_tree_Tree_anew_eq hh)

/- (*twinlock/tree.Tree).find-1 -/
def F_tree_Tree_find_1 (x0 : ByteArray) (_ : ByteArray) (p : ByteArray) (K : Value → PH → Prop) (h : PH) : Prop :=
  CallH Try.prog id_strings_Compare [.string x0, .string p] (fun v h1 =>
    ∃ t : Int, v = .int .i64 t ∧
    K (.int .i64 t) h1) h
theorem F_tree_Tree_find_1_eq {x0 : ByteArray} {x1 : ByteArray} {p : ByteArray} {K : Value → PH → Prop} {h : PH} : @Eq Prop (F_tree_Tree_find_1 x0 x1 p K h) (denF Try.prog Try.f70 ⟨[2], [], [], []⟩ [.agg [.one (.string x0), .one (.string x1)], .v (.string p)] K h) := by
  kernel_rfl
theorem F_tree_Tree_find_1_ok {x0 : ByteArray} {x1 : ByteArray} {p : ByteArray}  {K : Value → PH → Prop} {h : PH} (hh : F_tree_Tree_find_1 x0 x1 p K h) : CallH Try.prog id_tree_Tree_find_1 [.agg #[.string x0, .string x1], .string p] K h :=
  denF_sound' Try.func70 (H := ⟨[2], [], [], []⟩) (xs := [.agg [.one (.string x0), .one (.string x1)], .v (.string p)]) (by kernel_rfl) (⟨⟨rfl, rfl, trivial⟩, rfl, trivial⟩) (den_of F_tree_Tree_find_1_eq hh)

/- (*twinlock/tree.Tree).anew-1 -/
def F_tree_Tree_anew_1 (k : Int) (cap0B : Nat) (K : Value → PH → Prop) (h : PH) : Prop :=
  ∃ t : Option Addr, (h.rds cap0B 0 1 = some [.pointer t]) ∧
  ∃ t_1 : Option Addr, (h.rds cap0B 0 1 = some [.pointer t_1]) ∧
  ∃ bv ov : Nat, t_1 = some ⟨bv, ov, none⟩ ∧
  (0 ≤ (IntKind.wrap .i64 ((2 : Int) * k)) ∧ (IntKind.wrap .i64 ((2 : Int) * k)) < (32 : Nat)) ∧
  ∃ t_2 : List Int, t_2.length = 32 ∧ (h.rds bv ((ov + 16) + (IntKind.wrap .i64 ((2 : Int) * k)).toNat * 32) 32 = some (t_2.map (Value.int .u8) ++ [])) ∧
  ∃ t_3 : Option Addr, (h.rds cap0B 0 1 = some [.pointer t_3]) ∧
  ∃ bv_1 ov_1 : Nat, t_3 = some ⟨bv_1, ov_1, none⟩ ∧
  (0 ≤ (IntKind.wrap .i64 ((IntKind.wrap .i64 ((2 : Int) * k)) + (1 : Int))) ∧ (IntKind.wrap .i64 ((IntKind.wrap .i64 ((2 : Int) * k)) + (1 : Int))) < (32 : Nat)) ∧
  ∃ t_4 : List Int, t_4.length = 32 ∧ (h.rds bv_1 ((ov_1 + 16) + (IntKind.wrap .i64 ((IntKind.wrap .i64 ((2 : Int) * k)) + (1 : Int))).toNat * 32) 32 = some (t_4.map (Value.int .u8) ++ [])) ∧
  ∃ bv_2 ov_2 : Nat, t = some ⟨bv_2, ov_2, none⟩ ∧
  CallH Try.prog id_tree_Inner [.agg ((t_2.map (Value.int .u8) ++ [])).toArray, .agg ((t_4.map (Value.int .u8) ++ [])).toArray] (fun v h1 =>
    ∃ t_5 : List Int, t_5.length = 32 ∧ v = .agg ((t_5.map (Value.int .u8) ++ [])).toArray ∧
    (h1.rds cap0B 0 1 = some [.pointer t]) ∧
    (0 ≤ k ∧ k < (32 : Nat)) ∧
    stH h1 bv_2 ((ov_2 + 16) + k.toNat * 32) (t_5.map (Value.int .u8) ++ []) fun h2 =>
    K (.tuple #[]) h2) h
theorem F_tree_Tree_anew_1_eq {k : Int} {cap0B : Nat} {K : Value → PH → Prop} {h : PH} : @Eq Prop (F_tree_Tree_anew_1 k cap0B K h) (denF Try.prog Try.f74 ⟨[], [(0, .of [0, 1, 2, 3, 4, 5, 6, 7, 8, 9, 10, 11, 12, 13, 14, 15, 16, 18, 19, 17, 20, 21])], [], []⟩ [.v (.int .i64 k), .v (.pointer (some ⟨cap0B, 0, none⟩))] K h) := by
  kernel_rfl
theorem F_tree_Tree_anew_1_ok {k : Int} {cap0B : Nat}  {K : Value → PH → Prop} {h : PH} (hh : F_tree_Tree_anew_1 k cap0B K h) : CallH Try.prog id_tree_Tree_anew_1 [.int .i64 k, .pointer (some ⟨cap0B, 0, none⟩)] K h :=
  denF_sound' Try.func74 (H := ⟨[], [(0, .of [0, 1, 2, 3, 4, 5, 6, 7, 8, 9, 10, 11, 12, 13, 14, 15, 16, 18, 19, 17, 20, 21])], [], []⟩) (xs := [.v (.int .i64 k), .v (.pointer (some ⟨cap0B, 0, none⟩))]) (by kernel_rfl) (⟨rfl, rfl, trivial⟩) (den_of F_tree_Tree_anew_1_eq hh)


end TL

namespace TL
open Go Go.Proofs
/- math/bits.Len64 -/
def F_math_bits_Len64 (xv : Int) (K : Value → PH → Prop) (h : PH) : Prop :=
  JoinP (T := Int × Int × Unit) (fun Jv =>
    (((decide (xv ≥ (4294967296 : Int))) = true →
        Jv ((shrV .u64 xv (32 : Int)), (32 : Int), ()) h) ∧
      ((decide (xv ≥ (4294967296 : Int))) = false →
        Jv (xv, (0 : Int), ()) h)))
  (fun st h1 =>
    JoinP (T := Int × Int × Unit) (fun Jv_1 =>
      (((decide (st.1 ≥ (65536 : Int))) = true →
          Jv_1 ((shrV .u64 st.1 (16 : Int)), (IntKind.wrap .i64 (st.2.1 + (16 : Int))), ()) h1) ∧
        ((decide (st.1 ≥ (65536 : Int))) = false →
          Jv_1 (st.1, st.2.1, ()) h1)))
    (fun st_1 h2 =>
      (((decide (st_1.1 ≥ (256 : Int))) = true →
          (0 ≤ (IntKind.wrap .u8 (shrV .u64 st_1.1 (8 : Int))) ∧ (IntKind.wrap .u8 (shrV .u64 st_1.1 (8 : Int))) < (ByteArray.size (⟨#[0, 1, 2, 2, 3, 3, 3, 3, 4, 4, 4, 4, 4, 4, 4, 4, 5, 5, 5, 5, 5, 5, 5, 5, 5, 5, 5, 5, 5, 5, 5, 5, 6, 6, 6, 6, 6, 6, 6, 6, 6, 6, 6, 6, 6, 6, 6, 6, 6, 6, 6, 6, 6, 6, 6, 6, 6, 6, 6, 6, 6, 6, 6, 6, 7, 7, 7, 7, 7, 7, 7, 7, 7, 7, 7, 7, 7, 7, 7, 7, 7, 7, 7, 7, 7, 7, 7, 7, 7, 7, 7, 7, 7, 7, 7, 7, 7, 7, 7, 7, 7, 7, 7, 7, 7, 7, 7, 7, 7, 7, 7, 7, 7, 7, 7, 7, 7, 7, 7, 7, 7, 7, 7, 7, 7, 7, 7, 7, 8, 8, 8, 8, 8, 8, 8, 8, 8, 8, 8, 8, 8, 8, 8, 8, 8, 8, 8, 8, 8, 8, 8, 8, 8, 8, 8, 8, 8, 8, 8, 8, 8, 8, 8, 8, 8, 8, 8, 8, 8, 8, 8, 8, 8, 8, 8, 8, 8, 8, 8, 8, 8, 8, 8, 8, 8, 8, 8, 8, 8, 8, 8, 8, 8, 8, 8, 8, 8, 8, 8, 8, 8, 8, 8, 8, 8, 8, 8, 8, 8, 8, 8, 8, 8, 8, 8, 8, 8, 8, 8, 8, 8, 8, 8, 8, 8, 8, 8, 8, 8, 8, 8, 8, 8, 8, 8, 8, 8, 8, 8, 8, 8, 8, 8, 8, 8, 8, 8, 8, 8, 8, 8, 8, 8, 8, 8, 8]⟩ : ByteArray) : Nat)) ∧
          K (.int .i64 (IntKind.wrap .i64 ((IntKind.wrap .i64 (st_1.2.1 + (8 : Int))) + (IntKind.wrap .i64 (byteAt (⟨#[0, 1, 2, 2, 3, 3, 3, 3, 4, 4, 4, 4, 4, 4, 4, 4, 5, 5, 5, 5, 5, 5, 5, 5, 5, 5, 5, 5, 5, 5, 5, 5, 6, 6, 6, 6, 6, 6, 6, 6, 6, 6, 6, 6, 6, 6, 6, 6, 6, 6, 6, 6, 6, 6, 6, 6, 6, 6, 6, 6, 6, 6, 6, 6, 7, 7, 7, 7, 7, 7, 7, 7, 7, 7, 7, 7, 7, 7, 7, 7, 7, 7, 7, 7, 7, 7, 7, 7, 7, 7, 7, 7, 7, 7, 7, 7, 7, 7, 7, 7, 7, 7, 7, 7, 7, 7, 7, 7, 7, 7, 7, 7, 7, 7, 7, 7, 7, 7, 7, 7, 7, 7, 7, 7, 7, 7, 7, 7, 8, 8, 8, 8, 8, 8, 8, 8, 8, 8, 8, 8, 8, 8, 8, 8, 8, 8, 8, 8, 8, 8, 8, 8, 8, 8, 8, 8, 8, 8, 8, 8, 8, 8, 8, 8, 8, 8, 8, 8, 8, 8, 8, 8, 8, 8, 8, 8, 8, 8, 8, 8, 8, 8, 8, 8, 8, 8, 8, 8, 8, 8, 8, 8, 8, 8, 8, 8, 8, 8, 8, 8, 8, 8, 8, 8, 8, 8, 8, 8, 8, 8, 8, 8, 8, 8, 8, 8, 8, 8, 8, 8, 8, 8, 8, 8, 8, 8, 8, 8, 8, 8, 8, 8, 8, 8, 8, 8, 8, 8, 8, 8, 8, 8, 8, 8, 8, 8, 8, 8, 8, 8, 8, 8, 8, 8, 8, 8]⟩ : ByteArray) (IntKind.wrap .u8 (shrV .u64 st_1.1 (8 : Int)))))))) h2) ∧
        ((decide (st_1.1 ≥ (256 : Int))) = false →
          (0 ≤ (IntKind.wrap .u8 st_1.1) ∧ (IntKind.wrap .u8 st_1.1) < (ByteArray.size (⟨#[0, 1, 2, 2, 3, 3, 3, 3, 4, 4, 4, 4, 4, 4, 4, 4, 5, 5, 5, 5, 5, 5, 5, 5, 5, 5, 5, 5, 5, 5, 5, 5, 6, 6, 6, 6, 6, 6, 6, 6, 6, 6, 6, 6, 6, 6, 6, 6, 6, 6, 6, 6, 6, 6, 6, 6, 6, 6, 6, 6, 6, 6, 6, 6, 7, 7, 7, 7, 7, 7, 7, 7, 7, 7, 7, 7, 7, 7, 7, 7, 7, 7, 7, 7, 7, 7, 7, 7, 7, 7, 7, 7, 7, 7, 7, 7, 7, 7, 7, 7, 7, 7, 7, 7, 7, 7, 7, 7, 7, 7, 7, 7, 7, 7, 7, 7, 7, 7, 7, 7, 7, 7, 7, 7, 7, 7, 7, 7, 8, 8, 8, 8, 8, 8, 8, 8, 8, 8, 8, 8, 8, 8, 8, 8, 8, 8, 8, 8, 8, 8, 8, 8, 8, 8, 8, 8, 8, 8, 8, 8, 8, 8, 8, 8, 8, 8, 8, 8, 8, 8, 8, 8, 8, 8, 8, 8, 8, 8, 8, 8, 8, 8, 8, 8, 8, 8, 8, 8, 8, 8, 8, 8, 8, 8, 8, 8, 8, 8, 8, 8, 8, 8, 8, 8, 8, 8, 8, 8, 8, 8, 8, 8, 8, 8, 8, 8, 8, 8, 8, 8, 8, 8, 8, 8, 8, 8, 8, 8, 8, 8, 8, 8, 8, 8, 8, 8, 8, 8, 8, 8, 8, 8, 8, 8, 8, 8, 8, 8, 8, 8, 8, 8, 8, 8, 8, 8]⟩ : ByteArray) : Nat)) ∧
          K (.int .i64 (IntKind.wrap .i64 (st_1.2.1 + (IntKind.wrap .i64 (byteAt (⟨#[0, 1, 2, 2, 3, 3, 3, 3, 4, 4, 4, 4, 4, 4, 4, 4, 5, 5, 5, 5, 5, 5, 5, 5, 5, 5, 5, 5, 5, 5, 5, 5, 6, 6, 6, 6, 6, 6, 6, 6, 6, 6, 6, 6, 6, 6, 6, 6, 6, 6, 6, 6, 6, 6, 6, 6, 6, 6, 6, 6, 6, 6, 6, 6, 7, 7, 7, 7, 7, 7, 7, 7, 7, 7, 7, 7, 7, 7, 7, 7, 7, 7, 7, 7, 7, 7, 7, 7, 7, 7, 7, 7, 7, 7, 7, 7, 7, 7, 7, 7, 7, 7, 7, 7, 7, 7, 7, 7, 7, 7, 7, 7, 7, 7, 7, 7, 7, 7, 7, 7, 7, 7, 7, 7, 7, 7, 7, 7, 8, 8, 8, 8, 8, 8, 8, 8, 8, 8, 8, 8, 8, 8, 8, 8, 8, 8, 8, 8, 8, 8, 8, 8, 8, 8, 8, 8, 8, 8, 8, 8, 8, 8, 8, 8, 8, 8, 8, 8, 8, 8, 8, 8, 8, 8, 8, 8, 8, 8, 8, 8, 8, 8, 8, 8, 8, 8, 8, 8, 8, 8, 8, 8, 8, 8, 8, 8, 8, 8, 8, 8, 8, 8, 8, 8, 8, 8, 8, 8, 8, 8, 8, 8, 8, 8, 8, 8, 8, 8, 8, 8, 8, 8, 8, 8, 8, 8, 8, 8, 8, 8, 8, 8, 8, 8, 8, 8, 8, 8, 8, 8, 8, 8, 8, 8, 8, 8, 8, 8, 8, 8, 8, 8, 8, 8, 8, 8]⟩ : ByteArray) (IntKind.wrap .u8 st_1.1)))))) h2))))
theorem F_math_bits_Len64_eq {xv : Int} {K : Value → PH → Prop} {h : PH} : @Eq Prop (F_math_bits_Len64 xv K h) (denF Try.prog Try.f92 ⟨[], [], [], [(10, ⟨[(0, .int .u64), (2, .int .i64)], [], []⟩), (16, ⟨[(0, .int .u64), (2, .int .i64)], [], []⟩)]⟩ [.v (.int .u64 xv)] K h) := by
  kernel_rfl
theorem F_math_bits_Len64_ok {xv : Int}  {K : Value → PH → Prop} {h : PH} (hh : F_math_bits_Len64 xv K h) : CallH Try.prog id_math_bits_Len64 [.int .u64 xv] K h :=
  denF_sound' Try.func92 (H := ⟨[], [], [], [(10, ⟨[(0, .int .u64), (2, .int .i64)], [], []⟩), (16, ⟨[(0, .int .u64), (2, .int .i64)], [], []⟩)]⟩) (xs := [.v (.int .u64 xv)]) (by kernel_rfl) (⟨rfl, trivial⟩) (den_of F_math_bits_Len64_eq hh)

end TL
