/-
  Statements of layer walk: a nil walk. No condition.
-/
import Derived.Test.YtmcgndbfoebcnaaGreatWalkB
import Derived.Test.YtmcgndbfoebcnaaGreatTreeB
namespace TL
open Go Go.Proofs
variable {h : PH} {K : Value → PH → Prop}
theorem nWDone (hk : K (.tuple #[.slice none 0 0, .bool false]) h) : CallH Tryz.prog id_walk_Walk_Done [.pointer none] K h :=
  F_walk_Walk_Done_ok ⟨fun _ _ => False, cWNoneNil ⟨_, rfl, 0, 0, fun e => (by cases e), none, fun e => (by cases e), fun e => (by cases e), fun _ => hk⟩, fun _ _ h => h.elim⟩
theorem nWWant {n : Int} (hk : K (.slice none 0 0) h) : CallH Tryz.prog id_walk_Walk_Want [.pointer none, .int .i64 n] K h :=
  F_walk_Walk_Want_ok (cWNoneNil ⟨_, rfl, fun _ => hk, fun e => by simp at e⟩)
theorem nWNode {lv i : Int} {a b : List Int} (ha : a.length = 32) (hb : b.length = 32) (hk : ∀ h', h.Sub h' → K (.bool false) h') : CallH Tryz.prog id_walk_Walk_Node [.pointer none, .int .i64 lv, .int .i64 i, .agg ((a.map (Value.int .u8) ++ [])).toArray, .agg ((b.map (Value.int .u8) ++ [])).toArray] K h :=
  F_walk_Walk_Node_ok ha hb (nwL fun b1 h1 _ _ c1 => nwL fun b2 h2 _ _ c2 => cWNoneNil ⟨_, rfl, fun _ => hk h2 (c1.sub0.tr c2.sub0), fun e => by simp at e⟩)
theorem nWPage {i : Int} {lA : Option Addr} {lN lC : Nat} (hk : K (.bool false) h) : CallH Tryz.prog id_walk_Walk_Page [.pointer none, .int .i64 i, .slice lA lN lC] K h :=
  F_walk_Walk_Page_ok (cWNoneNil ⟨_, rfl, fun _ => hk, fun e => by cases e⟩)
theorem nWRoot (hk : K (.agg (((List.replicate 32 (0 : Int)).map (Value.int .u8) ++ [])).toArray) h) : CallH Tryz.prog id_walk_Walk_Root [.pointer none] K h :=
  F_walk_Walk_Root_ok (cWNoneNil ⟨_, rfl, fun _ => hk, fun e => by cases e⟩)
theorem nWTexts (hk : K (.slice none 0 0) h) : CallH Tryz.prog id_walk_Walk_Texts [.pointer none] K h :=
  F_walk_Walk_Texts_ok (cWNoneNil ⟨_, rfl, fun _ => hk, fun e => by cases e⟩)
theorem wk16 {h1 : PH} (s : h.Sub h1) (hk : ∀ h', h.Sub h' → K (.bool true) h') : CallH Tryz.prog id_law16_wakes [] (fun v h2 => ∃ t : Bool, v = .bool t ∧ K (.bool t) h2) h1 :=
  cWakes16 fun h' s' => ⟨true, rfl, hk h' (s.tr s')⟩
theorem WalkNobody_den {lv i : Int} {a b : List UInt8} (ha : a.length = 32) (hb : b.length = 32) {lA : Option Addr} {lC : Nat} {l : List PrR} (hl : SR EncPr h lA l) (hk : ∀ h', h.Sub h' → K (.bool true) h') :
    CallH Tryz.prog id_law16_WalkNobody [.int .i64 lv, .int .i64 i, .agg (((bi a).map (Value.int .u8) ++ [])).toArray, .agg (((bi b).map (Value.int .u8) ++ [])).toArray, .slice lA l.length lC] K h := by
  have la : (bi a).length = 32 := by rw [bi_len, ha]
  have lb : (bi b).length = 32 := by rw [bi_len, hb]
  refine F_law16_WalkNobody_ok la lb (cGreatPairs hl ⟨_, rfl, fun _ => wk16 (PH.Sub.rf _) hk, fun _ => nWDone ⟨_, _, _, _, rfl, nWWant ⟨_, _, _, rfl, fun _ => nWNode la lb fun h1 s1 => ⟨_, rfl, fun _ => nWPage ⟨_, rfl, fun _ => nWRoot ⟨_, by simp, rfl, fun _ => nWTexts ⟨_, _, _, rfl, fun _ => wk16 s1 hk, fun e => ?_⟩, fun e => ?_⟩, fun e => ?_⟩, fun e => ?_⟩, fun e => ?_⟩⟩⟩)
  · simp at e
  · simp at e
  · simp at e
  · simp at e
  · simp at e
end TL
