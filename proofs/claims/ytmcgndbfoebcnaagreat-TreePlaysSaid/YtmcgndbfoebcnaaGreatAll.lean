/-
  The given statements of one layer. No condition.
-/
import Derived.Test.YtmcgndbfoebcnaaGreatLaws
import Derived.Test.YtmcgndbfoebcnaaGreatLibD
import Derived.Test.YtmcgndbfoebcnaaGreatRows
import Derived.WalkKit
import Derived.ProofKit
import Derived.OpenShut
namespace Go.Proofs.YtmcgndbfoebcnaaGreat
open Go.ChangeShapes Go.WideShapes Go.ChangeAt Go.RowKit TL

theorem own : ownKnob Tryz.prog.godebug = none := by kernel_rfl
section
variable {H : Type} {enc : TypeId × Value → H} {w : World}
set_option maxRecDepth 100000 in
theorem hTa (n : Nat) (cs : List Value) (y : DataW H × List MemPlace) (h : DataW.trod enc Tryz.prog w 0 (fun _ => true) true n 31 cs = some y) : ∃ x, cs = EncOp.enc x ∧ True := by
  have hs0 := dT_ok 5 (ks := [.int .u8, .str, .str]) (by kernel_rfl) h
  obtain ⟨x0, _, rfl, _, hs1⟩ := sT_int hs0
  obtain ⟨x1, _, rfl, _, hs2⟩ := sT_str hs1
  obtain ⟨x2, _, rfl, _, hs3⟩ := sT_str hs2
  cases sT_nil hs3
  obtain ⟨y1, rfl⟩ := ex_mk x1
  obtain ⟨y2, rfl⟩ := ex_mk x2
  exact ⟨⟨x0, y1, y2⟩, rfl, trivial⟩
set_option maxRecDepth 100000 in
theorem oActs {v : Value} (h : Trd enc Tryz.prog w 22 v) (h1 : one1 v = true) : ∃ (a : Option Addr) (l : List OpR) (c : Nat), v = .slice a l.length c ∧ SR EncOp (whole w) a l := by
  obtain ⟨a, l, c, h1, h2, _, _, _⟩ := open_rowsQ (E := EncOp) (Q := fun _ => True) (e := 31) (by kernel_rfl) (by kernel_rfl) hTa h h1
  exact ⟨a, l, c, h1, h2⟩
set_option maxRecDepth 100000 in
theorem oActs' {v : Value} {d : DataW H} {ps : List MemPlace} {r : Reach} {base : Nat} (h : DataW.Trod enc Tryz.prog w 0 (fun _ => true) true 22 v d ps) (hv : Value.okWide Tryz.prog w r base 22 v) :
    ∃ (a : Option Addr) (l : List OpR) (c : Nat), v = .slice a l.length c ∧ SR EncOp (whole w) a l := oActs ⟨d, ps, h⟩ (one_slice (e := 31) (by kernel_rfl) hv)
end
section
variable {W : World} {K : Value → PH → Prop}
theorem TreePlays_den' {q0A : Option Addr} {q0 : List OpR} {q0C : Nat} (hq0 : SR EncOp (whole W) q0A q0) (hk : ∀ h', (whole W).Sub h' → K (.bool true) h') :
    CallH Tryz.prog id_law15_TreePlays [.slice q0A q0.length q0C] K (whole W) := TreePlays_den hq0 hk
end
set_option maxRecDepth 100000 in
theorem treePlays_lifted (os : Os) (started : os.Started) (H : Type) (enc : TypeId × Value → H) :
    ReturnsInHanded {} Tryz.checked os 3 .any (Rows.treePlaysSpec.pre6 enc Tryz.prog Tryz.f3 Rows.treePlaysRow.domain false) (Rows.treePlaysSpec.post enc Tryz.prog Tryz.f3 false true false false) := by
  refine returnsInHanded_of_change (C := Tryz.checked) own started (by kernel_rfl) Tryz.func3
    (ChangeSpec.witness6 (enc := enc) (C := Tryz.checked) false ⟨#[], #[.slice none 0 0], []⟩ 8 (by kernel_rfl) (by kernel_rfl) (by kernel_rfl) (by kernel_rfl)) ?_
  intro W base args ds gs before hval0 hW hcnd _
  have hW' := hW
  obtain ⟨p, q, hA0, hV, rfl, hfz, hnd⟩ := hW
  have hA : DataW.TrodAll enc Tryz.prog W 0 (fun _ => true) true [22] args.toList ds p := hA0
  obtain ⟨v0, d0, rfl, rfl, t0⟩ := trodAll_one hA
  obtain ⟨rfl, rfl⟩ := trodVars_none hV
  simp only [List.append_nil] at hW'
  obtain ⟨q0A, q0, q0C, rfl, hq0⟩ := oActs' t0 (hval0 0 22 v0 rfl rfl)
  refine (law_call (f := 3) (TreePlays_den' hq0 fun h' hs => ⟨rfl, hs⟩)).mono fun e W' ⟨he, hg⟩ => ?_
  subst he
  exact ⟨_, rfl, law_post (pa := _) (pv := []) hW' (fun _ _ _ => (trodAll_cons_mk (shut_bool (t := 4) (by kernel_rfl) _) trodAll_mk0)) (fun sp hsp => all_stays (by kernel_rfl) hg (by decide +kernel) hA (fun x hx => hW'.lt x hx) sp hsp) (fun _ _ => rfl) (by simp)
    hg (ok_one (t := 4) (by kernel_rfl) rfl (okWide_bool_mk (by kernel_rfl) _))⟩
set_option maxHeartbeats 100000000 in
set_option maxRecDepth 100000 in
theorem treePlays_closed : joinedFacts Tryz.prog 3 Tryz.f3 Rows.treePlaysSpec Rows.treePlaysRow = true := by
  unfold joinedFacts
  simp only [Bool.and_eq_true]
  repeat' refine And.intro ?_ ?_
  all_goals (as_aux_lemma => kernel_rfl)
theorem treePlays_over : Rows.treePlaysRow.holds Tryz.pinned (OpenSpec.ofChange Rows.treePlaysSpec) :=
  OpenClaim.holds_of_wide 3 Tryz.f3 rfl rfl rfl rfl rfl rfl rfl ⟨rfl, rfl, rfl, rfl, rfl⟩ rfl rfl rfl rfl rfl (by kernel_rfl) Tryz.func3 treePlays_closed
    (of_decide_eq_true (by kernel_rfl)) (by unfold Func.isWrapper; first | (rw [if_pos (by decide +kernel)]; kernel_rfl) | (rw [if_neg (by decide +kernel)]; exact ⟨rfl, rfl⟩))
    (fun os started H enc _ => treePlays_lifted os started H enc)
theorem treePlays_holds : Rows.TreePlaysSaid := treePlays_over
#print axioms treePlays_holds
end Go.Proofs.YtmcgndbfoebcnaaGreat
