/-
  The given statements of one layer. No condition.
-/
import Derived.Test.YtdbleohhiakpgaaTree
import Derived.Test.YtdbleohhiakpgaaLibD
import Derived.Test.YtdbleohhiakpgaaRows
import Derived.WalkKit
import Derived.ProofKit
import Derived.OpenShut
namespace Go.Proofs.Ytdbleohhiakpgaa
open Go.ChangeShapes Go.WideShapes Go.ChangeAt Go.RowKit TL

theorem own : ownKnob Try.prog.godebug = none := by kernel_rfl
section
variable {H : Type} {enc : TypeId × Value → H} {w : World}
set_option maxRecDepth 100000 in
theorem hTa (n : Nat) (cs : List Value) (y : DataW H × List MemPlace) (h : DataW.trod enc Try.prog w 0 (fun _ => true) true n 24 cs = some y) : ∃ x, cs = EncOp.enc x ∧ True := by
  have hs0 := dT_ok 5 (ks := [.int .u8, .str, .str]) (by kernel_rfl) h
  obtain ⟨x0, _, rfl, _, hs1⟩ := sT_int hs0
  obtain ⟨x1, _, rfl, _, hs2⟩ := sT_str hs1
  obtain ⟨x2, _, rfl, _, hs3⟩ := sT_str hs2
  cases sT_nil hs3
  obtain ⟨y1, rfl⟩ := ex_mk x1
  obtain ⟨y2, rfl⟩ := ex_mk x2
  exact ⟨⟨x0, y1, y2⟩, rfl, trivial⟩
set_option maxRecDepth 100000 in
theorem oActs {v : Value} (h : Trd enc Try.prog w 22 v) (h1 : one1 v = true) : ∃ (a : Option Addr) (l : List OpR) (c : Nat), v = .slice a l.length c ∧ SR EncOp (whole w) a l := by
  obtain ⟨a, l, c, h1, h2, _, _, _⟩ := open_rowsQ (E := EncOp) (Q := fun _ => True) (e := 24) (by kernel_rfl) (by kernel_rfl) hTa h h1
  exact ⟨a, l, c, h1, h2⟩
set_option maxRecDepth 100000 in
theorem oActs' {v : Value} {d : DataW H} {ps : List MemPlace} {r : Reach} {base : Nat} (h : DataW.Trod enc Try.prog w 0 (fun _ => true) true 22 v d ps) (hv : Value.okWide Try.prog w r base 22 v) :
    ∃ (a : Option Addr) (l : List OpR) (c : Nat), v = .slice a l.length c ∧ SR EncOp (whole w) a l := oActs ⟨d, ps, h⟩ (one_slice (e := 24) (by kernel_rfl) hv)
end
section
variable {W : World} {K : Value → PH → Prop}
theorem TreeRoots_den' {q0A : Option Addr} {q0 : List OpR} {q0C : Nat} {q1A : Option Addr} {q1 : List OpR} {q1C : Nat} (hq0 : SR EncOp (whole W) q0A q0) (hq1 : SR EncOp (whole W) q1A q1) (hk : ∀ h', (whole W).Sub h' → K (.bool true) h') :
    CallH Try.prog id_law15_TreeRoots [.slice q0A q0.length q0C, .slice q1A q1.length q1C] K (whole W) := TreeRoots_den hq0 hq1 hk
end
set_option maxRecDepth 100000 in
theorem treeRoots_lifted (os : Os) (started : os.Started) (H : Type) (enc : TypeId × Value → H) :
    ReturnsInHanded {} Try.checked os 9 .any (Rows.treeRootsSpec.pre6 enc Try.prog Try.f9 Rows.treeRootsRow.domain false) (Rows.treeRootsSpec.post enc Try.prog Try.f9 false true false false) := by
  refine returnsInHanded_of_change (C := Try.checked) own started (by kernel_rfl) Try.func9
    (ChangeSpec.witness6 (enc := enc) (C := Try.checked) false ⟨#[], #[.slice none 0 0, .slice none 0 0], []⟩ 8 (by kernel_rfl) (by kernel_rfl) (by kernel_rfl) (by kernel_rfl)) ?_
  intro W base args ds gs before hval0 hW hcnd _
  have hW' := hW
  obtain ⟨p, q, hA0, hV, rfl, hfz, hnd⟩ := hW
  have hA : DataW.TrodAll enc Try.prog W 0 (fun _ => true) true [22, 22] args.toList ds p := hA0
  obtain ⟨v0, v1, d0, d1, p0, p1, rfl, rfl, rfl, t0, t1⟩ := trodAll_two hA
  obtain ⟨rfl, rfl⟩ := trodVars_none hV
  simp only [List.append_nil] at hW'
  obtain ⟨q0A, q0, q0C, rfl, hq0⟩ := oActs' t0 (hval0 0 22 v0 rfl rfl)
  obtain ⟨q1A, q1, q1C, rfl, hq1⟩ := oActs' t1 (hval0 1 22 v1 rfl rfl)
  refine (law_call (f := 9) (TreeRoots_den' hq0 hq1 fun h' hs => ⟨rfl, hs⟩)).mono fun e W' ⟨he, hg⟩ => ?_
  subst he
  exact ⟨_, rfl, law_post (pa := _) (pv := []) hW' (fun _ _ _ => (trodAll_cons_mk (shut_bool (t := 4) (by kernel_rfl) _) trodAll_mk0)) (fun sp hsp => all_stays (by kernel_rfl) hg (by decide +kernel) hA (fun x hx => hW'.lt x hx) sp hsp) (fun _ _ => rfl) (by simp)
    hg (ok_one (t := 4) (by kernel_rfl) rfl (okWide_bool_mk (by kernel_rfl) _))⟩
theorem treeRoots_over : Rows.treeRootsRow.holds Try.pinned (OpenSpec.ofChange Rows.treeRootsSpec) :=
  OpenClaim.holds_of_wide 9 Try.f9 rfl rfl rfl rfl rfl rfl rfl ⟨rfl, rfl, rfl, rfl, rfl⟩ rfl rfl rfl rfl rfl (by kernel_rfl) Try.func9 (by kernel_rfl)
    (of_decide_eq_true (by kernel_rfl)) (by unfold Func.isWrapper; first | (rw [if_pos (by decide +kernel)]; kernel_rfl) | (rw [if_neg (by decide +kernel)]; exact ⟨rfl, rfl⟩))
    (fun os started H enc _ => treeRoots_lifted os started H enc)
theorem treeRoots_holds : Rows.TreeRootsSaid := treeRoots_over
#print axioms treeRoots_holds
end Go.Proofs.Ytdbleohhiakpgaa
