/-
  The given statements of one layer. No condition.
-/
import Derived.Test.YtdbleohhiakpgaaTree
import Derived.Test.YtdbleohhiakpgaaLibD
import Derived.Test.YtdbleohhiakpgaaRows
import Derived.WalkKit
import Derived.ProofKit
import Derived.OpenShut
namespace Go.Proofs.Ytdbleohhiakpgaa
open Go.ChangeShapes Go.WideShapes Go.ChangeAt Go.RowKit TL

theorem own : ownKnob Try.prog.godebug = none := by kernel_rfl
section
variable {H : Type} {enc : TypeId × Value → H} {w : World}
set_option maxRecDepth 100000 in
theorem oStr' {v : Value} {d : DataW H} {ps : List MemPlace} {r : Reach} {base : Nat} (h : DataW.Trod enc Try.prog w 0 (fun _ => true) true 9 v d ps) (hv : Value.okWide Try.prog w r base 9 v) :
    ∃ p : List UInt8, v = .string (mk p) ∧ p.length ≤ maxLen := by
  obtain ⟨s, rfl, hs⟩ := open_str (by kernel_rfl) h hv
  obtain ⟨p, rfl⟩ := ex_mk s
  exact ⟨p, rfl, by rw [size_mk] at hs; exact hs⟩
end
section
variable {W : World} {K : Value → PH → Prop}
theorem TreeNobody_den' {q0 : List UInt8} {q1 : List UInt8} {q2 : Int} {q3 : Int} (_ : q0.length ≤ maxLen) (_ : q1.length ≤ maxLen) (_ : (Lit.int .i64 q2).wf = true) (_ : (Lit.int .i64 q3).wf = true) (hk : ∀ h', (whole W).Sub h' → K (.bool true) h') :
    CallH Try.prog id_law15_TreeNobody [.string (mk q0), .string (mk q1), .int .i64 q2, .int .i64 q3] K (whole W) := TreeNobody_den  hk
end
set_option maxRecDepth 100000 in
theorem treeNobody_lifted (os : Os) (started : os.Started) (H : Type) (enc : TypeId × Value → H) :
    ReturnsInHanded {} Try.checked os 8 .any (Rows.treeNobodySpec.pre6 enc Try.prog Try.f8 Rows.treeNobodyRow.domain false) (Rows.treeNobodySpec.post enc Try.prog Try.f8 false true false false) := by
  refine returnsInHanded_of_change (C := Try.checked) own started (by kernel_rfl) Try.func8
    (ChangeSpec.witness6 (enc := enc) (C := Try.checked) false ⟨#[], #[.string ⟨#[]⟩, .string ⟨#[]⟩, .int .i64 0, .int .i64 0], []⟩ 8 (by kernel_rfl) (by kernel_rfl) (by kernel_rfl) (by kernel_rfl)) ?_
  intro W base args ds gs before hval0 hW hcnd _
  have hW' := hW
  obtain ⟨p, q, hA0, hV, rfl, hfz, hnd⟩ := hW
  have hA : DataW.TrodAll enc Try.prog W 0 (fun _ => true) true [9, 9, 3, 3] args.toList ds p := hA0
  obtain ⟨v0, v1, v2, v3, d0, d1, d2, d3, p0, p1, p2, p3, rfl, rfl, rfl, t0, t1, t2, t3⟩ := trodAll_four hA
  obtain ⟨rfl, rfl⟩ := trodVars_none hV
  simp only [List.append_nil] at hW'
  obtain ⟨q0, rfl, hq0⟩ := oStr' t0 (hval0 0 9 v0 rfl rfl)
  obtain ⟨q1, rfl, hq1⟩ := oStr' t1 (hval0 1 9 v1 rfl rfl)
  obtain ⟨n2, rfl, h2⟩ := open_int (k := .i64) (by kernel_rfl) t2 (hval0 2 3 v2 rfl rfl)
  obtain ⟨n3, rfl, h3⟩ := open_int (k := .i64) (by kernel_rfl) t3 (hval0 3 3 v3 rfl rfl)
  refine (law_call (f := 8) (TreeNobody_den' hq0 hq1 h2 h3 fun h' hs => ⟨rfl, hs⟩)).mono fun e W' ⟨he, hg⟩ => ?_
  subst he
  exact ⟨_, rfl, law_post (pa := _) (pv := []) hW' (fun _ _ _ => (trodAll_cons_mk (shut_bool (t := 4) (by kernel_rfl) _) trodAll_mk0)) (fun sp hsp => all_stays (by kernel_rfl) hg (by decide +kernel) hA (fun x hx => hW'.lt x hx) sp hsp) (fun _ _ => rfl) (by simp)
    hg (ok_one (t := 4) (by kernel_rfl) rfl (okWide_bool_mk (by kernel_rfl) _))⟩
theorem treeNobody_over : Rows.treeNobodyRow.holds Try.pinned (OpenSpec.ofChange Rows.treeNobodySpec) :=
  OpenClaim.holds_of_wide 8 Try.f8 rfl rfl rfl rfl rfl rfl rfl ⟨rfl, rfl, rfl, rfl, rfl⟩ rfl rfl rfl rfl rfl (by kernel_rfl) Try.func8 (by kernel_rfl)
    (of_decide_eq_true (by kernel_rfl)) (by unfold Func.isWrapper; first | (rw [if_pos (by decide +kernel)]; kernel_rfl) | (rw [if_neg (by decide +kernel)]; exact ⟨rfl, rfl⟩))
    (fun os started H enc _ => treeNobody_lifted os started H enc)
theorem treeNobody_holds : Rows.TreeNobodySaid := treeNobody_over
#print axioms treeNobody_holds
end Go.Proofs.Ytdbleohhiakpgaa
