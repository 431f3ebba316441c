/-
  The given statements of one layer. No condition.
-/
import Derived.Test.YtdbleohhiakpgaaTree
import Derived.Test.YtdbleohhiakpgaaLibD
import Derived.Test.YtdbleohhiakpgaaRows
import Derived.WalkKit
import Derived.ProofKit
import Derived.OpenShut
namespace Go.Proofs.Ytdbleohhiakpgaa
open Go.ChangeShapes Go.WideShapes Go.ChangeAt Go.RowKit TL

theorem own : ownKnob Try.prog.godebug = none := by kernel_rfl
section
variable {H : Type} {enc : TypeId × Value → H} {w : World}
set_option maxRecDepth 100000 in
theorem oHash' {v : Value} {d : DataW H} {ps : List MemPlace} {r : Reach} {base : Nat} (h : DataW.Trod enc Try.prog w 0 (fun _ => true) true 35 v d ps) (hv : Value.okWide Try.prog w r base 35 v) :
    ∃ x : List UInt8, v = .agg (((bi x).map (Value.int .u8) ++ [])).toArray ∧ x.length = 32 := by
  obtain ⟨vs, rfl, hs⟩ := open_aggT 6 (ks := [.ints .u8 32]) (by kernel_rfl) (by kernel_rfl) h hv
  obtain ⟨l, _, rfl, hl, hw, hs1⟩ := sT_ints hs
  cases sT_nil hs1
  refine ⟨l.map fun n => UInt8.ofNat n.toNat, ?_, by rw [List.length_map, hl]⟩
  have : bi (l.map fun n => UInt8.ofNat n.toNat) = l := by
    unfold bi
    rw [List.map_map]
    conv => rhs; rw [← List.map_id l]
    apply List.map_congr_left
    intro n hn
    have := wf_u8 (hw n hn)
    simp only [Function.comp, id]
    rw [UInt8.toNat_ofNat', Nat.mod_eq_of_lt (by omega)]
    omega
  rw [this]
set_option maxRecDepth 100000 in
theorem oStr' {v : Value} {d : DataW H} {ps : List MemPlace} {r : Reach} {base : Nat} (h : DataW.Trod enc Try.prog w 0 (fun _ => true) true 9 v d ps) (hv : Value.okWide Try.prog w r base 9 v) :
    ∃ p : List UInt8, v = .string (mk p) ∧ p.length ≤ maxLen := by
  obtain ⟨s, rfl, hs⟩ := open_str (by kernel_rfl) h hv
  obtain ⟨p, rfl⟩ := ex_mk s
  exact ⟨p, rfl, by rw [size_mk] at hs; exact hs⟩
end
section
variable {W : World} {K : Value → PH → Prop}
theorem TreeHashes_den' {q0 : List UInt8} {q1 : List UInt8} {q2 : List UInt8} (_ : q0.length ≤ maxLen) (hq1 : q1.length = 32) (hq2 : q2.length = 32) (hk : ∀ h', (whole W).Sub h' → K (.bool true) h') :
    CallH Try.prog id_law15_TreeHashes [.string (mk q0), .agg (((bi q1).map (Value.int .u8) ++ [])).toArray, .agg (((bi q2).map (Value.int .u8) ++ [])).toArray] K (whole W) := TreeHashes_den hq1 hq2 hk
end
set_option maxRecDepth 100000 in
theorem treeHashes_lifted (os : Os) (started : os.Started) (H : Type) (enc : TypeId × Value → H) :
    ReturnsInHanded {} Try.checked os 4 .any (Rows.treeHashesSpec.pre6 enc Try.prog Try.f4 Rows.treeHashesRow.domain false) (Rows.treeHashesSpec.post enc Try.prog Try.f4 false true false false) := by
  refine returnsInHanded_of_change (C := Try.checked) own started (by kernel_rfl) Try.func4
    (ChangeSpec.witness6 (enc := enc) (C := Try.checked) false ⟨#[], #[.string ⟨#[]⟩, .agg (Array.replicate 32 (.int .u8 0)), .agg (Array.replicate 32 (.int .u8 0))], []⟩ 8 (by kernel_rfl) (by kernel_rfl) (by kernel_rfl) (by kernel_rfl)) ?_
  intro W base args ds gs before hval0 hW hcnd _
  have hW' := hW
  obtain ⟨p, q, hA0, hV, rfl, hfz, hnd⟩ := hW
  have hA : DataW.TrodAll enc Try.prog W 0 (fun _ => true) true [9, 35, 35] args.toList ds p := hA0
  obtain ⟨v0, v1, v2, d0, d1, d2, p0, p1, p2, rfl, rfl, rfl, t0, t1, t2⟩ := trodAll_three hA
  obtain ⟨rfl, rfl⟩ := trodVars_none hV
  simp only [List.append_nil] at hW'
  obtain ⟨q0, rfl, hq0⟩ := oStr' t0 (hval0 0 9 v0 rfl rfl)
  obtain ⟨q1, rfl, hq1⟩ := oHash' t1 (hval0 1 35 v1 rfl rfl)
  obtain ⟨q2, rfl, hq2⟩ := oHash' t2 (hval0 2 35 v2 rfl rfl)
  refine (law_call (f := 4) (TreeHashes_den' hq0 hq1 hq2 fun h' hs => ⟨rfl, hs⟩)).mono fun e W' ⟨he, hg⟩ => ?_
  subst he
  exact ⟨_, rfl, law_post (pa := _) (pv := []) hW' (fun _ _ _ => (trodAll_cons_mk (shut_bool (t := 4) (by kernel_rfl) _) trodAll_mk0)) (fun sp hsp => all_stays (by kernel_rfl) hg (by decide +kernel) hA (fun x hx => hW'.lt x hx) sp hsp) (fun _ _ => rfl) (by simp)
    hg (ok_one (t := 4) (by kernel_rfl) rfl (okWide_bool_mk (by kernel_rfl) _))⟩
theorem treeHashes_over : Rows.treeHashesRow.holds Try.pinned (OpenSpec.ofChange Rows.treeHashesSpec) :=
  OpenClaim.holds_of_wide 4 Try.f4 rfl rfl rfl rfl rfl rfl rfl ⟨rfl, rfl, rfl, rfl, rfl⟩ rfl rfl rfl rfl rfl (by kernel_rfl) Try.func4 (by kernel_rfl)
    (of_decide_eq_true (by kernel_rfl)) (by unfold Func.isWrapper; first | (rw [if_pos (by decide +kernel)]; kernel_rfl) | (rw [if_neg (by decide +kernel)]; exact ⟨rfl, rfl⟩))
    (fun os started H enc _ => treeHashes_lifted os started H enc)
theorem treeHashes_holds : Rows.TreeHashesSaid := treeHashes_over
#print axioms treeHashes_holds
end Go.Proofs.Ytdbleohhiakpgaa
