/-
  NetOrder. No condition.
-/
import Derived.Test.YtlgcgalfaljpeaaNet
import Derived.Test.YtlgcgalfaljpeaaLibD
import Derived.Test.YtlgcgalfaljpeaaRows
import Derived.WalkKit
import Derived.ProofKit
import Derived.OpenShut
namespace Go.Proofs.Ytlgcgalfaljpeaa
open Go.ChangeShapes Go.WideShapes Go.ChangeAt Go.RowKit TL

theorem hAct {H : Type} {enc : TypeId × Value → H} {w : World} (n : Nat) (cs : List Value) (y : DataW H × List MemPlace) (h : DataW.trod enc Try.prog w 0 (fun _ => true) true n 44 cs = some y) : ∃ x, cs = EncAct.enc x := by
  have hs := dTy_ok 5 (ks := [.int .i64, .int .i64, .int .i64, .str, .int .i64, .int .u8]) (by kernel_rfl) h
  obtain ⟨a, _, rfl, _, hs⟩ := sh_int hs
  obtain ⟨b, _, rfl, _, hs⟩ := sh_int hs
  obtain ⟨c, _, rfl, _, hs⟩ := sh_int hs
  obtain ⟨d, _, rfl, _, hs⟩ := sh_str hs
  obtain ⟨e, _, rfl, _, hs⟩ := sh_int hs
  obtain ⟨f, _, rfl, _, hs⟩ := sh_int hs
  cases sh_nil hs
  exact ⟨⟨a, ⟨b, c, d⟩, e, f⟩, rfl⟩

/-- the call -/
theorem netOrder_walk {W : World} {a : Option Addr} {l : List TL.Act} {c : Nat} (hl : SR EncAct (whole W) a l) : Calls Try.prog 4 #[.slice a l.length c] W fun e W' => e = .returned (.bool true) ∧ Left0 W W' :=
  law_call (NetOrder_den hl fun h' hs => ⟨rfl, hs⟩)

theorem own : ownKnob Try.prog.godebug = none := by kernel_rfl
set_option maxRecDepth 100000 in
theorem netOrder_lifted (os : Os) (started : os.Started) (H : Type) (enc : TypeId × Value → H) :
    ReturnsInHanded {} Try.checked os 4 .any (Rows.netOrderSpec.pre6 enc Try.prog Try.f4 Rows.netOrderRow.domain false) (Rows.netOrderSpec.post enc Try.prog Try.f4 false true false false) := by
  refine returnsInHanded_of_change (C := Try.checked) own started (by kernel_rfl) Try.func4
    (ChangeSpec.witness6 (enc := enc) (C := Try.checked) false ⟨#[], #[.slice none 0 0], []⟩ 8 (by kernel_rfl) (by kernel_rfl) (by kernel_rfl) (by kernel_rfl)) ?_
  intro W base args ds gs before hval0 hW hcnd _
  have hW' := hW
  obtain ⟨p, q, hA0, hV, rfl, hfz, hnd⟩ := hW
  have hA : DataW.TrodAll enc Try.prog W 0 (fun _ => true) true [34] args.toList ds p := hA0
  obtain ⟨v, d, rfl, rfl, hd⟩ := trodAll_one hA
  obtain ⟨rfl, rfl⟩ := trodVars_none hV
  simp only [List.append_nil] at hW'
  obtain ⟨a, l, c, rfl, hl⟩ := open_rows (E := EncAct) (e := 44) (by kernel_rfl) (by kernel_rfl) hAct hd (one_slice (e := 44) (by kernel_rfl) (hval0 0 34 v rfl rfl))
  refine (netOrder_walk (c := c) hl).mono fun e W' ⟨he, hg⟩ => ?_
  subst he
  exact ⟨_, rfl, law_post (pa := p) (pv := []) hW' (fun _ _ _ => (trodAll_cons_mk (shut_bool (t := 4) (by kernel_rfl) _) trodAll_mk0)) (fun sp hsp => all_stays (by kernel_rfl) hg (by decide +kernel) hA (fun x hx => hW'.lt x hx) sp hsp) (fun _ _ => rfl) (by simp)
    hg (ok_one (t := 4) (by kernel_rfl) rfl (okWide_bool_mk (by kernel_rfl) _))⟩

theorem netOrder_over : Rows.netOrderRow.holds Try.pinned (OpenSpec.ofChange Rows.netOrderSpec) :=
  OpenClaim.holds_of_wide 4 Try.f4 rfl rfl rfl rfl rfl rfl rfl ⟨rfl, rfl, rfl, rfl, rfl⟩ rfl rfl rfl rfl rfl (by kernel_rfl) Try.func4 (by kernel_rfl)
    (of_decide_eq_true (by kernel_rfl)) (by unfold Func.isWrapper; first | (rw [if_pos (by decide +kernel)]; kernel_rfl) | (rw [if_neg (by decide +kernel)]; exact ⟨rfl, rfl⟩))
    (fun os started H enc _ => netOrder_lifted os started H enc)
theorem netOrder_holds : Rows.NetOrderSaid := netOrder_over
#print axioms netOrder_holds
end Go.Proofs.Ytlgcgalfaljpeaa
