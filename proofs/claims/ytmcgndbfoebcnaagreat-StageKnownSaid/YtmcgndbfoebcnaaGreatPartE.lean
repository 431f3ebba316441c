/-
  slices.AppendSeq and slices.Collect at rows of what walks ask for. No condition.
-/
import Derived.Test.YtmcgndbfoebcnaaGreatPartD
import Derived.Shelf.SlSortCmp.WholeK
import Derived.Test.YtmcgndbfoebcnaaGreatProg
import Derived.Deep.RegionHeld3
import Derived.Test.YtmcgndbfoebcnaaGreatPartB
namespace TL
open Go Go.Proofs Go.RowKit Go.Maps Go.Sort Go.Shelf
def askC (x : Int × Int) : List Value := [.int .i64 x.1, .int .i64 x.2]
def ask_apAssign : Code := Code.region 2 #[{ dst := some 5, op := Op.alloc 79, type := 0, pos := "iter.go:51", after := #[], guard := none }, { dst := none, op := Op.store 79 (Operand.tmp 5) (Operand.tmp 7), type := 0, pos := "iter.go:51", after := #[{ on := 0, ground := Ground.data }, { on := 0, ground := Ground.phase }], guard := none }] false
def ask_apBody : Code := Code.block 1 (Code.region 3 #[{ dst := some 8, op := Op.load 74 (Operand.tmp 2), type := 74, pos := "iter.go:52", after := #[], guard := none }, { dst := some 9, op := Op.load 79 (Operand.tmp 5), type := 79, pos := "iter.go:52", after := #[], guard := none }, { dst := some 10, op := Op.buildSlice 74 1 #[(0, Operand.tmp 9)], type := 74, pos := "iter.go:52", after := #[{ on := 1, ground := Ground.data }], guard := none }, { dst := some 11, op := Op.call { callee := Callee.builtin Builtin.append, args := #[Operand.tmp 8, Operand.tmp 10], argTypes := #[74, 74] }, type := 74, pos := "iter.go:52", after := #[{ on := 0, ground := Ground.data }, { on := 2, ground := Ground.data }], guard := none }, { dst := none, op := Op.store 74 (Operand.tmp 2) (Operand.tmp 11), type := 0, pos := "iter.go:52", after := #[{ on := 3, ground := Ground.data }, { on := 3, ground := Ground.chain }, { on := 0, ground := Ground.phase }, { on := 1, ground := Ground.phase }, { on := 2, ground := Ground.phase }, { on := 3, ground := Ground.phase }], guard := none }] false)
/-- The loop's record: AppendSeq's temporaries as they stood at the entering: 's' boxed in block Bs; sv: the iterator's value. -/
def ask_apRec (fn : FuncId) (sv : Value) (Bs D : Nat) (st : LoopState) (pend : Option Code) : Loop :=
  { state := st, pending := pend, fn, tmps := #[.slice none 0 0, sv, .pointer (some ⟨Bs, 0, none⟩), undef, .slice none 0 0, undef, sv, undef, undef, undef, undef, undef, undef], params := #[7], assign := ask_apAssign, body := ask_apBody, defers := D }

/-- BETWEEN TWO ROUNDS: the box holds a slice that owns, in a block of the call's own, what has come so far; IT IS nil JUST AS LONG AS NOTHING HAS COME; nothing that lay before the call has turned. -/
structure ask_ApAt (w0 : World) (fn : FuncId) (sv : Value) (Bs l D : Nat) (ss : List (Int × Int)) (W : World) : Prop where
  box : ∃ v, W.heap[Bs]? = some (.cells #[v] 74 (0, 0)) ∧ W.ownsRow w0.heap.size 79 2 v ss.length (ss.flatMap askC) ∧ (v = .slice none 0 0 ↔ ss = [])
  L : W.heap[l]? = some (.loop (ask_apRec fn sv Bs D .ready none))
  K : W.heap[D]? = some (.deferred (some []))
  below : Below w0.heap.size w0 W

theorem ask_ap_abides (w0 : World) (fn : FuncId) (sv : Value) (Bs l D B : Nat) (hB : w0.heap.size ≤ B) : AbidesFrom B (ask_ApAt w0 fn sv Bs l D) := fun s W W' row h hg hrow => by
  have hrow' : ∀ r, row = some r → ∃ o : Obj, W.heap[r]? = some o ∧ o.isWalk = true := fun r e => (hrow r e).2
  obtain ⟨v, hv, hr, hn⟩ := h.box
  exact ⟨⟨v, (grownBy_keeps hg hrow' hv rfl).trans hv, ownsRow_abides_a hr hg hrow', hn⟩, (grownBy_keeps hg hrow' h.L rfl).trans h.L, (grownBy_keeps hg hrow' h.K rfl).trans h.K,
    h.below.grown hg h.below.size (fun k e => Nat.le_trans hB (hrow k e).1)⟩

theorem ask_info26 : (Tryz.prog.info? 79).map (fun i => (i.zero, i.size, i.bytes)) = some (some (.agg #[.int .i64 0, .int .i64 0]), 2, 16) := by kernel_rfl

set_option maxRecDepth 100000 in
set_option maxHeartbeats 2000000 in
theorem ask_apYield (F : Fence) (m : Nat) (w0 : World) (fn : FuncId) (hfn : F.fn fn) (sv : Value) (Bs l D : Nat) (hBl : Bs ≠ l) (hDl : D ≠ l) (hDB : D ≠ Bs) (h0B : w0.heap.size ≤ Bs) (h0l : w0.heap.size ≤ l)
    (N : Nat) (hN : N ≤ maxLen) (hNb : N * 16 ≤ 140737488355328) (ss : List (Int × Int)) (x : Int × Int) (W : World) (h : ask_ApAt w0 fn sv Bs l D ss W) (hlen : ss.length < N) :
    YieldAt F m Tryz.prog l #[keyV x] W fun e W' => e = .returned (.bool true) ∧ ask_ApAt w0 fn sv Bs l D (ss ++ [x]) W' ∧ KeepsWalks W W' := by
  obtain ⟨i0, hi, hz0, hz1, hz2⟩ := info_parts ask_info26
  obtain ⟨v, hv, hrow, _⟩ := h.box
  have hx : keyV x = .agg #[.int .i64 x.1, .int .i64 x.2] := rfl
  rw [hx]
  refine ⟨fn, #[.slice none 0 0, sv, .pointer (some ⟨Bs, 0, none⟩), undef, .slice none 0 0, undef, sv, .agg #[.int .i64 x.1, .int .i64 x.2], undef, undef, undef, undef, undef], ask_apAssign, ask_apBody, by simpa [ask_apRec] using run_yield (P := Tryz.prog) (args := #[.agg #[.int .i64 x.1, .int .i64 x.2]]) h.L rfl, roundIn_of_wpIn hfn ?_⟩
  have hl0 : l < W.heap.size := (Array.getElem?_eq_some_iff.1 h.L).1
  have hB0 : Bs < W.heap.size := (Array.getElem?_eq_some_iff.1 hv).1
  have hD0 : D < W.heap.size := (Array.getElem?_eq_some_iff.1 h.K).1
  obtain ⟨W1, hW1⟩ : ∃ W1, W.alloc (.cells #[.int .i64 x.1, .int .i64 x.2] 79) = W1 := ⟨_, rfl⟩
  have hs1 : W1.heap.size = W.heap.size + 1 := by rw [← hW1]; simp
  have hL1 : W1.heap[l]? = some (.loop (ask_apRec fn sv Bs D .ready none)) := by rw [← hW1]; exact (Below.heap_alloc _ _ l hl0).trans h.L
  have hv1 : W1.heap[Bs]? = some (.cells #[v] 74 (0, 0)) := by rw [← hW1]; exact (Below.heap_alloc _ _ Bs hB0).trans hv
  have hK1 : W1.heap[D]? = some (.deferred (some [])) := by rw [← hW1]; exact (Below.heap_alloc _ _ D hD0).trans h.K
  have hn1 : W1.heap[W.heap.size]? = some (.cells #[.int .i64 x.1, .int .i64 x.2] 79 (0, 0)) := by rw [← hW1]; exact World.alloc_heap_new W _
  have hrow1 : W1.ownsRow w0.heap.size 79 2 v ss.length (ss.flatMap askC) := by rw [← hW1]; exact hrow.alloc _
  have hb1 : Below w0.heap.size w0 W1 := by rw [← hW1]; exact h.below.alloc h.below.size _
  have hk1 : KeepsWalks W W1 := by rw [← hW1]; exact KeepsWalks.alloc _ _
  have hl : l < W1.heap.size := by omega
  have hbr := run_beginRound (P := Tryz.prog) hL1 rfl
  obtain ⟨W2, hW2⟩ : ∃ W2, W1.putObj l (.loop { ask_apRec fn sv Bs D .ready none with state := .busy }) = W2 := ⟨_, rfl⟩
  rw [hW2] at hbr
  have hg2 : W1.grownBy W2 (some l) := by rw [← hW2]; exact grownBy_putObj_a _ _ _
  have hk2 : KeepsWalks W W2 := hk1.trans (by rw [← hW2]; exact KeepsWalks.putObj _ hL1 rfl)
  have hs2 : W2.heap.size = W1.heap.size := by rw [← hW2]; simp [World.putObj]
  have hv2 : W2.heap[Bs]? = some (.cells #[v] 74 (0, 0)) := by rw [← hW2]; exact (World.putObj_heap_other hBl).trans hv1
  have hK2 : W2.heap[D]? = some (.deferred (some [])) := by rw [← hW2]; exact (World.putObj_heap_other hDl).trans hK1
  have hn2 : W2.heap[W.heap.size]? = some (.cells #[.int .i64 x.1, .int .i64 x.2] 79 (0, 0)) := by rw [← hW2]; exact (World.putObj_heap_other (by omega)).trans hn1
  have hL2 : W2.heap[l]? = some (.loop { ask_apRec fn sv Bs D .ready none with state := .busy }) := by rw [← hW2]; exact World.putObj_heap_same hl
  have hrow2 : W2.ownsRow w0.heap.size 79 2 v ss.length (ss.flatMap askC) := hrow1.kept hg2 (ownsRow_ne_a hrow1 hL1 (fun cur e => by cases e))
  have hb2 : Below w0.heap.size w0 W2 := hb1.grown hg2 hb1.size (fun k e => by cases e; exact h0l)
  obtain ⟨hc2, hf2⟩ := cell_of_box_a hv2
  have hp2 : W2.cell? ⟨W.heap.size, 0, none⟩ = some (.int .i64 x.1) := by simp [World.cell?, hn2]
  have hq2 : W2.cell? ⟨W.heap.size, 1, none⟩ = some (.int .i64 x.2) := by simp [World.cell?, hn2]
  have hBlt : Bs < W2.heap.size := (Array.getElem?_eq_some_iff.1 hv2).1
  have hl2 : l < W2.heap.size := (Array.getElem?_eq_some_iff.1 hL2).1
  have hDlt : D < W2.heap.size := (Array.getElem?_eq_some_iff.1 hK2).1
  have ne_of : ∀ {j : Nat} {o : Obj}, W2.heap[j]? = some o → (∀ cur, o ≠ .cells cur 79 (0, 0)) → some j ≠ v.ownBlock := fun hj hno => by
    rcases ownsRow_ne_a hrow2 hj hno with e | e
    · rw [e]; simp
    · exact fun e' => e e'.symm
  clear hW2
  unfold ask_apAssign
  gi_wp2_with gi_round_op_a
  clear hW1
  have hn3 : (W2.alloc (.cells #[.int .i64 x.1, .int .i64 x.2] 79)).heap[W.heap.size + 1]? = some (.cells #[.int .i64 x.1, .int .i64 x.2] 79 (0, 0)) := by
    rw [show W.heap.size + 1 = W2.heap.size by omega]; exact World.alloc_heap_new W2 _
  have hcell : ∀ (j : Nat) (u : Value), ([.int .i64 x.1, .int .i64 x.2] : List Value)[j]? = some u → (W2.alloc (.cells #[.int .i64 x.1, .int .i64 x.2] 79)).cell? ((⟨W.heap.size + 1, 0, none⟩ : Addr).add j) = some u := fun j u hu => by
    match j, hu with
    | 0, hu => simp at hu; subst hu; simp [Addr.add, World.cell?, hn3]
    | 1, hu => simp at hu; subst hu; simp [Addr.add, World.cell?, hn3]
    | j + 2, hu => simp at hu
  unfold ask_apBody
  gi_wp2_with (first
    | (gi_at_builtin; refine wpListIn_append_own _ rfl _ _ 74 rfl w0.heap.size 79 i0 (.agg #[.int .i64 0, .int .i64 0]) 2 16 Tryz.underlying74 hi hz0 hz1 hz2 rfl (by decide) _ _ _ rfl (hrow2.alloc _) ⟨W.heap.size + 1, 0, none⟩ 1 1 [.int .i64 x.1, .int .i64 x.2] rfl rfl hcell (by simp [Value.oneCell']) (by omega) (by omega) (by have := hb2.size; simp; omega) ?_; intro v' w3 hown' hg3 hnil3
       have hv3 : w3.heap[Bs]? = some (.cells #[v] 74 (0, 0)) := (hg3.block Bs (by simp; omega) (ne_of hv2 (fun cur e => by cases e))).trans ((Below.heap_alloc _ _ Bs hBlt).trans hv2)
       obtain ⟨hc3, hf3⟩ := cell_of_box_a hv3
       obtain ⟨g', cap', cur', rfl, hbase', hgb', hr1, hr2, hr3, hr4⟩ : ∃ g' cap' cur', v' = .slice (some ⟨g', 0, none⟩) (ss.length + 1) cap' ∧ w0.heap.size ≤ g' ∧ w3.heap[g']? = some (.cells cur' 79 (0, 0)) ∧ ss.length + 1 ≤ cap' ∧ cap' ≤ maxLen ∧ cur'.size = cap' * 2 ∧ cur'.toList.take ((ss.length + 1) * 2) = ss.flatMap askC ++ [.int .i64 x.1, .int .i64 x.2] := by
         rcases hown'.2 with ⟨_, h0⟩ | h'
         · exact absurd h0 (by omega)
         · exact h'
       go_frame)
    | gi_round_op_a)
  have hg3' : (W2.alloc (.cells #[.int .i64 x.1, .int .i64 x.2] 79)).grownBy w3 v.ownBlock := hg3
  have hL3 : w3.heap[l]? = some (.loop { ask_apRec fn sv Bs D .ready none with state := .busy }) := (hg3'.block l (by simp; omega) (ne_of hL2 (fun cur e => by cases e))).trans ((Below.heap_alloc _ _ l hl2).trans hL2)
  have hK3 : w3.heap[D]? = some (.deferred (some [])) := (hg3'.block D (by simp; omega) (ne_of hK2 (fun cur e => by cases e))).trans ((Below.heap_alloc _ _ D hDlt).trans hK2)
  obtain ⟨w4, hw4⟩ : ∃ w4, w3.setCell ⟨Bs, 0, none⟩ (.slice (some ⟨g', 0, none⟩) (ss.length + 1) cap') = w4 := ⟨_, rfl⟩
  rw [hw4]
  have hg4 : w3.grownBy w4 (some Bs) := by rw [← hw4]; exact grownBy_setCell0_a _ _ _
  have hv4 : w4.heap[Bs]? = some (.cells #[.slice (some ⟨g', 0, none⟩) (ss.length + 1) cap'] 74 (0, 0)) := by rw [← hw4]; exact heap_setCell_box_a _ hv3
  have hL4 : w4.heap[l]? = some (.loop { ask_apRec fn sv Bs D .ready none with state := .busy }) := (hg4.block l (Array.getElem?_eq_some_iff.1 hL3).1 (fun e => hBl (by cases e; rfl))).trans hL3
  have hK4 : w4.heap[D]? = some (.deferred (some [])) := (hg4.block D (Array.getElem?_eq_some_iff.1 hK3).1 (fun e => hDB (by cases e; rfl))).trans hK3
  have hrow4 := hown'.kept hg4 (ownsRow_ne_a hown' hv3 (fun cur e => by cases e))
  have hl4 : l < w4.heap.size := (Array.getElem?_eq_some_iff.1 hL4).1
  have hb3 : Below w0.heap.size w0 w3 := (hb2.alloc hb2.size _).grown hg3' (by have := hb2.size; simp; omega) (fun k e => (hrow2.lt k e).1)
  have hb4 : Below w0.heap.size w0 w4 := hb3.grown hg4 hb3.size (fun k e => by cases e; exact h0B)
  have hk4 : KeepsWalks W w4 := ((hk2.trans (KeepsWalks.alloc _ _)).trans (KeepsWalks.of_grownBy hg3' (ownsRow_not_walk_a (hrow2.alloc _)))).trans (by rw [← hw4]; exact KeepsWalks.setCell _ _ _)
  clear hw4
  refine ⟨_, _, run_endRound none hL4, rfl, ⟨⟨_, (World.putObj_heap_other hBl).trans hv4, ?_, by simp⟩, World.putObj_heap_same hl4, (World.putObj_heap_other hDl).trans hK4, hb4.grown (grownBy_putObj_a _ _ _) hb4.size (fun k e => by cases e; exact h0l)⟩, hk4.trans (KeepsWalks.putObj _ hL4 rfl)⟩
  have := hrow4.kept (grownBy_putObj_a w4 l (.loop { { ask_apRec fn sv Bs D .ready none with state := .busy } with state := if (none : Option Code).isNone then .ready else .done, pending := none })) (ownsRow_ne_a hrow4 hL4 (fun cur e => by cases e))
  simpa [askC, List.flatMap_append] using this

set_option maxRecDepth 100000 in
set_option maxHeartbeats 2000000 in
/-- **slices.AppendSeq(nil, seq), AGAINST WHATEVER ITERATOR VALUE THAT 'SeqGives'**: it hands back a slice that owns, in a block of the call's own, JUST WHAT THE ITERATOR GAVE, IN THAT ORDER; nil JUST WHERE IT GAVE NOTHING (as Go: 'slices.Collect' of nothing is nil); nothing that lay before the call has turned. -/
theorem ask_appendSeq_in (F : Fence) (n : Nat) (h11 : F.fn 174) (hro : F.round = none) (hn : 2 ≤ n) (g : Nat) (lb : Array Value) (hFg : F.fn g) (eg : ∀ args w, (callFunc g args).run Tryz.prog w = .ok (.enter g args) w)
    (S : List (Int × Int) → Prop) (N : Nat) (hN : N ≤ maxLen) (hNb : N * 16 ≤ 140737488355328) (w : World) (hseq : SeqGives F (n - 1) Tryz.prog g lb keyV S N w) :
    CallsIn F n Tryz.prog 174 #[.slice none 0 0, .func (.func g) #[] lb] w fun e w' => ∃ (v : Value) (ss : List (Int × Int)), e = .returned v ∧ S ss ∧ w'.ownsRow w.heap.size 79 2 v ss.length (ss.flatMap askC) ∧ (v = .slice none 0 0 ↔ ss = []) ∧ Below w.heap.size w w' := by
  have h1 : 1 ≤ n := by omega
  refine callsIn_of_wp_marks Tryz.func174 rfl h11 ?_ hro
  simp only [Tryz.ntmps174, List.size_toArray, List.length_cons, List.length_nil, Nat.reduceAdd, Nat.reduceSub, Array.replicate_succ, Array.replicate_zero, List.push_toArray, List.append_toArray, List.nil_append, List.cons_append]
  gi_wp2
  refine wpIn_rangeFunc ?_
  intro fn hfn
  rw [hro]
  obtain ⟨W0, hW0⟩ : ∃ W0, w.alloc (.cells #[.slice none 0 0] 74) = W0 := ⟨_, rfl⟩
  have hs0 : W0.heap.size = w.heap.size + 1 := by rw [← hW0]; simp
  have hv0 : W0.heap[w.heap.size]? = some (.cells #[.slice none 0 0] 74 (0, 0)) := by rw [← hW0]; exact World.alloc_heap_new w _
  have hb0 : Below w.heap.size w W0 := by rw [← hW0]; exact (Below.refl _ w).alloc (Nat.le_refl _) _
  rw [hW0]
  obtain ⟨W1, hW1⟩ : ∃ W1, (W0.alloc (.deferred (some []))).alloc (.loop (ask_apRec fn (.func (.func g) #[] lb) w.heap.size W0.heap.size .ready none)) = W1 := ⟨_, rfl⟩
  have hold : ∀ k, k < W0.heap.size → W1.heap[k]? = W0.heap[k]? := fun k hk => by
    rw [← hW1]; exact (Below.heap_alloc _ _ k (by simp; omega)).trans (Below.heap_alloc _ _ k hk)
  have hb1 : Below w.heap.size w W1 := by rw [← hW1]; exact (hb0.alloc hb0.size _).alloc (by have := hb0.size; simp; omega) _
  have hs1 : W1.heap.size = W0.heap.size + 2 := by rw [← hW1]; simp
  have hM : ask_ApAt w fn (.func (.func g) #[] lb) w.heap.size (W0.heap.size + 1) W0.heap.size [] W1 :=
    ⟨⟨_, (hold w.heap.size (by omega)).trans hv0, ⟨rfl, .inl ⟨rfl, rfl⟩⟩, by simp⟩,
     by rw [← hW1]; have := World.alloc_heap_new (W0.alloc (.deferred (some []))) (.loop (ask_apRec fn (.func (.func g) #[] lb) w.heap.size W0.heap.size .ready none)); rwa [World.size_alloc] at this,
     by rw [← hW1]; exact (Below.heap_alloc _ _ _ (by simp)).trans (World.alloc_heap_new W0 _), hb1⟩
  refine ⟨W0.heap.size + 1, [{ target := .collected W0.heap.size, args := #[] }], W1, { target := .fn (.func g) lb, args := #[.func (.yield (W0.heap.size + 1)) #[] #[]] }, W1, g,
    #[.func (.yield (W0.heap.size + 1)) #[] #[]] ++ lb, W1, ?_, ?_, ?_, ?_, fun _ => h1, ?_⟩
  · rw [← hW1]; exact run_enterLoop_outer _ _ _ _ _
  · simp [resolve, go_sem]
  · intro f' hf'; simp [Target.leads] at hf'; subst hf'; exact hFg
  · simp [invoke, go_sem, eg]
  · refine (hseq (W0.heap.size + 1) (ask_ApAt w fn (.func (.func g) #[] lb) w.heap.size (W0.heap.size + 1) W0.heap.size) W1 hb1 (ask_ap_abides _ _ _ _ _ _ _ hb1.size)
      (fun pre x W hJ hl => ask_apYield F (n - 1 - 1) w fn hfn _ w.heap.size (W0.heap.size + 1) W0.heap.size (by omega) (by omega) (by omega) (Nat.le_refl _) (by omega) N hN hNb pre x W hJ hl) hM).mono ?_
    rintro e W2 ⟨⟨v0, rfl⟩, ss, hS, h2⟩
    obtain ⟨v, hv, hrow, hnil⟩ := h2.box
    have hend := run_endLoop (P := Tryz.prog) h2.L (by simp [ask_apRec])
    obtain ⟨W3, hW3⟩ : ∃ W3, W2.putObj (W0.heap.size + 1) (.loop { ask_apRec fn (.func (.func g) #[] lb) w.heap.size W0.heap.size .ready none with state := .exhausted }) = W3 := ⟨_, rfl⟩
    rw [hW3] at hend
    have hg3 : W2.grownBy W3 (some (W0.heap.size + 1)) := by rw [← hW3]; exact grownBy_putObj_a _ _ _
    have hv3 : W3.heap[w.heap.size]? = some (.cells #[v] 74 (0, 0)) := by rw [← hW3]; exact (World.putObj_heap_other (by omega)).trans hv
    have hK3 : W3.heap[W0.heap.size]? = some (.deferred (some [])) := by rw [← hW3]; exact (World.putObj_heap_other (by omega)).trans h2.K
    have hrow3 := hrow.kept hg3 (ownsRow_ne_a hrow h2.L (fun cur e => by cases e))
    have hb3 : Below w.heap.size w W3 := h2.below.grown hg3 h2.below.size (fun k e => by cases e; omega)
    obtain ⟨hc3, hf3⟩ := cell_of_box_a hv3
    clear hW3
    refine ⟨none, W3, hend, ?_⟩
    gi_wp2
    rw [← hs0]
    refine ⟨by simp, .inl ⟨_, _, rfl, run_takeDeferred hK3, ?_⟩⟩
    exact ⟨_, results_tmp rfl _ _ _, v, ss, rfl, hS, hrow3.kept (grownBy_putObj_a _ _ _) (ownsRow_ne_a hrow3 hK3 (fun cur e => by cases e)), hnil, hb3.grown (grownBy_putObj_a _ _ _) hb3.size (fun k e => by cases e; omega)⟩

set_option maxHeartbeats 1000000 in
/-- **slices.Collect(seq), AGAINST WHATEVER ITERATOR VALUE.** -/
theorem ask_collect_in (F : Fence) (n : Nat) (h8 : F.fn 149) (h11 : F.fn 174) (hro : F.round = none) (hn : 3 ≤ n) (g : Nat) (lb : Array Value) (hFg : F.fn g) (eg : ∀ args w, (callFunc g args).run Tryz.prog w = .ok (.enter g args) w)
    (S : List (Int × Int) → Prop) (N : Nat) (hN : N ≤ maxLen) (hNb : N * 16 ≤ 140737488355328) (w : World) (hseq : SeqGives F (n - 1 - 1) Tryz.prog g lb keyV S N w) :
    CallsIn F n Tryz.prog 149 #[.func (.func g) #[] lb] w fun e w' => ∃ (v : Value) (ss : List (Int × Int)), e = .returned v ∧ S ss ∧ w'.ownsRow w.heap.size 79 2 v ss.length (ss.flatMap askC) ∧ (v = .slice none 0 0 ↔ ss = []) ∧ Below w.heap.size w w' := by
  have h1 : 1 ≤ n := by omega
  refine callsIn_of_wp Tryz.func149 rfl h8 ?_ hro
  simp only [Tryz.ntmps149, List.size_toArray, List.length_cons, List.length_nil, Nat.reduceAdd, Nat.reduceSub, Array.replicate_succ, Array.replicate_zero, List.push_toArray, List.append_toArray, List.nil_append, List.cons_append]
  gi_wp2_with (gi_at_call 174; refine (ask_appendSeq_in F (n - 1) h11 hro (by omega) g lb hFg eg S N hN hNb _ hseq).mono ?_; rintro e w' ⟨v, ss, rfl, hS, hrow, hnil, hb⟩)
  go_ret
  exact ⟨v, ss, rfl, hS, hrow, hnil, hb⟩

end TL

namespace Go.Proofs
open Go.Shelf
def Tryz.srtB_ren : Go.Shelf.Ren := ⟨fun | 6 => 150 | 15 => 159 | 14 => 175 | 28 => 186 | 29 => 187 | 20 => 202 | 21 => 203 | 22 => 204 | 23 => 205 | 24 => 206 | 25 => 207 | 26 => 208 | 27 => 209 | 46 => 222 | 47 => 211 | 48 => 212 | 49 => 223 | 50 => 224 | 57 => 227 | n => n, fun | 22 => 74 | 24 => 79 | 25 => 194 | 3 => 3 | 39 => 49 | 0 => 0 | 53 => 239 | 55 => 232 | 4 => 4 | 46 => 257 | 45 => 256 | 50 => 157 | 5 => 5 | 9 => 9 | 66 => 280 | 70 => 284 | 76 => 293 | 77 => 294 | n => n, fun | n => n⟩
theorem Tryz.srtB : Go.Proofs.SlLaysF0.n6 Tryz.prog Tryz.srtB_ren := {
  mixed := by kernel_rfl
  f6 := ⟨Tryz.f150.name, by decide, Tryz.func150.trans (congrArg some (by kernel_rfl))⟩
  f14 := ⟨Tryz.f175.name, by decide, Tryz.func175.trans (congrArg some (by kernel_rfl))⟩
  f15 := Tryz.func159.trans (congrArg some (by kernel_rfl))
  f20 := ⟨Tryz.f202.name, by decide, Tryz.func202.trans (congrArg some (by kernel_rfl))⟩
  f21 := ⟨Tryz.f203.name, by decide, Tryz.func203.trans (congrArg some (by kernel_rfl))⟩
  f22 := ⟨Tryz.f204.name, by decide, Tryz.func204.trans (congrArg some (by kernel_rfl))⟩
  f23 := ⟨Tryz.f205.name, by decide, Tryz.func205.trans (congrArg some (by kernel_rfl))⟩
  f24 := ⟨Tryz.f206.name, by decide, Tryz.func206.trans (congrArg some (by kernel_rfl))⟩
  f25 := ⟨Tryz.f207.name, by decide, Tryz.func207.trans (congrArg some (by kernel_rfl))⟩
  f26 := ⟨Tryz.f208.name, by decide, Tryz.func208.trans (congrArg some (by kernel_rfl))⟩
  f27 := ⟨Tryz.f209.name, by decide, Tryz.func209.trans (congrArg some (by kernel_rfl))⟩
  f28 := Tryz.func186.trans (congrArg some (by kernel_rfl))
  f29 := Tryz.func187.trans (congrArg some (by kernel_rfl))
  f46 := ⟨Tryz.f222.name, by decide, Tryz.func222.trans (congrArg some (by kernel_rfl))⟩
  f47 := Tryz.func211.trans (congrArg some (by kernel_rfl))
  f48 := Tryz.func212.trans (congrArg some (by kernel_rfl))
  f49 := ⟨Tryz.f223.name, by decide, Tryz.func223.trans (congrArg some (by kernel_rfl))⟩
  f50 := ⟨Tryz.f224.name, by decide, Tryz.func224.trans (congrArg some (by kernel_rfl))⟩
  f57 := ⟨Tryz.f227.name, by decide, Tryz.func227.trans (congrArg some (by kernel_rfl))⟩
  t0 := Tryz.underlying0
  a0 := Tryz.isAgg0
  z0 := Tryz.sizeOf0
  v0 := Tryz.zeroValue0
  t3 := Tryz.underlying3
  a3 := Tryz.isAgg3
  z3 := Tryz.sizeOf3
  v3 := Tryz.zeroValue3
  t4 := Tryz.underlying4
  a4 := Tryz.isAgg4
  z4 := Tryz.sizeOf4
  v4 := Tryz.zeroValue4
  t5 := Tryz.underlying5
  a5 := Tryz.isAgg5
  z5 := Tryz.sizeOf5
  v5 := Tryz.zeroValue5
  t9 := Tryz.underlying9
  a9 := Tryz.isAgg9
  z9 := Tryz.sizeOf9
  v9 := Tryz.zeroValue9
  t22 := Tryz.underlying74
  a22 := Tryz.isAgg74
  z22 := Tryz.sizeOf74
  v22 := Tryz.zeroValue74
  t25 := Tryz.underlying194
  a25 := Tryz.isAgg194
  z25 := Tryz.sizeOf194
  v25 := Tryz.zeroValue194
  t39 := Tryz.underlying49
  a39 := Tryz.isAgg49
  z39 := Tryz.sizeOf49
  v39 := Tryz.zeroValue49
  t45 := Tryz.underlying256
  a45 := Tryz.isAgg256
  z45 := Tryz.sizeOf256
  v45 := Tryz.zeroValue256
  t46 := Tryz.underlying257
  a46 := Tryz.isAgg257
  z46 := Tryz.sizeOf257
  v46 := Tryz.zeroValue257
  t50 := Tryz.underlying157
  a50 := Tryz.isAgg157
  z50 := Tryz.sizeOf157
  v50 := Tryz.zeroValue157
  t53 := Tryz.underlying239
  a53 := Tryz.isAgg239
  z53 := Tryz.sizeOf239
  v53 := Tryz.zeroValue239
  t55 := Tryz.underlying232
  a55 := Tryz.isAgg232
  z55 := Tryz.sizeOf232
  v55 := Tryz.zeroValue232
  t66 := Tryz.underlying280
  a66 := Tryz.isAgg280
  z66 := Tryz.sizeOf280
  v66 := Tryz.zeroValue280
  t70 := Tryz.underlying284
  a70 := Tryz.isAgg284
  z70 := Tryz.sizeOf284
  v70 := Tryz.zeroValue284
  t76 := Tryz.underlying293
  a76 := Tryz.isAgg293
  z76 := Tryz.sizeOf293
  v76 := Tryz.zeroValue293
  t77 := Tryz.underlying294
  a77 := Tryz.isAgg294
  z77 := Tryz.sizeOf294
  v77 := Tryz.zeroValue294}
end Go.Proofs

namespace TL
open Go Go.Proofs Go.Shelf Go.RowKit Go.Lib Go.Sort

def cmpI (a b : Int) : Int := if a < b then -1 else if a = b then 0 else 1
def orI (a b : Int) : Int := if a = 0 then b else a
def cmpA (x y : Int × Int) : Int := orI (cmpI x.1 y.1) (cmpI x.2 y.2)
set_option maxHeartbeats 1000000 in
set_option maxRecDepth 100000 in
theorem walkCmp (a b : Int) (w : World) : Calls Tryz.prog 118 #[.int .i64 a, .int .i64 b] w fun e w' => e = .returned (.int .i64 (cmpI a b)) ∧ w' = w := by
  unfold cmpI
  go_enter Tryz.func118, Tryz.ntmps118
  go_wp2
  all_goals (go_ret; exact ⟨rfl, rfl⟩)
set_option maxHeartbeats 1000000 in
set_option maxRecDepth 100000 in
theorem walkOr (F : Fence) (n : Nat) (hf : F.fn 117) (hro : F.round = none) (a b : Int) (w : World) (bb : Nat) (h0 : w.cell? ⟨bb, 0, none⟩ = some (.int .i64 a)) (h1 : w.cell? ⟨bb, 1, none⟩ = some (.int .i64 b)) :
    CallsIn F n Tryz.prog 117 #[.slice (some ⟨bb, 0, none⟩) 2 2] w fun e w' => e = .returned (.int .i64 (if a = 0 then b else a)) ∧ w' = w := by
  refine callsIn_of_wp Tryz.func117 rfl hf ?_ hro
  simp only [Tryz.ntmps117, List.size_toArray, List.length_cons, List.length_nil, Nat.reduceAdd, Nat.reduceSub, Array.replicate_succ, Array.replicate_zero, List.push_toArray, List.append_toArray, List.nil_append, List.cons_append]
  gi_wp2
  gi_loopw [8] (fun v wr => wr = w ∧ (v = .int .i64 0 ∨ (v = .int .i64 1 ∧ a = 0) ∨ (v = .int .i64 2 ∧ a = 0 ∧ b = 0))) (fun v _ => match v with
    | .int _ k => (2 - k).toNat
    | _ => 0)
  case atStart => exact ⟨rfl, .inl rfl⟩
  case round =>
    obtain ⟨rfl, rfl | ⟨rfl, rfl⟩ | ⟨rfl, rfl, rfl⟩⟩ := hrel
    · gi_wp2
      · simp_all
      · go_ret
        exact ⟨rfl, rfl⟩
      · rename_i hq
        exact ⟨⟨trivial, .inr (.inl ⟨rfl, by simpa using hq⟩)⟩, by decide⟩
    · gi_wp2
      · go_ret
        exact ⟨rfl, rfl⟩
      · rename_i hq
        exact ⟨⟨trivial, .inr (.inr ⟨rfl, trivial, by simpa using hq⟩)⟩, by decide⟩
    · gi_wp2
      go_ret
      exact ⟨rfl, rfl⟩
theorem walkOrC (a b : Int) (w : World) (bb : Nat) (h0 : w.cell? ⟨bb, 0, none⟩ = some (.int .i64 a)) (h1 : w.cell? ⟨bb, 1, none⟩ = some (.int .i64 b)) :
    Calls Tryz.prog 117 #[.slice (some ⟨bb, 0, none⟩) 2 2] w fun e w' => e = .returned (.int .i64 (if a = 0 then b else a)) ∧ w' = w :=
  callsIn_wide.1 (walkOr Fence.wide 3 trivial rfl a b w bb h0 h1)
theorem walkOrN (a b : Int) (W : World) : Calls Tryz.prog 117 #[.slice (some ⟨W.heap.size, 0, none⟩) 2 2] (W.alloc (.cells #[.int .i64 a, .int .i64 b] 3)).drew fun e w' => e = .returned (.int .i64 (orI a b)) ∧ w' = (W.alloc (.cells #[.int .i64 a, .int .i64 b] 3)).drew := by
  have hn : (W.alloc (.cells #[.int .i64 a, .int .i64 b] 3)).drew.heap[W.heap.size]? = some (.cells #[.int .i64 a, .int .i64 b] 3 (0, 0)) := World.alloc_heap_new W _
  generalize (W.alloc (.cells #[.int .i64 a, .int .i64 b] 3)).drew = X at hn ⊢
  exact walkOrC a b _ _ (by simp [World.cell?, hn]) (by simp [World.cell?, hn])
set_option maxHeartbeats 400000 in
set_option maxRecDepth 100000 in
theorem walkAsk (a0 a1 b0 b1 : Int) (w : World) :
    Calls Tryz.prog 116 #[.agg #[.int .i64 a0, .int .i64 a1], .agg #[.int .i64 b0, .int .i64 b1]] w fun e w' => e = .returned (.int .i64 (cmpA (a0, a1) (b0, b1))) ∧ ∃ q os', w' = grow (w.drewN q) os' := by
  unfold cmpA
  dsimp only
  have hc := walkCmp
  generalize cmpI = f at hc ⊢
  have ho := walkOrN
  generalize orI = g at ho ⊢
  go_enter Tryz.func116, Tryz.ntmps116
  go_wp2
  obtain ⟨W0, hW0⟩ : ∃ W0, (w.alloc (.cells #[.int .i64 a0, .int .i64 a1] 79)).alloc (.cells #[.int .i64 b0, .int .i64 b1] 79) = W0 := ⟨_, rfl⟩
  have n1 : W0.heap[w.heap.size]? = some (.cells #[.int .i64 a0, .int .i64 a1] 79 (0, 0)) := by rw [← hW0]; exact (Below.heap_alloc _ _ _ (by simp)).trans (World.alloc_heap_new w _)
  have n2 : W0.heap[w.heap.size + 1]? = some (.cells #[.int .i64 b0, .int .i64 b1] 79 (0, 0)) := by
    rw [← hW0]
    have := World.alloc_heap_new (w.alloc (.cells #[.int .i64 a0, .int .i64 a1] 79)) (.cells #[.int .i64 b0, .int .i64 b1] 79)
    rwa [World.size_alloc] at this
  have q1 : W0.cell? ⟨w.heap.size, 0, none⟩ = some (.int .i64 a0) := by simp [World.cell?, n1]
  have q2 : W0.cell? ⟨w.heap.size, 1, none⟩ = some (.int .i64 a1) := by simp [World.cell?, n1]
  have q3 : W0.cell? ⟨w.heap.size + 1, 0, none⟩ = some (.int .i64 b0) := by simp [World.cell?, n2]
  have q4 : W0.cell? ⟨w.heap.size + 1, 1, none⟩ = some (.int .i64 b1) := by simp [World.cell?, n2]
  rw [hW0]
  have hgr : ∃ os0, W0 = grow w os0 := ⟨_, by rw [← hW0, alloc_eq_grow, alloc_eq_grow, grow_grow]⟩
  clear hW0 n1 n2
  generalize w.heap.size = B at q1 q2 q3 q4
  go_region_held3 (fun w' => w'.cell? ⟨B, 0, none⟩ = some (.int .i64 a0) ∧ w'.cell? ⟨B, 1, none⟩ = some (.int .i64 a1) ∧ w'.cell? ⟨B + 1, 0, none⟩ = some (.int .i64 b0) ∧ w'.cell? ⟨B + 1, 1, none⟩ = some (.int .i64 b1)) (go_keep)
    (first | (go_at_call 118; refine (hc _ _ _).mono ?_; rintro e w' ⟨rfl, rfl⟩) | (go_at_call 117; refine (ho _ _ _).mono ?_; rintro e w' ⟨rfl, rfl⟩))
  go_wp2
  go_ret
  obtain ⟨os0, hgr⟩ := hgr
  refine ⟨rfl, 1, os0 ++ #[.cells #[.int .i64 (f a0 b0), .int .i64 (f a1 b1)] 3], ?_⟩
  rw [hgr, alloc_eq_grow, grow_grow]
  rfl
def EncAsk : Enc (Int × Int) where
  enc := askC
  k := 2
  len _ := rfl
  one o v hv := by
    simp only [askC, List.mem_cons, List.not_mem_nil, or_false] at hv
    rcases hv with rfl | rfl <;> rfl
  pos := by decide
def ltA (x y : Int × Int) : Prop := x.1 < y.1 ∨ (x.1 = y.1 ∧ x.2 < y.2)
instance (x y : Int × Int) : Decidable (ltA x y) := inferInstanceAs (Decidable (_ ∨ _))
theorem cmpI_lt (a b : Int) : cmpI a b < 0 ↔ a < b := by
  unfold cmpI
  split
  · simp_all
  · split <;> simp_all
theorem cmpI_eq (a b : Int) : cmpI a b = 0 ↔ a = b := by
  unfold cmpI
  split
  · simp; omega
  · split <;> simp_all
theorem cmpA_lt (x y : Int × Int) : ltOf cmpA x y = decide (ltA x y) := by
  unfold ltOf cmpA orI
  rw [decide_eq_decide]
  unfold ltA
  split
  · rename_i h
    rw [cmpI_eq] at h
    rw [cmpI_lt]; omega
  · rename_i h
    rw [cmpI_eq] at h
    rw [cmpI_lt]; omega
theorem swoA : SWO (ltOf cmpA) where
  irrefl x := by rw [cmpA_lt]; exact decide_eq_false (by unfold ltA; omega)
  trans x y z h1 h2 := by
    rw [cmpA_lt] at *
    simp only [decide_eq_true_eq] at *
    unfold ltA at *; omega
  ntrans x y z h1 h2 := by
    rw [cmpA_lt] at *
    simp only [decide_eq_false_iff_not] at *
    unfold ltA at *; omega
section
variable {P : Program} {ρ : Ren}
theorem flatA_row (l : List (Int × Int)) : flatK EncAsk.enc 2 l.toArray = (EncAsk.row l).toArray := by
  apply Array.ext
  · rw [size_flatK]; simp [EncAsk.row_len]; rfl
  · intro t h1 h2
    have h1' : t < l.length * 2 := by rw [size_flatK] at h1; simpa using h1
    have hg := get_flatK EncAsk.enc 2 l.toArray t (by simpa using h1')
    rw [getElem!_pos _ t h1] at hg
    rw [hg]
    have hi : t / 2 < l.length := by omega
    have hf := EncAsk.row_field (i := t / 2) (f := t % 2) (m := 1) [] hi (by show t % 2 + 1 ≤ 2; omega)
    have ht : t / 2 * EncAsk.k + t % 2 = t := by show t / 2 * 2 + t % 2 = t; omega
    rw [ht, List.append_nil] at hf
    have hl : t < (EncAsk.row l).length := by rw [EncAsk.row_len]; exact h1'
    have hl2 : t % 2 < (EncAsk.enc l[t / 2]).length := by rw [EncAsk.len]; show t % 2 < 2; omega
    rw [take1 hl, take1 hl2] at hf
    have hf : (EncAsk.row l)[t] = (EncAsk.enc l[t / 2])[t % 2] := by simpa using hf
    simp only [List.getElem_toArray]
    rw [hf]
    have e1 : l.toArray[t / 2]! = l[t / 2] := by rw [getElem!_pos _ _ (by simpa using hi)]; simp
    rw [e1]; exact getElem!_pos (EncAsk.enc l[t / 2]) (t % 2) hl2
theorem sortA_frm {h : PH} {w : World} (hi : h.In w) {b : Nat} {l l' : List (Int × Int)} {tail : List Value} {T : TypeId} (hb : h b = some (.cells (EncAsk.row l ++ tail).toArray T (0, 0))) (hl : l'.length = l.length) (m : Nat) (os : Array Obj) :
    Frm h w (h.upd b (.cells (EncAsk.row l' ++ tail).toArray T (0, 0))) (sortWorldK EncAsk.enc 2 w b 0 m l'.toArray os) := by
  have hw := hi _ _ hb
  have hheap : (sortWorldK EncAsk.enc 2 w b 0 m l'.toArray os).heap = w.heap.modify b (onCells (putCells id 0 (flatK EncAsk.enc 2 l'.toArray))) ++ os := rfl
  have hlt := hi.lt hb
  have hcell : (w.heap.modify b (onCells (putCells id 0 (flatK EncAsk.enc 2 l'.toArray))))[b]? = some (.cells (EncAsk.row l' ++ tail).toArray T (0, 0)) := by
    rw [Array.getElem?_modify, if_pos rfl, hw, Option.map_some]
    show some (Obj.cells (putCells id 0 (flatK EncAsk.enc 2 l'.toArray) (EncAsk.row l ++ tail).toArray) T (0, 0)) = _
    rw [flatA_row, putCells_row (by rw [EncAsk.row_len, EncAsk.row_len, hl])]
  have hold : ∀ x, x ≠ b → (w.heap.modify b (onCells (putCells id 0 (flatK EncAsk.enc 2 l'.toArray))))[x]? = w.heap[x]? := fun x hx => by
    rw [Array.getElem?_modify, if_neg (fun e => hx e.symm)]
  have happ : ∀ x, x < w.heap.size → (sortWorldK EncAsk.enc 2 w b 0 m l'.toArray os).heap[x]? = (w.heap.modify b (onCells (putCells id 0 (flatK EncAsk.enc 2 l'.toArray))))[x]? := fun x hx => by
    rw [hheap, Array.getElem?_append_left (by rw [Array.size_modify]; exact hx)]
  refine ⟨fun x o e => ?_, ?_, fun x hx e => ⟨?_, ?_⟩, rfl, rfl⟩
  · by_cases hxb : x = b
    · subst hxb
      rw [PH.upd_same] at e; cases e
      rw [happ _ hlt, hcell]
    · rw [PH.upd_ne _ _ hxb] at e
      rw [happ _ (hi.lt e), hold x hxb, hi _ _ e]
  · rw [hheap, Array.size_append, Array.size_modify]; omega
  · rw [PH.upd_ne _ _ (fun hxb => by subst hxb; rw [hb] at e; cases e)]; exact e
  · rw [happ _ hx, hold x (fun hxb => by subst hxb; rw [hb] at e; cases e)]
theorem holdsA_row {h : PH} {w : World} (hi : h.In w) {b : Nat} {l : List (Int × Int)} {tail : List Value} {T : TypeId} (hb : h b = some (.cells (EncAsk.row l ++ tail).toArray T (0, 0))) : HoldsK EncAsk.enc 2 w b 0 l.toArray := by
  intro j hj
  rw [size_flatK] at hj
  have hw := hi _ _ hb
  have hlen : (EncAsk.row l).length = l.length * 2 := EncAsk.row_len l
  have hj2 : j < (EncAsk.row l).length := by rw [hlen]; simpa using hj
  refine ⟨?_, ?_⟩
  · rw [flatA_row, getElem!_pos _ j (by simpa using hj2)]
    simp only [World.cell?, hw, Nat.zero_add, id, List.getElem_toArray]
    rw [List.getElem?_toArray, List.getElem?_append_left hj2, List.getElem?_eq_getElem hj2]
    rfl
  · simp [World.frozen?, hw]
theorem ext_allA {d d' : Array (Int × Int)} (h : PermIn 0 d.size d d') : d'.toList.Perm d.toList ∧ d'.size = d.size := by
  obtain ⟨h1, _, h2⟩ := h
  have e1 : d.extract 0 d.size = d := by simp
  have e2 : d'.extract 0 d.size = d' := by rw [← h1]; simp
  rw [e1, e2] at h2
  exact ⟨h2, h1⟩
theorem cSortA0 (L : SlLaysF0.n6 P ρ) (aE : ∀ w, (isAgg (ρ.t 24)).run P w = .ok true w) (zE : ∀ w, (Go.sizeOf (ρ.t 24)).run P w = .ok 2 w) (g : Nat) (eg : ∀ args w, (callFunc g args).run P w = .ok (.enter g args) w)
    (hless : ∀ (a0 a1 b0 b1 : Int) (w : World), Calls P g #[.agg #[.int .i64 a0, .int .i64 a1], .agg #[.int .i64 b0, .int .i64 b1]] w fun e w' => e = .returned (.int .i64 (cmpA (a0, a1) (b0, b1))) ∧ ∃ q os', w' = grow (w.drewN q) os')
    {B : List Nat} {h : PH} {K : Value → PH → Prop} {a : Option Addr} {n c : Nat} {l : List (Int × Int)} {T : TypeId} (x : Buf EncAsk T B h a n c l) (hn : l.length ≤ 1000000)
    (hk : ∀ l' h', l'.Perm l → (l'.Pairwise fun a b => ¬ ltA b a) → Buf EncAsk T B h' a n c l' → Chg B B h h' → K (.tuple #[]) h') : CallH P (ρ.f 6) [.slice a n c, .func (.func g) #[] #[]] K h := by
  intro w hi
  have hnl := x.1
  by_cases h0 : l = []
  · subst h0
    have hn0 : n = 0 := hnl
    subst hn0
    refine Calls.mono (AnyF.slices_SortFunc_none L a c (.func (.func g) #[] #[]) w) ?_
    rintro e w' ⟨rfl, rfl⟩
    exact ⟨_, h, rfl, hk [] h (List.Perm.refl _) List.Pairwise.nil x (Chg.refl _ _), Frm.refl hi⟩
  · have hx := x
    obtain ⟨_, ⟨_, _, e⟩ | ⟨b, tail, rfl, rfl, hb, ht, hle⟩⟩ := x
    · exact absurd e h0
    have hc : CmpLays P g #[] EncAsk.enc 2 cmpA b 0 l.toArray.size w := fun m os dk _ x y => hless _ _ _ _ _
    have hS := AnyQ.slices_SortFunc L 2 aE zE EncAsk.enc (fun _ => rfl) (fun x v hv => by
      simp only [EncAsk, askC, List.mem_cons, List.not_mem_nil, or_false] at hv
      rcases hv with rfl | rfl <;> rfl) cmpA swoA g #[] b 0 c l.toArray w eg hc (holdsA_row hi hb) (hi.lt hb) (by simp; omega)
    have hsz : l.toArray.size = n := by simp [hnl]
    rw [hsz] at hS
    refine Calls.mono hS ?_
    rintro e w' ⟨rfl, d', m, os, hp, hs, rfl⟩
    rw [← hsz] at hp hs
    obtain ⟨hp1, hp2⟩ := ext_allA hp
    have hl' : d'.toList.length = l.length := by rw [Array.length_toList, hp2]; simp
    have hfrm := sortA_frm hi hb hl' m os
    rw [Array.toArray_toList] at hfrm
    refine ⟨_, _, rfl, hk d'.toList _ (by simpa using hp1) ?_ ⟨by rw [hl']; exact hnl, .inr ⟨b, tail, rfl, rfl, PH.upd_same _ _ _, ht, hle⟩⟩ (Chg.upd _), hfrm⟩
    rw [List.pairwise_iff_getElem]
    intro i j hi' hj' hij
    have := hs i j (Nat.zero_le _) hij (by rw [← hp2]; simpa using hj')
    rw [cmpA_lt, getElem!_pos d' j (by simpa using hj'), getElem!_pos d' i (by simpa using hi')] at this
    simpa using this
end
end TL

namespace TL
open Go Go.Proofs Go.Shelf Go.RowKit Go.Lib Go.Sort Go.Maps
theorem cSortA {B : List Nat} {h : PH} {K : Value → PH → Prop} {a : Option Addr} {n c : Nat} {l : List (Int × Int)} {T : TypeId} (x : Buf EncAsk T B h a n c l) (hn : l.length ≤ 1000000)
    (hk : ∀ l' h', l'.Perm l → (l'.Pairwise fun a b => ¬ ltA b a) → Buf EncAsk T B h' a n c l' → Chg B B h h' → K (.tuple #[]) h') : CallH Tryz.prog 150 [.slice a n c, .func (.func 116) #[] #[]] K h :=
  cSortA0 Tryz.srtB Tryz.isAgg79 Tryz.sizeOf79 116 (enters_of Tryz.func116 (by kernel_rfl) rfl) walkAsk x hn hk
theorem frm_below {h : PH} {w w' : World} (hi : h.In w) (hb : Below w.heap.size w w') : Frm h w h w' :=
  ⟨fun b _ e => (hb.block b (hi.lt e)).trans (hi _ _ e), hb.size, fun b hlt e => ⟨e, hb.block b hlt⟩, hb.os, hb.output⟩
theorem frm_new {h : PH} {w w' : World} (hi : h.In w) (hb : Below w.heap.size w w') {g : Nat} (hg : w.heap.size ≤ g) {o : Obj} (ho : w'.heap[g]? = some o) : Frm h w (h.upd g o) w' ∧ h g = none := by
  have hn : h g = none := by
    cases e : h g with
    | none => rfl
    | some o => have := hi.lt e; omega
  refine ⟨⟨fun b o' e => ?_, hb.size, fun b hlt e => ⟨?_, hb.block b hlt⟩, hb.os, hb.output⟩, hn⟩
  · by_cases hbg : b = g
    · subst hbg; rw [PH.upd_same] at e; cases e; exact ho
    · rw [PH.upd_ne _ _ hbg] at e; exact (hb.block b (hi.lt e)).trans (hi _ _ e)
  · rw [PH.upd_ne _ _ (by omega)]; exact e
theorem flat_askC (l : List (Int × Int)) : EncAsk.row l = l.flatMap askC := rfl
/-- what a sorted row is, behind its making -/
def SortedIn' (h : PH) (w : World) (ss : List (Int × Int)) (v : Value) (w'' : World) : Prop :=
  ∃ (l : List (Int × Int)) (a' : Option Addr) (c' : Nat) (B' : List Nat) (h' : PH), l.Perm ss ∧ (l.Pairwise fun a b => ¬ ltA b a) ∧ v = .slice a' l.length c' ∧ Buf EncAsk 79 B' h' a' l.length c' l ∧ Chg [] B' h h' ∧ Frm h w h' w''
theorem sortStep {h : PH} {w w' : World} (hi : h.In w) (hb : Below w.heap.size w w') {v : Value} {ss : List (Int × Int)} (hrow : w'.ownsRow w.heap.size 79 2 v ss.length (ss.flatMap askC)) (hn : ss.length ≤ 1000000) (n : Nat) :
    CallsIn Fence.wide n Tryz.prog 150 #[v, .func (.func 116) #[] #[]] w' fun e w'' => e = .returned (.tuple #[]) ∧ SortedIn' h w ss v w'' := by
  refine callsIn_wide.2 ?_
  rcases hrow.2 with ⟨rfl, h0⟩ | ⟨g, cap, cur, rfl, hg, hgb, h1, h2, h3, h4⟩
  · have h0 : ss = [] := List.length_eq_zero_iff.1 h0
    subst h0
    have hf := frm_below hi hb
    refine Calls.mono (cSortA (K := fun v' h' => v' = .tuple #[] ∧ ∃ l', l'.Perm [] ∧ Buf EncAsk 79 [] h' none 0 0 l' ∧ Chg [] [] h h') (Buf.nil EncAsk 79 h none) (Nat.zero_le _) (fun l' h' hp _ hB hc => ⟨rfl, l', hp, hB, hc⟩) w' hf.inn) ?_
    rintro e w'' ⟨_, h', rfl, ⟨rfl, l', hp, hB, hc⟩, hf2⟩
    have hl : l' = [] := List.Perm.eq_nil hp
    subst hl
    exact ⟨rfl, [], none, 0, [], h', List.Perm.refl _, List.Pairwise.nil, rfl, hB, hc, hf.trans hf2⟩
  · obtain ⟨hf, hno⟩ := frm_new hi hb hg hgb
    have hcur : cur.toList = ss.flatMap askC ++ cur.toList.drop (ss.length * 2) := by rw [← h4, List.take_append_drop]
    have hB : Buf EncAsk 79 [g] (h.upd g (.cells cur 79 (0, 0))) (some ⟨g, 0, none⟩) ss.length cap ss := by
      refine ⟨rfl, .inr ⟨g, cur.toList.drop (ss.length * 2), rfl, rfl, ?_, ?_, h1⟩⟩
      · rw [PH.upd_same, flat_askC, ← hcur]
      · rw [List.length_drop, Array.length_toList, h3, Nat.sub_mul]; rfl
    refine Calls.mono (cSortA (K := fun v' h' => v' = .tuple #[] ∧ ∃ l', l'.Perm ss ∧ (l'.Pairwise fun a b => ¬ ltA b a) ∧ Buf EncAsk 79 [g] h' (some ⟨g, 0, none⟩) ss.length cap l' ∧ Chg [g] [g] (h.upd g (.cells cur 79 (0, 0))) h') hB hn (fun l' h' hp hs hB hc => ⟨rfl, l', hp, hs, hB, hc⟩) w' hf.inn) ?_
    rintro e w'' ⟨_, h', rfl, ⟨rfl, l', hp, hs, hB', hc⟩, hf2⟩
    have hl := hp.length_eq
    exact ⟨rfl, l', _, cap, [g], h', hp, hs, by rw [hl], by rw [hl]; exact hB', (Chg.new _ hno).trans hc, hf.trans hf2⟩
set_option maxRecDepth 100000 in
set_option maxHeartbeats 1000000 in
theorem cSortedA {h : PH} {K : Value → PH → Prop} {bm r c : Nat} {es : List MapEntry} (hbm : h bm = some (.cells #[.map (some r)] 184 (0, 0))) (hr : h r = some (.map es.toArray c)) (hkey : ∀ e ∈ es, ∃ x, e.key = keyV x) (hold : ∀ e ∈ es, e.born < c)
    (hnd : (es.map (·.born)).Nodup) (hn : es.length ≤ 1000)
    (hk : ∀ (l : List (Int × Int)) a' c' B' h', (l.map keyV).Perm (es.map (·.key)) → (l.Pairwise fun a b => ¬ ltA b a) → Buf EncAsk 79 B' h' a' l.length c' l → Chg [] B' h h' → K (.slice a' l.length c') h') :
    CallH Tryz.prog 114 [.func (.func 151) #[] #[.pointer (some ⟨bm, 0, none⟩)], .func (.func 116) #[] #[]] K h := by
  intro w hi
  have hwm := hi _ _ hbm
  have hwr := hi _ _ hr
  have hseq : SeqGives Fence.wide 3 Tryz.prog 151 #[.pointer (some ⟨bm, 0, none⟩)] keyV (fun ss => (ss.map keyV).Perm (es.map (·.key))) es.length w :=
    keysAsk_gives Fence.wide 3 trivial rfl (by omega) bm r es.toArray c hkey hold hnd w (hi.lt hbm) (by simp [World.cell?, hwm]) hwr
  have hmax : es.length ≤ maxLen := by unfold maxLen; omega
  have hf1 : Fence.wide.fn 149 := trivial
  have hf2 : Fence.wide.fn 150 := trivial
  refine (callsIn_wide (n := 6)).1 ?_
  refine callsIn_of_wp Tryz.func114 rfl trivial ?_ rfl
  simp only [Tryz.ntmps114, List.size_toArray, List.length_cons, List.length_nil, Nat.reduceAdd, Nat.reduceSub, Array.replicate_succ, Array.replicate_zero, List.push_toArray, List.append_toArray, List.nil_append, List.cons_append]
  gi_wp2_with (first
    | (gi_at_call 149; refine (ask_collect_in Fence.wide 5 trivial trivial rfl (by omega) 151 _ trivial (enters_of Tryz.func151 (by kernel_rfl) rfl) _ es.length hmax (by omega) _ hseq).mono ?_; rintro e w' ⟨v, ss, rfl, hS, hrow, hnil, hb⟩)
    | (gi_at_call 150; refine (sortStep hi hb hrow (by have := hS.length_eq; simp at this; omega) 5).mono ?_; rintro e w'' ⟨rfl, hpost⟩))
  obtain ⟨l, a', c', B', h', hp, hs, rfl, hB, hc, hf⟩ := hpost
  go_ret
  exact ⟨_, h', rfl, hk l a' c' B' h' ((hp.map keyV).trans hS) hs hB hc, hf⟩
end TL

namespace TL
open Go
variable {P : Program} {f : FuncId} {args : List Value} {K K' : Value → PH → Prop} {g h : PH} {N : List Nat}
theorem CallH.frame {hs : PH} (s : hs.Sub h) (x : CallH P f args K hs) (hk : ∀ v h' H, K v h' → h'.Sub H → (∀ b o, h b = some o → hs b = none → h' b = none ∧ H b = some o) → K' v H) : CallH P f args K' h := by
  intro w hi
  refine Calls.mono (x w fun b o e => hi b o (s b o e)) ?_
  rintro e w' ⟨v, h', rfl, hK, fr⟩
  have hold : ∀ b o, h b = some o → hs b = none → h' b = none ∧ w'.heap[b]? = some o := fun b o e1 e2 => by
    obtain ⟨a1, a2⟩ := fr.old b (hi.lt e1) e2
    exact ⟨a1, a2.trans (hi b o e1)⟩
  refine ⟨v, fun b => match h' b with
    | some o => some o
    | none => if (hs b).isSome then none else h b, rfl, hk v h' _ hK (fun b o e => by simp [e]) (fun b o e1 e2 => ?_), fun b o e1 => ?_, fr.size, fun b hb e1 => ?_, fr.os, fr.out⟩
  · obtain ⟨a1, _⟩ := hold b o e1 e2
    exact ⟨a1, by simp [a1, e2, e1]⟩
  · cases e2 : h' b with
    | some o' =>
      simp only [e2] at e1; cases e1
      exact fr.inn b _ e2
    | none =>
      simp only [e2] at e1
      cases e3 : hs b with
      | some o' => simp [e3] at e1
      | none =>
        simp only [e3, Option.isSome_none, Bool.false_eq_true, if_false] at e1
        exact (hold b o e1 e3).2
  · have e3 : hs b = none := by
      cases e : hs b with
      | none => rfl
      | some o => rw [s b o e] at e1; cases e1
    obtain ⟨a1, a2⟩ := fr.old b hb e3
    exact ⟨by simp [a1, e3, e1], a2⟩
/-- a call that changes nothing old, on what stays -/
theorem Spl.call (s : Spl g N h) (x : CallH P f args K g) (hk : ∀ v g' H, K v g' → (g.Sub g' → Stp g N h g' N H ∧ ∀ b ∈ N, ∀ o, h b = some o → H b = some o) → K' v H) : CallH P f args K' h := by
  refine x.frame s.sub fun v g' H hK hs ho => hk v g' H hK fun hgg => ⟨?_, fun b hb o e => (ho b o e (s.av b hb)).2⟩
  refine ⟨⟨fun b o _ e => ?_, fun b hb => .inl hb⟩, hgg, fun b _ hh e => ?_, hs, fun b hb => ?_, fun b hb => ?_⟩
  · cases eg : g b with
    | none => exact (ho b o e eg).2
    | some o' =>
      have := s.sub b o' eg
      rw [this] at e; cases e
      exact hs b _ (hgg b _ eg)
  · obtain ⟨o, ho'⟩ := hh
    exact (ho b o ho' e).1
  · obtain ⟨o, ho'⟩ := s.has b hb
    exact (ho b o ho' (s.av b hb)).1
  · obtain ⟨o, ho'⟩ := s.has b hb
    exact ⟨o, (ho b o ho' (s.av b hb)).2⟩
theorem Stp.same {g' h' : PH} {N' : List Nat} (x : Stp g N h g' N' h') {b : Nat} {o : Obj} (e : h b = some o) (hb : b ∉ N) : h' b = some o := x.chg.keep e hb
end TL

namespace TL
open Go Go.Proofs
variable {B : List Nat} {h : PH} {K : Value → PH → Prop}

variable {oA : Option Addr} {oC : Nat} {ops : List OpR}
/-! ### What statements go through -/
variable {pA : Option Addr} {pC : Nat} {prs : List PrR}
variable {rA eA : Option Addr} {rC eN eC : Nat} {rows : List OsR} {i0 i1 : Int}
end TL

namespace TL
open Go Go.Proofs
/- twinlock/twinlocklaw20.Great -/
/- twinlock/twinlocklaw20.Made -/
/- twinlock/ship.New -/
/- (*twinlock/ship.Ship).Ack -/
/- (*twinlock/ship.Ship).Tick -/
/- (*twinlock/ship.Ship).Ask -/
/- (*twinlock/ship.Ship).Texts -/
/- twinlock/twinlocklaw12.GreatOps -/
/- (*twinlock/ship.Ship).Copy -/
/- twinlock/ship.next -/
/- twinlock/ship.entries -/
/- twinlock/ship.above -/
end TL

namespace TL
open Go Go.Proofs
variable {B : List Nat} {h : PH} {K : Value → PH → Prop}

/-! ### What statements go through -/
variable {oA : Option Addr} {oC : Nat} {ops : List OpR}
variable {pA : Option Addr} {pC : Nat} {prs : List PrR}
variable {rA eA : Option Addr} {rC eN eC : Nat} {rows : List OsR} {i0 i1 : Int}
/-! ### The view of a row -/
def EncI : Enc Int where
  enc n := [.int .i64 n]
  k := 1
  len _ := rfl
  one o v hv := by
    simp only [List.mem_cons, List.not_mem_nil, or_false] at hv
    rcases hv with rfl; rfl
  pos := by decide
structure BtR where
  ix : Int
  ep : Int
  a : Option Addr
  c : Nat
  ops : List OpR
def EncBt : Enc BtR where
  enc r := [.int .i64 r.ix, .int .i64 r.ep, .slice r.a r.ops.length r.c]
  k := 3
  len _ := rfl
  one o v hv := by
    simp only [List.mem_cons, List.not_mem_nil, or_false] at hv
    rcases hv with rfl | rfl | rfl <;> rfl
  pos := by decide
variable {pN : Nat} {eps : List Int}
/-! ### What a take knows of a row -/

end TL

namespace TL
open Go Go.Proofs

/-- a message, without its memory -/
structure MsgA where
  kd : Int
  ep : Int
  at_ : Int
  ae : Int
  ix : Int
  be : Int
  ops : List OpR
  prev : Int
  root : H32
  lv : Int
  ii : Int
  left : H32
  right : H32
  prs : List PrR
  deriving DecidableEq
def zeroH : H32 := ⟨List.replicate 32 0, by simp⟩
def msg0 : MsgA := ⟨0, 0, 0, 0, 0, 0, [], 0, zeroH, 0, 0, zeroH, zeroH, []⟩
/-- a message in a row -/
structure MsgF where
  m : MsgA
  oA : Option Addr
  oC : Nat
  pA : Option Addr
  pC : Nat
def hv (x : H32) : List Value := (bi x.1).map (Value.int .u8)
theorem hv_len (x : H32) : (hv x).length = 32 := by rw [hv, List.length_map, bi_len, x.2]
theorem hv_one (x : H32) : ∀ v ∈ hv x, one1 v = true := fun v h => by
  obtain ⟨n, _, rfl⟩ := List.mem_map.1 h
  rfl
def encMsg (f : MsgF) : List Value := .int .u8 f.m.kd :: (.int .i64 f.m.ep :: (.int .i64 f.m.at_ :: (.int .i64 f.m.ae :: (.int .i64 f.m.ix :: (.int .i64 f.m.be :: (.slice f.oA f.m.ops.length f.oC :: (.int .i64 f.m.prev :: (hv f.m.root ++ (.int .i64 f.m.lv :: (.int .i64 f.m.ii :: (hv f.m.left ++ (hv f.m.right ++ [.slice f.pA f.m.prs.length f.pC]))))))))))))
def EncMsg : Enc MsgF where
  enc := encMsg
  k := 107
  len f := by simp [encMsg, hv_len]
  one f v h := by
    simp only [encMsg, List.mem_cons, List.mem_append, List.not_mem_nil, or_false] at h
    rcases h with rfl | rfl | rfl | rfl | rfl | rfl | rfl | rfl | h | rfl | rfl | h | h | rfl
    all_goals first | rfl | exact hv_one _ _ h
  pos := by decide
/-- what a view is -/
structure VwR where
  ep : Int
  at_ : Int
  ae : Int
  bA : Option Addr
  bC : Nat
  bs : List BtR
  pv : Int
  pA : Option Addr
  pC : Nat
  prs : List PrR
structure VwOk (h : PH) (v : VwR) : Prop where
  bts : SR EncBt h v.bA v.bs
  n : v.bs.length ≤ 1000
  ix : ∀ b ∈ v.bs, 0 ≤ b.ix ∧ b.ix ≤ 1000000
  ops : ∀ b ∈ v.bs, SR EncOp h b.a b.ops ∧ b.ops.length ≤ 1000
  prs : SR EncPr h v.pA v.prs
  pn : v.prs.length ≤ 1000
  pl : ∀ x ∈ v.prs, x.p.length ≤ 1000000
theorem VwOk.sub {h g : PH} {v : VwR} (x : VwOk h v) (s : h.Sub g) : VwOk g v := ⟨x.bts.sub s, x.n, x.ix, fun b hb => ⟨(x.ops b hb).1.sub s, (x.ops b hb).2⟩, x.prs.sub s, x.pn, x.pl⟩
/-- what a ship holds -/
structure ShS where
  ack : Option (Int × Int)
  shot : Option (Int × Int × List PrR)
  texts : List (List UInt8)
def needV (s : ShS) (v : VwR) (a : Int) : Prop := match s.shot with
  | none => True
  | some (x, _, _) => (x ≤ a ∧ x < v.at_) ∨ (x ≤ 9223372036854775743 ∧ v.at_ > x + 64)
instance (s : ShS) (v : VwR) (a : Int) : Decidable (needV s v a) := by
  unfold needV
  cases s.shot with
  | none => exact inferInstanceAs (Decidable True)
  | some q => obtain ⟨x, y, z⟩ := q; exact inferInstanceAs (Decidable (_ ∨ _))
/-! ### In memory -/
def ackAt (g : PH) (p : Option Addr) (a : Option (Int × Int)) : Prop := match a with
  | none => p = none
  | some (x, y) => ∃ b T fr, p = some ⟨b, 0, none⟩ ∧ g b = some (.cells ([.int .i64 x, .int .i64 y] : List Value).toArray T fr)
def shotAt (g : PH) (p : Option Addr) (a : Option (Int × Int × List PrR)) : Prop := match a with
  | none => p = none
  | some (x, y, S) => ∃ b t T fr, p = some ⟨b, 0, none⟩ ∧ g b = some (.cells ([.int .i64 x, .int .i64 y, .pointer (some ⟨t, 0, none⟩)] : List Value).toArray T fr) ∧ Tr t g S
structure ShipAt (g : PH) (N : List Nat) (h : PH) (sb : Nat) (s : ShS) : Prop where
  mem : ∃ pa ps tA tN tC Bt, N = sb :: Bt ∧ sb ∉ Bt ∧ h sb = some (.cells ([.pointer pa, .pointer ps, .slice tA tN tC] : List Value).toArray T_ship_Ship (0, 0)) ∧ Buf EncS 9 Bt h tA tN tC s.texts ∧ ackAt g pa s.ack ∧ shotAt g ps s.shot
  sh : ∀ x y S, s.shot = some (x, y, S) → -9223372036854775808 ≤ x ∧ x ≤ 9223372036854775807
end TL

namespace TL
open Go
variable {g g' g'' h h' h'' : PH} {N N' N'' M M' B C : List Nat}
theorem Stp.less (x : Stp g N h g' N' h') (hs : ∀ b ∈ M, b ∈ N') : Stp g N h g' M h' :=
  ⟨⟨x.chg.1, fun b hb => x.chg.2 b (hs b hb)⟩, x.gs, x.gn, x.spl.sub, fun b hb => x.spl.av b (hs b hb), fun b hb => x.spl.has b (hs b hb)⟩
theorem Spl.less (x : Spl g N h) (hs : ∀ b ∈ M, b ∈ N) : Spl g M h := ⟨x.sub, fun b hb => x.av b (hs b hb), fun b hb => x.has b (hs b hb)⟩
theorem Spl.freeze (s : Spl g (B ++ N) h) (d : Dj B N) : Stp g (B ++ N) h (PH.plus g h B) N h := by
  refine ⟨⟨fun b o _ e => e, fun b hb => .inl (List.mem_append_right _ hb)⟩, fun b o e => ?_, fun b hb _ e => ?_, fun b o e => ?_, fun b hb => ?_, s.right.has⟩
  · rw [plus_out (fun hb => by rw [s.left.av b hb] at e; cases e)]; exact e
  · rw [plus_out (fun h1 => hb (List.mem_append_left _ h1))]; exact e
  · by_cases hb : b ∈ B
    · rw [plus_in hb] at e; exact e
    · rw [plus_out hb] at e; exact s.sub b o e
  · rw [plus_out (fun h1 => d b h1 hb)]; exact s.right.av b hb
/-- new blocks, then a change of the whole -/
theorem Dj.new (hN : Has N h) (c : Chg [] B h h') : Dj B N := fun b hb hm => by
  obtain ⟨o, ho⟩ := hN b hm
  rcases c.2 b hb with h1 | h1
  · cases h1
  · rw [ho] at h1; cases h1
theorem Dj.chg (d : Dj B N) (hN : Has N h) (c : Chg B C h h') : Dj C N := fun b hb hm => by
  rcases c.2 b hb with h1 | h1
  · exact d b h1 hm
  · obtain ⟨o, ho⟩ := hN b hm; rw [ho] at h1; cases h1
theorem Dj.app {A B C : List Nat} (x : Dj A C) (y : Dj B C) : Dj (A ++ B) C := fun b hb => by
  rcases List.mem_append.1 hb with hb | hb
  · exact x b hb
  · exact y b hb
theorem Dj.l {A B C : List Nat} (x : Dj (A ++ B) C) : Dj A C := fun b hb => x b (List.mem_append_left _ hb)
theorem Dj.r {A B C : List Nat} (x : Dj (A ++ B) C) : Dj B C := fun b hb => x b (List.mem_append_right _ hb)
theorem Has.app {A B : List Nat} (x : Has A h) (y : Has B h) : Has (A ++ B) h := fun b hb => by
  rcases List.mem_append.1 hb with hb | hb
  · exact x b hb
  · exact y b hb
theorem Has.sub (x : Has N h) (s : h.Sub h') : Has N h' := fun b hb => by
  obtain ⟨o, ho⟩ := x b hb; exact ⟨o, s b o ho⟩
/-- a part of what changes, changed -/
theorem Spl.part (s : Spl g (B ++ N) h) (d : Dj B N) (c : Chg B C h h') (hh : Has C h') : Stp g (B ++ N) h g (C ++ N) h' :=
  s.chg c.left (hh.app fun b hb => by
    obtain ⟨o, ho⟩ := s.right.has b hb
    exact ⟨o, c.keep ho fun h1 => d b h1 hb⟩)
end TL

namespace TL
open Go Go.Proofs
variable {g h : PH} {N : List Nat} {K : Value → PH → Prop} {sb : Nat} {s : ShS} {v : VwR} {lA : Option Addr} {lC : Nat}

theorem cCloneStr {l : List (List UInt8)} (x : SR EncS h lA l) (hn : l.length ≤ 1000000) (hk : ∀ a' c' B' h', Buf EncS 9 B' h' a' l.length c' l → Chg [] B' h h' → K (.slice a' l.length c') h') : CallH Tryz.prog id_slices_Clone_string_string [.slice lA l.length lC] K h :=
  F_slices_Clone_string_string_ok (CloneF_ok (E := EncS) (sC := lC) (bt := 16) (z := [.string (⟨#[]⟩ : ByteArray)]) x rfl (by omega) hk)
abbrev VwR.val (v : VwR) : Value := .agg #[.int .i64 v.ep, .int .i64 v.at_, .int .i64 v.ae, .slice v.bA v.bs.length v.bC, .int .i64 v.pv, .slice v.pA v.prs.length v.pC]
/-- the operations' memory of a row of messages -/
inductive OpsAt (h : PH) : List Nat → List MsgF → Prop
  | nil : OpsAt h [] []
  | cons {f : MsgF} {Be Bs : List Nat} {L : List MsgF} : Buf EncOp T_api_Op Be h f.oA f.m.ops.length f.oC f.m.ops → Dj Be Bs → OpsAt h Bs L → OpsAt h (Be ++ Bs) (f :: L)
theorem OpsAt.keep {h' : PH} : ∀ {Bs : List Nat} {L : List MsgF}, OpsAt h Bs L → (∀ b ∈ Bs, ∀ o, h b = some o → h' b = some o) → OpsAt h' Bs L
  | _, _, .nil, _ => .nil
  | _, _, .cons e1 e2 e3, hk => .cons (e1.keep fun b hb => hk b (List.mem_append_left _ hb)) e2 (e3.keep fun b hb => hk b (List.mem_append_right _ hb))
theorem OpsAt.has : ∀ {Bs : List Nat} {L : List MsgF}, OpsAt h Bs L → Has Bs h
  | _, _, .nil => fun _ hb => by cases hb
  | _, _, .cons e1 _ e3 => e1.has.app e3.has
theorem OpsAt.all : ∀ {Bs : List Nat} {L : List MsgF}, OpsAt h Bs L → ∀ f ∈ L, SR EncOp h f.oA f.m.ops
  | _, _, .nil => fun _ hf => by cases hf
  | _, _, .cons e1 _ e3 => fun f hf => by
    rcases List.mem_cons.1 hf with rfl | hf
    · exact e1.sr
    · exact e3.all f hf
/-- messages in memory of one's own -/
def Msgs (B : List Nat) (h : PH) (a : Option Addr) (c : Nat) (L : List MsgF) : Prop := ∃ B0 Bs, B = B0 ++ Bs ∧ Buf EncMsg T_api_Msg B0 h a L.length c L ∧ OpsAt h Bs L ∧ Dj B0 Bs ∧ ∀ f ∈ L, f.m.prs = [] ∧ f.m.ops.length ≤ 1000
theorem Msgs.has {B : List Nat} {a : Option Addr} {c : Nat} {L : List MsgF} (x : Msgs B h a c L) : Has B h := by
  obtain ⟨B0, Bs, rfl, h1, h2, _⟩ := x
  exact h1.has.app h2.has
theorem hv_zero : hv zeroH = (List.replicate 32 (0 : Int)).map (Value.int .u8) := by simp [hv, zeroH, bi]
def fOf (m : MsgA) (a : Option Addr) (c : Nat) : MsgF := ⟨m, a, c, none, 0⟩
end TL

namespace TL
open Go Go.Proofs
variable {g h : PH} {N : List Nat} {K : Value → PH → Prop} {sb : Nat} {s : ShS} {v : VwR} {lA : Option Addr} {lC : Nat}

/-- a message by its cells -/
abbrev mV (m0 m1 m2 m3 m4 m5 : Int) (m6A : Option Addr) (m6N m6C : Nat) (m7 : Int) (m8 : List Int) (m9 m10 : Int) (m11 m12 : List Int) (m13A : Option Addr) (m13N m13C : Nat) : Value :=
  .agg ((.int .u8 m0 :: (.int .i64 m1 :: (.int .i64 m2 :: (.int .i64 m3 :: (.int .i64 m4 :: (.int .i64 m5 :: (.slice m6A m6N m6C :: (.int .i64 m7 :: (m8.map (Value.int .u8) ++ (.int .i64 m9 :: (.int .i64 m10 :: (m11.map (Value.int .u8) ++ (m12.map (Value.int .u8) ++ ([.slice m13A m13N m13C] : List Value))))))))))))))).toArray
theorem ackAt.sub {g' : PH} {p : Option Addr} {a : Option (Int × Int)} (x : ackAt g p a) (hs : g.Sub g') : ackAt g' p a := by
  unfold ackAt at x ⊢
  split at x
  · exact x
  · obtain ⟨b, T, fr, h1, h2⟩ := x
    exact ⟨b, T, fr, h1, hs _ _ h2⟩
theorem shotAt.sub {g' : PH} {p : Option Addr} {a : Option (Int × Int × List PrR)} (x : shotAt g p a) (hs : g.Sub g') : shotAt g' p a := by
  unfold shotAt at x ⊢
  split at x
  · exact x
  · obtain ⟨b, t, T, fr, h1, h2, h3⟩ := x
    exact ⟨b, t, T, fr, h1, hs _ _ h2, h3.sub hs⟩
theorem ShipAt.keep {g' h' : PH} (x : ShipAt g N h sb s) (hs : g.Sub g') (hk : ∀ b ∈ N, ∀ o, h b = some o → h' b = some o) : ShipAt g' N h' sb s := by
  obtain ⟨⟨pa, ps, tA, tN, tC, Bt, rfl, nB, hb, hbuf, ha, hsh⟩, hr⟩ := x
  exact ⟨⟨pa, ps, tA, tN, tC, Bt, rfl, nB, hk _ (by simp) _ hb, hbuf.keep fun b hb' => hk b (List.mem_cons_of_mem _ hb'), ha.sub hs, hsh.sub hs⟩, hr⟩
theorem ShipAt.stp {M M' : List Nat} {g' h' : PH} (x : ShipAt g N h sb s) (t : Stp g M h g' M' h') (d : Dj N M) : ShipAt g' N h' sb s :=
  x.keep t.gs fun b hb _ e => t.chg.keep e (d b hb)
theorem has1 {b : Nat} {o : Obj} (e : h b = some o) : Has [b] h := fun x hx => by
  rw [List.mem_singleton] at hx; subst hx; exact ⟨o, e⟩
section
variable {m0 m1 m2 m3 m4 m5 m7 m9 m10 : Int} {m6A m13A : Option Addr} {m6N m6C m13N m13C : Nat} {m8 m11 m12 : List Int}
end
theorem cOf3 {h : PH} {K : Value → PH → Prop} {l : List PrR} (hl : SR EncPr h lA l) (hn : l.length ≤ 1000) (hs : ∀ x ∈ l, x.p.length ≤ 1000000)
    (h1 : mayB l = true ∧ l.length ≤ 48 → ∀ b h', Tr b h' l → h b = none → Chg [] [b] h h' → K (.tuple #[.pointer (some ⟨b, 0, none⟩), .int .i64 (0 : Int)]) h')
    (h2 : ¬ (mayB l = true ∧ l.length ≤ 48) → ∀ e : Int, (e = 1 ∨ e = 6) → (e = 1 ↔ mayB l = false) → K (.tuple #[.pointer none, .int .i64 e]) h) : CallH Tryz.prog id_tree_Of [.slice lA l.length lC] K h := by
  by_cases hm : mayB l = true
  · by_cases h48 : l.length ≤ 48
    · exact cOfT hl hm h48 (h1 ⟨hm, h48⟩)
    · exact F_tree_Of_ok (cMay hl (by omega) hs ⟨_, rfl, fun e => (by rw [hm] at e; cases e), fun _ => ⟨fun _ => h2 (fun hh => h48 hh.2) 6 (.inr rfl) ⟨fun e => (by omega), fun e => (by rw [hm] at e; cases e)⟩, fun e => (by simp at e; omega)⟩⟩)
  · exact cOfNo hl (by omega) hs (by simpa using hm) (h2 (fun hh => hm hh.1) 1 (.inl rfl) ⟨fun _ => by simpa using hm, fun _ => rfl⟩)
end TL

namespace TL
open Go Go.Proofs
/- twinlock/walk.New -/
def F_walk_New (baseA : Option Addr) (baseN baseC : Nat) (root : List Int) (K : Value → PH → Prop) (h : PH) : Prop :=
  CallH Tryz.prog id_tree_Of [.slice baseA baseN baseC] (fun v h1 =>
    ∃ t0 : Option Addr, ∃ t1 : Int, v = .tuple #[.pointer t0, .int .i64 t1] ∧
    (((t1 != (0 : Int)) = true →
        K (.tuple #[.pointer none, .int .i64 t1]) h1) ∧
      ((t1 != (0 : Int)) = false →
        JoinP (T := Option Addr × Unit) (fun Jv =>
          (newH h1 (.map #[] 0) fun bv h3 =>
            (newH h3 (.map #[] 0) fun bv_1 h4 =>
              CallH Tryz.prog id_tree_Tree_Texts [.pointer t0] (fun v_1 h5 =>
                ∃ (tA : Option Addr) (tN tC : Nat), v_1 = .slice tA tN tC ∧
                newH h5 (.cells ((.pointer t0 :: (root.map (Value.int .u8) ++ ([.map (some bv), .map (some bv_1), .slice tA tN tC] : List Value)))).toArray T_walk_Walk (0, 0)) fun bv_2 h6 =>
                Jv ((some ⟨bv_2, 0, none⟩), ()) h6) h4) ∧
            (CallH Tryz.prog id_tree_Tree_Texts [.pointer t0] (fun v_2 h7 =>
                ∃ (tA_1 : Option Addr) (tN_1 tC_1 : Nat), v_2 = .slice tA_1 tN_1 tC_1 ∧
                newH h7 (.map #[] 0) fun bv_3 h8 =>
                newH h8 (.cells ((.pointer t0 :: (root.map (Value.int .u8) ++ ([.map (some bv), .map (some bv_3), .slice tA_1 tN_1 tC_1] : List Value)))).toArray T_walk_Walk (0, 0)) fun bv_4 h9 =>
                Jv ((some ⟨bv_4, 0, none⟩), ()) h9) h3)) ∧
          ((newH h1 (.map #[] 0) fun bv_5 h10 =>
              (newH h10 (.map #[] 0) fun bv_6 h11 =>
                CallH Tryz.prog id_tree_Tree_Texts [.pointer t0] (fun v_3 h12 =>
                  ∃ (tA_2 : Option Addr) (tN_2 tC_2 : Nat), v_3 = .slice tA_2 tN_2 tC_2 ∧
                  newH h12 (.cells ((.pointer t0 :: (root.map (Value.int .u8) ++ ([.map (some bv_6), .map (some bv_5), .slice tA_2 tN_2 tC_2] : List Value)))).toArray T_walk_Walk (0, 0)) fun bv_7 h13 =>
                  Jv ((some ⟨bv_7, 0, none⟩), ()) h13) h11) ∧
              (CallH Tryz.prog id_tree_Tree_Texts [.pointer t0] (fun v_4 h14 =>
                  ∃ (tA_3 : Option Addr) (tN_3 tC_3 : Nat), v_4 = .slice tA_3 tN_3 tC_3 ∧
                  newH h14 (.map #[] 0) fun bv_8 h15 =>
                  newH h15 (.cells ((.pointer t0 :: (root.map (Value.int .u8) ++ ([.map (some bv_8), .map (some bv_5), .slice tA_3 tN_3 tC_3] : List Value)))).toArray T_walk_Walk (0, 0)) fun bv_9 h16 =>
                  Jv ((some ⟨bv_9, 0, none⟩), ()) h16) h10)) ∧
            (CallH Tryz.prog id_tree_Tree_Texts [.pointer t0] (fun v_5 h17 =>
                ∃ (tA_4 : Option Addr) (tN_4 tC_4 : Nat), v_5 = .slice tA_4 tN_4 tC_4 ∧
                (newH h17 (.map #[] 0) fun bv_10 h18 =>
                  newH h18 (.map #[] 0) fun bv_11 h19 =>
                  newH h19 (.cells ((.pointer t0 :: (root.map (Value.int .u8) ++ ([.map (some bv_10), .map (some bv_11), .slice tA_4 tN_4 tC_4] : List Value)))).toArray T_walk_Walk (0, 0)) fun bv_12 h20 =>
                  Jv ((some ⟨bv_12, 0, none⟩), ()) h20) ∧
                (newH h17 (.map #[] 0) fun bv_13 h21 =>
                  newH h21 (.map #[] 0) fun bv_14 h22 =>
                  newH h22 (.cells ((.pointer t0 :: (root.map (Value.int .u8) ++ ([.map (some bv_14), .map (some bv_13), .slice tA_4 tN_4 tC_4] : List Value)))).toArray T_walk_Walk (0, 0)) fun bv_15 h23 =>
                  Jv ((some ⟨bv_15, 0, none⟩), ()) h23)) h1)))
        (fun st h2 =>
          CallH Tryz.prog id_walk_Walk_ask [.pointer st.1, .agg #[.int .i64 (0 : Int), .int .i64 (0 : Int)], .agg ((root.map (Value.int .u8) ++ [])).toArray] (fun _ h24 =>
            K (.tuple #[.pointer st.1, .int .i64 (0 : Int)]) h24) h2)))) h
theorem F_walk_New_eq {baseA : Option Addr} {baseN baseC : Nat} {root : List Int} {K : Value → PH → Prop} {h : PH} : @Eq Prop (F_walk_New baseA baseN baseC root K h) (denF Tryz.prog Tryz.f39 ⟨[3], [(4, .one 0 (.one 1 (.one 4 (.alt 2 (.alt 3 (.of [5, 6, 7, 8]) (.of [5, 3, 6, 7, 8])) (.alt 3 (.alt 2 (.of [5, 6, 7, 8]) (.of [5, 2, 6, 7, 8])) (.one 5 (.alt 2 (.of [3, 6, 7, 8]) (.of [3, 2, 6, 7, 8]))))))))], [], [(12, ⟨[(8, .ptr)], [], []⟩)]⟩ [.v (.slice baseA baseN baseC), .agg [.ints .u8 32 root]] K h) := by
  kernel_rfl
theorem F_walk_New_ok {baseA : Option Addr} {baseN baseC : Nat} {root : List Int} (hk0 : root.length = 32) {K : Value → PH → Prop} {h : PH} (hh : F_walk_New baseA baseN baseC root K h) : CallH Tryz.prog id_walk_New [.slice baseA baseN baseC, .agg ((root.map (Value.int .u8) ++ [])).toArray] K h :=
  denF_sound' Tryz.func39 (H := ⟨[3], [(4, .one 0 (.one 1 (.one 4 (.alt 2 (.alt 3 (.of [5, 6, 7, 8]) (.of [5, 3, 6, 7, 8])) (.alt 3 (.alt 2 (.of [5, 6, 7, 8]) (.of [5, 2, 6, 7, 8])) (.one 5 (.alt 2 (.of [3, 6, 7, 8]) (.of [3, 2, 6, 7, 8]))))))))], [], [(12, ⟨[(8, .ptr)], [], []⟩)]⟩) (xs := [.v (.slice baseA baseN baseC), .agg [.ints .u8 32 root]]) (by kernel_rfl) (⟨rfl, ⟨hk0, trivial⟩, trivial⟩) (den_of F_walk_New_eq hh)

/- (*twinlock/walk.Walk).Want -/
def F_walk_Walk_Want (w : Option Addr) (n : Int) (K : Value → PH → Prop) (h : PH) : Prop :=
  CallH Tryz.prog id_walk_Walk_none [.pointer w] (fun v h1 =>
    ∃ t : Bool, v = .bool t ∧
    (((t || (decide (n < (1 : Int)))) = true →
        K (.slice none 0 0) h1) ∧
      ((t || (decide (n < (1 : Int)))) = false →
        ∃ bv ov : Nat, w = some ⟨bv, ov, none⟩ ∧
        ∃ t_1 : Option Nat, (h1.rds bv (ov + 33) 1 = some [.map t_1]) ∧
        CallH Tryz.prog id_maps_Keys_map_walk_Ask_api_Hash_walk_Ask_api_Hash [.map t_1] (fun v_1 h2 =>
          ∃ t_2 : Value, one1 t_2 = true ∧ v_1 = t_2 ∧
          CallH Tryz.prog id_slices_SortedFunc_walk_Ask [t_2, .func (.func 116) #[] #[]] (fun v_2 h3 =>
            ∃ (lA : Option Addr) (lN lC : Nat), v_2 = .slice lA lN lC ∧
            (0 ≤ (0 : Int) ∧ (0 : Int) ≤ (minV n ((lN : Nat) : Int)) ∧ (minV n ((lN : Nat) : Int)) ≤ ((lC : Nat) : Int) ∧ ((lC : Nat) : Int) ≤ (lC : Nat)) ∧
            K (.slice (slA lA 2 (0 : Int) ((lC : Nat) : Int)) ((minV n ((lN : Nat) : Int)).toNat - (0 : Int).toNat) (((lC : Nat) : Int).toNat - (0 : Int).toNat)) h3) h2) h1))) h
theorem F_walk_Walk_Want_eq {w : Option Addr} {n : Int} {K : Value → PH → Prop} {h : PH} : @Eq Prop (F_walk_Walk_Want w n K h) (denF Tryz.prog Tryz.f40 ⟨[], [], [], []⟩ [.v (.pointer w), .v (.int .i64 n)] K h) := by
  kernel_rfl
theorem F_walk_Walk_Want_ok {w : Option Addr} {n : Int}  {K : Value → PH → Prop} {h : PH} (hh : F_walk_Walk_Want w n K h) : CallH Tryz.prog id_walk_Walk_Want [.pointer w, .int .i64 n] K h :=
  denF_sound' Tryz.func40 (H := ⟨[], [], [], []⟩) (xs := [.v (.pointer w), .v (.int .i64 n)]) (by kernel_rfl) (⟨rfl, rfl, trivial⟩) (den_of F_walk_Walk_Want_eq hh)

/- (*twinlock/walk.Walk).Node -/
def F_walk_Walk_Node (w : Option Addr) (level : Int) (i : Int) (leftv : List Int) (rightv : List Int) (K : Value → PH → Prop) (h : PH) : Prop :=
  newH h (.cells ((leftv.map (Value.int .u8) ++ [])).toArray T_api_Hash (0, 0)) fun bv h1 =>
  newH h1 (.cells ((rightv.map (Value.int .u8) ++ [])).toArray T_api_Hash (0, 0)) fun bv_1 h2 =>
  CallH Tryz.prog id_walk_Walk_none [.pointer w] (fun v h3 =>
    ∃ t : Bool, v = .bool t ∧
    ((((t || (decide (level < (0 : Int)))) || (decide (level ≥ (4 : Int)))) = true →
        K (.bool false) h3) ∧
      (((t || (decide (level < (0 : Int)))) || (decide (level ≥ (4 : Int)))) = false →
        ∃ t_1 : List Int, t_1.length = 32 ∧ (h3.rds bv 0 32 = some (t_1.map (Value.int .u8) ++ [])) ∧
        ∃ t_2 : List Int, t_2.length = 32 ∧ (h3.rds bv_1 0 32 = some (t_2.map (Value.int .u8) ++ [])) ∧
        (0 ≤ (0 : Int) ∧ (0 : Int) ≤ ((32 : Nat) : Int) ∧ ((32 : Nat) : Int) ≤ ((32 : Nat) : Int) ∧ ((32 : Nat) : Int) ≤ (32 : Nat)) ∧
        ∃ t_3 : ByteArray, strH h3 (slA (some ⟨bv, 0, none⟩ : Option Addr) 1 (0 : Int) ((32 : Nat) : Int)) (((32 : Nat) : Int).toNat - (0 : Int).toNat) t_3 ∧
        (((ByteArray.size (⟨#[78]⟩ : ByteArray) + ByteArray.size t_3 : Nat) : Int) ≤ 9223372036854775807) ∧
        (0 ≤ (0 : Int) ∧ (0 : Int) ≤ ((32 : Nat) : Int) ∧ ((32 : Nat) : Int) ≤ ((32 : Nat) : Int) ∧ ((32 : Nat) : Int) ≤ (32 : Nat)) ∧
        ∃ t_4 : ByteArray, strH h3 (slA (some ⟨bv_1, 0, none⟩ : Option Addr) 1 (0 : Int) ((32 : Nat) : Int)) (((32 : Nat) : Int).toNat - (0 : Int).toNat) t_4 ∧
        (((ByteArray.size ((⟨#[78]⟩ : ByteArray) ++ t_3) + ByteArray.size t_4 : Nat) : Int) ≤ 9223372036854775807) ∧
        CallH Tryz.prog id_tree_Inner [.agg ((t_1.map (Value.int .u8) ++ [])).toArray, .agg ((t_2.map (Value.int .u8) ++ [])).toArray] (fun v_1 h4 =>
          ∃ t_5 : List Int, t_5.length = 32 ∧ v_1 = .agg ((t_5.map (Value.int .u8) ++ [])).toArray ∧
          (strH h4 (slA (some ⟨bv_1, 0, none⟩ : Option Addr) 1 (0 : Int) ((32 : Nat) : Int)) (((32 : Nat) : Int).toNat - (0 : Int).toNat) t_4) ∧
          (strH h4 (slA (some ⟨bv, 0, none⟩ : Option Addr) 1 (0 : Int) ((32 : Nat) : Int)) (((32 : Nat) : Int).toNat - (0 : Int).toNat) t_3) ∧
          CallH Tryz.prog id_walk_Walk_fits [.pointer w, .agg #[.int .i64 level, .int .i64 i], .agg ((t_5.map (Value.int .u8) ++ [])).toArray, .string (((⟨#[78]⟩ : ByteArray) ++ t_3) ++ t_4)] (fun v_2 h5 =>
            ∃ t_6 : Bool, v_2 = .bool t_6 ∧
            (((!t_6) = true →
                K (.bool false) h5) ∧
              ((!t_6) = false →
                ∃ t_7 : List Int, t_7.length = 32 ∧ (h5.rds bv 0 32 = some (t_7.map (Value.int .u8) ++ [])) ∧
                CallH Tryz.prog id_walk_Walk_ask [.pointer w, .agg #[.int .i64 (IntKind.wrap .i64 (level + (1 : Int))), .int .i64 (IntKind.wrap .i64 ((2 : Int) * i))], .agg ((t_7.map (Value.int .u8) ++ [])).toArray] (fun _ h6 =>
                  ∃ t_8 : List Int, t_8.length = 32 ∧ (h6.rds bv_1 0 32 = some (t_8.map (Value.int .u8) ++ [])) ∧
                  CallH Tryz.prog id_walk_Walk_ask [.pointer w, .agg #[.int .i64 (IntKind.wrap .i64 (level + (1 : Int))), .int .i64 (IntKind.wrap .i64 ((IntKind.wrap .i64 ((2 : Int) * i)) + (1 : Int)))], .agg ((t_8.map (Value.int .u8) ++ [])).toArray] (fun _ h7 =>
                    K (.bool true) h7) h6) h5))) h4) h3))) h2
theorem F_walk_Walk_Node_eq {w : Option Addr} {level : Int} {i : Int} {leftv : List Int} {rightv : List Int} {K : Value → PH → Prop} {h : PH} : @Eq Prop (F_walk_Walk_Node w level i leftv rightv K h) (denF Tryz.prog Tryz.f42 ⟨[], [(3, .of [0, 1, 2, 3, 4, 5, 7, 8, 9, 10, 11, 12, 6, 13, 14])], [], []⟩ [.v (.pointer w), .v (.int .i64 level), .v (.int .i64 i), .agg [.ints .u8 32 leftv], .agg [.ints .u8 32 rightv]] K h) := by
  kernel_rfl
theorem F_walk_Walk_Node_ok {w : Option Addr} {level : Int} {i : Int} {leftv : List Int} {rightv : List Int} (hk0 : leftv.length = 32) (hk1 : rightv.length = 32) {K : Value → PH → Prop} {h : PH} (hh : F_walk_Walk_Node w level i leftv rightv K h) : CallH Tryz.prog id_walk_Walk_Node [.pointer w, .int .i64 level, .int .i64 i, .agg ((leftv.map (Value.int .u8) ++ [])).toArray, .agg ((rightv.map (Value.int .u8) ++ [])).toArray] K h :=
  denF_sound' Tryz.func42 (H := ⟨[], [(3, .of [0, 1, 2, 3, 4, 5, 7, 8, 9, 10, 11, 12, 6, 13, 14])], [], []⟩) (xs := [.v (.pointer w), .v (.int .i64 level), .v (.int .i64 i), .agg [.ints .u8 32 leftv], .agg [.ints .u8 32 rightv]]) (by kernel_rfl) (⟨rfl, rfl, rfl, ⟨hk0, trivial⟩, ⟨hk1, trivial⟩, trivial⟩) (den_of F_walk_Walk_Node_eq hh)

/- (*twinlock/walk.Walk).Page -/
def F_walk_Walk_Page (w : Option Addr) (i : Int) (lA : Option Addr) (lN lC : Nat) (K : Value → PH → Prop) (h : PH) : Prop :=
  CallH Tryz.prog id_walk_Walk_none [.pointer w] (fun v h1 =>
    ∃ t : Bool, v = .bool t ∧
    ((t = true →
        K (.bool false) h1) ∧
      (t = false →
        CallH Tryz.prog id_bucket_Page [.int .i64 i, .slice lA lN lC] (fun v_1 h2 =>
          ∃ t0 : ByteArray, ∃ t1 : Int, v_1 = .tuple #[.string t0, .int .i64 t1] ∧
          (((t1 != (0 : Int)) = false →
              CallH Tryz.prog id_tree_Leaf [.string t0] (fun v_2 h3 =>
                ∃ t_1 : List Int, t_1.length = 32 ∧ v_2 = .agg ((t_1.map (Value.int .u8) ++ [])).toArray ∧
                (((ByteArray.size (⟨#[76]⟩ : ByteArray) + ByteArray.size t0 : Nat) : Int) ≤ 9223372036854775807) ∧
                CallH Tryz.prog id_walk_Walk_fits [.pointer w, .agg #[.int .i64 (4 : Int), .int .i64 i], .agg ((t_1.map (Value.int .u8) ++ [])).toArray, .string ((⟨#[76]⟩ : ByteArray) ++ t0)] (fun v_3 h4 =>
                  ∃ t_2 : Bool, v_3 = .bool t_2 ∧
                  (((!t_2) = true →
                      K (.bool false) h4) ∧
                    ((!t_2) = false →
                      ∃ bv ov : Nat, w = some ⟨bv, ov, none⟩ ∧
                      ∃ t_3 : Option Nat, (h4.rds bv (ov + 34) 1 = some [.map t_3]) ∧
                      CallH Tryz.prog id_slices_Clone_api_Pair_api_Pair [.slice lA lN lC] (fun v_4 h5 =>
                        ∃ (tA : Option Addr) (tN tC : Nat), v_4 = .slice tA tN tC ∧
                        (h5.rds bv (ov + 34) 1 = some [.map t_3]) ∧
                        muH (.int .i64) h5 t_3 (.int .i64 i) (.slice tA tN tC) fun h6 =>
                        K (.bool true) h6) h4))) h3) h2) ∧
            ((t1 != (0 : Int)) = true →
              K (.bool false) h2))) h1))) h
theorem F_walk_Walk_Page_eq {w : Option Addr} {i : Int} {lA : Option Addr} {lN lC : Nat} {K : Value → PH → Prop} {h : PH} : @Eq Prop (F_walk_Walk_Page w i lA lN lC K h) (denF Tryz.prog Tryz.f43 ⟨[], [], [], []⟩ [.v (.pointer w), .v (.int .i64 i), .v (.slice lA lN lC)] K h) := by
  kernel_rfl
theorem F_walk_Walk_Page_ok {w : Option Addr} {i : Int} {lA : Option Addr} {lN lC : Nat}  {K : Value → PH → Prop} {h : PH} (hh : F_walk_Walk_Page w i lA lN lC K h) : CallH Tryz.prog id_walk_Walk_Page [.pointer w, .int .i64 i, .slice lA lN lC] K h :=
  denF_sound' Tryz.func43 (H := ⟨[], [], [], []⟩) (xs := [.v (.pointer w), .v (.int .i64 i), .v (.slice lA lN lC)]) (by kernel_rfl) (⟨rfl, rfl, rfl, trivial⟩) (den_of F_walk_Walk_Page_eq hh)

/- (*twinlock/walk.Walk).Done -/
def F_walk_Walk_Done (w : Option Addr) (K : Value → PH → Prop) (h : PH) : Prop :=
  JoinP (T := Unit) (fun Jv =>
    CallH Tryz.prog id_walk_Walk_none [.pointer w] (fun v h2 =>
      ∃ t : Bool, v = .bool t ∧
      ∃ bv ov : Nat, (t = false → w = some ⟨bv, ov, none⟩) ∧
      ∃ t_1 : Option Nat, ((t = false → h2.rds bv (ov + 33) 1 = some [.map t_1])) ∧
      ((t = false →
          ∃ tN : Nat, lenM h2 t_1 tN ∧
          (((decide (((tN : Nat) : Int) > (0 : Int))) = true →
              K (.tuple #[.slice none 0 0, .bool false]) h2) ∧
            ((decide (((tN : Nat) : Int) > (0 : Int))) = false →
              Jv (()) h2))) ∧
        (t = true →
          K (.tuple #[.slice none 0 0, .bool false]) h2))) h)
  (fun _ h1 =>
    LoopP (T := (Option Addr × Nat × Nat) × Int × Unit) (fun Jv_1 st_1 h3 =>
      (((decide (st_1.2.1 < (16 : Int))) = true →
          ∃ bv_1 ov_1 : Nat, w = some ⟨bv_1, ov_1, none⟩ ∧
          ∃ t_2 : Option Nat, (h3.rds bv_1 (ov_1 + 34) 1 = some [.map t_2]) ∧
          ∃ (tA : Option Addr) (tN_1 tC : Nat), ∃ ok : Bool, lkH (.int .i64) h3 t_2 (.int .i64 st_1.2.1) (.slice none 0 0) (.slice tA tN_1 tC) ok ∧
          (((!ok) = true →
              ∃ bv_2 ov_2 : Nat, w = some ⟨bv_2, ov_2, none⟩ ∧
              ∃ t_3 : Option Addr, (h3.rds bv_2 ov_2 1 = some [.pointer t_3]) ∧
              CallH Tryz.prog id_tree_Tree_Pairs [.pointer t_3, .int .i64 st_1.2.1] (fun v_1 h4 =>
                ∃ (partA : Option Addr) (partN partC : Nat), v_1 = .slice partA partN partC ∧
                ∃ vs : List Value, srcH h4 partA (partN * 2) vs ∧
                appH T_api_Pair 2 32 [.string (⟨#[]⟩ : ByteArray), .string (⟨#[]⟩ : ByteArray)] st_1.1.1 st_1.1.2.1 st_1.1.2.2 partN vs (fun lA lN lC h5 =>
                  Jv_1 ((lA, lN, lC), (IntKind.wrap .i64 (st_1.2.1 + (1 : Int))), ()) h5) h4) h3) ∧
            ((!ok) = false →
              ∃ vs_1 : List Value, srcH h3 tA (tN_1 * 2) vs_1 ∧
              appH T_api_Pair 2 32 [.string (⟨#[]⟩ : ByteArray), .string (⟨#[]⟩ : ByteArray)] st_1.1.1 st_1.1.2.1 st_1.1.2.2 tN_1 vs_1 (fun lA_1 lN_1 lC_1 h6 =>
                Jv_1 ((lA_1, lN_1, lC_1), (IntKind.wrap .i64 (st_1.2.1 + (1 : Int))), ()) h6) h3))) ∧
        ((decide (st_1.2.1 < (16 : Int))) = false →
          (((decide (((st_1.1.2.1 : Nat) : Int) > (48 : Int))) = true →
              K (.tuple #[.slice none 0 0, .bool false]) h3) ∧
            ((decide (((st_1.1.2.1 : Nat) : Int) > (48 : Int))) = false →
              CallH Tryz.prog id_slices_SortFunc_api_Pair_api_Pair [.slice st_1.1.1 st_1.1.2.1 st_1.1.2.2, .func (.func 122) #[] #[]] (fun _ h7 =>
                K (.tuple #[.slice st_1.1.1 st_1.1.2.1 st_1.1.2.2, .bool true]) h7) h3))))) ((none, 0, 0), (0 : Int), ()) h1)
theorem F_walk_Walk_Done_eq {w : Option Addr} {K : Value → PH → Prop} {h : PH} : @Eq Prop (F_walk_Walk_Done w K h) (denF Tryz.prog Tryz.f44 ⟨[], [], [(0, ⟨[(4, .slice), (18, .int .i64)], [], []⟩)], [(8, ⟨[], [], []⟩)]⟩ [.v (.pointer w)] K h) := by
  kernel_rfl
theorem F_walk_Walk_Done_ok {w : Option Addr}  {K : Value → PH → Prop} {h : PH} (hh : F_walk_Walk_Done w K h) : CallH Tryz.prog id_walk_Walk_Done [.pointer w] K h :=
  denF_sound' Tryz.func44 (H := ⟨[], [], [(0, ⟨[(4, .slice), (18, .int .i64)], [], []⟩)], [(8, ⟨[], [], []⟩)]⟩) (xs := [.v (.pointer w)]) (by kernel_rfl) (⟨rfl, trivial⟩) (den_of F_walk_Walk_Done_eq hh)

/- (*twinlock/walk.Walk).Texts -/
def F_walk_Walk_Texts (w : Option Addr) (K : Value → PH → Prop) (h : PH) : Prop :=
  CallH Tryz.prog id_walk_Walk_none [.pointer w] (fun v h1 =>
    ∃ t : Bool, v = .bool t ∧
    ((t = true →
        K (.slice none 0 0) h1) ∧
      (t = false →
        ∃ bv ov : Nat, w = some ⟨bv, ov, none⟩ ∧
        ∃ (tA : Option Addr) (tN tC : Nat), (h1.rds bv (ov + 35) 1 = some [.slice tA tN tC]) ∧
        CallH Tryz.prog id_slices_Clone_string_string [.slice tA tN tC] (fun v_1 h2 =>
          ∃ (tA_1 : Option Addr) (tN_1 tC_1 : Nat), v_1 = .slice tA_1 tN_1 tC_1 ∧
          K (.slice tA_1 tN_1 tC_1) h2) h1))) h
theorem F_walk_Walk_Texts_eq {w : Option Addr} {K : Value → PH → Prop} {h : PH} : @Eq Prop (F_walk_Walk_Texts w K h) (denF Tryz.prog Tryz.f47 ⟨[], [], [], []⟩ [.v (.pointer w)] K h) := by
  kernel_rfl
theorem F_walk_Walk_Texts_ok {w : Option Addr}  {K : Value → PH → Prop} {h : PH} (hh : F_walk_Walk_Texts w K h) : CallH Tryz.prog id_walk_Walk_Texts [.pointer w] K h :=
  denF_sound' Tryz.func47 (H := ⟨[], [], [], []⟩) (xs := [.v (.pointer w)]) (by kernel_rfl) (⟨rfl, trivial⟩) (den_of F_walk_Walk_Texts_eq hh)

/- (*twinlock/walk.Walk).Root -/
def F_walk_Walk_Root (w : Option Addr) (K : Value → PH → Prop) (h : PH) : Prop :=
  CallH Tryz.prog id_walk_Walk_none [.pointer w] (fun v h1 =>
    ∃ t : Bool, v = .bool t ∧
    ((t = true →
        K (.agg (((List.replicate 32 0).map (Value.int .u8) ++ [])).toArray) h1) ∧
      (t = false →
        ∃ bv ov : Nat, w = some ⟨bv, ov, none⟩ ∧
        ∃ t_1 : List Int, t_1.length = 32 ∧ (h1.rds bv (ov + 1) 32 = some (t_1.map (Value.int .u8) ++ [])) ∧
        K (.agg ((t_1.map (Value.int .u8) ++ [])).toArray) h1))) h
theorem F_walk_Walk_Root_eq {w : Option Addr} {K : Value → PH → Prop} {h : PH} : @Eq Prop (F_walk_Walk_Root w K h) (denF Tryz.prog Tryz.f51 ⟨[2], [], [], []⟩ [.v (.pointer w)] K h) := by
  kernel_rfl
theorem F_walk_Walk_Root_ok {w : Option Addr}  {K : Value → PH → Prop} {h : PH} (hh : F_walk_Walk_Root w K h) : CallH Tryz.prog id_walk_Walk_Root [.pointer w] K h :=
  denF_sound' Tryz.func51 (H := ⟨[2], [], [], []⟩) (xs := [.v (.pointer w)]) (by kernel_rfl) (⟨rfl, trivial⟩) (den_of F_walk_Walk_Root_eq hh)

/- (*twinlock/walk.Walk).ask -/
def F_walk_Walk_ask (w : Option Addr) (a0 : Int) (a1 : Int) (hv : List Int) (K : Value → PH → Prop) (h : PH) : Prop :=
  ∃ bv ov : Nat, w = some ⟨bv, ov, none⟩ ∧
  ∃ t : Option Addr, (h.rds bv ov 1 = some [.pointer t]) ∧
  (CallH Tryz.prog id_tree_Tree_Node [.pointer t, .int .i64 a0, .int .i64 a1] (fun v h1 =>
      ∃ t0 : List Int, t0.length = 32 ∧ ∃ t1 : Bool, v = .tuple #[.agg ((t0.map (Value.int .u8) ++ [])).toArray, .bool t1] ∧
      (((!(t0 == hv)) = true →
          ∃ bv_1 ov_1 : Nat, w = some ⟨bv_1, ov_1, none⟩ ∧
          ∃ t_1 : Option Nat, (h1.rds bv_1 (ov_1 + 33) 1 = some [.map t_1]) ∧
          muH (.rec2 .i64 .i64) h1 t_1 (.agg #[.int .i64 a0, .int .i64 a1]) (.agg ((hv.map (Value.int .u8) ++ [])).toArray) fun h2 =>
          K (.tuple #[]) h2) ∧
        ((!(t0 == hv)) = false →
          K (.tuple #[]) h1))) h) ∧
  (CallH Tryz.prog id_tree_Tree_Node [.pointer t, .int .i64 a0, .int .i64 a1] (fun v_1 h3 =>
      ∃ t0_1 : List Int, t0_1.length = 32 ∧ ∃ t1_1 : Bool, v_1 = .tuple #[.agg ((t0_1.map (Value.int .u8) ++ [])).toArray, .bool t1_1] ∧
      (((!(t0_1 == hv)) = true →
          ∃ bv_2 ov_2 : Nat, w = some ⟨bv_2, ov_2, none⟩ ∧
          ∃ t_2 : Option Nat, (h3.rds bv_2 (ov_2 + 33) 1 = some [.map t_2]) ∧
          muH (.rec2 .i64 .i64) h3 t_2 (.agg #[.int .i64 a0, .int .i64 a1]) (.agg ((hv.map (Value.int .u8) ++ [])).toArray) fun h4 =>
          K (.tuple #[]) h4) ∧
        ((!(t0_1 == hv)) = false →
          K (.tuple #[]) h3))) h)
theorem F_walk_Walk_ask_eq {w : Option Addr} {a0 : Int} {a1 : Int} {hv : List Int} {K : Value → PH → Prop} {h : PH} : @Eq Prop (F_walk_Walk_ask w a0 a1 hv K h) (denF Tryz.prog Tryz.f112 ⟨[4, 5, 6], [(1, .one 0 (.one 1 (.one 2 (.one 3 (.one 4 (.one 5 (.one 6 (.one 7 (.alt 8 (.of [9, 10, 11, 12, 13, 14]) (.of [12, 8, 9, 10, 11, 13, 14]))))))))))], [], []⟩ [.v (.pointer w), .agg [.one (.int .i64 a0), .one (.int .i64 a1)], .agg [.ints .u8 32 hv]] K h) := by
  kernel_rfl
theorem F_walk_Walk_ask_ok {w : Option Addr} {a0 : Int} {a1 : Int} {hv : List Int} (hk0 : hv.length = 32) {K : Value → PH → Prop} {h : PH} (hh : F_walk_Walk_ask w a0 a1 hv K h) : CallH Tryz.prog id_walk_Walk_ask [.pointer w, .agg #[.int .i64 a0, .int .i64 a1], .agg ((hv.map (Value.int .u8) ++ [])).toArray] K h :=
  denF_sound' Tryz.func112 (H := ⟨[4, 5, 6], [(1, .one 0 (.one 1 (.one 2 (.one 3 (.one 4 (.one 5 (.one 6 (.one 7 (.alt 8 (.of [9, 10, 11, 12, 13, 14]) (.of [12, 8, 9, 10, 11, 13, 14]))))))))))], [], []⟩) (xs := [.v (.pointer w), .agg [.one (.int .i64 a0), .one (.int .i64 a1)], .agg [.ints .u8 32 hv]]) (by kernel_rfl) (⟨rfl, ⟨rfl, rfl, trivial⟩, ⟨hk0, trivial⟩, trivial⟩) (den_of F_walk_Walk_ask_eq hh)

/- (*twinlock/walk.Walk).none -/
def F_walk_Walk_none (w : Option Addr) (K : Value → PH → Prop) (h : PH) : Prop :=
  ∃ bv ov : Nat, ((Option.isNone w) = false → w = some ⟨bv, ov, none⟩) ∧
  ∃ t : Option Addr, (((Option.isNone w) = false → h.rds bv ov 1 = some [.pointer t])) ∧
  K (.bool ((Option.isNone w) || (Option.isNone t))) h
theorem F_walk_Walk_none_eq {w : Option Addr} {K : Value → PH → Prop} {h : PH} : @Eq Prop (F_walk_Walk_none w K h) (denF Tryz.prog Tryz.f113 ⟨[], [], [], []⟩ [.v (.pointer w)] K h) := by
  kernel_rfl
theorem F_walk_Walk_none_ok {w : Option Addr}  {K : Value → PH → Prop} {h : PH} (hh : F_walk_Walk_none w K h) : CallH Tryz.prog id_walk_Walk_none [.pointer w] K h :=
  denF_sound' Tryz.func113 (H := ⟨[], [], [], []⟩) (xs := [.v (.pointer w)]) (by kernel_rfl) (⟨rfl, trivial⟩) (den_of F_walk_Walk_none_eq hh)

/- maps.Keys[map[twinlock/walk.Ask]twinlock/api.Hash,twinlock/walk.Ask,twinlock/api.Hash] -/
def F_maps_Keys_map_walk_Ask_api_Hash_walk_Ask_api_Hash (m : Option Nat) (K : Value → PH → Prop) (h : PH) : Prop :=
  newH h (.cells #[.map m] 184 (0, 0)) fun bv h1 =>
  K (.func (.func 151) #[] #[.pointer (some ⟨bv, 0, none⟩)]) h1
theorem F_maps_Keys_map_walk_Ask_api_Hash_walk_Ask_api_Hash_eq {m : Option Nat} {K : Value → PH → Prop} {h : PH} : @Eq Prop (F_maps_Keys_map_walk_Ask_api_Hash_walk_Ask_api_Hash m K h) (denF Tryz.prog Tryz.f115 ⟨[], [], [], []⟩ [.v (.map m)] K h) := by
  kernel_rfl
theorem F_maps_Keys_map_walk_Ask_api_Hash_walk_Ask_api_Hash_ok {m : Option Nat}  {K : Value → PH → Prop} {h : PH} (hh : F_maps_Keys_map_walk_Ask_api_Hash_walk_Ask_api_Hash m K h) : CallH Tryz.prog id_maps_Keys_map_walk_Ask_api_Hash_walk_Ask_api_Hash [.map m] K h :=
  denF_sound' Tryz.func115 (H := ⟨[], [], [], []⟩) (xs := [.v (.map m)]) (by kernel_rfl) (⟨rfl, trivial⟩) (den_of F_maps_Keys_map_walk_Ask_api_Hash_walk_Ask_api_Hash_eq hh)

/- (*twinlock/walk.Walk).fits -/
def F_walk_Walk_fits (w : Option Addr) (a0 : Int) (a1 : Int) (hv : List Int) (text : ByteArray) (K : Value → PH → Prop) (h : PH) : Prop :=
  ∃ bv ov : Nat, w = some ⟨bv, ov, none⟩ ∧
  ∃ t : Option Nat, (h.rds bv (ov + 33) 1 = some [.map t]) ∧
  ∃ t_1 : List Int, t_1.length = 32 ∧ ∃ ok : Bool, lkH (.rec2 .i64 .i64) h t (.agg #[.int .i64 a0, .int .i64 a1]) (.agg (((List.replicate 32 0).map (Value.int .u8) ++ [])).toArray) (.agg ((t_1.map (Value.int .u8) ++ [])).toArray) ok ∧
  ((((!ok) || (!(t_1 == hv))) = true →
      K (.bool false) h) ∧
    (((!ok) || (!(t_1 == hv))) = false →
      ∃ bv_1 ov_1 : Nat, w = some ⟨bv_1, ov_1, none⟩ ∧
      ∃ t_2 : Option Nat, (h.rds bv_1 (ov_1 + 33) 1 = some [.map t_2]) ∧
      mdH (.rec2 .i64 .i64) h t_2 (.agg #[.int .i64 a0, .int .i64 a1]) fun h1 =>
      ∃ bv_2 ov_2 : Nat, w = some ⟨bv_2, ov_2, none⟩ ∧
      ∃ (tA : Option Addr) (tN tC : Nat), (h1.rds bv_2 (ov_2 + 35) 1 = some [.slice tA tN tC]) ∧
      appH 9 1 16 [.string (⟨#[]⟩ : ByteArray)] tA tN tC 1 [.string text] (fun tA_1 tN_1 tC_1 h2 =>
        ∃ bv_3 ov_3 : Nat, w = some ⟨bv_3, ov_3, none⟩ ∧
        stH h2 bv_3 (ov_3 + 35) [.slice tA_1 tN_1 tC_1] fun h3 =>
        K (.bool true) h3) h1))
theorem F_walk_Walk_fits_eq {w : Option Addr} {a0 : Int} {a1 : Int} {hv : List Int} {text : ByteArray} {K : Value → PH → Prop} {h : PH} : @Eq Prop (F_walk_Walk_fits w a0 a1 hv text K h) (denF Tryz.prog Tryz.f119 ⟨[5, 6, 9, 38], [], [], []⟩ [.v (.pointer w), .agg [.one (.int .i64 a0), .one (.int .i64 a1)], .agg [.ints .u8 32 hv], .v (.string text)] K h) := by
  kernel_rfl
theorem F_walk_Walk_fits_ok {w : Option Addr} {a0 : Int} {a1 : Int} {hv : List Int} {text : ByteArray} (hk0 : hv.length = 32) {K : Value → PH → Prop} {h : PH} (hh : F_walk_Walk_fits w a0 a1 hv text K h) : CallH Tryz.prog id_walk_Walk_fits [.pointer w, .agg #[.int .i64 a0, .int .i64 a1], .agg ((hv.map (Value.int .u8) ++ [])).toArray, .string text] K h :=
  denF_sound' Tryz.func119 (H := ⟨[5, 6, 9, 38], [], [], []⟩) (xs := [.v (.pointer w), .agg [.one (.int .i64 a0), .one (.int .i64 a1)], .agg [.ints .u8 32 hv], .v (.string text)]) (by kernel_rfl) (⟨rfl, ⟨rfl, rfl, trivial⟩, ⟨hk0, trivial⟩, rfl, trivial⟩) (den_of F_walk_Walk_fits_eq hh)

end TL

namespace TL
open Go Go.Proofs
/-- where a node is -/
def askP (k : Nat) : Int × Int := ((k.log2 : Nat), ((k - 2 ^ k.log2 : Nat) : Int))
theorem askP_inj0 : ∀ a : Nat, a < 32 → ∀ b : Nat, b < 32 → (1 ≤ a ∧ 1 ≤ b ∧ (askP a).1 = (askP b).1 ∧ (askP a).2 = (askP b).2) → a = b := by decide +kernel
theorem askP_inj (a : Nat) (ha : a < 32) (b : Nat) (hb : b < 32) (h1 : 1 ≤ a) (h2 : 1 ≤ b) (e : askP a = askP b) : a = b := askP_inj0 a ha b hb ⟨h1, h2, by rw [e], by rw [e]⟩
theorem askP_lt0 : ∀ a : Nat, a < 32 → ∀ b : Nat, b < 32 → (1 ≤ a ∧ 1 ≤ b) → (ltA (askP a) (askP b) ↔ a < b) := by decide +kernel
theorem askP_lt (a : Nat) (ha : a < 32) (b : Nat) (hb : b < 32) (h1 : 1 ≤ a) (h2 : 1 ≤ b) : ltA (askP a) (askP b) ↔ a < b := askP_lt0 a ha b hb ⟨h1, h2⟩
theorem askP_at0 : ∀ lv : Nat, lv < 5 → ∀ i : Nat, i < 16 → i < 2 ^ lv → (askP (2 ^ lv + i)).1 = (lv : Int) ∧ (askP (2 ^ lv + i)).2 = (i : Int) := by decide +kernel
theorem askP_at (lv : Nat) (h1 : lv < 5) (i : Nat) (h2 : i < 16) (h3 : i < 2 ^ lv) : askP (2 ^ lv + i) = ((lv : Int), (i : Int)) := Prod.ext (askP_at0 lv h1 i h2 h3).1 (askP_at0 lv h1 i h2 h3).2
theorem askP_in : ∀ k, k < 32 → 1 ≤ k → k.log2 ≤ 4 ∧ k - 2 ^ k.log2 < 2 ^ k.log2 ∧ 2 ^ k.log2 + (k - 2 ^ k.log2) = k := by decide +kernel
theorem keyV_inj {x y : Int × Int} (h : keyV x = keyV y) : x = y := by
  unfold keyV at h
  obtain ⟨a, b⟩ := x
  obtain ⟨c, d⟩ := y
  simp only [Value.agg.injEq, Array.mk.injEq, List.cons.injEq, Value.int.injEq, true_and, and_true] at h
  rw [h.1, h.2]
theorem keyV_ok (x : Int × Int) : kOk (.rec2 .i64 .i64) (keyV x) = true := rfl
theorem keyV_keq (x y : Int × Int) : keq (keyV x) (keyV y) = decide (x = y) := by
  rw [Bool.eq_iff_iff, keq_eq (keyV_ok x) (keyV_ok y), decide_eq_true_eq]
  exact ⟨keyV_inj, fun e => by rw [e]⟩
def hashV (x : List UInt8) : Value := .agg (((bi x).map (Value.int .u8) ++ [])).toArray
theorem upM_born (es : List MapEntry) (k v : Value) (c : Nat) (h1 : ∀ e ∈ es, e.born < c) (h2 : (es.map (·.born)).Nodup) : (∀ e ∈ (upM es k v c).1, e.born < (upM es k v c).2) ∧ ((upM es k v c).1.map (·.born)).Nodup := by
  unfold upM
  split
  · rename_i i p hf
    have hm : (es.modify i fun e => { e with key := k, val := v }).map (·.born) = es.map (·.born) := by
      apply List.ext_getElem
      · simp
      · intro j h4 h5
        simp only [List.getElem_map, List.getElem_modify]
        split <;> rfl
    refine ⟨fun e he => ?_, by dsimp only; rw [hm]; exact h2⟩
    dsimp only at he ⊢
    have h3 : e.born ∈ (es.modify i fun e => { e with key := k, val := v }).map (·.born) := List.mem_map.2 ⟨e, he, rfl⟩
    rw [hm] at h3
    obtain ⟨e', he', e3⟩ := List.mem_map.1 h3
    rw [← e3]; exact h1 e' he'
  · refine ⟨fun e he => ?_, ?_⟩
    · dsimp only at he ⊢
      rcases List.mem_append.1 he with he | he
      · exact Nat.lt_succ_of_lt (h1 e he)
      · rw [List.mem_singleton] at he; subst he; exact Nat.lt_succ_self c
    · dsimp only
      rw [List.map_append, List.nodup_append]
      refine ⟨h2, by simp, fun a ha b hb => ?_⟩
      obtain ⟨e, he, rfl⟩ := List.mem_map.1 ha
      simp at hb; subst hb
      exact Nat.ne_of_lt (h1 e he)
/-- what is asked for, as a map's entries -/
structure AskMapE (es : List MapEntry) (c : Nat) (A : Nat → Option (List UInt8)) : Prop where
  key : ∀ e ∈ es, ∃ k, 1 ≤ k ∧ k < 32 ∧ e.key = keyV (askP k)
  at_ : ∀ k, 1 ≤ k → k < 32 → va es (keyV (askP k)) = (A k).map hashV
  nd : NdK es
  old : ∀ e ∈ es, e.born < c
  bn : (es.map (·.born)).Nodup
section
variable {es : List MapEntry} {c : Nat} {A : Nat → Option (List UInt8)}
theorem AskMapE.new : AskMapE [] 0 fun _ => none := ⟨fun _ h => (by cases h), fun _ _ _ => rfl, List.Pairwise.nil, fun _ h => (by cases h), List.nodup_nil⟩
theorem AskMapE.kOk (x : AskMapE es c A) : ∀ e ∈ es, kOk (.rec2 .i64 .i64) e.key = true := fun e he => by
  obtain ⟨k, _, _, h⟩ := x.key e he
  rw [h]; rfl
theorem AskMapE.out (x : AskMapE es c A) {p : Int × Int} (hp : ∀ k, 1 ≤ k → k < 32 → askP k ≠ p) : va es (keyV p) = none := va_none.2 fun e he => by
  obtain ⟨k, h1, h2, h⟩ := x.key e he
  rw [h, keyV_keq]
  exact decide_eq_false fun e => hp k h1 h2 e.symm
theorem AskMapE.put (x : AskMapE es c A) {k : Nat} (h1 : 1 ≤ k) (h2 : k < 32) (v : List UInt8) : AskMapE (upM es (keyV (askP k)) (hashV v) c).1 (upM es (keyV (askP k)) (hashV v) c).2 (upF A k (some v)) := by
  obtain ⟨b1, b2⟩ := upM_born es (keyV (askP k)) (hashV v) c x.old x.bn
  refine ⟨fun e he => ?_, fun k' h1' h2' => ?_, x.nd.upM (keyV_ok _) x.kOk, b1, b2⟩
  · unfold upM at he
    split at he
    · dsimp only at he
      obtain ⟨i, hi, rfl⟩ := List.getElem_of_mem he
      rw [List.getElem_modify]
      split
      · exact ⟨k, h1, h2, rfl⟩
      · exact x.key _ (List.getElem_mem _)
    · dsimp only at he
      rcases List.mem_append.1 he with he | he
      · exact x.key e he
      · rw [List.mem_singleton] at he; subst he; exact ⟨k, h1, h2, rfl⟩
  · rw [va_upM x.kOk (keyV_ok _) (keyV_ok _), keyV_keq]
    by_cases e : k' = k
    · subst e; simp [upF]
    · rw [if_neg (by simp only [decide_eq_true_eq]; exact fun e2 => e (askP_inj k' h2' k h2 h1' h1 e2)), x.at_ k' h1' h2', upF_ne _ _ e]
theorem AskMapE.del (x : AskMapE es c A) {k : Nat} (h1 : 1 ≤ k) (h2 : k < 32) : AskMapE (dlM es (keyV (askP k))) c (upF A k none) := by
  have hs := dlM_sub es (keyV (askP k))
  refine ⟨fun e he => x.key e (hs.subset he), fun k' h1' h2' => ?_, x.nd.dlM _, fun e he => x.old e (hs.subset he), x.bn.sublist (hs.map _)⟩
  rw [va_dlM x.kOk x.nd (keyV_ok _) (keyV_ok _), keyV_keq]
  by_cases e : k' = k
  · subst e; simp [upF]
  · rw [if_neg (by simp only [decide_eq_true_eq]; exact fun e2 => e (askP_inj k' h2' k h2 h1' h1 e2)), x.at_ k' h1' h2', upF_ne _ _ e]
end
/-- what is staged, as a map's entries -/
structure PartMapE (g : PH) (es : List MapEntry) (Q : Nat → Option (List PrR)) : Prop where
  key : ∀ e ∈ es, kOk (.int .i64) e.key = true
  no : ∀ i : Nat, i < 16 → Q i = none → va es (.int .i64 (i : Int)) = none
  yes : ∀ (i : Nat) l, i < 16 → Q i = some l → ∃ a c, va es (.int .i64 (i : Int)) = some (.slice a l.length c) ∧ SR EncPr g a l
theorem PartMapE.new {g : PH} : PartMapE g [] fun _ => none := ⟨fun _ h => (by cases h), fun _ _ _ => rfl, fun _ _ _ h => by cases h⟩
theorem PartMapE.sub {g g' : PH} {es : List MapEntry} {Q : Nat → Option (List PrR)} (x : PartMapE g es Q) (s : g.Sub g') : PartMapE g' es Q := ⟨x.key, x.no, fun i l hi h => by
  obtain ⟨a, c, h1, h2⟩ := x.yes i l hi h
  exact ⟨a, c, h1, h2.sub s⟩⟩
theorem PartMapE.put {g : PH} {es : List MapEntry} {Q : Nat → Option (List PrR)} {c : Nat} (x : PartMapE g es Q) {i : Nat} (_ : i < 16) {l : List PrR} {a : Option Addr} {sc : Nat} (hl : SR EncPr g a l) : PartMapE g (upM es (.int .i64 (i : Int)) (.slice a l.length sc) c).1 (upF Q i (some l)) := by
  have hkq : ∀ j : Nat, keq (.int .i64 (j : Int)) (.int .i64 (i : Int)) = decide (j = i) := fun j => by
    show (((j : Nat) : Int) == ((i : Nat) : Int)) = _
    rw [Bool.eq_iff_iff, beq_iff_eq, decide_eq_true_eq]; omega
  refine ⟨upM_keys rfl x.key, fun j hj hq => ?_, fun j m hj hq => ?_⟩
  · have e : j ≠ i := fun e => by subst e; rw [upF_same] at hq; cases hq
    rw [upF_ne _ _ e] at hq
    rw [va_upM x.key rfl rfl, hkq, if_neg (by simpa using e)]
    exact x.no j hj hq
  · rw [va_upM x.key rfl rfl, hkq]
    by_cases e : j = i
    · subst e
      rw [upF_same] at hq; cases hq
      exact ⟨a, sc, by simp, hl⟩
    · rw [upF_ne _ _ e] at hq
      obtain ⟨a', c', q1, q2⟩ := x.yes j m hj hq
      exact ⟨a', c', by rw [if_neg (by simpa using e)]; exact q1, q2⟩
/-- a walk's cells -/
def walkC (tb : Nat) (R : List UInt8) (ra rp : Nat) (tA : Option Addr) (tN tC : Nat) : List Value := .pointer (some ⟨tb, 0, none⟩) :: ((bi R).map (Value.int .u8) ++ [.map (some ra), .map (some rp), .slice tA tN tC])
structure WalkAt (g : PH) (N : List Nat) (h : PH) (wb : Nat) (s : WS) : Prop where
  mem : ∃ tb ra rp esA cA esP cP tA tN tC Bt, N = wb :: ra :: rp :: Bt ∧ wb ≠ ra ∧ wb ≠ rp ∧ ra ≠ rp ∧ wb ∉ Bt ∧ ra ∉ Bt ∧ rp ∉ Bt ∧ h wb = some (.cells (walkC tb s.R ra rp tA tN tC).toArray T_walk_Walk (0, 0)) ∧ Tr tb g s.S ∧
    h ra = some (.map (esA : List MapEntry).toArray cA) ∧ AskMapE esA cA s.A ∧ h rp = some (.map (esP : List MapEntry).toArray cP) ∧ PartMapE g esP s.Q ∧ Buf EncS 9 Bt h tA tN tC s.T
  R : s.R.length = 32
  al : ∀ k x, s.A k = some x → x.length = 32
section
variable {g h : PH} {N : List Nat} {K : Value → PH → Prop} {wb : Nat} {s : WS}
theorem WalkAt.keep {g' h' : PH} (x : WalkAt g N h wb s) (hs : g.Sub g') (hk : ∀ b ∈ N, ∀ o, h b = some o → h' b = some o) : WalkAt g' N h' wb s := by
  obtain ⟨⟨tb, ra, rp, esA, cA, esP, cP, tA, tN, tC, Bt, rfl, d1, d2, d3, d4, d5, d6, hw, ht, ha, hA, hp, hP, hB⟩, hR, hL⟩ := x
  exact ⟨⟨tb, ra, rp, esA, cA, esP, cP, tA, tN, tC, Bt, rfl, d1, d2, d3, d4, d5, d6, hk _ (by simp) _ hw, ht.sub hs, hk _ (by simp) _ ha, hA, hk _ (by simp) _ hp, hP.sub hs, hB.keep fun b hb => hk b (by simp [hb])⟩, hR, hL⟩
theorem WalkAt.stp {M M' : List Nat} {g' h' : PH} (x : WalkAt g N h wb s) (t : Stp g M h g' M' h') (d : Dj N M) : WalkAt g' N h' wb s :=
  x.keep t.gs fun b hb _ e => t.chg.keep e (d b hb)
section
variable {tb ra rp : Nat} {R : List UInt8} {tA : Option Addr} {tN tC : Nat} {T : TypeId} {fr : Nat × Nat}
theorem wk_base (hw : h wb = some (.cells (walkC tb R ra rp tA tN tC).toArray T fr)) : h.rds wb 0 1 = some [.pointer (some ⟨tb, 0, none⟩)] := rds_mid' (pre := []) hw rfl rfl rfl
theorem wk_root (hw : h wb = some (.cells (walkC tb R ra rp tA tN tC).toArray T fr)) (hR : R.length = 32) : h.rds wb (0 + 1) 32 = some ((bi R).map (Value.int .u8) ++ []) := by
  rw [List.append_nil]
  exact rds_mid' (pre := [.pointer (some ⟨tb, 0, none⟩)]) (post := [.map (some ra), .map (some rp), .slice tA tN tC]) hw rfl rfl (by rw [List.length_map, bi_len, hR])
theorem wk_ask (hw : h wb = some (.cells (walkC tb R ra rp tA tN tC).toArray T fr)) (hR : R.length = 32) : h.rds wb (0 + 33) 1 = some [.map (some ra)] :=
  rds_mid' (pre := .pointer (some ⟨tb, 0, none⟩) :: (bi R).map (Value.int .u8)) (post := [.map (some rp), .slice tA tN tC]) hw (by simp [walkC]) (by rw [List.length_cons, List.length_map, bi_len, hR]) rfl
theorem wk_part (hw : h wb = some (.cells (walkC tb R ra rp tA tN tC).toArray T fr)) (hR : R.length = 32) : h.rds wb (0 + 34) 1 = some [.map (some rp)] :=
  rds_mid' (pre := .pointer (some ⟨tb, 0, none⟩) :: ((bi R).map (Value.int .u8) ++ [.map (some ra)])) (post := [.slice tA tN tC]) hw (by simp [walkC]) (by simp [bi_len, hR]) rfl
theorem wk_text (hw : h wb = some (.cells (walkC tb R ra rp tA tN tC).toArray T fr)) (hR : R.length = 32) : h.rds wb (0 + 35) 1 = some [.slice tA tN tC] :=
  rds_mid' (pre := .pointer (some ⟨tb, 0, none⟩) :: ((bi R).map (Value.int .u8) ++ [.map (some ra), .map (some rp)])) (post := []) hw (by simp [walkC]) (by simp [bi_len, hR]) rfl
theorem wk_setText (hw : h wb = some (.cells (walkC tb R ra rp tA tN tC).toArray T (0, 0))) (hR : R.length = 32) {a' : Option Addr} {n' c' : Nat} {KK : PH → Prop} (hk : ∀ h', h' wb = some (.cells (walkC tb R ra rp a' n' c').toArray T (0, 0)) → Chg [wb] [wb] h h' → KK h') : stH h wb (0 + 35) [.slice a' n' c'] KK :=
  st_mid' (pre := .pointer (some ⟨tb, 0, none⟩) :: ((bi R).map (Value.int .u8) ++ [.map (some ra), .map (some rp)])) (mid := [.slice tA tN tC]) (post := []) hw (by simp [walkC]) (by simp [walkC]) (by simp [bi_len, hR]) rfl hk
end
theorem cWNone (x : WalkAt g N h wb s) (hk : K (.bool false) h) : CallH Tryz.prog id_walk_Walk_none [.pointer (some ⟨wb, 0, none⟩)] K h := by
  obtain ⟨⟨tb, ra, rp, esA, cA, esP, cP, tA, tN, tC, Bt, rfl, d1, d2, d3, d4, d5, d6, hw, ht, ha, hA, hp, hP, hB⟩, hR, _⟩ := x
  exact F_walk_Walk_none_ok ⟨wb, 0, fun _ => rfl, _, fun _ => wk_base hw, hk⟩
theorem cWAsk (x : WalkAt g N h wb s) (sp : Spl g N h) {lv i : Nat} (hl : lv ≤ 4) (hi : i < 2 ^ lv) {v : List UInt8} (hv : v.length = 32)
    (hk : ∀ h', WalkAt g N h' wb { s with A := wAsk s.S s.A (2 ^ lv + i) v } → Stp g N h g N h' → K (.tuple #[]) h') :
    CallH Tryz.prog id_walk_Walk_ask [.pointer (some ⟨wb, 0, none⟩), .agg #[.int .i64 (lv : Int), .int .i64 (i : Int)], .agg (((bi v).map (Value.int .u8) ++ [])).toArray] K h := by
  have hi16 : i < 16 := Nat.lt_of_lt_of_le hi (Nat.pow_le_pow_right (by decide) hl)
  have hk1 : 1 ≤ 2 ^ lv + i := by have := Nat.one_le_two_pow (n := lv); omega
  have hk2 : 2 ^ lv + i < 32 := by
    have : 2 ^ lv ≤ 2 ^ 4 := Nat.pow_le_pow_right (by decide) hl
    omega
  have hap := askP_at lv (by omega) i hi16 hi
  obtain ⟨⟨tb, ra, rp, esA, cA, esP, cP, tA, tN, tC, Bt, rfl, d1, d2, d3, d4, d5, d6, hw, ht, ha, hA, hp, hP, hB⟩, hR, hL⟩ := id x
  have main : CallH Tryz.prog id_tree_Tree_Node [.pointer (some ⟨tb, 0, none⟩), .int .i64 (lv : Int), .int .i64 (i : Int)] (fun v_1 h1 =>
      ∃ t0 : List Int, t0.length = 32 ∧ ∃ t1 : Bool, v_1 = .tuple #[.agg ((t0.map (Value.int .u8) ++ [])).toArray, .bool t1] ∧
      (((!(t0 == bi v)) = true →
          ∃ bv_1 ov_1 : Nat, (some ⟨wb, 0, none⟩ : Option Addr) = some ⟨bv_1, ov_1, none⟩ ∧
          ∃ t_1 : Option Nat, (h1.rds bv_1 (ov_1 + 33) 1 = some [.map t_1]) ∧
          muH (.rec2 .i64 .i64) h1 t_1 (.agg #[.int .i64 (lv : Int), .int .i64 (i : Int)]) (.agg (((bi v).map (Value.int .u8) ++ [])).toArray) fun h2 =>
          K (.tuple #[]) h2) ∧
        ((!(t0 == bi v)) = false →
          K (.tuple #[]) h1))) h := by
    refine cNode (ht.sub sp.sub) hl hi ⟨bi (nd s.S (2 ^ lv + i)), by rw [bi_len, nd_len], true, rfl, fun e => ?_, fun e => ?_⟩
    · rw [bi_beq] at e
      have e : nd s.S (2 ^ lv + i) ≠ v := by simpa using e
      have hkey : (.agg #[.int .i64 (lv : Int), .int .i64 (i : Int)] : Value) = keyV (askP (2 ^ lv + i)) := by rw [hap]; rfl
      refine ⟨wb, 0, rfl, _, wk_ask hw hR, ra, esA, cA, rfl, ha, hA.kOk, ?_⟩
      have cc : Chg [ra] [ra] h (h.upd ra (.map (upM esA (keyV (askP (2 ^ lv + i))) (hashV v) cA).1.toArray (upM esA (keyV (askP (2 ^ lv + i))) (hashV v) cA).2)) := Chg.upd _
      rw [hkey]
      refine hk _ ⟨⟨tb, ra, rp, _, _, esP, cP, tA, tN, tC, Bt, rfl, d1, d2, d3, d4, d5, d6, cc.keep hw (by simpa using d1), ht, PH.upd_same _ _ _, ?_, cc.keep hp (by simpa using Ne.symm d3), hP, hB.chg cc fun b hb hm => ?_⟩, hR, fun k y hy => ?_⟩ ?_
      · have : wAsk s.S s.A (2 ^ lv + i) v = upF s.A (2 ^ lv + i) (some v) := by unfold wAsk; rw [if_neg e]
        show AskMapE _ _ (wAsk s.S s.A (2 ^ lv + i) v)
        rw [this]
        exact hA.put hk1 hk2 v
      · rw [List.mem_singleton] at hm; subst hm; exact d5 hb
      · have hy : wAsk s.S s.A (2 ^ lv + i) v k = some y := hy
        by_cases ek : k = 2 ^ lv + i
        · subst ek
          unfold wAsk at hy
          rw [if_neg e, upF_same] at hy; cases hy; exact hv
        · rw [wAsk_ne ek] at hy; exact hL k y hy
      · refine sp.chg (cc.sub (fun b hb => by simp at hb; subst hb; simp) fun b hb => .inr hb) fun b hb => ?_
        by_cases hbr : b = ra
        · subst hbr; exact ⟨_, PH.upd_same _ _ _⟩
        · obtain ⟨o, ho⟩ := sp.has b hb
          exact ⟨o, cc.keep ho (by simpa using hbr)⟩
    · rw [bi_beq] at e
      have e : nd s.S (2 ^ lv + i) = v := by simpa using e
      refine hk h ?_ (Stp.refl sp)
      have : wAsk s.S s.A (2 ^ lv + i) v = s.A := by unfold wAsk; rw [if_pos e]
      rw [this]; exact x
  exact F_walk_Walk_ask_ok (by rw [bi_len]; assumption) ⟨wb, 0, rfl, _, wk_base hw, main, main⟩
end
end TL

namespace TL
open Go Go.Proofs
variable {g h : PH} {N : List Nat} {K : Value → PH → Prop} {wb : Nat} {s : WS}
theorem cWFits (x : WalkAt g N h wb s) (sp : Spl g N h) {a0 a1 : Int} {v t : List UInt8} (hv : v.length = 32) (hT : s.T.length ≤ 100000)
    (hno : (∀ k, 1 ≤ k → k < 32 → askP k = (a0, a1) → s.A k ≠ some v) → K (.bool false) h)
    (hyes : ∀ k N' h', 1 ≤ k → k < 32 → askP k = (a0, a1) → s.A k = some v → WalkAt g N' h' wb { s with A := upF s.A k none, T := s.T ++ [t] } → Stp g N h g N' h' → K (.bool true) h') :
    CallH Tryz.prog id_walk_Walk_fits [.pointer (some ⟨wb, 0, none⟩), .agg #[.int .i64 a0, .int .i64 a1], .agg (((bi v).map (Value.int .u8) ++ [])).toArray, .string (mk t)] K h := by
  obtain ⟨⟨tb, ra, rp, esA, cA, esP, cP, tA, tN, tC, Bt, rfl, d1, d2, d3, d4, d5, d6, hw, ht, ha, hA, hp, hP, hB⟩, hR, hL⟩ := id x
  have hkey : (.agg #[.int .i64 a0, .int .i64 a1] : Value) = keyV (a0, a1) := rfl
  by_cases hk : ∃ k, 1 ≤ k ∧ k < 32 ∧ askP k = (a0, a1)
  · obtain ⟨k, k1, k2, hka⟩ := hk
    have hva := hA.at_ k k1 k2
    cases hAk : s.A k with
    | none =>
      refine F_walk_Walk_fits_ok (by rw [bi_len]; exact hv) ⟨wb, 0, rfl, _, wk_ask hw hR, List.replicate 32 0, by simp, false, ⟨esA, ⟨⟨cA, ha⟩, hA.kOk⟩, ?_⟩, fun _ => hno fun j j1 j2 hj e => ?_, fun e => by simp at e⟩
      · rw [lk_va, hkey, ← hka, hva, hAk]; rfl
      · have : j = k := askP_inj j j2 k k2 j1 k1 (hj.trans hka.symm)
        subst this; rw [hAk] at e; cases e
    | some y =>
      have hy := hL k y hAk
      refine F_walk_Walk_fits_ok (by rw [bi_len]; exact hv) ⟨wb, 0, rfl, _, wk_ask hw hR, bi y, by rw [bi_len]; exact hy, true, ⟨esA, ⟨⟨cA, ha⟩, hA.kOk⟩, ?_⟩, fun e => hno fun j j1 j2 hj e2 => ?_, fun e => ?_⟩
      · rw [lk_va, hkey, ← hka, hva, hAk]; rfl
      · have : j = k := askP_inj j j2 k k2 j1 k1 (hj.trans hka.symm)
        subst this; rw [hAk] at e2; cases e2
        simp at e
      · rw [bi_beq] at e
        have e : y = v := by simpa using e
        subst e
        refine ⟨wb, 0, rfl, _, wk_ask hw hR, ?_⟩
        unfold mdH
        refine ⟨fun e => (by cases e), fun r0 er => ?_⟩
        cases er
        refine ⟨esA, cA, ha, hA.kOk, wb, 0, rfl, ?_⟩
        have c1 : Chg [ra] [ra] h (h.upd ra (.map (dlM esA (.agg #[.int .i64 a0, .int .i64 a1])).toArray cA)) := Chg.upd _
        generalize hh1 : h.upd ra (.map (dlM esA (.agg #[.int .i64 a0, .int .i64 a1])).toArray cA) = h1 at c1 ⊢
        have ha1 : h1 ra = some (.map (dlM esA (.agg #[.int .i64 a0, .int .i64 a1])).toArray cA) := by rw [← hh1]; exact PH.upd_same _ _ _
        have hw1 := c1.keep hw (by simpa using d1)
        have hp1 := c1.keep hp (by simpa using Ne.symm d3)
        have hB1 := hB.chg c1 fun b hb hm => by rw [List.mem_singleton] at hm; subst hm; exact d5 hb
        have htn := hB.1
        refine ⟨_, _, _, wk_text hw1 hR, hB1.append (new := [t]) rfl rfl rfl (by omega) fun a2 n2 B2 h2 hb2 c2 _ => ⟨wb, 0, rfl, ?_⟩⟩
        have hw2 := c2.keep hw1 d4
        have ha2 := c2.keep ha1 d5
        have hp2 := c2.keep hp1 d6
        refine wk_setText hw2 hR fun h3 hw3 c3 => ?_
        have nin : ∀ {b : Nat} {o : Obj}, h1 b = some o → b ∉ Bt → b ∉ B2 := fun hb hn hm => by
          rcases c2.2 _ hm with h4 | h4
          · exact hn h4
          · rw [hb] at h4; cases h4
        have n1 := nin hw1 d4
        have n2' := nin ha1 d5
        have n3 := nin hp1 d6
        have ha3 := c3.keep ha2 (by simpa using Ne.symm d1)
        have hp3 := c3.keep hp2 (by simpa using Ne.symm d2)
        have hb3 := hb2.chg c3 fun b hb hm => by rw [List.mem_singleton] at hm; subst hm; exact n1 hb
        refine hyes k (wb :: ra :: rp :: B2) h3 k1 k2 hka hAk ⟨⟨tb, ra, rp, _, _, esP, cP, a2, tN + 1, n2, B2, rfl, d1, d2, d3, n1, n2', n3, hw3, ht, ha3, ?_, hp3, hP, hb3⟩, hR, fun j y hy => ?_⟩ ?_
        · rw [hkey, ← hka]; exact hA.del k1 k2
        · have hy : upF s.A k none j = some y := hy
          by_cases ej : j = k
          · subst ej; rw [upF_same] at hy; cases hy
          · rw [upF_ne _ _ ej] at hy; exact hL j y hy
        · have C1 : Chg (wb :: ra :: rp :: Bt) (wb :: ra :: rp :: Bt) h h1 := c1.sub (fun b hb => by simp at hb; subst hb; simp) fun b hb => .inr hb
          have C2 : Chg (wb :: ra :: rp :: Bt) (wb :: ra :: rp :: B2) h1 h2 := c2.right (C := [wb, ra, rp])
          have C3 : Chg (wb :: ra :: rp :: B2) (wb :: ra :: rp :: B2) h2 h3 := c3.sub (fun b hb => by simp at hb; subst hb; simp) fun b hb => .inr hb
          refine sp.chg ((C1.trans C2).trans C3) fun b hb => ?_
          simp only [List.mem_cons] at hb
          rcases hb with rfl | rfl | rfl | hb
          · exact ⟨_, hw3⟩
          · exact ⟨_, ha3⟩
          · exact ⟨_, hp3⟩
          · exact hb3.has b hb
  · have hout : va esA (keyV (a0, a1)) = none := hA.out fun k k1 k2 e => hk ⟨k, k1, k2, e⟩
    refine F_walk_Walk_fits_ok (by rw [bi_len]; exact hv) ⟨wb, 0, rfl, _, wk_ask hw hR, List.replicate 32 0, by simp, false, ⟨esA, ⟨⟨cA, ha⟩, hA.kOk⟩, ?_⟩, fun _ => hno fun j j1 j2 hj _ => hk ⟨j, j1, j2, hj⟩, fun e => by simp at e⟩
    rw [lk_va, hkey, hout]
theorem nwM {K : Nat → PH → Prop} (hk : ∀ b h', h b = none → h' b = some (.map #[] 0) → Chg [] [b] h h' → K b h') : newH h (.map #[] 0) K :=
  fun b hb => hk b _ hb (PH.upd_same ..) (Chg.new _ hb)
/-- a walk's first state, ahead of its first ask -/
def wNew0 (S : List PrR) (R : List UInt8) : WS := ⟨S, R, fun _ => none, fun _ => none, textsT S⟩
def NewJ (g : PH) (N : List Nat) (h : PH) (S : List PrR) (R : List UInt8) (st : Option Addr × Unit) (h' : PH) : Prop := ∃ wb N', st.1 = some ⟨wb, 0, none⟩ ∧ WalkAt g N' h' wb (wNew0 S R) ∧ Stp g N h g (N' ++ N) h' ∧ Dj N' N
theorem newFin {M Bt : List Nat} {h5 : PH} {tb ra rp : Nat} {tA : Option Addr} {tN tC : Nat} {S : List PrR} {R : List UInt8} (sp : Spl g N h) (c : Chg [] M h h5) (hM : ∀ b ∈ ra :: rp :: Bt, b ∈ M) (hR : R.length = 32) (ht : Tr tb g S) (ha : h5 ra = some (.map #[] 0)) (hp : h5 rp = some (.map #[] 0))
    (d3 : ra ≠ rp) (d5 : ra ∉ Bt) (d6 : rp ∉ Bt) (hB : Buf EncS 9 Bt h5 tA tN tC (textsT S)) :
    newH h5 (.cells (walkC tb R ra rp tA tN tC).toArray T_walk_Walk (0, 0)) fun bv h6 => NewJ g N h S R (some ⟨bv, 0, none⟩, ()) h6 := by
  refine nwL fun wb h6 hbn hw c6 => ?_
  have n1 : wb ≠ ra := fun e => by subst e; rw [ha] at hbn; cases hbn
  have n2 : wb ≠ rp := fun e => by subst e; rw [hp] at hbn; cases hbn
  have n4 : wb ∉ Bt := fun hm => by
    obtain ⟨o, ho⟩ := hB.has wb hm
    rw [ho] at hbn; cases hbn
  have ha6 := c6.sub0 _ _ ha
  have hp6 := c6.sub0 _ _ hp
  have hB6 := hB.sub c6.sub0
  have hH : Has (wb :: ra :: rp :: Bt) h6 := fun b hb => by
    simp only [List.mem_cons] at hb
    rcases hb with rfl | rfl | rfl | hb
    · exact ⟨_, hw⟩
    · exact ⟨_, ha6⟩
    · exact ⟨_, hp6⟩
    · exact hB6.has b hb
  have c7 : Chg [] (wb :: ra :: rp :: Bt) h h6 := ⟨fun b o _ e => c6.sub0 _ _ (c.sub0 _ _ e), fun b hb => by
    rcases List.mem_cons.1 hb with rfl | hb
    · cases e : h b with
      | none => exact .inr rfl
      | some o => rw [c.sub0 _ _ e] at hbn; cases hbn
    · exact c.2 b (hM b hb)⟩
  exact ⟨wb, wb :: ra :: rp :: Bt, rfl, ⟨⟨tb, ra, rp, [], 0, [], 0, tA, tN, tC, Bt, rfl, n1, n2, d3, n4, d5, d6, hw, ht, ha6, AskMapE.new, hp6, PartMapE.new, hB6⟩, hR, fun _ _ e => by cases e⟩, sp.own c7 hH, Dj.new sp.has c7⟩
end TL

namespace TL
open Go Go.Proofs
variable {g h : PH} {N : List Nat} {K : Value → PH → Prop} {wb : Nat} {s : WS}
theorem Chg.more {M M' : List Nat} {h h' h'' : PH} (c : Chg [] M h h') (c' : Chg [] M' h' h'') : Chg [] (M' ++ M) h h'' := ⟨fun b o _ e => c'.sub0 _ _ (c.sub0 _ _ e), fun b hb => by
  rcases List.mem_append.1 hb with hb | hb
  · rcases c'.2 b hb with h1 | h1
    · cases h1
    · cases e : h b with
      | none => exact .inr rfl
      | some o => rw [c.sub0 _ _ e] at h1; cases h1
  · exact c.2 b hb⟩
theorem notNew {B : List Nat} {h h' : PH} {b : Nat} {o : Obj} (c : Chg [] B h h') (e : h b = some o) : b ∉ B := fun hm => by
  rcases c.2 b hm with h1 | h1
  · cases h1
  · rw [e] at h1; cases h1
theorem ne_new {h : PH} {b b' : Nat} {o : Obj} (e : h b = some o) (n : h b' = none) : b ≠ b' := fun hh => by subst hh; rw [e] at n; cases n
theorem cWNew (sp : Spl g N h) {lA : Option Addr} {lC : Nat} {l : List PrR} (hl : SR EncPr g lA l) (hn : l.length ≤ 1000) (hs : ∀ x ∈ l, x.p.length ≤ 1000000) {R : List UInt8} (hR : R.length = 32)
    (hno : ¬ (mayB l = true ∧ l.length ≤ 48) → ∀ e : Int, (e = 1 ∨ e = 6) → ∀ g' h', Stp g N h g' N h' → (∀ b ∈ N, ∀ o, h b = some o → h' b = some o) → K (.tuple #[.pointer none, .int .i64 e]) h')
    (hyes : mayB l = true → l.length ≤ 48 → ∀ wb N' g' h', WalkAt g' N' h' wb (wNew l R) → Stp g N h g' (N' ++ N) h' → Dj N' N → K (.tuple #[.pointer (some ⟨wb, 0, none⟩), .int .i64 (0 : Int)]) h') :
    CallH Tryz.prog id_walk_New [.slice lA l.length lC, .agg (((bi R).map (Value.int .u8) ++ [])).toArray] K h := by
  refine F_walk_New_ok (by rw [bi_len]; exact hR) (sp.call (K := fun v g' => g.Sub g' ∧ ((mayB l = true ∧ l.length ≤ 48 ∧ ∃ b, Tr b g' l ∧ v = .tuple #[.pointer (some ⟨b, 0, none⟩), .int .i64 (0 : Int)]) ∨ (¬ (mayB l = true ∧ l.length ≤ 48) ∧ ∃ e : Int, (e = 1 ∨ e = 6) ∧ v = .tuple #[.pointer none, .int .i64 e])))
    (cOf3 hl hn hs (fun hok b h' ht _ c => ⟨c.sub0, .inl ⟨hok.1, hok.2, b, ht, rfl⟩⟩) fun hno e he _ => ⟨PH.Sub.rf _, .inr ⟨hno, e, he, rfl⟩⟩) ?_)
  rintro _ g1 h1 ⟨hgs, ⟨hm, h48, tb, ht, rfl⟩ | ⟨hnn, e, he, rfl⟩⟩ st
  · obtain ⟨st1, _⟩ := st hgs
    have sp1 := st1.spl
    have tr : ∀ {h' : PH}, h1.Sub h' → Tr tb h' l := fun hs => ht.sub (sp1.sub.tr hs)
    refine ⟨_, _, rfl, fun e => by simp at e, fun _ => ⟨NewJ g1 N h1 l R, ⟨nwM fun ra h3 n3 e3 c3 => ⟨nwM fun rp h4 n4 e4 c4 => cTexts (tr (c3.more c4).sub0) fun tA tC Bt h5 hb c5 => ⟨_, _, _, rfl, ?_⟩,
      cTexts (tr c3.sub0) fun tA tC Bt h4 hb c4 => ⟨_, _, _, rfl, nwM fun rp h5 n5 e5 c5 => ?_⟩⟩, nwM fun rp h3 n3 e3 c3 => ⟨nwM fun ra h4 n4 e4 c4 => cTexts (tr (c3.more c4).sub0) fun tA tC Bt h5 hb c5 => ⟨_, _, _, rfl, ?_⟩,
      cTexts (tr c3.sub0) fun tA tC Bt h4 hb c4 => ⟨_, _, _, rfl, nwM fun ra h5 n5 e5 c5 => ?_⟩⟩, cTexts (tr (PH.Sub.rf _)) fun tA tC Bt h3 hb c3 => ⟨_, _, _, rfl, nwM fun ra h4 n4 e4 c4 => nwM fun rp h5 n5 e5 c5 => ?_, nwM fun rp h4 n4 e4 c4 => nwM fun ra h5 n5 e5 c5 => ?_⟩⟩, ?_⟩⟩
    · exact newFin sp1 ((c3.more c4).more c5) (fun b hb => by simp only [List.mem_cons, List.mem_append, List.not_mem_nil, or_false] at hb ⊢; rcases hb with rfl | rfl | hb <;> simp [*]) hR ht (c5.sub0 _ _ (c4.sub0 _ _ e3)) (c5.sub0 _ _ e4) (ne_new e3 n4) (notNew c5 (c4.sub0 _ _ e3)) (notNew c5 e4) hb
    · exact newFin sp1 ((c3.more c4).more c5) (fun b hb => by simp only [List.mem_cons, List.mem_append, List.not_mem_nil, or_false] at hb ⊢; rcases hb with rfl | rfl | hb <;> simp [*]) hR ht (c5.sub0 _ _ (c4.sub0 _ _ e3)) e5 (ne_new (c4.sub0 _ _ e3) n5) (notNew c4 e3) (fun hm => by obtain ⟨o, ho⟩ := hb.has _ hm; rw [ho] at n5; cases n5) (hb.sub c5.sub0)
    · exact newFin sp1 ((c3.more c4).more c5) (fun b hb => by simp only [List.mem_cons, List.mem_append, List.not_mem_nil, or_false] at hb ⊢; rcases hb with rfl | rfl | hb <;> simp [*]) hR ht (c5.sub0 _ _ e4) (c5.sub0 _ _ (c4.sub0 _ _ e3)) (Ne.symm (ne_new e3 n4)) (notNew c5 e4) (notNew c5 (c4.sub0 _ _ e3)) hb
    · exact newFin sp1 ((c3.more c4).more c5) (fun b hb => by simp only [List.mem_cons, List.mem_append, List.not_mem_nil, or_false] at hb ⊢; rcases hb with rfl | rfl | hb <;> simp [*]) hR ht e5 (c5.sub0 _ _ (c4.sub0 _ _ e3)) (Ne.symm (ne_new (c4.sub0 _ _ e3) n5)) (fun hm => by obtain ⟨o, ho⟩ := hb.has _ hm; rw [ho] at n5; cases n5) (notNew c4 e3) (hb.sub c5.sub0)
    · exact newFin sp1 ((c3.more c4).more c5) (fun b hb => by simp only [List.mem_cons, List.mem_append, List.not_mem_nil, or_false] at hb ⊢; rcases hb with rfl | rfl | hb <;> simp [*]) hR ht (c5.sub0 _ _ e4) e5 (ne_new e4 n5) (fun hm => by obtain ⟨o, ho⟩ := hb.has _ hm; rw [ho] at n4; cases n4) (fun hm => by obtain ⟨o, ho⟩ := hb.has _ hm; rw [c4.sub0 _ _ ho] at n5; cases n5) ((hb.sub c4.sub0).sub c5.sub0)
    · exact newFin sp1 ((c3.more c4).more c5) (fun b hb => by simp only [List.mem_cons, List.mem_append, List.not_mem_nil, or_false] at hb ⊢; rcases hb with rfl | rfl | hb <;> simp [*]) hR ht e5 (c5.sub0 _ _ e4) (Ne.symm (ne_new e4 n5)) (fun hm => by obtain ⟨o, ho⟩ := hb.has _ hm; rw [c4.sub0 _ _ ho] at n5; cases n5) (fun hm => by obtain ⟨o, ho⟩ := hb.has _ hm; rw [ho] at n4; cases n4) ((hb.sub c4.sub0).sub c5.sub0)
    · rintro ⟨w, u⟩ h2 ⟨wb, N', hw, x, st2, d⟩
      dsimp only at hw
      subst hw
      refine cWAsk (lv := 0) (i := 0) x st2.spl.left (by decide) (by decide) hR fun h6 x6 st6 => ?_
      obtain ⟨sf, d6⟩ := st6.frame st2.spl d.symm
      exact hyes hm h48 wb N' g1 h6 x6 (st1.trans (st2.trans sf)) d
  · obtain ⟨st1, keep1⟩ := st hgs
    refine ⟨_, _, rfl, fun _ => hno hnn e he g1 h1 st1 keep1, fun e2 => ?_⟩
    rcases he with rfl | rfl <;> simp at e2
theorem cWTexts (x : WalkAt g N h wb s) (hn : s.T.length ≤ 1000000) (hk : ∀ a' c' B' h', Buf EncS 9 B' h' a' s.T.length c' s.T → Chg [] B' h h' → K (.slice a' s.T.length c') h') : CallH Tryz.prog id_walk_Walk_Texts [.pointer (some ⟨wb, 0, none⟩)] K h := by
  refine F_walk_Walk_Texts_ok (cWNone x ⟨_, rfl, fun e => (by cases e), fun _ => ?_⟩)
  obtain ⟨⟨tb, ra, rp, esA, cA, esP, cP, tA, tN, tC, Bt, rfl, d1, d2, d3, d4, d5, d6, hw, ht, ha, hA, hp, hP, hB⟩, hR, hL⟩ := x
  have hl := hB.1
  subst hl
  exact ⟨wb, 0, rfl, _, _, _, wk_text hw hR, cCloneStr hB.sr hn fun a' c' B' h' hb' hc' => ⟨_, _, _, rfl, hk a' c' B' h' hb' hc'⟩⟩
theorem cWRoot (x : WalkAt g N h wb s) (hk : K (.agg (((bi s.R).map (Value.int .u8) ++ [])).toArray) h) : CallH Tryz.prog id_walk_Walk_Root [.pointer (some ⟨wb, 0, none⟩)] K h := by
  refine F_walk_Walk_Root_ok (cWNone x ⟨_, rfl, fun e => (by cases e), fun _ => ?_⟩)
  obtain ⟨⟨tb, ra, rp, esA, cA, esP, cP, tA, tN, tC, Bt, rfl, d1, d2, d3, d4, d5, d6, hw, ht, ha, hA, hp, hP, hB⟩, hR, hL⟩ := x
  exact ⟨wb, 0, rfl, bi s.R, by rw [bi_len]; exact hR, wk_root hw hR, hk⟩
end TL

namespace TL
open Go Go.Proofs
variable {g h : PH} {N : List Nat} {K : Value → PH → Prop} {wb : Nat} {s : WS}
theorem askP_16 : ∀ k : Nat, k < 32 → 1 ≤ k → (k < 16 ↔ (askP k).1 < 4) := by decide +kernel
theorem askP_nn : ∀ k : Nat, k < 32 → 1 ≤ k → 0 ≤ (askP k).1 ∧ (askP k).1 ≤ 4 ∧ 0 ≤ (askP k).2 ∧ (askP k).2 < 16 := by decide +kernel
theorem askP_kids : ∀ k : Nat, k < 16 → 1 ≤ k → k.log2 + 1 ≤ 4 ∧ 2 * (k - 2 ^ k.log2) + 1 < 2 ^ (k.log2 + 1) ∧ 2 ^ (k.log2 + 1) + 2 * (k - 2 ^ k.log2) = 2 * k := by decide +kernel
theorem cWNode (x : WalkAt g N h wb s) (sp : Spl g N h) {lv i : Int} {a b : List UInt8} (ha : a.length = 32) (hb : b.length = 32) (hT : s.T.length ≤ 100000)
    (hno : (∀ k, 1 ≤ k → k < 16 → askP k = (lv, i) → s.A k ≠ some (shaN (innT a b))) → ∀ h', WalkAt g N h' wb s → Stp g N h g N h' → K (.bool false) h')
    (hyes : ∀ k N' h', 1 ≤ k → k < 16 → askP k = (lv, i) → s.A k = some (shaN (innT a b)) → WalkAt g N' h' wb (wIn s k a b) → Stp g N h g N' h' → K (.bool true) h') :
    CallH Tryz.prog id_walk_Walk_Node [.pointer (some ⟨wb, 0, none⟩), .int .i64 lv, .int .i64 i, .agg (((bi a).map (Value.int .u8) ++ [])).toArray, .agg (((bi b).map (Value.int .u8) ++ [])).toArray] K h := by
  refine F_walk_Walk_Node_ok (by rw [bi_len, ha]) (by rw [bi_len, hb]) (nwL fun b1 h1 n1 hb1 c1 => nwL fun b2 h2 n2 hb2 c2 => ?_)
  have s2 : h.Sub h2 := c1.sub0.tr c2.sub0
  have hb1 := c2.sub0 _ _ hb1
  have nb1 : b1 ∉ N := fun hm => by obtain ⟨o, ho⟩ := sp.has _ hm; rw [ho] at n1; cases n1
  have nb2 : b2 ∉ N := fun hm => by obtain ⟨o, ho⟩ := sp.has _ hm; rw [c1.sub0 _ _ ho] at n2; cases n2
  have st2 := sp.grow s2
  have x2 : WalkAt g N h2 wb s := x.keep (PH.Sub.rf _) fun q _ o e => s2 q o e
  refine cWNone x2 ⟨_, rfl, fun e => hno (fun k k1 k2 hk _ => ?_) h2 x2 st2, fun e => ?_⟩
  · have := askP_nn k (by omega) k1
    have h16 := (askP_16 k (by omega) k1).1 k2
    rw [hk] at this h16
    simp only [Bool.false_or, Bool.or_eq_true, decide_eq_true_eq] at e
    dsimp only at this h16
    omega
  · have str1 : ∀ {h' : PH}, h2.Sub h' → strH h' (slA (some ⟨b1, 0, none⟩ : Option Addr) 1 (0 : Int) ((32 : Nat) : Int)) (((32 : Nat) : Int).toNat - (0 : Int).toNat) (mk a) := fun hs => by
      have := (sr_bi (hs _ _ hb1)).str
      rw [ha] at this; exact this
    have str2 : ∀ {h' : PH}, h2.Sub h' → strH h' (slA (some ⟨b2, 0, none⟩ : Option Addr) 1 (0 : Int) ((32 : Nat) : Int)) (((32 : Nat) : Int).toNat - (0 : Int).toNat) (mk b) := fun hs => by
      have := (sr_bi (hs _ _ hb2)).str
      rw [hb] at this; exact this
    have rd1 : ∀ {h' : PH}, h' b1 = h2 b1 → h'.rds b1 0 32 = some ((bi a).map (Value.int .u8) ++ []) := fun he => by
      rw [hb1] at he
      rw [List.append_nil] at he ⊢
      exact rds_mid' (pre := []) (post := []) he (by simp) rfl (by rw [List.length_map, bi_len, ha])
    have rd2 : ∀ {h' : PH}, h' b2 = h2 b2 → h'.rds b2 0 32 = some ((bi b).map (Value.int .u8) ++ []) := fun he => by
      rw [hb2] at he
      rw [List.append_nil] at he ⊢
      exact rds_mid' (pre := []) (post := []) he (by simp) rfl (by rw [List.length_map, bi_len, hb])
    refine ⟨bi a, by rw [bi_len, ha], rd1 rfl, bi b, by rw [bi_len, hb], rd2 rfl, by decide, mk a, str1 (PH.Sub.rf _), ?_, by decide, mk b, str2 (PH.Sub.rf _), ?_, cInner ha hb fun h4 s4 => ⟨bi (shaN (innT a b)), by rw [bi_len, shaN_len], rfl, str2 s4, str1 s4, ?_⟩⟩
    · have : (mk a).size = 32 := by rw [size_mk, ha]
      rw [this]; decide
    · rw [show (⟨#[78]⟩ : ByteArray) = mk [78] from rfl, mk_append, size_mk, size_mk, List.length_append, ha, hb]; decide
    · rw [show (⟨#[78]⟩ : ByteArray) = mk [78] from rfl, mk_append, mk_append]
      have st4 := st2.trans (st2.spl.grow s4)
      have x4 : WalkAt g N h4 wb s := x2.keep (PH.Sub.rf _) fun q _ o e => s4 q o e
      refine cWFits (t := innT a b) x4 st4.spl (shaN_len _) hT (fun hn => ⟨_, rfl, fun _ => hno (fun k k1 k2 hk => hn k k1 (by omega) hk) h4 x4 st4, fun e => by simp at e⟩) fun k N5 h5 k1 k2 hk hA x5 st5 => ⟨_, rfl, fun e => by simp at e, fun _ => ?_⟩
      have k16 : k < 16 := (askP_16 k k2 k1).2 (by
        rw [hk]
        simp only [Bool.false_or, Bool.or_eq_false_iff, decide_eq_false_iff_not] at e
        dsimp only; omega)
      obtain ⟨q1, q2, q3⟩ := askP_kids k k16 k1
      have hlv : lv = ((k.log2 : Nat) : Int) := (congrArg Prod.fst hk).symm
      have hi : i = ((k - 2 ^ k.log2 : Nat) : Int) := (congrArg Prod.snd hk).symm
      have w1 : IntKind.wrap .i64 (lv + 1) = ((k.log2 + 1 : Nat) : Int) := by rw [hlv, wrap64] <;> omega
      have w2 : IntKind.wrap .i64 ((2 : Int) * i) = ((2 * (k - 2 ^ k.log2) : Nat) : Int) := by rw [hi, wrap64] <;> omega
      have w3 : IntKind.wrap .i64 (((2 * (k - 2 ^ k.log2) : Nat) : Int) + 1) = ((2 * (k - 2 ^ k.log2) + 1 : Nat) : Int) := by rw [wrap64] <;> omega
      rw [w1, w2, w3]
      have e1 : h5 b1 = h2 b1 := by
        have := st5.chg.keep (s4 _ _ hb1) nb1
        rw [hb1]; exact this
      have e2 : h5 b2 = h2 b2 := by
        have := st5.chg.keep (s4 _ _ hb2) nb2
        rw [hb2]; exact this
      have n25 : b2 ∉ N5 := fun hm => by
        rcases st5.chg.2 b2 hm with h6 | h6
        · exact nb2 h6
        · rw [s4 _ _ hb2] at h6; cases h6
      refine ⟨bi a, by rw [bi_len, ha], rd1 e1, cWAsk x5 st5.spl q1 (by omega) ha fun h6 x6 st6 => ⟨bi b, by rw [bi_len, hb], rd2 ?_, ?_⟩⟩
      · have := st6.chg.keep (o := .cells ((bi b).map (Value.int .u8) ++ []).toArray T_api_Hash (0, 0)) (by rw [e2]; exact hb2) n25
        rw [this, hb2]
      · refine cWAsk x6 st6.spl q1 q2 hb fun h7 x7 st7 => ?_
        have r1 : 2 ^ (k.log2 + 1) + 2 * (k - 2 ^ k.log2) = 2 * k := q3
        have r2 : 2 ^ (k.log2 + 1) + (2 * (k - 2 ^ k.log2) + 1) = 2 * k + 1 := by omega
        rw [r1, r2] at x7
        exact hyes k N5 h7 k1 k16 hk hA x7 (st4.trans (st5.trans (st6.trans st7)))
end TL

namespace TL
open Go Go.Proofs
variable {g h : PH} {N : List Nat} {K : Value → PH → Prop} {wb : Nat} {s : WS}
theorem cPageOut {lA : Option Addr} {lN lC : Nat} {i : Int} (hi : ¬ (0 ≤ i ∧ i < 16)) (hk : K (.tuple #[.string (⟨#[]⟩ : ByteArray), .int .i64 (1 : Int)]) h) : CallH Tryz.prog id_bucket_Page [.int .i64 i, .slice lA lN lC] K h := by
  have hf : (decide (i ≥ (0 : Int)) && decide (i < (16 : Int))) = false := by
    rw [Bool.eq_false_iff]
    intro e
    simp only [Bool.and_eq_true, decide_eq_true_eq] at e
    omega
  refine F_bucket_Page_ok ⟨fun _ _ => False, F_bucket_bucket_ok ⟨_, rfl, fun e => ?_, fun _ => hk⟩, fun _ _ h => h.elim⟩
  rw [hf] at e; cases e
theorem pgOk_iff {i : Nat} {l : List PrR} : (mayB l = true ∧ (partB l i).length = l.length ∧ l.length ≤ 48) ↔ PgOk i l := by
  refine ⟨fun ⟨h1, h2, h3⟩ => ⟨h1, fun x hx => ?_, h3⟩, fun ⟨h1, h2, h3⟩ => ⟨h1, ?_, h3⟩⟩
  · have h4 : ∀ y ∈ l, (bkt y.p == i) = true := List.length_filter_eq_length_iff.1 h2
    simpa using h4 x hx
  · exact List.length_filter_eq_length_iff.2 fun y hy => by simp [h2 y hy]
theorem cWPage (x : WalkAt g N h wb s) (sp : Spl g N h) {i : Int} {lA : Option Addr} {lC : Nat} {l : List PrR} (hl : SR EncPr g lA l) (hn : l.length ≤ 1000) (hs : ∀ x ∈ l, x.p.length ≤ 1000000) (hT : s.T.length ≤ 100000)
    (hno : (∀ k : Nat, k < 16 → i = k → PgOk k l → s.A (16 + k) ≠ some (shaN (76 :: pageL l))) → ∀ h', WalkAt g N h' wb s → Stp g N h g N h' → K (.bool false) h')
    (hyes : ∀ (k : Nat) g' N' h', k < 16 → i = k → PgOk k l → s.A (16 + k) = some (shaN (76 :: pageL l)) → WalkAt g' N' h' wb (wPg s k l) → Stp g N h g' N' h' → K (.bool true) h') :
    CallH Tryz.prog id_walk_Walk_Page [.pointer (some ⟨wb, 0, none⟩), .int .i64 i, .slice lA l.length lC] K h := by
  refine F_walk_Walk_Page_ok (cWNone x ⟨_, rfl, fun e => (by cases e), fun _ => ?_⟩)
  by_cases hi : ¬ (0 ≤ i ∧ i < 16)
  · exact cPageOut hi ⟨_, _, rfl, fun e => by simp at e, fun _ => hno (fun k hk e _ => absurd (show 0 ≤ i ∧ i < 16 by omega) hi) h x (Stp.refl sp)⟩
  have hi : 0 ≤ i ∧ i < 16 := Classical.not_not.1 hi
  obtain ⟨k, rfl⟩ : ∃ k : Nat, i = k := ⟨i.toNat, by omega⟩
  have hk : k < 16 := by omega
  refine cPage hk (hl.sub sp.sub) (by omega) hs fun h2 s2 => ⟨_, _, rfl, fun e => ?_, fun e => ?_⟩
  · have hok : PgOk k l := by
      refine pgOk_iff.1 ?_
      unfold pageV at e
      split at e
      · rename_i hh
        split at e
        · rename_i h48; exact ⟨hh.1, hh.2, h48⟩
        · simp at e
      · simp at e
    have hpv := page_ok hok
    rw [hpv]
    dsimp only
    have hpl := page_len hok
    have st2 := sp.grow s2
    have x2 : WalkAt g N h2 wb s := x.keep (PH.Sub.rf _) fun q _ o e => s2 q o e
    refine cLeaf (by omega) fun h3 s3 => ⟨bi (shaN (76 :: pageL l)), by rw [bi_len, shaN_len], rfl, ?_, ?_⟩
    · rw [size_mk]; show ((1 + (pageL l).length : Nat) : Int) ≤ _; omega
    rw [show (⟨#[76]⟩ : ByteArray) = mk [76] from rfl, mk_append]
    have st3 := st2.trans (st2.spl.grow s3)
    have x3 : WalkAt g N h3 wb s := x2.keep (PH.Sub.rf _) fun q _ o e => s3 q o e
    have hap : askP (2 ^ 4 + k) = (4, (k : Int)) := askP_at 4 (by decide) k hk hk
    refine cWFits (t := 76 :: pageL l) x3 st3.spl (shaN_len _) hT (fun hn => ⟨_, rfl, fun _ => hno (fun j _ ej _ => ?_) h3 x3 st3, fun e => by simp at e⟩) fun j N5 h5 j1 j2 hj hA x5 st5 => ⟨_, rfl, fun e => by simp at e, fun _ => ?_⟩
    · have : j = k := by omega
      subst this
      exact hn (16 + j) (by omega) (by omega) hap
    have hjk : j = 16 + k := askP_inj j j2 (2 ^ 4 + k) (show 16 + k < 32 by omega) j1 (show 1 ≤ 16 + k by omega) (hj.trans hap.symm)
    subst hjk
    obtain ⟨⟨tb, ra, rp, esA, cA, esP, cP, tA, tN, tC, Bt, rfl, d1, d2, d3, d4, d5, d6, hw, ht, ha, hA5, hp, hP, hB⟩, hR, hL⟩ := x5
    refine ⟨wb, 0, rfl, _, wk_part hw hR, cClonePr (hl.sub st5.spl.sub) hn fun a6 c6 B6 h6 hb6 cc6 => ⟨_, _, _, rfl, wk_part (cc6.sub0 _ _ hw) hR, rp, esP, cP, rfl, cc6.sub0 _ _ hp, hP.key, ?_⟩⟩
    have st6 := st5.spl.new cc6
    have hsr : SR EncPr (PH.plus g h6 B6) a6 l := (hb6.keep fun b hb o e => by rw [plus_in hb]; exact e).sr
    have hw6 := cc6.sub0 _ _ hw
    have ha6 := cc6.sub0 _ _ ha
    have hB6 := hB.sub cc6.sub0
    have cc : Chg [rp] [rp] h6 (h6.upd rp (.map (upM esP (.int .i64 (k : Int)) (.slice a6 l.length c6) cP).1.toArray (upM esP (.int .i64 (k : Int)) (.slice a6 l.length c6) cP).2)) := Chg.upd _
    have hw7 := cc.keep hw6 (by simpa using d2)
    have ha7 := cc.keep ha6 (by simpa using d3)
    have hB7 := hB6.chg cc fun b hb hm => by rw [List.mem_singleton] at hm; subst hm; exact d6 hb
    have st7 := st6.spl.chg (cc.sub (C := wb :: ra :: rp :: Bt) (fun b hb => by simp at hb; subst hb; simp) fun b hb => .inr hb) (fun b hb => by
      simp only [List.mem_cons] at hb
      rcases hb with rfl | rfl | rfl | hb
      · exact ⟨_, hw7⟩
      · exact ⟨_, ha7⟩
      · exact ⟨_, PH.upd_same _ _ _⟩
      · exact hB7.has b hb)
    exact hyes k _ (wb :: ra :: rp :: Bt) _ hk rfl hok hA ⟨⟨tb, ra, rp, esA, cA, _, _, tA, tN, tC, Bt, rfl, d1, d2, d3, d4, d5, d6, hw7, ht.sub st6.gs, ha7, hA5, PH.upd_same _ _ _, (hP.sub st6.gs).put hk hsr, hB7⟩, hR, hL⟩ (st3.trans (st5.trans (st6.trans st7)))
  · refine hno (fun j _ ej hj => ?_) h2 (x.keep (PH.Sub.rf _) fun q _ o e => s2 q o e) (sp.grow s2)
    have : j = k := by omega
    subst this
    rw [page_ok hj] at e
    simp at e
end TL

namespace TL
open Go Go.Proofs
variable {g h : PH} {N : List Nat} {K : Value → PH → Prop} {wb : Nat} {s : WS}
theorem ltA_ext : ∀ {l m : List (Int × Int)}, l.Pairwise ltA → m.Pairwise ltA → (∀ x, x ∈ l ↔ x ∈ m) → l = m
  | [], [], _, _, _ => rfl
  | [], b :: m, _, _, h => by have := (h b).2 List.mem_cons_self; cases this
  | a :: l, [], _, _, h => by have := (h a).1 List.mem_cons_self; cases this
  | a :: l, b :: m, h1, h2, h => by
    obtain ⟨h1, h1'⟩ := List.pairwise_cons.1 h1
    obtain ⟨h2, h2'⟩ := List.pairwise_cons.1 h2
    have irr : ∀ x : Int × Int, ¬ ltA x x := fun x => by unfold ltA; omega
    have e : a = b := by
      rcases List.mem_cons.1 ((h a).1 List.mem_cons_self) with e | e
      · exact e
      · rcases List.mem_cons.1 ((h b).2 List.mem_cons_self) with e2 | e2
        · exact e2.symm
        · have q1 := h2 a e
          have q2 := h1 b e2
          unfold ltA at q1 q2; omega
    subst e
    rw [ltA_ext h1' h2' fun x => ⟨fun hx => ?_, fun hx => ?_⟩]
    · rcases List.mem_cons.1 ((h x).1 (List.mem_cons_of_mem _ hx)) with e | e
      · subst e; exact absurd (h1 x hx) (irr x)
      · exact e
    · rcases List.mem_cons.1 ((h x).2 (List.mem_cons_of_mem _ hx)) with e | e
      · subst e; exact absurd (h2 x hx) (irr x)
      · exact e
theorem wList_mem {A : Nat → Option (List UInt8)} {k : Nat} : k ∈ wList A ↔ k < 32 ∧ (A k).isSome = true := by
  unfold wList
  rw [List.mem_filter, List.mem_range]
theorem wList_sorted {A : Nat → Option (List UInt8)} (h0 : A 0 = none) : ((wList A).map askP).Pairwise ltA := by
  rw [List.pairwise_map]
  refine List.Pairwise.imp_of_mem (R := fun a b => a < b) (fun {a b} ha hb hab => ?_) (List.pairwise_lt_range.sublist List.filter_sublist)
  obtain ⟨a1, a2⟩ := wList_mem.1 ha
  obtain ⟨b1, b2⟩ := wList_mem.1 hb
  have n0 : ∀ k : Nat, (A k).isSome = true → 1 ≤ k := fun k hk => by
    rcases Nat.eq_zero_or_pos k with rfl | h
    · rw [h0] at hk; cases hk
    · exact h
  exact (askP_lt a a1 b b1 (n0 a a2) (n0 b b2)).2 hab
theorem asked_row {es : List MapEntry} {c : Nat} {A : Nat → Option (List UInt8)} (x : AskMapE es c A) (h0 : A 0 = none) {l : List (Int × Int)} (hp : (l.map keyV).Perm (es.map (·.key))) (hs : l.Pairwise fun a b => ¬ ltA b a) : l = (wList A).map askP := by
  have hnd : (es.map (·.key)).Nodup := by
    refine List.pairwise_map.2 (List.Pairwise.imp_of_mem (fun {a b} ha hb hab e => ?_) x.nd)
    rw [(keq_eq (x.kOk a ha) (x.kOk b hb)).2 e] at hab; cases hab
  have hln : l.Nodup := by
    have := hp.nodup_iff.2 hnd
    exact List.Pairwise.imp (fun h e => h (by rw [e])) (List.pairwise_map.1 this)
  have hmem : ∀ p : Int × Int, p ∈ l ↔ keyV p ∈ es.map (·.key) := fun p => by
    rw [← hp.mem_iff, List.mem_map]
    exact ⟨fun h => ⟨p, h, rfl⟩, fun ⟨q, hq, e⟩ => keyV_inj e ▸ hq⟩
  refine ltA_ext ?_ (wList_sorted h0) fun p => ?_
  · refine List.Pairwise.imp (fun {a b} h => ?_) (hs.and hln)
    obtain ⟨h1, h2⟩ := h
    have : ¬ (a.1 = b.1 ∧ a.2 = b.2) := fun e => h2 (Prod.ext e.1 e.2)
    unfold ltA at *; omega
  · rw [hmem p, List.mem_map]
    refine ⟨fun ⟨e, he, ek⟩ => ?_, fun hk => ?_⟩
    · obtain ⟨k, k1, k2, hk⟩ := x.key e he
      have hpk : p = askP k := keyV_inj (ek.symm.trans hk)
      subst hpk
      refine List.mem_map.2 ⟨k, wList_mem.2 ⟨k2, ?_⟩, rfl⟩
      cases hA : A k with
      | some y => rfl
      | none =>
        have hv := x.at_ k k1 k2
        rw [hA] at hv
        have := va_none.1 hv e he
        rw [hk, keyV_keq] at this
        simp at this
    · obtain ⟨k, hkm, rfl⟩ := List.mem_map.1 hk
      obtain ⟨k2, hs⟩ := wList_mem.1 hkm
      have k1 : 1 ≤ k := by
        rcases Nat.eq_zero_or_pos k with rfl | h
        · rw [h0] at hs; cases hs
        · exact h
      obtain ⟨y, hy⟩ := Option.isSome_iff_exists.1 hs
      have hv := x.at_ k k1 k2
      rw [hy] at hv
      have hnn : ¬ va es (keyV (askP k)) = none := by rw [hv]; simp
      rw [va_none] at hnn
      obtain ⟨e, he⟩ := Classical.not_forall.1 hnn
      obtain ⟨he, hq⟩ := Classical.not_imp.1 he
      have hq : keq (keyV (askP k)) e.key = true := by simpa using hq
      exact ⟨e, he, ((keq_eq (keyV_ok _) (x.kOk e he)).1 hq).symm⟩
theorem AskMapE.len {es : List MapEntry} {c : Nat} {A : Nat → Option (List UInt8)} (x : AskMapE es c A) : es.length ≤ 32 := by
  have hnd : (es.map (·.key)).Nodup := by
    refine List.pairwise_map.2 (List.Pairwise.imp_of_mem (fun {a b} ha hb hab e => ?_) x.nd)
    rw [(keq_eq (x.kOk a ha) (x.kOk b hb)).2 e] at hab; cases hab
  have := List.Nodup.length_le_of_subset (l₂ := (List.range 32).map fun k => keyV (askP k)) hnd fun v hv => by
    obtain ⟨e, he, rfl⟩ := List.mem_map.1 hv
    obtain ⟨k, _, k2, hk⟩ := x.key e he
    exact List.mem_map.2 ⟨k, List.mem_range.2 k2, hk.symm⟩
  simpa using this
theorem take_min_len {α : Type} (l : List α) (n : Nat) : l.take (min n l.length) = l.take n := by
  rcases Nat.le_total n l.length with h | h
  · rw [Nat.min_eq_left h]
  · rw [Nat.min_eq_right h, List.take_length, List.take_of_length_le h]
end TL

namespace TL
open Go Go.Proofs Go.Shelf Go.RowKit Go.Lib Go.Sort
set_option maxHeartbeats 1000000 in
theorem walkLess122 (a0 a1 b0 b1 : ByteArray) (w : World) :
    Calls Tryz.prog 122 #[.agg #[.string a0, .string a1], .agg #[.string b0, .string b1]] w fun e w' => e = .returned (.int .i64 (Lib.compareBytes a0.data.toList b0.data.toList)) ∧ ∃ q os', w' = grow (w.drewN q) os' := by
  have hcon := fun W => walkCompare a0 b0 W
  generalize Lib.compareBytes a0.data.toList b0.data.toList = r at hcon ⊢
  go_enter Tryz.func122, Tryz.ntmps122
  go_wp2_with (go_at_call 123; refine (hcon _).mono ?_; rintro e w' ⟨rfl, rfl⟩)
  go_ret
  exact ⟨rfl, 0, _, by rw [alloc_eq_grow, alloc_eq_grow, grow_grow]; rfl⟩
theorem cSortW {B : List Nat} {h : PH} {K : Value → PH → Prop} {a : Option Addr} {n c : Nat} {l : List PrR} {T : TypeId} (x : Buf EncPr T B h a n c l) (hn : l.length ≤ 1000000)
    (hk : ∀ l' h', l'.Perm l → (l'.Pairwise fun a b => ¬ b.p < a.p) → Buf EncPr T B h' a n c l' → Chg B B h h' → K (.tuple #[]) h') : CallH Tryz.prog 121 [.slice a n c, .func (.func 122) #[] #[]] K h :=
  cSortPr Tryz.srtA Tryz.isAgg101 Tryz.sizeOf101 122 (enters_of Tryz.func122 (by kernel_rfl) rfl) walkLess122 x hn hk
variable {g h : PH} {N : List Nat} {K : Value → PH → Prop} {wb : Nat} {s : WS}
/-- all parts of a walk -/
def wDone (s : WS) : List PrR := (List.range 16).flatMap (wPart s)
theorem part_le {s : WS} (hS : s.S.length ≤ 48) (hQ : ∀ i l, s.Q i = some l → l.length ≤ 48) (i : Nat) : (wPart s i).length ≤ 48 := by
  unfold wPart
  cases e : s.Q i with
  | none => exact Nat.le_trans (List.length_filter_le _ _) hS
  | some l => exact hQ i l e
theorem parts_le {s : WS} (hS : s.S.length ≤ 48) (hQ : ∀ i l, s.Q i = some l → l.length ≤ 48) (n : Nat) : ((List.range n).flatMap (wPart s)).length ≤ 48 * n := by
  induction n with
  | zero => simp
  | succ n ih =>
    rw [List.range_succ, List.flatMap_append, List.length_append, List.flatMap_cons, List.flatMap_nil, List.append_nil]
    have := part_le hS hQ n
    omega
theorem parts_succ (s : WS) (n : Nat) : (List.range (n + 1)).flatMap (wPart s) = (List.range n).flatMap (wPart s) ++ wPart s n := by
  rw [List.range_succ, List.flatMap_append, List.flatMap_cons, List.flatMap_nil, List.append_nil]
theorem cWDone (x : WalkAt g N h wb s) (sp : Spl g N h) (hQ : ∀ i l, s.Q i = some l → l.length ≤ 48)
    (hno : (∃ k, 1 ≤ k ∧ k < 32 ∧ (s.A k).isSome = true) ∨ ((∀ k, 1 ≤ k → k < 32 → s.A k = none) ∧ 48 < (wDone s).length) → ∀ h', h.Sub h' → K (.tuple #[.slice none 0 0, .bool false]) h')
    (hyes : (∀ k, 1 ≤ k → k < 32 → s.A k = none) → (wDone s).length ≤ 48 → ∀ l a' c' B' h', l.Perm (wDone s) → (l.Pairwise fun a b => ¬ b.p < a.p) → Buf EncPr T_api_Pair B' h' a' l.length c' l → Chg [] B' h h' → K (.tuple #[.slice a' l.length c', .bool true]) h') :
    CallH Tryz.prog id_walk_Walk_Done [.pointer (some ⟨wb, 0, none⟩)] K h := by
  have hxx := x
  obtain ⟨⟨tb, ra, rp, esA, cA, esP, cP, tA, tN, tC, Bt, rfl, d1, d2, d3, d4, d5, d6, hw, ht, ha, hA, hp, hP, hB⟩, hR, hL⟩ := x
  have hS : s.S.length ≤ 48 := ht.le
  refine F_walk_Walk_Done_ok ⟨fun _ h' => h' = h ∧ ∀ k, 1 ≤ k → k < 32 → s.A k = none, cWNone hxx ⟨_, rfl, wb, 0, fun _ => rfl, some ra, fun _ => wk_ask hw hR, fun _ => ⟨esA.length, ⟨_, cA, ha, by simp⟩, fun e => ?_, fun e => ⟨rfl, fun k k1 k2 => ?_⟩⟩, fun e => by cases e⟩, ?_⟩
  · have e : 0 < esA.length := by have := of_decide_eq_true e; omega
    refine hno (.inl ?_) h (PH.Sub.rf _)
    have hm := List.getElem_mem e
    obtain ⟨k, k1, k2, hk⟩ := hA.key _ hm
    refine ⟨k, k1, k2, ?_⟩
    cases hAk : s.A k with
    | some y => rfl
    | none =>
      have hv := hA.at_ k k1 k2
      rw [hAk] at hv
      have := va_none.1 hv _ hm
      rw [hk, keyV_keq] at this
      simp at this
  · have e : esA = [] := List.length_eq_zero_iff.1 (by have := of_decide_eq_false e; omega)
    have hv := hA.at_ k k1 k2
    rw [e] at hv
    cases hAk : s.A k with
    | none => rfl
    | some y => rw [hAk] at hv; cases hv
  rintro _ h1 ⟨rfl, hdone⟩
  refine LoopP.ind (fun (z : (Option Addr × Nat × Nat) × Int × Unit) h' => ∃ (i : Nat) (B' : List Nat), z.2.1 = i ∧ i ≤ 16 ∧ Buf EncPr T_api_Pair B' h' z.1.1 z.1.2.1 z.1.2.2 ((List.range i).flatMap (wPart s)) ∧ Chg [] B' h1 h') (fun z _ => (16 - z.2.1).toNat) ?_
    ⟨0, [], rfl, Nat.zero_le _, Buf.nil _ _ _ _, Chg.refl _ _⟩
  rintro ⟨⟨lA, lN, lC⟩, zi, u⟩ h2 ⟨i, B2, hzi, hi, hb, hc⟩
  dsimp only at hzi hb
  subst hzi
  dsimp only
  have hw2 := hc.sub0 _ _ hw
  have hlen := parts_le hS hQ i
  have hlN := hb.1
  refine ⟨fun e => ?_, fun e => ?_⟩
  · have e : i < 16 := by have := of_decide_eq_true e; omega
    have hwi : IntKind.wrap .i64 (((i : Nat) : Int) + (1 : Int)) = ((i + 1 : Nat) : Int) := by rw [wrap64] <;> omega
    have hpl := part_le hS hQ i
    rw [hwi]
    cases hq : s.Q i with
    | none =>
      refine ⟨wb, 0, rfl, _, wk_part hw2 hR, none, 0, 0, false, ⟨esP, ⟨⟨cP, hc.sub0 _ _ hp⟩, hP.key⟩, by rw [lk_va, hP.no i e hq]⟩, fun _ => ?_, fun e2 => by simp at e2⟩
      refine ⟨wb, 0, rfl, _, wk_base hw2, cPairs ((ht.sub sp.sub).sub hc.sub0) e fun a3 c3 B3 h3 hb3 hc3 => ⟨_, _, _, rfl, EncPr.row (partB s.S i), hb3.sr.src, ?_⟩⟩
      have hpw : wPart s i = partB s.S i := by unfold wPart; rw [hq]; rfl
      have hpl2 : (partB s.S i).length ≤ 48 := hpw ▸ hpl
      refine (hb.sub hc3.sub0).append (new := partB s.S i) rfl rfl rfl (by omega) fun a4 c4 B4 h4 hb4 hc4 _ => ⟨⟨i + 1, B4, rfl, by omega, ?_, ?_⟩, by omega⟩
      · rw [parts_succ, hpw]; exact hb4
      · exact (hc.trans ⟨fun b o hb e => hc3.sub0 b o e, fun b hb => .inl hb⟩).trans hc4
    | some l =>
      obtain ⟨a3, c3, hv, hsr⟩ := hP.yes i l e hq
      have hpw : wPart s i = l := by unfold wPart; rw [hq]; rfl
      have hpl2 : l.length ≤ 48 := hpw ▸ hpl
      refine ⟨wb, 0, rfl, _, wk_part hw2 hR, a3, l.length, c3, true, ⟨esP, ⟨⟨cP, hc.sub0 _ _ hp⟩, hP.key⟩, by rw [lk_va, hv]⟩, fun e2 => by simp at e2, fun _ => ⟨EncPr.row l, ((hsr.sub sp.sub).sub hc.sub0).src, ?_⟩⟩
      refine hb.append (new := l) rfl rfl rfl (by omega) fun a4 c4 B4 h4 hb4 hc4 _ => ⟨⟨i + 1, B4, rfl, by omega, ?_, hc.trans hc4⟩, by omega⟩
      rw [parts_succ, hpw]; exact hb4
  · have e : i = 16 := by have := of_decide_eq_false e; omega
    subst e
    have hb : Buf EncPr T_api_Pair B2 h2 lA lN lC (wDone s) := hb
    refine ⟨fun e2 => hno (.inr ⟨hdone, ?_⟩) h2 hc.sub0, fun e2 => cSortW hb (by have : (wDone s).length ≤ 48 * 16 := hlen; omega) fun l h3 hp3 hs3 hb3 hc3 => ?_⟩
    · have := of_decide_eq_true e2
      have hlN : lN = (wDone s).length := hlN
      omega
    · have := of_decide_eq_false e2
      have hlN : lN = (wDone s).length := hlN
      have hl3 := hp3.length_eq
      have := hyes hdone (by omega) l lA lC B2 h3 hp3 hs3 (by rw [hl3, ← hlN]; exact hb3) (hc.trans hc3)
      rw [hl3, ← hlN] at this; exact this
end TL

namespace TL
open Go Go.Proofs
/- twinlock/twinlocklaw16.WalkNobody -/
/- twinlock/twinlocklaw16.WalkQuiet -/
/- twinlock/twinlocklaw16.WalkKnown -/
/- twinlock/twinlocklaw16.WalkPlays -/
/- twinlock/twinlocklaw16.WalkFew -/
/- twinlock/twinlocklaw16.WalkLevel -/
/- twinlock/twinlocklaw16.wakes -/
/- twinlock/twinlocklaw16.Great -/
/- twinlock/twinlocklaw16.begin -/
/- twinlock/twinlocklaw16.answer -/
/- twinlock/twinlocklaw16.one -/
/- twinlock/twinlocklaw16.above -/
/- twinlock/twinlocklaw16.collides -/
/- twinlock/twinlocklaw16.node -/
/- twinlock/twinlocklaw16.rest -/
end TL

namespace TL
open Go Go.Proofs
variable {g h : PH} {N : List Nat} {K : Value → PH → Prop} {wb tb : Nat} {s : WS} {S T : List PrR}
theorem nd_in {c : Nat} (h1 : 1 ≤ c) (h2 : c < 16) : nd S c = shaN (innT (nd S (2 * c)) (nd S (2 * c + 1))) := by
  unfold nd; rw [node_in _ h1 h2]
theorem nd_leaf {i : Nat} (h : i < 16) : nd S (16 + i) = shaN (76 :: pageL (partB S i)) := by
  unfold nd; rw [node_leaf _ (by omega) (by omega), show 16 + i - 16 = i by omega]; rfl
theorem askP_leaf : ∀ c : Nat, c < 32 → 16 ≤ c → (askP c).1 = 4 ∧ (askP c).2 = ((c - 16 : Nat) : Int) := by decide +kernel
/-- the way to the one page -/
def pc : Nat → Nat
  | 0 => 1
  | 1 => 2
  | 2 => 4
  | 3 => 9
  | _ => 19
def onlyA (c : Nat) : Nat → Option (List UInt8) := upF (fun _ => none) c (some (nd sApp c))
theorem wAsk_yes {A : Nat → Option (List UInt8)} {d : Nat} {x : List UInt8} (h : nd S d ≠ x) : wAsk S A d x = upF A d (some x) := by unfold wAsk; rw [if_neg h]
theorem wAsk_not {A : Nat → Option (List UInt8)} {d : Nat} {x : List UInt8} (h : nd S d = x) : wAsk S A d x = A := by unfold wAsk; rw [if_pos h]
theorem on1 : nd [] 1 ≠ nd sApp 1 := by rw [nil4, app4]; decide
theorem on2 : nd [] 2 ≠ nd sApp 2 := by rw [nil3 (by omega) (by omega), app3]; decide
theorem on4 : nd [] 4 ≠ nd sApp 4 := by rw [nil2 (by omega) (by omega), app2]; decide
theorem on9 : nd [] 9 ≠ nd sApp 9 := by rw [nil1 (by omega) (by omega), app1]; decide
theorem on19 : nd [] 19 ≠ nd sApp 19 := by rw [nil0 (by omega) (by omega), app0]; decide
theorem off_app {j : Nat} (hj : j < 32) (ha : ¬ Anc j 19) : nd [] j = nd sApp j := (app_same hj ha).symm
theorem only_off (c : Nat) : upF (onlyA c) c none = fun _ => none := by
  funext d
  by_cases e : d = c
  · subst e; rw [upF_same]
  · rw [upF_ne _ _ e]; unfold onlyA; rw [upF_ne _ _ e]
theorem next_ask : ∀ j, j < 4 → wAsk [] (wAsk [] (fun _ => none) (2 * pc j) (nd sApp (2 * pc j))) (2 * pc j + 1) (nd sApp (2 * pc j + 1)) = onlyA (pc (j + 1)) := fun j hj => by
  match j, hj with
  | 0, _ => show wAsk [] (wAsk [] _ 2 (nd sApp 2)) 3 (nd sApp 3) = onlyA 2; rw [wAsk_yes on2, wAsk_not (off_app (j := 3) (by omega) (by unfold Anc; omega))]; rfl
  | 1, _ => show wAsk [] (wAsk [] _ 4 (nd sApp 4)) 5 (nd sApp 5) = onlyA 4; rw [wAsk_yes on4, wAsk_not (off_app (j := 5) (by omega) (by unfold Anc; omega))]; rfl
  | 2, _ => show wAsk [] (wAsk [] _ 8 (nd sApp 8)) 9 (nd sApp 9) = onlyA 9; rw [wAsk_not (off_app (j := 8) (by omega) (by unfold Anc; omega)), wAsk_yes on9]; rfl
  | 3, _ => show wAsk [] (wAsk [] _ 18 (nd sApp 18)) 19 (nd sApp 19) = onlyA 19; rw [wAsk_not (off_app (j := 18) (by omega) (by unfold Anc; omega)), wAsk_yes on19]; rfl
theorem pc_in : ∀ j : Nat, j < 5 → 1 ≤ pc j ∧ pc j < 32 ∧ (j < 4 → pc j < 16) ∧ (j = 4 → pc j = 19) := by decide
theorem onlyA_list {c : Nat} (hc : c < 32) : wList (onlyA c) = [c] := by
  unfold wList
  have : (fun d => (onlyA c d).isSome) = fun d => d == c := by
    funext d
    unfold onlyA
    by_cases e : d = c
    · subst e; rw [upF_same]; simp
    · rw [upF_ne _ _ e]; simp [e]
  rw [this, range_at hc, List.filter_append, List.filter_cons]
  have z1 : (List.range c).filter (fun d => d == c) = [] := List.filter_eq_nil_iff.2 fun d hd => by have := List.mem_range.1 hd; simp; omega
  have z2 : (List.range' (c + 1) (32 - c - 1)).filter (fun d => d == c) = [] := List.filter_eq_nil_iff.2 fun d hd => by have := List.mem_range'_1.1 hd; simp; omega
  rw [z1, z2]; simp
theorem app_may : mayB sApp = true := by decide +kernel
theorem app_done {s : WS} (hS : s.S = []) (hQ : s.Q = upF (fun _ => none) 3 (some sApp)) : wDone s = sApp := by
  have h1 : ∀ i, wPart s i = if i = 3 then sApp else [] := fun i => by
    unfold wPart
    rw [hQ, hS]
    by_cases e : i = 3
    · subst e; rw [upF_same]; rfl
    · rw [upF_ne _ _ e, if_neg e]; rfl
  unfold wDone
  have : wPart s = fun i => if i = 3 then sApp else [] := funext h1
  rw [this]
  decide +kernel
theorem app_page : partB sApp 3 = sApp := by
  have : bkt pApp = 3 := bkt_app
  simp [sApp, partB, this]
theorem nil_may : mayB ([] : List PrR) = true ∧ ([] : List PrR).length ≤ 48 := by decide
end TL

namespace TL
open Go Go.Proofs
variable {h : PH} {K : Value → PH → Prop}
end TL

namespace TL
open Go Go.Proofs
variable {h : PH} {K : Value → PH → Prop} {p v : List UInt8} {lA : Option Addr} {lC : Nat} {l : List PrR} {b : Nat}

end TL

namespace TL
open Go Go.Proofs
variable {g h : PH} {N : List Nat} {K : Value → PH → Prop} {sb : Nat} {s : ShS} {v : VwR} {lA : Option Addr} {lC : Nat}

end TL

namespace TL
open Go Go.Proofs
variable {g h : PH} {N : List Nat} {K : Value → PH → Prop} {sb : Nat} {s : ShS} {v : VwR} {lA : Option Addr} {lC : Nat}

abbrev Z32 : List Int := List.replicate 32 0
section
variable {m0 m1 m2 m3 m4 m5 m7 m9 m10 ep : Int} {m6A m13A : Option Addr} {m6N m6C m13N m13C : Nat} {m8 m11 m12 : List Int}
end
end TL

namespace TL
open Go Go.Proofs
/- twinlock/twinlocklaw20.ShipCopies -/
/- twinlock/twinlocklaw22.StageOthers -/
/- twinlock/twinlocklaw22.StageNobody -/
/- twinlock/twinlocklaw22.StageAnew -/
/- twinlock/twinlocklaw22.StageKnown -/
set_option maxRecDepth 100000 in
def F_law22_StageKnown  (K : Value → PH → Prop) (h : PH) : Prop :=
  newH h (.cells #[.string (⟨#[97, 112, 112, 47, 97]⟩ : ByteArray), .string (⟨#[49]⟩ : ByteArray)] T_api_Pair (0, 0)) fun bv h1 =>
  CallH Tryz.prog id_tree_Of [.slice (some ⟨bv, 0, none⟩) 1 1] (fun v h2 =>
    ∃ t0 : Option Addr, ∃ t1 : Int, v = .tuple #[.pointer t0, .int .i64 t1] ∧
    ((((t1 != (0 : Int)) || (Option.isNone t0)) = true →
        K (.bool false) h2) ∧
      (((t1 != (0 : Int)) || (Option.isNone t0)) = false →
        CallH Tryz.prog id_law22_root [.pointer t0, .int .i64 (5 : Int), .int .i64 (1 : Int)] (fun v_1 h3 =>
          ∃ m0 : Int, ∃ m1 : Int, ∃ m2 : Int, ∃ m3 : Int, ∃ m4 : Int, ∃ m5 : Int, ∃ (m6A : Option Addr) (m6N m6C : Nat), ∃ m7 : Int, ∃ m8 : List Int, m8.length = 32 ∧ ∃ m9 : Int, ∃ m10 : Int, ∃ m11 : List Int, m11.length = 32 ∧ ∃ m12 : List Int, m12.length = 32 ∧ ∃ (m13A : Option Addr) (m13N m13C : Nat), v_1 = .agg ((.int .u8 m0 :: (.int .i64 m1 :: (.int .i64 m2 :: (.int .i64 m3 :: (.int .i64 m4 :: (.int .i64 m5 :: (.slice m6A m6N m6C :: (.int .i64 m7 :: (m8.map (Value.int .u8) ++ (.int .i64 m9 :: (.int .i64 m10 :: (m11.map (Value.int .u8) ++ (m12.map (Value.int .u8) ++ ([.slice m13A m13N m13C] : List Value))))))))))))))).toArray ∧
          CallH Tryz.prog id_stage_New [] (fun v_2 h4 =>
            ∃ sv : Option Addr, v_2 = .pointer sv ∧
            CallH Tryz.prog id_stage_Stage_Root [.pointer sv, .agg ((.int .u8 m0 :: (.int .i64 m1 :: (.int .i64 m2 :: (.int .i64 m3 :: (.int .i64 m4 :: (.int .i64 m5 :: (.slice m6A m6N m6C :: (.int .i64 m7 :: (m8.map (Value.int .u8) ++ (.int .i64 m9 :: (.int .i64 m10 :: (m11.map (Value.int .u8) ++ (m12.map (Value.int .u8) ++ ([.slice m13A m13N m13C] : List Value))))))))))))))).toArray, .slice none 0 0, .int .i64 (5 : Int)] (fun v_3 h5 =>
              ∃ a : Bool, v_3 = .bool a ∧
              CallH Tryz.prog id_stage_Stage_Root [.pointer sv, .agg ((.int .u8 m0 :: (.int .i64 m1 :: (.int .i64 m2 :: (.int .i64 m3 :: (.int .i64 m4 :: (.int .i64 m5 :: (.slice m6A m6N m6C :: (.int .i64 m7 :: (m8.map (Value.int .u8) ++ (.int .i64 m9 :: (.int .i64 m10 :: (m11.map (Value.int .u8) ++ (m12.map (Value.int .u8) ++ ([.slice m13A m13N m13C] : List Value))))))))))))))).toArray, .slice none 0 0, .int .i64 (4 : Int)] (fun v_4 h6 =>
                ∃ bv_1 : Bool, v_4 = .bool bv_1 ∧
                CallH Tryz.prog id_stage_Stage_Root [.pointer sv, .agg ((.int .u8 m0 :: (.int .i64 m1 :: (.int .i64 m2 :: (.int .i64 m3 :: (.int .i64 m4 :: (.int .i64 m5 :: (.slice m6A m6N m6C :: (.int .i64 m7 :: (m8.map (Value.int .u8) ++ (.int .i64 m9 :: (.int .i64 m10 :: (m11.map (Value.int .u8) ++ (m12.map (Value.int .u8) ++ ([.slice m13A m13N m13C] : List Value))))))))))))))).toArray, .slice none 0 0, .int .i64 (4 : Int)] (fun v_5 h7 =>
                  ∃ cv : Bool, v_5 = .bool cv ∧
                  CallH Tryz.prog id_stage_Stage_Asks [.pointer sv, .int .i64 (2 : Int)] (fun v_6 h8 =>
                    ∃ (asksA : Option Addr) (asksN asksC : Nat), v_6 = .slice asksA asksN asksC ∧
                    CallH Tryz.prog id_stage_Stage_Goal [.pointer sv] (fun v_7 h9 =>
                      ∃ t0_1 : Int, ∃ t1_1 : List Int, t1_1.length = 32 ∧ ∃ t2 : Bool, v_7 = .tuple #[.int .i64 t0_1, .agg ((t1_1.map (Value.int .u8) ++ [])).toArray, .bool t2] ∧
                      (((((asksN : Nat) : Int) != (1 : Int)) = true →
                          K (.bool false) h9) ∧
                        ((((asksN : Nat) : Int) != (1 : Int)) = false →
                          JoinP (T := Bool × Unit) (fun Jv =>
                            ∃ bv_2 ov : Nat, (((((!a) && bv_1) && (!cv)) = true → asksA = some ⟨bv_2, ov, none⟩ ∧ 0 ≤ (0 : Int) ∧ (0 : Int) < (asksN : Nat))) ∧
                            ∃ t : Int, (((((!a) && bv_1) && (!cv)) = true → h9.rds bv_2 (ov + (0 : Int).toNat * 107) 1 = some [.int .u8 t])) ∧
                            ∃ bv_3 ov_1 : Nat, ((((((!a) && bv_1) && (!cv)) && (t == (5 : Int))) = true → asksA = some ⟨bv_3, ov_1, none⟩ ∧ 0 ≤ (0 : Int) ∧ (0 : Int) < (asksN : Nat))) ∧
                            ∃ t_1 : Int, ((((((!a) && bv_1) && (!cv)) && (t == (5 : Int))) = true → h9.rds bv_3 ((ov_1 + (0 : Int).toNat * 107) + 1) 1 = some [.int .i64 t_1])) ∧
                            ∃ bv_4 ov_2 : Nat, (((((((!a) && bv_1) && (!cv)) && (t == (5 : Int))) && (t_1 == (2 : Int))) = true → asksA = some ⟨bv_4, ov_2, none⟩ ∧ 0 ≤ (0 : Int) ∧ (0 : Int) < (asksN : Nat))) ∧
                            ∃ t_2 : Int, (((((((!a) && bv_1) && (!cv)) && (t == (5 : Int))) && (t_1 == (2 : Int))) = true → h9.rds bv_4 ((ov_2 + (0 : Int).toNat * 107) + 2) 1 = some [.int .i64 t_2])) ∧
                            ∃ bv_5 ov_3 : Nat, ((((((((!a) && bv_1) && (!cv)) && (t == (5 : Int))) && (t_1 == (2 : Int))) && (t_2 == (5 : Int))) = true → asksA = some ⟨bv_5, ov_3, none⟩ ∧ 0 ≤ (0 : Int) ∧ (0 : Int) < (asksN : Nat))) ∧
                            ∃ t_3 : Int, ((((((((!a) && bv_1) && (!cv)) && (t == (5 : Int))) && (t_1 == (2 : Int))) && (t_2 == (5 : Int))) = true → h9.rds bv_5 ((ov_3 + (0 : Int).toNat * 107) + 40) 1 = some [.int .i64 t_3])) ∧
                            ∃ bv_6 ov_4 : Nat, (((((((((!a) && bv_1) && (!cv)) && (t == (5 : Int))) && (t_1 == (2 : Int))) && (t_2 == (5 : Int))) && (t_3 == (0 : Int))) = true → asksA = some ⟨bv_6, ov_4, none⟩ ∧ 0 ≤ (0 : Int) ∧ (0 : Int) < (asksN : Nat))) ∧
                            ∃ t_4 : Int, (((((((((!a) && bv_1) && (!cv)) && (t == (5 : Int))) && (t_1 == (2 : Int))) && (t_2 == (5 : Int))) && (t_3 == (0 : Int))) = true → h9.rds bv_6 ((ov_4 + (0 : Int).toNat * 107) + 41) 1 = some [.int .i64 t_4])) ∧
                            (((((((((((!a) && bv_1) && (!cv)) && (t == (5 : Int))) && (t_1 == (2 : Int))) && (t_2 == (5 : Int))) && (t_3 == (0 : Int))) && (t_4 == (0 : Int))) && (t0_1 == (5 : Int))) = true →
                                CallH Tryz.prog id_tree_Tree_Root [.pointer t0] (fun v_8 h11 =>
                                  ∃ t_5 : List Int, t_5.length = 32 ∧ v_8 = .agg ((t_5.map (Value.int .u8) ++ [])).toArray ∧
                                  Jv (((t1_1 == t_5) && t2), ()) h11) h9) ∧
                              ((((((((((!a) && bv_1) && (!cv)) && (t == (5 : Int))) && (t_1 == (2 : Int))) && (t_2 == (5 : Int))) && (t_3 == (0 : Int))) && (t_4 == (0 : Int))) && (t0_1 == (5 : Int))) = false →
                                Jv (false, ()) h9)))
                          (fun st h10 =>
                            ∃ bv_7 ov_5 : Nat, (asksA = some ⟨bv_7, ov_5, none⟩ ∧ 0 ≤ (0 : Int) ∧ (0 : Int) < (asksN : Nat)) ∧
                            ∃ t0_2 : Int, ∃ t1_2 : Int, ∃ t2_1 : Int, ∃ t3 : Int, ∃ t4 : Int, ∃ t5 : Int, ∃ (t6A : Option Addr) (t6N t6C : Nat), ∃ t7 : Int, ∃ t8 : List Int, t8.length = 32 ∧ ∃ t9 : Int, ∃ t10 : Int, ∃ t11 : List Int, t11.length = 32 ∧ ∃ t12 : List Int, t12.length = 32 ∧ ∃ (t13A : Option Addr) (t13N t13C : Nat), (h10.rds bv_7 (ov_5 + (0 : Int).toNat * 107) 107 = some (.int .u8 t0_2 :: (.int .i64 t1_2 :: (.int .i64 t2_1 :: (.int .i64 t3 :: (.int .i64 t4 :: (.int .i64 t5 :: (.slice t6A t6N t6C :: (.int .i64 t7 :: (t8.map (Value.int .u8) ++ (.int .i64 t9 :: (.int .i64 t10 :: (t11.map (Value.int .u8) ++ (t12.map (Value.int .u8) ++ ([.slice t13A t13N t13C] : List Value))))))))))))))) ∧
                            CallH Tryz.prog id_law22_Answer [.pointer t0, .agg ((.int .u8 t0_2 :: (.int .i64 t1_2 :: (.int .i64 t2_1 :: (.int .i64 t3 :: (.int .i64 t4 :: (.int .i64 t5 :: (.slice t6A t6N t6C :: (.int .i64 t7 :: (t8.map (Value.int .u8) ++ (.int .i64 t9 :: (.int .i64 t10 :: (t11.map (Value.int .u8) ++ (t12.map (Value.int .u8) ++ ([.slice t13A t13N t13C] : List Value))))))))))))))).toArray, .int .i64 (6 : Int)] (fun v_9 h12 =>
                              ∃ t0_3 : Int, ∃ t1_3 : Int, ∃ t2_2 : Int, ∃ t3_1 : Int, ∃ t4_1 : Int, ∃ t5_1 : Int, ∃ (t6A_1 : Option Addr) (t6N_1 t6C_1 : Nat), ∃ t7_1 : Int, ∃ t8_1 : List Int, t8_1.length = 32 ∧ ∃ t9_1 : Int, ∃ t10_1 : Int, ∃ t11_1 : List Int, t11_1.length = 32 ∧ ∃ t12_1 : List Int, t12_1.length = 32 ∧ ∃ (t13A_1 : Option Addr) (t13N_1 t13C_1 : Nat), v_9 = .agg ((.int .u8 t0_3 :: (.int .i64 t1_3 :: (.int .i64 t2_2 :: (.int .i64 t3_1 :: (.int .i64 t4_1 :: (.int .i64 t5_1 :: (.slice t6A_1 t6N_1 t6C_1 :: (.int .i64 t7_1 :: (t8_1.map (Value.int .u8) ++ (.int .i64 t9_1 :: (.int .i64 t10_1 :: (t11_1.map (Value.int .u8) ++ (t12_1.map (Value.int .u8) ++ ([.slice t13A_1 t13N_1 t13C_1] : List Value))))))))))))))).toArray ∧
                              CallH Tryz.prog id_stage_Stage_Answer [.pointer sv, .agg ((.int .u8 t0_3 :: (.int .i64 t1_3 :: (.int .i64 t2_2 :: (.int .i64 t3_1 :: (.int .i64 t4_1 :: (.int .i64 t5_1 :: (.slice t6A_1 t6N_1 t6C_1 :: (.int .i64 t7_1 :: (t8_1.map (Value.int .u8) ++ (.int .i64 t9_1 :: (.int .i64 t10_1 :: (t11_1.map (Value.int .u8) ++ (t12_1.map (Value.int .u8) ++ ([.slice t13A_1 t13N_1 t13C_1] : List Value))))))))))))))).toArray] (fun v_10 h13 =>
                                ∃ d : Bool, v_10 = .bool d ∧
                                ∃ bv_8 ov_6 : Nat, (asksA = some ⟨bv_8, ov_6, none⟩ ∧ 0 ≤ (0 : Int) ∧ (0 : Int) < (asksN : Nat)) ∧
                                ∃ t0_4 : Int, ∃ t1_4 : Int, ∃ t2_3 : Int, ∃ t3_2 : Int, ∃ t4_2 : Int, ∃ t5_2 : Int, ∃ (t6A_2 : Option Addr) (t6N_2 t6C_2 : Nat), ∃ t7_2 : Int, ∃ t8_2 : List Int, t8_2.length = 32 ∧ ∃ t9_2 : Int, ∃ t10_2 : Int, ∃ t11_2 : List Int, t11_2.length = 32 ∧ ∃ t12_2 : List Int, t12_2.length = 32 ∧ ∃ (t13A_2 : Option Addr) (t13N_2 t13C_2 : Nat), (h13.rds bv_8 (ov_6 + (0 : Int).toNat * 107) 107 = some (.int .u8 t0_4 :: (.int .i64 t1_4 :: (.int .i64 t2_3 :: (.int .i64 t3_2 :: (.int .i64 t4_2 :: (.int .i64 t5_2 :: (.slice t6A_2 t6N_2 t6C_2 :: (.int .i64 t7_2 :: (t8_2.map (Value.int .u8) ++ (.int .i64 t9_2 :: (.int .i64 t10_2 :: (t11_2.map (Value.int .u8) ++ (t12_2.map (Value.int .u8) ++ ([.slice t13A_2 t13N_2 t13C_2] : List Value))))))))))))))) ∧
                                CallH Tryz.prog id_law22_Answer [.pointer t0, .agg ((.int .u8 t0_4 :: (.int .i64 t1_4 :: (.int .i64 t2_3 :: (.int .i64 t3_2 :: (.int .i64 t4_2 :: (.int .i64 t5_2 :: (.slice t6A_2 t6N_2 t6C_2 :: (.int .i64 t7_2 :: (t8_2.map (Value.int .u8) ++ (.int .i64 t9_2 :: (.int .i64 t10_2 :: (t11_2.map (Value.int .u8) ++ (t12_2.map (Value.int .u8) ++ ([.slice t13A_2 t13N_2 t13C_2] : List Value))))))))))))))).toArray, .int .i64 (5 : Int)] (fun v_11 h14 =>
                                  ∃ t0_5 : Int, ∃ t1_5 : Int, ∃ t2_4 : Int, ∃ t3_3 : Int, ∃ t4_3 : Int, ∃ t5_3 : Int, ∃ (t6A_3 : Option Addr) (t6N_3 t6C_3 : Nat), ∃ t7_3 : Int, ∃ t8_3 : List Int, t8_3.length = 32 ∧ ∃ t9_3 : Int, ∃ t10_3 : Int, ∃ t11_3 : List Int, t11_3.length = 32 ∧ ∃ t12_3 : List Int, t12_3.length = 32 ∧ ∃ (t13A_3 : Option Addr) (t13N_3 t13C_3 : Nat), v_11 = .agg ((.int .u8 t0_5 :: (.int .i64 t1_5 :: (.int .i64 t2_4 :: (.int .i64 t3_3 :: (.int .i64 t4_3 :: (.int .i64 t5_3 :: (.slice t6A_3 t6N_3 t6C_3 :: (.int .i64 t7_3 :: (t8_3.map (Value.int .u8) ++ (.int .i64 t9_3 :: (.int .i64 t10_3 :: (t11_3.map (Value.int .u8) ++ (t12_3.map (Value.int .u8) ++ ([.slice t13A_3 t13N_3 t13C_3] : List Value))))))))))))))).toArray ∧
                                  CallH Tryz.prog id_stage_Stage_Answer [.pointer sv, .agg ((.int .u8 t0_5 :: (.int .i64 t1_5 :: (.int .i64 t2_4 :: (.int .i64 t3_3 :: (.int .i64 t4_3 :: (.int .i64 t5_3 :: (.slice t6A_3 t6N_3 t6C_3 :: (.int .i64 t7_3 :: (t8_3.map (Value.int .u8) ++ (.int .i64 t9_3 :: (.int .i64 t10_3 :: (t11_3.map (Value.int .u8) ++ (t12_3.map (Value.int .u8) ++ ([.slice t13A_3 t13N_3 t13C_3] : List Value))))))))))))))).toArray] (fun v_12 h15 =>
                                    ∃ f : Bool, v_12 = .bool f ∧
                                    CallH Tryz.prog id_stage_Stage_Done [.pointer sv] (fun v_13 h16 =>
                                      ∃ (t0A : Option Addr) (t0N t0C : Nat), ∃ t1_6 : Int, ∃ t2_5 : Int, ∃ t3_4 : Bool, v_13 = .tuple #[.slice t0A t0N t0C, .int .i64 t1_6, .int .i64 t2_5, .bool t3_4] ∧
                                      CallH Tryz.prog id_stage_Stage_Answer [.pointer sv, .agg ((.int .u8 (3 : Int) :: (.int .i64 (0 : Int) :: (.int .i64 (5 : Int) :: (.int .i64 (0 : Int) :: (.int .i64 (0 : Int) :: (.int .i64 (0 : Int) :: (.slice none 0 0 :: (.int .i64 (0 : Int) :: ((List.replicate 32 0).map (Value.int .u8) ++ (.int .i64 (0 : Int) :: (.int .i64 (0 : Int) :: ((List.replicate 32 0).map (Value.int .u8) ++ ((List.replicate 32 0).map (Value.int .u8) ++ ([.slice none 0 0] : List Value))))))))))))))).toArray] (fun v_14 h17 =>
                                        ∃ g : Bool, v_14 = .bool g ∧
                                        CallH Tryz.prog id_stage_Stage_Texts [.pointer sv] (fun v_15 h18 =>
                                          ∃ (tA : Option Addr) (tN tC : Nat), v_15 = .slice tA tN tC ∧
                                          CallH Tryz.prog id_stage_Stage_Forget [.pointer sv] (fun _ h19 =>
                                            JoinP (T := Bool × Unit) (fun Jv_1 =>
                                              CallH Tryz.prog id_stage_Stage_Asks [.pointer sv, .int .i64 (2 : Int)] (fun v_17 h21 =>
                                                ∃ (tA_1 : Option Addr) (tN_1 tC_1 : Nat), v_17 = .slice tA_1 tN_1 tC_1 ∧
                                                (((((tN_1 : Nat) : Int) == (0 : Int)) = true →
                                                    CallH Tryz.prog id_stage_Stage_Begun [.pointer sv] (fun v_18 h22 =>
                                                      ∃ t_6 : Int, v_18 = .int .i64 t_6 ∧
                                                      (((t_6 == (1 : Int)) = true →
                                                          CallH Tryz.prog id_stage_Stage_Texts [.pointer sv] (fun v_19 h23 =>
                                                            ∃ (tA_2 : Option Addr) (tN_2 tC_2 : Nat), v_19 = .slice tA_2 tN_2 tC_2 ∧
                                                            Jv_1 ((((tN_2 : Nat) : Int) == ((tN : Nat) : Int)), ()) h23) h22) ∧
                                                        ((t_6 == (1 : Int)) = false →
                                                          Jv_1 (false, ()) h22))) h21) ∧
                                                  ((((tN_1 : Nat) : Int) == (0 : Int)) = false →
                                                    Jv_1 (false, ()) h21))) h19)
                                            (fun st_1 h20 =>
                                              CallH Tryz.prog id_tree_New [] (fun v_20 h24 =>
                                                ∃ t_7 : Option Addr, v_20 = .pointer t_7 ∧
                                                CallH Tryz.prog id_law22_root [.pointer t_7, .int .i64 (9 : Int), .int .i64 (1 : Int)] (fun v_21 h25 =>
                                                  ∃ empty0 : Int, ∃ empty1 : Int, ∃ empty2 : Int, ∃ empty3 : Int, ∃ empty4 : Int, ∃ empty5 : Int, ∃ (empty6A : Option Addr) (empty6N empty6C : Nat), ∃ empty7 : Int, ∃ empty8 : List Int, empty8.length = 32 ∧ ∃ empty9 : Int, ∃ empty10 : Int, ∃ empty11 : List Int, empty11.length = 32 ∧ ∃ empty12 : List Int, empty12.length = 32 ∧ ∃ (empty13A : Option Addr) (empty13N empty13C : Nat), v_21 = .agg ((.int .u8 empty0 :: (.int .i64 empty1 :: (.int .i64 empty2 :: (.int .i64 empty3 :: (.int .i64 empty4 :: (.int .i64 empty5 :: (.slice empty6A empty6N empty6C :: (.int .i64 empty7 :: (empty8.map (Value.int .u8) ++ (.int .i64 empty9 :: (.int .i64 empty10 :: (empty11.map (Value.int .u8) ++ (empty12.map (Value.int .u8) ++ ([.slice empty13A empty13N empty13C] : List Value))))))))))))))).toArray ∧
                                                  CallH Tryz.prog id_stage_Stage_Root [.pointer sv, .agg ((.int .u8 empty0 :: (.int .i64 empty1 :: (.int .i64 empty2 :: (.int .i64 empty3 :: (.int .i64 empty4 :: (.int .i64 empty5 :: (.slice empty6A empty6N empty6C :: (.int .i64 empty7 :: (empty8.map (Value.int .u8) ++ (.int .i64 empty9 :: (.int .i64 empty10 :: (empty11.map (Value.int .u8) ++ (empty12.map (Value.int .u8) ++ ([.slice empty13A empty13N empty13C] : List Value))))))))))))))).toArray, .slice none 0 0, .int .i64 (4 : Int)] (fun v_22 h26 =>
                                                    ∃ hv : Bool, v_22 = .bool hv ∧
                                                    CallH Tryz.prog id_stage_Stage_Done [.pointer sv] (fun v_23 h27 =>
                                                      ∃ (t0A_1 : Option Addr) (t0N_1 t0C_1 : Nat), ∃ t1_7 : Int, ∃ t2_6 : Int, ∃ t3_5 : Bool, v_23 = .tuple #[.slice t0A_1 t0N_1 t0C_1, .int .i64 t1_7, .int .i64 t2_6, .bool t3_5] ∧
                                                      JoinP (T := Bool × Unit) (fun Jv_2 =>
                                                        CallH Tryz.prog id_stage_Stage_Root [.pointer sv, .agg ((.int .u8 (1 : Int) :: (.int .i64 (0 : Int) :: (.int .i64 (10 : Int) :: (.int .i64 (1 : Int) :: (.int .i64 (0 : Int) :: (.int .i64 (0 : Int) :: (.slice none 0 0 :: (.int .i64 (0 : Int) :: ((List.replicate 32 0).map (Value.int .u8) ++ (.int .i64 (0 : Int) :: (.int .i64 (0 : Int) :: ((List.replicate 32 0).map (Value.int .u8) ++ ((List.replicate 32 0).map (Value.int .u8) ++ ([.slice none 0 0] : List Value))))))))))))))).toArray, .slice none 0 0, .int .i64 (4 : Int)] (fun v_24 h29 =>
                                                          ∃ t_8 : Bool, v_24 = .bool t_8 ∧
                                                          ((t_8 = false →
                                                              CallH Tryz.prog id_law22_root [.pointer t0, .int .i64 (10 : Int), .int .i64 (0 : Int)] (fun v_25 h30 =>
                                                                ∃ t0_6 : Int, ∃ t1_8 : Int, ∃ t2_7 : Int, ∃ t3_6 : Int, ∃ t4_4 : Int, ∃ t5_4 : Int, ∃ (t6A_4 : Option Addr) (t6N_4 t6C_4 : Nat), ∃ t7_4 : Int, ∃ t8_4 : List Int, t8_4.length = 32 ∧ ∃ t9_4 : Int, ∃ t10_4 : Int, ∃ t11_4 : List Int, t11_4.length = 32 ∧ ∃ t12_4 : List Int, t12_4.length = 32 ∧ ∃ (t13A_4 : Option Addr) (t13N_4 t13C_4 : Nat), v_25 = .agg ((.int .u8 t0_6 :: (.int .i64 t1_8 :: (.int .i64 t2_7 :: (.int .i64 t3_6 :: (.int .i64 t4_4 :: (.int .i64 t5_4 :: (.slice t6A_4 t6N_4 t6C_4 :: (.int .i64 t7_4 :: (t8_4.map (Value.int .u8) ++ (.int .i64 t9_4 :: (.int .i64 t10_4 :: (t11_4.map (Value.int .u8) ++ (t12_4.map (Value.int .u8) ++ ([.slice t13A_4 t13N_4 t13C_4] : List Value))))))))))))))).toArray ∧
                                                                CallH Tryz.prog id_stage_Stage_Root [.pointer sv, .agg ((.int .u8 t0_6 :: (.int .i64 t1_8 :: (.int .i64 t2_7 :: (.int .i64 t3_6 :: (.int .i64 t4_4 :: (.int .i64 t5_4 :: (.slice t6A_4 t6N_4 t6C_4 :: (.int .i64 t7_4 :: (t8_4.map (Value.int .u8) ++ (.int .i64 t9_4 :: (.int .i64 t10_4 :: (t11_4.map (Value.int .u8) ++ (t12_4.map (Value.int .u8) ++ ([.slice t13A_4 t13N_4 t13C_4] : List Value))))))))))))))).toArray, .slice none 0 0, .int .i64 (4 : Int)] (fun v_26 h31 =>
                                                                  ∃ t_9 : Bool, v_26 = .bool t_9 ∧
                                                                  ((t_9 = false →
                                                                      newH h31 (.cells #[.string (⟨#[97, 112, 112]⟩ : ByteArray), .string (⟨#[]⟩ : ByteArray)] T_api_Pair (0, 0)) fun bv_9 h32 =>
                                                                      CallH Tryz.prog id_stage_Stage_Root [.pointer sv, .agg ((.int .u8 m0 :: (.int .i64 m1 :: (.int .i64 m2 :: (.int .i64 m3 :: (.int .i64 m4 :: (.int .i64 m5 :: (.slice m6A m6N m6C :: (.int .i64 m7 :: (m8.map (Value.int .u8) ++ (.int .i64 m9 :: (.int .i64 m10 :: (m11.map (Value.int .u8) ++ (m12.map (Value.int .u8) ++ ([.slice m13A m13N m13C] : List Value))))))))))))))).toArray, .slice (some ⟨bv_9, 0, none⟩) 1 1, .int .i64 (4 : Int)] (fun v_27 h33 =>
                                                                        ∃ t_10 : Bool, v_27 = .bool t_10 ∧
                                                                        Jv_2 (t_10, ()) h33) h32) ∧
                                                                    (t_9 = true →
                                                                      Jv_2 (true, ()) h31))) h30) h29) ∧
                                                            (t_8 = true →
                                                              Jv_2 (true, ()) h29))) h27)
                                                      (fun st_2 h28 =>
                                                        ((((((((((((((st.1 && (!d)) && f) && (!t3_4)) && (!g)) && (((tN : Nat) : Int) == (32 : Int))) && st_1.1) && hv) && t3_5) && (((t0N_1 : Nat) : Int) == (0 : Int))) && (t1_7 == (9 : Int))) && (t2_6 == (1 : Int))) && (!st_2.1)) = true →
                                                            CallH Tryz.prog id_stage_Stage_Begun [.pointer sv] (fun v_28 h34 =>
                                                              ∃ t_11 : Int, v_28 = .int .i64 t_11 ∧
                                                              (((t_11 == (2 : Int)) = true →
                                                                  CallH Tryz.prog id_law22_wakes [] (fun v_29 h35 =>
                                                                    ∃ t_12 : Bool, v_29 = .bool t_12 ∧
                                                                    K (.bool t_12) h35) h34) ∧
                                                                ((t_11 == (2 : Int)) = false →
                                                                  K (.bool false) h34))) h28) ∧
                                                          (((((((((((((st.1 && (!d)) && f) && (!t3_4)) && (!g)) && (((tN : Nat) : Int) == (32 : Int))) && st_1.1) && hv) && t3_5) && (((t0N_1 : Nat) : Int) == (0 : Int))) && (t1_7 == (9 : Int))) && (t2_6 == (1 : Int))) && (!st_2.1)) = false →
                                                            K (.bool false) h28)))) h26) h25) h24) h20)) h18) h17) h16) h15) h14) h13) h12) h10)))) h8) h7) h6) h5) h4) h3) h2))) h1
set_option maxRecDepth 100000 in
theorem F_law22_StageKnown_eq  {K : Value → PH → Prop} {h : PH} : @Eq Prop (F_law22_StageKnown  K h) (denF Tryz.prog Tryz.f15 ⟨[3, 10, 22], [], [], [(30, ⟨[(12, .bool)], [], []⟩), (44, ⟨[(21, .bool)], [], []⟩), (52, ⟨[(28, .bool)], [], []⟩)]⟩ [] K h) := by
  kernel_rfl
theorem F_law22_StageKnown_ok   {K : Value → PH → Prop} {h : PH} (hh : F_law22_StageKnown  K h) : CallH Tryz.prog id_law22_StageKnown [] K h :=
  denF_sound' Tryz.func15 (H := ⟨[3, 10, 22], [], [], [(30, ⟨[(12, .bool)], [], []⟩), (44, ⟨[(21, .bool)], [], []⟩), (52, ⟨[(28, .bool)], [], []⟩)]⟩) (xs := []) (by kernel_rfl) (trivial) (den_of F_law22_StageKnown_eq hh)

/- twinlock/twinlocklaw22.StagePlays -/
/- twinlock/twinlocklaw22.StageShips -/
/- twinlock/twinlocklaw20.wakes -/
/- twinlock/twinlocklaw22.Great -/
/- twinlock/twinlocklaw22.wakes -/
def F_law22_wakes  (K : Value → PH → Prop) (h : PH) : Prop :=
  newH h (.cells #[.string (⟨#[97, 112, 112, 47, 97]⟩ : ByteArray), .string (⟨#[49]⟩ : ByteArray)] T_api_Pair (0, 0)) fun bv h1 =>
  CallH Tryz.prog id_tree_Of [.slice (some ⟨bv, 0, none⟩) 1 1] (fun v h2 =>
    ∃ t0 : Option Addr, ∃ t1 : Int, v = .tuple #[.pointer t0, .int .i64 t1] ∧
    (((t1 != (0 : Int)) = true →
        K (.bool false) h2) ∧
      ((t1 != (0 : Int)) = false →
        CallH Tryz.prog id_stage_New [] (fun v_1 h3 =>
          ∃ sv : Option Addr, v_1 = .pointer sv ∧
          CallH Tryz.prog id_law22_root [.pointer t0, .int .i64 (5 : Int), .int .i64 (1 : Int)] (fun v_2 h4 =>
            ∃ t0_1 : Int, ∃ t1_1 : Int, ∃ t2 : Int, ∃ t3 : Int, ∃ t4 : Int, ∃ t5 : Int, ∃ (t6A : Option Addr) (t6N t6C : Nat), ∃ t7 : Int, ∃ t8 : List Int, t8.length = 32 ∧ ∃ t9 : Int, ∃ t10 : Int, ∃ t11 : List Int, t11.length = 32 ∧ ∃ t12 : List Int, t12.length = 32 ∧ ∃ (t13A : Option Addr) (t13N t13C : Nat), v_2 = .agg ((.int .u8 t0_1 :: (.int .i64 t1_1 :: (.int .i64 t2 :: (.int .i64 t3 :: (.int .i64 t4 :: (.int .i64 t5 :: (.slice t6A t6N t6C :: (.int .i64 t7 :: (t8.map (Value.int .u8) ++ (.int .i64 t9 :: (.int .i64 t10 :: (t11.map (Value.int .u8) ++ (t12.map (Value.int .u8) ++ ([.slice t13A t13N t13C] : List Value))))))))))))))).toArray ∧
            CallH Tryz.prog id_stage_Stage_Root [.pointer sv, .agg ((.int .u8 t0_1 :: (.int .i64 t1_1 :: (.int .i64 t2 :: (.int .i64 t3 :: (.int .i64 t4 :: (.int .i64 t5 :: (.slice t6A t6N t6C :: (.int .i64 t7 :: (t8.map (Value.int .u8) ++ (.int .i64 t9 :: (.int .i64 t10 :: (t11.map (Value.int .u8) ++ (t12.map (Value.int .u8) ++ ([.slice t13A t13N t13C] : List Value))))))))))))))).toArray, .slice none 0 0, .int .i64 (5 : Int)] (fun v_3 h5 =>
              ∃ a : Bool, v_3 = .bool a ∧
              CallH Tryz.prog id_law22_root [.pointer t0, .int .i64 (5 : Int), .int .i64 (1 : Int)] (fun v_4 h6 =>
                ∃ t0_2 : Int, ∃ t1_2 : Int, ∃ t2_1 : Int, ∃ t3_1 : Int, ∃ t4_1 : Int, ∃ t5_1 : Int, ∃ (t6A_1 : Option Addr) (t6N_1 t6C_1 : Nat), ∃ t7_1 : Int, ∃ t8_1 : List Int, t8_1.length = 32 ∧ ∃ t9_1 : Int, ∃ t10_1 : Int, ∃ t11_1 : List Int, t11_1.length = 32 ∧ ∃ t12_1 : List Int, t12_1.length = 32 ∧ ∃ (t13A_1 : Option Addr) (t13N_1 t13C_1 : Nat), v_4 = .agg ((.int .u8 t0_2 :: (.int .i64 t1_2 :: (.int .i64 t2_1 :: (.int .i64 t3_1 :: (.int .i64 t4_1 :: (.int .i64 t5_1 :: (.slice t6A_1 t6N_1 t6C_1 :: (.int .i64 t7_1 :: (t8_1.map (Value.int .u8) ++ (.int .i64 t9_1 :: (.int .i64 t10_1 :: (t11_1.map (Value.int .u8) ++ (t12_1.map (Value.int .u8) ++ ([.slice t13A_1 t13N_1 t13C_1] : List Value))))))))))))))).toArray ∧
                CallH Tryz.prog id_stage_Stage_Root [.pointer sv, .agg ((.int .u8 t0_2 :: (.int .i64 t1_2 :: (.int .i64 t2_1 :: (.int .i64 t3_1 :: (.int .i64 t4_1 :: (.int .i64 t5_1 :: (.slice t6A_1 t6N_1 t6C_1 :: (.int .i64 t7_1 :: (t8_1.map (Value.int .u8) ++ (.int .i64 t9_1 :: (.int .i64 t10_1 :: (t11_1.map (Value.int .u8) ++ (t12_1.map (Value.int .u8) ++ ([.slice t13A_1 t13N_1 t13C_1] : List Value))))))))))))))).toArray, .slice none 0 0, .int .i64 (4 : Int)] (fun v_5 h7 =>
                  ∃ bv_1 : Bool, v_5 = .bool bv_1 ∧
                  JoinP (T := Unit) (fun Jv =>
                    LoopP (T := Int × Unit) (fun Jv_1 st_1 h9 =>
                      (((decide (st_1.1 < (9 : Int))) = true →
                          CallH Tryz.prog id_stage_Stage_Asks [.pointer sv, .int .i64 (2 : Int)] (fun v_6 h10 =>
                            ∃ (lA : Option Addr) (lN lC : Nat), v_6 = .slice lA lN lC ∧
                            (((((lN : Nat) : Int) == (0 : Int)) = true →
                                Jv (()) h10) ∧
                              ((((lN : Nat) : Int) == (0 : Int)) = false →
                                ∃ bv_2 ov : Nat, (lA = some ⟨bv_2, ov, none⟩ ∧ 0 ≤ (0 : Int) ∧ (0 : Int) < (lN : Nat)) ∧
                                ∃ t0_3 : Int, ∃ t1_3 : Int, ∃ t2_2 : Int, ∃ t3_2 : Int, ∃ t4_2 : Int, ∃ t5_2 : Int, ∃ (t6A_2 : Option Addr) (t6N_2 t6C_2 : Nat), ∃ t7_2 : Int, ∃ t8_2 : List Int, t8_2.length = 32 ∧ ∃ t9_2 : Int, ∃ t10_2 : Int, ∃ t11_2 : List Int, t11_2.length = 32 ∧ ∃ t12_2 : List Int, t12_2.length = 32 ∧ ∃ (t13A_2 : Option Addr) (t13N_2 t13C_2 : Nat), (h10.rds bv_2 (ov + (0 : Int).toNat * 107) 107 = some (.int .u8 t0_3 :: (.int .i64 t1_3 :: (.int .i64 t2_2 :: (.int .i64 t3_2 :: (.int .i64 t4_2 :: (.int .i64 t5_2 :: (.slice t6A_2 t6N_2 t6C_2 :: (.int .i64 t7_2 :: (t8_2.map (Value.int .u8) ++ (.int .i64 t9_2 :: (.int .i64 t10_2 :: (t11_2.map (Value.int .u8) ++ (t12_2.map (Value.int .u8) ++ ([.slice t13A_2 t13N_2 t13C_2] : List Value))))))))))))))) ∧
                                CallH Tryz.prog id_law22_Answer [.pointer t0, .agg ((.int .u8 t0_3 :: (.int .i64 t1_3 :: (.int .i64 t2_2 :: (.int .i64 t3_2 :: (.int .i64 t4_2 :: (.int .i64 t5_2 :: (.slice t6A_2 t6N_2 t6C_2 :: (.int .i64 t7_2 :: (t8_2.map (Value.int .u8) ++ (.int .i64 t9_2 :: (.int .i64 t10_2 :: (t11_2.map (Value.int .u8) ++ (t12_2.map (Value.int .u8) ++ ([.slice t13A_2 t13N_2 t13C_2] : List Value))))))))))))))).toArray, .int .i64 (5 : Int)] (fun v_7 h11 =>
                                  ∃ t0_4 : Int, ∃ t1_4 : Int, ∃ t2_3 : Int, ∃ t3_3 : Int, ∃ t4_3 : Int, ∃ t5_3 : Int, ∃ (t6A_3 : Option Addr) (t6N_3 t6C_3 : Nat), ∃ t7_3 : Int, ∃ t8_3 : List Int, t8_3.length = 32 ∧ ∃ t9_3 : Int, ∃ t10_3 : Int, ∃ t11_3 : List Int, t11_3.length = 32 ∧ ∃ t12_3 : List Int, t12_3.length = 32 ∧ ∃ (t13A_3 : Option Addr) (t13N_3 t13C_3 : Nat), v_7 = .agg ((.int .u8 t0_4 :: (.int .i64 t1_4 :: (.int .i64 t2_3 :: (.int .i64 t3_3 :: (.int .i64 t4_3 :: (.int .i64 t5_3 :: (.slice t6A_3 t6N_3 t6C_3 :: (.int .i64 t7_3 :: (t8_3.map (Value.int .u8) ++ (.int .i64 t9_3 :: (.int .i64 t10_3 :: (t11_3.map (Value.int .u8) ++ (t12_3.map (Value.int .u8) ++ ([.slice t13A_3 t13N_3 t13C_3] : List Value))))))))))))))).toArray ∧
                                  CallH Tryz.prog id_stage_Stage_Answer [.pointer sv, .agg ((.int .u8 t0_4 :: (.int .i64 t1_4 :: (.int .i64 t2_3 :: (.int .i64 t3_3 :: (.int .i64 t4_3 :: (.int .i64 t5_3 :: (.slice t6A_3 t6N_3 t6C_3 :: (.int .i64 t7_3 :: (t8_3.map (Value.int .u8) ++ (.int .i64 t9_3 :: (.int .i64 t10_3 :: (t11_3.map (Value.int .u8) ++ (t12_3.map (Value.int .u8) ++ ([.slice t13A_3 t13N_3 t13C_3] : List Value))))))))))))))).toArray] (fun v_8 h12 =>
                                    ∃ t : Bool, v_8 = .bool t ∧
                                    Jv_1 ((IntKind.wrap .i64 (st_1.1 + (1 : Int))), ()) h12) h11) h10))) h9) ∧
                        ((decide (st_1.1 < (9 : Int))) = false →
                          Jv (()) h9))) ((0 : Int), ()) h7)
                  (fun _ h8 =>
                    CallH Tryz.prog id_stage_Stage_Done [.pointer sv] (fun v_9 h13 =>
                      ∃ (t0A : Option Addr) (t0N t0C : Nat), ∃ t1_5 : Int, ∃ t2_4 : Int, ∃ t3_4 : Bool, v_9 = .tuple #[.slice t0A t0N t0C, .int .i64 t1_5, .int .i64 t2_4, .bool t3_4] ∧
                      ∃ bv_3 ov_1 : Nat, ((((((!a) && bv_1) && t3_4) && (((t0N : Nat) : Int) == (1 : Int))) = true → t0A = some ⟨bv_3, ov_1, none⟩ ∧ 0 ≤ (0 : Int) ∧ (0 : Int) < (t0N : Nat))) ∧
                      ∃ t_1 : ByteArray, ((((((!a) && bv_1) && t3_4) && (((t0N : Nat) : Int) == (1 : Int))) = true → h13.rds bv_3 ((ov_1 + (0 : Int).toNat * 2) + 1) 1 = some [.string t_1])) ∧
                      (((((((((!a) && bv_1) && t3_4) && (((t0N : Nat) : Int) == (1 : Int))) && (strEq t_1 (⟨#[49]⟩ : ByteArray))) && (t1_5 == (5 : Int))) && (t2_4 == (1 : Int))) = true →
                          CallH Tryz.prog id_stage_Stage_Begun [.pointer sv] (fun v_10 h14 =>
                            ∃ t_2 : Int, v_10 = .int .i64 t_2 ∧
                            K (.bool (t_2 == (1 : Int))) h14) h13) ∧
                        ((((((((!a) && bv_1) && t3_4) && (((t0N : Nat) : Int) == (1 : Int))) && (strEq t_1 (⟨#[49]⟩ : ByteArray))) && (t1_5 == (5 : Int))) && (t2_4 == (1 : Int))) = false →
                          K (.bool false) h13))) h8)) h6) h5) h4) h3) h2))) h1
theorem F_law22_wakes_eq  {K : Value → PH → Prop} {h : PH} : @Eq Prop (F_law22_wakes  K h) (denF Tryz.prog Tryz.f66 ⟨[], [], [(0, ⟨[(6, .int .i64)], [], []⟩)], [(28, ⟨[], [], []⟩)]⟩ [] K h) := by
  kernel_rfl
theorem F_law22_wakes_ok   {K : Value → PH → Prop} {h : PH} (hh : F_law22_wakes  K h) : CallH Tryz.prog id_law22_wakes [] K h :=
  denF_sound' Tryz.func66 (H := ⟨[], [], [(0, ⟨[(6, .int .i64)], [], []⟩)], [(28, ⟨[], [], []⟩)]⟩) (xs := []) (by kernel_rfl) (trivial) (den_of F_law22_wakes_eq hh)

/- twinlock/twinlocklaw22.trees -/
/- twinlock/twinlocklaw22.root -/
def F_law22_root (t : Option Addr) (atv : Int) (epoch : Int) (K : Value → PH → Prop) (h : PH) : Prop :=
  CallH Tryz.prog id_tree_Tree_Root [.pointer t] (fun v h1 =>
    ∃ t_1 : List Int, t_1.length = 32 ∧ v = .agg ((t_1.map (Value.int .u8) ++ [])).toArray ∧
    K (.agg ((.int .u8 (4 : Int) :: (.int .i64 (2 : Int) :: (.int .i64 atv :: (.int .i64 epoch :: (.int .i64 (0 : Int) :: (.int .i64 (0 : Int) :: (.slice none 0 0 :: (.int .i64 (0 : Int) :: (t_1.map (Value.int .u8) ++ (.int .i64 (0 : Int) :: (.int .i64 (0 : Int) :: ((List.replicate 32 0).map (Value.int .u8) ++ ((List.replicate 32 0).map (Value.int .u8) ++ ([.slice none 0 0] : List Value))))))))))))))).toArray) h1) h
theorem F_law22_root_eq {t : Option Addr} {atv : Int} {epoch : Int} {K : Value → PH → Prop} {h : PH} : @Eq Prop (F_law22_root t atv epoch K h) (denF Tryz.prog Tryz.f70 ⟨[6], [], [], []⟩ [.v (.pointer t), .v (.int .i64 atv), .v (.int .i64 epoch)] K h) := by
  kernel_rfl
theorem F_law22_root_ok {t : Option Addr} {atv : Int} {epoch : Int}  {K : Value → PH → Prop} {h : PH} (hh : F_law22_root t atv epoch K h) : CallH Tryz.prog id_law22_root [.pointer t, .int .i64 atv, .int .i64 epoch] K h :=
  denF_sound' Tryz.func70 (H := ⟨[6], [], [], []⟩) (xs := [.v (.pointer t), .v (.int .i64 atv), .v (.int .i64 epoch)]) (by kernel_rfl) (⟨rfl, rfl, rfl, trivial⟩) (den_of F_law22_root_eq hh)

/- twinlock/twinlocklaw22.turn -/
/- twinlock/twinlocklaw22.Answer -/
def F_law22_Answer (t : Option Addr) (_ : Int) (ask1 : Int) (_ : Int) (_ : Int) (_ : Int) (_ : Int) (_ : Option Addr) (_ _ : Nat) (_ : Int) (_ : List Int) (ask9 : Int) (ask10 : Int) (_ : List Int) (_ : List Int) (_ : Option Addr) (_ _ : Nat) (atv : Int) (K : Value → PH → Prop) (h : PH) : Prop :=
  (((ask9 == (4 : Int)) = true →
      CallH Tryz.prog id_tree_Tree_Pairs [.pointer t, .int .i64 ask10] (fun v h1 =>
        ∃ (tA : Option Addr) (tN tC : Nat), v = .slice tA tN tC ∧
        K (.agg ((.int .u8 (7 : Int) :: (.int .i64 ask1 :: (.int .i64 atv :: (.int .i64 (0 : Int) :: (.int .i64 (0 : Int) :: (.int .i64 (0 : Int) :: (.slice none 0 0 :: (.int .i64 (0 : Int) :: ((List.replicate 32 0).map (Value.int .u8) ++ (.int .i64 (0 : Int) :: (.int .i64 ask10 :: ((List.replicate 32 0).map (Value.int .u8) ++ ((List.replicate 32 0).map (Value.int .u8) ++ ([.slice tA tN tC] : List Value))))))))))))))).toArray) h1) h) ∧
    ((ask9 == (4 : Int)) = false →
      CallH Tryz.prog id_tree_Tree_Node [.pointer t, .int .i64 (IntKind.wrap .i64 (ask9 + (1 : Int))), .int .i64 (IntKind.wrap .i64 ((2 : Int) * ask10))] (fun v_1 h2 =>
        ∃ t0 : List Int, t0.length = 32 ∧ ∃ t1 : Bool, v_1 = .tuple #[.agg ((t0.map (Value.int .u8) ++ [])).toArray, .bool t1] ∧
        CallH Tryz.prog id_tree_Tree_Node [.pointer t, .int .i64 (IntKind.wrap .i64 (ask9 + (1 : Int))), .int .i64 (IntKind.wrap .i64 ((IntKind.wrap .i64 ((2 : Int) * ask10)) + (1 : Int)))] (fun v_2 h3 =>
          ∃ t0_1 : List Int, t0_1.length = 32 ∧ ∃ t1_1 : Bool, v_2 = .tuple #[.agg ((t0_1.map (Value.int .u8) ++ [])).toArray, .bool t1_1] ∧
          K (.agg ((.int .u8 (6 : Int) :: (.int .i64 ask1 :: (.int .i64 atv :: (.int .i64 (0 : Int) :: (.int .i64 (0 : Int) :: (.int .i64 (0 : Int) :: (.slice none 0 0 :: (.int .i64 (0 : Int) :: ((List.replicate 32 0).map (Value.int .u8) ++ (.int .i64 ask9 :: (.int .i64 ask10 :: (t0.map (Value.int .u8) ++ (t0_1.map (Value.int .u8) ++ ([.slice none 0 0] : List Value))))))))))))))).toArray) h3) h2) h))
theorem F_law22_Answer_eq {t : Option Addr} {ask0 : Int} {ask1 : Int} {ask2 : Int} {ask3 : Int} {ask4 : Int} {ask5 : Int} {ask6A : Option Addr} {ask6N ask6C : Nat} {ask7 : Int} {ask8 : List Int} {ask9 : Int} {ask10 : Int} {ask11 : List Int} {ask12 : List Int} {ask13A : Option Addr} {ask13N ask13C : Nat} {atv : Int} {K : Value → PH → Prop} {h : PH} : @Eq Prop (F_law22_Answer t ask0 ask1 ask2 ask3 ask4 ask5 ask6A ask6N ask6C ask7 ask8 ask9 ask10 ask11 ask12 ask13A ask13N ask13C atv K h) (denF Tryz.prog Tryz.f74 ⟨[4, 6, 7, 9], [], [], []⟩ [.v (.pointer t), .agg [.one (.int .u8 ask0), .one (.int .i64 ask1), .one (.int .i64 ask2), .one (.int .i64 ask3), .one (.int .i64 ask4), .one (.int .i64 ask5), .one (.slice ask6A ask6N ask6C), .one (.int .i64 ask7), .ints .u8 32 ask8, .one (.int .i64 ask9), .one (.int .i64 ask10), .ints .u8 32 ask11, .ints .u8 32 ask12, .one (.slice ask13A ask13N ask13C)], .v (.int .i64 atv)] K h) := by
  kernel_rfl
theorem F_law22_Answer_ok {t : Option Addr} {ask0 : Int} {ask1 : Int} {ask2 : Int} {ask3 : Int} {ask4 : Int} {ask5 : Int} {ask6A : Option Addr} {ask6N ask6C : Nat} {ask7 : Int} {ask8 : List Int} {ask9 : Int} {ask10 : Int} {ask11 : List Int} {ask12 : List Int} {ask13A : Option Addr} {ask13N ask13C : Nat} {atv : Int} (hk0 : ask8.length = 32) (hk1 : ask11.length = 32) (hk2 : ask12.length = 32) {K : Value → PH → Prop} {h : PH} (hh : F_law22_Answer t ask0 ask1 ask2 ask3 ask4 ask5 ask6A ask6N ask6C ask7 ask8 ask9 ask10 ask11 ask12 ask13A ask13N ask13C atv K h) : CallH Tryz.prog id_law22_Answer [.pointer t, .agg ((.int .u8 ask0 :: (.int .i64 ask1 :: (.int .i64 ask2 :: (.int .i64 ask3 :: (.int .i64 ask4 :: (.int .i64 ask5 :: (.slice ask6A ask6N ask6C :: (.int .i64 ask7 :: (ask8.map (Value.int .u8) ++ (.int .i64 ask9 :: (.int .i64 ask10 :: (ask11.map (Value.int .u8) ++ (ask12.map (Value.int .u8) ++ ([.slice ask13A ask13N ask13C] : List Value))))))))))))))).toArray, .int .i64 atv] K h :=
  denF_sound' Tryz.func74 (H := ⟨[4, 6, 7, 9], [], [], []⟩) (xs := [.v (.pointer t), .agg [.one (.int .u8 ask0), .one (.int .i64 ask1), .one (.int .i64 ask2), .one (.int .i64 ask3), .one (.int .i64 ask4), .one (.int .i64 ask5), .one (.slice ask6A ask6N ask6C), .one (.int .i64 ask7), .ints .u8 32 ask8, .one (.int .i64 ask9), .one (.int .i64 ask10), .ints .u8 32 ask11, .ints .u8 32 ask12, .one (.slice ask13A ask13N ask13C)], .v (.int .i64 atv)]) (by kernel_rfl) (⟨rfl, ⟨rfl, rfl, rfl, rfl, rfl, rfl, rfl, rfl, hk0, rfl, rfl, hk1, hk2, rfl, trivial⟩, rfl, trivial⟩) (den_of F_law22_Answer_eq hh)

/- twinlock/twinlocklaw22.collides -/
/- twinlock/twinlocklaw20.three -/
end TL

namespace TL
open Go Go.Proofs
variable {g h : PH} {N : List Nat} {K : Value → PH → Prop} {sb : Nat} {s : ShS} {v : VwR} {lA : Option Addr} {lC : Nat}

/-- messages that stay -/
structure MsgsIn (h : PH) (a : Option Addr) (L : List MsgF) : Prop where
  sr : SR EncMsg h a L
  ops : ∀ f ∈ L, SR EncOp h f.oA f.m.ops ∧ f.m.ops.length ≤ 1000
  prs : ∀ f ∈ L, SR EncPr h f.pA f.m.prs ∧ f.m.prs.length ≤ 1000
theorem MsgsIn.sub {g : PH} {a : Option Addr} {L : List MsgF} (x : MsgsIn h a L) (hs : h.Sub g) : MsgsIn g a L := ⟨x.sr.sub hs, fun f hf => ⟨(x.ops f hf).1.sub hs, (x.ops f hf).2⟩, fun f hf => ⟨(x.prs f hf).1.sub hs, (x.prs f hf).2⟩⟩
/-- a field of a message -/
theorem MsgsIn.rd {a : Option Addr} {L : List MsgF} (x : MsgsIn h a L) {i : Nat} (hi : i < L.length) : ∃ b o, a = some ⟨b, o, none⟩ ∧ ∀ f m vs, f + m ≤ 107 → ((encMsg L[i]).drop f).take m = vs → ∀ o', o' = o + i * 107 + f → h.rds b o' m = some vs := by
  obtain ⟨b, o, hA, hr⟩ := x.sr.get hi
  exact ⟨b, o, hA, fun f m vs hf hv o' ho => by rw [hr o' f m ho hf]; exact congrArg some hv⟩
theorem z32 : (List.replicate 32 (0 : Int)).length = 32 := by simp
end TL

namespace TL
open Go Go.Proofs
/- (*twinlock/twinlockref22.Stage).Root -/
/- (*twinlock/twinlockref22.Stage).Asks -/
/- (*twinlock/twinlockref22.Stage).Answer -/
/- (*twinlock/twinlockref22.Stage).Forget -/
/- twinlock/twinlockref20.SameAll -/
/- (*twinlock/twinlockref22.Stage).All -/
/- twinlock/twinlockref20.SameMsg -/
end TL

namespace TL
open Go Go.Proofs
variable {g h : PH} {N : List Nat} {K : Value → PH → Prop} {aA bA : Option Addr} {aC bC : Nat}

end TL

namespace TL
open Go Go.Proofs
/- twinlock/stage.New -/
def F_stage_New  (K : Value → PH → Prop) (h : PH) : Prop :=
  newH h (.cells #[.pointer none, .int .i64 (0 : Int), .slice none 0 0] T_stage_Stage (0, 0)) fun bv h1 =>
  K (.pointer (some ⟨bv, 0, none⟩)) h1
theorem F_stage_New_eq  {K : Value → PH → Prop} {h : PH} : @Eq Prop (F_stage_New  K h) (denF Tryz.prog Tryz.f68 ⟨[], [], [], []⟩ [] K h) := by
  kernel_rfl
theorem F_stage_New_ok   {K : Value → PH → Prop} {h : PH} (hh : F_stage_New  K h) : CallH Tryz.prog id_stage_New [] K h :=
  denF_sound' Tryz.func68 (H := ⟨[], [], [], []⟩) (xs := []) (by kernel_rfl) (trivial) (den_of F_stage_New_eq hh)

/- (*twinlock/stage.Stage).Root -/
def F_stage_Stage_Root (sv : Option Addr) (m0 : Int) (_ : Int) (m2 : Int) (m3 : Int) (_ : Int) (_ : Int) (_ : Option Addr) (_ _ : Nat) (_ : Int) (m8 : List Int) (_ : Int) (_ : Int) (_ : List Int) (_ : List Int) (_ : Option Addr) (_ _ : Nat) (baseA : Option Addr) (baseN baseC : Nat) (atv : Int) (K : Value → PH → Prop) (h : PH) : Prop :=
  ((((((Option.isNone sv) || (m0 != (4 : Int))) || (decide (m2 ≤ atv))) || (decide (m3 < (1 : Int)))) = true →
      K (.bool false) h) ∧
    (((((Option.isNone sv) || (m0 != (4 : Int))) || (decide (m2 ≤ atv))) || (decide (m3 < (1 : Int)))) = false →
      JoinP (T := Unit) (fun Jv =>
        ∃ bv ov : Nat, sv = some ⟨bv, ov, none⟩ ∧
        ∃ t : Option Addr, (h.rds bv ov 1 = some [.pointer t]) ∧
        ∃ bv_1 ov_1 : Nat, ((!(Option.isNone t)) = true → sv = some ⟨bv_1, ov_1, none⟩) ∧
        ∃ t_1 : Option Addr, (((!(Option.isNone t)) = true → h.rds bv_1 ov_1 1 = some [.pointer t_1])) ∧
        ∃ bv_2 ov_2 : Nat, ((!(Option.isNone t)) = true → t_1 = some ⟨bv_2, ov_2, none⟩) ∧
        ∃ t_2 : Int, (((!(Option.isNone t)) = true → h.rds bv_2 (ov_2 + 1) 1 = some [.int .i64 t_2])) ∧
        ∃ bv_3 ov_3 : Nat, (((!(Option.isNone t)) && (t_2 == m2)) = true → sv = some ⟨bv_3, ov_3, none⟩) ∧
        ∃ t_3 : Option Addr, ((((!(Option.isNone t)) && (t_2 == m2)) = true → h.rds bv_3 ov_3 1 = some [.pointer t_3])) ∧
        ∃ bv_4 ov_4 : Nat, (((!(Option.isNone t)) && (t_2 == m2)) = true → t_3 = some ⟨bv_4, ov_4, none⟩) ∧
        ∃ t_4 : Int, ((((!(Option.isNone t)) && (t_2 == m2)) = true → h.rds bv_4 (ov_4 + 2) 1 = some [.int .i64 t_4])) ∧
        ∃ bv_5 ov_5 : Nat, ((((!(Option.isNone t)) && (t_2 == m2)) && (t_4 == m3)) = true → sv = some ⟨bv_5, ov_5, none⟩) ∧
        ∃ t_5 : Option Addr, (((((!(Option.isNone t)) && (t_2 == m2)) && (t_4 == m3)) = true → h.rds bv_5 ov_5 1 = some [.pointer t_5])) ∧
        ∃ bv_6 ov_6 : Nat, ((((!(Option.isNone t)) && (t_2 == m2)) && (t_4 == m3)) = true → t_5 = some ⟨bv_6, ov_6, none⟩) ∧
        ∃ t_6 : Option Addr, (((((!(Option.isNone t)) && (t_2 == m2)) && (t_4 == m3)) = true → h.rds bv_6 ov_6 1 = some [.pointer t_6])) ∧
        (((((!(Option.isNone t)) && (t_2 == m2)) && (t_4 == m3)) = true →
            CallH Tryz.prog id_walk_Walk_Root [.pointer t_6] (fun v h2 =>
              ∃ t_7 : List Int, t_7.length = 32 ∧ v = .agg ((t_7.map (Value.int .u8) ++ [])).toArray ∧
              (((t_7 == m8) = true →
                  K (.bool false) h2) ∧
                ((t_7 == m8) = false →
                  Jv (()) h2))) h) ∧
          ((((!(Option.isNone t)) && (t_2 == m2)) && (t_4 == m3)) = false →
            Jv (()) h)))
      (fun _ h1 =>
        CallH Tryz.prog id_walk_New [.slice baseA baseN baseC, .agg ((m8.map (Value.int .u8) ++ [])).toArray] (fun v_1 h3 =>
          ∃ t0 : Option Addr, ∃ t1 : Int, v_1 = .tuple #[.pointer t0, .int .i64 t1] ∧
          (((t1 != (0 : Int)) = true →
              K (.bool false) h3) ∧
            ((t1 != (0 : Int)) = false →
              CallH Tryz.prog id_stage_Stage_Forget [.pointer sv] (fun _ h4 =>
                newH h4 (.cells #[.pointer t0, .int .i64 m2, .int .i64 m3] T_stage_goal (0, 0)) fun bv_7 h5 =>
                ∃ bv_8 ov_7 : Nat, sv = some ⟨bv_8, ov_7, none⟩ ∧
                stH h5 bv_8 ov_7 [.pointer (some ⟨bv_7, 0, none⟩)] fun h6 =>
                ∃ bv_9 ov_8 : Nat, sv = some ⟨bv_9, ov_8, none⟩ ∧
                ∃ t_8 : Int, (h6.rds bv_9 (ov_8 + 1) 1 = some [.int .i64 t_8]) ∧
                ∃ bv_10 ov_9 : Nat, sv = some ⟨bv_10, ov_9, none⟩ ∧
                stH h6 bv_10 (ov_9 + 1) [.int .i64 (IntKind.wrap .i64 (t_8 + (1 : Int)))] fun h7 =>
                K (.bool true) h7) h3))) h1)))
theorem F_stage_Stage_Root_eq {sv : Option Addr} {m0 : Int} {m1 : Int} {m2 : Int} {m3 : Int} {m4 : Int} {m5 : Int} {m6A : Option Addr} {m6N m6C : Nat} {m7 : Int} {m8 : List Int} {m9 : Int} {m10 : Int} {m11 : List Int} {m12 : List Int} {m13A : Option Addr} {m13N m13C : Nat} {baseA : Option Addr} {baseN baseC : Nat} {atv : Int} {K : Value → PH → Prop} {h : PH} : @Eq Prop (F_stage_Stage_Root sv m0 m1 m2 m3 m4 m5 m6A m6N m6C m7 m8 m9 m10 m11 m12 m13A m13N m13C baseA baseN baseC atv K h) (denF Tryz.prog Tryz.f69 ⟨[5], [(3, .of [0, 1, 2, 3, 4, 5, 6, 7, 8, 9, 10, 11, 12, 13, 14, 15, 16, 17, 18, 19, 20, 21, 22, 23, 24, 25, 26, 27, 28, 29, 30, 31, 32, 33, 34, 35, 36, 38, 39, 37, 40, 41])], [], [(12, ⟨[], [], []⟩)]⟩ [.v (.pointer sv), .agg [.one (.int .u8 m0), .one (.int .i64 m1), .one (.int .i64 m2), .one (.int .i64 m3), .one (.int .i64 m4), .one (.int .i64 m5), .one (.slice m6A m6N m6C), .one (.int .i64 m7), .ints .u8 32 m8, .one (.int .i64 m9), .one (.int .i64 m10), .ints .u8 32 m11, .ints .u8 32 m12, .one (.slice m13A m13N m13C)], .v (.slice baseA baseN baseC), .v (.int .i64 atv)] K h) := by
  kernel_rfl
theorem F_stage_Stage_Root_ok {sv : Option Addr} {m0 : Int} {m1 : Int} {m2 : Int} {m3 : Int} {m4 : Int} {m5 : Int} {m6A : Option Addr} {m6N m6C : Nat} {m7 : Int} {m8 : List Int} {m9 : Int} {m10 : Int} {m11 : List Int} {m12 : List Int} {m13A : Option Addr} {m13N m13C : Nat} {baseA : Option Addr} {baseN baseC : Nat} {atv : Int} (hk0 : m8.length = 32) (hk1 : m11.length = 32) (hk2 : m12.length = 32) {K : Value → PH → Prop} {h : PH} (hh : F_stage_Stage_Root sv m0 m1 m2 m3 m4 m5 m6A m6N m6C m7 m8 m9 m10 m11 m12 m13A m13N m13C baseA baseN baseC atv K h) : CallH Tryz.prog id_stage_Stage_Root [.pointer sv, .agg ((.int .u8 m0 :: (.int .i64 m1 :: (.int .i64 m2 :: (.int .i64 m3 :: (.int .i64 m4 :: (.int .i64 m5 :: (.slice m6A m6N m6C :: (.int .i64 m7 :: (m8.map (Value.int .u8) ++ (.int .i64 m9 :: (.int .i64 m10 :: (m11.map (Value.int .u8) ++ (m12.map (Value.int .u8) ++ ([.slice m13A m13N m13C] : List Value))))))))))))))).toArray, .slice baseA baseN baseC, .int .i64 atv] K h :=
  denF_sound' Tryz.func69 (H := ⟨[5], [(3, .of [0, 1, 2, 3, 4, 5, 6, 7, 8, 9, 10, 11, 12, 13, 14, 15, 16, 17, 18, 19, 20, 21, 22, 23, 24, 25, 26, 27, 28, 29, 30, 31, 32, 33, 34, 35, 36, 38, 39, 37, 40, 41])], [], [(12, ⟨[], [], []⟩)]⟩) (xs := [.v (.pointer sv), .agg [.one (.int .u8 m0), .one (.int .i64 m1), .one (.int .i64 m2), .one (.int .i64 m3), .one (.int .i64 m4), .one (.int .i64 m5), .one (.slice m6A m6N m6C), .one (.int .i64 m7), .ints .u8 32 m8, .one (.int .i64 m9), .one (.int .i64 m10), .ints .u8 32 m11, .ints .u8 32 m12, .one (.slice m13A m13N m13C)], .v (.slice baseA baseN baseC), .v (.int .i64 atv)]) (by kernel_rfl) (⟨rfl, ⟨rfl, rfl, rfl, rfl, rfl, rfl, rfl, rfl, hk0, rfl, rfl, hk1, hk2, rfl, trivial⟩, rfl, rfl, trivial⟩) (den_of F_stage_Stage_Root_eq hh)

/- (*twinlock/stage.Stage).Asks -/
def F_stage_Stage_Asks (sv : Option Addr) (epoch : Int) (K : Value → PH → Prop) (h : PH) : Prop :=
  CallH Tryz.prog id_stage_Stage_none [.pointer sv] (fun v h1 =>
    ∃ t : Bool, v = .bool t ∧
    ((t = true →
        K (.slice none 0 0) h1) ∧
      (t = false →
        ∃ bv ov : Nat, sv = some ⟨bv, ov, none⟩ ∧
        ∃ t_1 : Option Addr, (h1.rds bv ov 1 = some [.pointer t_1]) ∧
        ∃ bv_1 ov_1 : Nat, t_1 = some ⟨bv_1, ov_1, none⟩ ∧
        ∃ t_2 : Option Addr, (h1.rds bv_1 ov_1 1 = some [.pointer t_2]) ∧
        CallH Tryz.prog id_walk_Walk_Want [.pointer t_2, .int .i64 (8 : Int)] (fun v_1 h2 =>
          ∃ (tA : Option Addr) (tN tC : Nat), v_1 = .slice tA tN tC ∧
          LoopP (T := (Option Addr × Nat × Nat) × Int × Unit) (fun Jv st h3 =>
            (((decide (st.2.1 < ((tN : Nat) : Int))) = true →
                ∃ bv_2 ov_2 : Nat, (tA = some ⟨bv_2, ov_2, none⟩ ∧ 0 ≤ st.2.1 ∧ st.2.1 < (tN : Nat)) ∧
                ∃ a0 : Int, ∃ a1 : Int, (h3.rds bv_2 (ov_2 + st.2.1.toNat * 2) 2 = some [.int .i64 a0, .int .i64 a1]) ∧
                ∃ bv_3 ov_3 : Nat, sv = some ⟨bv_3, ov_3, none⟩ ∧
                ∃ t_3 : Option Addr, (h3.rds bv_3 ov_3 1 = some [.pointer t_3]) ∧
                ∃ bv_4 ov_4 : Nat, t_3 = some ⟨bv_4, ov_4, none⟩ ∧
                ∃ t_4 : Int, (h3.rds bv_4 (ov_4 + 1) 1 = some [.int .i64 t_4]) ∧
                appH T_api_Msg 107 216 [.int .u8 (0 : Int), .int .i64 (0 : Int), .int .i64 (0 : Int), .int .i64 (0 : Int), .int .i64 (0 : Int), .int .i64 (0 : Int), .slice none 0 0, .int .i64 (0 : Int), .int .u8 (0 : Int), .int .u8 (0 : Int), .int .u8 (0 : Int), .int .u8 (0 : Int), .int .u8 (0 : Int), .int .u8 (0 : Int), .int .u8 (0 : Int), .int .u8 (0 : Int), .int .u8 (0 : Int), .int .u8 (0 : Int), .int .u8 (0 : Int), .int .u8 (0 : Int), .int .u8 (0 : Int), .int .u8 (0 : Int), .int .u8 (0 : Int), .int .u8 (0 : Int), .int .u8 (0 : Int), .int .u8 (0 : Int), .int .u8 (0 : Int), .int .u8 (0 : Int), .int .u8 (0 : Int), .int .u8 (0 : Int), .int .u8 (0 : Int), .int .u8 (0 : Int), .int .u8 (0 : Int), .int .u8 (0 : Int), .int .u8 (0 : Int), .int .u8 (0 : Int), .int .u8 (0 : Int), .int .u8 (0 : Int), .int .u8 (0 : Int), .int .u8 (0 : Int), .int .i64 (0 : Int), .int .i64 (0 : Int), .int .u8 (0 : Int), .int .u8 (0 : Int), .int .u8 (0 : Int), .int .u8 (0 : Int), .int .u8 (0 : Int), .int .u8 (0 : Int), .int .u8 (0 : Int), .int .u8 (0 : Int), .int .u8 (0 : Int), .int .u8 (0 : Int), .int .u8 (0 : Int), .int .u8 (0 : Int), .int .u8 (0 : Int), .int .u8 (0 : Int), .int .u8 (0 : Int), .int .u8 (0 : Int), .int .u8 (0 : Int), .int .u8 (0 : Int), .int .u8 (0 : Int), .int .u8 (0 : Int), .int .u8 (0 : Int), .int .u8 (0 : Int), .int .u8 (0 : Int), .int .u8 (0 : Int), .int .u8 (0 : Int), .int .u8 (0 : Int), .int .u8 (0 : Int), .int .u8 (0 : Int), .int .u8 (0 : Int), .int .u8 (0 : Int), .int .u8 (0 : Int), .int .u8 (0 : Int), .int .u8 (0 : Int), .int .u8 (0 : Int), .int .u8 (0 : Int), .int .u8 (0 : Int), .int .u8 (0 : Int), .int .u8 (0 : Int), .int .u8 (0 : Int), .int .u8 (0 : Int), .int .u8 (0 : Int), .int .u8 (0 : Int), .int .u8 (0 : Int), .int .u8 (0 : Int), .int .u8 (0 : Int), .int .u8 (0 : Int), .int .u8 (0 : Int), .int .u8 (0 : Int), .int .u8 (0 : Int), .int .u8 (0 : Int), .int .u8 (0 : Int), .int .u8 (0 : Int), .int .u8 (0 : Int), .int .u8 (0 : Int), .int .u8 (0 : Int), .int .u8 (0 : Int), .int .u8 (0 : Int), .int .u8 (0 : Int), .int .u8 (0 : Int), .int .u8 (0 : Int), .int .u8 (0 : Int), .int .u8 (0 : Int), .int .u8 (0 : Int), .int .u8 (0 : Int), .slice none 0 0] st.1.1 st.1.2.1 st.1.2.2 1 (.int .u8 (5 : Int) :: (.int .i64 epoch :: (.int .i64 t_4 :: (.int .i64 (0 : Int) :: (.int .i64 (0 : Int) :: (.int .i64 (0 : Int) :: (.slice none 0 0 :: (.int .i64 (0 : Int) :: ((List.replicate 32 0).map (Value.int .u8) ++ (.int .i64 a0 :: (.int .i64 a1 :: ((List.replicate 32 0).map (Value.int .u8) ++ ((List.replicate 32 0).map (Value.int .u8) ++ ([.slice none 0 0] : List Value)))))))))))))) (fun outA outN outC h4 =>
                  Jv ((outA, outN, outC), (IntKind.wrap .i64 (st.2.1 + (1 : Int))), ()) h4) h3) ∧
              ((decide (st.2.1 < ((tN : Nat) : Int))) = false →
                K (.slice st.1.1 st.1.2.1 st.1.2.2) h3))) ((none, 0, 0), (0 : Int), ()) h2) h1))) h
theorem F_stage_Stage_Asks_eq {sv : Option Addr} {epoch : Int} {K : Value → PH → Prop} {h : PH} : @Eq Prop (F_stage_Stage_Asks sv epoch K h) (denF Tryz.prog Tryz.f72 ⟨[7, 37], [], [(0, ⟨[(5, .slice), (19, .int .i64)], [], []⟩)], []⟩ [.v (.pointer sv), .v (.int .i64 epoch)] K h) := by
  kernel_rfl
theorem F_stage_Stage_Asks_ok {sv : Option Addr} {epoch : Int}  {K : Value → PH → Prop} {h : PH} (hh : F_stage_Stage_Asks sv epoch K h) : CallH Tryz.prog id_stage_Stage_Asks [.pointer sv, .int .i64 epoch] K h :=
  denF_sound' Tryz.func72 (H := ⟨[7, 37], [], [(0, ⟨[(5, .slice), (19, .int .i64)], [], []⟩)], []⟩) (xs := [.v (.pointer sv), .v (.int .i64 epoch)]) (by kernel_rfl) (⟨rfl, rfl, trivial⟩) (den_of F_stage_Stage_Asks_eq hh)

/- (*twinlock/stage.Stage).Answer -/
def F_stage_Stage_Answer (sv : Option Addr) (m0 : Int) (_ : Int) (m2 : Int) (_ : Int) (_ : Int) (_ : Int) (_ : Option Addr) (_ _ : Nat) (_ : Int) (_ : List Int) (m9 : Int) (m10 : Int) (m11 : List Int) (m12 : List Int) (m13A : Option Addr) (m13N m13C : Nat) (K : Value → PH → Prop) (h : PH) : Prop :=
  CallH Tryz.prog id_stage_Stage_none [.pointer sv] (fun v h1 =>
    ∃ t : Bool, v = .bool t ∧
    ∃ bv ov : Nat, (t = false → sv = some ⟨bv, ov, none⟩) ∧
    ∃ t_1 : Option Addr, ((t = false → h1.rds bv ov 1 = some [.pointer t_1])) ∧
    ∃ bv_1 ov_1 : Nat, (t = false → t_1 = some ⟨bv_1, ov_1, none⟩) ∧
    ∃ t_2 : Int, ((t = false → h1.rds bv_1 (ov_1 + 1) 1 = some [.int .i64 t_2])) ∧
    (((t || (m2 != t_2)) = true →
        K (.bool false) h1) ∧
      ((t || (m2 != t_2)) = false →
        (((m0 == (6 : Int)) = true →
            ∃ bv_2 ov_2 : Nat, sv = some ⟨bv_2, ov_2, none⟩ ∧
            ∃ t_3 : Option Addr, (h1.rds bv_2 ov_2 1 = some [.pointer t_3]) ∧
            ∃ bv_3 ov_3 : Nat, t_3 = some ⟨bv_3, ov_3, none⟩ ∧
            ∃ t_4 : Option Addr, (h1.rds bv_3 ov_3 1 = some [.pointer t_4]) ∧
            CallH Tryz.prog id_walk_Walk_Node [.pointer t_4, .int .i64 m9, .int .i64 m10, .agg ((m11.map (Value.int .u8) ++ [])).toArray, .agg ((m12.map (Value.int .u8) ++ [])).toArray] (fun v_1 h2 =>
              ∃ t_5 : Bool, v_1 = .bool t_5 ∧
              K (.bool t_5) h2) h1) ∧
          ((m0 == (6 : Int)) = false →
            (((m0 == (7 : Int)) = true →
                ∃ bv_4 ov_4 : Nat, sv = some ⟨bv_4, ov_4, none⟩ ∧
                ∃ t_6 : Option Addr, (h1.rds bv_4 ov_4 1 = some [.pointer t_6]) ∧
                ∃ bv_5 ov_5 : Nat, t_6 = some ⟨bv_5, ov_5, none⟩ ∧
                ∃ t_7 : Option Addr, (h1.rds bv_5 ov_5 1 = some [.pointer t_7]) ∧
                CallH Tryz.prog id_walk_Walk_Page [.pointer t_7, .int .i64 m10, .slice m13A m13N m13C] (fun v_2 h3 =>
                  ∃ t_8 : Bool, v_2 = .bool t_8 ∧
                  K (.bool t_8) h3) h1) ∧
              ((m0 == (7 : Int)) = false →
                K (.bool false) h1))))))) h
theorem F_stage_Stage_Answer_eq {sv : Option Addr} {m0 : Int} {m1 : Int} {m2 : Int} {m3 : Int} {m4 : Int} {m5 : Int} {m6A : Option Addr} {m6N m6C : Nat} {m7 : Int} {m8 : List Int} {m9 : Int} {m10 : Int} {m11 : List Int} {m12 : List Int} {m13A : Option Addr} {m13N m13C : Nat} {K : Value → PH → Prop} {h : PH} : @Eq Prop (F_stage_Stage_Answer sv m0 m1 m2 m3 m4 m5 m6A m6N m6C m7 m8 m9 m10 m11 m12 m13A m13N m13C K h) (denF Tryz.prog Tryz.f73 ⟨[3], [], [], []⟩ [.v (.pointer sv), .agg [.one (.int .u8 m0), .one (.int .i64 m1), .one (.int .i64 m2), .one (.int .i64 m3), .one (.int .i64 m4), .one (.int .i64 m5), .one (.slice m6A m6N m6C), .one (.int .i64 m7), .ints .u8 32 m8, .one (.int .i64 m9), .one (.int .i64 m10), .ints .u8 32 m11, .ints .u8 32 m12, .one (.slice m13A m13N m13C)]] K h) := by
  kernel_rfl
theorem F_stage_Stage_Answer_ok {sv : Option Addr} {m0 : Int} {m1 : Int} {m2 : Int} {m3 : Int} {m4 : Int} {m5 : Int} {m6A : Option Addr} {m6N m6C : Nat} {m7 : Int} {m8 : List Int} {m9 : Int} {m10 : Int} {m11 : List Int} {m12 : List Int} {m13A : Option Addr} {m13N m13C : Nat} (hk0 : m8.length = 32) (hk1 : m11.length = 32) (hk2 : m12.length = 32) {K : Value → PH → Prop} {h : PH} (hh : F_stage_Stage_Answer sv m0 m1 m2 m3 m4 m5 m6A m6N m6C m7 m8 m9 m10 m11 m12 m13A m13N m13C K h) : CallH Tryz.prog id_stage_Stage_Answer [.pointer sv, .agg ((.int .u8 m0 :: (.int .i64 m1 :: (.int .i64 m2 :: (.int .i64 m3 :: (.int .i64 m4 :: (.int .i64 m5 :: (.slice m6A m6N m6C :: (.int .i64 m7 :: (m8.map (Value.int .u8) ++ (.int .i64 m9 :: (.int .i64 m10 :: (m11.map (Value.int .u8) ++ (m12.map (Value.int .u8) ++ ([.slice m13A m13N m13C] : List Value))))))))))))))).toArray] K h :=
  denF_sound' Tryz.func73 (H := ⟨[3], [], [], []⟩) (xs := [.v (.pointer sv), .agg [.one (.int .u8 m0), .one (.int .i64 m1), .one (.int .i64 m2), .one (.int .i64 m3), .one (.int .i64 m4), .one (.int .i64 m5), .one (.slice m6A m6N m6C), .one (.int .i64 m7), .ints .u8 32 m8, .one (.int .i64 m9), .one (.int .i64 m10), .ints .u8 32 m11, .ints .u8 32 m12, .one (.slice m13A m13N m13C)]]) (by kernel_rfl) (⟨rfl, ⟨rfl, rfl, rfl, rfl, rfl, rfl, rfl, rfl, hk0, rfl, rfl, hk1, hk2, rfl, trivial⟩, trivial⟩) (den_of F_stage_Stage_Answer_eq hh)

/- (*twinlock/stage.Stage).Done -/
def F_stage_Stage_Done (sv : Option Addr) (K : Value → PH → Prop) (h : PH) : Prop :=
  CallH Tryz.prog id_stage_Stage_none [.pointer sv] (fun v h1 =>
    ∃ t : Bool, v = .bool t ∧
    ((t = true →
        K (.tuple #[.slice none 0 0, .int .i64 (0 : Int), .int .i64 (0 : Int), .bool false]) h1) ∧
      (t = false →
        ∃ bv ov : Nat, sv = some ⟨bv, ov, none⟩ ∧
        ∃ t_1 : Option Addr, (h1.rds bv ov 1 = some [.pointer t_1]) ∧
        ∃ bv_1 ov_1 : Nat, t_1 = some ⟨bv_1, ov_1, none⟩ ∧
        ∃ t_2 : Option Addr, (h1.rds bv_1 ov_1 1 = some [.pointer t_2]) ∧
        CallH Tryz.prog id_walk_Walk_Done [.pointer t_2] (fun v_1 h2 =>
          ∃ (t0A : Option Addr) (t0N t0C : Nat), ∃ t1 : Bool, v_1 = .tuple #[.slice t0A t0N t0C, .bool t1] ∧
          (((!t1) = true →
              K (.tuple #[.slice none 0 0, .int .i64 (0 : Int), .int .i64 (0 : Int), .bool false]) h2) ∧
            ((!t1) = false →
              ∃ bv_2 ov_2 : Nat, sv = some ⟨bv_2, ov_2, none⟩ ∧
              ∃ t_3 : Option Addr, (h2.rds bv_2 ov_2 1 = some [.pointer t_3]) ∧
              ∃ bv_3 ov_3 : Nat, t_3 = some ⟨bv_3, ov_3, none⟩ ∧
              ∃ atv : Int, (h2.rds bv_3 (ov_3 + 1) 1 = some [.int .i64 atv]) ∧
              ∃ bv_4 ov_4 : Nat, sv = some ⟨bv_4, ov_4, none⟩ ∧
              ∃ t_4 : Option Addr, (h2.rds bv_4 ov_4 1 = some [.pointer t_4]) ∧
              ∃ bv_5 ov_5 : Nat, t_4 = some ⟨bv_5, ov_5, none⟩ ∧
              ∃ epoch : Int, (h2.rds bv_5 (ov_5 + 2) 1 = some [.int .i64 epoch]) ∧
              K (.tuple #[.slice t0A t0N t0C, .int .i64 atv, .int .i64 epoch, .bool true]) h2))) h1))) h
theorem F_stage_Stage_Done_eq {sv : Option Addr} {K : Value → PH → Prop} {h : PH} : @Eq Prop (F_stage_Stage_Done sv K h) (denF Tryz.prog Tryz.f75 ⟨[], [], [], []⟩ [.v (.pointer sv)] K h) := by
  kernel_rfl
theorem F_stage_Stage_Done_ok {sv : Option Addr}  {K : Value → PH → Prop} {h : PH} (hh : F_stage_Stage_Done sv K h) : CallH Tryz.prog id_stage_Stage_Done [.pointer sv] K h :=
  denF_sound' Tryz.func75 (H := ⟨[], [], [], []⟩) (xs := [.v (.pointer sv)]) (by kernel_rfl) (⟨rfl, trivial⟩) (den_of F_stage_Stage_Done_eq hh)

/- (*twinlock/stage.Stage).Begun -/
def F_stage_Stage_Begun (sv : Option Addr) (K : Value → PH → Prop) (h : PH) : Prop :=
  (((Option.isNone sv) = true →
      K (.int .i64 (0 : Int)) h) ∧
    ((Option.isNone sv) = false →
      ∃ bv ov : Nat, sv = some ⟨bv, ov, none⟩ ∧
      ∃ t : Int, (h.rds bv (ov + 1) 1 = some [.int .i64 t]) ∧
      K (.int .i64 t) h))
theorem F_stage_Stage_Begun_eq {sv : Option Addr} {K : Value → PH → Prop} {h : PH} : @Eq Prop (F_stage_Stage_Begun sv K h) (denF Tryz.prog Tryz.f76 ⟨[], [], [], []⟩ [.v (.pointer sv)] K h) := by
  kernel_rfl
theorem F_stage_Stage_Begun_ok {sv : Option Addr}  {K : Value → PH → Prop} {h : PH} (hh : F_stage_Stage_Begun sv K h) : CallH Tryz.prog id_stage_Stage_Begun [.pointer sv] K h :=
  denF_sound' Tryz.func76 (H := ⟨[], [], [], []⟩) (xs := [.v (.pointer sv)]) (by kernel_rfl) (⟨rfl, trivial⟩) (den_of F_stage_Stage_Begun_eq hh)

/- (*twinlock/stage.Stage).Forget -/
def F_stage_Stage_Forget (sv : Option Addr) (K : Value → PH → Prop) (h : PH) : Prop :=
  CallH Tryz.prog id_stage_Stage_none [.pointer sv] (fun v h1 =>
    ∃ t : Bool, v = .bool t ∧
    (((!t) = true →
        ∃ bv ov : Nat, sv = some ⟨bv, ov, none⟩ ∧
        ∃ (tA : Option Addr) (tN tC : Nat), (h1.rds bv (ov + 2) 1 = some [.slice tA tN tC]) ∧
        ∃ bv_1 ov_1 : Nat, sv = some ⟨bv_1, ov_1, none⟩ ∧
        ∃ t_1 : Option Addr, (h1.rds bv_1 ov_1 1 = some [.pointer t_1]) ∧
        ∃ bv_2 ov_2 : Nat, t_1 = some ⟨bv_2, ov_2, none⟩ ∧
        ∃ t_2 : Option Addr, (h1.rds bv_2 ov_2 1 = some [.pointer t_2]) ∧
        CallH Tryz.prog id_walk_Walk_Texts [.pointer t_2] (fun v_1 h2 =>
          ∃ (tA_1 : Option Addr) (tN_1 tC_1 : Nat), v_1 = .slice tA_1 tN_1 tC_1 ∧
          (h2.rds bv (ov + 2) 1 = some [.slice tA tN tC]) ∧
          ∃ vs : List Value, srcH h2 tA_1 (tN_1 * 1) vs ∧
          appH 9 1 16 [.string (⟨#[]⟩ : ByteArray)] tA tN tC tN_1 vs (fun tA_2 tN_2 tC_2 h3 =>
            ∃ bv_3 ov_3 : Nat, sv = some ⟨bv_3, ov_3, none⟩ ∧
            stH h3 bv_3 (ov_3 + 2) [.slice tA_2 tN_2 tC_2] fun h4 =>
            ∃ bv_4 ov_4 : Nat, sv = some ⟨bv_4, ov_4, none⟩ ∧
            stH h4 bv_4 ov_4 [.pointer none] fun h5 =>
            K (.tuple #[]) h5) h2) h1) ∧
      ((!t) = false →
        K (.tuple #[]) h1))) h
theorem F_stage_Stage_Forget_eq {sv : Option Addr} {K : Value → PH → Prop} {h : PH} : @Eq Prop (F_stage_Stage_Forget sv K h) (denF Tryz.prog Tryz.f77 ⟨[], [], [], []⟩ [.v (.pointer sv)] K h) := by
  kernel_rfl
theorem F_stage_Stage_Forget_ok {sv : Option Addr}  {K : Value → PH → Prop} {h : PH} (hh : F_stage_Stage_Forget sv K h) : CallH Tryz.prog id_stage_Stage_Forget [.pointer sv] K h :=
  denF_sound' Tryz.func77 (H := ⟨[], [], [], []⟩) (xs := [.v (.pointer sv)]) (by kernel_rfl) (⟨rfl, trivial⟩) (den_of F_stage_Stage_Forget_eq hh)

/- (*twinlock/stage.Stage).Goal -/
def F_stage_Stage_Goal (sv : Option Addr) (K : Value → PH → Prop) (h : PH) : Prop :=
  CallH Tryz.prog id_stage_Stage_none [.pointer sv] (fun v h1 =>
    ∃ t : Bool, v = .bool t ∧
    ((t = true →
        K (.tuple #[.int .i64 (0 : Int), .agg (((List.replicate 32 0).map (Value.int .u8) ++ [])).toArray, .bool false]) h1) ∧
      (t = false →
        ∃ bv ov : Nat, sv = some ⟨bv, ov, none⟩ ∧
        ∃ t_1 : Option Addr, (h1.rds bv ov 1 = some [.pointer t_1]) ∧
        ∃ bv_1 ov_1 : Nat, t_1 = some ⟨bv_1, ov_1, none⟩ ∧
        ∃ atv : Int, (h1.rds bv_1 (ov_1 + 1) 1 = some [.int .i64 atv]) ∧
        ∃ bv_2 ov_2 : Nat, sv = some ⟨bv_2, ov_2, none⟩ ∧
        ∃ t_2 : Option Addr, (h1.rds bv_2 ov_2 1 = some [.pointer t_2]) ∧
        ∃ bv_3 ov_3 : Nat, t_2 = some ⟨bv_3, ov_3, none⟩ ∧
        ∃ t_3 : Option Addr, (h1.rds bv_3 ov_3 1 = some [.pointer t_3]) ∧
        CallH Tryz.prog id_walk_Walk_Root [.pointer t_3] (fun v_1 h2 =>
          ∃ root : List Int, root.length = 32 ∧ v_1 = .agg ((root.map (Value.int .u8) ++ [])).toArray ∧
          (h2.rds bv_1 (ov_1 + 1) 1 = some [.int .i64 atv]) ∧
          (h2.rds bv ov 1 = some [.pointer t_1]) ∧
          K (.tuple #[.int .i64 atv, .agg ((root.map (Value.int .u8) ++ [])).toArray, .bool true]) h2) h1))) h
theorem F_stage_Stage_Goal_eq {sv : Option Addr} {K : Value → PH → Prop} {h : PH} : @Eq Prop (F_stage_Stage_Goal sv K h) (denF Tryz.prog Tryz.f78 ⟨[3], [], [], []⟩ [.v (.pointer sv)] K h) := by
  kernel_rfl
theorem F_stage_Stage_Goal_ok {sv : Option Addr}  {K : Value → PH → Prop} {h : PH} (hh : F_stage_Stage_Goal sv K h) : CallH Tryz.prog id_stage_Stage_Goal [.pointer sv] K h :=
  denF_sound' Tryz.func78 (H := ⟨[3], [], [], []⟩) (xs := [.v (.pointer sv)]) (by kernel_rfl) (⟨rfl, trivial⟩) (den_of F_stage_Stage_Goal_eq hh)

/- (*twinlock/stage.Stage).Texts -/
def F_stage_Stage_Texts (sv : Option Addr) (K : Value → PH → Prop) (h : PH) : Prop :=
  (((Option.isNone sv) = true →
      K (.slice none 0 0) h) ∧
    ((Option.isNone sv) = false →
      ∃ bv ov : Nat, sv = some ⟨bv, ov, none⟩ ∧
      ∃ t : Option Addr, (h.rds bv ov 1 = some [.pointer t]) ∧
      (((Option.isNone t) = true →
          ∃ bv_1 ov_1 : Nat, sv = some ⟨bv_1, ov_1, none⟩ ∧
          ∃ (tA : Option Addr) (tN tC : Nat), (h.rds bv_1 (ov_1 + 2) 1 = some [.slice tA tN tC]) ∧
          CallH Tryz.prog id_slices_Clone_string_string [.slice tA tN tC] (fun v h1 =>
            ∃ (tA_1 : Option Addr) (tN_1 tC_1 : Nat), v = .slice tA_1 tN_1 tC_1 ∧
            K (.slice tA_1 tN_1 tC_1) h1) h) ∧
        ((Option.isNone t) = false →
          ∃ bv_2 ov_2 : Nat, sv = some ⟨bv_2, ov_2, none⟩ ∧
          ∃ (tA_2 : Option Addr) (tN_2 tC_2 : Nat), (h.rds bv_2 (ov_2 + 2) 1 = some [.slice tA_2 tN_2 tC_2]) ∧
          ∃ bv_3 ov_3 : Nat, sv = some ⟨bv_3, ov_3, none⟩ ∧
          ∃ t_1 : Option Addr, (h.rds bv_3 ov_3 1 = some [.pointer t_1]) ∧
          ∃ bv_4 ov_4 : Nat, t_1 = some ⟨bv_4, ov_4, none⟩ ∧
          ∃ t_2 : Option Addr, (h.rds bv_4 ov_4 1 = some [.pointer t_2]) ∧
          CallH Tryz.prog id_walk_Walk_Texts [.pointer t_2] (fun v_1 h2 =>
            ∃ (tA_3 : Option Addr) (tN_3 tC_3 : Nat), v_1 = .slice tA_3 tN_3 tC_3 ∧
            (h2.rds bv_2 (ov_2 + 2) 1 = some [.slice tA_2 tN_2 tC_2]) ∧
            newH h2 (.cells #[.slice tA_2 tN_2 tC_2, .slice tA_3 tN_3 tC_3] 86 (0, 0)) fun bv_5 h3 =>
            CallH Tryz.prog id_slices_Concat_string_string [.slice (some ⟨bv_5, 0, none⟩) 2 2] (fun v_2 h4 =>
              ∃ (tA_4 : Option Addr) (tN_4 tC_4 : Nat), v_2 = .slice tA_4 tN_4 tC_4 ∧
              K (.slice tA_4 tN_4 tC_4) h4) h3) h))))
theorem F_stage_Stage_Texts_eq {sv : Option Addr} {K : Value → PH → Prop} {h : PH} : @Eq Prop (F_stage_Stage_Texts sv K h) (denF Tryz.prog Tryz.f79 ⟨[], [], [], []⟩ [.v (.pointer sv)] K h) := by
  kernel_rfl
theorem F_stage_Stage_Texts_ok {sv : Option Addr}  {K : Value → PH → Prop} {h : PH} (hh : F_stage_Stage_Texts sv K h) : CallH Tryz.prog id_stage_Stage_Texts [.pointer sv] K h :=
  denF_sound' Tryz.func79 (H := ⟨[], [], [], []⟩) (xs := [.v (.pointer sv)]) (by kernel_rfl) (⟨rfl, trivial⟩) (den_of F_stage_Stage_Texts_eq hh)

/- (*twinlock/stage.Stage).none -/
def F_stage_Stage_none (sv : Option Addr) (K : Value → PH → Prop) (h : PH) : Prop :=
  ∃ bv ov : Nat, ((Option.isNone sv) = false → sv = some ⟨bv, ov, none⟩) ∧
  ∃ t : Option Addr, (((Option.isNone sv) = false → h.rds bv ov 1 = some [.pointer t])) ∧
  K (.bool ((Option.isNone sv) || (Option.isNone t))) h
theorem F_stage_Stage_none_eq {sv : Option Addr} {K : Value → PH → Prop} {h : PH} : @Eq Prop (F_stage_Stage_none sv K h) (denF Tryz.prog Tryz.f134 ⟨[], [], [], []⟩ [.v (.pointer sv)] K h) := by
  kernel_rfl
theorem F_stage_Stage_none_ok {sv : Option Addr}  {K : Value → PH → Prop} {h : PH} (hh : F_stage_Stage_none sv K h) : CallH Tryz.prog id_stage_Stage_none [.pointer sv] K h :=
  denF_sound' Tryz.func134 (H := ⟨[], [], [], []⟩) (xs := [.v (.pointer sv)]) (by kernel_rfl) (⟨rfl, trivial⟩) (den_of F_stage_Stage_none_eq hh)

end TL

namespace TL
open Go Go.Proofs
variable {g h : PH} {N : List Nat} {K : Value → PH → Prop} {wb tb : Nat} {s : WS} {S T : List PrR}
open Classical in
/-- what a node does to a walk -/
noncomputable def nodeW (s : WS) (lv i : Int) (a b : List UInt8) : Bool × WS :=
  if h : ∃ k, (1 ≤ k ∧ k < 16) ∧ askP k = (lv, i) ∧ s.A k = some (shaN (innT a b)) then (true, wIn s h.choose a b) else (false, s)
open Classical in
/-- what a page does to a walk -/
noncomputable def pageW (s : WS) (i : Int) (l : List PrR) : Bool × WS :=
  if h : ∃ k : Nat, k < 16 ∧ i = k ∧ PgOk k l ∧ s.A (16 + k) = some (shaN (76 :: pageL l)) then (true, wPg s h.choose l) else (false, s)
theorem cWNodeV (x : WalkAt g N h wb s) (sp : Spl g N h) {lv i : Int} {a b : List UInt8} (ha : a.length = 32) (hb : b.length = 32) (hT : s.T.length ≤ 100000)
    (hk : ∀ N' h', WalkAt g N' h' wb (nodeW s lv i a b).2 → Stp g N h g N' h' → K (.bool (nodeW s lv i a b).1) h') :
    CallH Tryz.prog id_walk_Walk_Node [.pointer (some ⟨wb, 0, none⟩), .int .i64 lv, .int .i64 i, .agg (((bi a).map (Value.int .u8) ++ [])).toArray, .agg (((bi b).map (Value.int .u8) ++ [])).toArray] K h := by
  refine cWNode x sp ha hb hT (fun hn h' x' st => ?_) fun k N' h' k1 k2 ek hA x' st => ?_
  · have e : nodeW s lv i a b = (false, s) := dif_neg fun ⟨k, hk1, hk2, hk3⟩ => hn k hk1.1 hk1.2 hk2 hk3
    have := hk N h'
    rw [e] at this
    exact this x' st
  · have hex : ∃ k, (1 ≤ k ∧ k < 16) ∧ askP k = (lv, i) ∧ s.A k = some (shaN (innT a b)) := ⟨k, ⟨k1, k2⟩, ek, hA⟩
    have e : nodeW s lv i a b = (true, wIn s hex.choose a b) := dif_pos hex
    have hc := hex.choose_spec
    have ec : hex.choose = k := askP_inj _ (by omega) k (by omega) hc.1.1 k1 (hc.2.1.trans ek.symm)
    have := hk N' h'
    rw [e, ec] at this
    exact this x' st
theorem cWPageV (x : WalkAt g N h wb s) (sp : Spl g N h) {i : Int} {lA : Option Addr} {lC : Nat} {l : List PrR} (hl : SR EncPr g lA l) (hn : l.length ≤ 1000) (hs : ∀ x ∈ l, x.p.length ≤ 1000000) (hT : s.T.length ≤ 100000)
    (hk : ∀ g' N' h', WalkAt g' N' h' wb (pageW s i l).2 → Stp g N h g' N' h' → K (.bool (pageW s i l).1) h') :
    CallH Tryz.prog id_walk_Walk_Page [.pointer (some ⟨wb, 0, none⟩), .int .i64 i, .slice lA l.length lC] K h := by
  refine cWPage x sp hl hn hs hT (fun hno h' x' st => ?_) fun k g' N' h' k16 ek hok hA x' st => ?_
  · have e : pageW s i l = (false, s) := dif_neg fun ⟨k, hk1, hk2, hk3, hk4⟩ => hno k hk1 hk2 hk3 hk4
    have := hk g N h'
    rw [e] at this
    exact this x' st
  · have hex : ∃ k : Nat, k < 16 ∧ i = k ∧ PgOk k l ∧ s.A (16 + k) = some (shaN (76 :: pageL l)) := ⟨k, k16, ek, hok, hA⟩
    have e : pageW s i l = (true, wPg s hex.choose l) := dif_pos hex
    have hc := hex.choose_spec
    have ec : hex.choose = k := by have := hc.2.1; omega
    have := hk g' N' h'
    rw [e, ec] at this
    exact this x' st
/-- what an answer out of a tree does to a walk -/
noncomputable def answerW (s : WS) (T : List PrR) (c : Nat) : Bool × WS :=
  if 16 ≤ c then pageW s ((c - 16 : Nat) : Int) (partB T (c - 16)) else nodeW s (askP c).1 (askP c).2 (nd T (2 * c)) (nd T (2 * c + 1))
end TL

namespace TL
open Go Go.Proofs
variable {h : PH} {K : Value → PH → Prop}
end TL

namespace TL
open Go Go.Proofs
variable {s : WS} {lv i : Int} {a b : List UInt8} {l T : List PrR} {c : Nat}
/-- what each answer keeps: no node 0, few texts, the base, the root -/
structure KeepW (s s' : WS) : Prop where
  a0 : s.A 0 = none → s'.A 0 = none
  t : s'.T.length ≤ s.T.length + 1
  S : s'.S = s.S
  R : s'.R = s.R
theorem KeepW.rf (s : WS) : KeepW s s := ⟨id, Nat.le_succ _, rfl, rfl⟩
end TL

namespace TL
open Go Go.Proofs
variable {g h : PH} {N : List Nat} {K : Value → PH → Prop} {wb ub tb : Nat} {s : WS} {S T : List PrR}
/-- a hash of one byte and noughts -/
def hx (n : Int) : List UInt8 := UInt8.ofNat (IntKind.wrap .u8 n).toNat :: List.replicate 31 0
theorem bi_z32 : List.replicate 32 (0 : Int) = bi (List.replicate 32 0) := bi_zero 32
theorem wList_in {A : Nat → Option (List UInt8)} (h0 : A 0 = none) {k : Nat} (hk : k ∈ wList A) : 1 ≤ k ∧ k < 32 := by
  obtain ⟨h1, h2⟩ := wList_mem.1 hk
  rcases Nat.eq_zero_or_pos k with rfl | h
  · rw [h0] at h2; cases h2
  · exact ⟨h, h1⟩
theorem cWWantG {M : List Nat} (x : WalkAt g N h wb s) (sp : Spl g M h) (h0 : s.A 0 = none) {n : Int} (hk : ∀ a' c' g' h', h.Sub h' → Stp g M h g' M h' → SR EncAsk g' a' (((wList s.A).map askP).take n.toNat) → K (.slice a' (((wList s.A).map askP).take n.toNat).length c') h') :
    CallH Tryz.prog id_walk_Walk_Want [.pointer (some ⟨wb, 0, none⟩), .int .i64 n] K h := by
  refine F_walk_Walk_Want_ok (cWNone x ⟨_, rfl, fun e => ?_, fun e => ?_⟩)
  · have e : n < 1 := by simpa using e
    have hn : n.toNat = 0 := by omega
    have := hk none 0 g h (PH.Sub.rf _) (Stp.refl sp) (by rw [hn]; exact .inl rfl)
    rw [hn] at this; exact this
  · have e : ¬ n < 1 := by simpa using e
    obtain ⟨⟨tb, ra, rp, esA, cA, esP, cP, tA, tN, tC, Bt, rfl, d1, d2, d3, d4, d5, d6, hw, ht, ha, hA, hp, hP, hB⟩, hR, hL⟩ := x
    have hlen : esA.length ≤ 1000 := by have := hA.len; omega
    refine ⟨wb, 0, rfl, _, wk_ask hw hR, F_maps_Keys_map_walk_Ask_api_Hash_walk_Ask_api_Hash_ok (nwL fun bm h1 _ hbm c1 => ⟨_, rfl, rfl, cSortedA hbm (c1.sub0 _ _ ha) (fun e he => ?_) hA.old hA.bn hlen fun l a' c' B' h2 hp2 hs2 hB2 cc2 => ⟨_, _, _, rfl, ?_, ?_⟩⟩)⟩
    · obtain ⟨k, _, _, hk⟩ := hA.key e he
      exact ⟨_, hk⟩
    · have := hB2.le
      unfold minV
      split <;> omega
    · have hl := asked_row hA h0 hp2 hs2
      have hle := hB2.le
      rw [← hl] at hk
      have e1 : (minV n ((l.length : Nat) : Int)).toNat = min n.toNat l.length := by unfold minV; split <;> omega
      have e2 : (minV n ((l.length : Nat) : Int)).toNat - (0 : Int).toNat = (l.take n.toNat).length := by rw [e1, List.length_take]; exact Nat.sub_zero _
      rw [e2]
      have hB3 : SR EncAsk (PH.plus g h2 B') a' l := (hB2.keep fun b hb o e => by rw [plus_in hb]; exact e).sr
      refine hk _ _ (PH.plus g h2 B') h2 (c1.sub0.tr cc2.sub0) (sp.new (Chg.from c1.sub0 cc2)) ?_
      have := hB3.slice (L := 0) (lo := 0) (hi := min n.toNat l.length) (mx := (c' : Int)) rfl (Nat.min_le_right _ _) (by omega)
      rw [List.drop_zero, Nat.sub_zero, take_min_len] at this
      exact this
end TL

namespace TL
open Go Go.Proofs
variable {g h : PH} {N : List Nat} {K : Value → PH → Prop} {wb ub tb : Nat} {s : WS} {S T : List PrR} {lv i : Int} {a b : List UInt8} {l : List PrR} {c : Nat}
theorem textsT_le (hm : mayB S = true) (hl : S.length ≤ 48) : ∀ t ∈ textsT S, t.length ≤ 1000000 := fun t ht => by
  have e : textsT S = codesT.map fun c => if c < 16 then leafT S c else inT S (c - 16) := texts_codes (leafT S) (inT S)
  rw [e] at ht
  obtain ⟨c, _, rfl⟩ := List.mem_map.1 ht
  split
  · have := leafT_le hm hl c; omega
  · rw [inT_len]; decide
/-- a walk that was begun and answered -/
structure WOk (s : WS) : Prop where
  inv : ∃ W X, WInv s W X
  ts : ∀ t ∈ s.T, t.length ≤ 1000000
  q16 : ∀ i l, s.Q i = some l → i < 16
theorem WOk.new {R : List UInt8} (hm : mayB S = true) (hl : S.length ≤ 48) (hR : R.length = 32) : WOk (wNew S R) := ⟨⟨_, _, WInv.new hm hl hR⟩, textsT_le hm hl, fun _ _ h => by cases h⟩
theorem nodeW_cases : nodeW s lv i a b = (false, s) ∨ ∃ k, (1 ≤ k ∧ k < 16) ∧ askP k = (lv, i) ∧ s.A k = some (shaN (innT a b)) ∧ nodeW s lv i a b = (true, wIn s k a b) := by
  unfold nodeW
  split
  · rename_i hh
    exact .inr ⟨hh.choose, hh.choose_spec.1, hh.choose_spec.2.1, hh.choose_spec.2.2, rfl⟩
  · exact .inl rfl
theorem pageW_cases : pageW s i l = (false, s) ∨ ∃ k : Nat, k < 16 ∧ i = k ∧ PgOk k l ∧ s.A (16 + k) = some (shaN (76 :: pageL l)) ∧ pageW s i l = (true, wPg s k l) := by
  unfold pageW
  split
  · rename_i hh
    exact .inr ⟨hh.choose, hh.choose_spec.1, hh.choose_spec.2.1, hh.choose_spec.2.2.1, hh.choose_spec.2.2.2, rfl⟩
  · exact .inl rfl
theorem WOk.inn (v : WOk s) (ha : a.length = 32) (hb : b.length = 32) (h16 : c < 16) (hA : s.A c = some (shaN (innT a b))) : WOk (wIn s c a b) := by
  obtain ⟨⟨W, X, v⟩, ht, hq⟩ := v
  refine ⟨⟨_, _, v.node ha hb h16 hA⟩, fun t hm => ?_, hq⟩
  rcases List.mem_append.1 hm with hm | hm
  · exact ht t hm
  · rw [List.mem_singleton] at hm; subst hm
    simp [innT, ha, hb]
theorem WOk.pg (v : WOk s) (h16 : c < 16) (hp : PgOk c l) (hA : s.A (16 + c) = some (shaN (76 :: pageL l))) : WOk (wPg s c l) := by
  obtain ⟨⟨W, X, v⟩, ht, hq⟩ := v
  refine ⟨⟨_, _, v.page h16 hp hA⟩, fun t hm => ?_, fun j m hj => ?_⟩
  · rcases List.mem_append.1 hm with hm | hm
    · exact ht t hm
    · rw [List.mem_singleton] at hm; subst hm
      have := page_len hp
      rw [List.length_cons]; omega
  · have hj : upF s.Q c (some l) j = some m := hj
    by_cases e : j = c
    · omega
    · rw [upF_ne _ _ e] at hj; exact hq j m hj
theorem WOk.node (v : WOk s) (ha : a.length = 32) (hb : b.length = 32) : WOk (nodeW s lv i a b).2 := by
  rcases nodeW_cases (s := s) (lv := lv) (i := i) (a := a) (b := b) with e | ⟨k, hk, _, hA, e⟩
  · rw [e]; exact v
  · rw [e]; exact v.inn ha hb hk.2 hA
theorem WOk.page (v : WOk s) : WOk (pageW s i l).2 := by
  rcases pageW_cases (s := s) (i := i) (l := l) with e | ⟨k, hk, _, hp, hA, e⟩
  · rw [e]; exact v
  · rw [e]; exact v.pg hk hp hA
theorem WOk.answer (v : WOk s) : WOk (answerW s T c).2 := by
  unfold answerW
  split
  · exact v.page
  · exact v.node (nd_len _ _) (nd_len _ _)
theorem WOk.a0 (v : WOk s) : s.A 0 = none := by
  obtain ⟨⟨W, X, v⟩, _, _⟩ := v
  exact (v.out 0 (.inl rfl)).1
theorem WOk.may (v : WOk s) : mayB s.S = true ∧ s.S.length ≤ 48 := by
  obtain ⟨⟨W, X, v⟩, _, _⟩ := v
  exact ⟨v.may, v.le⟩
theorem WOk.none (v : WOk s) (h : wList s.A = []) : ∀ c, s.A c = .none := by
  obtain ⟨⟨W, X, v⟩, _, _⟩ := v
  exact wList_nil v h
/-- an answer fits just where the tree's own hash is wanted -/
theorem answerW_yes (c1 : 1 ≤ c) (c2 : c < 32) (hm : mayB T = true) (h48 : T.length ≤ 48) (hA : s.A c = some (nd T c)) :
    (answerW s T c).1 = true ∧ (c < 16 → (answerW s T c).2 = wIn s c (nd T (2 * c)) (nd T (2 * c + 1))) ∧ (16 ≤ c → (answerW s T c).2 = wPg s (c - 16) (partB T (c - 16))) := by
  unfold answerW
  by_cases h16 : 16 ≤ c
  · rw [if_pos h16]
    obtain ⟨j, rfl⟩ : ∃ j, c = 16 + j := ⟨c - 16, by omega⟩
    have ej : 16 + j - 16 = j := by omega
    rw [ej]
    rcases pageW_cases (s := s) (i := (j : Int)) (l := partB T j) with e | ⟨k, hk, ek, _, _, e⟩
    · exfalso
      have hex : ∃ k : Nat, k < 16 ∧ (j : Int) = k ∧ PgOk k (partB T j) ∧ s.A (16 + k) = some (shaN (76 :: pageL (partB T j))) := ⟨j, by omega, rfl, part_ok hm h48 j, by rw [hA, nd_leaf (by omega)]⟩
      unfold pageW at e
      rw [dif_pos hex] at e
      simp at e
    · have : k = j := by omega
      subst this
      rw [e]
      exact ⟨rfl, fun h => by omega, fun _ => rfl⟩
  · rw [if_neg h16]
    rcases nodeW_cases (s := s) (lv := (askP c).1) (i := (askP c).2) (a := nd T (2 * c)) (b := nd T (2 * c + 1)) with e | ⟨k, hk, ek, _, e⟩
    · exfalso
      have hex : ∃ k, (1 ≤ k ∧ k < 16) ∧ askP k = ((askP c).1, (askP c).2) ∧ s.A k = some (shaN (innT (nd T (2 * c)) (nd T (2 * c + 1)))) := ⟨c, ⟨c1, by omega⟩, rfl, by rw [hA, nd_in c1 (by omega)]⟩
      unfold nodeW at e
      rw [dif_pos hex] at e
      simp at e
    · have : k = c := askP_inj k (by omega) c c2 hk.1 c1 ek
      subst this
      rw [e]
      exact ⟨rfl, fun _ => rfl, fun h => absurd h h16⟩
/-- no two unlike texts of one hash: what is asked for is the tree's -/
theorem WOk.asks (v : WOk s) (hR : s.R = nd T 1) {L : List (List UInt8)} (hno : NoColl L L.length) (h1 : ∀ t ∈ s.T, t ∈ L) (h2 : ∀ t ∈ textsT T, t ∈ L) : ∀ c x, s.A c = some x → x = nd T c := fun c x hA => by
  obtain ⟨⟨W, X, v⟩, _, _⟩ := v
  obtain ⟨c1, c2, hk, _, rfl, _⟩ := v.asked hA
  exact v.wants hR hno h1 h2 c c1 c2 hk
/-- .. and when all is answered, its parts are the tree's -/
theorem WOk.parts (v : WOk s) (hR : s.R = nd T 1) (hm : mayB T = true) (h48 : T.length ≤ 48) (hd : ∀ c, s.A c = Option.none) {L : List (List UInt8)} (hno : NoColl L L.length) (h1 : ∀ t ∈ s.T, t ∈ L) (h2 : ∀ t ∈ textsT T, t ∈ L) : ∀ i, i < 16 → wPart s i = partB T i := by
  obtain ⟨⟨W, X, v⟩, _, _⟩ := v
  obtain ⟨H, TX, hv⟩ := v.vt hd
  rw [hR] at hv
  exact hv.inj (VT.tree hm h48) hno h1 h2
theorem WOk.q (v : WOk s) : ∀ i l, s.Q i = some l → PgOk i l := fun i l hq => by
  obtain ⟨⟨W, X, v⟩, _, v3⟩ := v
  have hi := v3 i l hq
  obtain ⟨t, ht⟩ := Option.isSome_iff_exists.1 (v.q i l hi hq)
  obtain ⟨m, h1, h2, _⟩ := v.lf i t hi ht
  rw [hq] at h1; cases h1
  exact h2
theorem WOk.part (v : WOk s) : ∀ i, i < 16 → PgOk i (wPart s i) := fun i _ => by
  unfold wPart
  cases e : s.Q i with
  | none => exact part_ok v.may.1 v.may.2 i
  | some l => exact v.q i l e
end TL

namespace TL
open Go Go.Proofs
variable {g h : PH} {N : List Nat} {K : Value → PH → Prop} {wb ub tb : Nat} {s : WS} {S T : List PrR}
theorem askGet {A : Nat → Option (List UInt8)} (h0 : A 0 = none) {n k : Nat} (hk : k < (((wList A).map askP).take n).length) : ∃ c, 1 ≤ c ∧ c < 32 ∧ (A c).isSome = true ∧ askP c = (((wList A).map askP).take n)[k] := by
  obtain ⟨c, hc, e⟩ := List.mem_map.1 (List.mem_of_mem_take (List.getElem_mem hk))
  obtain ⟨c1, c2⟩ := wList_in h0 hc
  exact ⟨c, c1, c2, (wList_mem.1 hc).2, e⟩
end TL

namespace TL
open Go Go.Proofs
variable {g h : PH} {N : List Nat} {K : Value → PH → Prop} {wb ub tb : Nat} {s : WS} {S T : List PrR}
/-! ### What differs -/
def dif (S T : List PrR) (c : Nat) : Nat := if 1 ≤ c ∧ nd S c ≠ nd T c then 1 else 0
def sumN (f : Nat → Nat) (n : Nat) : Nat := ((List.range n).map f).sum
/-! ### What was answered -/
def got (X : Nat → Option (List UInt8)) (c : Nat) : Nat := if (X c).isSome = true then 1 else 0
/-- a walk to a tree, answered by it alone -/
structure FewV (s : WS) (W : Nat → List UInt8) (X : Nat → Option (List UInt8)) (T : List PrR) : Prop where
  v : WInv s W X
  w : ∀ c, 1 ≤ c → c < 32 → known X c → W c = nd T c
theorem FewV.new {R : List UInt8} (hm : mayB S = true) (hl : S.length ≤ 48) (hR : R = nd T 1) : FewV (wNew S R) (fun _ => R) (fun _ => none) T :=
  ⟨WInv.new hm hl (by rw [hR, nd_len]), fun c _ _ hk => by
    rcases hk with rfl | hk
    · exact hR
    · cases hk⟩
variable {W : Nat → List UInt8} {X : Nat → Option (List UInt8)} {c : Nat}
theorem FewV.ask (v : FewV s W X T) {x : List UInt8} (h : s.A c = some x) : 1 ≤ c ∧ c < 32 ∧ X c = none ∧ x = nd T c ∧ nd s.S c ≠ nd T c := by
  obtain ⟨a1, a2, a3, a4, a5, a6⟩ := v.v.asked h
  have := v.w c a1 a2 a3
  exact ⟨a1, a2, a4, a5.trans this, this ▸ a6⟩
theorem FewV.answer (v : FewV s W X T) (hm : mayB T = true) (h48 : T.length ≤ 48) (h : (s.A c).isSome = true) : (answerW s T c).1 = true ∧ ∃ W' t, FewV (answerW s T c).2 W' (upF X c (some t)) T := by
  obtain ⟨x, hx⟩ := Option.isSome_iff_exists.1 h
  obtain ⟨a1, a2, a4, a5, a6⟩ := v.ask hx
  subst a5
  obtain ⟨e, e1, e2⟩ := answerW_yes a1 a2 hm h48 hx
  refine ⟨e, ?_⟩
  by_cases h16 : c < 16
  · rw [e1 h16]
    refine ⟨_, _, v.v.node (nd_len T (2 * c)) (nd_len T (2 * c + 1)) h16 (by rw [hx, nd_in a1 h16]), fun d d1 d2 hk => ?_⟩
    by_cases k1 : d = 2 * c + 1
    · subst k1; rw [upF_same]
    · rw [upF_ne _ _ k1]
      by_cases k2 : d = 2 * c
      · subst k2; rw [upF_same]
      · rw [upF_ne _ _ k2]
        refine v.w d d1 d2 ?_
        rcases hk with hk | hk
        · exact .inl hk
        · rw [upF_ne _ _ (by omega)] at hk; exact .inr hk
  · obtain ⟨j, rfl⟩ : ∃ j, c = 16 + j := ⟨c - 16, by omega⟩
    have ej : 16 + j - 16 = j := by omega
    rw [e2 (by omega), ej]
    refine ⟨_, _, v.v.page (by omega) (part_ok hm h48 j) (by rw [hx, nd_leaf (by omega)]), fun d d1 d2 hk => v.w d d1 d2 ?_⟩
    rcases hk with hk | hk
    · exact .inl hk
    · rw [upF_ne _ _ (by omega)] at hk; exact .inr hk
theorem FewV.dif (v : FewV s W X T) (c : Nat) (hc : (X c).isSome = true) : 1 ≤ c ∧ c < 32 ∧ nd s.S c ≠ nd T c := by
  obtain ⟨t, ht⟩ := Option.isSome_iff_exists.1 hc
  have h1 : 1 ≤ c ∧ c < 32 := by
    by_cases e : c = 0 ∨ 32 ≤ c
    · rw [(v.v.out c e).2] at ht; cases ht
    · omega
  have hk : known X c := Classical.byContradiction fun e => by rw [(v.v.un c h1.1 h1.2 e).2] at ht; cases ht
  have := (v.v.an c t h1.1 h1.2 ht).2.1
  rw [v.w c h1.1 h1.2 hk] at this
  exact ⟨h1.1, h1.2, this⟩
theorem got_up {t : List UInt8} (hc : c < 32) (h : X c = none) : sumN (got (upF X c (some t))) 32 = sumN (got X) 32 + 1 := by
  have := sum_up (got (upF X c (some t))) (got X) hc fun j hj => by unfold got; rw [upF_ne _ _ hj]
  have e1 : got (upF X c (some t)) c = 1 := by unfold got; rw [upF_same]; rfl
  have e2 : got X c = 0 := by unfold got; rw [h]; rfl
  rw [e1, e2] at this
  unfold sumN; omega
theorem FewV.eq (v : FewV s W X T) (hd : ∀ c, s.A c = none) {c : Nat} (c1 : 1 ≤ c) (c2 : c < 32) (hk : known X c) (hX : X c = none) : nd s.S c = nd T c := by
  rcases v.v.kn c c1 c2 hk hX with ⟨_, e⟩ | ⟨e, _⟩
  · rw [e, v.w c c1 c2 hk]
  · rw [hd c] at e; cases e
/-- a bucket all above which differs was answered -/
theorem FewV.leaf (v : FewV s W X T) (hd : ∀ c, s.A c = none) {i : Nat} (hi : i < 16) (h : ∀ lv, lv ≤ 4 → nd T ((16 + i) / 2 ^ (4 - lv)) ≠ nd s.S ((16 + i) / 2 ^ (4 - lv))) : (X (16 + i)).isSome = true := by
  have key : ∀ c, 1 ≤ c → c < 32 → known X c → nd T c ≠ nd s.S c → (X c).isSome = true := fun c c1 c2 hk hne => by
    cases e : X c with
    | some t => rfl
    | none => exact absurd (v.eq hd c1 c2 hk e).symm hne
  have d : ∀ k, (16 + i) / 2 ^ k / 2 = (16 + i) / 2 ^ (k + 1) := fun k => by rw [Nat.div_div_eq_div_mul, ← Nat.pow_succ]
  have r4 : (16 + i) / 2 ^ 4 = 1 := by omega
  have q4 := key ((16 + i) / 2 ^ 4) (by omega) (by omega) (.inl r4) (h 0 (by omega))
  have q3 := key ((16 + i) / 2 ^ 3) (by omega) (by omega) (.inr (by rw [d 3]; exact q4)) (h 1 (by omega))
  have q2 := key ((16 + i) / 2 ^ 2) (by omega) (by omega) (.inr (by rw [d 2]; exact q3)) (h 2 (by omega))
  have q1 := key ((16 + i) / 2 ^ 1) (by omega) (by omega) (.inr (by rw [d 1]; exact q2)) (h 3 (by omega))
  have q0 := key ((16 + i) / 2 ^ 0) (by omega) (by omega) (.inr (by rw [d 0]; exact q1)) (h 4 (by omega))
  simpa using q0
theorem FewV.none (v : FewV s W X T) (hr : nd s.S 1 = nd T 1) : sumN (got X) 32 = 0 := by
  have h1 : X 1 = .none := by
    cases e : X 1 with
    | none => rfl
    | some t => exact absurd hr (v.dif 1 (by rw [e]; rfl)).2.2
  have hall : ∀ m c, c = m → X c = .none := by
    intro m
    induction m using Nat.strongRecOn with
    | ind m ih =>
      intro c hcm
      by_cases e : c = 0 ∨ 32 ≤ c
      · exact (v.v.out c e).2
      · by_cases e1 : c = 1
        · subst e1; exact h1
        · refine (v.v.un c (by omega) (by omega) fun hk => ?_).2
          rcases hk with hk | hk
          · exact e1 hk
          · rw [ih (c / 2) (by omega) (c / 2) rfl] at hk; cases hk
  have : got X = fun _ => 0 := by
    funext c
    unfold got
    rw [hall c c rfl]; rfl
  rw [this]
  decide
/-! ### What was seen -/
def SeenM (h : PH) (bm : Nat) (X : Nat → Option (List UInt8)) : Prop := ∃ es c, h bm = some (.map (es : List MapEntry).toArray c) ∧ (∀ e ∈ es, kOk (.rec2 .i64 .i64) e.key = true) ∧ (∀ k, 1 ≤ k → k < 32 → va es (keyV (askP k)) = if (X k).isSome = true then some (.int .i64 1) else none) ∧ es.length = sumN (got X) 32
theorem SeenM.keep {h' : PH} {bm : Nat} (x : SeenM h bm X) (hk : ∀ o, h bm = some o → h' bm = some o) : SeenM h' bm X := by
  obtain ⟨es, c, h1, h2, h3, h4⟩ := x
  exact ⟨es, c, hk _ h1, h2, h3, h4⟩
theorem SeenM.look {bm : Nat} (x : SeenM h bm X) {k : Nat} (h1 : 1 ≤ k) (h2 : k < 32) : lkH (.rec2 .i64 .i64) h (some bm) (.agg #[.int .i64 (askP k).1, .int .i64 (askP k).2]) (.int .i64 (0 : Int)) (.int .i64 (if (X k).isSome = true then 1 else 0)) (X k).isSome := by
  obtain ⟨es, c, q1, q2, q3, _⟩ := x
  refine ⟨es, ⟨⟨c, q1⟩, q2⟩, ?_⟩
  have := q3 k h1 h2
  rw [lk_va]
  show (match va es (keyV (askP k)) with | some v => (v, true) | none => _) = _
  rw [this]
  cases (X k).isSome <;> rfl
theorem upM_len {es : List MapEntry} {k v : Value} {c : Nat} (h : va es k = none) : (upM es k v c).1.length = es.length + 1 := by
  unfold upM
  rw [fi_none_iff.2 h]
  simp
theorem SeenM.put {bm : Nat} (x : SeenM h bm X) {k : Nat} (h1 : 1 ≤ k) (h2 : k < 32) (hX : X k = none) {t : List UInt8} {J : PH → Prop} (hk : ∀ h', SeenM h' bm (upF X k (some t)) → Chg [bm] [bm] h h' → J h') :
    muH (.rec2 .i64 .i64) h (some bm) (.agg #[.int .i64 (askP k).1, .int .i64 (askP k).2]) (.int .i64 (1 : Int)) J := by
  obtain ⟨es, c, q1, q2, q3, q4⟩ := x
  refine ⟨bm, es, c, rfl, q1, q2, hk _ ⟨_, _, PH.upd_same _ _ _, upM_keys rfl q2, fun j j1 j2 => ?_, ?_⟩ (Chg.upd _)⟩
  · show va (upM es (keyV (askP k)) _ c).1 _ = _
    rw [va_upM q2 (keyV_ok _) (keyV_ok _), keyV_keq]
    by_cases e : j = k
    · subst e; rw [upF_same]; simp
    · rw [if_neg (by simp only [decide_eq_true_eq]; exact fun e2 => e (askP_inj j j2 k h2 j1 h1 e2)), upF_ne _ _ e]
      exact q3 j j1 j2
  · rw [got_up h2 hX, ← q4]
    refine upM_len ?_
    have := q3 k h1 h2
    rw [hX] at this
    exact this
theorem SeenM.len {bm : Nat} (x : SeenM h bm X) : lenM h (some bm) (sumN (got X) 32) := by
  obtain ⟨es, c, q1, _, _, q4⟩ := x
  exact ⟨_, c, q1, by rw [← q4]; simp⟩
end TL

namespace TL
open Go Go.Proofs
variable {g h : PH} {N : List Nat} {K : Value → PH → Prop} {s : WS} {j : Nat} {lv i : Int} {a b : List UInt8} {l : List PrR}
/-- the examples' walk, so many answers on -/
structure KnS (s : WS) (j : Nat) : Prop where
  S : s.S = []
  R : s.R = nd sApp 1
  t : s.T.length = 31 + j
  a : (j < 5 ∧ s.Q = (fun _ => none) ∧ s.A = onlyA (pc j)) ∨ (j = 5 ∧ s.A = (fun _ => none) ∧ s.Q = upF (fun _ => none) 3 (some sApp))
theorem KnS.new : KnS (wNew [] (nd sApp 1)) 0 := by
  refine ⟨?_, ?_, ?_, .inl ⟨Nat.zero_lt_succ 4, ?_, ?_⟩⟩
  · unfold wNew; dsimp only
  · unfold wNew; dsimp only
  · exact texts_len []
  · unfold wNew; dsimp only
  · unfold wNew; dsimp only; exact wAsk_yes on1
theorem KnS.in (k : KnS s j) (hj : j < 5) : s.Q = (fun _ => none) ∧ s.A = onlyA (pc j) := by
  rcases k.a with h | h
  · exact h.2
  · omega
theorem KnS.end (k : KnS s 5) : s.A = (fun _ => none) ∧ s.Q = upF (fun _ => none) 3 (some sApp) := by
  rcases k.a with h | h
  · omega
  · exact h.2
theorem KnS.at_ (k : KnS s j) (hj : j < 5) : s.A (pc j) = some (nd sApp (pc j)) := by rw [(k.in hj).2]; unfold onlyA; rw [upF_same]
theorem KnS.only (k : KnS s j) (hj : j < 5) {c : Nat} {x : List UInt8} (h : s.A c = some x) : c = pc j ∧ x = nd sApp (pc j) := by
  rw [(k.in hj).2] at h
  unfold onlyA at h
  by_cases e : c = pc j
  · subst e; rw [upF_same] at h; cases h; exact ⟨rfl, rfl⟩
  · rw [upF_ne _ _ e] at h; cases h
theorem KnS.next (k : KnS s j) (hj : j < 5) : (answerW s sApp (pc j)).1 = true ∧ KnS (answerW s sApp (pc j)).2 (j + 1) := by
  obtain ⟨p1, p2, p3, p4⟩ := pc_in j hj
  obtain ⟨hQ, hA⟩ := k.in hj
  obtain ⟨e, e1, e2⟩ := answerW_yes p1 p2 app_may (by decide) (k.at_ hj)
  refine ⟨e, ?_⟩
  have ht := k.t
  by_cases h16 : pc j < 16
  · rw [e1 h16]
    have hj4 : j < 4 := by
      rcases Nat.lt_or_ge j 4 with h | h
      · exact h
      · have := p4 (by omega); omega
    refine ⟨k.S, k.R, by show (s.T ++ [_]).length = _; rw [List.length_append]; simp; omega, .inl ⟨by omega, hQ, ?_⟩⟩
    show wAsk s.S (wAsk s.S (upF s.A (pc j) none) (2 * pc j) (nd sApp (2 * pc j))) (2 * pc j + 1) (nd sApp (2 * pc j + 1)) = _
    rw [k.S, hA, only_off]
    exact next_ask j hj4
  · rw [e2 (by omega)]
    have hj4 : j = 4 := by
      rcases Nat.lt_or_ge j 4 with h | h
      · have := p3 h; omega
      · omega
    subst hj4
    refine ⟨k.S, k.R, by show (s.T ++ [_]).length = _; rw [List.length_append]; simp; omega, .inr ⟨rfl, ?_, ?_⟩⟩
    · show upF s.A (16 + (pc 4 - 16)) none = _
      rw [hA]; exact only_off 19
    · show upF s.Q (pc 4 - 16) (some (partB sApp (pc 4 - 16))) = _
      rw [hQ]
      show upF _ 3 (some (partB sApp 3)) = _
      rw [app_page]
theorem KnS.noNode (k : KnS s j) (hj : j < 5) (hn : askP (pc j) = (lv, i) → shaN (innT a b) ≠ nd sApp (pc j)) : nodeW s lv i a b = (false, s) := by
  rcases nodeW_cases (s := s) (lv := lv) (i := i) (a := a) (b := b) with e | ⟨c, hc, ek, hA, _⟩
  · exact e
  · obtain ⟨rfl, e⟩ := k.only hj hA
    exact absurd e (hn ek)
theorem KnS.noPage (k : KnS s j) (hj : j < 5) (hn : (16 : Int) + i = (pc j : Nat) → shaN (76 :: pageL l) ≠ nd sApp (pc j)) : pageW s i l = (false, s) := by
  rcases pageW_cases (s := s) (i := i) (l := l) with e | ⟨c, hc, ek, _, hA, _⟩
  · exact e
  · obtain ⟨e1, e⟩ := k.only hj hA
    exact absurd e (hn (by omega))
theorem KnS.a0 (k : KnS s j) : s.A 0 = none := by
  rcases k.a with ⟨hj, _, hA⟩ | ⟨_, hA, _⟩
  · have := (pc_in j hj).1
    rw [hA]; unfold onlyA; rw [upF_ne _ _ (by omega)]
  · rw [hA]
theorem KnS.row (k : KnS s j) (hj : j < 5) {n : Nat} (hn : 1 ≤ n) : ((wList s.A).map askP).take n = [askP (pc j)] := by
  rw [(k.in hj).2, onlyA_list (pc_in j hj).2.1]
  exact List.take_of_length_le (by simpa using hn)
theorem KnS.done (k : KnS s 5) : wDone s = sApp := app_done k.S k.end.2
theorem turned : shaN (innT (nd sApp 3) (nd sApp 2)) ≠ nd sApp 1 := by
  rw [app3, app4, app_same (j := 3) (by omega) (by unfold Anc; omega), nil3 (by omega) (by omega)]
  decide +kernel
theorem app_bad : mayB [⟨[97, 112, 112], []⟩] = false := by decide +kernel
structure KnI (h0 : PH) (wb : Nat) (g : PH) (N : List Nat) (h : PH) (s : WS) (j : Nat) : Prop where
  k : KnS s j
  x : WalkAt g N h wb s
  st : Stp h0 [] h0 g N h
section
variable {h0 : PH} {wb tb : Nat}
/-- a node that does not fit -/
theorem KnI.node (I : KnI h0 wb g N h s j) (hj : j < 5) (ha : a.length = 32) (hb : b.length = 32) (hn : askP (pc j) = (lv, i) → shaN (innT a b) ≠ nd sApp (pc j)) (hk : ∀ N' h', KnI h0 wb g N' h' s j → K (.bool false) h') :
    CallH Tryz.prog id_walk_Walk_Node [.pointer (some ⟨wb, 0, none⟩), .int .i64 lv, .int .i64 i, .agg (((bi a).map (Value.int .u8) ++ [])).toArray, .agg (((bi b).map (Value.int .u8) ++ [])).toArray] K h := by
  have hj' := hj
  refine cWNodeV I.x I.st.spl ha hb (by have := I.k.t; omega) fun N' h' x' st' => ?_
  rw [I.k.noNode hj hn] at x' ⊢
  exact hk N' h' ⟨I.k, x', I.st.trans st'⟩
theorem KnI.page (I : KnI h0 wb g N h s j) (hj : j < 5) {lA : Option Addr} {lC : Nat} (hl : SR EncPr g lA l) (hn : l.length ≤ 1000) (hs : ∀ x ∈ l, x.p.length ≤ 1000000) (hno : (16 : Int) + i = (pc j : Nat) → shaN (76 :: pageL l) ≠ nd sApp (pc j)) (hk : ∀ g' N' h', g.Sub g' → KnI h0 wb g' N' h' s j → K (.bool false) h') :
    CallH Tryz.prog id_walk_Walk_Page [.pointer (some ⟨wb, 0, none⟩), .int .i64 i, .slice lA l.length lC] K h := by
  have hj' := hj
  refine cWPageV I.x I.st.spl hl hn hs (by have := I.k.t; omega) fun g' N' h' x' st' => ?_
  rw [I.k.noPage hj hno] at x' ⊢
  exact hk g' N' h' st'.gs ⟨I.k, x', I.st.trans st'⟩
theorem KnI.want (I : KnI h0 wb g N h s j) (hj : j < 5) (hk : ∀ a' c' g' h', g.Sub g' → KnI h0 wb g' N h' s j → SR EncAsk g' a' [askP (pc j)] → K (.slice a' 1 c') h') :
    CallH Tryz.prog id_walk_Walk_Want [.pointer (some ⟨wb, 0, none⟩), .int .i64 (9 : Int)] K h := by
  refine cWWantG I.x I.st.spl I.k.a0 fun a' c' g' h' s' st' hr => ?_
  rw [I.k.row hj (by decide)] at hr ⊢
  exact hk a' c' g' h' st'.gs ⟨I.k, I.x.keep st'.gs fun q _ o e => s' q o e, I.st.trans st'⟩ hr
end
end TL

namespace TL
open Go Go.Proofs
variable {g h : PH} {N : List Nat} {K : Value → PH → Prop} {sb : Nat} {s : ShS} {v : VwR}
variable {rA eA pA : Option Addr} {rC eC pC : Nat} {rows : List OsR} {eps : List Int} {prs : List PrR} {r0 r1 : Int}

/-- a row, in memory -/
structure RowOk (h : PH) (rA : Option Addr) (rows : List OsR) (eA : Option Addr) (eps : List Int) (pA : Option Addr) (prs : List PrR) : Prop where
  rw : SR EncOs h rA rows
  op : ∀ r ∈ rows, SR EncOp h r.a r.ops
  ep : SR EncI h eA eps
  pr : SR EncPr h pA prs
theorem RowOk.sub {h' : PH} (x : RowOk h rA rows eA eps pA prs) (s : h.Sub h') : RowOk h' rA rows eA eps pA prs := ⟨x.rw.sub s, fun r hr => (x.op r hr).sub s, x.ep.sub s, x.pr.sub s⟩
end TL

namespace TL
open Go Go.Proofs
variable {g h : PH} {N : List Nat} {K : Value → PH → Prop} {sb : Nat} {s : ShS} {v : VwR}
variable {rA eA pA : Option Addr} {rC eC pC : Nat} {rows : List OsR} {eps : List Int} {prs : List PrR} {r0 r1 : Int}

abbrev okP (l : List PrR) : Prop := mayB l = true ∧ l.length ≤ 48
section
variable {epoch gone prev : Int} {bs : List BtR} {a : Option Addr} {c : Nat}
end
end TL

namespace TL
open Go Go.Proofs
variable {g h : PH} {N : List Nat} {K : Value → PH → Prop} {s p m k : List UInt8} {a : Option Addr} {c : Nat} {l : List PrR}
end TL

namespace TL
open Go Go.Proofs
variable {g h : PH} {N : List Nat} {K : Value → PH → Prop} {sb wb : Nat}
variable {rA eA pA : Option Addr} {rC eC pC : Nat} {rows : List OsR} {eps : List Int} {prs : List PrR} {r0 r1 : Int}
/-- an answered walk beside a ship -/
structure CopI (h0 : PH) (sb : Nat) (sS : ShS) (Ns : List Nat) (T : List PrR) (wb : Nat) (g : PH) (N : List Nat) (h : PH) (s : WS) (n : Nat) : Prop where
  f : ∃ W X, FewV s W X T
  v : WOk s
  R : s.R = nd T 1
  t : s.T.length ≤ 31 + n
  z : wSize s.A + n ≤ 31
  x : WalkAt g N h wb s
  sh : ShipAt g Ns h sb sS
  dj : Dj Ns N
  st : Stp h0 [] h0 g (N ++ Ns) h
theorem CopI.grow {h0 : PH} {sS : ShS} {Ns : List Nat} {T : List PrR} {s : WS} {n : Nat} {h' : PH} (I : CopI h0 sb sS Ns T wb g N h s n) (s' : h.Sub h') : CopI h0 sb sS Ns T wb g N h' s n :=
  ⟨I.f, I.v, I.R, I.t, I.z, I.x.keep (PH.Sub.rf _) fun q _ o e => s' q o e, I.sh.keep (PH.Sub.rf _) fun q _ o e => s' q o e, I.dj, I.st.trans (I.st.spl.grow s')⟩
end TL
