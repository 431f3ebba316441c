/-
  The kit's contracts of slices.Sorted over maps.Keys, and of maps.Clone, as contracts over heap fragments. No condition.
-/
import Derived.Test.YtgibhmeaikodjaaLibD
import Derived.Shelf.SlIter.Nil
import Derived.Shelf.SlMaps.Clone
import Derived.Shelf.SortM.Plain
import Derived.Shelf.SortM.SortNone
import Derived.Test.YtgibhmeaikodjaaProg
import Derived.Test.YtgibhmeaikodjaaPath
namespace TL
open Go Go.Proofs Go.Shelf Go.RowKit Go.Maps

theorem encStr_strV (p : List UInt8) : encStr p = strV p := rfl
theorem encS_row (l : List (List UInt8)) : EncS.row l = l.map encStr := by
  induction l with
  | nil => rfl
  | cons x r ih => rw [Enc.row_cons, ih]; rfl
/-- what lies below stays: a fragment's frame -/
theorem frm_of_below {h : PH} {w w' : World} (hi : h.In w) (hb : RowKit.Below w.heap.size w w') : Frm h w h w' ∧ ∀ g o, w.heap.size ≤ g → w'.heap[g]? = some o → Frm h w (h.upd g o) w' := by
  have hold : ∀ b, b < w.heap.size → w'.heap[b]? = w.heap[b]? := fun b hb' => hb.block _ hb'
  have hin : h.In w' := fun b o e => (hold b (hi.lt e)).trans (hi b o e)
  refine ⟨⟨hin, hb.size, fun b hb' e => ⟨e, hold b hb'⟩, hb.os, hb.output⟩, fun g o hg ho => ⟨fun b u e => ?_, hb.size, fun b hb' e => ⟨?_, hold b hb'⟩, hb.os, hb.output⟩⟩
  · by_cases hbg : b = g
    · subst hbg; rw [PH.upd_same] at e; cases e; exact ho
    · rw [PH.upd_ne _ _ hbg] at e; exact hin b u e
  · rw [PH.upd_ne _ _ (by omega)]; exact e
variable {P : Program} {ρk ρs : Ren}
def dumb (_ : Value) : Option (DataW Unit × List MemPlace) := some (.nil, [])
theorem owns_of {k : TypeId} (hk : P.underlying k = some .string) {w : World} {r : Nat} {es : List MapEntry} {c : Nat} {S : List PrR} (hr : w.heap[r]? = some (.map es.toArray c)) (hx : SMapE es c S) (hS : S.length ≤ 1000000) (hp : ∀ x ∈ S, x.p.length ≤ 1000000) :
    ∃ D, w.ownsMap P k dumb r S.length D ∧ (strKeys D).Perm (S.map (·.p)) ∧ Maps.size D = S.length := by
  have hkey : ∀ e ∈ es, ∃ p, e.key = strV p ∧ Go.keyOf P k e.key = some (.string p) := fun e he => by
    obtain ⟨p, hp1⟩ := hx.key e he
    have hm : strV p ∈ S.map fun x => strV x.p := hx.perm.mem_iff.1 (by rw [← hp1]; exact List.mem_map_of_mem he)
    obtain ⟨y, hy, e2⟩ := List.mem_map.1 hm
    have e2 := strV_inj e2
    refine ⟨p, hp1, ?_⟩
    rw [hp1]
    have : p.length ≤ maxLen := by
      have := hp y hy
      rw [← e2]
      have h2 : (1000000 : Nat) ≤ maxLen := by decide
      omega
    simp [Go.keyOf, hk, mapKey, strV, mk, ByteArray.size, this]
  have hlen := hx.len
  refine ⟨_, ⟨es.toArray, c, hr, ⟨?_, hx.st, fun x hxm => ?_⟩, by simp [hlen], rfl⟩, ?_, ?_⟩
  · have h2 : (1000000 : Nat) ≤ maxLen := by decide
    simp; omega
  · obtain ⟨p, _, h2⟩ := hkey x (by simpa using hxm)
    exact ⟨_, by simp [WideElems.rd, h2, dumb]; rfl⟩
  · have h1 : (strKeys (.map ((es.toArray.toList.map (WideElems.rg P k dumb)).foldr DataW.insert []))).Perm ((es.map (WideElems.rg P k dumb)).map fun p => strOf p.1) := by
      simp only [strKeys]
      exact (WideShapes.sorted_perm _).map _
    refine h1.trans ?_
    have h2 : ((es.map (WideElems.rg P k dumb)).map fun p => strOf p.1) = (es.map (·.key)).map fun v => match v with
      | .string s => bys s
      | _ => [] := by
      rw [List.map_map, List.map_map]
      refine List.map_congr_left fun e he => ?_
      obtain ⟨p, h3, h4⟩ := hkey e he
      simp only [Function.comp]
      have h5 : WideElems.rg P k dumb e = (.string p, .nil) := by simp [WideElems.rg, WideElems.rd, h4, dumb]
      rw [h5, h3]
      simp [strOf, strV, bys_mk]
    rw [h2]
    have h3 := hx.perm.map fun v => match v with
      | .string s => bys s
      | _ => []
    refine h3.trans ?_
    rw [List.map_map]
    have : (S.map ((fun v => match v with
      | .string s => bys s
      | _ => []) ∘ fun x => strV x.p)) = S.map (·.p) := by
      refine List.map_congr_left fun e _ => ?_
      simp [strV, bys_mk]
    rw [this]
  · simp only [Maps.size, length_sorted]
    simp [hlen]
theorem sorted_up {S : List PrR} (hu : Up S) {ss : List (List UInt8)} (h : ss.Perm (S.map (·.p))) : (ss.mergeSort fun x y => decide (x ≤ y)) = S.map (·.p) := by
  have h1 := mergeSort_of_perm h
  show ss.mergeSort leB = _
  rw [h1]
  refine List.mergeSort_of_pairwise (List.pairwise_map.2 (hu.imp fun {a b} hab => ?_))
  simp only [leB, decide_eq_true_eq]
  exact List.le_of_lt hab
/-- slices.Sorted(maps.Keys(m)): the paths as they rise -/
theorem cSortedKeys (Lk : SlLaysZ.n10 P ρk) (Ls : SlLaysZ.n6 P ρs) (hsort : AnyZ.SortsIn P ρs Fence.wide 5) (e9 : ∀ args w, (callFunc (ρs.f 9) args).run P w = .ok (.enter (ρs.f 9) args) w) (e10 : ∀ args w, (callFunc (ρk.f 10) args).run P w = .ok (.enter (ρk.f 10) args) w)
    {K : Value → PH → Prop} {h : PH} {r b : Nat} {S : List PrR} {T : TypeId} {fr : Nat × Nat} (hm : SMap h r S) (hb : h b = some (.cells #[.map (some r)] T fr)) (hS : S.length ≤ 1000000) (hp : ∀ x ∈ S, x.p.length ≤ 1000000)
    (hk : ∀ a c B' h', Buf EncS (ρs.t 26) B' h' a S.length c (S.map (·.p)) → Chg [] B' h h' → K (.slice a S.length c) h') : CallH P (ρs.f 6) [.func (.func (ρk.f 10)) #[] #[.pointer (some ⟨b, 0, none⟩)]] K h := by
  intro w hi
  obtain ⟨es, c, hr, hx⟩ := hm
  obtain ⟨D, hown, hperm, hsize⟩ := owns_of (P := P) (k := ρk.t 26) Lk.t26 (hi _ _ hr) hx hS hp
  have hbw : b < w.heap.size := hi.lt hb
  have hcell : w.cell? ⟨b, 0, none⟩ = some (.map (some r)) := by simp [World.cell?, hi _ _ hb]
  have hseq := AnyZ.keys_gives Lk Fence.wide 3 trivial rfl (by omega) b r S.length D w hbw hcell hown
  have h2 : (1000000 : Nat) ≤ maxLen := by decide
  have cS := AnyZ.sorted_in Ls Fence.wide 6 trivial trivial trivial trivial rfl (by omega) hsort e9 (ρk.f 10) #[.pointer (some ⟨b, 0, none⟩)] trivial e10 _ _ (by rw [hsize]; omega) (by rw [hsize]; omega) w hseq
  refine Calls.mono ((callsIn_wide (n := 6)).1 cS) ?_
  rintro e w' ⟨v, ss, rfl, hss, hrow, hnil, hbelow⟩
  have hpS : ss.Perm (S.map (·.p)) := hss.trans hperm
  have hlen : ss.length = S.length := by have := hpS.length_eq; simpa using this
  rw [sorted_up hx.up hpS] at hrow
  obtain ⟨f1, f2⟩ := frm_of_below hi hbelow
  rcases hrow.2 with ⟨rfl, h0⟩ | ⟨g, cap, cur, rfl, hbase, hg, r1, r2, r3, r4⟩
  · refine ⟨_, h, rfl, ?_, f1⟩
    have hS0 : S = [] := List.length_eq_zero_iff.1 (by omega)
    subst hS0
    exact hk none 0 [] h (Buf.nil _ _ _ _) (Chg.refl _ _)
  · have hgn : h g = none := by
      cases e : h g with
      | none => rfl
      | some o => exact absurd (hi.lt e) (by omega)
    refine ⟨_, h.upd g (.cells cur (ρs.t 26) (0, 0)), rfl, ?_, f2 g _ hbase hg⟩
    rw [hlen] at r1 r4 ⊢
    refine hk _ cap [g] _ ⟨by simp, .inr ⟨g, cur.toList.drop S.length, rfl, rfl, ?_, ?_, r1⟩⟩ (Chg.new _ hgn)
    · rw [PH.upd_same, encS_row]
      congr 2
      rw [Nat.mul_one] at r4
      rw [← r4, List.take_append_drop]
    · have : cur.toList.length = cap := by rw [Array.length_toList, r3, Nat.mul_one]
      rw [List.length_drop, this]; show _ = _ * 1; omega
/-- maps.Clone -/
theorem cCloneMap {ρ : Ren} (L : SlLaysW.n5 P ρ) {K : Value → PH → Prop} {h : PH} {r : Nat} {S : List PrR} (hm : SMap h r S) (hk : ∀ r' h', SMap h' r' S → Chg [] [r'] h h' → K (.map (some r')) h') : CallH P (ρ.f 5) [.map (some r)] K h := by
  intro w hi
  obtain ⟨es, c, hr, hx⟩ := hm
  refine Calls.mono (AnyW.maps_Clone L r es.toArray c w (hi _ _ hr)) ?_
  rintro e w' ⟨rfl, rfl⟩
  exact ⟨_, h.upd w.heap.size (.map es.toArray c), rfl, hk _ _ ⟨es, c, PH.upd_same _ _ _, hx⟩ (Chg.new _ hi.fresh), Frm.new hi _⟩
end TL

namespace Go.Proofs
open Go.Shelf
def Try.keysA_ren : Go.Shelf.Ren := ⟨fun | 7 => 58 | 10 => 72 | n => n, fun | 23 => 69 | 26 => 9 | 3 => 9 | 28 => 93 | 0 => 0 | 27 => 92 | 33 => 79 | 4 => 4 | n => n, fun | n => n⟩
theorem Try.keysA : Go.Proofs.SlLaysZ.n7 Try.prog Try.keysA_ren := {
  mixed := by kernel_rfl
  f7 := ⟨Try.f58.name, by decide, Try.func58.trans (congrArg some (by kernel_rfl))⟩
  f10 := ⟨Try.f72.name, by decide, Try.func72.trans (congrArg some (by kernel_rfl))⟩
  t0 := Try.underlying0
  a0 := Try.isAgg0
  z0 := Try.sizeOf0
  v0 := Try.zeroValue0
  t4 := Try.underlying4
  a4 := Try.isAgg4
  z4 := Try.sizeOf4
  v4 := Try.zeroValue4
  t23 := Try.underlying69
  a23 := Try.isAgg69
  z23 := Try.sizeOf69
  v23 := Try.zeroValue69
  t26 := Try.underlying9
  a26 := Try.isAgg9
  z26 := Try.sizeOf9
  v26 := Try.zeroValue9
  t27 := Try.underlying92
  a27 := Try.isAgg92
  z27 := Try.sizeOf92
  v27 := Try.zeroValue92
  t28 := Try.underlying93
  a28 := Try.isAgg93
  z28 := Try.sizeOf93
  v28 := Try.zeroValue93
  t33 := Try.underlying79
  a33 := Try.isAgg79
  z33 := Try.sizeOf79
  v33 := Try.zeroValue79}
def Try.sortedA_ren : Go.Shelf.Ren := ⟨fun | 6 => 57 | 8 => 70 | 9 => 71 | 11 => 77 | 13 => 79 | 12 => 78 | 23 => 93 | 24 => 94 | 14 => 84 | 15 => 85 | 16 => 86 | 17 => 87 | 18 => 88 | 19 => 89 | 20 => 90 | 21 => 91 | 22 => 92 | 25 => 96 | 26 => 97 | 27 => 98 | 28 => 99 | 29 => 100 | 30 => 101 | 31 => 102 | n => n, fun | 26 => 9 | 28 => 93 | 24 => 40 | 0 => 0 | 3 => 3 | 37 => 108 | 48 => 118 | 50 => 120 | 4 => 4 | 40 => 112 | 39 => 111 | 45 => 84 | 5 => 5 | 9 => 9 | 51 => 123 | 55 => 127 | 57 => 129 | 58 => 130 | 33 => 79 | n => n, fun | n => n⟩
theorem Try.sortedA : Go.Proofs.SlLaysZ.n6 Try.prog Try.sortedA_ren := {
  mixed := by kernel_rfl
  f6 := ⟨Try.f57.name, by decide, Try.func57.trans (congrArg some (by kernel_rfl))⟩
  f8 := ⟨Try.f70.name, by decide, Try.func70.trans (congrArg some (by kernel_rfl))⟩
  f11 := ⟨Try.f77.name, by decide, Try.func77.trans (congrArg some (by kernel_rfl))⟩
  t0 := Try.underlying0
  a0 := Try.isAgg0
  z0 := Try.sizeOf0
  v0 := Try.zeroValue0
  t24 := Try.underlying40
  a24 := Try.isAgg40
  z24 := Try.sizeOf40
  v24 := Try.zeroValue40
  t26 := Try.underlying9
  a26 := Try.isAgg9
  z26 := Try.sizeOf9
  v26 := Try.zeroValue9
  t28 := Try.underlying93
  a28 := Try.isAgg93
  z28 := Try.sizeOf93
  v28 := Try.zeroValue93
  i26 := by kernel_rfl}
def Try.sortA_ren : Go.Shelf.Ren := ⟨fun | 6 => 71 | 8 => 79 | 9 => 78 | 19 => 93 | 20 => 94 | 21 => 84 | 22 => 85 | 23 => 86 | 24 => 87 | 25 => 88 | 26 => 89 | 27 => 90 | 28 => 91 | 29 => 92 | 36 => 96 | 31 => 97 | 32 => 98 | 37 => 99 | 38 => 100 | 39 => 101 | 41 => 102 | n => n, fun | 27 => 40 | 29 => 9 | 3 => 3 | 32 => 108 | 26 => 40 | 0 => 0 | 44 => 118 | 46 => 120 | 4 => 4 | 36 => 112 | 35 => 111 | 41 => 84 | 5 => 5 | 9 => 9 | 53 => 123 | 57 => 127 | 63 => 129 | 64 => 130 | n => n, fun | n => n⟩
theorem Try.sortA : Go.Proofs.SlLaysM.n6 Try.prog Try.sortA_ren := {
  mixed := by kernel_rfl
  f6 := ⟨Try.f71.name, by decide, Try.func71.trans (congrArg some (by kernel_rfl))⟩
  f8 := Try.func79.trans (congrArg some (by kernel_rfl))
  f9 := ⟨Try.f78.name, by decide, Try.func78.trans (congrArg some (by kernel_rfl))⟩
  f19 := Try.func93.trans (congrArg some (by kernel_rfl))
  f20 := Try.func94.trans (congrArg some (by kernel_rfl))
  f21 := ⟨Try.f84.name, by decide, Try.func84.trans (congrArg some (by kernel_rfl))⟩
  f22 := ⟨Try.f85.name, by decide, Try.func85.trans (congrArg some (by kernel_rfl))⟩
  f23 := ⟨Try.f86.name, by decide, Try.func86.trans (congrArg some (by kernel_rfl))⟩
  f24 := ⟨Try.f87.name, by decide, Try.func87.trans (congrArg some (by kernel_rfl))⟩
  f25 := ⟨Try.f88.name, by decide, Try.func88.trans (congrArg some (by kernel_rfl))⟩
  f26 := ⟨Try.f89.name, by decide, Try.func89.trans (congrArg some (by kernel_rfl))⟩
  f27 := ⟨Try.f90.name, by decide, Try.func90.trans (congrArg some (by kernel_rfl))⟩
  f28 := ⟨Try.f91.name, by decide, Try.func91.trans (congrArg some (by kernel_rfl))⟩
  f29 := ⟨Try.f92.name, by decide, Try.func92.trans (congrArg some (by kernel_rfl))⟩
  f31 := Try.func97.trans (congrArg some (by kernel_rfl))
  f32 := Try.func98.trans (congrArg some (by kernel_rfl))
  f36 := ⟨Try.f96.name, by decide, Try.func96.trans (congrArg some (by kernel_rfl))⟩
  f37 := ⟨Try.f99.name, by decide, Try.func99.trans (congrArg some (by kernel_rfl))⟩
  f38 := ⟨Try.f100.name, by decide, Try.func100.trans (congrArg some (by kernel_rfl))⟩
  f39 := ⟨Try.f101.name, by decide, Try.func101.trans (congrArg some (by kernel_rfl))⟩
  f41 := ⟨Try.f102.name, by decide, Try.func102.trans (congrArg some (by kernel_rfl))⟩
  t0 := Try.underlying0
  a0 := Try.isAgg0
  z0 := Try.sizeOf0
  v0 := Try.zeroValue0
  t3 := Try.underlying3
  a3 := Try.isAgg3
  z3 := Try.sizeOf3
  v3 := Try.zeroValue3
  t4 := Try.underlying4
  a4 := Try.isAgg4
  z4 := Try.sizeOf4
  v4 := Try.zeroValue4
  t5 := Try.underlying5
  a5 := Try.isAgg5
  z5 := Try.sizeOf5
  v5 := Try.zeroValue5
  t9 := Try.underlying9
  a9 := Try.isAgg9
  z9 := Try.sizeOf9
  v9 := Try.zeroValue9
  t26 := Try.underlying40
  a26 := Try.isAgg40
  z26 := Try.sizeOf40
  v26 := Try.zeroValue40
  t27 := Try.underlying40
  a27 := Try.isAgg40
  z27 := Try.sizeOf40
  v27 := Try.zeroValue40
  t29 := Try.underlying9
  a29 := Try.isAgg9
  z29 := Try.sizeOf9
  v29 := Try.zeroValue9
  t32 := Try.underlying108
  a32 := Try.isAgg108
  z32 := Try.sizeOf108
  v32 := Try.zeroValue108
  t35 := Try.underlying111
  a35 := Try.isAgg111
  z35 := Try.sizeOf111
  v35 := Try.zeroValue111
  t36 := Try.underlying112
  a36 := Try.isAgg112
  z36 := Try.sizeOf112
  v36 := Try.zeroValue112
  t41 := Try.underlying84
  a41 := Try.isAgg84
  z41 := Try.sizeOf84
  v41 := Try.zeroValue84
  t44 := Try.underlying118
  a44 := Try.isAgg118
  z44 := Try.sizeOf118
  v44 := Try.zeroValue118
  t46 := Try.underlying120
  a46 := Try.isAgg120
  z46 := Try.sizeOf120
  v46 := Try.zeroValue120
  t53 := Try.underlying123
  a53 := Try.isAgg123
  z53 := Try.sizeOf123
  v53 := Try.zeroValue123
  t57 := Try.underlying127
  a57 := Try.isAgg127
  z57 := Try.sizeOf127
  v57 := Try.zeroValue127
  t63 := Try.underlying129
  a63 := Try.isAgg129
  z63 := Try.sizeOf129
  v63 := Try.zeroValue129
  t64 := Try.underlying130
  a64 := Try.isAgg130
  z64 := Try.sizeOf130
  v64 := Try.zeroValue130}
def Try.cloneA_ren : Go.Shelf.Ren := ⟨fun | 5 => 38 | 7 => 56 | n => n, fun | 23 => 69 | 25 => 9 | 3 => 9 | 4 => 4 | 20 => 20 | n => n, fun | n => n⟩
theorem Try.cloneA : Go.Proofs.SlLaysW.n5 Try.prog Try.cloneA_ren := {
  mixed := by kernel_rfl
  f5 := ⟨Try.f38.name, by decide, Try.func38.trans (congrArg some (by kernel_rfl))⟩
  f7 := Try.func56.trans (congrArg some (by kernel_rfl))
  t4 := Try.underlying4
  a4 := Try.isAgg4
  z4 := Try.sizeOf4
  v4 := Try.zeroValue4
  t20 := Try.underlying20
  a20 := Try.isAgg20
  z20 := Try.sizeOf20
  v20 := Try.zeroValue20
  t23 := Try.underlying69
  a23 := Try.isAgg69
  z23 := Try.sizeOf69
  v23 := Try.zeroValue69}
end Go.Proofs

namespace TL
open Go Go.Proofs Go.Shelf
variable {B : List Nat} {h : PH} {K : Value → PH → Prop}

theorem sortsA (m : Nat) : AnyZ.SortsIn Try.prog Try.sortedA_ren Fence.wide m :=
  ⟨fun blk off cap ss W hH hblk hsz => callsIn_wide.2 (AnyM.slices_Sort_string Try.sortA blk off cap ss W hH hblk hsz),
   fun p cap W => callsIn_wide.2 (AnyM.slices_Sort_string_none Try.sortA p cap W)⟩

/-! ### A map in memory -/
def OmAt (B : List Nat) (h : PH) (x : Option Addr) (S : List PrR) : Prop :=
  ∃ bn bm, x = some ⟨bn, 0, none⟩ ∧ B = [bn, bm] ∧ bn ≠ bm ∧ h bn = some (.cells [.map (some bm)].toArray T_omap_Map (0, 0)) ∧ SMap h bm S
variable {x : Option Addr} {S : List PrR}
theorem OmAt.has (hx : OmAt B h x S) : Has B h := by
  obtain ⟨bn, bm, rfl, rfl, h1, h2, h3⟩ := hx
  intro b hb
  simp only [List.mem_cons, List.not_mem_nil, or_false] at hb
  rcases hb with rfl | rfl
  · exact ⟨_, h2⟩
  · exact h3.there
theorem OmAt.chg {C C' : List Nat} {h' : PH} (hx : OmAt B h x S) (hc : Chg C C' h h') (hd : Dj B C) : OmAt B h' x S := by
  obtain ⟨bn, bm, rfl, rfl, h1, h2, h3⟩ := hx
  exact ⟨bn, bm, rfl, rfl, h1, hc.keep h2 (hd _ (by simp)), h3.keep fun o e => hc.keep e (hd _ (by simp))⟩
theorem OmAt.sub {h' : PH} (hx : OmAt B h x S) (hs : h.Sub h') : OmAt B h' x S := by
  obtain ⟨bn, bm, rfl, rfl, h1, h2, h3⟩ := hx
  exact ⟨bn, bm, rfl, rfl, h1, hs _ _ h2, h3.keep fun o e => hs _ _ e⟩
theorem OmAt.up (hx : OmAt B h x S) : Up S := by obtain ⟨_, _, _, _, _, _, h⟩ := hx; exact h.up
/-- what a map's pairs are -/
def Gd (S : List PrR) : Prop := S.length ≤ 48 ∧ ∀ x ∈ S, cutB x.p ≠ none ∧ x.v.length ≤ 32
theorem cutB_len {p : List UInt8} (h : cutB p ≠ none) : p.length ≤ 33 := by
  cases hc : cutB p with
  | none => exact absurd hc h
  | some y =>
    obtain ⟨m, k⟩ := y
    obtain ⟨rfl, h1, h2⟩ := cut_iff.1 hc
    have := named_len h1
    have := key_len h2
    simp; omega
theorem cNewO (hk : ∀ x B' h', OmAt B' h' x [] → Chg [] B' h h' → K (.pointer x) h') : CallH Try.prog id_omap_New [] K h := by
  refine F_omap_New_ok fun bm hm => ?_
  refine nwL (cs := [.map (some bm)]) fun bn h2 hb hb2 hc => ?_
  have hm2 : h2 bm = some (.map #[] 0) := hc.1 bm _ (by simp) (PH.upd_same _ _ _)
  have hne : bn ≠ bm := fun e => by subst e; rw [PH.upd_same] at hb; cases hb
  refine hk _ [bn, bm] h2 ⟨bn, bm, rfl, rfl, hne, hb2, SMap.new hm2⟩ ?_
  refine ⟨fun b o _ e => hc.1 b o (by simp) (PH.upd_old _ hm e), fun b hb' => ?_⟩
  simp only [List.mem_cons, List.not_mem_nil, or_false] at hb'
  rcases hb' with rfl | rfl
  · rw [PH.upd_ne _ _ hne] at hb; exact .inr hb
  · exact .inr hm
theorem cGet {p : List UInt8} (hx : OmAt B h x S) (hk : K (.tuple #[.string (mk ((look S p).getD [])), .bool (look S p).isSome]) h) : CallH Try.prog id_omap_Map_Get [.pointer x, .string (mk p)] K h := by
  obtain ⟨bn, bm, rfl, rfl, h1, h2, h3⟩ := hx
  exact F_omap_Map_Get_ok ⟨nofun, fun _ => ⟨bn, 0, rfl, _, rdsL h2 rfl rfl, _, _, h3.look p, hk⟩⟩
theorem cPaths (hx : OmAt B h x S) (hg : Gd S) (hk : ∀ a c B' h', Buf EncS 9 B' h' a S.length c (S.map (·.p)) → Chg [] B' h h' → K (.slice a S.length c) h') : CallH Try.prog id_omap_Map_paths [.pointer x] K h := by
  obtain ⟨bn, bm, rfl, rfl, h1, h2, h3⟩ := hx
  refine F_omap_Map_paths_ok ⟨nofun, fun _ => ⟨bn, 0, rfl, _, rdsL h2 rfl rfl, F_maps_Keys_map_string_string_string_string_ok (nwL (cs := [.map (some bm)]) fun b h4 hb hb4 c4 => ⟨_, rfl, rfl, ?_⟩)⟩⟩
  have h34 := h3.keep fun o e => c4.keep (g := h4) e (by simp)
  refine cSortedKeys (ρk := Try.keysA_ren) (ρs := Try.sortedA_ren) { Try.keysA with } Try.sortedA (sortsA _) (enters_of Try.func71 (by kernel_rfl) rfl) (enters_of Try.func72 (by kernel_rfl) rfl) h34 hb4 (by have := hg.1; omega) (fun y hy => by have := cutB_len (hg.2 y hy).1; omega) ?_
  intro a c B' h' hb' hc'
  exact ⟨_, _, _, rfl, hk a c B' h' hb' (Chg.from c4.sub0 hc')⟩
theorem cPathsNil (hk : K (.slice none 0 0) h) : CallH Try.prog id_omap_Map_paths [.pointer none] K h := F_omap_Map_paths_ok ⟨fun _ => hk, nofun⟩
theorem cLen (hx : OmAt B h x S) (hg : Gd S) (hk : ∀ h', h.Sub h' → K (.int .i64 (S.length : Int)) h') : CallH Try.prog id_omap_Map_Len [.pointer x] K h :=
  F_omap_Map_Len_ok (cPaths hx hg fun _ _ _ h' _ hc => ⟨_, _, _, rfl, hk h' hc.sub0⟩)
theorem cAll (hx : OmAt B h x S) (hg : Gd S) (hk : ∀ a c B' h', Buf EncPr T_api_Pair B' h' a S.length c S → Chg [] B' h h' → K (.slice a S.length c) h') : CallH Try.prog id_omap_Map_All [.pointer x] K h := by
  have hu := hx.up
  refine F_omap_Map_All_ok (cPaths hx hg fun a c B1 h1 hb1 c1 => ⟨_, _, _, rfl, ?_⟩)
  refine LoopP.ind (fun (z : (Option Addr × Nat × Nat) × Int × Unit) h' => ∃ (i : Nat) (oA : Option Addr) (oN oC : Nat) (B' : List Nat), z = ((oA, oN, oC), (i : Int), ()) ∧ i ≤ S.length ∧ Buf EncPr T_api_Pair B' h' oA oN oC (S.take i) ∧ Chg [] B' h1 h') (fun z _ => (S.length - z.2.1).toNat) ?_
    ⟨0, none, 0, 0, [], rfl, Nat.zero_le _, Buf.nil _ _ _ _, Chg.refl _ _⟩
  rintro _ h2 ⟨i, oA, oN, oC, B2, rfl, hi, hb2, c2⟩
  dsimp only
  have hl48 := hg.1
  have hbn := hb2.1
  rw [List.length_take, Nat.min_eq_left hi] at hbn
  refine ⟨fun e => ?_, fun e => ?_⟩
  · have e : i < S.length := by simpa using e
    obtain ⟨b, o, hA, hr⟩ := (hb1.sr.sub c2.sub0).get (i := i) (by simpa using e)
    obtain ⟨bn, bm, rfl, rfl, g1, g2, g3⟩ := hx.sub (c1.sub0.tr c2.sub0)
    have hr1 := hr (o + i * 1) 0 1 rfl (by decide)
    have hl := g3.look S[i].p
    rw [look_of_mem hu (List.getElem_mem e)] at hl
    refine ⟨b, o, ⟨hA, by omega, by omega⟩, mk S[i].p, by simpa [EncS] using hr1, bn, 0, rfl, _, rdsL g2 rfl rfl, mk S[i].v, true, hl, ?_⟩
    refine hb2.append (new := [S[i]]) rfl rfl rfl (by omega) fun a' c' B' h' hb' hc' _ => ?_
    rw [wrap64 (n := (i : Int) + 1) (by omega) (by omega)]
    refine ⟨⟨i + 1, a', oN + 1, c', B', rfl, by omega, ?_, c2.trans hc'⟩, by omega⟩
    rw [List.take_succ_eq_append_getElem e]; exact hb'
  · have e : i = S.length := by simp at e; omega
    subst e
    rw [List.take_length] at hb2
    rw [hbn] at hb2 ⊢
    exact hk oA oC B2 h2 hb2 (Chg.from c1.sub0 c2)
theorem cAllNil (hk : K (.slice none 0 0) h) : CallH Try.prog id_omap_Map_All [.pointer none] K h :=
  F_omap_Map_All_ok (cPathsNil ⟨_, _, _, rfl, LoopP.ind (fun (z : (Option Addr × Nat × Nat) × Int × Unit) h' => z = ((none, 0, 0), (0 : Int), ()) ∧ h' = h) (fun _ _ => 0) (by
    rintro _ _ ⟨rfl, rfl⟩
    exact ⟨fun e => absurd e (by decide), fun _ => hk⟩) ⟨rfl, rfl⟩⟩)
theorem cTwin (hx : OmAt B h x S) (hk : ∀ y B' h', OmAt B' h' y S → Chg [] B' h h' → K (.pointer y) h') : CallH Try.prog id_omap_Map_Twin [.pointer x] K h := by
  obtain ⟨bn, bm, rfl, rfl, h1, h2, h3⟩ := hx
  refine F_omap_Map_Twin_ok ⟨nofun, fun _ => ⟨bn, 0, rfl, _, rdsL h2 rfl rfl, cCloneMap (ρ := Try.cloneA_ren) Try.cloneA h3 fun bm' h4 h34 c4 => ⟨_, rfl, nwL (cs := [.map (some bm')]) fun bn' h5 hb hb5 c5 => ?_⟩⟩⟩
  have hne : bn' ≠ bm' := fun e => by
    subst e
    obtain ⟨o, ho⟩ := h34.there
    rw [hb] at ho; cases ho
  refine hk _ [bn', bm'] h5 ⟨bn', bm', rfl, rfl, hne, hb5, h34.keep fun o e => c5.keep e (by simp)⟩ ?_
  exact c4.trans (c5.sub (C := [bm']) (C' := [bn', bm']) (by simp) fun b hb => by
    simp only [List.mem_cons, List.not_mem_nil, or_false] at hb ⊢
    exact hb)
/-! ### Operations -/
def doOps (S : List PrR) (ops : List OpR) : List PrR := ops.foldl (fun S o => if o.k = 2 then del S o.p else ins S o.p o.v) S
def doE (S : List PrR) (ops : List OpR) : Nat := if rightE 1 1 ops ≠ 0 then rightE 1 1 ops else if 48 < (doOps S ops).length then 6 else 0
def doS (S : List PrR) (ops : List OpR) : List PrR := if doE S ops = 0 then doOps S ops else S
theorem eachE_zero : ∀ {ops : List OpR}, eachE ops = 0 → ∀ o ∈ ops, oe o = 0
  | [], _, _, ho => by cases ho
  | o :: r, h, y, hy => by
    by_cases h0 : oe o = 0
    · simp only [eachE, h0, if_true] at h
      rcases List.mem_cons.1 hy with rfl | hy
      · exact h0
      · exact eachE_zero h y hy
    · simp only [eachE, h0, if_false] at h
theorem right_zero {ops : List OpR} (h : rightE 1 1 ops = 0) : ops.length ≤ 4 ∧ ∀ o ∈ ops, (o.k = 1 ∨ o.k = 2) ∧ cutB o.p ≠ none ∧ o.v.length ≤ 32 ∧ (o.k = 2 → o.v = []) := by
  unfold rightE at h
  rw [if_neg (by omega)] at h
  split at h
  · cases h
  · refine ⟨by omega, fun o ho => ?_⟩
    have := eachE_zero h o ho
    unfold oe at this
    split at this
    · cases this
    · rename_i h1
      split at this
      · cases this
      · rename_i h2
        split at this
        · cases this
        · rename_i h3
          split at this
          · cases this
          · rename_i h4
            refine ⟨?_, h2, by omega, fun e => ?_⟩
            · by_cases e : o.k = 1
              · exact .inl e
              · exact .inr (Classical.byContradiction fun e2 => h1 ⟨e, e2⟩)
            · exact Classical.byContradiction fun e2 => h4 ⟨e, e2⟩
theorem doOps_up {S : List PrR} (hu : Up S) : ∀ ops : List OpR, Up (doOps S ops) := fun ops => by
  unfold doOps
  induction ops generalizing S with
  | nil => exact hu
  | cons o r ih =>
    rw [List.foldl_cons]
    split
    · exact ih (hu.del _)
    · exact ih (hu.ins _ _)
theorem doOps_mem {S : List PrR} {Q : PrR → Prop} (hS : ∀ x ∈ S, Q x) : ∀ (ops : List OpR), (∀ o ∈ ops, Q ⟨o.p, o.v⟩) → ∀ x ∈ doOps S ops, Q x := fun ops => by
  unfold doOps
  induction ops generalizing S with
  | nil => exact fun _ => hS
  | cons o r ih =>
    intro ho
    rw [List.foldl_cons]
    refine ih ?_ fun y hy => ho y (List.mem_cons_of_mem _ hy)
    split
    · intro x hx; exact hS x (List.mem_filter.1 hx).1
    · intro x hx
      rcases ins_mem hx with rfl | hx
      · exact ho o List.mem_cons_self
      · exact hS x hx
theorem Gd.do {S : List PrR} (hg : Gd S) (ops : List OpR) : Gd (doS S ops) := by
  unfold doS
  split
  · rename_i h
    unfold doE at h
    split at h
    · rename_i h1; exact absurd h h1
    · rename_i h1
      have hr : rightE 1 1 ops = 0 := Classical.byContradiction h1
      split at h
      · cases h
      · rename_i h2
        exact ⟨by omega, doOps_mem hg.2 ops fun o ho => ⟨((right_zero hr).2 o ho).2.1, ((right_zero hr).2 o ho).2.2.1⟩⟩
  · exact hg
theorem doS_up {S : List PrR} (hu : Up S) (ops : List OpR) : Up (doS S ops) := by
  unfold doS; split
  · exact doOps_up hu _
  · exact hu
variable {oA : Option Addr} {oC : Nat} {ops : List OpR}
theorem cDo (hx : OmAt B h x S) (hl : SR EncOp h oA ops) (hn : ops.length ≤ 1000000) (hp : ∀ o ∈ ops, o.p.length ≤ 4611686018427387904)
    (hk : ∀ B' h', OmAt B' h' x (doS S ops) → Chg B B' h h' → K (.int .i64 (doE S ops : Int)) h') : CallH Try.prog id_omap_Map_Do [.pointer x, .slice oA ops.length oC] K h := by
  have hx0 := hx
  obtain ⟨bn, bm, rfl, rfl, h1, h2, h3⟩ := hx
  refine F_omap_Map_Do_ok ⟨nofun, fun _ => cRightB hl hn hp ⟨_, rfl, fun e => ?_, fun e => ?_⟩⟩
  · have e : rightE 1 1 ops ≠ 0 := fun h => by rw [h] at e; simp at e
    have hE : doE S ops = rightE 1 1 ops := by unfold doE; rw [if_pos e]
    have hS : doS S ops = S := by unfold doS; rw [hE, if_neg e]
    rw [hE, hS] at hk
    exact hk _ h hx0 (Chg.refl _ _)
  · have e : rightE 1 1 ops = 0 := by
      have : ((rightE 1 1 ops : Nat) : Int) = 0 := by simpa using e
      omega
    refine ⟨bn, 0, rfl, _, rdsL h2 rfl rfl, cCloneMap (ρ := Try.cloneA_ren) Try.cloneA h3 fun bm' h4 h34 c4 => ⟨_, rfl, ?_⟩⟩
    refine ⟨fun z h' => z = (some bm', ()) ∧ h' = h4, ⟨nofun, fun _ => ⟨rfl, rfl⟩⟩, ?_⟩
    rintro _ _ ⟨rfl, rfl⟩
    refine LoopP.ind (fun (z : Int × Unit) h' => ∃ i : Nat, z.1 = (i : Int) ∧ i ≤ ops.length ∧ SMap h' bm' (doOps S (ops.take i)) ∧ Chg [] [bm'] h h') (fun z _ => (ops.length - z.1).toNat) ?_ ⟨0, rfl, Nat.zero_le _, h34, c4⟩
    rintro ⟨_, u⟩ h5 ⟨i, rfl, hi, h35, c5⟩
    dsimp only
    refine ⟨fun e2 => ?_, fun e2 => ?_⟩
    · have e2 : i < ops.length := by simpa using e2
      obtain ⟨b, o, hA, hr⟩ := (hl.sub c5.sub0).get e2
      have hstep : doOps S (ops.take (i + 1)) = if ops[i].k = 2 then del (doOps S (ops.take i)) ops[i].p else ins (doOps S (ops.take i)) ops[i].p ops[i].v := by
        unfold doOps
        rw [List.take_succ_eq_append_getElem e2, List.foldl_append]; rfl
      refine ⟨b, o, ⟨hA, by omega, by omega⟩, ops[i].k, mk ops[i].p, mk ops[i].v, hr _ 0 3 (by simp [EncOp]) (by decide), fun e3 => ?_, fun e3 => ?_⟩
      · have e3 : ops[i].k = 2 := by simpa using e3
        rw [if_pos e3] at hstep
        refine h35.del _ fun h6 h36 c6 => ?_
        rw [wrap64 (n := (i : Int) + 1) (by omega) (by omega)]
        exact ⟨⟨i + 1, rfl, by omega, by rw [hstep]; exact h36, c5.trans c6⟩, by omega⟩
      · have e3 : ¬ ops[i].k = 2 := by simpa using e3
        rw [if_neg e3] at hstep
        refine h35.put _ _ fun h6 h36 c6 => ?_
        rw [wrap64 (n := (i : Int) + 1) (by omega) (by omega)]
        exact ⟨⟨i + 1, rfl, by omega, by rw [hstep]; exact h36, c5.trans c6⟩, by omega⟩
    · have e2 : i = ops.length := by simp at e2; omega
      subst e2
      rw [List.take_length] at h35
      refine ⟨_, h35.len, fun e3 => ?_, fun e3 => ?_⟩
      · have e3 : 48 < (doOps S ops).length := by simp at e3; omega
        have hE : doE S ops = 6 := by unfold doE; rw [if_neg (by simp [e]), if_pos e3]
        have hS : doS S ops = S := by unfold doS; rw [hE, if_neg (by decide)]
        rw [hE, hS] at hk
        exact hk _ h5 (hx0.sub c5.sub0) ⟨fun b o _ e => c5.sub0 b o e, fun b hb => .inl hb⟩
      · have e3 : ¬ 48 < (doOps S ops).length := by simp at e3; omega
        have hE : doE S ops = 0 := by unfold doE; rw [if_neg (by simp [e]), if_neg e3]
        have hS : doS S ops = doOps S ops := by unfold doS; rw [hE, if_pos rfl]
        rw [hE, hS] at hk
        have h25 := c5.keep h2 (by simp)
        have hbm' : h bm' = none := (c5.2 bm' (by simp)).resolve_left (by simp)
        have hne : bn ≠ bm' := fun e => by rw [e, hbm'] at h2; cases h2
        refine ⟨bn, 0, rfl, stL (cs' := [.map (some bm')]) h25 rfl rfl fun h6 hb6 c6 => hk [bn, bm'] h6 ⟨bn, bm', rfl, rfl, hne, hb6, h35.keep fun o e => c6.keep e (by simpa using hne.symm)⟩ ?_⟩
        refine ⟨fun b o hb e => c6.keep (c5.keep e (by simp)) (by simp at hb ⊢; exact hb.1), fun b hb => ?_⟩
        simp only [List.mem_cons, List.not_mem_nil, or_false] at hb
        rcases hb with rfl | rfl
        · exact .inl (by simp)
        · exact .inr hbm'
theorem cDoNil (hk : K (.int .i64 2) h) : CallH Try.prog id_omap_Map_Do [.pointer none, .slice oA ops.length oC] K h := F_omap_Map_Do_ok ⟨fun _ => hk, nofun⟩

/-! ### Texts in a row -/
def hasPre (pre p : List UInt8) : Bool := decide (pre.length ≤ p.length) && decide (p.take pre.length = pre)
theorem cHasPrefix {p pre : List UInt8} (hk : K (.bool (hasPre pre p)) h) : CallH Try.prog id_strings_HasPrefix [.string (mk p), .string (mk pre)] K h := by
  refine F_strings_HasPrefix_ok (F_internal_stringslite_HasPrefix_ok ⟨fun e => ⟨by omega, by omega, by simpa using e⟩, _, rfl, ?_⟩)
  have : (decide (((mk p).size : Int) ≥ ((mk pre).size : Int)) && strEq (subS (mk p) 0 ((mk pre).size : Int)) (mk pre)) = hasPre pre p := by
    rw [subS_mk, strEq_mk', size_mk, size_mk]
    unfold hasPre
    congr 1
    rw [decide_eq_decide]; omega
  rw [this]; exact hk
theorem cListF {bp : Nat} {pre p : List UInt8} {T : TypeId} {fr : Nat × Nat} (hb : h bp = some (.cells [.string (mk pre)].toArray T fr)) (hk : K (.bool (!(hasPre pre p))) h) : CallV Try.prog (.func (.func 41) #[] #[.pointer (some ⟨bp, 0, none⟩)]) [.string (mk p)] K h := by
  refine ⟨by kernel_rfl, ?_⟩
  exact F_omap_Map_List_1_ok ⟨mk pre, rdsL hb rfl rfl, cHasPrefix ⟨_, rfl, hk⟩⟩
section
variable {l : List (List UInt8)} {a : Option Addr} {n c : Nat} {T : TypeId} {f : Value} {q : List UInt8 → Bool}
theorem cIndexFuncS (hf : one1 f = true) (hl : SR EncS h a l) (hn : l.length ≤ 1000000) (hq : ∀ (x : List UInt8) (K' : Value → PH → Prop), K' (.bool (q x)) h → CallV Try.prog f [.string (mk x)] K' h)
    (hk : K (.int .i64 (match l.findIdx? q with
      | some i => (i : Int)
      | none => -1)) h) : CallH Try.prog id_slices_IndexFunc_string_string [.slice a l.length c, f] K h := by
  refine F_slices_IndexFunc_string_string_ok hf (LoopP.ind (fun (z : Int × Unit) h' => h' = h ∧ (0 ≤ z.1 ∧ z.1 ≤ l.length) ∧ ∀ j : Nat, (hj : j < l.length) → (j : Int) < z.1 → q l[j] = false) (fun z _ => (l.length - z.1).toNat) ?_ ⟨rfl, ⟨by decide, by show (0 : Int) ≤ _; omega⟩, fun j _ hj => by simp only at hj; omega⟩)
  rintro ⟨i, u⟩ h1 ⟨rfl, ⟨i0, i1⟩, ha⟩
  dsimp only at i0 i1 ha ⊢
  refine ⟨fun e => ?_, fun e => ?_⟩
  · have e : i < l.length := by simpa using e
    have hit : i.toNat < l.length := by omega
    obtain ⟨b, o, hA, hr⟩ := hl.get hit
    refine ⟨b, o, ⟨hA, i0, e⟩, _, hr _ 0 1 rfl (by decide), hq l[i.toNat] _ ⟨_, rfl, fun e2 => ?_, fun e2 => ?_⟩⟩
    · have : l.findIdx? q = some i.toNat := by
        rw [List.findIdx?_eq_some_iff_getElem]
        refine ⟨hit, e2, fun j hj => ?_⟩
        have := ha j (by omega) (by omega)
        simpa using this
      rw [this] at hk
      simp only at hk
      rw [Int.toNat_of_nonneg i0] at hk; exact hk
    · rw [wrap64 (n := i + 1) (by omega) (by omega)]
      refine ⟨⟨rfl, ⟨by omega, by omega⟩, fun j hj hji => ?_⟩, by omega⟩
      by_cases hji2 : (j : Int) < i
      · exact ha j hj hji2
      · have : j = i.toNat := by omega
        subst this; exact e2
  · have e : i = l.length := by simp at e; omega
    have : l.findIdx? q = none := by
      rw [List.findIdx?_eq_none_iff]
      intro x hx
      obtain ⟨j, hj, rfl⟩ := List.getElem_of_mem hx
      exact ha j hj (by omega)
    rw [this] at hk; exact hk
/-- slices.DeleteFunc on a row of one's own; the predicate reads what the row is not of -/
theorem cDeleteFuncS (hf : one1 f = true) (hb : Buf EncS T B h a n c l) (hn : l.length ≤ 1000000) {Pk : PH → Prop} (hP : Pk h) (hPc : ∀ g g', Pk g → Chg B B g g' → Pk g') (hq : ∀ (g : PH) (x : List UInt8) (K' : Value → PH → Prop), Pk g → K' (.bool (q x)) g → CallV Try.prog f [.string (mk x)] K' g)
    (hk : ∀ h', Buf EncS T B h' a (l.filter fun x => !(q x)).length c (l.filter fun x => !(q x)) → Chg B B h h' → K (.slice a (l.filter fun x => !(q x)).length c) h') : CallH Try.prog id_slices_DeleteFunc_string_string [.slice a n c, f] K h := by
  have hnl := hb.1
  have hle := hb.le
  subst hnl
  refine F_slices_DeleteFunc_string_string_ok hf (cIndexFuncS hf hb.sr hn (fun x K' hk' => hq h x K' hP hk') ⟨_, rfl, ?_⟩)
  cases hfi : l.findIdx? q with
  | none =>
    refine ⟨fun _ => ?_, fun e => by simp at e⟩
    rw [List.findIdx?_eq_none_iff] at hfi
    have : l.filter (fun x => !(q x)) = l := List.filter_eq_self.2 fun x hx => by rw [hfi x hx]; rfl
    rw [this] at hk
    exact hk h hb (Chg.refl _ _)
  | some i0 =>
    rw [List.findIdx?_eq_some_iff_getElem] at hfi
    obtain ⟨hi0, hq0, hlt0⟩ := hfi
    refine ⟨fun e => by simp at e <;> omega, fun _ => ?_⟩
    have hc0 : c ≠ 0 := by omega
    obtain ⟨b, ha, hB⟩ := hb.spot hc0
    have hstart : (l.take (i0 + 1)).filter (fun x => !(q x)) = l.take i0 := by
      rw [List.take_succ_eq_append_getElem hi0, List.filter_append]
      have h1 : (l.take i0).filter (fun x => !(q x)) = l.take i0 := List.filter_eq_self.2 fun x hx => by
        obtain ⟨j, hj, rfl⟩ := List.getElem_of_mem hx
        rw [List.length_take] at hj
        have := hlt0 j (by omega)
        simpa using this
      rw [h1]; simp [hq0]
    rw [wrap64 (n := (i0 : Int) + 1) (by omega) (by omega)]
    refine LoopP.ind (fun (z : Int × Int × Unit) h' => ∃ (wi j : Nat) (l' : List (List UInt8)), z = ((wi : Int), (j : Int), ()) ∧ wi < j ∧ j ≤ l.length ∧ l'.length = l.length ∧ l'.take wi = (l.take j).filter (fun x => !(q x)) ∧ wi = ((l.take j).filter (fun x => !(q x))).length ∧ l'.drop j = l.drop j ∧ Buf EncS T B h' a l.length c l' ∧ Chg B B h h' ∧ Pk h')
      (fun z _ => (l.length - z.2.1).toNat) ?_ ⟨i0, i0 + 1, l, by simp, by omega, by omega, rfl, hstart.symm, by rw [hstart, List.length_take]; omega, rfl, hb, Chg.refl _ _, hP⟩
    rintro _ h1 ⟨wi, j, l', rfl, hwj, hj, hl', htk, hwl, hdr, hb1, c1, hP1⟩
    dsimp only
    refine ⟨fun e => ?_, fun e => ?_⟩
    · have e : j < l.length := by simpa using e
      have hjl : j < l'.length := by omega
      have heq : l'[j] = l[j] := by
        rw [List.drop_eq_getElem_cons hjl, List.drop_eq_getElem_cons e] at hdr
        exact (List.cons.inj hdr).1
      obtain ⟨b1, o1, hA1, hr1⟩ := hb1.sr.get hjl
      rw [ha] at hA1
      cases hA1
      have hrd := hr1 (0 + j * 1) 0 1 rfl (by decide)
      rw [heq] at hrd
      refine ⟨b, 0, ⟨ha, by omega, by omega⟩, mk l[j], by simpa [EncS] using hrd, hq h1 l[j] _ hP1 ⟨_, rfl, fun e2 => ?_, fun e2 => ?_⟩⟩
      · have e2 : q l[j] = false := by simpa using e2
        have hwl2 : wi < l'.length := by omega
        refine ⟨b, 0, ⟨ha, by omega, by omega⟩, hb1.setAt (f := 0) (y := l[j]) hwl2 ha (by simp [EncS]) rfl (by simp [EncS]) fun h2 hb2 c2 => ?_⟩
        rw [wrap64 (n := (j : Int) + 1) (by omega) (by omega), wrap64 (n := (wi : Int) + 1) (by omega) (by omega)]
        have hf1 : (l.take (j + 1)).filter (fun x => !(q x)) = (l.take j).filter (fun x => !(q x)) ++ [l[j]] := by
          rw [List.take_succ_eq_append_getElem e, List.filter_append]
          congr 1
          simp [e2]
        refine ⟨⟨wi + 1, j + 1, l'.set wi l[j], rfl, by omega, by omega, by simp [hl'], ?_, ?_, ?_, hb2, c1.trans c2, hPc _ _ hP1 c2⟩, by omega⟩
        · rw [hf1, ← htk, List.take_set, List.take_succ_eq_append_getElem hwl2, List.set_append_right _ _ (by rw [List.length_take]; omega)]
          congr 1
          rw [List.length_take, Nat.min_eq_left (by omega)]
          simp
        · rw [hf1, List.length_append, ← hwl]; rfl
        · rw [List.drop_set_of_lt (by omega), ← List.drop_drop, ← List.drop_drop, hdr]
      · have e2 : q l[j] = true := by simpa using e2
        rw [wrap64 (n := (j : Int) + 1) (by omega) (by omega)]
        have hf1 : (l.take (j + 1)).filter (fun x => !(q x)) = (l.take j).filter (fun x => !(q x)) := by
          rw [List.take_succ_eq_append_getElem e, List.filter_append]
          simp [e2]
        exact ⟨⟨wi, j + 1, l', rfl, by omega, by omega, hl', by rw [hf1]; exact htk, by rw [hf1]; exact hwl, by rw [← List.drop_drop, ← List.drop_drop, hdr], hb1, c1, hP1⟩, by omega⟩
    · have e : j = l.length := by simp at e; omega
      subst e
      rw [List.take_length] at htk hwl
      have hx := hb1.take (i := wi) (by omega)
      rw [htk, hwl] at hx
      have hsl : slA a 1 (0 : Int) ((c : Nat) : Int) = a := slA0 a fun y hy => by rw [ha] at hy; cases hy; rfl
      have hres : ∀ h', Buf EncS T B h' a (l.filter fun x => !(q x)).length c (l.filter fun x => !(q x)) → Chg B B h h' → K (.slice (slA a 1 (0 : Int) ((c : Nat) : Int)) ((wi : Int).toNat - (0 : Int).toNat) (((c : Nat) : Int).toNat - (0 : Int).toNat)) h' := fun h' hb' hc' => by
        have := hk h' hb' hc'
        rw [hsl]
        rw [← hwl] at this
        simpa using this
      refine ⟨⟨by omega, by omega, by omega, by omega⟩, fun _ => ⟨⟨by omega, by omega, by omega, by omega⟩, hres h1 hx c1⟩, fun h0 => ?_⟩
      refine ⟨b, wi * 1, ?_, hx.behind ha hc0 (by rw [hwl]; rfl) ?_ fun h2 hb2 c2 => ⟨⟨by omega, by omega, by omega, by omega⟩, hres h2 hb2 (c1.trans c2)⟩⟩
      · unfold slA
        rw [if_neg (by omega), ha, Option.map_some, addr_add]; simp
      · simp [EncS]; omega
end
theorem cListO {pre : List UInt8} (hx : OmAt B h x S) (hg : Gd S) (hk : ∀ a c B' h', Buf EncS 9 B' h' a ((S.map (·.p)).filter (hasPre pre)).length c ((S.map (·.p)).filter (hasPre pre)) → Chg [] B' h h' → K (.slice a ((S.map (·.p)).filter (hasPre pre)).length c) h') :
    CallH Try.prog id_omap_Map_List [.pointer x, .string (mk pre)] K h := by
  refine F_omap_Map_List_ok (nwL (cs := [.string (mk pre)]) fun bp h1 hb hb1 c1 => cPaths (hx.sub c1.sub0) hg fun a c B2 h2 hb2 c2 => ⟨_, _, _, rfl, ?_⟩)
  have hnp : bp ∉ B2 := fun hm => by
    rcases c2.2 bp hm with h3 | h3
    · cases h3
    · rw [hb1] at h3; cases h3
  have hfe : (S.map (·.p)).filter (fun x => !(!(hasPre pre x))) = (S.map (·.p)).filter (hasPre pre) := by simp
  refine cDeleteFuncS (q := fun x => !(hasPre pre x)) rfl hb2 (by have := hg.1; simp; omega) (Pk := fun g => g bp = some (.cells [.string (mk pre)].toArray 9 (0, 0))) (c2.keep hb1 (by simp)) (fun g g' hg' hc' => hc'.keep hg' hnp) (fun g y K' hg' hk' => cListF hg' hk') fun h3 hb3 c3 => ⟨_, _, _, rfl, ?_⟩
  rw [hfe] at hb3 ⊢
  exact hk a c B2 h3 hb3 (Chg.from c1.sub0 (c2.trans c3))
end TL

namespace TL
open Go Go.Proofs Go.Shelf
variable {B : List Nat} {h : PH} {K : Value → PH → Prop} {x : Option Addr} {S : List PrR}

/-! ### Rows that are the same -/
section
variable {aA a2 : Option Addr} {aC c2 : Nat} {l m2 : List PrR}
theorem eqPrs (hl : SR EncPr h aA l) (hl2 : SR EncPr h a2 m2) (hn : l.length ≤ 1000000) (hk : K (.bool (decide (l = m2))) h) : F_ref13_Same aA l.length aC a2 m2.length c2 K h := by
  refine ⟨fun e => ?_, fun e => ?_⟩
  · have : l ≠ m2 := fun h => by rw [h] at e; simp at e
    simp only [this, decide_false] at hk
    exact hk
  · have hlen : l.length = m2.length := by simp at e; omega
    refine LoopP.ind (fun (z : Int × Unit) h' => h' = h ∧ (0 ≤ z.1 ∧ z.1 ≤ l.length) ∧ l.take z.1.toNat = m2.take z.1.toNat) (fun z _ => (l.length - z.1).toNat) ?_ ⟨rfl, ⟨by decide, by show (0 : Int) ≤ _; omega⟩, by simp⟩
    rintro ⟨i, u⟩ h1 ⟨rfl, ⟨i0, i1⟩, ha⟩
    dsimp only at i0 i1 ha ⊢
    refine ⟨fun e => ?_, fun e => ?_⟩
    · have e : i < l.length := by simpa using e
      have hit : i.toNat < l.length := by omega
      have hit2 : i.toNat < m2.length := by omega
      obtain ⟨b, o, hA, hr⟩ := hl.get hit
      obtain ⟨b', o', hA', hr'⟩ := hl2.get hit2
      have heq : (!((strEq (mk l[i.toNat].p) (mk m2[i.toNat].p)) && ((strEq (mk l[i.toNat].v) (mk m2[i.toNat].v)) && true))) = !(decide (l[i.toNat] = m2[i.toNat])) := by
        rw [strEq_mk', strEq_mk']
        cases l[i.toNat]; cases m2[i.toNat]
        simp only [PrR.mk.injEq, Bool.decide_and, Bool.and_true]
      refine ⟨b, o, ⟨hA, i0, e⟩, _, _, hr _ 0 2 rfl (by decide), b', o', ⟨hA', i0, by omega⟩, _, _, hr' _ 0 2 rfl (by decide), fun e2 => ?_, fun e2 => ?_⟩
      · rw [heq] at e2
        have e2 : l[i.toNat] ≠ m2[i.toNat] := by simpa using e2
        have : l ≠ m2 := fun h => e2 (by simp [h])
        simp only [this, decide_false] at hk
        exact hk
      · rw [heq] at e2
        have e2 : l[i.toNat] = m2[i.toNat] := by simpa using e2
        rw [wrap64 (n := i + 1) (by omega) (by omega)]
        refine ⟨⟨rfl, ⟨by omega, by omega⟩, ?_⟩, by omega⟩
        rw [show (i + 1).toNat = i.toNat + 1 by omega, List.take_succ_eq_append_getElem hit, List.take_succ_eq_append_getElem hit2, ha, e2]
    · have e : i = l.length := by simp at e; omega
      rw [e, Int.toNat_natCast, List.take_length, hlen, List.take_length] at ha
      simp only [ha, decide_true] at hk
      exact hk
theorem cRSame (hl : SR EncPr h aA l) (hl2 : SR EncPr h a2 m2) (hn : l.length ≤ 1000000) (hk : K (.bool (decide (l = m2))) h) : CallH Try.prog id_ref13_Same [.slice aA l.length aC, .slice a2 m2.length c2] K h :=
  F_ref13_Same_ok (eqPrs hl hl2 hn hk)
theorem cEqPrs (hl : SR EncPr h aA l) (hl2 : SR EncPr h a2 m2) (hn : l.length ≤ 1000000) (hk : K (.bool (decide (l = m2))) h) : CallH Try.prog id_slices_Equal_api_Pair_api_Pair [.slice aA l.length aC, .slice a2 m2.length c2] K h :=
  F_slices_Equal_api_Pair_api_Pair_ok (eqPrs (aC := aC) (c2 := c2) hl hl2 hn hk)
end
theorem cSameTexts {aA a2 : Option Addr} {aC c2 : Nat} {l m2 : List (List UInt8)} (hl : SR EncS h aA l) (hl2 : SR EncS h a2 m2) (hn : l.length ≤ 1000000) (hk : K (.bool (decide (l = m2))) h) : CallH Try.prog id_law13_SameTexts [.slice aA l.length aC, .slice a2 m2.length c2] K h := by
  refine F_law13_SameTexts_ok ⟨fun e => ?_, fun e => ?_⟩
  · have : l ≠ m2 := fun h => by rw [h] at e; simp at e
    simp only [this, decide_false] at hk
    exact hk
  · have hlen : l.length = m2.length := by simp at e; omega
    refine LoopP.ind (fun (z : Int × Unit) h' => h' = h ∧ (0 ≤ z.1 ∧ z.1 ≤ l.length) ∧ l.take z.1.toNat = m2.take z.1.toNat) (fun z _ => (l.length - z.1).toNat) ?_ ⟨rfl, ⟨by decide, by show (0 : Int) ≤ _; omega⟩, by simp⟩
    rintro ⟨i, u⟩ h1 ⟨rfl, ⟨i0, i1⟩, ha⟩
    dsimp only at i0 i1 ha ⊢
    refine ⟨fun e => ?_, fun e => ?_⟩
    · have e : i < l.length := by simpa using e
      have hit : i.toNat < l.length := by omega
      have hit2 : i.toNat < m2.length := by omega
      obtain ⟨b, o, hA, hr⟩ := hl.get hit
      obtain ⟨b', o', hA', hr'⟩ := hl2.get hit2
      refine ⟨b, o, ⟨hA, i0, e⟩, _, hr _ 0 1 rfl (by decide), b', o', ⟨hA', i0, by omega⟩, _, hr' _ 0 1 rfl (by decide), fun e2 => ?_, fun e2 => ?_⟩
      · rw [strEq_mk'] at e2
        have e2 : l[i.toNat] ≠ m2[i.toNat] := by simpa using e2
        have : l ≠ m2 := fun h => e2 (by simp [h])
        simp only [this, decide_false] at hk
        exact hk
      · rw [strEq_mk'] at e2
        have e2 : l[i.toNat] = m2[i.toNat] := by simpa using e2
        rw [wrap64 (n := i + 1) (by omega) (by omega)]
        refine ⟨⟨rfl, ⟨by omega, by omega⟩, ?_⟩, by omega⟩
        rw [show (i + 1).toNat = i.toNat + 1 by omega, List.take_succ_eq_append_getElem hit, List.take_succ_eq_append_getElem hit2, ha, e2]
    · have e : i = l.length := by simp at e; omega
      rw [e, Int.toNat_natCast, List.take_length, hlen, List.take_length] at ha
      simp only [ha, decide_true] at hk
      exact hk
theorem cSameO {x2 : Option Addr} {B2 : List Nat} {S2 : List PrR} (hx : OmAt B h x S) (hg : Gd S) (hx2 : OmAt B2 h x2 S2) (hg2 : Gd S2) (hk : ∀ h', h.Sub h' → K (.bool (decide (S = S2))) h') : CallH Try.prog id_omap_Same [.pointer x, .pointer x2] K h :=
  F_omap_Same_ok (cAll hx hg fun a c B1 h1 hb1 c1 => ⟨_, _, _, rfl, cAll (hx2.sub c1.sub0) hg2 fun a2 c2 B3 h2 hb2 c2 => ⟨_, _, _, rfl, cEqPrs (hb1.sr.sub c2.sub0) hb2.sr (by have := hg.1; omega) ⟨_, rfl, hk h2 (c1.sub0.tr c2.sub0)⟩⟩⟩)

/-! ### A path has a value -/
theorem cPutO {p v : List UInt8} {KK : PH → Prop} (hx : OmAt B h x S) (hk : ∀ h', OmAt B h' x (ins S p v) → Chg B B h h' → KK h') :
    ∃ bv ov : Nat, x = some ⟨bv, ov, none⟩ ∧ ∃ t : Option Nat, (h.rds bv ov 1 = some [.map t]) ∧ muH .str h t (.string (mk p)) (.string (mk v)) KK := by
  obtain ⟨bn, bm, rfl, rfl, h1, h2, h3⟩ := hx
  refine ⟨bn, 0, rfl, _, rdsL h2 rfl rfl, h3.put p v fun h' h3' c' => hk h' ⟨bn, bm, rfl, rfl, h1, c'.keep h2 (by simpa using h1), h3'⟩ ?_⟩
  exact c'.sub (by simp) (by simp)
theorem ins_last {T : List PrR} {p v : List UInt8} (h : ∀ y ∈ T, y.p < p) : ins T p v = T ++ [⟨p, v⟩] := by
  induction T with
  | nil => rfl
  | cons y r ih =>
    have hy := h y List.mem_cons_self
    unfold ins
    rw [if_neg (List.lt_asymm hy), if_neg (fun e => by rw [e] at hy; exact List.lt_irrefl _ hy), ih fun z hz => h z (List.mem_cons_of_mem _ hz)]
    rfl
variable {lA : Option Addr} {lC : Nat} {ms : List Mt}
def shipS (ms : List Mt) (S : List PrR) : List PrR := S.filter fun x => shipsB ms x.p
theorem Gd.ship {S : List PrR} (hg : Gd S) (ms : List Mt) : Gd (shipS ms S) :=
  ⟨Nat.le_trans (List.length_filter_le _ _) hg.1, fun x hx => hg.2 x (List.mem_filter.1 hx).1⟩
theorem cFilterO (hx : OmAt B h x S) (hg : Gd S) (hl : SR EncMt h lA ms) (hn : ms.length ≤ 1000000) (hk : ∀ y B' h', OmAt B' h' y (shipS ms S) → Chg [] B' h h' → K (.pointer y) h') : CallH Try.prog id_omap_Map_Filter [.pointer x, .slice lA ms.length lC] K h := by
  have hu := hx.up
  refine F_omap_Map_Filter_ok (cNewO fun y B1 h1 y1 c1 => ⟨_, rfl, cAll (hx.sub c1.sub0) hg fun a c B2 h2 hb2 c2 => ⟨_, _, _, rfl, ?_⟩⟩)
  have y2 := y1.sub c2.sub0
  have c12 : Chg [] B1 h h2 := ⟨fun b o _ e => c2.sub0 b o (c1.sub0 b o e), c1.2⟩
  have dj : Dj B2 B1 := (c2.dj (Dj.nil B1) y1.has).symm
  refine LoopP.ind (fun (z : Int × Unit) h' => ∃ i : Nat, z.1 = (i : Int) ∧ i ≤ S.length ∧ OmAt B1 h' y (shipS ms (S.take i)) ∧ Chg B1 B1 h2 h') (fun z _ => (S.length - z.1).toNat) ?_ ⟨0, rfl, Nat.zero_le _, y2, Chg.refl _ _⟩
  rintro ⟨_, u⟩ h3 ⟨i, rfl, hi, y3, c3⟩
  have hb3 := hb2.chg c3 dj
  have c13 := c12.trans c3
  have hl48 := hg.1
  dsimp only
  refine ⟨fun e => ?_, fun e => ?_⟩
  · have e : i < S.length := by simpa using e
    obtain ⟨b, o, hA, hr⟩ := hb3.sr.get e
    have hpl := cutB_len (hg.2 _ (List.getElem_mem e)).1
    have htk : ∀ (q : Bool), shipsB ms S[i].p = q → shipS ms (S.take (i + 1)) = shipS ms (S.take i) ++ if q then [S[i]] else [] := fun q hq => by
      unfold shipS
      rw [List.take_succ_eq_append_getElem e, List.filter_append]
      cases q <;> simp [hq]
    refine ⟨b, o, ⟨hA, by omega, by omega⟩, mk S[i].p, mk S[i].v, hr _ 0 2 (by simp [EncPr]) (by decide), cShips (hl.sub c13.sub0) hn (by omega) fun h4 s4 => ⟨_, rfl, fun e2 => ?_, fun e2 => ?_⟩⟩
    · have c34 : Chg B1 B1 h3 h4 := ⟨fun b o _ e => s4 b o e, fun b hb => .inl hb⟩
      refine cPutO (y3.sub s4) fun h5 y5 c5 => ?_
      rw [wrap64 (n := (i : Int) + 1) (by omega) (by omega)]
      refine ⟨⟨i + 1, rfl, by omega, ?_, (c3.trans c34).trans c5⟩, by omega⟩
      rw [htk true e2, if_pos rfl]
      rw [ins_last] at y5
      · exact y5
      · intro z hz
        have hz := (List.mem_filter.1 hz).1
        obtain ⟨j, hj, rfl⟩ := List.getElem_of_mem hz
        rw [List.length_take] at hj
        rw [List.getElem_take]
        exact List.pairwise_iff_getElem.1 hu j i (by omega) e (by omega)
    · have c34 : Chg B1 B1 h3 h4 := ⟨fun b o _ e => s4 b o e, fun b hb => .inl hb⟩
      rw [wrap64 (n := (i : Int) + 1) (by omega) (by omega)]
      refine ⟨⟨i + 1, rfl, by omega, ?_, c3.trans c34⟩, by omega⟩
      rw [htk false e2]
      simpa using y3.sub s4
  · have e : i = S.length := by simp at e; omega
    subst e
    rw [List.take_length] at y3
    exact hk y B1 h3 y3 c13
theorem cFilterNil {lN : Nat} (hk : ∀ y B' h', OmAt B' h' y [] → Chg [] B' h h' → K (.pointer y) h') : CallH Try.prog id_omap_Map_Filter [.pointer none, .slice lA lN lC] K h :=
  F_omap_Map_Filter_ok (cNewO fun y B1 h1 y1 c1 => ⟨_, rfl, cAllNil ⟨_, _, _, rfl, LoopP.ind (fun (z : Int × Unit) h' => z = (0, ()) ∧ h' = h1) (fun _ _ => 0) (by
    rintro _ _ ⟨rfl, rfl⟩
    exact ⟨fun e => absurd e (by decide), fun _ => hk y B1 _ y1 c1⟩) ⟨rfl, rfl⟩⟩⟩)

/-! ### A map of pairs -/
def ofL : List PrR → List PrR → Nat × List PrR
  | [], S => (0, S)
  | x :: r, S => if cutB x.p = none ∨ 32 < x.v.length then (1, []) else if look S x.p ≠ none then (5, []) else ofL r (ins S x.p x.v)
def ofV (l : List PrR) : Nat × List PrR := if 48 < l.length then (6, []) else ofL l []
theorem ofL_gd : ∀ {l S T : List PrR}, ofL l S = (0, T) → Up S → (∀ x ∈ S, cutB x.p ≠ none ∧ x.v.length ≤ 32) → Up T ∧ T.length = S.length + l.length ∧ ∀ x ∈ T, cutB x.p ≠ none ∧ x.v.length ≤ 32
  | [], S, T, h, hu, hq => by simp only [ofL, Prod.mk.injEq, true_and] at h; subst h; exact ⟨hu, by simp, hq⟩
  | x :: r, S, T, h, hu, hq => by
    unfold ofL at h
    split at h
    · simp at h
    · rename_i h1
      split at h
      · simp at h
      · rename_i h2
        have hn : look S x.p = none := Classical.byContradiction h2
        obtain ⟨g1, g2, g3⟩ := ofL_gd h (hu.ins _ _) fun y hy => by
          rcases ins_mem hy with rfl | hy
          · exact ⟨fun e => h1 (.inl e), by dsimp only; omega⟩
          · exact hq y hy
        refine ⟨g1, ?_, g3⟩
        rw [g2, ins_len _ _ _ hu, if_pos hn, List.length_cons]; omega
theorem ofV_gd {l T : List PrR} (h : ofV l = (0, T)) : Up T ∧ T.length = l.length ∧ Gd T := by
  unfold ofV at h
  split at h
  · simp at h
  · obtain ⟨g1, g2, g3⟩ := ofL_gd h List.Pairwise.nil (by simp)
    exact ⟨g1, by simpa using g2, by simp at g2; omega, g3⟩
theorem cOfO {l : List PrR} (hl : SR EncPr h lA l) (hp : ∀ x ∈ l, x.p.length ≤ 4611686018427387904) (hk : (ofV l).1 = 0 → ∀ m B' h', OmAt B' h' m (ofV l).2 → Chg [] B' h h' → K (.tuple #[.pointer m, .int .i64 0]) h') (hk2 : (ofV l).1 ≠ 0 → ∀ h', h.Sub h' → K (.tuple #[.pointer none, .int .i64 ((ofV l).1 : Int)]) h') :
    CallH Try.prog id_omap_Of [.slice lA l.length lC] K h := by
  refine F_omap_Of_ok ⟨fun e => ?_, fun e => ?_⟩
  · have e : 48 < l.length := by simp at e; omega
    have hv : ofV l = (6, []) := by unfold ofV; rw [if_pos e]
    rw [hv] at hk2
    exact hk2 (by decide) h fun _ _ e => e
  · have e : ¬ 48 < l.length := by simp at e; omega
    have hv : ofV l = ofL l [] := by unfold ofV; rw [if_neg e]
    rw [hv] at hk hk2
    refine cNewO fun m B1 h1 m1 c1 => ⟨_, rfl, ?_⟩
    refine LoopP.ind (fun (z : Int × Unit) h' => ∃ (i : Nat) (S : List PrR) (B' : List Nat), z.1 = (i : Int) ∧ i ≤ l.length ∧ ofL l [] = ofL (l.drop i) S ∧ OmAt B' h' m S ∧ Chg [] B' h h') (fun z _ => (l.length - z.1).toNat) ?_ ⟨0, [], B1, rfl, Nat.zero_le _, rfl, m1, c1⟩
    rintro ⟨_, u⟩ h2 ⟨i, S, B2, rfl, hi, hof, m2, c2⟩
    dsimp only
    refine ⟨fun e2 => ?_, fun e2 => ?_⟩
    · have e2 : i < l.length := by simpa using e2
      obtain ⟨b, o, hA, hr⟩ := (hl.sub c2.sub0).get e2
      rw [List.drop_eq_getElem_cons e2, ofL] at hof
      refine ⟨b, o, ⟨hA, by omega, by omega⟩, mk l[i].p, mk l[i].v, hr _ 0 2 (by simp [EncPr]) (by decide), cCut (hp _ (List.getElem_mem e2)) ⟨_, _, _, rfl, fun e3 => ?_, fun e3 => ?_⟩⟩
      · have e3 : cutB l[i].p = none ∨ 32 < l[i].v.length := by
          rw [size_mk] at e3
          simp only [Bool.or_eq_true, Bool.not_eq_true', decide_eq_true_eq] at e3
          rcases e3 with e3 | e3
          · left
            cases hc : cutB l[i].p with
            | none => rfl
            | some y => simp [cutV, hc] at e3
          · right; omega
        rw [if_pos e3] at hof
        rw [hof] at hk2
        exact hk2 (by decide) h2 c2.sub0
      · have e3 : ¬ (cutB l[i].p = none ∨ 32 < l[i].v.length) := by
          rw [size_mk] at e3
          simp only [Bool.or_eq_false_iff, Bool.not_eq_false', decide_eq_false_iff_not] at e3
          rintro (h | h)
          · rw [cut_none h] at e3; exact absurd e3.1 (by decide)
          · omega
        rw [if_neg e3] at hof
        have m2' := m2
        obtain ⟨bn, bm, rfl, rfl, g1, g2, g3⟩ := m2'
        refine ⟨bn, 0, rfl, _, rdsL g2 rfl rfl, _, _, g3.look l[i].p, fun e4 => ?_, fun e4 => ?_⟩
        · have e4 : look S l[i].p ≠ none := fun h => by rw [h] at e4; cases e4
          rw [if_pos e4] at hof
          rw [hof] at hk2
          exact hk2 (by decide) h2 c2.sub0
        · have e4 : ¬ look S l[i].p ≠ none := fun h => by
            cases hc : look S l[i].p with
            | none => exact h hc
            | some y => rw [hc] at e4; cases e4
          rw [if_neg e4] at hof
          refine cPutO m2 fun h3 m3 c3 => ?_
          rw [wrap64 (n := (i : Int) + 1) (by omega) (by omega)]
          exact ⟨⟨i + 1, _, _, rfl, by omega, hof, m3, c2.trans c3⟩, by omega⟩
    · have e2 : i = l.length := by simp at e2; omega
      subst e2
      rw [List.drop_length, ofL] at hof
      rw [hof] at hk
      exact hk rfl m B2 h2 m2 c2
/-! ### What statements go through -/
variable {rA : Option Addr} {rC : Nat} {rows : List OsR}
def gRows (rows : List OsR) : Bool := decide (200 < rows.length) || rows.any fun r => gOps r.ops
theorem gRows_no {rows : List OsR} (hg : gRows rows = false) : rows.length ≤ 200 ∧ ∀ r ∈ rows, gOps r.ops = false := by
  simp only [gRows, Bool.or_eq_false_iff, decide_eq_false_iff_not, List.any_eq_false] at hg
  exact ⟨by omega, fun r hr => by have := hg.2 r hr; simpa using this⟩
theorem cGreatO (hr : SR EncOs h rA rows) (hs : ∀ r ∈ rows, SR EncOp h r.a r.ops) (hk : K (.bool (gRows rows)) h) : CallH Try.prog id_law13_Great [.slice rA rows.length rC] K h := by
  refine F_law13_Great_ok ⟨fun e => ?_, fun e => ?_⟩
  · have e : 200 < rows.length := by simp at e; omega
    simpa [gRows, e] using hk
  · have e0 : ¬ 200 < rows.length := by simp at e; omega
    refine LoopP.ind (fun (z : Int × Unit) h' => h' = h ∧ (0 ≤ z.1 ∧ z.1 ≤ rows.length) ∧ ∀ j : Nat, (hj : j < rows.length) → (j : Int) < z.1 → gOps rows[j].ops = false) (fun z _ => (rows.length - z.1).toNat) ?_ ⟨rfl, ⟨by decide, by show (0 : Int) ≤ _; omega⟩, fun j _ hj => by simp only at hj; omega⟩
    rintro ⟨i, u⟩ h1 ⟨rfl, ⟨j0, j1⟩, ha⟩
    dsimp only at j0 j1 ha ⊢
    refine ⟨fun e => ?_, fun e => ?_⟩
    · have e : i < rows.length := by simpa using e
      have hit : i.toNat < rows.length := by omega
      obtain ⟨b, o, hA, hrd⟩ := hr.get hit
      refine ⟨b, o, ⟨hA, j0, e⟩, _, _, _, hrd _ 0 1 rfl (by decide), cGreatOps (hs _ (List.getElem_mem hit)) ⟨_, rfl, fun e2 => ?_, fun e2 => ?_⟩⟩
      · have : gRows rows = true := by
          simp only [gRows, Bool.or_eq_true]
          exact .inr (List.any_eq_true.2 ⟨_, List.getElem_mem hit, e2⟩)
        rw [this] at hk; exact hk
      · rw [wrap64 (n := i + 1) (by omega) (by omega)]
        refine ⟨⟨rfl, ⟨by omega, by omega⟩, fun j hj hji => ?_⟩, by omega⟩
        by_cases hji2 : (j : Int) < i
        · exact ha j hj hji2
        · have : j = i.toNat := by omega
          subst this; exact e2
    · have e : i = rows.length := by simp at e; omega
      have : gRows rows = false := by
        simp only [gRows, Bool.or_eq_false_iff, decide_eq_false_iff_not, List.any_eq_false]
        refine ⟨e0, fun r hr => ?_⟩
        obtain ⟨j, hj, rfl⟩ := List.getElem_of_mem hr
        simp [ha j hj (by omega)]
      rw [this] at hk; exact hk
def twoL : List Mt := [⟨[97, 112, 112], true⟩, ⟨[111, 112, 115], false⟩]
theorem cTwo (hk : ∀ b h', SR EncMt h' (some ⟨b, 0, none⟩) twoL → h.Sub h' → K (.slice (some ⟨b, 0, none⟩) 2 2) h') : CallH Try.prog id_law13_two [] K h := by
  refine F_law13_two_ok (nwL (cs := [.string (⟨#[97, 112, 112]⟩ : ByteArray), .bool true, .string (⟨#[111, 112, 115]⟩ : ByteArray), .bool false]) fun b h1 hb0 hb1 c1 => ?_)
  exact hk b h1 (.inr ⟨b, 0, rfl, rdsL hb1 rfl rfl⟩) c1.sub0
def appA : List UInt8 := [97, 112, 112, 47, 97]
def appC : List UInt8 := [97, 112, 112, 47, 99]
def opsB : List UInt8 := [111, 112, 115, 47, 98]
def wOps : List OpR := [⟨1, appA, [49]⟩, ⟨1, opsB, [50]⟩, ⟨2, appA, []⟩, ⟨1, appC, [51]⟩]
def wS : List PrR := [⟨appC, [51]⟩, ⟨opsB, [50]⟩]
theorem wS_eq : doS [] wOps = wS := by decide +kernel
theorem wE_eq : doE [] wOps = 0 := by decide +kernel
theorem wGd : Gd wS := by
  refine ⟨by decide, ?_⟩
  decide +kernel
theorem gd0 : Gd [] := ⟨by decide, by simp⟩
theorem cWakes (hk : ∀ h', h.Sub h' → K (.bool true) h') : CallH Try.prog id_law13_wakes [] K h := by
  refine F_law13_wakes_ok (cNewO fun x B1 h1 x1 c1 => ⟨_, rfl, nwL (cs := EncOp.row wOps) fun b h2 hb hb2 c2 => ?_⟩)
  have hops : SR EncOp h2 (some ⟨b, 0, none⟩) wOps := .inr ⟨b, 0, rfl, rdsL hb2 rfl rfl⟩
  refine cDo (ops := wOps) (x1.chg c2 (Dj.nil _)) hops (by decide) (by decide) fun B3 h3 x3 c3 => ⟨_, rfl, ?_⟩
  rw [wS_eq] at x3
  rw [wE_eq]
  have s3 : h.Sub h3 := fun b o e => by
    have h12 := c2.sub0 b o (c1.sub0 b o e)
    refine c3.keep h12 fun hm => ?_
    have := (c1.2 b hm).resolve_left (by simp)
    rw [this] at e; cases e
  refine cGet (p := appA) x3 ⟨_, _, rfl, cListO (pre := [97, 112, 112, 47]) x3 wGd fun a c B4 h4 hb4 c4 => ⟨_, _, _, rfl, ?_⟩⟩
  have hlst : (wS.map (·.p)).filter (hasPre [97, 112, 112, 47]) = [appC] := by decide +kernel
  rw [hlst] at hb4 ⊢
  obtain ⟨b5, o5, hA5, hr5⟩ := hb4.sr.get (i := 0) (by decide)
  refine ⟨b5, o5, fun _ => ⟨hA5, by decide, by decide⟩, mk appC, fun _ => by simpa [EncS] using hr5 (o5 + (0 : Int).toNat * 1) 0 1 (by simp) (by decide), fun _ => ?_, fun e => absurd e (by decide +kernel)⟩
  have x4 := x3.sub c4.sub0
  refine cLen x4 wGd fun h5 s5 => ⟨_, rfl, fun _ => cTwo fun bt h6 ht s6 => ⟨_, _, _, rfl, cFilterO (ms := twoL) ((x4.sub s5).sub s6) wGd ht (by decide) fun y B7 h7 y7 c7 => ⟨_, rfl, ?_⟩⟩, fun e => absurd e (by decide)⟩
  have hsh : shipS twoL wS = [⟨appC, [51]⟩] := by decide +kernel
  have hg7 := wGd.ship twoL
  rw [hsh] at y7 hg7
  exact cLen y7 hg7 fun h8 s8 => ⟨_, rfl, hk h8 ((((s3.tr c4.sub0).tr s5).tr s6).tr (c7.sub0.tr s8))⟩
end TL
