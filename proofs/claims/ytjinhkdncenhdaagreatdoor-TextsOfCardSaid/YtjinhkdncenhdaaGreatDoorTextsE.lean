/- Texts, part E: Find (a range over a function). -/
import Derived.Test.YtjinhkdncenhdaaGreatDoorTextsD
import Derived.RangeFuncNested
import Derived.RangeFuncBound
import Derived.RangeFuncBox
import Derived.RangeFuncCalls
import Derived.RangeFuncLeaves
import Derived.RangeFuncFrom
import Derived.Shelf.Abstract
import Derived.Shelf.RegionOpen
import Derived.OwnWalkIn
import Derived.TacticsInMore
import Derived.LoopNIn
import Derived.LoopIn
import Derived.BigRegionIn
set_option linter.unusedVariables false
set_option linter.unusedSimpArgs false
namespace Go.Proofs.YtjinhkdncenhdaaGreatDoor
open Go.RowKit Go.Shelf
attribute [local go_sem] Oper.semAt_some

/-- the first texts, as far as they are ahead of one -/
def aheadL (l : List ByteArray) (s : ByteArray) : List ByteArray := l.takeWhile fun t => Op.bytesLess t.toList s.toList

theorem ahead_take : ∀ (l : List ByteArray) (s : ByteArray) (k : Nat), k ≤ l.length → (∀ i t, l[i]? = some t → i < k → Op.bytesLess t.toList s.toList = true) →
    (∀ t, l[k]? = some t → Op.bytesLess t.toList s.toList = false) → aheadL l s = l.take k
  | [], _, k, _, _, _ => by simp [aheadL]
  | a :: r, s, 0, _, _, h => by
    have := h a rfl
    simp [aheadL, this]
  | a :: r, s, k + 1, hk, h1, h2 => by
    have ha := h1 0 a rfl (by omega)
    have := ahead_take r s k (by simpa using hk) (fun i t hi hik => h1 (i + 1) t (by simpa using hi) (by omega)) (fun t ht => h2 t (by simpa using ht))
    simp only [aheadL, List.takeWhile_cons, ha, if_true, List.take_succ_cons, List.cons.injEq, true_and]
    exact this

theorem cell_of_box_l {W : World} {b : Nat} {v : Value} {t : TypeId} (h : W.heap[b]? = some (.cells #[v] t)) : W.cell? ⟨b, 0, none⟩ = some v ∧ W.frozen? ⟨b, 0, none⟩ = false := by
  constructor
  · simp [World.cell?, h]
  · simp [World.frozen?, h]
theorem cell_new_l (W : World) (v : Value) (t : TypeId) : (W.alloc (.cells #[v] t)).cell? ⟨W.heap.size, 0, none⟩ = some v ∧ (W.alloc (.cells #[v] t)).frozen? ⟨W.heap.size, 0, none⟩ = false :=
  cell_of_box_l (World.alloc_heap_new W _)
theorem cell_alloc_l {W : World} {a : Addr} {v : Value} (o : Obj) (h : W.cell? a = some v) : (W.alloc o).cell? a = some v := cell_kept h (World.grownBy_alloc W o none) (fun r e => by cases e)
theorem frozen_alloc_l {W : World} {a : Addr} {v : Value} (o : Obj) (h : W.cell? a = some v) (hf : W.frozen? a = false) : (W.alloc o).frozen? a = false := (frozen_kept h (World.grownBy_alloc W o none) (fun r e => by cases e)).trans hf

/-- what a round keeps: what lay below, and the box of the text -/
def KpS (n₀ Bs : Nat) (W W' : World) : Prop := Below n₀ W W' ∧ W'.heap[Bs]? = W.heap[Bs]?
theorem KpS.refl (n₀ Bs : Nat) (W : World) : KpS n₀ Bs W W := ⟨Below.refl _ _, rfl⟩
theorem KpS.trans {n₀ Bs : Nat} {A B C : World} (h : KpS n₀ Bs A B) (k : KpS n₀ Bs B C) : KpS n₀ Bs A C := ⟨h.1.trans k.1, k.2.trans h.2⟩
theorem KpS.putObj {n₀ Bs : Nat} {w : World} (hn : n₀ ≤ w.heap.size) (hb : Bs < w.heap.size) (W : World) (l : Nat) (o o' : Obj) (hl : w.heap.size ≤ l) (h : W.heap[l]? = some o) (h1 : o.isCells = false) (h2 : o.isWalk = false) : KpS n₀ Bs W (W.putObj l o') :=
  ⟨belowK_b hn W l o o' hl h h1 h2, (grownBy_putObj' W l o').block Bs (by have := (Array.getElem?_eq_some_iff.1 h).1; omega) (by simp; omega)⟩

set_option maxRecDepth 100000 in
set_option maxHeartbeats 1000000 in
theorem ahead1_in (F : Fence) (n : Nat) (hf : F.fn 75) (hro : F.round = none) (hn : 1 ≤ n) (lp Bl Bs n₀ : Nat) (A : Option Addr) (m c : Nat) (l : List ByteArray) (s : ByteArray) (J Jx : List ByteArray → World → Prop)
    (hY : ∀ pre x W, J pre W → pre.length < l.length → YieldAt F (n - 1) Tryz.prog lp #[.string x] W fun e W' =>
      (e = .returned (.bool true) ∧ J (pre ++ [x]) W' ∧ KpS n₀ Bs W W') ∨ (e = .returned (.bool false) ∧ Jx (pre ++ [x]) W'))
    (W : World) (hBl : W.cell? ⟨Bl, 0, none⟩ = some (.slice A m c)) (hBs : W.cell? ⟨Bs, 0, none⟩ = some (.string s)) (w0 : World) (hS : Strs w0 A m l) (hw0 : w0.heap.size = n₀) (hW : Below n₀ w0 W) (h0 : J [] W) :
    CallsIn F n Tryz.prog 75 #[.func (.yield lp) #[] #[], .pointer (some ⟨Bl, 0, none⟩), .pointer (some ⟨Bs, 0, none⟩)] W fun e W' => (∃ v, e = .returned v) ∧
      ((∃ ys, ys = aheadL l s ∧ J ys W') ∨ (∃ pre, True ∧ Jx pre W')) := by
  have hm := hS.2.1
  have hl := hS.1
  refine callsIn_of_wp Tryz.func75 rfl hf ?_ hro
  simp only [Tryz.ntmps75, List.size_toArray, List.length_cons, List.length_nil, Nat.reduceAdd, Nat.reduceSub, Array.replicate_succ, Array.replicate_zero, List.push_toArray, List.append_toArray, List.nil_append, List.cons_append]
  gi_wp2
  gi_loopw [8] (fun i wr => ∃ k : Nat, k ≤ m ∧ i = .int .i64 k ∧ J (l.take k) wr ∧ KpS n₀ Bs W wr ∧ (∀ i t, l[i]? = some t → i < k → Op.bytesLess t.toList s.toList = true))
    (fun i _ => m - (intOf i).toNat)
  case atStart => exact ⟨0, Nat.zero_le _, rfl, h0, KpS.refl _ _ _, fun _ _ _ _ => by omega⟩
  case round =>
    obtain ⟨k, hk, rfl, hJs, hnx, hls⟩ := hrel
    have Hls := Lib.hid hls
    have Hl := Lib.hid hl
    clear hls hl
    have hcs := (World.cell?_of_block (a := ⟨Bs, 0, none⟩) hnx.2).trans hBs
    by_cases hlt : k < m
    · obtain ⟨ad, t, rfl, htk, hct, hts⟩ := hS.at_ hlt
      have hct' := ((hW.trans hnx.1).cell (p := ad.add k) (by rw [← hw0]; exact World.block_lt_of_cell? w0 _ hct)).trans hct
      have i2 : (k : Int) < (m : Int) := by omega
      have htake : l.take (k + 1) = l.take k ++ [t] := by
        rw [List.take_succ_eq_append_getElem (by have := Hl.out; omega), (List.getElem?_eq_some_iff.1 htk).2]
      have Htk := Lib.hid htk
      have Htake := Lib.hid htake
      clear htk htake
      cases hb : Op.bytesLess t.toList s.toList
      · gi_wp2
        refine ⟨fun _ h => (by cases h), ?_⟩
        gi_wp2
        refine bodyPost_ret (results_none rfl _ _ _) rfl ?_
        exact ⟨⟨_, rfl⟩, .inl ⟨_, rfl, by rw [ahead_take l s k (by have := Hl.out; omega) Hls.out (fun t' ht => by rw [Htk.out] at ht; cases ht; exact hb)]; exact hJs⟩⟩
      · obtain ⟨fn, tmps, assign, body, hy, hR⟩ := hY _ t wr hJs (by rw [List.length_take]; have := Hl.out; omega)
        gi_wp2
        refine hR.mono ?_
        rintro e W3 (⟨rfl, hJ3, hk3⟩ | ⟨rfl, hJx3⟩)
        · gi_wp2
          go_roundw
          case rel =>
            refine ⟨k + 1, by omega, by simp, by rw [Htake.out]; exact hJ3, hnx.trans hk3, ?_⟩
            intro i t' hi hik
            by_cases hik' : i < k
            · exact Hls.out i t' hi hik'
            · obtain rfl : i = k := by omega
              rw [Htk.out] at hi
              cases hi
              exact hb
          case measure => simp [intOf]; omega
        · gi_wp2
          refine bodyPost_ret (results_none rfl _ _ _) rfl ?_
          exact ⟨⟨_, rfl⟩, .inr ⟨_, trivial, hJx3⟩⟩
    · obtain rfl : k = m := by omega
      gi_wp2
      go_end0
      exact ⟨⟨_, rfl⟩, .inl ⟨_, rfl, by rw [ahead_take l s k (by have := Hl.out; omega) Hls.out (fun t ht => by have := (List.getElem?_eq_some_iff.1 ht).1; have := Hl.out; omega)]; exact hJs⟩⟩

/-- ahead(l, s): both are boxed; the function value captures the boxes -/
theorem ahead_in (F : Fence) (n : Nat) (hf : F.fn 23) (hro : F.round = none) (A : Option Addr) (m c : Nat) (s : ByteArray) (w : World) :
    CallsIn F n Tryz.prog 23 #[.slice A m c, .string s] w fun e w' => e = .returned (.func (.func 75) #[] #[.pointer (some ⟨w.heap.size, 0, none⟩), .pointer (some ⟨w.heap.size + 1, 0, none⟩)]) ∧
      w' = (w.alloc (.cells #[.slice A m c] 22)).alloc (.cells #[.string s] 9) := by
  refine callsIn_of_wp Tryz.func23 rfl hf ?_ hro
  simp only [Tryz.ntmps23, List.size_toArray, List.length_cons, List.length_nil, Nat.reduceAdd, Nat.reduceSub, Array.replicate_succ, Array.replicate_zero, List.push_toArray, List.append_toArray, List.nil_append, List.cons_append]
  gi_wp2
  go_ret
  exact ⟨rfl, rfl⟩

theorem ahead_stops (F : Fence) (n : Nat) (hf : F.fn 75) (hro : F.round = none) (hn : 1 ≤ n) (Bl Bs n₀ : Nat) (A : Option Addr) (m c : Nat) (l : List ByteArray) (s : ByteArray) (w : World)
    (hBl : w.cell? ⟨Bl, 0, none⟩ = some (.slice A m c)) (hBs : w.cell? ⟨Bs, 0, none⟩ = some (.string s)) (hlB : Bl < w.heap.size) (hsB : Bs < w.heap.size) (w0 : World) (hS : Strs w0 A m l) (hw0 : w0.heap.size = n₀) (hW : Below n₀ w0 w) :
    SeqStopsK F n Tryz.prog 75 #[.pointer (some ⟨Bl, 0, none⟩), .pointer (some ⟨Bs, 0, none⟩)] (fun x : ByteArray => #[Value.string x]) (KpS n₀ Bs) (fun ys => ys = aheadL l s) (fun _ => True) l.length w :=
  fun lp J Jx W hb _ _ hY h0 => by
    have hsz : n₀ ≤ w.heap.size := by rw [← hw0]; exact hW.size
    exact ahead1_in F n hf hro hn lp Bl Bs n₀ A m c l s J Jx hY W ((hb.cell (p := ⟨Bl, 0, none⟩) hlB).trans hBl) ((hb.cell (p := ⟨Bs, 0, none⟩) hsB).trans hBs) w0 hS hw0 (hW.trans (hb.mono hsz)) h0

/-- where a text stands, and whether it does -/
def findN (l : List ByteArray) (s : ByteArray) : Nat := (aheadL l s).length
def findB (l : List ByteArray) (s : ByteArray) : Bool := match l[findN l s]? with | some t => t.toList == s.toList | none => false

set_option maxRecDepth 100000 in
set_option maxHeartbeats 1000000 in
theorem find_any (A : Option Addr) (m c : Nat) (l : List ByteArray) (s : ByteArray) (w : World) (hS : Strs w A m l) :
    Calls Tryz.prog 7 #[.slice A m c, .string s] w fun e W' => e = .returned (.tuple #[.int .i64 (findN l s), .bool (findB l s)]) ∧ Below w.heap.size w W' := by
  refine (callsIn_wide (n := 3)).1 ?_
  obtain ⟨F, hFw⟩ : ∃ F, Fence.wide = F := ⟨_, rfl⟩
  have h10 : F.fn 7 := by rw [← hFw]; trivial
  have h19 : F.fn 23 := by rw [← hFw]; trivial
  have h23 : F.fn 75 := by rw [← hFw]; trivial
  have hro : F.round = none := by rw [← hFw]; rfl
  obtain ⟨n, hn'⟩ : ∃ n, 3 = n := ⟨_, rfl⟩
  have hn : 3 ≤ n := by omega
  have h1 : 1 ≤ n := by omega
  rw [hFw, hn']
  have HFw := Lib.hid hFw
  clear hFw hn'
  refine callsIn_of_wp_marks Tryz.func7 rfl h10 ?_ hro
  simp only [Tryz.ntmps7, List.size_toArray, List.length_cons, List.length_nil, Nat.reduceAdd, Nat.reduceSub, Array.replicate_succ, Array.replicate_zero, List.push_toArray, List.append_toArray, List.nil_append, List.cons_append]
  gi_wp2_with (gi_at_call 23; refine (ahead_in F (n - 1) h19 hro _ _ _ _ _).mono ?_; rintro e w' ⟨rfl, rfl⟩)
  have c0 := cell_new_l w (.int .i64 0) 3
  have c1 := cell_new_l (w.alloc (.cells #[.int .i64 0] 3)) (.slice A m c) 22
  have c2 := cell_new_l ((w.alloc (.cells #[.int .i64 0] 3)).alloc (.cells #[.slice A m c] 22)) (.string s) 9
  simp only [World.size_alloc] at c1 c2
  have hB0 : Below w.heap.size w (((w.alloc (.cells #[.int .i64 0] 3)).alloc (.cells #[.slice A m c] 22)).alloc (.cells #[.string s] 9)) := (((Below.refl _ w).alloc (Nat.le_refl _) _).alloc (by simp) _).alloc (by simp; omega) _
  have hm := hS.2.1
  have hsl := hS.1
  refine wpIn_rangeFunc_ownF hro h1 (gf := 75) (lb := #[.pointer (some ⟨w.heap.size + 1, 0, none⟩), .pointer (some ⟨w.heap.size + 1 + 1, 0, none⟩)]) rfl h23 (enters_of Tryz.func75 (by kernel_rfl) rfl)
    (ahead_stops F (n - 1) h23 hro (by omega) (w.heap.size + 1) (w.heap.size + 1 + 1) w.heap.size A m c l s _ (cell_alloc_l _ c1.1) c2.1 (by simp) (by simp) w hS rfl hB0) KpS.trans (KpS.putObj (by simp; omega) (by simp)) (Below.refl _ _) (fun _ => rfl)
    (fun pre W => (W.cell? ⟨w.heap.size, 0, none⟩ = some (.int .i64 pre.length) ∧ W.frozen? ⟨w.heap.size, 0, none⟩ = false) ∧ Below w.heap.size w W)
    (fun _ _ _ => False)
    (OwnFrom.and (Own.from (fun s A B row hs hg hr => ⟨cell_kept hs.1 hg hr, (frozen_kept hs.1 hg hr).trans hs.2⟩) _) (ownFrom_below (Nat.le_refl _) (by simp; omega)))
    (fun _ _ _ _ _ hs _ _ => hs)
    ⟨⟨cell_alloc_l _ (cell_alloc_l _ c0.1), frozen_alloc_l _ (cell_alloc_l _ c0.1) (frozen_alloc_l _ c0.1 c0.2)⟩, hB0⟩
    (fun x => { tmps := #[.slice A m c, .string s, undef, undef, .pointer (some ⟨w.heap.size, 0, none⟩), .bool false, .slice A m c, .string s, .func (.func 75) #[] #[.pointer (some ⟨w.heap.size + 1, 0, none⟩), .pointer (some ⟨w.heap.size + 1 + 1, 0, none⟩)], .string x, undef, undef, undef, undef, undef, undef, undef, undef, undef, undef, undef, undef, undef, undef, undef], defers := [] }) ?assign ?body ?done ?stop
  case assign =>
    intro l x W K hK
    gi_wp2
    simpa using hK
  case body =>
    rintro lp pre x W ⟨⟨hc, hf⟩, hB⟩ hlt
    have hpl : pre.length < 9223372036854775807 := by omega
    gi_wp2
    refine ⟨KeepsOthers.setCell _ _ _, ⟨(Below.refl w.heap.size W).setCell (p := ⟨w.heap.size, 0, none⟩) (Nat.le_refl _) _, Below.heap_setCell _ _ _ _ (by simp; omega)⟩, ⟨?_, by rw [World.frozen?_setCell]; exact hf⟩, hB.setCell (p := ⟨w.heap.size, 0, none⟩) (Nat.le_refl _) _⟩
    rw [List.length_append, List.length_singleton, Int.natCast_add]
    exact World.cell?_setCell_same' _ _ _ (by rw [hc]; rfl)
  case done =>
    rintro D ys W hD rfl ⟨⟨hc, hf⟩, hB⟩ hK
    have hfl : (aheadL l s).length ≤ l.length := List.Sublist.length_le (List.takeWhile_sublist _)
    have hD' : w.heap.size < D := by simp at hD; omega
    obtain ⟨k, hk⟩ : ∃ k, (aheadL l s).length = k := ⟨_, rfl⟩
    rw [hk] at hc hfl
    have hfn : findN l s = k := hk
    have Hfn := Lib.hid hfn
    have Hsl := Lib.hid hsl
    clear hk hfn hsl
    by_cases hlt : k < m
    · obtain ⟨ad, t, rfl, htk, hct, hts⟩ := hS.at_ hlt
      have hct' := (hB.cell (p := ad.add k) (World.block_lt_of_cell? w _ hct)).trans hct
      have i1 : (k : Int) < (m : Int) := by omega
      have i2 : (0 : Int) ≤ (k : Int) := by omega
      have i3 : decide ((k : Int) < (m : Int)) = true := decide_eq_true i1
      have hadb : (ad.add k).block < w.heap.size := World.block_lt_of_cell? w _ hct
      have hct2 : (W.setCell ⟨w.heap.size, 0, none⟩ (.int .i64 k)).cell? (ad.add k) = some (.string t) := (World.cell?_setCell_other W ⟨w.heap.size, 0, none⟩ (ad.add k) _ (fun e => by rw [← e] at hadb; simp at hadb)).trans hct'
      have i4 : decide (k < m) = true := decide_eq_true hlt
      gi_wp2
      cases HFw.out
      refine wpIn_wide.2 ?_
      go_region
      gi_wp2
      have hK' := (KeepsOthers.setCell W ⟨w.heap.size, 0, none⟩ (.int .i64 k)).same D _ hK rfl
      have hK2 : (W.setCell ⟨w.heap.size, 0, none⟩ (.int .i64 k)).drew.heap[D]? = some (.deferred (some [])) := hK'
      refine ⟨by simp, .inl ⟨_, _, rfl, run_takeDeferred hK2, ?_⟩⟩
      have hc4 := World.cell?_setCell_same' W ⟨w.heap.size, 0, none⟩ (.int .i64 k) (by rw [hc]; rfl)
      have hc5 := cell_kept (W := (W.setCell ⟨w.heap.size, 0, none⟩ (.int .i64 k)).drew) hc4 (grownBy_putObj' _ D (.deferred none)) (fun r e => by cases e; exact ⟨_, hK2, rfl⟩)
      refine ⟨.tuple #[.int .i64 k, .bool (t.toList == s.toList)], ?_, ?_, ((hB.setCell (p := ⟨w.heap.size, 0, none⟩) (by simp) _).drew).trans (belowK_b (w := w) (Nat.le_refl _) _ D _ _ (by omega) hK2 rfl rfl)⟩
      · simp [results, Tryz.f7, go_sem, hc5]
      · rw [findB, Hfn.out, htk]
    · have i1 : ¬ (k : Int) < (m : Int) := by omega
      have i3 : decide ((k : Int) < (m : Int)) = false := decide_eq_false i1
      have i4 : decide (k < m) = false := decide_eq_false hlt
      gi_wp2
      cases HFw.out
      refine wpIn_wide.2 ?_
      go_region
      gi_wp2
      have hK' := (KeepsOthers.setCell W ⟨w.heap.size, 0, none⟩ (.int .i64 k)).same D _ hK rfl
      have hK2 : (W.setCell ⟨w.heap.size, 0, none⟩ (.int .i64 k)).drew.heap[D]? = some (.deferred (some [])) := hK'
      refine ⟨by simp, .inl ⟨_, _, rfl, run_takeDeferred hK2, ?_⟩⟩
      have hc4 := World.cell?_setCell_same' W ⟨w.heap.size, 0, none⟩ (.int .i64 k) (by rw [hc]; rfl)
      have hc5 := cell_kept (W := (W.setCell ⟨w.heap.size, 0, none⟩ (.int .i64 k)).drew) hc4 (grownBy_putObj' _ D (.deferred none)) (fun r e => by cases e; exact ⟨_, hK2, rfl⟩)
      refine ⟨.tuple #[.int .i64 k, .bool false], ?_, ?_, ((hB.setCell (p := ⟨w.heap.size, 0, none⟩) (by simp) _).drew).trans (belowK_b (w := w) (Nat.le_refl _) _ D _ _ (by omega) hK2 rfl rfl)⟩
      · simp [results, Tryz.f7, go_sem, hc5]
      · rw [findB, Hfn.out, List.getElem?_eq_none (by have := Hsl.out; omega)]
  case stop =>
    rintro D c pre W _ _ h _
    exact h.elim
end Go.Proofs.YtjinhkdncenhdaaGreatDoor
