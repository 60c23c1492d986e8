/- slices.Repeat of a list of one. spots: turned, part, and where a part's term stands. A loop over a function that ranges, where the one that ranges writes memory of its own, and the loop's body too: the body never leaves early. Plain law, of no program. -/
import Derived.Test.YtcgnbpjbpbabaaaGreatDoorMg07
import Derived.Test.YtcgnbpjbpbabaaaGreatDoorMg08
import Derived.Test.YtcgnbpjbpbabaaaGreatDoorShelf
import Derived.Laws.CopyOwn
import Derived.Deep.RegionLaw
import Derived.Test.YtcgnbpjbpbabaaaGreatDoorMg11
import Derived.Laws.EntriesVeiled
import Derived.Test.YtcgnbpjbpbabaaaGreatDoorRows
import Derived.RangeFuncWrites
import Derived.RangeFuncNested
import Derived.RangeFuncBound
import Derived.RangeFuncBox
import Derived.RangeFuncCalls
import Derived.RangeFuncLeaves
import Derived.Below
section
set_option linter.unusedVariables false
set_option linter.unusedSimpArgs false
set_option maxRecDepth 100000
set_option maxHeartbeats 1000000
namespace Go.Proofs.YtcgnbpjbpbabaaaGreatDoor
open Go.RowKit





theorem side_rinfo : (Tryz.prog.info? 119).map (fun i => (i.zero, i.size, i.bytes)) = some (some (Value.int .u8 0), 1, 1) := by kernel_rfl
theorem repeat_side (b s k c : Nat) (w : World) (hk : k ≤ 1000) (hc : w.cell? ⟨b, 0, none⟩ = some (Value.int .u8 (s : Nat))) :
    Calls Tryz.prog 108 #[.slice (some ⟨b, 0, none⟩) 1 c, .int .i64 (k : Nat)] w fun e w' => e = .returned (.slice (some ⟨w.heap.size, 0, none⟩) k k) ∧ Blk w' w.heap.size 119 (Array.replicate k (Value.int .u8 (s : Nat))) ∧ Below w.heap.size w w' := by
  have hbl : b < w.heap.size := World.block_lt_of_cell? w _ hc
  obtain ⟨i0, hi0, hz0, hz1, hz2⟩ := info_parts side_rinfo
  have hszi : (Tryz.prog.info? 119).map (·.size) = some 1 := by rw [hi0]; simp [hz1]
  have hmk := fun W => run_makeSlice (P := Tryz.prog) W 189 119 i0 _ Tryz.underlying189 hi0 hz0 .i64 .i64 (k : Int) (k : Int) (by omega) (by omega) (by rw [hz1]; omega) (by rw [hz2]; omega) (by omega)
  have hmade : madeCells #[Value.int .u8 0] k = (List.replicate k (Value.int .u8 0) : List Value).toArray := by
    apply Array.ext
    · simp [madeCells]
    · intro i h1 h2
      simp [madeCells, Nat.mod_one]
  have hzc : (Value.cells (Value.int .u8 0)) = #[Value.int .u8 0] := rfl
  simp only [hz1, Int.toNat_natCast, Nat.mul_one, hzc, hmade] at hmk
  have cM := Tryz.bits_Mul 1 k (by omega) (by omega)
  rw [show 1 * k / 18446744073709551616 = 0 by omega, show 1 * k % 18446744073709551616 = k by omega] at cM
  have CM := Lib.hid cM
  have Hszi := Lib.hid hszi
  clear hz0 hz1 hz2 hi0 hmade hzc cM hszi
  have i1 : (k : Int) ≤ 1000 := by omega
  go_enter Tryz.func108, Tryz.ntmps108
  go_wp2_with fail
  refine (CM.out _).mono ?_
  rintro e w1 ⟨rfl, e1⟩
  obtain rfl := e1.symm
  by_cases hk0 : k = 0
  · subst hk0
    have hmk0 : ∀ W, (Instr.makeSlice 189 (.int .i64 0) (.int .i64 0)).run Tryz.prog W = .ok (.slice (some ⟨W.heap.size, 0, none⟩) 0 0) (W.alloc (.cells #[] 119)) := hmk
    clear hmk
    go_wp2_with (
      refine wpList_copy_splice rfl (.tmp 31) (.tmp 32) 189 189 rfl 119 Tryz.underlying189 Hszi.out (some ⟨w.heap.size, 0, none⟩) (some ⟨b, 0, none⟩) 0 0 1 c ?_ ?_ w.heap.size 0 [] 119 ?_ [] ?_ ?_ ?_ ?_ w.heap.size w ?_ (Nat.le_refl _) ?_
      · simp [Act.eval, Act.put]
      · simp [Act.eval, Act.put]
      · exact Blk.new w _ _
      · rfl
      · intro h; simp at h
      · simp
      · simp
      · exact (Below.refl _ w).alloc (Nat.le_refl _) _
      intro w2 hg2 hb2)
    refine wp_loop_rounds 1 ?_
    rw [rounds_succ]
    go_wp2_with fail
    go_ret
    exact ⟨rfl, hg2.out, hb2⟩
  · have hk1 : 1 ≤ k := by omega
    have i2 : (1 : Int) ≤ (k : Int) := by omega
    go_wp2_with (
      refine wpList_copy_splice rfl (.tmp 31) (.tmp 32) 189 189 rfl 119 Tryz.underlying189 Hszi.out (some ⟨w.heap.size, 0, none⟩) (some ⟨b, 0, none⟩) k k 1 c ?_ ?_ w.heap.size 0 (List.replicate k (Value.int .u8 0)) 119 ?_ [Value.int .u8 (s : Nat)] ?_ ?_ ?_ ?_ w.heap.size w ?_ (Nat.le_refl _) ?_
      · simp [Act.eval, Act.put]
      · simp [Act.eval, Act.put]
      · exact Blk.new w _ _
      · simp [Nat.min_def]; omega
      · intro _
        refine ⟨rfl, _, rfl, fun j u hu => ?_⟩
        cases j with
        | zero =>
          simp at hu
          subst hu
          rw [add_lit', Nat.add_zero, World.cell?_alloc_lt _ _ _ hbl]
          exact hc
        | succ j => simp at hu
      · simp; omega
      · simp [Value.oneCell']
      · exact (Below.refl _ w).alloc (Nat.le_refl _) _
      intro w2 hg2 hb2)
    clear hmk
    go_loopw [8] (fun v w' => ∃ n : Nat, v = .int .i64 n ∧ 1 ≤ n ∧ n ≤ k ∧ Below w.heap.size w w' ∧ Blk w' w.heap.size 119 (List.replicate n (Value.int .u8 (s : Nat)) ++ List.replicate (k - n) (Value.int .u8 0) : List Value).toArray) (fun v _ => k - (intOf v).toNat)
    case atStart =>
      refine ⟨1, rfl, Nat.le_refl _, hk1, hb2, ?_⟩
      have := hg2.out
      rw [splice] at this
      show _ = _
      simpa using this
    case round =>
      obtain ⟨n, rfl, hn1, hnk, hbw, hB⟩ := hrel
      clear hg2 hb2
      by_cases hlt : n < k
      · have j1 : (n : Int) < (k : Int) := by omega
        have j2 : (0 : Int) ≤ (n : Int) := by omega
        have j3 : (n : Int) ≤ (k : Int) := by omega
        have j4 : ¬ k = n := by omega
        obtain ⟨m, hm⟩ : ∃ m, Nat.min n (k - n) = m := ⟨_, rfl⟩
        have hmle : m ≤ k - n ∧ m ≤ n ∧ 1 ≤ m := by rw [← hm]; simp only [Nat.min_def]; split <;> omega
        have Hm := Lib.hid hm
        clear hm
        have j5 : (n : Int) + (m : Int) ≤ 1000 := by omega
        have j6 : IntKind.i64.wrap ((n : Int) + (m : Int)) = (n : Int) + (m : Int) := IntWalk.i64_in _ (by omega)
        go_wp2_with fail
        go_region_law (first
          | (refine step_copy_splice rfl (.tmp 41) (.tmp 44) 189 189 rfl 119 Tryz.underlying189 Hszi.out (some ⟨w.heap.size, n, none⟩) (some ⟨w.heap.size, 0, none⟩) (k - n) (k - n) n k ?_ ?_ w.heap.size n (List.replicate n (Value.int .u8 (s : Nat)) ++ List.replicate (k - n) (Value.int .u8 0)) 119 ?_ (List.replicate m (Value.int .u8 (s : Nat))) ?_ ?_ ?_ ?_ w.heap.size w ?_ (Nat.le_refl _) ?_; (simp [Act.eval, Act.put]); (simp [Act.eval, Act.put]); (exact hB); (simp [Hm.out]); (intro _; refine ⟨rfl, _, rfl, fun j u hu => ?_⟩; have hj := (List.getElem?_eq_some_iff.1 hu).1; simp at hj; rw [List.getElem?_replicate, if_pos hj] at hu; rw [add_lit', Nat.zero_add, hB.drew.cell, ← hu, List.getElem?_toArray, List.getElem?_append_left (by simp; omega), List.getElem?_replicate, if_pos (by omega)]); (simp; omega); (simp [Value.oneCell']); (exact hbw.drew); intro w3 hg3 hb3))
        go_wp2_with fail
        have hsp : splice (List.replicate n (Value.int .u8 (s : Nat)) ++ List.replicate (k - n) (Value.int .u8 0)) n (List.replicate m (Value.int .u8 (s : Nat))) = List.replicate (n + m) (Value.int .u8 (s : Nat)) ++ List.replicate (k - (n + m)) (Value.int .u8 0) := by
          rw [splice, List.take_append_of_le_length (by simp), List.take_of_length_le (by simp), List.length_replicate, List.drop_append, List.drop_of_length_le (by simp), List.nil_append, List.length_replicate, List.drop_replicate, ← List.append_assoc, List.replicate_append_replicate]
          congr 2
          omega
        have hg := hg3.out
        rw [hsp] at hg
        refine ⟨⟨_, _, _, _, _, _, _, _, _, _, _, _, _, _, ⟨n + m, ?_, by omega, by omega, hb3, hg⟩, rfl⟩, ?_⟩
        · simp [goInt, Act.put, Act.eval, j6]
        · simp [goInt, Act.put, Act.eval, j6, intOf]
          omega
      · obtain rfl : n = k := by omega
        go_wp2_with fail
        go_ret
        refine ⟨rfl, ?_, hbw⟩
        have := hB
        rw [Nat.sub_self, List.replicate_zero, List.append_nil, List.toArray_replicate] at this
        exact this

theorem num_rinfo : (Tryz.prog.info? 35).map (fun i => (i.zero, i.size, i.bytes)) = some (some (Value.int .u64 0), 1, 8) := by kernel_rfl
end Go.Proofs.YtcgnbpjbpbabaaaGreatDoor
end

section
set_option linter.unusedVariables false
set_option linter.unusedSimpArgs false
set_option maxRecDepth 100000
set_option maxHeartbeats 1000000
namespace Go.Proofs.YtcgnbpjbpbabaaaGreatDoor
open Go.RowKit

theorem turnedS_any (s : Nat) (hs : s ≤ 2) (w : World) :
    Calls Tryz.prog 95 #[.int .u8 (s : Nat)] w fun e w' => e = .returned (.int .u8 (turnedS s : Nat)) ∧ w' = w := by
  rcases (by omega : s = 0 ∨ s = 1 ∨ s = 2) with rfl | rfl | rfl
  all_goals
    go_enter Tryz.func95, Tryz.ntmps95
    go_wp2_with fail
    go_ret
    exact ⟨rfl, rfl⟩
theorem part_any (at_ p s : Nat) (w : World) :
    Calls Tryz.prog 94 #[.int .i64 (at_ : Nat), .int .u8 (p : Nat), .int .u8 (s : Nat)] w fun e w' =>
      e = .returned (.agg #[.int .i64 (at_ : Nat), .int .u8 (p : Nat), .int .u8 (s : Nat), .bool false, .int .u64 0, .func (.func 109) #[] #[.pointer (some ⟨w.heap.size, 0, none⟩), .pointer (some ⟨w.heap.size + 1, 0, none⟩)]]) ∧
      Blk w' w.heap.size 3 #[.int .i64 (at_ : Nat)] ∧ Blk w' (w.heap.size + 1) 118 #[.int .u8 (p : Nat)] ∧ Below w.heap.size w w' := by
  go_enter Tryz.func94, Tryz.ntmps94
  go_wp2_with fail
  have hb0 := Blk.new w 3 #[.int .i64 (at_ : Int)]
  have hb1 := Blk.new (w.alloc (.cells #[.int .i64 (at_ : Int)] 3)) 118 #[.int .u8 (p : Int)]
  rw [show (w.alloc (.cells #[.int .i64 (at_ : Int)] 3)).heap.size = w.heap.size + 1 by simp] at hb1
  refine bodyPost_ret (v := .agg #[.int .i64 (at_ : Nat), .int .u8 (p : Nat), .int .u8 (s : Nat), .bool false, .int .u64 0, .func (.func 109) #[] #[.pointer (some ⟨w.heap.size, 0, none⟩), .pointer (some ⟨w.heap.size + 1, 0, none⟩)]]) ?_ rfl ⟨rfl, (hb0.alloc _).alloc _, hb1.alloc _, (((Below.refl _ w).alloc (Nat.le_refl _) _).alloc (by simp) _).alloc (by simp; omega) _⟩
  simp [results, Tryz.results94, go_sem]
/-- where the term of a node's part stands in a node -/
def partOff (p : Nat) : Nat := if p = 0 then 4 else if p = 1 then 6 else 8
theorem part1_any (b o n c b1 b2 at_ p : Nat) (w : World) (hat : at_ < n) (hp : p ≤ 2) (hn : n ≤ 1000) (h1 : w.cell? ⟨b1, 0, none⟩ = some (.int .i64 (at_ : Nat))) (h2 : w.cell? ⟨b2, 0, none⟩ = some (.int .u8 (p : Nat))) :
    Calls Tryz.prog 109 #[.slice (some ⟨b, o, none⟩) n c, .pointer (some ⟨b1, 0, none⟩), .pointer (some ⟨b2, 0, none⟩)] w fun e w' => e = .returned (.pointer (some ⟨b, o + at_ * 10 + partOff p, none⟩)) ∧ w' = w := by
  have i1 : (at_ : Int) < (n : Int) := by omega
  have i2 : (n : Int) ≤ 1000 := by omega
  rcases (by omega : p = 0 ∨ p = 1 ∨ p = 2) with rfl | rfl | rfl
  all_goals
    go_enter Tryz.func109, Tryz.ntmps109
    go_wp2_with fail
    go_ret
    exact ⟨rfl, rfl⟩
end Go.Proofs.YtcgnbpjbpbabaaaGreatDoor
end

section
set_option linter.unusedVariables false
set_option linter.unusedSimpArgs false
namespace Go.Proofs.YtcgnbpjbpbabaaaGreatDoor
open Go.RowKit
section
variable {α : Type} {F : Fence} {n : Nat} {P : Program}

/-- The function gf, called with the loop's yield l, yields the elements of a list xs with S xs, one by one: whatever the loop keeps (I), and whatever of the loop's books stands (Bk), stands again behind it; a round keeps what gf needs (Kp). -/
def Gives (F : Fence) (n : Nat) (P : Program) (gf : Nat) (lb : Array Value) (encs : α → Array Value) (Sp : List α → Prop) (B : Nat) (S : List α → Prop) (Kp : World → World → Prop) (I : List α → World → Prop) : Prop :=
  ∀ (l : Nat) (Bk : World → Prop) (W : World), (∀ X Y, Bk X → KeepsFrom B X Y → Bk Y) → B ≤ W.heap.size →
    (∀ pre x X, I pre X → Bk X → Sp (pre ++ [x]) → YieldAt F (n - 1) P l (encs x) X fun e Y => e = .returned (.bool true) ∧ I (pre ++ [x]) Y ∧ Bk Y ∧ Kp X Y) →
    I [] W → Bk W →
    CallsIn F n P gf (#[.func (.yield l) #[] #[]] ++ lb) W fun e Y => (∃ v, e = .returned v) ∧ ∃ xs, S xs ∧ I xs Y ∧ Bk Y

theorem range_gives {g : Operand} {ps : Array Tmp} {assign body : Code} {Q : Exit → Act → World → Prop} {a : Act} {w : World}
    (hro : F.round = none) (h1 : 1 ≤ n) {gf : Nat} {lb : Array Value} (hg : a.eval g = .func (.func gf) #[] lb) (hFg : F.fn gf) (eg : ∀ args w, (callFunc gf args).run P w = .ok (.enter gf args) w)
    {encs : α → Array Value} {Kp : World → World → Prop} {S : List α → Prop} {Sp : List α → Prop} {I : List α → World → Prop} (hgives : Gives F (n - 1) P gf lb encs Sp w.heap.size S Kp I)
    (hKt : ∀ {A B C : World}, Kp A B → Kp B C → Kp A C) (hKb : ∀ (W : World) (l : Nat) (o o' : Obj), w.heap.size ≤ l → W.heap[l]? = some o → o.isCells = false → o.isWalk = false → Kp W (W.putObj l o')) (hps : ∀ x, (encs x).size = ps.size)
    (hI : OwnFrom w.heap.size I) (h0 : I [] w) (a₁ : α → Act)
    (hassign : ∀ (l : Nat) (x : α) (W : World) (K : Act → World → Prop), K (a₁ x) W →
      assign.wpIn (F.inRound l) (n - 1 - 1) P (Exit.then K (fun _ _ _ => False)) { tmps := (ps.zip (encs x)).foldl (fun t (p, v) => t.setIfInBounds p v) a.tmps, defers := [] } W)
    (hbody : ∀ (l : Nat) (pre : List α) (x : α) (W : World), I pre W → Sp (pre ++ [x]) → body.wpIn (F.inRound l) (n - 1 - 1) P (Exit.then (fun _ Y => KeepsFrom w.heap.size W Y ∧ Kp W Y ∧ I (pre ++ [x]) Y) (fun _ _ _ => False)) (a₁ x) W)
    (hdone : ∀ (D : Nat) (xs : List α) (W : World), w.heap.size ≤ D → S xs → I xs W → W.heap[D]? = some (.deferred (some [])) → Q .normal { a with defers := { target := .collected D, args := #[] } :: a.defers } W) :
    (Code.rangeFunc g ps assign body).wpIn F n P Q a w := by
  refine wpIn_rangeFunc fun fn hfn => ?_
  rw [hro]
  -- the loop's record, at rest and in a round
  obtain ⟨R, hR⟩ : ∃ R : LoopState → Loop, R = fun st => { state := st, pending := none, fn, tmps := a.tmps, params := ps, assign, body, defers := w.heap.size } := ⟨_, rfl⟩
  obtain ⟨D, hD⟩ : ∃ D, w.heap.size = D := ⟨_, rfl⟩
  obtain ⟨V, hV⟩ : ∃ V, (w.alloc (.deferred (some []))).alloc (.loop (R .ready)) = V := ⟨_, rfl⟩
  have hVsz : V.heap.size = D + 2 := by rw [← hV]; simp [hD]
  let Books : World → Prop := fun X => X.heap[D + 1]? = some (.loop (R .ready)) ∧ X.heap[D]? = some (.deferred (some []))
  have hbV : Books V := by
    constructor
    · have := World.alloc_heap_new (w.alloc (.deferred (some []))) (.loop (R .ready))
      rw [World.size_alloc, hD, hV] at this
      exact this
    · rw [← hV]
      have := (Below.heap_alloc (w.alloc (.deferred (some []))) (.loop (R .ready)) w.heap.size (by simp)).trans (World.alloc_heap_new w _)
      rw [hD] at this
      exact this
  have hIV : I [] V := by rw [← hV]; exact hI.alloc _ (hI.alloc _ h0)
  have hkeep : ∀ X Y, Books X → KeepsFrom w.heap.size X Y → Books Y := fun X Y hb hk => ⟨hk.same _ _ (by omega) hb.1 rfl, hk.same _ _ (by omega) hb.2 rfl⟩
  have hround : ∀ pre x X, I pre X → Books X → Sp (pre ++ [x]) → YieldAt F (n - 1 - 1) P (D + 1) (encs x) X fun e Y => e = .returned (.bool true) ∧ I (pre ++ [x]) Y ∧ Books Y ∧ Kp X Y := by
    intro pre x X hi hb hlen
    have hy := run_yield (P := P) (args := encs x) hb.1 (by rw [hR]; exact hps x)
    rw [hR] at hy
    refine ⟨fn, _, assign, body, hy, roundIn_of_wpIn hfn (hassign _ x X _ ⟨_, run_beginRound hb.1 (by rw [hR]), ?_⟩)⟩
    obtain ⟨X1, hX1⟩ : ∃ X1, X.putObj (D + 1) (.loop { R .ready with state := .busy }) = X1 := ⟨_, rfl⟩
    have hl1 : X1.heap[D + 1]? = some (.loop { R .ready with state := .busy }) := by rw [← hX1]; exact World.putObj_heap_same (Array.getElem?_eq_some_iff.1 hb.1).1
    have hd1 : X1.heap[D]? = some (.deferred (some [])) := by rw [← hX1]; exact (World.putObj_heap_other (by omega)).trans hb.2
    have hk1 : Kp X X1 := by rw [← hX1]; exact hKb _ _ _ _ (by omega) hb.1 rfl rfl
    have hi1 : I pre X1 := by rw [← hX1]; exact hI.putObj _ hi (by omega) hb.1 rfl
    rw [hX1]
    refine wpIn_mono (hbody _ pre x X1 hi1 hlen) ?_
    rintro e a3 Y hp
    cases e with
    | normal =>
      obtain ⟨hkf, hkp, hi2⟩ := hp
      have hl2 := hkf.same _ _ (by omega) hl1 rfl
      have hd2 := hkf.same _ _ (by omega) hd1 rfl
      have hend := run_endRound (P := P) none hl2
      rw [hR] at hend
      refine ⟨_, _, hend, rfl, hI.putObj _ hi2 (by omega) hl2 rfl, ⟨?_, (World.putObj_heap_other (by omega)).trans hd2⟩, hKt hk1 (hKt hkp (hKb _ _ _ _ (by omega) hl2 rfl rfl))⟩
      rw [hR]
      exact World.putObj_heap_same (Array.getElem?_eq_some_iff.1 hl2).1
    | ret => exact hp.elim
    | exit id => exact hp.elim
    | goto t => exact hp.elim
    | panic ch => exact hp.elim
    | outgrown => exact hp.elim
  have hcall := hgives (D + 1) Books V hkeep (by omega) hround hIV hbV
  refine ⟨D + 1, [{ target := .collected D, args := #[] }], V, { target := .fn (.func gf) lb, args := #[.func (.yield (D + 1)) #[] #[]] }, V, gf, #[.func (.yield (D + 1)) #[] #[]] ++ lb, V, ?_, ?_, ?_, ?_, fun _ => h1, ?_⟩
  · rw [← hV, hR, ← hD]
    exact run_enterLoop_outer _ _ _ _ _
  · simp only [resolve, hg]
    simp [go_sem]
  · intro f' hf'
    simp [Target.leads] at hf'
    subst hf'
    exact hFg
  · simp [invoke, go_sem, eg]
  · refine hcall.mono ?_
    rintro e Y ⟨⟨v, rfl⟩, xs, hS, hi, hl, hd⟩
    have hend := run_endLoop (P := P) hl (by rw [hR]; simp)
    rw [hR] at hend
    exact ⟨none, _, hend, hdone D xs _ (by omega) hS (hI.putObj _ hi (by omega) hl rfl) ((World.putObj_heap_other (by omega)).trans hd)⟩
end
end Go.Proofs.YtcgnbpjbpbabaaaGreatDoor
end
