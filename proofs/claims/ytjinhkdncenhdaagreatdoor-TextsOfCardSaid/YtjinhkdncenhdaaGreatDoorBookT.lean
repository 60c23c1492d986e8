/- The book of lists: texts. -/
import Derived.Test.YtjinhkdncenhdaaGreatDoorRow
import Derived.Test.YtjinhkdncenhdaaGreatDoorTwin
import Derived.Test.YtjinhkdncenhdaaGreatDoorBookN
set_option linter.unusedVariables false
set_option linter.unusedSimpArgs false
namespace Go.Proofs.YtjinhkdncenhdaaGreatDoor
open Go.RowKit

theorem held_info : (Tryz.prog.info? 61).map (fun i => (i.zero, i.size, i.bytes)) = some (some (.agg #[.slice none 0 0, .slice none 0 0, .int .i64 0]), 3, 56) := by kernel_rfl

set_option maxRecDepth 100000 in
set_option maxHeartbeats 1000000 in
theorem keepText_any (b : Nat) (cs : Array Value) (num : Nat) (H : Value) (m : Nat) (xs : List Value) (B : Nat) (A : Option Addr) (n c : Nat) (w : World) (hB : Blk w b 46 cs) (hcs : cs.size = 16)
    (h0 : cs[0]? = some (.int .i64 num)) (h3 : cs[3]? = some H) (hH : Row w B 61 3 H m xs) (hBs : B ≤ w.heap.size) (hnum : num < 1000000) (hm : m < 1000000) :
    Calls Tryz.prog 26 #[.pointer (some ⟨b, 0, none⟩), .slice A n c] w fun e w' => (∃ u, e = .returned u) ∧ ∃ H', Blk w' b 46 ((cs.setIfInBounds 0 (.int .i64 (num + 1 : Nat))).setIfInBounds 3 H') ∧
      Row w' B 61 3 H' (m + 1) (xs ++ [.slice A n c, .slice none 0 0, .int .i64 (num + 1 : Nat)]) ∧ Chg (fun k => k = b ∨ H.ownBlock = some k) w w' ∧ (H'.ownBlock = H.ownBlock ∨ ∀ g, H'.ownBlock = some g → w.heap.size ≤ g) := by
  obtain ⟨i0, hi0, hz0, hz1, hz2⟩ := info_parts held_info
  have Hz0 := Lib.hid hz0
  have Hz1 := Lib.hid hz1
  have Hz2 := Lib.hid hz2
  have Hi0 := Lib.hid hi0
  clear hz0 hz1 hz2 hi0
  have c0 := hB.cell 0
  rw [h0] at c0
  have f0 := hB.frozen 0
  have c3 := hB.cell 3
  rw [h3] at c3
  have f3 := hB.frozen 3
  have H0 := Lib.hid h0
  have H3 := Lib.hid h3
  have Hcs := Lib.hid hcs
  clear h0 h3 hcs
  go_enter Tryz.func26, Tryz.ntmps26
  go_wp2_with fail
  have hB1 := hB.set_ 0 (.int .i64 (num + 1 : Nat))
  have hH1 : Row (w.setCell ⟨b, 0, none⟩ (.int .i64 (num + 1 : Nat))) B 61 3 H m xs := hH.chg (S := fun k => k = b) (Chg.setCell (S := fun k => k = b) (p := ⟨b, 0, none⟩) rfl _ _) (fun g hg e => hH.ne_blk hB (by decide) (by rw [hg, e]))
  have hC1 : Chg (fun k => k = b ∨ H.ownBlock = some k) w (w.setCell ⟨b, 0, none⟩ (.int .i64 (num + 1 : Nat))) := Chg.setCell (S := fun k => k = b ∨ H.ownBlock = some k) (p := ⟨b, 0, none⟩) (.inl rfl) _ _
  have hs1 : w.heap.size ≤ (w.setCell ⟨b, 0, none⟩ (.int .i64 (num + 1 : Nat))).heap.size := hC1.size
  rw [show ((num + 1 : Nat) : Int) = (num : Int) + 1 by omega] at *
  obtain ⟨w1, hw1⟩ : ∃ w1, w.setCell ⟨b, 0, none⟩ (.int .i64 ((num : Int) + 1)) = w1 := ⟨_, rfl⟩
  rw [hw1] at hB1 hH1 hC1 hs1 ⊢
  clear hw1
  have d0 := hB1.cell 0
  rw [Array.getElem?_setIfInBounds] at d0
  rw [if_pos rfl, if_pos (by rw [Hcs.out]; omega)] at d0
  have d3 := hB1.cell 3
  rw [Array.getElem?_setIfInBounds, if_neg (by omega), H3.out] at d3
  have e3 := hB1.frozen 3
  have dd3 : ∀ o, (w1.alloc o).cell? ⟨b, 3, none⟩ = some H := fun o => by
    have := (hB1.alloc o).cell 3
    rw [Array.getElem?_setIfInBounds, if_neg (by omega), H3.out] at this
    exact this
  have hne : H.ownBlock ≠ some b := hH1.ne_blk hB1 (by decide)
  go_region_law (first
    | (refine step_append_row _ rfl (.tmp 15) (.tmp 22) 32 rfl B 61 i0 _ 3 56 Tryz.underlying32 Hi0.out Hz0.out Hz1.out Hz2.out rfl (by omega) H m xs ?_ (hH1.chg (S := fun _ => False) (by first | exact Chg.alloc _ _ _ | exact (Chg.alloc _ _ _).trans (Chg.drew _ _) | exact (Chg.drew _ _).trans (Chg.alloc _ _ _)) (fun _ _ h => h)) ⟨w1.heap.size, 0, none⟩ 1 1 [.slice A n c, .slice none 0 0, .int .i64 ((num : Int) + 1)] ?_ rfl (by exact cells_new w1 #[.slice A n c, .slice none 0 0, .int .i64 ((num : Int) + 1)] _) ?_ ?_ ?_ ?_ ?_
       · simp [Act.eval, Act.put]
       · simp [Act.eval, Act.put]
       · simp [Value.oneCell']
       · simp only [maxLen]; omega
       · omega
       · simp; omega
       intro v2 w2 hH2 hg2 hat2
       have hB2 : Blk w2 b 46 _ := Blk.grown (by first | exact hB1.alloc _ | exact (hB1.alloc _).drew | exact hB1.drew.alloc _) hg2 (fun e => hne e.symm)
       have hC2 : Chg (fun k => k = b ∨ H.ownBlock = some k) w w2 := hC1.trans (Chg.trans (by first | exact Chg.alloc _ _ _ | exact (Chg.alloc _ _ _).trans (Chg.drew _ _) | exact (Chg.drew _ _).trans (Chg.alloc _ _ _)) (Chg.of_grown hg2 (fun k hk => .inr hk)))
       obtain ⟨A2, c2, hv2, hmc2, hc2m, hR2⟩ := hH2.reads
       subst hv2
       have d3' := hB2.cell 3
       have e3' := hB2.frozen 3
       rw [Array.getElem?_setIfInBounds, if_neg (by omega), H3.out] at d3'
       clear hR2))
  all_goals
    go_end0
    have hH3 := hH2.chg (S := fun k => k = b) (Chg.setCell (S := fun k => k = b) (p := ⟨b, 3, none⟩) rfl w2 (.slice A2 (m + 1) c2)) (fun g hg e => hH2.ne_blk hB2 (by decide) (by rw [hg, e]))
    refine ⟨⟨_, rfl⟩, .slice A2 (m + 1) c2, hB2.set_ 3 _, hH3, hC2.trans (Chg.setCell (S := fun k => k = b ∨ H.ownBlock = some k) (p := ⟨b, 3, none⟩) (.inl rfl) _ _), ?_⟩
    rcases hat2 with h | h
    · exact .inl h
    · exact .inr fun g hg => by have := h.1 g hg; simp at this; omega
end Go.Proofs.YtjinhkdncenhdaaGreatDoor
