/- The book of lists: lookText. -/
import Derived.Test.YtjinhkdncenhdaaGreatDoorBookG
set_option linter.unusedVariables false
set_option linter.unusedSimpArgs false
namespace Go.Proofs.YtjinhkdncenhdaaGreatDoor
open Go.RowKit

theorem isText_any (n : Nat) (hn : n < 100) (w : World) :
    Calls Tryz.prog 93 #[.string (wordB n), .int .i64 n] w fun e w' => e = .returned (.bool true) ∧ w' = w := by
  have hb : ((wordB n).toList == (wordB n).toList) = true := by simp
  go_enter Tryz.func93, Tryz.ntmps93
  go_wp2_with fail
  refine (word_any n hn w).mono ?_
  rintro e w1 ⟨rfl, e1⟩
  obtain rfl := e1.symm
  go_wp2
  go_ret
  exact ⟨rfl, rfl⟩

set_option maxRecDepth 100000 in
set_option maxHeartbeats 1000000 in
theorem lookText_any (b : Nat) (H : Value) (hs : List Hold) (B : Nat) (w : World) (h3 : w.cell? ⟨b, 3, none⟩ = some H)
    (hH : Row w B 61 3 H hs.length (heldL hs)) (hR : ∀ (j : Nat) (h : Hold), hs[j]? = some h → h.num < 100 ∧ h.n ≤ 1000000 ∧ h.ln = h.n + 40 ∧ Reads w w.heap.size 1 h.A h.n (markT h) ∧ Reads w w.heap.size 1 h.lA h.ln (markG h)) (hm : hs.length < 1000000) :
    Calls Tryz.prog 59 #[.pointer (some ⟨b, 0, none⟩)] w fun e w' => e = .returned (.bool true) ∧ Below w.heap.size w w' := by
  obtain ⟨AH, cH, rfl, hmc, hcm, hrd⟩ := hH.reads
  have hbl : b < w.heap.size := World.block_lt_of_cell? w _ h3
  go_enter Tryz.func59, Tryz.ntmps59
  go_wp2
  go_loopw [3] (fun v w' => ∃ (i : Nat), v = .int .i64 i ∧ i ≤ hs.length ∧ Below w.heap.size w w') (fun v _ => hs.length - (intOf v).toNat)
  case atStart => exact ⟨0, rfl, by omega, Below.refl _ _⟩
  case round =>
    obtain ⟨i, rfl, hi, hbw⟩ := hrel
    have h3' : wr.cell? ⟨b, 3, none⟩ = some (.slice AH hs.length cH) := (hbw.cell hbl).trans h3
    by_cases hlt : i < hs.length
    · obtain ⟨⟨A, n, c, num, lA, ln, lc⟩, hh⟩ : ∃ h, hs[i]? = some h := ⟨_, List.getElem?_eq_getElem hlt⟩
      obtain ⟨hnum, hn6, hln, hRs, hRg⟩ := hR i _ hh
      dsimp only at hnum hn6 hln hRs hRg
      subst hln
      obtain ⟨q0, q1, q2⟩ := heldL_at hs i _ hh
      dsimp only at q0 q1 q2
      have hH' := hH.chg (S := fun _ => False) (Chg.of_below _ hbw) (fun _ _ h => h)
      obtain ⟨gH, capH, eH, _, k0, _⟩ := hH'.cellAt q0
      obtain ⟨gH', capH', eH', _, k1, _⟩ := hH'.cellAt q1
      obtain ⟨gH'', capH'', eH'', _, k2, _⟩ := hH'.cellAt q2
      have i2 : (i : Int) < (hs.length : Int) := by omega
      cases eH
      cases eH'
      cases eH''
      have hb1 : (!((n : Int) + 40 == (n : Int) + 40)) = false := by simp
      go_wp2_with fail
      obtain ⟨hb1, hhb⟩ : ∃ x, wr.heap.size = x := ⟨_, rfl⟩
      obtain ⟨w1, hw1⟩ : ∃ w1, wr.alloc (.cells #[.slice A n c, .slice lA (n + 40) lc, .int .i64 num] 61) = w1 := ⟨_, rfl⟩
      have hB1 : Blk w1 hb1 61 #[.slice A n c, .slice lA (n + 40) lc, .int .i64 num] := by
        rw [← hw1, ← hhb]; exact Blk.new _ _ _
      have hb2 : Below w.heap.size w w1 := by rw [← hw1]; exact hbw.alloc hbw.size _
      have hsz : w.heap.size ≤ hb1 := by rw [← hhb]; exact hbw.size
      rw [hw1, hhb]
      clear hw1 hhb hbw h3' k0 k1 k2 q0 q1 q2 hH' hh hrd
      have HRs := Lib.hid hRs
      have HRg := Lib.hid hRg
      clear hRs hRg hR
      go_loopw [5] (fun v w' => ∃ k : Nat, v = .int .i64 k ∧ k ≤ n + 40 ∧ Below w.heap.size w w' ∧ Blk w' hb1 61 #[.slice A n c, .slice lA (n + 40) lc, .int .i64 num]) (fun v _ => n + 40 - (intOf v).toNat)
      case atStart => exact ⟨0, rfl, by omega, hb2, hB1⟩
      case round =>
        obtain ⟨k, rfl, hk, hbw, hB⟩ := hrel
        have d0 := hB.cell 0
        have d1 := hB.cell 1
        have d2 := hB.cell 2
        by_cases hkl : k < n + 40
        · have i3 : (k : Int) < (n : Int) + 40 := by omega
          obtain ⟨a1, u1, e1, hb3, hu1, hc1⟩ := HRg.out.at_ hkl
          have : u1 = .string (wordB num) := List.eq_of_mem_replicate (List.mem_of_getElem? hu1)
          subst this
          clear hu1
          have hc1' := (hbw.cell (p := a1.add k) (by rw [block_of_add]; exact hb3)).trans hc1
          clear hc1
          subst e1
          by_cases hkn : k < n
          · obtain ⟨a2, u2, e2, hb4, hu2, hc2⟩ := HRs.out.at_ hkn
            have : u2 = .string (wordB num) := List.eq_of_mem_replicate (List.mem_of_getElem? hu2)
            subst this
            clear hu2
            have hc2' := (hbw.cell (p := a2.add k) (by rw [block_of_add]; exact hb4)).trans hc2
            clear hc2
            subst e2
            have i4 : (k : Int) < (n : Int) := by omega
            have i5 : decide ((k : Int) < (n : Int)) = true := decide_eq_true i4
            have i6 : decide (k < n) = true := decide_eq_true hkn
            go_wp2_with fail
            go_quiet ((go_at_call 93; exact Calls.quiet_of_same (isText_any num hnum _)))
            go_wp2
            exact ⟨⟨k + 1, by go_num, by omega, below_drewN hbw nq, hB.drewN nq⟩, by simp [intOf]; omega⟩
          · have i4 : (n : Int) ≤ (k : Int) := by omega
            have i5 : decide ((k : Int) < (n : Int)) = false := decide_eq_false (by omega)
            have i6 : decide (k < n) = false := decide_eq_false hkn
            go_wp2_with fail
            go_quiet ((go_at_call 93; exact Calls.quiet_of_same (isText_any num hnum _)))
            go_wp2
            exact ⟨⟨k + 1, by go_num, by omega, below_drewN hbw nq, hB.drewN nq⟩, by simp [intOf]; omega⟩
        · have i3 : (n : Int) + 40 ≤ (k : Int) := by omega
          go_wp2_with fail
          exact ⟨⟨i + 1, by go_num, by omega, hbw⟩, by simp [intOf]; omega⟩
    · have i2 : (hs.length : Int) ≤ (i : Int) := by omega
      go_wp2
      go_ret
      exact ⟨rfl, hbw⟩
end Go.Proofs.YtjinhkdncenhdaaGreatDoor
