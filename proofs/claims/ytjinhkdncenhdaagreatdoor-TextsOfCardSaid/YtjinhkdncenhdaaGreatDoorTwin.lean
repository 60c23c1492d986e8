/- TwinTexts: a list's twin, with one place more behind it; LeftTexts: is it as it was? -/
import Derived.Test.YtjinhkdncenhdaaGreatDoorWord
import Derived.RegionTactic
import Derived.BigRegion
import Derived.ChangeAlike
import Derived.Deep.DeepCutAuto
import Derived.Deep.RegionLaw
import Derived.Deep.QuietTactic
import Derived.BigQuiet
set_option linter.unusedVariables false
set_option linter.unusedSimpArgs false
namespace Go.Proofs.YtjinhkdncenhdaaGreatDoor
open Go.RowKit

theorem oneCells (l : List ByteArray) : ∀ u ∈ l.map Value.string, u.oneCell' = true := by
  intro u hu
  obtain ⟨t, _, rfl⟩ := List.mem_map.1 hu
  rfl

set_option maxRecDepth 100000 in
set_option maxHeartbeats 1000000 in
theorem twinTexts_any (A : Option Addr) (n c : Nat) (l : List ByteArray) (w : World) (h : Strs w A n l) (hbig : (n + 1) * 16 ≤ 140737488355328) :
    Calls Tryz.prog 5 #[.slice A n c] w fun e w' => ∃ g c', e = .returned (.slice (some ⟨g, 0, none⟩) n c') ∧ n + 1 ≤ c' ∧ w'.ownsRow w.heap.size 9 1 (.slice (some ⟨g, 0, none⟩) (n + 1) c') (n + 1) ((l ++ [wordB 77]).map Value.string) ∧ Below w.heap.size w w' := by
  have hn := h.2.1
  have hl := h.1
  obtain ⟨i0, hi0, hz0, hz1, hz2⟩ := info_parts str_info
  obtain ⟨w1, hmk, r1, r2⟩ := run_make_own (P := Tryz.prog) w w.heap.size 22 9 i0 _ 1 Tryz.underlying22 hi0 hz0 hz1 .i64 .i64 (n + 1) (by rw [hz2]; omega) (by simp only [maxLen]; omega) (Nat.le_refl _)
  rw [show (((n + 1 : Nat)) : Int) = (n : Int) + 1 by omega] at hmk
  have Hz0 := Lib.hid hz0
  have Hz1 := Lib.hid hz1
  have Hz2 := Lib.hid hz2
  have Hi0 := Lib.hid hi0
  have Hl := Lib.hid hl
  clear hz0 hz1 hz2 hi0 hl
  have b1 : Below w.heap.size w w1 := (Below.refl _ w).grown r2 (Nat.le_refl _) (fun k hk => by cases hk)
  have i1 : (n : Int) + 1 ≤ 8796093022208 := by omega
  go_enter Tryz.func5, Tryz.ntmps5
  go_wp2_with fail
  clear hmk
  go_loopw [3, 4] (fun t v w' => ∃ (k : Nat), v = .int .i64 k ∧ k ≤ n ∧ Below w.heap.size w w' ∧ Strs w' A n l ∧ w'.ownsRow w.heap.size 9 1 t k ((l.take k).map Value.string)) (fun _ v _ => n - (intOf v).toNat)
  case atStart => exact ⟨0, rfl, by omega, b1, h.below b1, r1⟩
  case round =>
    obtain ⟨k, rfl, hk, hbw, hS, hO⟩ := hrel
    by_cases hlt : k < n
    · obtain ⟨ad, s, rfl, htk, hc, hts⟩ := hS.at_ hlt
      have i2 : (k : Int) < (n : Int) := by omega
      have htake := List.take_succ_eq_append_getElem (l := l) (i := k) (by have := Hl.out; omega)
      rw [(List.getElem?_eq_some_iff.1 htk).2] at htake
      have Htake := Lib.hid htake
      clear htk htake
      go_upto_region 5 with fail
      go_wp2_with (
        refine wpList_append_any _ rfl (.tmp 15) (.tmp 20) 22 rfl w.heap.size 9 i0 (.string ⟨#[]⟩) 1 16 Tryz.underlying22 Hi0.out Hz0.out Hz1.out Hz2.out rfl (by omega) u3 k ((l.take k).map Value.string) ?_ (hO.alloc _) (wr.heap.size + 1) (some ⟨wr.heap.size, 0, none⟩) 1 1 ([s].map Value.string) ?_ (reads_one (World.cell?_alloc_mark wr _ _ _ _) (by omega)) (oneCells _) ?_ ?_ ?_ ?_
        · simp [Act.eval, Act.put]
        · simp [Act.eval, Act.put]
        · simp only [maxLen]; omega
        · omega
        · have := hbw.size; simp; omega
        intro v2 w2 hO2 hg2 hat2
        have hb2 : Below w.heap.size w w2 := (hbw.alloc hbw.size _).grown hg2 (by have := hbw.size; simp; omega) (fun k hk => (hO.lt k hk).1))
      refine ⟨⟨k + 1, by go_num, by omega, hb2, h.below hb2, ?_⟩, by simp [intOf]; omega⟩
      rw [Htake.out, List.map_append]
      exact hO2
    · obtain rfl : n = k := by omega
      have hkl : l.take n = l := List.take_of_length_le (by have := Hl.out; omega)
      rw [hkl] at hO
      have hws := wordB_size 77
      clear hkl
      go_wp2_with fail
      refine (word_any 77 (by omega) wr).mono ?_
      rintro e w2 ⟨rfl, e1⟩
      obtain rfl := e1.symm
      go_wp2_with (
        refine wpList_append_any _ rfl (.tmp 22) (.tmp 24) 22 rfl w.heap.size 9 i0 (.string ⟨#[]⟩) 1 16 Tryz.underlying22 Hi0.out Hz0.out Hz1.out Hz2.out rfl (by omega) u3 n (l.map Value.string) ?_ (hO.alloc _) (wr.heap.size + 1) (some ⟨wr.heap.size, 0, none⟩) 1 1 ([wordB 77].map Value.string) ?_ (reads_one (World.cell?_alloc_mark wr _ _ _ _) (by omega)) (oneCells _) ?_ ?_ ?_ ?_
        · simp [Act.eval, Act.put]
        · simp [Act.eval, Act.put]
        · simp only [maxLen]; omega
        · omega
        · have := hbw.size; simp; omega
        intro v2 w2 hO2 hg2 hat2
        have hb2 : Below w.heap.size w w2 := (hbw.alloc hbw.size _).grown hg2 (by have := hbw.size; simp; omega) (fun k hk => (hO.lt k hk).1)
        rw [← List.map_append] at hO2
        rcases hO2.2 with ⟨_, hnil⟩ | ⟨g, cap, cur, rfl, hbase, hb, k1, k2, k3, k4⟩
        · simp at hnil)
      go_ret
      exact ⟨g, cap, rfl, k1, hO2, hb2⟩

set_option maxRecDepth 100000 in
set_option maxHeartbeats 1000000 in
theorem leftTexts_any (T A : Option Addr) (n c d : Nat) (l : List ByteArray) (w : World) (h : Strs w A n l) (hT : Strs w T (n + 1) (l ++ [wordB 77])) (hc : n + 1 ≤ c) (hc' : c ≤ 9223372036854775807) :
    Calls Tryz.prog 15 #[.slice T n c, .slice A n d] w fun e w' => e = .returned (.bool true) ∧ Below w.heap.size w w' := by
  have hn := hT.2.1
  have hb0 : (!((n : Int) == (n : Int))) = false := by simp
  have i0 : (n : Int) < (c : Int) := by omega
  have i0' : (n : Int) + 1 ≤ (c : Int) := by omega
  obtain ⟨at_, s9, rfl, hs9, hcT, _⟩ := hT.at_ (k := n) (by omega)
  have hl := h.1
  have : s9 = wordB 77 := by
    rw [List.getElem?_append_right (by omega), hl, Nat.sub_self] at hs9
    simpa using hs9.symm
  subst this
  clear hs9
  have Hl := Lib.hid hl
  clear hl
  go_enter Tryz.func15, Tryz.ntmps15
  go_wp2
  go_loopw [5] (fun v w' => ∃ i : Nat, v = .int .i64 i ∧ i ≤ n ∧ Below w.heap.size w w') (fun v _ => n - (intOf v).toNat)
  case atStart => exact ⟨0, rfl, by omega, Below.refl _ _⟩
  case round =>
    obtain ⟨i, rfl, hi, hbw⟩ := hrel
    have hS := h.below hbw
    have hT' := hT.below hbw
    have hcT' := (hbw.cell (World.block_lt_of_cell? w _ hcT)).trans hcT
    by_cases hlt : i < n
    · obtain ⟨ad, s, rfl, hsk, hc1, hss⟩ := hS.at_ hlt
      obtain ⟨ad', t, e, htk, hc2, hts⟩ := hT'.at_ (k := i) (by omega)
      cases e
      have : t = s := by
        rw [List.getElem?_append_left (by have := Hl.out; omega), hsk] at htk
        simpa using htk.symm
      subst this
      clear htk hsk
      have i2 : (i : Int) < (n : Int) := by omega
      have hb : (t.toList == t.toList) = true := by simp
      go_wp2
      go_quiet (fail)
      go_wp2
      exact ⟨⟨i + 1, by go_num, by omega, below_drewN hbw nq⟩, by simp [intOf]; omega⟩
    · go_wp2_with fail
      refine (word_any 77 (by omega) wr).mono ?_
      rintro e w2 ⟨rfl, e1⟩
      obtain rfl := e1.symm
      have hb : ((wordB 77).toList == (wordB 77).toList) = true := by simp
      go_wp2
      go_ret
      exact ⟨rfl, hbw⟩
end Go.Proofs.YtjinhkdncenhdaaGreatDoor
