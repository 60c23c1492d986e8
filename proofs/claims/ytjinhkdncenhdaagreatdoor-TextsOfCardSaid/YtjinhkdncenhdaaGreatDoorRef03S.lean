/- The document's answer for texts: Sort of cartoucheref03. -/
import Derived.Test.YtjinhkdncenhdaaGreatDoorRef03
import Derived.RegionTactic
import Derived.BigRegion
import Derived.ChangeAlike
import Derived.Deep.DeepCutAuto
import Derived.Deep.RegionLaw
set_option linter.unusedVariables false
set_option linter.unusedSimpArgs false
namespace Go.Proofs.YtjinhkdncenhdaaGreatDoor
open Go.RowKit Go.Sort

theorem insert_rise {x : List ByteArray} (hr : Rise x) (s : ByteArray) (h : findB x s = false) : Rise (x.take (findN x s) ++ s :: x.drop (findN x s)) := by
  apply rise_of_sortedB
  rw [insert_sorted hr, h]
  rfl
theorem take_succ_at {l : List ByteArray} {k : Nat} {s : ByteArray} (hs : l[k]? = some s) : l.take (k + 1) = l.take k ++ [s] := by
  obtain ⟨hk, rfl⟩ := List.getElem?_eq_some_iff.1 hs
  exact List.take_succ_eq_append_getElem hk
/-- one more: put where it stands, if it is not there -/
theorem sortT_put {l : List ByteArray} {k : Nat} {s : ByteArray} (hs : l[k]? = some s) (h : findB (sortT (l.take k)) s = false) :
    (sortT (l.take k)).take (findN (sortT (l.take k)) s) ++ s :: (sortT (l.take k)).drop (findN (sortT (l.take k)) s) = sortT (l.take (k + 1)) := by
  refine (sortT_eq (insert_rise (sortT_rise _) s h) fun x => ?_).symm
  rw [take_succ_at hs, List.mem_append, List.mem_singleton, List.mem_append, List.mem_cons]
  have h0 : x ∈ sortT (l.take k) ↔ x ∈ (sortT (l.take k)).take (findN (sortT (l.take k)) s) ∨ x ∈ (sortT (l.take k)).drop (findN (sortT (l.take k)) s) := by
    rw [← List.mem_append, List.take_append_drop]
  rw [← mem_sortT (l.take k), h0]
  constructor
  · rintro ((h | h) | h)
    · exact .inl h
    · exact .inr (.inr h)
    · exact .inr (.inl h)
  · rintro (h | h | h)
    · exact .inl (.inl h)
    · exact .inr h
    · exact .inl (.inr h)
theorem sortT_same {l : List ByteArray} {k : Nat} {s : ByteArray} (hs : l[k]? = some s) (h : findB (sortT (l.take k)) s = true) : sortT (l.take (k + 1)) = sortT (l.take k) := by
  refine sortT_congr fun x => ?_
  rw [take_succ_at hs, List.mem_append, List.mem_singleton]
  constructor
  · rintro (h' | rfl)
    · exact h'
    · exact (mem_sortT _ _).1 ((findB_iff (sortT_rise _) _).1 h)
  · exact .inl

theorem own_strs_cap {w : World} {B n : Nat} {e : TypeId} {v : Value} {l : List ByteArray} (h : w.ownsRow B e 1 v n (l.map Value.string)) (hn : n ≤ 9223372036854775807) (hs : ∀ s ∈ l, s.size ≤ 4611686018427387904) :
    ∃ A c, v = .slice A n c ∧ n ≤ c ∧ Strs w A n l := by
  rcases h.2 with ⟨rfl, rfl⟩ | ⟨g, cap, cur, rfl, hb, hg, hc⟩
  · exact ⟨none, 0, rfl, by omega, reads_strs (Reads.of_own (c := 0) h) hn hs⟩
  · exact ⟨_, _, rfl, hc.1, reads_strs (Reads.of_own h) hn hs⟩

set_option maxHeartbeats 1000000 in
theorem refSort_any (A : Option Addr) (n c : Nat) (l : List ByteArray) (w : World) (h : Strs w A n l) (hbig : n * 16 ≤ 140737488355328) :
    Calls Tryz.prog 14 #[.slice A n c] w fun e w' => ∃ A' m c', e = .returned (.slice A' m c') ∧ Strs w' A' m (sortT l) ∧ m ≤ c' ∧ Below w.heap.size w w' := by
  have hn := h.2.1
  have hl := h.1
  go_enter Tryz.func14, Tryz.ntmps14
  go_wp2
  go_loopw [3, 4] (fun o v w' => ∃ (k m : Nat) (A' : Option Addr) (c' : Nat), v = .int .i64 k ∧ o = .slice A' m c' ∧ k ≤ n ∧ m ≤ k ∧ m ≤ c' ∧ Below w.heap.size w w' ∧ Strs w' A n l ∧ Strs w' A' m (sortT (l.take k))) (fun _ v _ => n - (intOf v).toNat)
  case atStart => exact ⟨0, 0, none, 0, rfl, rfl, by omega, by omega, by omega, Below.refl _ _, h, by rw [List.take_zero, sortT_nil]; exact strs_none _⟩
  case round =>
    obtain ⟨k, m, A', c', rfl, rfl, hk, hmk, hmc, hbw, hS, hX⟩ := hrel
    by_cases hlt : k < n
    · obtain ⟨ad, s, rfl, htk, hc, hts⟩ := hS.at_ hlt
      have i2 : (k : Int) < (n : Int) := by omega
      have Hl := Lib.hid hl
      clear hl
      have cF := refFind_any A' m c' _ s wr hX
      have Htk := Lib.hid htk
      have hput := fun hB => sortT_put htk hB
      have hsame := fun hB => sortT_same htk hB
      have hkle : findN (sortT (l.take k)) s ≤ m := by rw [← hX.1]; exact findN_le _ s
      have hnx := Lib.hid hput
      have hsm := Lib.hid hsame
      clear htk hput hsame
      obtain ⟨x, hx⟩ : ∃ x, sortT (l.take k) = x := ⟨_, rfl⟩
      rw [hx] at hnx hsm cF hX hkle
      clear hx
      obtain ⟨q, hq⟩ : ∃ q, findN x s = q := ⟨_, rfl⟩
      rw [hq] at hnx cF hkle
      clear hq
      have i3 : (0 : Int) ≤ (q : Int) := by omega
      have i4 : (q : Int) ≤ (m : Int) := by omega
      have i5 : (m : Int) ≤ (c' : Int) := by omega
      have i6 : (q : Int) ≤ (c' : Int) := by omega
      cases hB : findB x s <;> rw [hB] at cF
      · go_wp2_with fail
        refine cF.mono ?_
        clear cF
        rintro e w1 ⟨rfl, b1⟩
        have hS1 := hS.below b1
        have hX1 := hX.below b1
        have hc1 := (b1.cell (World.block_lt_of_cell? wr _ hc)).trans hc
        have b01 := bthen hbw b1
        clear hS hX hbw b1
        go_wp2_with fail
        have hxl := hX1.1
        have hxs := hX1.2.2.1
        have hR3 := strs_reads hX1
        obtain ⟨i0, hi0, hz0, hz1, hz2⟩ := info_parts str_info
        have hrt : ∀ W, Below w1.heap.size w1 W → Reads W w1.heap.size 1 A' q ((x.take q).map Value.string) := by
          intro W hW
          have h1 := hR3.below hW
          exact ⟨by simp; omega, fun hk => by
            obtain ⟨ad, e, hb, hc⟩ := h1.2 (by omega)
            exact ⟨ad, e, hb, fun j u hu => hc j u (by
              rw [List.map_take, List.getElem?_take] at hu
              split at hu
              · exact hu
              · cases hu)⟩⟩
        have hrd : ∀ W, Below w1.heap.size w1 W → Reads W w1.heap.size 1 (if c' = q then A' else A'.map (·.add q)) (m - q) ((x.drop q).map Value.string) := by
          intro W hW
          have h1 := (hR3.below hW).cut (k := q) (cap := c') hkle hmc
          rw [Nat.mul_one, ← List.map_drop] at h1
          exact h1
        have hone : ∀ (l : List ByteArray), ∀ u ∈ l.map Value.string, u.oneCell' = true := by
          intro l u hu
          obtain ⟨t, _, rfl⟩ := List.mem_map.1 hu
          rfl
        have hall : ∀ t ∈ x.take q ++ s :: x.drop q, t.size ≤ 4611686018427387904 := by
          intro t ht
          rcases List.mem_append.1 ht with ht | ht
          · exact hxs t (List.mem_of_mem_take ht)
          · rcases List.mem_cons.1 ht with rfl | ht
            · exact hts
            · exact hxs t (List.mem_of_mem_drop ht)
        have Hall := Lib.hid hall
        clear hall
        have Hrt := Lib.hid hrt
        have Hrd := Lib.hid hrd
        have Hone := Lib.hid hone
        have Hxl := Lib.hid hxl
        have Hz0 := Lib.hid hz0
        have Hz1 := Lib.hid hz1
        have Hz2 := Lib.hid hz2
        have Hi0 := Lib.hid hi0
        clear hrt hrd hone hxl hR3 hz0 hz1 hz2 hi0
        by_cases hqc : c' = q
        · obtain rfl : m = q := by omega
          obtain rfl : m = c' := by omega
          have Hr2 := Lib.hid (fun W hW => by have := Hrd.out W hW; rwa [if_pos rfl] at this : ∀ W, Below w1.heap.size w1 W → Reads W w1.heap.size 1 A' (m - m) ((x.drop m).map Value.string))
          go_region_law (first
            | (refine step_append_any _ rfl (.const (.slice none 0 0)) (.tmp 26) 22 rfl w1.heap.size 9 i0 (.string ⟨#[]⟩) 1 16 Tryz.underlying22 Hi0.out Hz0.out Hz1.out Hz2.out rfl (by omega) (.slice none 0 0) 0 [] ?_ ⟨by simp, .inl ⟨rfl, rfl⟩⟩ w1.heap.size A' m m ((x.take m).map Value.string) ?_ (Hrt.out _ (by first | exact (Below.refl _ _).drew | exact ((Below.refl _ _).alloc (Nat.le_refl _) _).drew)) (Hone.out _) ?_ ?_ ?_ ?_
               · simp [Act.eval]
               · simp [Act.eval, Act.put]
               · simp only [maxLen]; omega
               · omega
               · simp
               intro v1 w4 hown1 hg1 hat1
               have hc4 := (by first | exact hg1.cell (cell_alloc_l _ hc1) (by simp [Value.ownBlock]) | exact hg1.cell hc1 (by simp [Value.ownBlock])))
            | (refine step_append_any _ rfl (.tmp 27) (.tmp 32) 22 rfl w1.heap.size 9 i0 (.string ⟨#[]⟩) 1 16 Tryz.underlying22 Hi0.out Hz0.out Hz1.out Hz2.out rfl (by omega) v1 (0 + m) ([] ++ (x.take m).map Value.string) ?_ (hown1.alloc _) (w4.heap.size + 1) (some ⟨w4.heap.size, 0, none⟩) 1 1 ([s].map Value.string) ?_ (reads_one (World.cell?_alloc_mark w4 _ _ _ _) (by omega)) (Hone.out _) ?_ ?_ ?_ ?_
               · simp [Act.eval, Act.put]
               · simp [Act.eval, Act.put]
               · simp only [maxLen]; omega
               · omega
               · have := hg1.size; simp at this ⊢; omega
               intro v2 w5 hown2 hg2 hat2
               have hb5 : Below w1.heap.size w1 w5 := (balloc ((Below.refl _ w1).drew.grown hg1 (by simp) (by simp [Value.ownBlock])) _).grown hg2 (by have := hg1.size; simp at this ⊢; omega) (fun k hk => (hown1.lt k hk).1))
            | (refine step_append_any _ rfl (.tmp 27) (.tmp 32) 22 rfl w1.heap.size 9 i0 (.string ⟨#[]⟩) 1 16 Tryz.underlying22 Hi0.out Hz0.out Hz1.out Hz2.out rfl (by omega) v1 (0 + m) ([] ++ (x.take m).map Value.string) ?_ hown1 (w1.heap.size + 1) (some ⟨w1.heap.size, 0, none⟩) 1 1 ([s].map Value.string) ?_ (reads_one (hg1.cell (World.cell?_alloc_mark w1 _ _ _ _) (by simp [Value.ownBlock])) (by omega)) (Hone.out _) ?_ ?_ ?_ ?_
               · simp [Act.eval, Act.put]
               · simp [Act.eval, Act.put]
               · simp only [maxLen]; omega
               · omega
               · have := hg1.size; simp at this; omega
               intro v2 w5 hown2 hg2 hat2
               have hb5 : Below w1.heap.size w1 w5 := ((balloc (Below.refl _ w1) _).drew.grown hg1 (by simp) (by simp [Value.ownBlock])).grown hg2 (by have := hg1.size; simp at this; omega) (fun k hk => (hown1.lt k hk).1))
            | (refine step_append_any _ rfl (.tmp 33) (.tmp 36) 22 rfl w1.heap.size 9 i0 (.string ⟨#[]⟩) 1 16 Tryz.underlying22 Hi0.out Hz0.out Hz1.out Hz2.out rfl (by omega) v2 (0 + m + 1) ([] ++ (x.take m).map Value.string ++ [s].map Value.string) ?_ hown2 w1.heap.size A' (m - m) (m - m) ((x.drop m).map Value.string) ?_ (Hr2.out _ hb5) (Hone.out _) ?_ ?_ hb5.size ?_
               · simp [Act.eval, Act.put]
               · simp [Act.eval, Act.put]
               · simp only [maxLen]; omega
               · omega
               intro v3 w6 hown3 hg3 hat3
               have hb6 : Below w1.heap.size w1 w6 := hb5.grown hg3 hb5.size (fun k hk => (hown2.lt k hk).1)))
          all_goals
            rw [show 0 + m + 1 + (m - m) = m + 1 by omega, show ([] ++ (x.take m).map Value.string ++ [s].map Value.string) ++ (x.drop m).map Value.string = (x.take m ++ s :: x.drop m).map Value.string by simp] at hown3
            obtain ⟨A2, c2, hv2, hmc2, hS2⟩ := own_strs_cap hown3 (by omega) Hall.out
            subst hv2
            have b02 := bthen b01 hb6
            have hSn := hS1.below hb6
            go_wp2
            refine ⟨⟨k + 1, m + 1, A2, c2, by go_num, rfl, by omega, by omega, hmc2, b02, hSn, ?_⟩, by simp [intOf]; omega⟩
            rw [← hnx.out hB]
            exact hS2
        · have Hr2 := Lib.hid (fun W hW => by have := Hrd.out W hW; rwa [if_neg hqc] at this : ∀ W, Below w1.heap.size w1 W → Reads W w1.heap.size 1 (A'.map (·.add q)) (m - q) ((x.drop q).map Value.string))
          go_region_law (first
            | (refine step_append_any _ rfl (.const (.slice none 0 0)) (.tmp 26) 22 rfl w1.heap.size 9 i0 (.string ⟨#[]⟩) 1 16 Tryz.underlying22 Hi0.out Hz0.out Hz1.out Hz2.out rfl (by omega) (.slice none 0 0) 0 [] ?_ ⟨by simp, .inl ⟨rfl, rfl⟩⟩ w1.heap.size A' q c' ((x.take q).map Value.string) ?_ (Hrt.out _ (by first | exact (Below.refl _ _).drew | exact ((Below.refl _ _).alloc (Nat.le_refl _) _).drew)) (Hone.out _) ?_ ?_ ?_ ?_
               · simp [Act.eval]
               · simp [Act.eval, Act.put]
               · simp only [maxLen]; omega
               · omega
               · simp
               intro v1 w4 hown1 hg1 hat1
               have hc4 := (by first | exact hg1.cell (cell_alloc_l _ hc1) (by simp [Value.ownBlock]) | exact hg1.cell hc1 (by simp [Value.ownBlock])))
            | (refine step_append_any _ rfl (.tmp 27) (.tmp 32) 22 rfl w1.heap.size 9 i0 (.string ⟨#[]⟩) 1 16 Tryz.underlying22 Hi0.out Hz0.out Hz1.out Hz2.out rfl (by omega) v1 (0 + q) ([] ++ (x.take q).map Value.string) ?_ (hown1.alloc _) (w4.heap.size + 1) (some ⟨w4.heap.size, 0, none⟩) 1 1 ([s].map Value.string) ?_ (reads_one (World.cell?_alloc_mark w4 _ _ _ _) (by omega)) (Hone.out _) ?_ ?_ ?_ ?_
               · simp [Act.eval, Act.put]
               · simp [Act.eval, Act.put]
               · simp only [maxLen]; omega
               · omega
               · have := hg1.size; simp at this ⊢; omega
               intro v2 w5 hown2 hg2 hat2
               have hb5 : Below w1.heap.size w1 w5 := (balloc ((Below.refl _ w1).drew.grown hg1 (by simp) (by simp [Value.ownBlock])) _).grown hg2 (by have := hg1.size; simp at this ⊢; omega) (fun k hk => (hown1.lt k hk).1))
            | (refine step_append_any _ rfl (.tmp 27) (.tmp 32) 22 rfl w1.heap.size 9 i0 (.string ⟨#[]⟩) 1 16 Tryz.underlying22 Hi0.out Hz0.out Hz1.out Hz2.out rfl (by omega) v1 (0 + q) ([] ++ (x.take q).map Value.string) ?_ hown1 (w1.heap.size + 1) (some ⟨w1.heap.size, 0, none⟩) 1 1 ([s].map Value.string) ?_ (reads_one (hg1.cell (World.cell?_alloc_mark w1 _ _ _ _) (by simp [Value.ownBlock])) (by omega)) (Hone.out _) ?_ ?_ ?_ ?_
               · simp [Act.eval, Act.put]
               · simp [Act.eval, Act.put]
               · simp only [maxLen]; omega
               · omega
               · have := hg1.size; simp at this; omega
               intro v2 w5 hown2 hg2 hat2
               have hb5 : Below w1.heap.size w1 w5 := ((balloc (Below.refl _ w1) _).drew.grown hg1 (by simp) (by simp [Value.ownBlock])).grown hg2 (by have := hg1.size; simp at this; omega) (fun k hk => (hown1.lt k hk).1))
            | (refine step_append_any _ rfl (.tmp 33) (.tmp 36) 22 rfl w1.heap.size 9 i0 (.string ⟨#[]⟩) 1 16 Tryz.underlying22 Hi0.out Hz0.out Hz1.out Hz2.out rfl (by omega) v2 (0 + q + 1) ([] ++ (x.take q).map Value.string ++ [s].map Value.string) ?_ hown2 w1.heap.size (A'.map (·.add q)) (m - q) (c' - q) ((x.drop q).map Value.string) ?_ (Hr2.out _ hb5) (Hone.out _) ?_ ?_ hb5.size ?_
               · simp [Act.eval, Act.put]
               · simp [Act.eval, Act.put]
               · simp only [maxLen]; omega
               · omega
               intro v3 w6 hown3 hg3 hat3
               have hb6 : Below w1.heap.size w1 w6 := hb5.grown hg3 hb5.size (fun k hk => (hown2.lt k hk).1)))
          all_goals
            rw [show 0 + q + 1 + (m - q) = m + 1 by omega, show ([] ++ (x.take q).map Value.string ++ [s].map Value.string) ++ (x.drop q).map Value.string = (x.take q ++ s :: x.drop q).map Value.string by simp] at hown3
            obtain ⟨A2, c2, hv2, hmc2, hS2⟩ := own_strs_cap hown3 (by omega) Hall.out
            subst hv2
            have b02 := bthen b01 hb6
            have hSn := hS1.below hb6
            go_wp2
            refine ⟨⟨k + 1, m + 1, A2, c2, by go_num, rfl, by omega, by omega, hmc2, b02, hSn, ?_⟩, by simp [intOf]; omega⟩
            rw [← hnx.out hB]
            exact hS2
      · go_wp2_with fail
        refine cF.mono ?_
        clear cF
        rintro e w1 ⟨rfl, b1⟩
        go_wp2
        refine ⟨⟨k + 1, m, A', c', by go_num, rfl, by omega, by omega, hmc, bthen hbw b1, hS.below b1, ?_⟩, by simp [intOf]; omega⟩
        rw [hsm.out hB]
        exact hX.below b1
    · obtain rfl : n = k := by omega
      go_wp2
      go_ret
      refine ⟨A', m, c', rfl, ?_, hmc, hbw⟩
      rw [List.take_of_length_le (by omega)] at hX
      exact hX
end Go.Proofs.YtjinhkdncenhdaaGreatDoor
