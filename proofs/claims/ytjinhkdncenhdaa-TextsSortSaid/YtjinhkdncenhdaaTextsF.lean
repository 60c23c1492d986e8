/- For any texts and any one: TextsFind answers true. -/
import Derived.Test.YtjinhkdncenhdaaTextsL
import Derived.Test.YtjinhkdncenhdaaWords
import Derived.RegionTactic
import Derived.BigRegion
import Derived.ChangeAlike
import Derived.Deep.DeepCutAuto
import Derived.Deep.RegionLaw
set_option linter.unusedVariables false
set_option linter.unusedSimpArgs false
namespace Go.Proofs.Ytjinhkdncenhdaa
open Go.RowKit

theorem sortT_length (l : List ByteArray) : (sortT l).length ≤ l.length := by
  unfold sortT sortL
  rw [List.length_map]
  refine Nat.le_trans (compact_length _) ?_
  simp
theorem great_len {l : List ByteArray} (h : greatB l = false) : l.length ≤ 150 := by
  simp only [greatB, Bool.or_eq_false_iff, decide_eq_false_iff_not] at h
  omega

theorem strs_reads {w : World} {A : Option Addr} {n : Nat} {l : List ByteArray} (h : Strs w A n l) : Reads w w.heap.size 1 A n (l.map Value.string) := by
  refine ⟨by simp [h.1], fun hn => ?_⟩
  obtain ⟨ad, e, hc⟩ := h.2.2.2 hn
  refine ⟨ad, e, ?_, fun j u hu => ?_⟩
  · have := World.block_lt_of_cell? w _ (hc 0 (by have := h.1; omega))
    rwa [block_of_add] at this
  · rw [List.getElem?_map] at hu
    cases hj : l[j]? with
    | none => rw [hj] at hu; cases hu
    | some s =>
      rw [hj] at hu
      cases hu
      obtain ⟨hlt, rfl⟩ := List.getElem?_eq_some_iff.1 hj
      exact hc j hlt
theorem reads_strs {w : World} {B : Nat} {A : Option Addr} {n : Nat} {l : List ByteArray} (h : Reads w B 1 A n (l.map Value.string)) (hn : n ≤ 9223372036854775807) (hs : ∀ s ∈ l, s.size ≤ 4611686018427387904) : Strs w A n l := by
  have hl : l.length = n := by simpa using h.1
  refine ⟨hl, hn, hs, fun hp => ?_⟩
  obtain ⟨ad, e, _, hc⟩ := h.2 hp
  exact ⟨ad, e, fun j hj => hc j _ (by rw [List.getElem?_map, List.getElem?_eq_getElem hj]; rfl)⟩

theorem reads_one {w : World} {b B : Nat} {s : ByteArray} (hc : w.cell? ⟨b, 0, none⟩ = some (.string s)) (hb : b < B) : Reads w B 1 (some ⟨b, 0, none⟩) 1 ([s].map Value.string) :=
  ⟨by simp, fun _ => ⟨_, rfl, hb, fun j u hu => by
    cases j with
    | zero =>
      simp at hu
      subst hu
      rw [add_lit]
      exact hc
    | succ j => simp at hu⟩⟩

theorem own_strs {w : World} {B n : Nat} {e : TypeId} {v : Value} {l : List ByteArray} (h : w.ownsRow B e 1 v n (l.map Value.string)) (hn : n ≤ 9223372036854775807) (hs : ∀ s ∈ l, s.size ≤ 4611686018427387904) :
    ∃ A c, v = .slice A n c ∧ Strs w A n l := by
  rcases h.2 with ⟨rfl, rfl⟩ | ⟨g, cap, cur, rfl, hb, hg, hc⟩
  · exact ⟨none, 0, rfl, reads_strs (Reads.of_own (c := 0) h) hn hs⟩
  · exact ⟨_, _, rfl, reads_strs (Reads.of_own h) hn hs⟩

theorem str_info : (Try.prog.info? 9).map (fun i => (i.zero, i.size, i.bytes)) = some (some (.string ⟨#[]⟩), 1, 16) := by kernel_rfl

set_option maxHeartbeats 400000 in
theorem textsFind_any (A : Option Addr) (n c : Nat) (l : List ByteArray) (s : ByteArray) (w : World) (h : Strs w A n l) (hs : s.size ≤ 4611686018427387904) :
    Calls Try.prog 4 #[.slice A n c, .string s] w fun e w' => e = .returned (.bool true) ∧ Below w.heap.size w w' := by
  have cG := great_any A n c l w h
  cases hg : greatB l
  · have hln := great_len hg
    have hn : n ≤ 150 := by rw [← h.1]; exact hln
    rw [hg] at cG
    have CG := Lib.hid cG
    clear cG hg
    by_cases hs2 : 20000 < s.size
    · have j1 : (20000 : Int) < (s.size : Int) := by omega
      go_enter Try.func4, Try.ntmps4
      go_wp2_with fail
      refine CG.out.mono ?_
      rintro e w1 ⟨rfl, b1⟩
      go_wp2_with fail
      refine (alive_any _).mono ?_
      rintro e w2 ⟨rfl, b2⟩
      go_wp2
      go_ret
      exact ⟨rfl, bthen b1 b2⟩
    · have j1 : (s.size : Int) ≤ 20000 := by omega
      go_enter Try.func4, Try.ntmps4
      go_wp2_with fail
      refine CG.out.mono ?_
      rintro e w1 ⟨rfl, b1⟩
      go_wp2_with fail
      refine (sort_any A n c l w1 (h.below b1) (by omega)).mono ?_
      rintro e w2 ⟨A', m, rfl, hX, hO, b2⟩
      have b12 := bthen b1 b2
      have hmn : m ≤ n := by have := sortT_length l; have := hX.1; have := h.1; omega
      have hR := sortT_rise l
      have hmem := mem_sortT l
      obtain ⟨x, hx⟩ : ∃ x, sortT l = x := ⟨_, rfl⟩
      rw [hx] at hX hR hmem
      clear hx b2
      have hh := h.below b12
      go_wp2_with fail
      refine (find_any A' m m x s w2 hX).mono ?_
      rintro e w3 ⟨rfl, b3⟩
      have b13 := bthen b12 b3
      have hX3 := hX.below b3
      have hh3 := hh.below b3
      clear b3 hh CG
      have hkle : findN x s ≤ m := by rw [← hX.1]; exact findN_le x s
      have hless := less_iff_findN hR s
      have hfb := findB_iff hR s
      obtain ⟨k, hk⟩ : ∃ k, findN x s = k := ⟨_, rfl⟩
      have Hk := Lib.hid hk
      rw [hk] at hkle hless ⊢
      clear hk
      obtain ⟨B, hB⟩ : ∃ B, findB x s = B := ⟨_, rfl⟩
      rw [hB] at hfb ⊢
      clear hB
      have i1 : (0 : Int) ≤ (k : Int) := by omega
      have i2 : (k : Int) ≤ (m : Int) := by omega
      have Hless := Lib.hid hless
      have Hfb := Lib.hid hfb
      have HR := Lib.hid hR
      have Hmem := Lib.hid hmem
      clear hless hfb hR hmem
      go_wp2_with fail
      go_loop [8] (fun v => ∃ i : Nat, v = .int .i64 i ∧ i ≤ m) (fun v => m - (intOf v).toNat)
      case atStart => exact ⟨0, rfl, by omega⟩
      case round =>
        obtain ⟨i, rfl, hi⟩ := hrel
        by_cases hlt : i < m
        · obtain ⟨ad, t, rfl, htk, hct, hts⟩ := hX3.at_ hlt
          have j2 : (i : Int) < (m : Int) := by omega
          have hiff := Hless.out i t htk
          cases hb : Op.bytesLess t.toList s.toList
          · have hik : ¬ i < k := fun e => by rw [hiff.2 e] at hb; cases hb
            have hik' : (k : Int) ≤ (i : Int) := by omega
            clear hiff
            have Htk := Lib.hid htk
            clear htk
            have d1 : decide ((i : Int) < (k : Int)) = false := decide_eq_false (by omega)
            have d2 : decide (i < k) = false := decide_eq_false hik
            go_wp2
            exact ⟨⟨i + 1, by go_num, by omega⟩, by simp [intOf]; omega⟩
          · have hik : i < k := hiff.1 hb
            have hik' : (i : Int) < (k : Int) := by omega
            clear hiff
            have Htk := Lib.hid htk
            clear htk
            have d1 : decide ((i : Int) < (k : Int)) = true := decide_eq_true (by omega)
            have d2 : decide (i < k) = true := decide_eq_true hik
            go_wp2
            exact ⟨⟨i + 1, by go_num, by omega⟩, by simp [intOf]; omega⟩
        · obtain rfl : m = i := by omega
          have hxl := hX3.1
          have hxs := hX3.2.2.1
          have hR3 := strs_reads hX3
          obtain ⟨i0, hi0, hz0, hz1, hz2⟩ := info_parts str_info
          have hrt : ∀ W, Below w3.heap.size w3 W → Reads W w3.heap.size 1 A' k ((x.take k).map Value.string) := by
            intro W hW
            have h1 := hR3.below hW
            exact ⟨by simp; omega, fun hk => by
              obtain ⟨ad, e, hb, hc⟩ := h1.2 (by omega)
              exact ⟨ad, e, hb, fun j u hu => hc j u (by
                rw [List.map_take, List.getElem?_take] at hu
                split at hu
                · exact hu
                · cases hu)⟩⟩
          have hrd : ∀ W, Below w3.heap.size w3 W → Reads W w3.heap.size 1 (if m = k then A' else A'.map (·.add k)) (m - k) ((x.drop k).map Value.string) := by
            intro W hW
            have h1 := (hR3.below hW).cut (k := k) (cap := m) hkle (Nat.le_refl _)
            rw [Nat.mul_one, ← List.map_drop] at h1
            exact h1
          have hone : ∀ (l : List ByteArray), ∀ u ∈ l.map Value.string, u.oneCell' = true := by
            intro l u hu
            obtain ⟨t, _, rfl⟩ := List.mem_map.1 hu
            rfl
          have hall : ∀ t ∈ x.take k ++ s :: x.drop k, t.size ≤ 4611686018427387904 := by
            intro t ht
            rcases List.mem_append.1 ht with ht | ht
            · exact hxs t (List.mem_of_mem_take ht)
            · rcases List.mem_cons.1 ht with rfl | ht
              · exact hs
              · exact hxs t (List.mem_of_mem_drop ht)
          have Hall := Lib.hid hall
          clear hall
          have Hrt := Lib.hid hrt
          have Hrd := Lib.hid hrd
          have Hone := Lib.hid hone
          have Hxl := Lib.hid hxl
          have Hz0 := Lib.hid hz0
          have Hz1 := Lib.hid hz1
          have Hz2 := Lib.hid hz2
          have Hi0 := Lib.hid hi0
          clear hrt hrd hone hxl hR3 hz0 hz1 hz2 hi0
          go_upto_region 12 with fail
          go_cut [9] (fun s9 wx => ∃ A2 c2, s9 = .slice A2 (m + 1) c2 ∧ Strs wx A2 (m + 1) (x.take k ++ s :: x.drop k) ∧ Below w3.heap.size w3 wx)
          case first =>
            rcases Nat.eq_or_lt_of_le hkle with rfl | hkm
            · have Hr2 := Lib.hid (fun W hW => by have := Hrd.out W hW; rwa [if_pos rfl] at this : ∀ W, Below w3.heap.size w3 W → Reads W w3.heap.size 1 A' (k - k) ((x.drop k).map Value.string))
              go_region_law (first
                | (refine step_append_any _ rfl (.const (.slice none 0 0)) (.tmp 52) 22 rfl w3.heap.size 9 i0 (.string ⟨#[]⟩) 1 16 Try.underlying22 Hi0.out Hz0.out Hz1.out Hz2.out rfl (by omega) (.slice none 0 0) 0 [] ?_ ⟨by simp, .inl ⟨rfl, rfl⟩⟩ w3.heap.size A' k k ((x.take k).map Value.string) ?_ (Hrt.out _ (by first | exact (Below.refl _ _).drew | exact ((Below.refl _ _).alloc (Nat.le_refl _) _).drew)) (Hone.out _) ?_ ?_ ?_ ?_
                   · simp [Act.eval]
                   · simp [Act.eval, Act.put]
                   · simp only [maxLen]; omega
                   · omega
                   · simp
                   intro v1 w4 hown1 hg1 hat1)
                | (refine step_append_any _ rfl (.tmp 53) (.tmp 55) 22 rfl w3.heap.size 9 i0 (.string ⟨#[]⟩) 1 16 Try.underlying22 Hi0.out Hz0.out Hz1.out Hz2.out rfl (by omega) v1 (0 + k) ([] ++ (x.take k).map Value.string) ?_ (hown1.alloc _) (w4.heap.size + 1) (some ⟨w4.heap.size, 0, none⟩) 1 1 ([s].map Value.string) ?_ (reads_one (World.cell?_alloc_mark w4 _ _ _ _) (by omega)) (Hone.out _) ?_ ?_ ?_ ?_
                   · simp [Act.eval, Act.put]
                   · simp [Act.eval, Act.put]
                   · simp only [maxLen]; omega
                   · omega
                   · have := hg1.size; simp at this ⊢; omega
                   intro v2 w5 hown2 hg2 hat2
                   have hb5 : Below w3.heap.size w3 w5 := (balloc ((Below.refl _ w3).drew.grown hg1 (by simp) (by simp [Value.ownBlock])) _).grown hg2 (by have := hg1.size; simp at this ⊢; omega) (fun k hk => (hown1.lt k hk).1))
                | (refine step_append_any _ rfl (.tmp 53) (.tmp 55) 22 rfl w3.heap.size 9 i0 (.string ⟨#[]⟩) 1 16 Try.underlying22 Hi0.out Hz0.out Hz1.out Hz2.out rfl (by omega) v1 (0 + k) ([] ++ (x.take k).map Value.string) ?_ hown1 (w3.heap.size + 1) (some ⟨w3.heap.size, 0, none⟩) 1 1 ([s].map Value.string) ?_ (reads_one (hg1.cell (World.cell?_alloc_mark w3 _ _ _ _) (by simp [Value.ownBlock])) (by omega)) (Hone.out _) ?_ ?_ ?_ ?_
                   · simp [Act.eval, Act.put]
                   · simp [Act.eval, Act.put]
                   · simp only [maxLen]; omega
                   · omega
                   · have := hg1.size; simp at this; omega
                   intro v2 w5 hown2 hg2 hat2
                   have hb5 : Below w3.heap.size w3 w5 := ((balloc (Below.refl _ w3) _).drew.grown hg1 (by simp) (by simp [Value.ownBlock])).grown hg2 (by have := hg1.size; simp at this; omega) (fun k hk => (hown1.lt k hk).1))
                | (refine step_append_any _ rfl (.tmp 56) (.tmp 59) 22 rfl w3.heap.size 9 i0 (.string ⟨#[]⟩) 1 16 Try.underlying22 Hi0.out Hz0.out Hz1.out Hz2.out rfl (by omega) v2 (0 + k + 1) ([] ++ (x.take k).map Value.string ++ [s].map Value.string) ?_ hown2 w3.heap.size A' (k - k) (k - k) ((x.drop k).map Value.string) ?_ (Hr2.out _ hb5) (Hone.out _) ?_ ?_ hb5.size ?_
                   · simp [Act.eval, Act.put]
                   · simp [Act.eval, Act.put]
                   · simp only [maxLen]; omega
                   · omega
                   intro v3 w6 hown3 hg3 hat3
                   have hb6 : Below w3.heap.size w3 w6 := hb5.grown hg3 hb5.size (fun k hk => (hown2.lt k hk).1)))
              all_goals
                go_wp2_with fail
                go_meet
                rw [show 0 + k + 1 + (k - k) = k + 1 by omega, show ([] ++ (x.take k).map Value.string ++ [s].map Value.string) ++ (x.drop k).map Value.string = (x.take k ++ s :: x.drop k).map Value.string by simp] at hown3
                obtain ⟨A2, c2, rfl, hS2⟩ := own_strs hown3 (by omega) Hall.out
                exact ⟨A2, c2, rfl, hS2, hb6⟩
            · have hmk : ¬ m = k := by omega
              have Hr2 := Lib.hid (fun W hW => by have := Hrd.out W hW; rwa [if_neg hmk] at this : ∀ W, Below w3.heap.size w3 W → Reads W w3.heap.size 1 (A'.map (·.add k)) (m - k) ((x.drop k).map Value.string))
              go_region_law (first
                | (refine step_append_any _ rfl (.const (.slice none 0 0)) (.tmp 52) 22 rfl w3.heap.size 9 i0 (.string ⟨#[]⟩) 1 16 Try.underlying22 Hi0.out Hz0.out Hz1.out Hz2.out rfl (by omega) (.slice none 0 0) 0 [] ?_ ⟨by simp, .inl ⟨rfl, rfl⟩⟩ w3.heap.size A' k m ((x.take k).map Value.string) ?_ (Hrt.out _ (by first | exact (Below.refl _ _).drew | exact ((Below.refl _ _).alloc (Nat.le_refl _) _).drew)) (Hone.out _) ?_ ?_ ?_ ?_
                   · simp [Act.eval]
                   · simp [Act.eval, Act.put]
                   · simp only [maxLen]; omega
                   · omega
                   · simp
                   intro v1 w4 hown1 hg1 hat1)
                | (refine step_append_any _ rfl (.tmp 53) (.tmp 55) 22 rfl w3.heap.size 9 i0 (.string ⟨#[]⟩) 1 16 Try.underlying22 Hi0.out Hz0.out Hz1.out Hz2.out rfl (by omega) v1 (0 + k) ([] ++ (x.take k).map Value.string) ?_ (hown1.alloc _) (w4.heap.size + 1) (some ⟨w4.heap.size, 0, none⟩) 1 1 ([s].map Value.string) ?_ (reads_one (World.cell?_alloc_mark w4 _ _ _ _) (by omega)) (Hone.out _) ?_ ?_ ?_ ?_
                   · simp [Act.eval, Act.put]
                   · simp [Act.eval, Act.put]
                   · simp only [maxLen]; omega
                   · omega
                   · have := hg1.size; simp at this ⊢; omega
                   intro v2 w5 hown2 hg2 hat2
                   have hb5 : Below w3.heap.size w3 w5 := (balloc ((Below.refl _ w3).drew.grown hg1 (by simp) (by simp [Value.ownBlock])) _).grown hg2 (by have := hg1.size; simp at this ⊢; omega) (fun k hk => (hown1.lt k hk).1))
                | (refine step_append_any _ rfl (.tmp 53) (.tmp 55) 22 rfl w3.heap.size 9 i0 (.string ⟨#[]⟩) 1 16 Try.underlying22 Hi0.out Hz0.out Hz1.out Hz2.out rfl (by omega) v1 (0 + k) ([] ++ (x.take k).map Value.string) ?_ hown1 (w3.heap.size + 1) (some ⟨w3.heap.size, 0, none⟩) 1 1 ([s].map Value.string) ?_ (reads_one (hg1.cell (World.cell?_alloc_mark w3 _ _ _ _) (by simp [Value.ownBlock])) (by omega)) (Hone.out _) ?_ ?_ ?_ ?_
                   · simp [Act.eval, Act.put]
                   · simp [Act.eval, Act.put]
                   · simp only [maxLen]; omega
                   · omega
                   · have := hg1.size; simp at this; omega
                   intro v2 w5 hown2 hg2 hat2
                   have hb5 : Below w3.heap.size w3 w5 := ((balloc (Below.refl _ w3) _).drew.grown hg1 (by simp) (by simp [Value.ownBlock])).grown hg2 (by have := hg1.size; simp at this; omega) (fun k hk => (hown1.lt k hk).1))
                | (refine step_append_any _ rfl (.tmp 56) (.tmp 59) 22 rfl w3.heap.size 9 i0 (.string ⟨#[]⟩) 1 16 Try.underlying22 Hi0.out Hz0.out Hz1.out Hz2.out rfl (by omega) v2 (0 + k + 1) ([] ++ (x.take k).map Value.string ++ [s].map Value.string) ?_ hown2 w3.heap.size (A'.map (·.add k)) (m - k) (m - k) ((x.drop k).map Value.string) ?_ (Hr2.out _ hb5) (Hone.out _) ?_ ?_ hb5.size ?_
                   · simp [Act.eval, Act.put]
                   · simp [Act.eval, Act.put]
                   · simp only [maxLen]; omega
                   · omega
                   intro v3 w6 hown3 hg3 hat3
                   have hb6 : Below w3.heap.size w3 w6 := hb5.grown hg3 hb5.size (fun k hk => (hown2.lt k hk).1)))
              all_goals
                go_wp2_with fail
                go_meet
                rw [show 0 + k + 1 + (m - k) = m + 1 by omega, show ([] ++ (x.take k).map Value.string ++ [s].map Value.string) ++ (x.drop k).map Value.string = (x.take k ++ s :: x.drop k).map Value.string by simp] at hown3
                obtain ⟨A2, c2, rfl, hS2⟩ := own_strs hown3 (by omega) Hall.out
                exact ⟨A2, c2, rfl, hS2, hb6⟩
          case rest =>
            obtain ⟨A2, c2, rfl, hS2, b4⟩ := hcut
            have b14 := bthen b13 b4
            have hh4 := hh3.below b4
            have hins := insert_sorted HR.out s
            rw [Hk.out] at hins
            have hins2 : sortedB (x.take k ++ s :: x.drop k) = !(findB x s) := hins
            have hB2 : findB x s = B := by
              cases B
              · cases h1 : findB x s
                · rfl
                · have := (Hfb.out.2 ((findB_iff HR.out s).1 h1)); cases this
              · exact (findB_iff HR.out s).2 (Hfb.out.1 rfl)
            have hH2 : hasB l s = B := by
              cases B
              · cases h1 : hasB l s
                · rfl
                · have := Hfb.out.2 ((Hmem.out s).2 ((hasB_iff l s).1 h1)); cases this
              · exact (hasB_iff l s).2 ((Hmem.out s).1 (Hfb.out.1 rfl))
            rw [hB2] at hins2
            have Hins := Lib.hid hins2
            have HH := Lib.hid hH2
            clear hins hins2 hB2 hH2
            go_wp2_with fail
            refine (alive_any _).mono ?_
            rintro e w5 ⟨rfl, b5⟩
            go_wp2_with fail
            have cH := has_any A n c l s w5 (hh4.below b5)
            rw [HH.out] at cH
            refine cH.mono ?_
            clear cH
            rintro e w6 ⟨rfl, b6⟩
            have b46 := bthen b5 b6
            have cO := sorted_any A2 (m + 1) c2 _ w6 (hS2.below b46)
            rw [Hins.out] at cO
            have CO := Lib.hid cO
            clear cO
            cases B
            all_goals
              go_wp2_with fail
              refine CO.out.mono ?_
              rintro e w7 ⟨rfl, b7⟩
              go_wp2
              go_ret
              exact ⟨rfl, bthen (bthen b14 b46) b7⟩
  · rw [hg] at cG
    have CG := Lib.hid cG
    clear cG hg
    go_enter Try.func4, Try.ntmps4
    go_wp2_with fail
    refine CG.out.mono ?_
    rintro e w1 ⟨rfl, b1⟩
    go_wp2_with fail
    refine (alive_any _).mono ?_
    rintro e w2 ⟨rfl, b2⟩
    go_wp2
    go_ret
    exact ⟨rfl, bthen b1 b2⟩
end Go.Proofs.Ytjinhkdncenhdaa
