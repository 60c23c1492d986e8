/- For any texts and any one: TextsOf answers true. -/
import Derived.Test.YtjinhkdncenhdaaGreatDoorBookA
import Derived.Test.YtjinhkdncenhdaaGreatDoorRef03S
set_option linter.unusedVariables false
set_option linter.unusedSimpArgs false
namespace Go.Proofs.YtjinhkdncenhdaaGreatDoor
open Go.RowKit Go.Sort

theorem keepTexts_any (b : Nat) (cs : Array Value) (num : Nat) (H : Value) (m : Nat) (xs : List Value) (B : Nat) (A : Option Addr) (n c : Nat) (w : World) (hB : Blk w b 46 cs) (hcs : cs.size = 16)
    (h0 : cs[0]? = some (.int .i64 num)) (h3 : cs[3]? = some H) (hH : Row w B 61 3 H m xs) (hBs : B ≤ w.heap.size) (hnum : num < 1000000) (hm : m < 1000000) :
    Calls Tryz.prog 16 #[.pointer (some ⟨b, 0, none⟩), .slice A n c] w fun e w' => (∃ u, e = .returned u) ∧ ∃ H', Blk w' b 46 ((cs.setIfInBounds 0 (.int .i64 (num + 1 : Nat))).setIfInBounds 3 H') ∧
      Row w' B 61 3 H' (m + 1) (xs ++ [.slice A n c, .slice none 0 0, .int .i64 (num + 1 : Nat)]) ∧ Chg (fun k => k = b ∨ H.ownBlock = some k) w w' ∧ (H'.ownBlock = H.ownBlock ∨ ∀ g, H'.ownBlock = some g → w.heap.size ≤ g) := by
  have cK := keepText_any b cs num H m xs B A n c w hB hcs h0 h3 hH hBs hnum hm
  have CK := Lib.hid cK
  clear cK h0 h3 hcs
  go_enter Tryz.func16, Tryz.ntmps16
  go_wp2_with fail
  refine CK.out.mono ?_
  rintro e w1 ⟨⟨u, rfl⟩, H', h1, h2, h3, h4⟩
  go_wp2
  go_end0
  exact ⟨⟨_, rfl⟩, H', h1, h2, h3, h4⟩

theorem strs_of_own {w : World} {B n c g : Nat} {e : TypeId} {l k : List ByteArray} (h : w.ownsRow B e 1 (.slice (some ⟨g, 0, none⟩) (n + 1) c) (n + 1) ((l ++ k).map Value.string)) (hl : l.length = n) (hn : n ≤ 9223372036854775807) (hs : ∀ s ∈ l, s.size ≤ 4611686018427387904) : Strs w (some ⟨g, 0, none⟩) n l := by
  refine ⟨hl, hn, hs, fun hp => ⟨_, rfl, fun j hj => ?_⟩⟩
  obtain ⟨g', cap, hv, _, hc, _⟩ := (Row.of_own h).cellAt (k := j) (u := .string l[j]) (by rw [List.getElem?_map, List.getElem?_append_left hj, List.getElem?_eq_getElem hj]; rfl)
  cases hv
  rw [add_lit, Nat.zero_add]
  exact hc

theorem row_less {w : World} {B B' n c g : Nat} {e : TypeId} {l k : List ByteArray} (h : w.ownsRow B e 1 (.slice (some ⟨g, 0, none⟩) (n + 1) c) (n + 1) ((l ++ k).map Value.string)) (hl : l.length = n) (hB : B' ≤ B) : Row w B' e 1 (.slice (some ⟨g, 0, none⟩) n c) n (l.map Value.string) := by
  refine ⟨by simp [hl], ?_⟩
  rcases h.2 with ⟨e0, _⟩ | ⟨g', cap, cur, e0, hb, hg, h1, h2, h3, h4⟩
  · cases e0
  · cases e0
    refine .inr ⟨_, _, cur, rfl, by omega, hg, by omega, h2, by omega, ?_⟩
    have := congrArg (List.take n) h4
    rw [List.take_take, Nat.min_eq_left (by omega), List.map_append, List.take_left' (by simp [hl])] at this
    rw [Nat.mul_one]
    exact this
theorem row_of_ownRow {w : World} {B B' m : Nat} {A : Option Addr} {l : List ByteArray} (h : OwnRow w B A m m) (hS : Strs w A m l) (hB : B' ≤ B) : Row w B' 9 1 (.slice A m m) m (l.map Value.string) := by
  refine ⟨by simp [hS.1], ?_⟩
  rcases h with ⟨rfl, rfl, _⟩ | ⟨g, cur, rfl, hb, hg, h1, _⟩
  · exact .inl ⟨rfl, rfl⟩
  · refine .inr ⟨g, m, cur, rfl, by omega, hg, Nat.le_refl _, by have := hS.2.1; simp only [maxLen]; omega, by omega, ?_⟩
    apply List.ext_getElem?
    intro j
    rw [Nat.mul_one]
    by_cases hj : j < m
    · obtain ⟨ad, s, e, hs, hc, _⟩ := hS.at_ hj
      cases e
      rw [List.getElem?_take_of_lt hj, List.getElem?_map, hs, Option.map_some, Array.getElem?_toList, ← Blk.cell (t := 9) hg j]
      rw [add_lit, Nat.zero_add] at hc
      exact hc
    · rw [List.getElem?_eq_none (by simp; omega), List.getElem?_eq_none (by simp [hS.1]; omega)]

def book0 : Array Value := #[.int .i64 0, .slice none 0 0, .slice none 0 0, .slice none 0 0, .slice none 0 0, .slice none 0 0, .slice none 0 0, .slice none 0 0, .slice none 0 0, .slice none 0 0, .slice none 0 0, .slice none 0 0, .slice none 0 0, .slice none 0 0, .slice none 0 0, .slice none 0 0]
theorem book_nil (a b c d : Value) (j : Nat) (h1 : 1 ≤ j) (h2 : j ≤ 15) (h3 : j ≠ 3) : ((((book0.setIfInBounds 0 a).setIfInBounds 3 b).setIfInBounds 0 c).setIfInBounds 3 d)[j]? = some (.slice none 0 0) := by
  rw [Array.getElem?_setIfInBounds_ne (by omega), Array.getElem?_setIfInBounds_ne (by omega), Array.getElem?_setIfInBounds_ne (by omega), Array.getElem?_setIfInBounds_ne (by omega)]
  have : j = 1 ∨ j = 2 ∨ j = 4 ∨ j = 5 ∨ j = 6 ∨ j = 7 ∨ j = 8 ∨ j = 9 ∨ j = 10 ∨ j = 11 ∨ j = 12 ∨ j = 13 ∨ j = 14 ∨ j = 15 := by omega
  rcases this with rfl | rfl | rfl | rfl | rfl | rfl | rfl | rfl | rfl | rfl | rfl | rfl | rfl | rfl <;> rfl

set_option maxRecDepth 100000 in
set_option maxHeartbeats 2000000 in
theorem textsOf_any (A : Option Addr) (n c : Nat) (l : List ByteArray) (s : ByteArray) (w : World) (h : Strs w A n l) (hs : s.size ≤ 4611686018427387904) :
    Calls Tryz.prog 3 #[.slice A n c, .string s] w fun e w' => e = .returned (.bool true) ∧ Below w.heap.size w w' := by
  have hn := h.2.1
  have cS := textsSize_any A n c l w h
  by_cases h1 : 200 < n
  · have i1 : (200 : Int) < (n : Int) := by omega
    go_enter Tryz.func3, Tryz.ntmps3
    go_wp2
    go_ret
    exact ⟨rfl, Below.refl _ _⟩
  · have i1 : (n : Int) ≤ 200 := by omega
    by_cases h2 : 20000 < textsSize l
    · have i2 : (20000 : Int) < (textsSize l : Int) := by omega
      go_enter Tryz.func3, Tryz.ntmps3
      go_wp2_with fail
      refine cS.mono ?_
      rintro e w1 ⟨rfl, b1⟩
      go_wp2
      go_ret
      exact ⟨rfl, b1⟩
    · have i2 : (textsSize l : Int) ≤ 20000 := by omega
      by_cases h3 : 20000 < s.size
      · have i3 : (20000 : Int) < (s.size : Int) := by omega
        go_enter Tryz.func3, Tryz.ntmps3
        go_wp2_with fail
        refine cS.mono ?_
        rintro e w1 ⟨rfl, b1⟩
        go_wp2
        go_ret
        exact ⟨rfl, b1⟩
      · have i3 : (s.size : Int) ≤ 20000 := by omega
        go_enter Tryz.func3, Tryz.ntmps3
        go_wp2_with fail
        refine cS.mono ?_
        rintro e w1 ⟨rfl, b1⟩
        have hS1 := h.below b1
        go_wp2_with fail
        refine (twinTexts_any A n c l w1 hS1 (by omega)).mono ?_
        rintro e w2 ⟨g, c', rfl, hc', hT, b2⟩
        have b12 := bthen b1 b2
        have hS2 := hS1.below b2
        have hT2 := strs_of_own hT h.1 hn h.2.2.1
        go_wp2_with fail
        refine (sort_any _ n c' l w2 hT2 (by omega)).mono ?_
        rintro e w3 ⟨A', m, rfl, hX, hOR, b3⟩
        have b13 := bthen b12 b3
        have hS3 := hS2.below b3
        have hT3 := hT2.below b3
        go_wp2_with fail
        refine (find_any _ n c' l s w3 hT3).mono ?_
        rintro e w4 ⟨rfl, b4⟩
        have b14 := bthen b13 b4
        have hS4 := hS3.below b4
        have hT4 := hT3.below b4
        have hX4 := hX.below b4
        go_wp2_with fail
        refine (refFind_any A n c l s w4 hS4).mono ?_
        rintro e w5 ⟨rfl, b5⟩
        have b15 := bthen b14 b5
        have hS5 := hS4.below b5
        have hT5 := hT4.below b5
        have hX5 := hX4.below b5
        obtain ⟨fn, hfn⟩ : ∃ fn, findN l s = fn := ⟨_, rfl⟩
        obtain ⟨fb, hfb⟩ : ∃ fb, findB l s = fb := ⟨_, rfl⟩
        rw [hfn, hfb]
        clear hfn hfb
        go_wp2_with fail
        refine (sorted_any _ n c' l w5 hT5).mono ?_
        rintro e w6 ⟨rfl, b6⟩
        have b16 := bthen b15 b6
        have hS6 := hS5.below b6
        have hT6 := hT5.below b6
        have hX6 := hX5.below b6
        go_wp2_with fail
        refine (refSorted_any A n c l w6 hS6).mono ?_
        rintro e w7 ⟨rfl, b7⟩
        have b17 := bthen b16 b7
        have hS7 := hS6.below b7
        have hT7 := hT6.below b7
        have hX7 := hX6.below b7
        obtain ⟨so, hso⟩ : ∃ so, sortedB l = so := ⟨_, rfl⟩
        rw [hso]
        clear hso
        go_wp2_with fail
        refine (name_any s w7 (by omega)).mono ?_
        rintro e w8 ⟨rfl, b8⟩
        have b18 := bthen b17 b8
        have hS8 := hS7.below b8
        have hT8 := hT7.below b8
        have hX8 := hX7.below b8
        go_wp2_with fail
        refine (refName_any s w8 (by omega)).mono ?_
        rintro e w9 ⟨rfl, b9⟩
        have b19 := bthen b18 b9
        have hS9 := hS8.below b9
        have hT9 := hT8.below b9
        have hX9 := hX8.below b9
        obtain ⟨na, hna⟩ : ∃ na, nameB s.data.toList = na := ⟨_, rfl⟩
        rw [hna]
        clear hna
        go_wp2_with fail
        refine (refSort_any A n c l w9 hS9 (by omega)).mono ?_
        rintro e w10 ⟨A3, m3, c3, rfl, hY, hmc3, b10⟩
        have b20 := bthen b19 b10
        have hS10 := hS9.below b10
        have hT10 := hT9.below b10
        have hX10 := hX9.below b10
        have cE := same_any A' A3 m m m3 c3 _ _ w10 hX10 hY
        rw [(sameB_iff _ _).2 rfl] at cE
        go_wp2_with fail
        refine cE.mono ?_
        clear cE
        rintro e w11 ⟨rfl, b11⟩
        have b21 := bthen b20 b11
        have hS11 := hS10.below b11
        go_wp2_with fail
        have c211 : Below w2.heap.size w2 w11 := bthen (bthen (bthen (bthen (bthen (bthen (bthen (bthen b3 b4) b5) b6) b7) b8) b9) b10) b11
        have c311 : Below w3.heap.size w3 w11 := bthen (bthen (bthen (bthen (bthen (bthen (bthen b4 b5) b6) b7) b8) b9) b10) b11
        have hTT : Strs w11 (some ⟨g, 0, none⟩) (n + 1) (l ++ [wordB 77]) := (reads_strs (Reads.of_own hT) (by omega) (fun x hx => by
          rcases List.mem_append.1 hx with hx | hx
          · exact h.2.2.1 x hx
          · rw [List.mem_singleton.1 hx]; have := wordB_size 77; omega)).below c211
        have hc63 : c' ≤ 9223372036854775807 := by
          rcases hT.2 with ⟨e0, _⟩ | ⟨_, _, _, e0, _, _, _, hm, _⟩
          · cases e0
          · simp only [maxLen] at hm; cases e0; exact hm
        refine (leftTexts_any _ A n c' c l w11 hS11 hTT hc' hc63).mono ?_
        rintro e w12 ⟨rfl, b12'⟩
        have b22 := bthen b21 b12'
        have hw01 : w.heap.size ≤ w1.heap.size := b1.size
        clear hS1 hS2 hS3 hS4 hS5 hS6 hS7 hS8 hS9 hS10 hS11 hT2 hT3 hT4 hT5 hT6 hT7 hT8 hT9 hT10 hTT hX4 hX5 hX6 hX7 hX8 hX9 hX10 hY b1 b4 b5 b6 b7 b8 b9 b10 b11 b13 b14 b15 b16 b17 b18 b19 b20 b21
        go_wp2_with fail
        obtain ⟨b, hb⟩ : ∃ b, w12.heap.size = b := ⟨_, rfl⟩
        obtain ⟨w13, hw13⟩ : ∃ w13, w12.alloc (.cells book0 46) = w13 := ⟨_, rfl⟩
        have hB13 : Blk w13 b 46 book0 := by rw [← hw13, ← hb]; exact Blk.new _ _ _
        have a1213 : Below w12.heap.size w12 w13 := by rw [← hw13]; exact (Below.refl _ w12).alloc (Nat.le_refl _) _
        have c213 := bthen (bthen c211 b12') a1213
        have c313 := bthen (bthen c311 b12') a1213
        have b23 := bthen b22 a1213
        have hbw : w.heap.size ≤ b := by rw [← hb]; exact b22.size
        have hw2s := b12.size
        have tR2 := row_less hT h.1 hw01
        have xR3 := row_of_ownRow hOR hX hw2s
        have tR13 := tR2.chg (S := fun _ => False) (Chg.of_below _ c213) (fun _ _ h => h)
        have xR13 := xR3.chg (S := fun _ => False) (Chg.of_below _ c313) (fun _ _ h => h)
        have hgl : g < w2.heap.size := (tR2.lt (g := g) rfl).2
        have hxg : ∀ q, (Value.slice A' m m).ownBlock = some q → w2.heap.size ≤ q := by
          intro q hq
          rcases hOR with ⟨rfl, _⟩ | ⟨g2, _, rfl, hg2, _⟩
          · simp [Value.ownBlock] at hq
          · have : g2 = q := by simpa [Value.ownBlock] using hq
            omega
        have hm200 : m ≤ 200 := by have := hX.1; have := sortT_length l; have := h.1; omega
        rw [show (.cells #[.int .i64 0, .slice none 0 0, .slice none 0 0, .slice none 0 0, .slice none 0 0, .slice none 0 0, .slice none 0 0, .slice none 0 0, .slice none 0 0, .slice none 0 0, .slice none 0 0, .slice none 0 0, .slice none 0 0, .slice none 0 0, .slice none 0 0, .slice none 0 0] 46 : Obj) = .cells book0 46 from rfl, hw13, hb]
        have cK1 := keepTexts_any b book0 0 (.slice none 0 0) 0 [] w.heap.size (some ⟨g, 0, none⟩) n c' w13 hB13 rfl rfl rfl (Row.nil _ _ _ _) b23.size (by omega) (by omega)
        have CK1 := Lib.hid cK1
        clear cK1 hw13 hb hT hX hOR c211 c311 c213 c313 tR2 xR3 b22 b12' a1213 b12 b2 b3
        refine CK1.out.mono ?_
        rintro e w14 ⟨⟨u, rfl⟩, H1, hB14, hH14, c14, o14⟩
        have tR14 := tR13.chg c14 (fun q hq e => by
          rcases e with rfl | e
          · exact tR13.ne_blk hB13 (by decide) hq
          · simp [Value.ownBlock] at e)
        have xR14 := xR13.chg c14 (fun q hq e => by
          rcases e with rfl | e
          · exact xR13.ne_blk hB13 (by decide) hq
          · simp [Value.ownBlock] at e)
        have b24 := Chg.to_below b23 b23.size c14 (fun k hk e => by
          rcases e with rfl | e
          · omega
          · simp [Value.ownBlock] at e)
        have cK2 := keepTexts_any b _ 1 H1 1 _ w.heap.size A' m m w14 hB14 (by simp [book0]) (by simp [book0]) (by simp [book0]) hH14 b24.size (by omega) (by omega)
        have CK2 := Lib.hid cK2
        clear cK2
        go_wp2_with fail
        refine CK2.out.mono ?_
        rintro e w15 ⟨⟨u, rfl⟩, H2, hB15, hH15, c15, o15⟩
        have hne1 : ∀ q, H1.ownBlock = some q → ∃ cur, Blk w14 q 61 cur := fun q hq => hH14.blk hq
        have tR15 := tR14.chg c15 (fun q hq e => by
          rcases e with rfl | e
          · exact tR14.ne_blk hB14 (by decide) hq
          · obtain ⟨cur, hcur⟩ := hne1 q e
            exact tR14.ne_blk hcur (by decide) hq)
        have xR15 := xR14.chg c15 (fun q hq e => by
          rcases e with rfl | e
          · exact xR14.ne_blk hB14 (by decide) hq
          · obtain ⟨cur, hcur⟩ := hne1 q e
            exact xR14.ne_blk hcur (by decide) hq)
        have b25 := Chg.to_below b24 b24.size c15 (fun k hk e => by
          rcases e with rfl | e
          · omega
          · have := (hH14.lt e).1; omega)
        have cA := apart_texts b _ H2 [⟨some ⟨g, 0, none⟩, n, c', 1, none, 0, 0⟩, ⟨A', m, m, 2, none, 0, 0⟩] w.heap.size w15 hB15 (fun j h1 h2 h3 => book_nil _ _ _ _ j h1 h2 h3) (by simp [book0]) hH15 b25.size (fun j h hj => by
          match j, hj with
          | 0, hj => cases hj; exact ⟨show 1 < 100 by omega, show n ≤ 1000000 by omega, _, tR15⟩
          | 1, hj => cases hj; exact ⟨show 2 < 100 by omega, show m ≤ 1000000 by omega, _, xR15⟩
          | j + 2, hj => simp at hj) (fun i j h k hi hj hij q hq hq' => by
          match i, j, hi, hj, hij with
          | 0, 0, _, _, hij => exact hij rfl
          | 1, 1, _, _, hij => exact hij rfl
          | 0, 1, hi, hj, _ =>
            cases hi; cases hj
            have h1 : g = q := by simpa [Hold.v, Value.ownBlock] using hq
            have h2 := hxg q hq'
            omega
          | 1, 0, hi, hj, _ =>
            cases hi; cases hj
            have h1 : g = q := by simpa [Hold.v, Value.ownBlock] using hq'
            have h2 := hxg q hq
            omega
          | i + 2, _, hi, _, _ => simp at hi
          | 0, j + 2, _, hj, _ => simp at hj
          | 1, j + 2, _, hj, _ => simp at hj) (by simp)
        have CA := Lib.hid cA
        clear cA
        go_wp2_with fail
        refine CA.out.mono ?_
        rintro e w16 ⟨rfl, c16⟩
        have b26 := Chg.to_below b25 b25.size c16 (fun k hk e => by
          rcases e with ⟨h, hh, e⟩ | e
          · simp only [List.mem_cons, List.not_mem_nil, or_false] at hh
            rcases hh with rfl | rfl
            · have := (tR15.lt e).1; omega
            · have := (xR15.lt e).1; omega
          · have := (hH15.lt e).1; omega)
        go_wp2
        go_ret
        exact ⟨rfl, b26⟩
end Go.Proofs.YtjinhkdncenhdaaGreatDoor
