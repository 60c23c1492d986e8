/- The book of lists: fillText. -/
import Derived.Test.YtjinhkdncenhdaaGreatDoorBookT
import Derived.Deep.RegionWith
set_option linter.unusedVariables false
set_option linter.unusedSimpArgs false
namespace Go.Proofs.YtjinhkdncenhdaaGreatDoor
open Go.RowKit

/-- a list that is held -/
structure Hold where
  A : Option Addr
  n : Nat
  c : Nat
  num : Nat
  lA : Option Addr
  ln : Nat
  lc : Nat
def Hold.v (h : Hold) : Value := .slice h.A h.n h.c
def Hold.cells (h : Hold) : List Value := [.slice h.A h.n h.c, .slice h.lA h.ln h.lc, .int .i64 h.num]
def heldL (hs : List Hold) : List Value := hs.flatMap Hold.cells
theorem heldL_length (hs : List Hold) : (heldL hs).length = hs.length * 3 := by
  induction hs with
  | nil => rfl
  | cons h r ih => simp [heldL, Hold.cells] at ih ⊢; omega
theorem heldL_at : ∀ (hs : List Hold) (j : Nat) (h : Hold), hs[j]? = some h → (heldL hs)[j * 3]? = some (.slice h.A h.n h.c) ∧ (heldL hs)[j * 3 + 1]? = some (.slice h.lA h.ln h.lc) ∧ (heldL hs)[j * 3 + 2]? = some (.int .i64 h.num)
  | [], j, h, e => by simp at e
  | x :: r, 0, h, e => by
    simp at e
    subst e
    simp [heldL, Hold.cells]
  | x :: r, j + 1, h, e => by
    have := heldL_at r j h (by simpa using e)
    have e1 : heldL (x :: r) = x.cells ++ heldL r := by simp [heldL]
    have e2 : x.cells.length = 3 := rfl
    rw [e1]
    refine ⟨?_, ?_, ?_⟩
    · rw [List.getElem?_append_right (by omega), e2, show (j + 1) * 3 - 3 = j * 3 by omega]; exact this.1
    · rw [List.getElem?_append_right (by omega), e2, show (j + 1) * 3 + 1 - 3 = j * 3 + 1 by omega]; exact this.2.1
    · rw [List.getElem?_append_right (by omega), e2, show (j + 1) * 3 + 2 - 3 = j * 3 + 2 by omega]; exact this.2.2

theorem markText_any (n : Nat) (hn : n < 100) (w : World) :
    Calls Tryz.prog 78 #[.int .i64 n] w fun e w' => e = .returned (.string (wordB n)) ∧ w' = w := by
  go_enter Tryz.func78, Tryz.ntmps78
  go_wp2_with fail
  refine (word_any n hn w).mono ?_
  rintro e w1 ⟨rfl, e1⟩
  obtain rfl := e1.symm
  go_wp2
  go_ret
  exact ⟨rfl, rfl⟩

/-- whose blocks are held -/
def heldIn (hs : List Hold) (k : Nat) : Prop := ∃ h ∈ hs, h.v.ownBlock = some k
/-- no two of them share a block -/
def Apart (hs : List Hold) : Prop := ∀ (i j : Nat) (h k : Hold), hs[i]? = some h → hs[j]? = some k → i ≠ j → ∀ g, h.v.ownBlock = some g → k.v.ownBlock ≠ some g
/-- each of them is a row -/
def Rows_ (w : World) (B : Nat) (e : TypeId) (size : Nat) (hs : List Hold) : Prop := ∀ (j : Nat) (h : Hold), hs[j]? = some h → h.num < 100 ∧ ∃ xs, Row w B e size h.v h.n xs
def markT (h : Hold) : List Value := List.replicate h.n (.string (wordB h.num))

theorem fill_step {e E : TypeId} (hs : List Hold) (B i k hb1 g n c num : Nat) (lA : Option Addr) (ln lc : Nat) (w wr : World) {cs : Array Value} (hc2 : Chg (heldIn hs) w wr) (hB2 : Blk wr hb1 E cs)
    (hX2 : ∀ (j : Nat) (h' : Hold), hs[j]? = some h' → ∃ xs, Row wr B e 1 h'.v h'.n xs ∧ (j < i → xs = markT h') ∧ (j = i → ∀ q, q < k → xs[q]? = some (.string (wordB num)))) (hA : Apart hs)
    (Hh : hs[i]? = some ⟨some ⟨g, 0, none⟩, n, c, num, lA, ln, lc⟩) (hkl : k < n) (hne : e ≠ E) :
    Chg (heldIn hs) w (wr.setCell ⟨g, k, none⟩ (.string (wordB num))).drew ∧ Blk (wr.setCell ⟨g, k, none⟩ (.string (wordB num))).drew hb1 E cs ∧
      ∀ (j : Nat) (h' : Hold), hs[j]? = some h' → ∃ xs, Row (wr.setCell ⟨g, k, none⟩ (.string (wordB num))).drew B e 1 h'.v h'.n xs ∧ (j < i → xs = markT h') ∧ (j = i → ∀ q, q < k + 1 → xs[q]? = some (.string (wordB num))) := by
  obtain ⟨xs, hx, hxl, hxq⟩ := hX2 i _ Hh
  dsimp only [Hold.v] at hx
  have hin : heldIn hs g := ⟨_, List.mem_of_getElem? Hh, rfl⟩
  have hgb : hb1 ≠ g := fun e => hx.ne_blk hB2 hne (by rw [e]; rfl)
  refine ⟨hc2.trans ((Chg.setCell (S := heldIn hs) (p := ⟨g, k, none⟩) hin wr _).trans (Chg.drew _ _)), (hB2.far (p := ⟨g, k, none⟩) hgb _).drew, ?_⟩
  intro j h' hj
  by_cases hji : j = i
  · subst hji
    rw [Hh] at hj
    cases hj
    have hxn := hx.1
    refine ⟨xs.set k (.string (wordB num)), (hx.set_ (by omega) _).chg (S := fun _ => False) (Chg.drew _ _) (fun _ _ h => h), fun h => absurd h (Nat.lt_irrefl _), fun _ q hq => ?_⟩
    by_cases hqk : q = k
    · subst hqk
      rw [List.getElem?_set_self (by omega)]
    · rw [List.getElem?_set_ne (by omega)]
      exact hxq rfl q (by omega)
  · obtain ⟨xs', hx', hxl', _⟩ := hX2 j h' hj
    refine ⟨xs', hx'.chg (S := fun x => x = g) ((Chg.setCell (S := fun x => x = g) (p := ⟨g, k, none⟩) rfl wr _).trans (Chg.drew _ _)) (fun g' hg' e => ?_), hxl', fun h => absurd h hji⟩
    subst e
    exact hA i j _ _ Hh hj (fun e => hji e.symm) g' rfl hg'

set_option maxRecDepth 100000 in
set_option maxHeartbeats 1000000 in
theorem fillText_any (b : Nat) (H : Value) (hs : List Hold) (B : Nat) (w : World) (h3 : w.cell? ⟨b, 3, none⟩ = some H) (hbT : ∀ g t cs, Blk w g t cs → g = b → t = 46) (hb : b < w.heap.size)
    (hH : Row w B 61 3 H hs.length (heldL hs)) (hBs : B ≤ w.heap.size) (hR : Rows_ w B 9 1 hs) (hA : Apart hs) (hm : hs.length < 1000000) :
    Calls Tryz.prog 29 #[.pointer (some ⟨b, 0, none⟩)] w fun e w' => (∃ u, e = .returned u) ∧ (∀ (j : Nat) (h : Hold), hs[j]? = some h → Row w' B 9 1 h.v h.n (markT h)) ∧ Chg (heldIn hs) w w' := by
  obtain ⟨AH, cH, rfl, hmc, hcm, hrd⟩ := hH.reads
  go_enter Tryz.func29, Tryz.ntmps29
  go_wp2
  go_loopw [2] (fun v w' => ∃ i : Nat, v = .int .i64 i ∧ i ≤ hs.length ∧ Chg (heldIn hs) w w' ∧ ∀ (j : Nat) (h : Hold), hs[j]? = some h → ∃ xs, Row w' B 9 1 h.v h.n xs ∧ (j < i → xs = markT h)) (fun v _ => hs.length - (intOf v).toNat)
  case atStart => exact ⟨0, rfl, by omega, Chg.refl _ _, fun j h hj => by obtain ⟨_, xs, hx⟩ := hR j h hj; exact ⟨xs, hx, fun h => by omega⟩⟩
  case round =>
    obtain ⟨i, rfl, hi, hc, hX⟩ := hrel
    have hbn : ¬ heldIn hs b := by
      rintro ⟨h, hh, he⟩
      obtain ⟨j, hj, e⟩ := List.getElem_of_mem hh
      obtain ⟨_, xs, hx⟩ := hR j h (by rw [List.getElem?_eq_getElem hj, e])
      rcases hx.2 with ⟨e0, _⟩ | ⟨g, cap, cur, e0, _, hg, _⟩
      · rw [e0] at he; simp [Value.ownBlock] at he
      · rw [e0] at he
        have := hbT g _ _ hg (by simpa [Value.ownBlock] using he)
        revert this; decide
    have h3' : wr.cell? ⟨b, 3, none⟩ = some (.slice AH hs.length cH) := (hc.cell hb hbn).trans h3
    have hHn : ∀ g, (Value.slice AH hs.length cH).ownBlock = some g → ¬ heldIn hs g := by
      rintro g hg ⟨h, hh, he⟩
      obtain ⟨j, hj, e⟩ := List.getElem_of_mem hh
      obtain ⟨_, xs, hx⟩ := hR j h (by rw [List.getElem?_eq_getElem hj, e])
      rcases hx.2 with ⟨e0, _⟩ | ⟨g', cap, cur, e0, _, hg', _⟩
      · rw [e0] at he; simp [Value.ownBlock] at he
      · rw [e0] at he
        have : g' = g := by simpa [Value.ownBlock] using he
        subst this
        exact hH.ne_blk hg' (by decide) hg
    have hH' := hH.chg hc hHn
    by_cases hlt : i < hs.length
    · obtain ⟨⟨A, n, c, num, lA, ln, lc⟩, hh⟩ : ∃ h, hs[i]? = some h := ⟨_, List.getElem?_eq_getElem hlt⟩
      obtain ⟨q0, q1, q2⟩ := heldL_at hs i _ hh
      dsimp only at q0 q1 q2
      obtain ⟨gH, capH, eH, _, k0, _⟩ := hH'.cellAt q0
      obtain ⟨gH', capH', eH', _, k1, _⟩ := hH'.cellAt q1
      obtain ⟨gH'', capH'', eH'', _, k2, _⟩ := hH'.cellAt q2
      have i2 : (i : Int) < (hs.length : Int) := by omega
      cases eH
      cases eH'
      cases eH''
      go_wp2_with fail
      obtain ⟨hb1, hhb⟩ : ∃ x, wr.heap.size = x := ⟨_, rfl⟩
      obtain ⟨w1, hw1⟩ : ∃ w1, wr.alloc (.cells #[.slice A n c, .slice lA ln lc, .int .i64 num] 61) = w1 := ⟨_, rfl⟩
      have hB1 : Blk w1 hb1 61 #[.slice A n c, .slice lA ln lc, .int .i64 num] := by
        rw [← hw1, ← hhb]; exact Blk.new _ _ _
      have hc1 : Chg (heldIn hs) w w1 := by rw [← hw1]; exact hc.trans (Chg.alloc _ _ _)
      have hX1 : ∀ (j : Nat) (h : Hold), hs[j]? = some h → ∃ xs, Row w1 B 9 1 h.v h.n xs ∧ (j < i → xs = markT h) := by
        intro j h' hj
        obtain ⟨xs, hx, hxe⟩ := hX j h' hj
        exact ⟨xs, by rw [← hw1]; exact hx.chg (S := fun _ => False) (Chg.alloc _ _ _) (fun _ _ h => h), hxe⟩
      have hsz : w.heap.size ≤ hb1 := by rw [← hhb]; exact hc.size
      rw [hw1, hhb]
      have HX := Lib.hid hX1
      have hnum := (hR i _ hh).1
      dsimp only at hnum
      have Hh := Lib.hid hh
      clear hw1 hhb hX hX1 hc k0 k1 k2 q0 q1 q2 h3' hH' hh hHn hrd
      go_loopw [4] (fun v w' => ∃ k : Nat, v = .int .i64 k ∧ k ≤ n ∧ Chg (heldIn hs) w w' ∧ Blk w' hb1 61 #[.slice A n c, .slice lA ln lc, .int .i64 num] ∧
        ∀ (j : Nat) (h' : Hold), hs[j]? = some h' → ∃ xs, Row w' B 9 1 h'.v h'.n xs ∧ (j < i → xs = markT h') ∧ (j = i → ∀ q, q < k → xs[q]? = some (.string (wordB num)))) (fun v _ => n - (intOf v).toNat)
      case atStart =>
        exact ⟨0, rfl, by omega, hc1, hB1, fun j h' hj => by obtain ⟨xs, hx, hxe⟩ := HX.out j h' hj; exact ⟨xs, hx, hxe, fun _ q hq => by omega⟩⟩
      case round =>
        obtain ⟨k, rfl, hk, hc2, hB2, hX2⟩ := hrel
        have d0 := hB2.cell 0
        have d2 := hB2.cell 2
        by_cases hkl : k < n
        · have i3 : (k : Int) < (n : Int) := by omega
          obtain ⟨xs, hx, hxl, hxq⟩ := hX2 i _ Hh.out
          dsimp only [Hold.v] at hx
          have hxn := hx.1
          obtain ⟨u, hu⟩ : ∃ u, xs[k]? = some u := ⟨_, List.getElem?_eq_getElem (by omega)⟩
          obtain ⟨g, cap, hv, hnc, hcell, hfro⟩ := hx.cellAt hu
          cases hv
          go_wp2_with fail
          have Hu := Lib.hid hu
          have Hxn := Lib.hid hxn
          clear hu hxn
          have hn63 : n ≤ 9223372036854775807 := by obtain ⟨_, _, e, h1, h2, _⟩ := hx.reads; simp only [maxLen] at h2; cases e; omega
          clear HX hc1 hB1 hxq hxl
          go_region_with (go_at_call 78; refine (markText_any num hnum _).mono ?_; rintro e w3 ⟨rfl, e3⟩; obtain rfl := e3.symm)
          all_goals
            go_wp2
            exact ⟨⟨k + 1, by go_num, by omega, fill_step hs B i k hb1 g n c num lA ln lc w wr hc2 hB2 hX2 hA Hh.out hkl (by decide)⟩, by simp [intOf]; omega⟩
        · have i3 : (n : Int) ≤ (k : Int) := by omega
          go_wp2_with fail
          refine ⟨⟨i + 1, by go_num, by omega, hc2, ?_⟩, by simp [intOf]; omega⟩
          intro j h' hj
          obtain ⟨xs, hx, hxl, hxq⟩ := hX2 j h' hj
          refine ⟨xs, hx, fun hji => ?_⟩
          by_cases hji' : j < i
          · exact hxl hji'
          · obtain rfl : j = i := by omega
            rw [Hh.out] at hj
            cases hj
            apply List.ext_getElem?
            intro q
            have hxn := hx.1
            dsimp only at hxn
            simp only [markT, List.getElem?_replicate]
            split
            · exact hxq rfl q (by omega)
            · exact List.getElem?_eq_none (by omega)
    · have i2 : (hs.length : Int) ≤ (i : Int) := by omega
      go_wp2
      go_end0
      refine ⟨⟨_, rfl⟩, fun j h hj => ?_, hc⟩
      obtain ⟨xs, hx, hxe⟩ := hX j h hj
      rw [← hxe (by have := (List.getElem?_eq_some_iff.1 hj).1; omega)]
      exact hx
end Go.Proofs.YtjinhkdncenhdaaGreatDoor
