/- The book of lists: growText. -/
import Derived.Test.YtjinhkdncenhdaaGreatDoorBookF
set_option linter.unusedVariables false
set_option linter.unusedSimpArgs false
namespace Go.Proofs.YtjinhkdncenhdaaGreatDoor
open Go.RowKit

theorem heldL_set : ∀ (hs : List Hold) (i : Nat) (h : Hold) (lA : Option Addr) (ln lc : Nat), hs[i]? = some h → heldL (hs.set i { h with lA := lA, ln := ln, lc := lc }) = (heldL hs).set (i * 3 + 1) (.slice lA ln lc)
  | [], i, h, _, _, _, e => by simp at e
  | x :: r, 0, h, _, _, _, e => by
    simp at e
    subst e
    simp [heldL, Hold.cells]
  | x :: r, i + 1, h, lA, ln, lc, e => by
    have ih := heldL_set r i h lA ln lc (by simpa using e)
    have e1 : ∀ r, heldL (x :: r) = x.cells ++ heldL r := fun r => by simp [heldL]
    rw [List.set_cons_succ, e1, e1, ih, List.set_append_right _ _ (by simp [Hold.cells]; omega)]
    congr 2
    simp [Hold.cells]; omega

/-- the marks that a grown list has -/
def markG (h : Hold) : List Value := List.replicate (h.n + 40) (.string (wordB h.num))

/-- a list that has been grown: what it was reads as its marks, what it is now likewise; all lies below bound, and what it is now where it was or from W0 on -/
def Grown_ (w : World) (W0 bound : Nat) (h h' : Hold) : Prop :=
  h'.A = h.A ∧ h'.n = h.n ∧ h'.c = h.c ∧ h'.num = h.num ∧ h'.ln = h.n + 40 ∧ Reads w bound 1 h.A h.n (markT h) ∧ Reads w bound 1 h'.lA h'.ln (markG h) ∧
    ((Value.slice h'.lA h'.ln h'.lc).ownBlock = h.v.ownBlock ∨ ∀ g, (Value.slice h'.lA h'.ln h'.lc).ownBlock = some g → W0 ≤ g)

theorem Reads.chg {S : Nat → Prop} {w w' : World} {B size n : Nat} {A : Option Addr} {xs : List Value} (h : Reads w B size A n xs) (hc : Chg S w w') (hB : B ≤ w.heap.size) (hn : ∀ ad, A = some ad → ¬ S ad.block) : Reads w' B size A n xs :=
  ⟨h.1, fun hp => by
    obtain ⟨ad, e, hb, hcl⟩ := h.2 hp
    exact ⟨ad, e, hb, fun j u hu => (hc.cell (p := ad.add j) (by rw [block_of_add]; omega) (by rw [block_of_add]; exact hn ad e)).trans (hcl j u hu)⟩⟩
theorem Row.blk {w : World} {B : Nat} {e : TypeId} {size n g : Nat} {v : Value} {xs : List Value} (h : Row w B e size v n xs) (hg : v.ownBlock = some g) : ∃ cur, Blk w g e cur := by
  rcases h.2 with ⟨rfl, _⟩ | ⟨g', cap, cur, rfl, _, hb, _⟩
  · simp [Value.ownBlock] at hg
  · have : g' = g := by simpa [Value.ownBlock] using hg
    subst this
    exact ⟨cur, hb⟩

structure GInv (hs hs' : List Hold) (B i hb1 k : Nat) (e E : TypeId) (cs : Array Value) (H : Value) (A : Option Addr) (n c num : Nat) (w w' : World) (L : Value) : Prop where
  chg : Chg (fun x => heldIn hs x ∨ H.ownBlock = some x) w w'
  blk : Blk w' hb1 E cs
  row : Row w' B E 3 H hs.length (heldL hs')
  later : ∀ (j : Nat) (h : Hold), hs[j]? = some h → i < j → hs'[j]? = some h ∧ Row w' B e 1 h.v h.n (markT h)
  done : ∀ (j : Nat) (h : Hold), hs[j]? = some h → j < i → ∃ h', hs'[j]? = some h' ∧ Grown_ w' w.heap.size hb1 h h'
  long : Row w' B e 1 L (n + k) (List.replicate (n + k) (.string (wordB num)))
  own : L.ownBlock = (Value.slice A n c).ownBlock ∨ ∀ g, L.ownBlock = some g → hb1 < g
  reads : Reads w' hb1 1 A n (List.replicate n (.string (wordB num)))
  base : w.heap.size ≤ hb1

theorem own_of_A {A : Option Addr} {n c g : Nat} : (Value.slice A n c).ownBlock = some g ↔ ∃ ad, A = some ad ∧ ad.block = g := by
  cases A with
  | none => simp [Value.ownBlock]
  | some ad => simp [Value.ownBlock]

theorem grow_step {hs hs' : List Hold} {B i hb1 k : Nat} {e E : TypeId} {cs : Array Value} {H : Value} {A : Option Addr} {n c num : Nat} {lA : Option Addr} {ln lc : Nat} {w w' w'' : World} {L L' : Value} {o : Obj}
    (I : GInv hs hs' B i hb1 k e E cs H A n c num w w' L) (hne : e ≠ E) (hA : Apart hs) (hR : ∀ (j : Nat) (h : Hold), hs[j]? = some h → ∃ xs, Row w B e 1 h.v h.n xs) (hh : hs[i]? = some ⟨A, n, c, num, lA, ln, lc⟩)
    (hL : Row w'' B e 1 L' (n + k + 1) (List.replicate (n + k) (.string (wordB num)) ++ [.string (wordB num)])) (hg : (w'.alloc o).grownBy w'' L.ownBlock)
    (hd : L'.ownBlock = L.ownBlock ∨ (∀ g, L'.ownBlock = some g → (w'.alloc o).heap.size ≤ g) ∧ (w'.alloc o).grownBy w'' none) :
    GInv hs hs' B i hb1 (k + 1) e E cs H A n c num w w'' L' := by
  have hC : Chg (fun x => L.ownBlock = some x) w' w'' := (Chg.alloc _ _ _).trans (Chg.of_grown hg (fun _ h => h))
  have hlt := I.blk.lt
  have hbase := I.base
  have hvlt : ∀ g, (Value.slice A n c).ownBlock = some g → g < w.heap.size := fun g hg => by
    obtain ⟨xs, hx⟩ := hR i _ hh
    exact (hx.lt hg).2
  -- where L lies
  have hLx : ∀ x, L.ownBlock = some x → (Value.slice A n c).ownBlock = some x ∨ hb1 < x := fun x hx => by
    rcases I.own with h | h
    · exact .inl (h ▸ hx)
    · exact .inr (h x hx)
  have hother : ∀ (j : Nat) (h : Hold), hs[j]? = some h → j ≠ i → ∀ g, h.v.ownBlock = some g → L.ownBlock ≠ some g := fun j h hj hji g hg hx => by
    rcases hLx g hx with h1 | h1
    · exact hA i j _ _ hh hj (fun e => hji e.symm) g h1 hg
    · obtain ⟨xs, hr⟩ := hR j h hj
      have := (hr.lt hg).2
      omega
  refine ⟨⟨hC.os.trans I.chg.os, hC.tape.trans I.chg.tape, hC.output.trans I.chg.output, Nat.le_trans I.chg.size hC.size, fun x hx hn => (hC.block x (Nat.lt_of_lt_of_le hx I.chg.size) (fun hl => ?_)).trans (I.chg.block x hx hn)⟩, hC.blk I.blk (fun h => I.long.ne_blk I.blk hne h), I.row.chg hC (fun g hg h => ?_), fun j h hj hij => ⟨(I.later j h hj hij).1, (I.later j h hj hij).2.chg hC (fun g hg => hother j h hj (by omega) g hg)⟩, fun j h hj hji => ?_, ?_, ?_, ?_, hbase⟩
  · rcases hLx x hl with h1 | h1
    · exact hn (.inl ⟨_, List.mem_of_getElem? hh, h1⟩)
    · omega
  · obtain ⟨cur, hb⟩ := I.long.blk h
    exact I.row.ne_blk hb (fun e => hne e.symm) hg
  · obtain ⟨h', hj', g1, g2, g3, g4, g5, g6, g7, g8⟩ := I.done j h hj hji
    have hA' : ∀ ad, h.A = some ad → ¬ L.ownBlock = some ad.block := fun ad ha => hother j h hj (by omega) _ (own_of_A.2 ⟨ad, ha, rfl⟩)
    refine ⟨h', hj', g1, g2, g3, g4, g5, g6.chg hC (by omega) hA', g7.chg hC (by omega) (fun ad ha hx => ?_), g8⟩
    have hown : (Value.slice h'.lA h'.ln h'.lc).ownBlock = some ad.block := own_of_A.2 ⟨ad, ha, rfl⟩
    have hadlt : ad.block < hb1 := by
      obtain ⟨ad', ea, hb', _⟩ := g7.2 (by omega)
      rw [ha] at ea
      cases ea
      exact hb'
    rcases g8 with h8 | h8
    · exact hother j h hj (by omega) _ (h8 ▸ hown) hx
    · have := h8 _ hown
      rcases hLx _ hx with h1 | h1
      · have := hvlt _ h1; omega
      · omega
  · rw [show n + (k + 1) = n + k + 1 by omega, List.replicate_succ']
    exact hL
  · rcases hd with h | ⟨h, _⟩
    · rw [h]; exact I.own
    · exact .inr fun g hg => by have := h g hg; simp at this; omega
  · have keep : (∀ ad, A = some ad → ¬ L.ownBlock = some ad.block) → Reads w'' hb1 1 A n (List.replicate n (.string (wordB num))) := fun h => I.reads.chg hC (by omega) h
    rcases hd with h | ⟨h, hnone⟩
    · rcases I.own with h1 | h1
      · refine ⟨by simp, fun hn => ?_⟩
        obtain ⟨ad, ea, hb, hcl⟩ := I.reads.2 hn
        refine ⟨ad, ea, hb, fun j u hu => ?_⟩
        have hj : j < n := by simpa using (List.getElem?_eq_some_iff.1 hu).1
        have hu2 : (List.replicate (n + k) (Value.string (wordB num)) ++ [Value.string (wordB num)])[j]? = some u := by
          rw [List.getElem?_append_left (by simp; omega)]
          rw [List.getElem?_replicate] at hu ⊢
          rw [if_pos (by omega)]
          rw [if_pos hj] at hu
          exact hu
        obtain ⟨g, cap, hv, _, hc, _⟩ := hL.cellAt hu2
        have hob : L'.ownBlock = some ad.block := by rw [h, h1]; exact own_of_A.2 ⟨ad, ea, rfl⟩
        rw [hv] at hob
        have hgb : g = ad.block := by simpa [Value.ownBlock] using hob
        subst hgb
        have had : ad = ⟨ad.block, 0, none⟩ := by
          obtain ⟨xs, hx⟩ := hR i _ hh
          rcases hx.2 with ⟨e0, _⟩ | ⟨g', cap', cur', e0, _⟩
          · simp only [Hold.v] at e0
            rw [ea] at e0
            cases e0
          · simp only [Hold.v] at e0
            rw [ea] at e0
            injection e0 with e0
            injection e0 with e0
            rw [e0]
        rw [had, add_lit, Nat.zero_add]
        exact hc
      · refine keep fun ad ea hx => ?_
        have h2 := hvlt ad.block (own_of_A.2 ⟨ad, ea, rfl⟩)
        have := h1 _ hx
        omega
    · exact I.reads.chg (S := fun _ => False) ((Chg.alloc _ _ _).trans (Chg.of_grown hnone (fun _ h => by cases h))) (by omega) (fun _ _ h => h)

/-- the grown list is put where it is held -/
theorem grow_end {hs hs' : List Hold} {B i hb1 gH cH : Nat} {e E : TypeId} {cs : Array Value} {A : Option Addr} {n c num : Nat} {lA lA' : Option Addr} {ln lc ln' lc' : Nat} {w w' : World}
    (I : GInv hs hs' B i hb1 40 e E cs (.slice (some ⟨gH, 0, none⟩) hs.length cH) A n c num w w' (.slice lA' ln' lc')) (hne : e ≠ E) (hA : Apart hs) (hR : ∀ (j : Nat) (h : Hold), hs[j]? = some h → ∃ xs, Row w B e 1 h.v h.n xs)
    (hH : ∃ xs, Row w B E 3 (.slice (some ⟨gH, 0, none⟩) hs.length cH) hs.length xs) (hh : hs[i]? = some ⟨A, n, c, num, lA, ln, lc⟩) (hhi : hs'[i]? = some ⟨A, n, c, num, lA, ln, lc⟩) (hl : ln' = n + 40) :
    ∃ hs'', hs''.length = hs'.length ∧ Row (w'.setCell ⟨gH, i * 3 + 1, none⟩ (.slice lA' ln' lc')) B E 3 (.slice (some ⟨gH, 0, none⟩) hs.length cH) hs.length (heldL hs'') ∧
      Chg (fun x => heldIn hs x ∨ (Value.slice (some ⟨gH, 0, none⟩) hs.length cH).ownBlock = some x) w (w'.setCell ⟨gH, i * 3 + 1, none⟩ (.slice lA' ln' lc')) ∧
      (∀ (j : Nat) (h : Hold), hs[j]? = some h → i + 1 ≤ j → hs''[j]? = some h ∧ Row (w'.setCell ⟨gH, i * 3 + 1, none⟩ (.slice lA' ln' lc')) B e 1 h.v h.n (markT h)) ∧
      ∀ (j : Nat) (h : Hold), hs[j]? = some h → j < i + 1 → ∃ h', hs''[j]? = some h' ∧ Grown_ (w'.setCell ⟨gH, i * 3 + 1, none⟩ (.slice lA' ln' lc')) w.heap.size (w'.setCell ⟨gH, i * 3 + 1, none⟩ (.slice lA' ln' lc')).heap.size h h' := by
  have hil := (List.getElem?_eq_some_iff.1 hh).1
  have hil' := (List.getElem?_eq_some_iff.1 hhi).1
  have hC : Chg (fun x => x = gH) w' (w'.setCell ⟨gH, i * 3 + 1, none⟩ (.slice lA' ln' lc')) := Chg.setCell (S := fun x => x = gH) (p := ⟨gH, i * 3 + 1, none⟩) rfl _ _
  obtain ⟨xsH, hH0⟩ := hH
  have hgH : gH < w.heap.size := (hH0.lt (g := gH) rfl).2
  have hbase := I.base
  have hlt := I.blk.lt
  have hneH : ∀ (j : Nat) (h : Hold), hs[j]? = some h → h.v.ownBlock ≠ some gH := fun j h hj hx => by
    obtain ⟨xs, hr⟩ := hR j h hj
    obtain ⟨cur, hb⟩ := hr.blk hx
    exact hH0.ne_blk hb (fun e => hne e.symm) rfl
  have hsz : (w'.setCell ⟨gH, i * 3 + 1, none⟩ (.slice lA' ln' lc')).heap.size = w'.heap.size := by simp
  have hLne : (Value.slice lA' ln' lc').ownBlock ≠ some gH := fun hx => by
    obtain ⟨cur, hb⟩ := I.long.blk hx
    exact I.row.ne_blk hb (fun e => hne e.symm) rfl
  refine ⟨hs'.set i ⟨A, n, c, num, lA', ln', lc'⟩, by simp, ?_, ?_, ?_, ?_⟩
  · have := heldL_set hs' i _ lA' ln' lc' hhi
    dsimp only at this
    rw [this]
    exact I.row.set_ (by omega) _
  · exact I.chg.trans (hC.mono fun k hk => .inr (by rw [hk]; rfl))
  · intro j h hj hij
    rw [List.getElem?_set_ne (by omega)]
    refine ⟨(I.later j h hj (by omega)).1, (I.later j h hj (by omega)).2.chg hC (fun g hg e => hneH j h hj (by rw [hg, e]))⟩
  · intro j h hj hji
    by_cases hji' : j < i
    · rw [List.getElem?_set_ne (by omega)]
      obtain ⟨h', hj', g1, g2, g3, g4, g5, g6, g7, g8⟩ := I.done j h hj hji'
      refine ⟨h', hj', g1, g2, g3, g4, g5, (g6.chg hC (by omega) (fun ad ha e => hneH j h hj (by rw [← e]; exact own_of_A.2 ⟨ad, ha, rfl⟩))).more (by omega), (g7.chg hC (by omega) (fun ad ha e => ?_)).more (by omega), g8⟩
      have hown : (Value.slice h'.lA h'.ln h'.lc).ownBlock = some gH := own_of_A.2 ⟨ad, ha, e⟩
      rcases g8 with h8 | h8
      · exact hneH j h hj (h8 ▸ hown)
      · have := h8 _ hown; omega
    · obtain rfl : j = i := by omega
      rw [hh] at hj
      cases hj
      rw [List.getElem?_set_self (by omega)]
      refine ⟨_, rfl, rfl, rfl, rfl, rfl, hl, (I.reads.chg hC (by omega) (fun ad ha e => hneH j _ hh (by rw [← e]; exact own_of_A.2 ⟨ad, ha, rfl⟩))).more (by omega), ?_, ?_⟩
      · obtain ⟨A3, c3, e3, _, _, hr⟩ := (I.long.chg hC (fun g hg e => hLne (by rw [hg, e]))).reads
        injection e3 with e4 e5 e6
        subst e4; subst e5; subst e6
        exact hr
      · rcases I.own with h | h
        · exact .inl h
        · exact .inr fun g hg => by have := h g hg; omega

set_option maxRecDepth 100000 in
set_option maxHeartbeats 1000000 in
theorem growText_any (b : Nat) (H : Value) (hs : List Hold) (B : Nat) (w : World) (h3 : w.cell? ⟨b, 3, none⟩ = some H) (hbT : ∀ g t cs, Blk w g t cs → g = b → t = 46) (hb : b < w.heap.size)
    (hH : Row w B 61 3 H hs.length (heldL hs)) (hBs : B ≤ w.heap.size) (hR : ∀ (j : Nat) (h : Hold), hs[j]? = some h → h.num < 100 ∧ h.n ≤ 1000000 ∧ Row w B 9 1 h.v h.n (markT h)) (hA : Apart hs) (hm : hs.length < 1000000) :
    Calls Tryz.prog 44 #[.pointer (some ⟨b, 0, none⟩)] w fun e w' => (∃ u, e = .returned u) ∧ ∃ hs', hs'.length = hs.length ∧ Row w' B 61 3 H hs.length (heldL hs') ∧
      (∀ (j : Nat) (h : Hold), hs[j]? = some h → ∃ h', hs'[j]? = some h' ∧ Grown_ w' w.heap.size w'.heap.size h h') ∧ Chg (fun k => heldIn hs k ∨ H.ownBlock = some k) w w' := by
  obtain ⟨AH, cH, rfl, hmc, hcm, hrd⟩ := hH.reads
  go_enter Tryz.func44, Tryz.ntmps44
  go_wp2
  go_loopw [2] (fun v w' => ∃ (i : Nat) (hs' : List Hold), v = .int .i64 i ∧ i ≤ hs.length ∧ hs'.length = hs.length ∧ Row w' B 61 3 (.slice AH hs.length cH) hs.length (heldL hs') ∧
      Chg (fun k => heldIn hs k ∨ (Value.slice AH hs.length cH).ownBlock = some k) w w' ∧ (∀ (j : Nat) (h : Hold), hs[j]? = some h → i ≤ j → hs'[j]? = some h ∧ Row w' B 9 1 h.v h.n (markT h)) ∧
      ∀ (j : Nat) (h : Hold), hs[j]? = some h → j < i → ∃ h', hs'[j]? = some h' ∧ Grown_ w' w.heap.size w'.heap.size h h') (fun v _ => hs.length - (intOf v).toNat)
  case atStart => exact ⟨0, hs, rfl, by omega, rfl, hH, Chg.refl _ _, fun j h hj _ => ⟨hj, (hR j h hj).2.2⟩, fun _ _ _ h => by omega⟩
  case round =>
    obtain ⟨i, hs', rfl, hi, hl', hH', hc, hX, hG⟩ := hrel
    have hbn : ¬ (heldIn hs b ∨ (Value.slice AH hs.length cH).ownBlock = some b) := by
      rintro (⟨h, hh, he⟩ | he)
      · obtain ⟨j, hj, e⟩ := List.getElem_of_mem hh
        have hx := (hR j h (by rw [List.getElem?_eq_getElem hj, e])).2.2
        rcases hx.2 with ⟨e0, _⟩ | ⟨g, cap, cur, e0, _, hg, _⟩
        · rw [e0] at he; simp [Value.ownBlock] at he
        · rw [e0] at he
          have := hbT g _ _ hg (by simpa [Value.ownBlock] using he)
          revert this; decide
      · rcases hH.2 with ⟨e0, _⟩ | ⟨g, cap, cur, e0, _, hg, _⟩
        · rw [e0] at he; simp [Value.ownBlock] at he
        · rw [e0] at he
          have := hbT g _ _ hg (by simpa [Value.ownBlock] using he)
          revert this; decide
    have h3' : wr.cell? ⟨b, 3, none⟩ = some (.slice AH hs.length cH) := (hc.cell hb hbn).trans h3
    by_cases hlt : i < hs.length
    · obtain ⟨⟨A, n, c, num, lA, ln, lc⟩, hh⟩ : ∃ h, hs[i]? = some h := ⟨_, List.getElem?_eq_getElem hlt⟩
      have hhi := (hX i _ hh (Nat.le_refl _)).1
      obtain ⟨q0, q1, q2⟩ := heldL_at hs' i _ hhi
      dsimp only at q0 q1 q2
      obtain ⟨gH, capH, eH, _, k0, _⟩ := hH'.cellAt q0
      obtain ⟨gH', capH', eH', _, k1, _⟩ := hH'.cellAt q1
      obtain ⟨gH'', capH'', eH'', _, k2, _⟩ := hH'.cellAt q2
      have i2 : (i : Int) < (hs.length : Int) := by omega
      cases eH
      cases eH'
      cases eH''
      go_wp2_with fail
      obtain ⟨i0, hi0, hz0, hz1, hz2⟩ := info_parts str_info
      have Hz0 := Lib.hid hz0
      have Hz1 := Lib.hid hz1
      have Hz2 := Lib.hid hz2
      have Hi0 := Lib.hid hi0
      clear hz0 hz1 hz2 hi0
      obtain ⟨hb1, hhb⟩ : ∃ x, wr.heap.size = x := ⟨_, rfl⟩
      obtain ⟨w1, hw1⟩ : ∃ w1, wr.alloc (.cells #[.slice A n c, .slice lA ln lc, .int .i64 num] 61) = w1 := ⟨_, rfl⟩
      have hX' := hX i _ hh (Nat.le_refl _)
      have hRe := hX'.2.reads
      have hnumn := hR i _ hh
      dsimp only at hnumn
      have hnum := hnumn.1
      have hn6 := hnumn.2.1
      have hI : GInv hs hs' B i hb1 0 9 61 #[.slice A n c, .slice lA ln lc, .int .i64 num] (.slice (some ⟨gH, 0, none⟩) hs.length cH) A n c num w w1 (.slice A n c) := by
        have hC : Chg (fun _ => False) wr w1 := by rw [← hw1]; exact Chg.alloc _ _ _
        refine ⟨hc.trans (hC.mono fun _ h => h.elim), ?_, hH'.chg hC (fun _ _ h => h), fun j h hj hij => ⟨(hX j h hj (by omega)).1, (hX j h hj (by omega)).2.chg hC (fun _ _ h => h)⟩, fun j h hj hji => ?_, hX'.2.chg hC (fun _ _ h => h), .inl rfl, ?_, by rw [← hhb]; exact hc.size⟩
        · rw [← hw1, ← hhb]; exact Blk.new _ _ _
        · obtain ⟨h', hj', g1, g2, g3, g4, g5, g6, g7, g8⟩ := hG j h hj hji
          rw [hhb] at g6 g7
          exact ⟨h', hj', g1, g2, g3, g4, g5, g6.chg hC (by omega) (fun _ _ h => h), g7.chg hC (by omega) (fun _ _ h => h), g8⟩
        · obtain ⟨A3, c3, e3, _, _, hr⟩ := hRe
          simp only [Hold.v] at e3
          injection e3 with e4 e5 e6
          subst e4
          rw [hhb] at hr
          exact hr.chg hC (by omega) (fun _ _ h => h)
      rw [hw1, hhb]
      have HI := Lib.hid hI
      have Hh := Lib.hid hh
      have Hhi := Lib.hid hhi
      have HR := Lib.hid hR
      have hBb : B ≤ hb1 := by rw [← hhb]; exact Nat.le_trans hBs hc.size
      clear hw1 hhb hX hX' hRe hc hI k0 k1 k2 q0 q1 q2 hH' hh hhi hrd hG hnumn hR
      go_loopw [4, 5] (fun L v w' => ∃ k : Nat, v = .int .i64 k ∧ k ≤ 40 ∧ GInv hs hs' B i hb1 k 9 61 #[.slice A n c, .slice lA ln lc, .int .i64 num] (.slice (some ⟨gH, 0, none⟩) hs.length cH) A n c num w w' L) (fun _ v _ => 40 - (intOf v).toNat)
      case atStart => exact ⟨0, rfl, by omega, HI.out⟩
      case round =>
        obtain ⟨k, rfl, hk, I⟩ := hrel
        have d2 := I.blk.cell 2
        have hbl := I.blk.lt
        by_cases hkl : k < 40
        · have i3 : (k : Int) < 40 := by omega
          go_wp2_with fail
          refine (markText_any num hnum _).mono ?_
          rintro e w3 ⟨rfl, e3⟩
          obtain rfl := e3.symm
          go_wp2_with (
            refine wpList_append_row _ rfl (.tmp 28) (.tmp 32) 22 rfl B 9 i0 (.string ⟨#[]⟩) 1 16 Tryz.underlying22 Hi0.out Hz0.out Hz1.out Hz2.out rfl (by omega) u4 (n + k) (List.replicate (n + k) (.string (wordB num))) ?_ (I.long.chg (S := fun _ => False) (Chg.alloc _ _ _) (fun _ _ h => h)) ⟨wr.heap.size, 0, none⟩ 1 1 [.string (wordB num)] ?_ rfl (cells_new wr #[.string (wordB num)] _) ?_ ?_ ?_ ?_ ?_
            · simp [Act.eval, Act.put]
            · simp [Act.eval, Act.put]
            · simp [Value.oneCell']
            · simp only [maxLen]; omega
            · omega
            · simp; omega
            intro v2 w2 hL2 hg2 hat2)
          refine ⟨⟨k + 1, by go_num, by omega, grow_step I (by decide) hA (fun j h hj => ⟨_, (HR.out j h hj).2.2⟩) Hh.out hL2 hg2 hat2⟩, by simp [intOf]; omega⟩
        · obtain rfl : k = 40 := by omega
          obtain ⟨lA', lc', rfl, _, _, _⟩ := I.long.reads
          have h3'' : wr.cell? ⟨b, 3, none⟩ = some (.slice (some ⟨gH, 0, none⟩) hs.length cH) := (I.chg.cell hb hbn).trans h3
          obtain ⟨_, q1, _⟩ := heldL_at hs' i _ Hhi.out
          obtain ⟨g1, cap1, e1, _, kc, kf⟩ := I.row.cellAt q1
          cases e1
          clear q1
          go_wp2_with fail
          obtain ⟨hs'', e1, e2, e3, e4, e5⟩ := grow_end I (by decide) hA (fun j h hj => ⟨_, (HR.out j h hj).2.2⟩) ⟨_, hH⟩ Hh.out Hhi.out rfl
          exact ⟨⟨i + 1, hs'', by go_num, by omega, by omega, e2, e3, e4, e5⟩, by simp [intOf]; omega⟩
    · have i2 : (hs.length : Int) ≤ (i : Int) := by omega
      go_wp2
      go_end0
      exact ⟨⟨_, rfl⟩, hs', hl', hH', fun j h hj => hG j h hj (by have := (List.getElem?_eq_some_iff.1 hj).1; omega), hc⟩
end Go.Proofs.YtjinhkdncenhdaaGreatDoor
