/- The book of lists: Apart, where it holds texts alone. Printed by wip/tools/bookapart.py. -/
import Derived.Test.YtjinhkdncenhdaaGreatDoorBookL
set_option linter.unusedVariables false
set_option linter.unusedSimpArgs false
namespace Go.Proofs.YtjinhkdncenhdaaGreatDoor
open Go.RowKit

set_option maxRecDepth 100000 in
set_option maxHeartbeats 2000000 in
theorem apart_texts (b : Nat) (cs : Array Value) (H : Value) (hs : List Hold) (B : Nat) (w : World) (hB : Blk w b 46 cs) (hnil : ∀ j, 1 ≤ j → j ≤ 15 → j ≠ 3 → cs[j]? = some (.slice none 0 0)) (h3 : cs[3]? = some H)
    (hH : Row w B 61 3 H hs.length (heldL hs)) (hBs : B ≤ w.heap.size) (hR : ∀ (j : Nat) (h : Hold), hs[j]? = some h → h.num < 100 ∧ h.n ≤ 1000000 ∧ ∃ xs, Row w B 9 1 h.v h.n xs) (hA : Apart hs) (hm : hs.length < 1000000) :
    Calls Tryz.prog 17 #[.pointer (some ⟨b, 0, none⟩)] w fun e w' => e = .returned (.bool true) ∧ Chg (fun k => heldIn hs k ∨ H.ownBlock = some k) w w' := by
  have hbT : ∀ (W : World), Blk W b 46 cs → ∀ g t cs, Blk W g t cs → g = b → t = 46 := fun W hW g t cs' hg e => by
    subst e
    by_cases h : t = 46
    · exact h
    · exact absurd rfl (Blk.ne_ hg hW h)
  have hbn : ¬ (heldIn hs b ∨ H.ownBlock = some b) := by
    rintro (⟨h, hh, he⟩ | he)
    · obtain ⟨j, hj, e⟩ := List.getElem_of_mem hh
      obtain ⟨_, _, xs, hx⟩ := hR j h (by rw [List.getElem?_eq_getElem hj, e])
      exact hx.ne_blk hB (by decide) he
    · exact hH.ne_blk hB (by decide) he
  have hHn : ∀ g, H.ownBlock = some g → ¬ heldIn hs g := by
    rintro g hg ⟨h, hh, he⟩
    obtain ⟨j, hj, e⟩ := List.getElem_of_mem hh
    obtain ⟨_, _, xs, hx⟩ := hR j h (by rw [List.getElem?_eq_getElem hj, e])
    obtain ⟨cur, hb⟩ := hx.blk he
    exact hH.ne_blk hb (by decide) hg
  have cellP : ∀ (W : World) (j : Nat), Blk W b 46 cs → 1 ≤ j → j ≤ 15 → j ≠ 3 → W.cell? ⟨b, j, none⟩ = some (.slice none 0 0) := fun W j hW h1 h2 h4 => (hW.cell j).trans (hnil j h1 h2 h4)
  have cell3 : ∀ (W : World), Blk W b 46 cs → W.cell? ⟨b, 3, none⟩ = some H := fun W hW => (hW.cell 3).trans h3
  have HP := Lib.hid cellP
  have H3 := Lib.hid cell3
  have HT := Lib.hid hbT
  clear cellP cell3 hbT hnil h3
  go_enter Tryz.func17, Tryz.ntmps17
  go_wp2_with fail
  refine (fillByte_none b _ (HP.out _ 1 hB (by omega) (by omega) (by omega))).mono ?_
  rintro e w9 ⟨⟨u, rfl⟩, e1⟩
  obtain rfl := e1.symm
  go_wp2_with fail
  refine (fillInt_none b _ (HP.out _ 2 hB (by omega) (by omega) (by omega))).mono ?_
  rintro e w9 ⟨⟨u, rfl⟩, e1⟩
  obtain rfl := e1.symm
  go_wp2_with fail
  refine (fillText_any b H hs B _ (H3.out _ hB) (HT.out _ hB) hB.lt hH hBs (fun j h hj => ⟨(hR j h hj).1, (hR j h hj).2.2⟩) hA hm).mono ?_
  rintro e w1 ⟨⟨u, rfl⟩, hR1, c1⟩
  have hB1 := c1.blk hB (fun h => hbn (.inl h))
  have hH1 := hH.chg c1 hHn
  have hBs1 := Nat.le_trans hBs c1.size
  have hR1' : ∀ (j : Nat) (h : Hold), hs[j]? = some h → h.num < 100 ∧ h.n ≤ 1000000 ∧ Row w1 B 9 1 h.v h.n (markT h) := fun j h hj => ⟨(hR j h hj).1, (hR j h hj).2.1, hR1 j h hj⟩
  go_wp2_with fail
  refine (fillNum_none b _ (HP.out _ 4 hB1 (by omega) (by omega) (by omega))).mono ?_
  rintro e w9 ⟨⟨u, rfl⟩, e1⟩
  obtain rfl := e1.symm
  go_wp2_with fail
  refine (fillBool_none b _ (HP.out _ 5 hB1 (by omega) (by omega) (by omega))).mono ?_
  rintro e w9 ⟨⟨u, rfl⟩, e1⟩
  obtain rfl := e1.symm
  go_wp2_with fail
  refine (fillBoolList_none b _ (HP.out _ 6 hB1 (by omega) (by omega) (by omega))).mono ?_
  rintro e w9 ⟨⟨u, rfl⟩, e1⟩
  obtain rfl := e1.symm
  go_wp2_with fail
  refine (fillPair_none b _ (HP.out _ 7 hB1 (by omega) (by omega) (by omega))).mono ?_
  rintro e w9 ⟨⟨u, rfl⟩, e1⟩
  obtain rfl := e1.symm
  go_wp2_with fail
  refine (fillNode_none b _ (HP.out _ 8 hB1 (by omega) (by omega) (by omega))).mono ?_
  rintro e w9 ⟨⟨u, rfl⟩, e1⟩
  obtain rfl := e1.symm
  go_wp2_with fail
  refine (fillBound_none b _ (HP.out _ 9 hB1 (by omega) (by omega) (by omega))).mono ?_
  rintro e w9 ⟨⟨u, rfl⟩, e1⟩
  obtain rfl := e1.symm
  go_wp2_with fail
  refine (fillTerm_none b _ (HP.out _ 10 hB1 (by omega) (by omega) (by omega))).mono ?_
  rintro e w9 ⟨⟨u, rfl⟩, e1⟩
  obtain rfl := e1.symm
  go_wp2_with fail
  refine (fillSpot_none b _ (HP.out _ 11 hB1 (by omega) (by omega) (by omega))).mono ?_
  rintro e w9 ⟨⟨u, rfl⟩, e1⟩
  obtain rfl := e1.symm
  go_wp2_with fail
  refine (fillImport_none b _ (HP.out _ 12 hB1 (by omega) (by omega) (by omega))).mono ?_
  rintro e w9 ⟨⟨u, rfl⟩, e1⟩
  obtain rfl := e1.symm
  go_wp2_with fail
  refine (fillEntry_none b _ (HP.out _ 13 hB1 (by omega) (by omega) (by omega))).mono ?_
  rintro e w9 ⟨⟨u, rfl⟩, e1⟩
  obtain rfl := e1.symm
  go_wp2_with fail
  refine (fillItem_none b _ (HP.out _ 14 hB1 (by omega) (by omega) (by omega))).mono ?_
  rintro e w9 ⟨⟨u, rfl⟩, e1⟩
  obtain rfl := e1.symm
  go_wp2_with fail
  refine (fillWord_none b _ (HP.out _ 15 hB1 (by omega) (by omega) (by omega))).mono ?_
  rintro e w9 ⟨⟨u, rfl⟩, e1⟩
  obtain rfl := e1.symm
  go_wp2_with fail
  refine (growByte_none b _ (HP.out _ 1 hB1 (by omega) (by omega) (by omega))).mono ?_
  rintro e w9 ⟨⟨u, rfl⟩, e1⟩
  obtain rfl := e1.symm
  go_wp2_with fail
  refine (growInt_none b _ (HP.out _ 2 hB1 (by omega) (by omega) (by omega))).mono ?_
  rintro e w9 ⟨⟨u, rfl⟩, e1⟩
  obtain rfl := e1.symm
  go_wp2_with fail
  refine (growText_any b H hs B _ (H3.out _ hB1) (HT.out _ hB1) hB1.lt hH1 hBs1 hR1' hA hm).mono ?_
  rintro e w2 ⟨⟨u, rfl⟩, hs', hl', hH2, hG, c2⟩
  have hB2 := c2.blk hB1 hbn
  have c02 := (c1.mono (fun k h => .inl h) : Chg (fun k => heldIn hs k ∨ H.ownBlock = some k) w w1).trans c2
  have hG' : ∀ (j : Nat) (h : Hold), hs'[j]? = some h → h.num < 100 ∧ h.n ≤ 1000000 ∧ h.ln = h.n + 40 ∧ Reads w2 w2.heap.size 1 h.A h.n (markT h) ∧ Reads w2 w2.heap.size 1 h.lA h.ln (markG h) := by
    intro j h' hj
    have hjl : j < hs.length := by have := (List.getElem?_eq_some_iff.1 hj).1; omega
    obtain ⟨h2, e2, g1, g2, g3, g4, g5, g6, g7, _⟩ := hG j _ (List.getElem?_eq_getElem hjl)
    rw [hj] at e2
    cases e2
    obtain ⟨r1, r2, _⟩ := hR1' j _ (List.getElem?_eq_getElem hjl)
    refine ⟨by rw [g4]; exact r1, by rw [g2]; exact r2, by rw [g5, g2], ?_, ?_⟩
    · rw [g1, g2, markT, g2, g4]; exact g6
    · rw [markG, g2, g4]; exact g7
  rw [← hl'] at hH2
  go_wp2_with fail
  refine (growNum_none b _ (HP.out _ 4 hB2 (by omega) (by omega) (by omega))).mono ?_
  rintro e w9 ⟨⟨u, rfl⟩, e1⟩
  obtain rfl := e1.symm
  go_wp2_with fail
  refine (growBool_none b _ (HP.out _ 5 hB2 (by omega) (by omega) (by omega))).mono ?_
  rintro e w9 ⟨⟨u, rfl⟩, e1⟩
  obtain rfl := e1.symm
  go_wp2_with fail
  refine (growBoolList_none b _ (HP.out _ 6 hB2 (by omega) (by omega) (by omega))).mono ?_
  rintro e w9 ⟨⟨u, rfl⟩, e1⟩
  obtain rfl := e1.symm
  go_wp2_with fail
  refine (growPair_none b _ (HP.out _ 7 hB2 (by omega) (by omega) (by omega))).mono ?_
  rintro e w9 ⟨⟨u, rfl⟩, e1⟩
  obtain rfl := e1.symm
  go_wp2_with fail
  refine (growNode_none b _ (HP.out _ 8 hB2 (by omega) (by omega) (by omega))).mono ?_
  rintro e w9 ⟨⟨u, rfl⟩, e1⟩
  obtain rfl := e1.symm
  go_wp2_with fail
  refine (growBound_none b _ (HP.out _ 9 hB2 (by omega) (by omega) (by omega))).mono ?_
  rintro e w9 ⟨⟨u, rfl⟩, e1⟩
  obtain rfl := e1.symm
  go_wp2_with fail
  refine (growTerm_none b _ (HP.out _ 10 hB2 (by omega) (by omega) (by omega))).mono ?_
  rintro e w9 ⟨⟨u, rfl⟩, e1⟩
  obtain rfl := e1.symm
  go_wp2_with fail
  refine (growSpot_none b _ (HP.out _ 11 hB2 (by omega) (by omega) (by omega))).mono ?_
  rintro e w9 ⟨⟨u, rfl⟩, e1⟩
  obtain rfl := e1.symm
  go_wp2_with fail
  refine (growImport_none b _ (HP.out _ 12 hB2 (by omega) (by omega) (by omega))).mono ?_
  rintro e w9 ⟨⟨u, rfl⟩, e1⟩
  obtain rfl := e1.symm
  go_wp2_with fail
  refine (growEntry_none b _ (HP.out _ 13 hB2 (by omega) (by omega) (by omega))).mono ?_
  rintro e w9 ⟨⟨u, rfl⟩, e1⟩
  obtain rfl := e1.symm
  go_wp2_with fail
  refine (growItem_none b _ (HP.out _ 14 hB2 (by omega) (by omega) (by omega))).mono ?_
  rintro e w9 ⟨⟨u, rfl⟩, e1⟩
  obtain rfl := e1.symm
  go_wp2_with fail
  refine (growWord_none b _ (HP.out _ 15 hB2 (by omega) (by omega) (by omega))).mono ?_
  rintro e w9 ⟨⟨u, rfl⟩, e1⟩
  obtain rfl := e1.symm
  go_wp2_with fail
  refine (lookByte_none b _ (HP.out _ 1 hB2 (by omega) (by omega) (by omega))).mono ?_
  rintro e w9 ⟨rfl, e1⟩
  obtain rfl := e1.symm
  go_wp2_with fail
  refine (lookInt_none b _ (HP.out _ 2 hB2 (by omega) (by omega) (by omega))).mono ?_
  rintro e w9 ⟨rfl, e1⟩
  obtain rfl := e1.symm
  go_wp2_with fail
  refine (lookText_any b H hs' B _ (H3.out _ hB2) hH2 hG' (by omega)).mono ?_
  rintro e w3 ⟨rfl, b3⟩
  have hB3 := hB2.below b3 hB2.lt
  have c03 := c02.trans (Chg.of_below _ b3)
  go_wp2_with fail
  refine (lookNum_none b _ (HP.out _ 4 hB3 (by omega) (by omega) (by omega))).mono ?_
  rintro e w9 ⟨rfl, e1⟩
  obtain rfl := e1.symm
  go_wp2_with fail
  refine (lookBool_none b _ (HP.out _ 5 hB3 (by omega) (by omega) (by omega))).mono ?_
  rintro e w9 ⟨rfl, e1⟩
  obtain rfl := e1.symm
  go_wp2_with fail
  refine (lookBoolList_none b _ (HP.out _ 6 hB3 (by omega) (by omega) (by omega))).mono ?_
  rintro e w9 ⟨rfl, e1⟩
  obtain rfl := e1.symm
  go_wp2_with fail
  refine (lookPair_none b _ (HP.out _ 7 hB3 (by omega) (by omega) (by omega))).mono ?_
  rintro e w9 ⟨rfl, e1⟩
  obtain rfl := e1.symm
  go_wp2_with fail
  refine (lookNode_none b _ (HP.out _ 8 hB3 (by omega) (by omega) (by omega))).mono ?_
  rintro e w9 ⟨rfl, e1⟩
  obtain rfl := e1.symm
  go_wp2_with fail
  refine (lookBound_none b _ (HP.out _ 9 hB3 (by omega) (by omega) (by omega))).mono ?_
  rintro e w9 ⟨rfl, e1⟩
  obtain rfl := e1.symm
  go_wp2_with fail
  refine (lookTerm_none b _ (HP.out _ 10 hB3 (by omega) (by omega) (by omega))).mono ?_
  rintro e w9 ⟨rfl, e1⟩
  obtain rfl := e1.symm
  go_wp2_with fail
  refine (lookSpot_none b _ (HP.out _ 11 hB3 (by omega) (by omega) (by omega))).mono ?_
  rintro e w9 ⟨rfl, e1⟩
  obtain rfl := e1.symm
  go_wp2_with fail
  refine (lookImport_none b _ (HP.out _ 12 hB3 (by omega) (by omega) (by omega))).mono ?_
  rintro e w9 ⟨rfl, e1⟩
  obtain rfl := e1.symm
  go_wp2_with fail
  refine (lookEntry_none b _ (HP.out _ 13 hB3 (by omega) (by omega) (by omega))).mono ?_
  rintro e w9 ⟨rfl, e1⟩
  obtain rfl := e1.symm
  go_wp2_with fail
  refine (lookItem_none b _ (HP.out _ 14 hB3 (by omega) (by omega) (by omega))).mono ?_
  rintro e w9 ⟨rfl, e1⟩
  obtain rfl := e1.symm
  go_wp2_with fail
  refine (lookWord_none b _ (HP.out _ 15 hB3 (by omega) (by omega) (by omega))).mono ?_
  rintro e w9 ⟨rfl, e1⟩
  obtain rfl := e1.symm
  go_wp2
  go_ret
  exact ⟨rfl, c03⟩
end Go.Proofs.YtjinhkdncenhdaaGreatDoor
