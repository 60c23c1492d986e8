/- faces.Check. prints.writer: a strings.Builder that lies at the head of another struct. prints: puts. -/
import Derived.Test.YtcgnbpjbpbabaaaGreatDoorMg15
import Derived.Test.YtcgnbpjbpbabaaaGreatDoorMg08
import Derived.Test.YtcgnbpjbpbabaaaGreatDoorMg06
import Derived.WalkMore
import Derived.Test.YtcgnbpjbpbabaaaGreatDoorShelf
import Derived.Lib.Builder
import Derived.Lib.AppendStr
section
set_option linter.unusedVariables false
set_option linter.unusedSimpArgs false
set_option maxRecDepth 100000
set_option maxHeartbeats 4000000
namespace Go.Proofs.YtcgnbpjbpbabaaaGreatDoor
open Go.RowKit
/-- a block of slices of texts is read as such a row -/
theorem sl_texts {w : World} {g : Nat} {t : TypeId} {vs : List (Option Addr × Nat × Nat)} {ls : List (List ByteArray)} (hB : Blk w g t (vs.map fun (v : Option Addr × Nat × Nat) => Value.slice v.1 v.2.1 v.2.2).toArray) (hl : vs.length = ls.length) (hn : ls.length ≤ 100)
    (h : ∀ (j : Nat) (v : Option Addr × Nat × Nat) (l : List ByteArray), vs[j]? = some v → ls[j]? = some l → Strs w v.1 v.2.1 l ∧ v.2.1 ≤ v.2.2) : Sl rTexts 1 w (some ⟨g, 0, none⟩) ls.length ls := by
  refine ⟨rfl, by omega, fun _ => ⟨_, rfl, fun j l hj => ?_⟩⟩
  obtain ⟨v, hv⟩ : ∃ v, vs[j]? = some v := ⟨_, List.getElem?_eq_getElem (by rw [hl]; exact (List.getElem?_eq_some_iff.1 hj).1)⟩
  obtain ⟨h1, h2⟩ := h j v l hv hj
  refine ⟨[.slice v.1 v.2.1 v.2.2], ⟨v.1, v.2.1, v.2.2, rfl, h1, h2⟩, rfl, fun k u hu => ?_⟩
  have hk : k = 0 := by have := (List.getElem?_eq_some_iff.1 hu).1; simpa using this
  subst hk
  rw [add_lit', Nat.zero_add, Nat.mul_one, Nat.add_zero, hB.cell, List.getElem?_toArray, List.getElem?_map, hv]
  simpa using hu
theorem most1_at (lim : Nat) (hlim : lim ≤ 1000000) (A : Option Addr) (n c : Nat) (l : List ByteArray) (t : TypeId) (w W : World) (h : Strs w A n l) (hc : n ≤ c) (hb : Below w.heap.size w W) :
    Calls Tryz.prog 24 #[.int .i64 lim, .slice (some ⟨W.heap.size, 0, none⟩) 1 1] (W.alloc (.cells #[.slice A n c] t)) fun e w' => e = .returned (.bool (decide (lim < l.length))) ∧ Below w.heap.size w w' := by
  have hb1 : Below w.heap.size w (W.alloc (.cells #[.slice A n c] t)) := hb.alloc hb.size _
  have hS := sl_texts (w := W.alloc (.cells #[.slice A n c] t)) (g := W.heap.size) (t := t) (vs := [(A, n, c)]) (ls := [l]) (Blk.new W t #[.slice A n c]) rfl (by simp) (fun j v l' hv hl => by
    have hj : j = 0 := by have := (List.getElem?_eq_some_iff.1 hv).1; simpa using this
    subst hj
    cases hv
    cases hl
    exact ⟨(sl_strs.1 ((sl_strs.2 h).below rStr_keeps hb1)), hc⟩)
  refine (most_any lim hlim _ 1 1 [l] _ hS).mono ?_
  rintro e w' ⟨rfl, b⟩
  exact ⟨by simp, hb1.trans (b.mono hb1.size)⟩

theorem fcheck_any (f : Face) (A1 A2 A3 A4 A5 A6 : Option Addr) (n1 c1 n2 c2 n3 c3 n4 c4 n5 c5 n6 c6 : Nat) (w : World) (hmod : f.module.size ≤ 4611686018427387904) (h1 : Strs w A1 n1 f.labels) (h2 : Sl rNum 1 w A2 n2 f.rows) (h3 : Strs w A3 n3 f.effects) (h4 : Strs w A4 n4 f.types) (h5 : Sl rImport 2 w A5 n5 f.imports) (h6 : Sl rEntry 6 w A6 n6 f.entries)
    (k1 : n1 ≤ c1) (k3 : n3 ≤ c3) (k4 : n4 ≤ c4) (b5 : n5 * 16 ≤ 140737488355328) (b6 : n6 * 16 ≤ 140737488355328) (hT : Tabs w) :
    Calls Tryz.prog 9 #[.agg #[.string f.module, .slice A1 n1 c1, .slice A2 n2 c2, .slice A3 n3 c3, .slice A4 n4 c4, .slice A5 n5 c5, .slice A6 n6 c6]] w fun r w' => r = .returned (.int .i64 (checkFace f : Nat)) ∧ Below w.heap.size w w' := by
  obtain ⟨W0, hW0⟩ : ∃ W0, w.alloc (.cells #[.string f.module, .slice A1 n1 c1, .slice A2 n2 c2, .slice A3 n3 c3, .slice A4 n4 c4, .slice A5 n5 c5, .slice A6 n6 c6] 27) = W0 := ⟨_, rfl⟩
  have hb0 : Below w.heap.size w W0 := by rw [← hW0]; exact (Below.refl _ w).alloc (Nat.le_refl _) _
  have hB0 : Blk W0 w.heap.size 27 #[.string f.module, .slice A1 n1 c1, .slice A2 n2 c2, .slice A3 n3 c3, .slice A4 n4 c4, .slice A5 n5 c5, .slice A6 n6 c6] := by rw [← hW0]; exact Blk.new w _ _
  have hcells : ∀ W, Below W0.heap.size W0 W → w.heap.size < W.heap.size ∧ W.cell? ⟨w.heap.size, 0, none⟩ = some (.string f.module) ∧ W.cell? ⟨w.heap.size, 1, none⟩ = some (.slice A1 n1 c1) ∧ W.cell? ⟨w.heap.size, 2, none⟩ = some (.slice A2 n2 c2) ∧ W.cell? ⟨w.heap.size, 3, none⟩ = some (.slice A3 n3 c3) ∧ W.cell? ⟨w.heap.size, 4, none⟩ = some (.slice A4 n4 c4) ∧ W.cell? ⟨w.heap.size, 5, none⟩ = some (.slice A5 n5 c5) ∧ W.cell? ⟨w.heap.size, 6, none⟩ = some (.slice A6 n6 c6) := fun W hW => by
    have := hB0.below hW hB0.lt
    refine ⟨this.lt, ?_, ?_, ?_, ?_, ?_, ?_, ?_⟩ <;> rw [this.cell] <;> rfl
  have Hcells := Lib.hid hcells
  have HW0 := Lib.hid hW0
  have H1 := Lib.hid ((sl_strs.2 h1).below rStr_keeps hb0)
  have H2 := Lib.hid (h2.below rNum_keeps hb0)
  have H3 := Lib.hid ((sl_strs.2 h3).below rStr_keeps hb0)
  have H4 := Lib.hid ((sl_strs.2 h4).below rStr_keeps hb0)
  have H5 := Lib.hid (h5.below rImport_keeps hb0)
  have H6 := Lib.hid (h6.below rEntry_keeps hb0)
  have hT0 := hT.below hb0
  obtain ⟨m1, hm1⟩ : ∃ b, decide (64 < f.labels.length) = b := ⟨_, rfl⟩
  obtain ⟨m2, hm2⟩ : ∃ b, decide (64 < f.effects.length) = b := ⟨_, rfl⟩
  obtain ⟨m3, hm3⟩ : ∃ b, decide (64 < f.types.length) = b := ⟨_, rfl⟩
  obtain ⟨m4, hm4⟩ : ∃ b, decide (16 < f.imports.length) = b := ⟨_, rfl⟩
  obtain ⟨m5, hm5⟩ : ∃ b, decide (64 < f.entries.length) = b := ⟨_, rfl⟩
  obtain ⟨nm, hnm⟩ : ∃ b, (namesB [f.module] && namesB f.labels && namesB f.effects && namesB f.types && namesB (f.imports.map Import.module) && namesB (f.entries.map Entry.name)) = b := ⟨_, rfl⟩
  obtain ⟨tb, htb⟩ : ∃ b, f.types.any baseB = b := ⟨_, rfl⟩
  obtain ⟨ib, hib⟩ : ∃ b, inB (f.imports.map Import.module) f.module = b := ⟨_, rfl⟩
  obtain ⟨eq, heq⟩ : ∃ b, (f.rows.length == f.labels.length) = b := ⟨_, rfl⟩
  have hval : checkFace f = if m1 || m2 || m3 || m4 || m5 then 3
      else if !nm then 4
      else if tb || ib || !eq then 4
      else if checkOrder f.rows ≠ 0 then checkOrder f.rows
      else checkEntries f f.entries := by
    rw [checkFace, hm1, hm2, hm3, hm4, hm5, hnm, htb, hib, heq]
  rw [hval]
  have M := Lib.hid (And.intro hm1 (And.intro hm2 (And.intro hm3 (And.intro hm4 hm5))))
  have M2 := Lib.hid (And.intro hnm (And.intro htb (And.intro hib heq)))
  clear hcells hW0 h1 h2 h3 h4 h5 h6 hT hB0 hval hm1 hm2 hm3 hm4 hm5 hnm htb hib heq
  go_enter Tryz.func9, Tryz.ntmps9
  go_wp2_with fail
  rw [HW0.out]
  obtain ⟨g, g0, g1, g2, g3, g4, g5, g6⟩ := Hcells.out W0 (Below.refl _ _)
  go_step3
  go_wp2_with fail
  refine (ofImports_any A5 n5 c5 f.imports W0 H5.out b5).mono ?_
  rintro r w1 ⟨A7, c7, rfl, hc7, s7, b1⟩
  have S7 := Lib.hid (sl_strs.2 s7)
  clear s7
  obtain ⟨g, g0, g1, g2, g3, g4, g5, g6⟩ := Hcells.out w1 b1
  go_wp2_with fail
  refine (ofEntries_any A6 n6 c6 f.entries w1 (H6.out.below rEntry_keeps b1) b6).mono ?_
  rintro r w2 ⟨A8, c8, rfl, hc8, s8, b2'⟩
  have b2 := b1.trans (b2'.mono b1.size)
  have S8 := Lib.hid (sl_strs.2 s8)
  have S7 := Lib.hid (S7.out.below rStr_keeps b2')
  clear s8
  obtain ⟨g, g0, g1, g2, g3, g4, g5, g6⟩ := Hcells.out w2 b2
  go_wp2_with fail
  have e2 : Below w2.heap.size w2 w2 := Below.refl _ _
  refine (most1_at 64 (by omega) A1 n1 c1 f.labels _ w2 w2 (sl_strs.1 (H1.out.below rStr_keeps b2)) k1 (Below.refl _ _)).mono ?_
  rintro r w3 ⟨rfl, b3'⟩
  have b3 := b2.trans (b3'.mono b2.size)
  have e3 := e2.trans (b3'.mono e2.size)
  rw [M.out.1]
  obtain ⟨g, g0, g1, g2, g3, g4, g5, g6⟩ := Hcells.out w3 b3
  cases m1
  rotate_left
  · go_wp2_with fail
    all_goals
      try rw [Exit.noGoto_ret]
      go_ret
      exact ⟨ret_int (by simp), hb0.trans (b3.mono hb0.size)⟩
  go_wp2_with fail
  refine (most1_at 64 (by omega) A3 n3 c3 f.effects _ w3 w3 (sl_strs.1 (H3.out.below rStr_keeps b3)) k3 (Below.refl _ _)).mono ?_
  rintro r w4 ⟨rfl, b4'⟩
  have b4 := b3.trans (b4'.mono b3.size)
  have e4 := e3.trans (b4'.mono e3.size)
  rw [M.out.2.1]
  obtain ⟨g, g0, g1, g2, g3, g4, g5, g6⟩ := Hcells.out w4 b4
  cases m2
  rotate_left
  · go_wp2_with fail
    all_goals
      try rw [Exit.noGoto_ret]
      go_ret
      exact ⟨ret_int (by simp), hb0.trans (b4.mono hb0.size)⟩
  go_wp2_with fail
  refine (most1_at 64 (by omega) A4 n4 c4 f.types _ w4 w4 (sl_strs.1 (H4.out.below rStr_keeps b4)) k4 (Below.refl _ _)).mono ?_
  rintro r w5 ⟨rfl, b5'⟩
  have b5 := b4.trans (b5'.mono b4.size)
  have e5 := e4.trans (b5'.mono e4.size)
  rw [M.out.2.2.1]
  obtain ⟨g, g0, g1, g2, g3, g4, g5, g6⟩ := Hcells.out w5 b5
  cases m3
  rotate_left
  · go_wp2_with fail
    all_goals
      try rw [Exit.noGoto_ret]
      go_ret
      exact ⟨ret_int (by simp), hb0.trans (b5.mono hb0.size)⟩
  go_wp2_with fail
  refine (most1_at 16 (by omega) A7 n5 c7 (f.imports.map Import.module) _ w5 w5 (sl_strs.1 (S7.out.below rStr_keeps e5)) hc7 (Below.refl _ _)).mono ?_
  rintro r w6 ⟨rfl, b6'⟩
  have b6 := b5.trans (b6'.mono b5.size)
  have e6 := e5.trans (b6'.mono e5.size)
  rw [List.length_map, M.out.2.2.2.1]
  obtain ⟨g, g0, g1, g2, g3, g4, g5, g6⟩ := Hcells.out w6 b6
  cases m4
  rotate_left
  · go_wp2_with fail
    all_goals
      try rw [Exit.noGoto_ret]
      go_ret
      exact ⟨ret_int (by simp), hb0.trans (b6.mono hb0.size)⟩
  go_wp2_with fail
  refine (most1_at 64 (by omega) A8 n6 c8 (f.entries.map Entry.name) _ w6 w6 (sl_strs.1 (S8.out.below rStr_keeps e6)) hc8 (Below.refl _ _)).mono ?_
  rintro r w7 ⟨rfl, b7'⟩
  have b7 := b6.trans (b7'.mono b6.size)
  have e7 := e6.trans (b7'.mono e6.size)
  rw [List.length_map, M.out.2.2.2.2]
  obtain ⟨g, g0, g1, g2, g3, g4, g5, g6⟩ := Hcells.out w7 b7
  cases m5
  rotate_left
  · go_wp2_with fail
    all_goals
      try rw [Exit.noGoto_ret]
      go_ret
      exact ⟨ret_int (by simp), hb0.trans (b7.mono hb0.size)⟩
  go_wp2_with fail
  have hls : ∀ W, W = (w7.alloc (.cells #[.string f.module] 9)).alloc (.cells #[.slice (some ⟨w7.heap.size, 0, none⟩) 1 1, .slice A1 n1 c1, .slice A3 n3 c3, .slice A4 n4 c4, .slice A7 n5 c7, .slice A8 n6 c8] 22) → Sl rTexts 1 W (some ⟨w7.heap.size + 1, 0, none⟩) 6 [[f.module], f.labels, f.effects, f.types, f.imports.map Import.module, f.entries.map Entry.name] := by
    rintro W rfl
    have hb8 := ((Below.refl w7.heap.size w7).alloc (Nat.le_refl _) (.cells #[.string f.module] 9)).alloc (by simp) (.cells #[.slice (some ⟨w7.heap.size, 0, none⟩) 1 1, .slice A1 n1 c1, .slice A3 n3 c3, .slice A4 n4 c4, .slice A7 n5 c7, .slice A8 n6 c8] 22)
    have hBm := (Blk.new w7 9 #[.string f.module]).alloc (.cells #[.slice (some ⟨w7.heap.size, 0, none⟩) 1 1, .slice A1 n1 c1, .slice A3 n3 c3, .slice A4 n4 c4, .slice A7 n5 c7, .slice A8 n6 c8] 22)
    have hBn := Blk.new (w7.alloc (.cells #[.string f.module] 9)) 22 #[.slice (some ⟨w7.heap.size, 0, none⟩) 1 1, .slice A1 n1 c1, .slice A3 n3 c3, .slice A4 n4 c4, .slice A7 n5 c7, .slice A8 n6 c8]
    rw [World.size_alloc] at hBn
    refine sl_texts (vs := [(some ⟨w7.heap.size, 0, none⟩, 1, 1), (A1, n1, c1), (A3, n3, c3), (A4, n4, c4), (A7, n5, c7), (A8, n6, c8)]) (ls := [[f.module], f.labels, f.effects, f.types, f.imports.map Import.module, f.entries.map Entry.name]) hBn rfl (by simp) (fun j v l hv hl => ?_)
    have q1 := sl_strs.1 ((H1.out.below rStr_keeps b7).below rStr_keeps hb8)
    have q3 := sl_strs.1 ((H3.out.below rStr_keeps b7).below rStr_keeps hb8)
    have q4 := sl_strs.1 ((H4.out.below rStr_keeps b7).below rStr_keeps hb8)
    have q7 := sl_strs.1 ((S7.out.below rStr_keeps e7).below rStr_keeps hb8)
    have q8 := sl_strs.1 ((S8.out.below rStr_keeps e7).below rStr_keeps hb8)
    have q0 : Strs ((w7.alloc (.cells #[.string f.module] 9)).alloc (.cells #[.slice (some ⟨w7.heap.size, 0, none⟩) 1 1, .slice A1 n1 c1, .slice A3 n3 c3, .slice A4 n4 c4, .slice A7 n5 c7, .slice A8 n6 c8] 22)) (some ⟨w7.heap.size, 0, none⟩) 1 [f.module] := by
      refine sl_strs.1 ⟨rfl, by omega, fun _ => ⟨_, rfl, fun j x hx => ?_⟩⟩
      have hj : j = 0 := by have := (List.getElem?_eq_some_iff.1 hx).1; simpa using this
      subst hj
      cases hx
      refine ⟨_, ⟨rfl, hmod⟩, rfl, fun k u hu => ?_⟩
      rw [add_lit', Nat.zero_mul, Nat.zero_add, Nat.zero_add, hBm.cell]
      simpa using hu
    match j, hv, hl with
    | 0, hv, hl => cases hv; cases hl; exact ⟨q0, Nat.le_refl _⟩
    | 1, hv, hl => cases hv; cases hl; exact ⟨q1, k1⟩
    | 2, hv, hl => cases hv; cases hl; exact ⟨q3, k3⟩
    | 3, hv, hl => cases hv; cases hl; exact ⟨q4, k4⟩
    | 4, hv, hl => cases hv; cases hl; exact ⟨q7, hc7⟩
    | 5, hv, hl => cases hv; cases hl; exact ⟨q8, hc8⟩
  have hall : ([[f.module], f.labels, f.effects, f.types, f.imports.map Import.module, f.entries.map Entry.name].all namesB) = (namesB [f.module] && namesB f.labels && namesB f.effects && namesB f.types && namesB (f.imports.map Import.module) && namesB (f.entries.map Entry.name)) := by simp [Bool.and_assoc]
  refine (names_any (some ⟨w7.heap.size + 1, 0, none⟩) 6 6 _ _ (hls _ rfl)).mono ?_
  rintro r w8 ⟨rfl, b8'⟩
  have b78 := (((Below.refl w7.heap.size w7).alloc (Nat.le_refl _) (.cells #[.string f.module] 9)).alloc (by simp) (.cells #[.slice (some ⟨w7.heap.size, 0, none⟩) 1 1, .slice A1 n1 c1, .slice A3 n3 c3, .slice A4 n4 c4, .slice A7 n5 c7, .slice A8 n6 c8] 22)).trans (b8'.mono (by simp; omega))
  have b8 := b7.trans (b78.mono b7.size)
  have e8 := e7.trans (b78.mono e7.size)
  rw [hall, M2.out.1]
  clear hall hls b8' b78
  obtain ⟨g, g0, g1, g2, g3, g4, g5, g6⟩ := Hcells.out w8 b8
  cases nm
  · go_wp2_with fail
    all_goals
      try rw [Exit.noGoto_ret]
      go_ret
      exact ⟨ret_int (by simp), hb0.trans (b8.mono hb0.size)⟩
  go_wp2_with fail
  refine (containsFunc_str A4 n4 c4 f.types 27 #[] baseB w8 (sl_strs.1 (H4.out.below rStr_keeps b8)) (enters_of Tryz.func27 (by kernel_rfl) rfl) (fun W s _ _ => base_any s W)).mono ?_
  rintro r w9 ⟨rfl, b9'⟩
  have b9 := b8.trans (b9'.mono b8.size)
  have e9 := e8.trans (b9'.mono e8.size)
  rw [M2.out.2.1]
  obtain ⟨g, g0, g1, g2, g3, g4, g5, g6⟩ := Hcells.out w9 b9
  cases tb
  rotate_left
  · go_wp2_with fail
    all_goals
      try rw [Exit.noGoto_ret]
      go_ret
      exact ⟨ret_int (by simp), hb0.trans (b9.mono hb0.size)⟩
  go_wp2_with fail
  refine (contains_str A7 n5 c7 (f.imports.map Import.module) f.module w9 (sl_strs.1 (S7.out.below rStr_keeps e9))).mono ?_
  rintro r w10 ⟨rfl, b10'⟩
  have b10 := b9.trans (b10'.mono b9.size)
  have e10 := e9.trans (b10'.mono e9.size)
  rw [M2.out.2.2.1]
  obtain ⟨g, g0, g1, g2, g3, g4, g5, g6⟩ := Hcells.out w10 b10
  cases ib
  rotate_left
  · go_wp2_with fail
    all_goals
      try rw [Exit.noGoto_ret]
      go_ret
      exact ⟨ret_int (by simp), hb0.trans (b10.mono hb0.size)⟩
  have zq : ((n2 : Int) != (n1 : Int)) = !eq := by
    have e1 : f.rows.length = n2 := H2.out.1
    have e2 : f.labels.length = n1 := H1.out.1
    rw [← M2.out.2.2.2, e1, e2]
    by_cases h : n2 = n1
    · simp [h]
    · rw [show ((n2 : Int) != (n1 : Int)) = true by rw [bne_iff_ne]; omega, show (n2 == n1) = false by rw [beq_eq_false_iff_ne]; exact h]
      rfl
  cases eq
  · rw [Bool.not_false] at zq
    go_wp2_with fail
    all_goals
      try rw [Exit.noGoto_ret]
      go_ret
      exact ⟨ret_int (by simp), hb0.trans (b10.mono hb0.size)⟩
  rw [Bool.not_true] at zq
  go_wp2_with fail
  refine (checkOrder_any A2 n2 c2 f.rows w10 (H2.out.below rNum_keeps b10) (hT0.below b10)).mono ?_
  rintro r w11 ⟨rfl, b11'⟩
  have b11 := b10.trans (b11'.mono b10.size)
  have e11 := e10.trans (b11'.mono e10.size)
  obtain ⟨g, g0, g1, g2, g3, g4, g5, g6⟩ := Hcells.out w11 b11
  by_cases hck : checkOrder f.rows = 0
  rotate_left
  · have z1 : (((checkOrder f.rows : Nat) : Int) != 0) = true := by rw [bne_iff_ne]; omega
    go_wp2_with fail
    all_goals
      try rw [Exit.noGoto_ret]
      go_ret
      exact ⟨ret_int (by simp [hck]), hb0.trans (b11.mono hb0.size)⟩
  have z1 : (((checkOrder f.rows : Nat) : Int) != 0) = false := by rw [hck]; rfl
  have Hck := Lib.hid hck
  simp only [Bool.or_self, Bool.not_true, Bool.false_eq_true, if_false, hck, ne_eq, not_true_eq_false, Bool.or_false]
  clear hck
  go_wp2_with fail
  have hn3 : n3 ≤ 64 := by
    have e3 : f.effects.length = n3 := H3.out.1
    have := M.out.2.1
    simp at this
    omega
  refine (sorts_any f A1 A2 A3 A4 A5 A6 n1 c1 n2 c2 n3 c3 n4 c4 n5 c5 n6 c6 w11 (H2.out.below rNum_keeps b11) (hT0.below b11) Hck.out H3.out.1 hn3).mono ?_
  rintro r w12 ⟨u, v, rfl, hu, hv, b12'⟩
  have b12 := b11.trans (b12'.mono b11.size)
  have HU := Lib.hid hu
  have HV := Lib.hid hv
  have H6' := Lib.hid (H6.out.below rEntry_keeps b12)
  have H4' := Lib.hid (H4.out.below rStr_keeps b12)
  have hl5 : f.imports.length = n5 := H5.out.1
  have hl6 : f.entries.length = n6 := H6.out.1
  obtain ⟨g, g0, g1, g2, g3, g4, g5, g6⟩ := Hcells.out w12 b12
  have hT12 := hT0.below b12
  have hcells12 : ∀ W, Below w12.heap.size w12 W → w.heap.size < W.heap.size ∧ W.cell? ⟨w.heap.size, 4, none⟩ = some (.slice A4 n4 c4) ∧ W.cell? ⟨w.heap.size, 5, none⟩ = some (.slice A5 n5 c5) := fun W hW => by
    obtain ⟨q, _, _, _, _, q4, q5, _⟩ := Hcells.out W (b12.trans (hW.mono b12.size))
    exact ⟨q, q4, q5⟩
  have HC := Lib.hid hcells12
  have hbw0 := hb0.trans (b12.mono hb0.size)
  clear hu hv b12 b12' b11 b11' b10 b10' b9 b9' b8 b7 b7' b6' b5' b4' b3' e11 e10 e9 e8 e7 e6 e5 e4 e3 e2 b3 b4 b1 b2 b2' H1 H2 H3 H4 H5 H6 S7 S8 hcells12 Hcells M M2 HW0 zq z1 g0 g1 g2 g3
  have h60 : n6 ≤ 9223372036854775807 := H6'.out.2.1
  have h50 : n5 ≤ 9223372036854775807 := by omega
  go_wp2_with fail
  go_step3
  go_wp2_with fail
  go_loopw [8, 94] (fun v8 iv wr => ∃ k : Nat, v8 = .int .i64 0 ∧ iv = .int .i64 k ∧ k ≤ n6 ∧ Below w12.heap.size w12 wr ∧ checkEntries f f.entries = checkEntries f (f.entries.drop k)) (fun _ iv _ => n6 - (intOf iv).toNat)
  case atStart => exact ⟨0, rfl, rfl, Nat.zero_le _, Below.refl _ _, rfl⟩
  case round =>
    obtain ⟨k, rfl, rfl, hk, hbw, hce⟩ := hrel
    by_cases hlt : k < n6
    rotate_left
    · obtain rfl : k = n6 := by omega
      have h0 : checkEntries f f.entries = 0 := by rw [hce, List.drop_of_length_le (by omega)]; rfl
      go_wp2_with fail
      all_goals
        try rw [Exit.noGoto_ret]
        go_ret
        exact ⟨ret_int (by simp [Hck.out, h0]), hbw0.trans (hbw.mono hbw0.size)⟩
    obtain ⟨b0, o0, x, cs, rfl, hxk, ⟨cs', rfl, hnsz, hlv, hev, A, n, c, B, m, d, C, k', e, rfl, hbd, hlb, heb, hnc, hmd, hke⟩, _, hcs⟩ := (H6'.out.below rEntry_keeps hbw).at_ hlt (by omega)
    obtain ⟨xn, lv, ev, body, lb, eb⟩ := x
    dsimp only at hlv hev hbd hlb heb hnsz
    have y0 := hcs 0 _ rfl
    have y1 := hcs 1 _ rfl
    have y2 := hcs 2 _ rfl
    have y3 := hcs 3 _ rfl
    have y4 := hcs 4 _ rfl
    have y5 := hcs 5 _ rfl
    simp only [Nat.add_zero] at y0
    dsimp only at y0 y1 y2 y3 y4 y5
    have hdk : f.entries.drop k = ⟨xn, lv, ev, body, lb, eb⟩ :: f.entries.drop (k + 1) := by
      rw [← List.getElem_cons_drop (by omega : k < f.entries.length)]
      rw [(List.getElem?_eq_some_iff.1 hxk).2]
    rw [hdk, checkEntries] at hce
    dsimp only at hce
    obtain ⟨sc, hsc⟩ : ∃ sc, checkScheme ⟨lv, ev, body, lb, eb⟩ (.lat f.rows) (.eff f.effects.length) = sc := ⟨_, rfl⟩
    rw [hsc] at hce
    have HCE := Lib.hid hce
    have HSC := Lib.hid hsc
    have Hbd := Lib.hid hbd
    have Hlb := Lib.hid hlb
    have Heb := Lib.hid heb
    have i1 : (k : Int) < (n6 : Int) := by omega
    have i2 : (n6 : Int) ≤ 9223372036854775807 := by omega
    clear hcs hxk hdk hce hsc hbd hlb heb
    have hbe := (Below.refl wr.heap.size wr).alloc (Nat.le_refl _) (.cells #[.string xn, .int .i64 lv, .int .i64 ev, .slice A n c, .slice B m d, .slice C k' e] 45)
    have hBe := Blk.new wr 45 #[.string xn, .int .i64 lv, .int .i64 ev, .slice A n c, .slice B m d, .slice C k' e]
    obtain ⟨wa, hwa⟩ : ∃ wa, wr.alloc (.cells #[.string xn, .int .i64 lv, .int .i64 ev, .slice A n c, .slice B m d, .slice C k' e] 45) = wa := ⟨_, rfl⟩
    rw [hwa] at hbe hBe
    have hba := hbw.trans (hbe.mono hbw.size)
    have cS := scheck_any lv ev A B C n c m d k' e body lb eb u v (.lat f.rows) (.eff f.effects.length) wa (Hbd.out.below rNode_keeps hbe) (Hlb.out.below rBound_keeps hbe) (Heb.out.below rBound_keeps hbe) hlv hev (HU.out.below hba) (HV.out.below hba) (hT12.below hba)
    rw [HSC.out] at cS
    have CS := Lib.hid cS
    have HWA := Lib.hid hwa
    have HBe := Lib.hid hBe
    clear cS hwa hBe
    go_wp2_with fail
    rw [HWA.out]
    refine CS.out.mono ?_
    rintro r wb ⟨rfl, bb'⟩
    have hbb := hba.trans (bb'.mono hba.size)
    have hBb := HBe.out.below bb' HBe.out.lt
    have t0 := hBb.cell 3
    simp at t0
    have HBb := Lib.hid hBb
    clear hBb
    by_cases hs0 : sc = 0
    rotate_left
    · have z : ((sc : Int) != 0) = true := by rw [bne_iff_ne]; omega
      have hv : checkEntries f f.entries = sc := by rw [HCE.out, if_pos hs0]
      have Hv := Lib.hid hv
      clear hs0 hv
      go_wp2_with fail
      all_goals
        try rw [Exit.noGoto_ret]
        go_ret
        exact ⟨ret_int (by simp [Hck.out, Hv.out]), hbw0.trans (hbb.mono hbw0.size)⟩
    subst hs0
    have hce : checkEntries f f.entries = if body.all (namedOk f) then checkEntries f (f.entries.drop (k + 1)) else 7 := by rw [HCE.out, if_neg (by simp)]
    have HCE2 := Lib.hid hce
    have Hbd2 := Lib.hid ((Hbd.out.below rNode_keeps hbe).below rNode_keeps bb')
    have hnb : n ≤ 9223372036854775807 := Hbd.out.2.1
    clear hce HCE HSC CS HWA HBe y0 y1 y2 y3 y4 y5 Hlb Heb
    go_wp2_with fail
    go_loopw [8, 109] (fun v8 jv w2 => ∃ j : Nat, v8 = .int .i64 0 ∧ jv = .int .i64 j ∧ j ≤ n ∧ Below wb.heap.size wb w2 ∧ ∀ (i : Nat) (y : Node), body[i]? = some y → i < j → namedOk f y = true) (fun _ jv _ => n - (intOf jv).toNat)
    case atStart => exact ⟨0, rfl, rfl, Nat.zero_le _, Below.refl _ _, fun _ _ _ h => absurd h (by omega)⟩
    case round =>
      obtain ⟨j, rfl, rfl, hj, hb2, hpre⟩ := hrel
      by_cases hjl : j < n
      rotate_left
      · obtain rfl : j = n := by omega
        have hall : body.all (namedOk f) = true := by
          rw [List.all_eq_true]
          intro y hy
          obtain ⟨i, hi⟩ := List.getElem?_of_mem hy
          exact hpre i y hi (by have := (List.getElem?_eq_some_iff.1 hi).1; have := Hbd2.out.1; omega)
        have hce3 : checkEntries f f.entries = checkEntries f (f.entries.drop (k + 1)) := by rw [HCE2.out, if_pos hall]
        go_wp2_with fail
        exact ⟨⟨k + 1, rfl, by go_num, by omega, hbb.trans (hb2.mono hbb.size), hce3⟩, by simp [intOf]; omega⟩
      · obtain ⟨b1, o1, y, cs, rfl, hyk, ⟨rfl, hok⟩, _, hcs⟩ := (Hbd2.out.below rNode_keeps hb2).at_ hjl (by omega)
        obtain ⟨kd, md, nme, ks, ⟨lv', ln⟩, ⟨pv, pn⟩, ⟨ev', en⟩⟩ := y
        have d0 := hcs 0 _ rfl
        have d1 := hcs 1 _ rfl
        have d2 := hcs 2 _ rfl
        have d3 := hcs 3 _ rfl
        have d4 := hcs 4 _ rfl
        have d5 := hcs 5 _ rfl
        have d6 := hcs 6 _ rfl
        have d7 := hcs 7 _ rfl
        have d8 := hcs 8 _ rfl
        have d9 := hcs 9 _ rfl
        simp only [Nat.add_zero] at d0
        dsimp only at d0 d1 d2 d3 d4 d5 d6 d7 d8 d9
        obtain ⟨qs, q4, q5⟩ := HC.out wr ((hbb.trans (hb2.mono hbb.size)))
        have hbn := (Below.refl wr.heap.size wr).alloc (Nat.le_refl _) (.cells #[.int .u8 kd, .int .i64 md, .string nme, .int .i64 ks, .bool lv', .int .u64 ln, .bool pv, .int .u64 pn, .bool ev', .int .u64 en] 68)
        have hb3 := hb2.trans (hbn.mono hb2.size)
        have hbad : namedOk f ⟨kd, md, nme, ks, ⟨lv', ln⟩, ⟨pv, pn⟩, ⟨ev', en⟩⟩ = false → checkEntries f f.entries = 7 := fun h => by
          rw [HCE2.out, if_neg]
          rw [List.all_eq_true]
          intro hh
          have := hh _ (List.mem_of_getElem? hyk)
          rw [h] at this
          cases this
        have Hpre := Lib.hid hpre
        have Hyk := Lib.hid hyk
        have Hbad := Lib.hid hbad
        have j1 : (j : Int) < (n : Int) := by omega
        have j2 : (n : Int) ≤ 9223372036854775807 := by omega
        have cI := contains_str A4 n4 c4 f.types nme (wr.alloc (.cells #[.int .u8 kd, .int .i64 md, .string nme, .int .i64 ks, .bool lv', .int .u64 ln, .bool pv, .int .u64 pn, .bool ev', .int .u64 en] 68)) (sl_strs.1 ((H4'.out.below rStr_keeps (hbb.trans (hb2.mono hbb.size))).below rStr_keeps hbn))
        have CI := Lib.hid cI
        clear cI hcs hok hpre hyk hbad
        by_cases z2 : kd = 2
        · subst z2
          by_cases z3 : (n5 : Int) < md
          · have hno : namedOk f ⟨2, md, nme, ks, ⟨lv', ln⟩, ⟨pv, pn⟩, ⟨ev', en⟩⟩ = false := by simp [namedOk, hl5, z3]
            have hv := Hbad.out hno
            have Hv := Lib.hid hv
            clear hv hno
            go_wp2_with fail
            all_goals
              try rw [Exit.noGoto_ret]
              go_ret
              exact ⟨ret_int (by simp [Hck.out, Hv.out]), hbw0.trans ((hbb.trans (hb3.mono hbb.size)).mono hbw0.size)⟩
          · have y3 : md ≤ (n5 : Int) := by omega
            by_cases z4 : md = 0
            · subst z4
              obtain ⟨tb, htb⟩ : ∃ b, inB f.types nme = b := ⟨_, rfl⟩
              have hn : namedOk f ⟨2, 0, nme, ks, ⟨lv', ln⟩, ⟨pv, pn⟩, ⟨ev', en⟩⟩ = tb := by
                rw [← htb]
                simp [namedOk, hl5]
              have CI2 := CI.out
              rw [htb] at CI2
              have CI3 := Lib.hid CI2
              clear CI2 htb
              go_wp2_with fail
              refine CI3.out.mono ?_
              rintro r wc ⟨rfl, bc⟩
              have hb4 := hb3.trans (bc.mono hb3.size)
              cases tb
              · have hv := Hbad.out hn
                have Hv := Lib.hid hv
                clear hv hn
                go_wp2_with fail
                all_goals
                  try rw [Exit.noGoto_ret]
                  go_ret
                  exact ⟨ret_int (by simp [Hck.out, Hv.out]), hbw0.trans ((hbb.trans (hb4.mono hbb.size)).mono hbw0.size)⟩
              · have hyes := hn
                have hok2 : ∀ (i : Nat) (y : Node), body[i]? = some y → i < j + 1 → namedOk f y = true := fun i y hy hi => by
                  by_cases h : i < j
                  · exact Hpre.out i y hy h
                  · obtain rfl : i = j := by omega
                    rw [Hyk.out] at hy
                    cases hy
                    exact hyes
                have Hok2 := Lib.hid hok2
                clear hok2 hyes
                go_wp2_with fail
                all_goals exact ⟨⟨j + 1, rfl, by go_num, by omega, hb4, Hok2.out⟩, by simp [intOf]; omega⟩
            · have z5 : (md == 0) = false := by rw [beq_eq_false_iff_ne]; exact z4
              have hyes : namedOk f ⟨2, md, nme, ks, ⟨lv', ln⟩, ⟨pv, pn⟩, ⟨ev', en⟩⟩ = true := by simp [namedOk, hl5, z4]; omega
              have hok2 : ∀ (i : Nat) (y : Node), body[i]? = some y → i < j + 1 → namedOk f y = true := fun i y hy hi => by
                by_cases h : i < j
                · exact Hpre.out i y hy h
                · obtain rfl : i = j := by omega
                  rw [Hyk.out] at hy
                  cases hy
                  exact hyes
              have Hok2 := Lib.hid hok2
              clear hok2 hyes
              go_wp2_with fail
              all_goals exact ⟨⟨j + 1, rfl, by go_num, by omega, hb3, Hok2.out⟩, by simp [intOf]; omega⟩
        · have z5 : ((kd : Int) == 2) = false := by rw [beq_eq_false_iff_ne]; omega
          have hyes : namedOk f ⟨kd, md, nme, ks, ⟨lv', ln⟩, ⟨pv, pn⟩, ⟨ev', en⟩⟩ = true := by simp [namedOk, z2]
          have hok2 : ∀ (i : Nat) (y : Node), body[i]? = some y → i < j + 1 → namedOk f y = true := fun i y hy hi => by
            by_cases h : i < j
            · exact Hpre.out i y hy h
            · obtain rfl : i = j := by omega
              rw [Hyk.out] at hy
              cases hy
              exact hyes
          have Hok2 := Lib.hid hok2
          clear hok2 hyes
          go_wp2_with fail
          all_goals exact ⟨⟨j + 1, rfl, by go_num, by omega, hb3, Hok2.out⟩, by simp [intOf]; omega⟩
end Go.Proofs.YtcgnbpjbpbabaaaGreatDoor
end

section
set_option linter.unusedVariables false
set_option linter.unusedSimpArgs false
set_option maxRecDepth 100000
set_option maxHeartbeats 2000000
namespace Go.Proofs.YtcgnbpjbpbabaaaGreatDoor
open Go.RowKit
theorem writer_lies : liesAt Tryz.prog Tryz.prog.depth 53 (9 / Tryz.prog.cellsOf 53) 0 51 1 = true := by kernel_rfl
theorem builder_info : (Tryz.prog.info? 51).map (fun i => (i.zero, i.size, i.bytes)) = some (some (.agg #[.pointer none, .slice none 0 0]), 2, 32) := by kernel_rfl
/-- a writer's block: its builder's address and buffer, its face -/
def wCells (p v : Value) (f : List Value) : Array Value := (p :: v :: f).toArray
theorem copyCheck_used (b : Nat) (w : World) (h0 : w.cell? ⟨b, 0, none⟩ = some (.pointer (some ⟨b, 0, none⟩))) :
    Calls Tryz.prog 79 #[.pointer (some ⟨b, 0, none⟩)] w fun e w' => e = .returned (.tuple #[]) ∧ w' = w := by
  obtain ⟨j, hj, hz0, hz1, hz2⟩ := info_parts builder_info
  go_enter Tryz.func79, Tryz.ntmps79
  go_wp2
  rw [Lib.run_neq_ptr_same w _ Tryz.underlying48 hj]
  go_wp2
  go_end0
  exact ⟨rfl, rfl⟩
theorem copyCheck_fresh (b : Nat) (w : World) (v : Value) (f : List Value) (hf : f.length = 7) (hB : Blk w b 53 (wCells (.pointer none) v f)) :
    Calls Tryz.prog 79 #[.pointer (some ⟨b, 0, none⟩)] w fun e w' => e = .returned (.tuple #[]) ∧ w' = w.setCell ⟨b, 0, none⟩ (.pointer (some ⟨b, 0, none⟩)) := by
  obtain ⟨j, hj, hz0, hz1, hz2⟩ := info_parts builder_info
  have h0 : w.cell? ⟨b, 0, none⟩ = some (.pointer none) := by rw [hB.cell]; rfl
  have hfz := hB.frozen 0
  have hsh : w.shape? b = some (53, 9) := by
    have h : w.heap[b]? = some (.cells (wCells (.pointer none) v f) 53 (0, 0)) := hB
    simp [World.shape?, h, wCells, hf]
  go_enter Tryz.func79, Tryz.ntmps79
  go_wp2
  rw [Lib.run_to_unsafe w ⟨b, 0, none⟩ Tryz.underlying48 Tryz.underlying179 hj (by rw [hz1]; decide) hsh (by show 0 < 9; omega)]
  simp only [Result.andThen]
  rw [Oper.upon_value]
  go_wp2
  rw [run_callFunc_extern Tryz.func97 (by kernel_rfl) (by kernel_rfl) (by kernel_rfl) (e := Extern.AbiNoEscape.same) (by kernel_rfl)]
  rw [Lib.run_noEscape]
  simp only [Result.andThen]
  rw [Oper.upon_value]
  go_wp2
  rw [Lib.run_from_unsafe w ⟨b, 0, none⟩ Tryz.underlying179 Tryz.underlying48 hj hsh writer_lies]
  simp only [Result.andThen]
  rw [Oper.upon_value]
  go_wp2
  go_end0
  exact ⟨rfl, rfl⟩

/-- the types of blocks that a writer's work turns -/
def TW (t : TypeId) : Prop := t = 53 ∨ t = 5
/-- a writer at b (from B on): its face's cells, and the bytes that it holds -/
def WAt (w : World) (B b : Nat) (f : List Value) (bs : List Value) : Prop :=
  B ≤ b ∧ f.length = 7 ∧ ∃ p v, (p = .pointer none ∨ p = .pointer (some ⟨b, 0, none⟩)) ∧ Blk w b 53 (wCells p v f) ∧ w.ownsRow B 5 1 v bs.length bs
theorem byte_info : (Tryz.prog.info? 5).map (fun i => (i.zero, i.size, i.bytes)) = some (some (.int .u8 0), 1, 1) := by kernel_rfl
theorem wown_keep {w w' : World} {B n : Nat} {v : Value} {bs : List Value} (h : w.ownsRow B 5 1 v n bs) (hk : ∀ g cs, Blk w g 5 cs → Blk w' g 5 cs) : w'.ownsRow B 5 1 v n bs := by
  refine ⟨h.1, ?_⟩
  rcases h.2 with h | ⟨g, cap, cur, e, hb, hg, h⟩
  · exact .inl h
  · exact .inr ⟨g, cap, cur, e, hb, hk g cur hg, h⟩
theorem wown_ne {w : World} {B n b : Nat} {v : Value} {bs : List Value} {t : TypeId} {cs : Array Value} (h : w.ownsRow B 5 1 v n bs) (hb : Blk w b t cs) (ht : t ≠ 5) : v.ownBlock ≠ some b := by
  intro e
  rcases h.2 with ⟨rfl, _⟩ | ⟨g, cap, cur, rfl, _, hg, _⟩
  · cases e
  · have e' : g = b := by simpa [Value.ownBlock] using e
    subst e'
    have h1 : Obj.cells cs t (0, 0) = Obj.cells cur 5 (0, 0) := Option.some.inj (hb.symm.trans hg)
    injection h1 with _ e2
    exact ht e2
theorem copyCheck_any (w : World) (B b : Nat) (f bs : List Value) (h : WAt w B b f bs) :
    Calls Tryz.prog 79 #[.pointer (some ⟨b, 0, none⟩)] w fun e w' => e = .returned (.tuple #[]) ∧ (∃ v, Blk w' b 53 (wCells (.pointer (some ⟨b, 0, none⟩)) v f) ∧ w'.ownsRow B 5 1 v bs.length bs) ∧ TChg TW B w w' := by
  obtain ⟨hB, hf, p, v, hp, hb, hown⟩ := h
  rcases hp with rfl | rfl
  · refine (copyCheck_fresh b w v f hf hb).mono ?_
    rintro e w' ⟨rfl, rfl⟩
    refine ⟨rfl, ⟨v, ?_, ?_⟩, TChg.set_ hb (Or.inl rfl) hB _⟩
    · have := hb.set_ 0 (.pointer (some ⟨b, 0, none⟩))
      simpa [wCells] using this
    · exact wown_keep hown (fun g cs hg => hg.far (p := ⟨b, 0, none⟩) (by intro e; subst e; exact hb.ne_ hg (by intro h; cases h) rfl) _)
  · refine (copyCheck_used b w (by rw [hb.cell]; rfl)).mono ?_
    rintro e w' ⟨rfl, e1⟩
    obtain rfl := e1.symm
    exact ⟨rfl, ⟨v, hb, hown⟩, TChg.refl⟩
theorem writeString_any (w : World) (B b : Nat) (f bs : List Value) (s : ByteArray) (h : WAt w B b f bs) (hlen : bs.length + s.size ≤ 140737488355328) (hBw : B ≤ w.heap.size) :
    Calls Tryz.prog 61 #[.pointer (some ⟨b, 0, none⟩), .string s] w fun e w' => e = .returned (.tuple #[.int .i64 s.size, .nilIface]) ∧ WAt w' B b f (bs ++ Lib.strCells s) ∧ TChg TW B w w' := by
  obtain ⟨i0, hi, hz0, hz1, hz2⟩ := info_parts byte_info
  have hB := h.1
  have hf := h.2.1
  have cC := copyCheck_any w B b f bs h
  have CC := Lib.hid cC
  clear cC h
  go_enter Tryz.func61, Tryz.ntmps61
  go_wp2_with fail
  refine CC.out.mono ?_
  rintro e w1 ⟨rfl, ⟨v, hbk, hown⟩, ht1⟩
  have c1 : w1.cell? ⟨b, 1, none⟩ = some v := by rw [hbk.cell]; rfl
  have hne := wown_ne hown hbk (by intro h; cases h)
  have hs1 := ht1.size
  go_wp2_with (at_builtin; refine Lib.wpList_append_own_string _ rfl _ _ 49 9 rfl B 5 i0 Tryz.underlying49 Tryz.underlying9 hi hz0 hz1 hz2 _ _ _ rfl hown s rfl ?c3 ?c4 ?c5 ?_)
  case c3 => unfold maxLen; omega
  case c4 => omega
  case c5 => omega
  intro v' w2 hown' hgrow _
  have hb2 : Blk w2 b 53 (wCells (.pointer (some ⟨b, 0, none⟩)) v f) := hbk.grown hgrow (fun e => hne e.symm)
  have d1 : w2.cell? ⟨b, 1, none⟩ = some v := by rw [hb2.cell]; rfl
  have f1 := hb2.frozen 1
  obtain ⟨ao, n', cap, rfl⟩ : ∃ ao n' cap, v' = .slice ao n' cap := by
    rcases hown'.2 with ⟨hv, _⟩ | ⟨g, cap, cur, hv, _⟩
    · exact ⟨_, _, _, hv⟩
    · exact ⟨_, _, _, hv⟩
  have ht2 : TChg TW B w1 w2 := by
    refine Chg.of_grown hgrow (fun g e => ?_)
    rcases hown.2 with ⟨rfl, _⟩ | ⟨g', cap', cur, rfl, h5, h6, _⟩
    · simp [Value.ownBlock] at e
    · have e' : g' = g := by simpa [Value.ownBlock] using e
      subst e'
      exact ⟨h5, _, _, .inr rfl, h6⟩
  have ht3 : TChg TW B w2 (w2.setCell ⟨b, 1, none⟩ (.slice ao n' cap)) := TChg.set_ hb2 (Or.inl rfl) hB _
  have hb3 := hb2.set_ 1 (.slice ao n' cap)
  have hfin : WAt (w2.setCell ⟨b, 1, none⟩ (.slice ao n' cap)) B b f (bs ++ Lib.strCells s) := by
    refine ⟨hB, hf, _, .slice ao n' cap, .inr rfl, by simpa [wCells] using hb3, ?_⟩
    rw [List.length_append, Lib.strCells_length]
    exact wown_keep hown' (fun g cs hg => hg.far (p := ⟨b, 1, none⟩) (by intro e; subst e; exact hb2.ne_ hg (by intro h; cases h) rfl) _)
  clear hb3
  go_wp2_with fail
  go_ret2
  exact ⟨rfl, hfin, ht1.trans (ht2.trans ht3)⟩
end Go.Proofs.YtcgnbpjbpbabaaaGreatDoor
end

section
set_option linter.unusedVariables false
set_option linter.unusedSimpArgs false
set_option maxRecDepth 100000
set_option maxHeartbeats 2000000
namespace Go.Proofs.YtcgnbpjbpbabaaaGreatDoor
open Go.RowKit
/-- the bytes of a row of strings, one behind another, as cells -/
def catV (l : List ByteArray) : List Value := l.flatMap Lib.strCells
theorem catV_snoc (l : List ByteArray) (s : ByteArray) : catV (l ++ [s]) = catV l ++ Lib.strCells s := by simp [catV]
theorem catV_take_le (l : List ByteArray) (k : Nat) : (catV (l.take k)).length ≤ (catV l).length := by
  have h : catV l = catV (l.take k) ++ catV (l.drop k) := by rw [catV, catV, catV, ← List.flatMap_append, List.take_append_drop]
  rw [h, List.length_append]
  omega
theorem puts_any (w : World) (B b : Nat) (f bs : List Value) (A : Option Addr) (n c : Nat) (l : List ByteArray) (h : WAt w B b f bs) (hS : ∀ W, TChg TW B w W → Strs W A n l) (hlen : bs.length + (catV l).length ≤ 140737488355328) (hBw : B ≤ w.heap.size) :
    Calls Tryz.prog 32 #[.pointer (some ⟨b, 0, none⟩), .slice A n c] w fun e w' => e = .returned (.tuple #[]) ∧ WAt w' B b f (bs ++ catV l) ∧ TChg TW B w w' := by
  have hl := (hS w TChg.refl).1
  have hn := (hS w TChg.refl).2.1
  have HS := Lib.hid hS
  clear hS
  go_enter Tryz.func32, Tryz.ntmps32
  go_wp2_with fail
  go_loopw [8] (fun iv wr => ∃ k : Nat, iv = .int .i64 k ∧ k ≤ n ∧ WAt wr B b f (bs ++ catV (l.take k)) ∧ TChg TW B w wr) (fun iv _ => n - (intOf iv).toNat)
  case atStart => exact ⟨0, rfl, Nat.zero_le _, by simpa [catV] using h, TChg.refl⟩
  case round =>
    obtain ⟨k, rfl, hk, hW, hT⟩ := hrel
    by_cases hlt : k < n
    · obtain ⟨b0, o0, s, cs, rfl, hsk, ⟨rfl, hsz⟩, _, hcs⟩ := (sl_strs.2 (HS.out wr hT)).at_ hlt (by omega)
      have c0 := hcs 0 _ rfl
      simp only [Nat.mul_one, Nat.add_zero] at c0
      have i1 : (k : Int) < (n : Int) := by omega
      have i2 : (n : Int) ≤ 9223372036854775807 := by omega
      have htk : l.take (k + 1) = l.take k ++ [s] := by rw [List.take_add_one, hsk]; rfl
      have hle := catV_take_le l (k + 1)
      rw [htk, catV_snoc, List.length_append, Lib.strCells_length] at hle
      have cW := writeString_any wr B b f (bs ++ catV (l.take k)) s hW (by rw [List.length_append]; omega) (Nat.le_trans hBw hT.size)
      have CW := Lib.hid cW
      have Htk := Lib.hid htk
      clear cW hW htk hcs hsk
      go_wp2_with fail
      refine CW.out.mono ?_
      rintro e w1 ⟨rfl, hW1, ht1⟩
      go_wp2_with fail
      go_roundw
      case rel => exact ⟨k + 1, by simp, by omega, by rw [Htk.out, catV_snoc, ← List.append_assoc]; exact hW1, hT.trans ht1⟩
      case measure => simp [intOf]; omega
    · obtain rfl : k = n := by omega
      rw [List.take_of_length_le (by omega)] at hW
      go_wp2_with fail
      go_end0
      exact ⟨rfl, hW, hT⟩
end Go.Proofs.YtcgnbpjbpbabaaaGreatDoor
end
