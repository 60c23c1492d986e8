/- prints: node, of a reference. prints: node, of a function. prints: node, of a tuple. -/
import Derived.Test.YtcgnbpjbpbabaaaGreatDoorMg20
import Derived.ScopeJumps
import Derived.Deep.RegionHeld3
section
set_option linter.unusedVariables false
set_option linter.unusedSimpArgs false
set_option maxRecDepth 100000
set_option maxHeartbeats 2000000
namespace Go.Proofs.YtcgnbpjbpbabaaaGreatDoor
open Go.RowKit
/-- a scope in which the run may jump forward, once -/
theorem wp_scope_hop {P : Program} {Q : Exit → Act → World → Prop} {a : Act} {w : World} {c rest : Code} (l : Nat) (hf : findLabel c l = some rest)
    (first : c.wp P (Exit.jump l (fun a w => rest.wp P (Exit.noGoto Q) a w) Q) a w) : (Code.scope c).wp P Q a w :=
  wp_scope_jumps l _ (fun _ _ => 0) hf first (fun a w h => wp_mono h (fun e a w hq => by
    cases e
    case goto l' => exact False.elim hq
    all_goals exact hq))
theorem node_ref (C : NCtx) (hO : C.Ok) (F : Nat) (ih : C.NodeC F) (i m : Nat) (W : World) (bs : List Value) (h : C.Pre (F + 1) i m W bs 0) (x : Node) (hx : C.body[i]? = some x) (k4 : x.kind = 4) (hd : x.kids = 1) (hst : St C.body (i + 1) (m + x.kids.toNat)) :
    Calls Tryz.prog 37 #[.pointer (some ⟨C.b, 0, none⟩), .slice C.A C.n C.c, .int .i64 (i : Nat)] W (C.Post (nodeT C.P C.body (F + 1) i) W bs) := by
  obtain ⟨h1, h2, h3, h4, h5, h6⟩ := h
  have hxo := nodeOf_eq hx
  have hi : i < C.body.length := (List.getElem?_eq_some_iff.1 hx).1
  obtain ⟨_, _, hI, hS⟩ := h4 W TChg.refl
  have hnl := hS.1
  have hmem := List.mem_of_getElem? hx
  obtain ⟨g1, g2, g3, g4, g5⟩ := hO.good x hmem
  have hlab := hO.lab x hmem
  have hmod := hO.mod x hmem
  obtain ⟨b0, o0, x', cs, hA, hx', ⟨rfl, hok⟩, _, hcs⟩ := hS.at_ (k := i) (by omega) (by omega)
  cases hx.symm.trans hx'
  obtain ⟨xk, xm, xn, xd, ⟨lv, ln⟩, ⟨pv, pn⟩, ⟨ev, en⟩⟩ := x
  have c0 := hcs 0 _ rfl
  have c1 := hcs 1 _ rfl
  have c2 := hcs 2 _ rfl
  have c3 := hcs 3 _ rfl
  have c4 := hcs 4 _ rfl
  have c5 := hcs 5 _ rfl
  have c6 := hcs 6 _ rfl
  have c7 := hcs 7 _ rfl
  have c8 := hcs 8 _ rfl
  have c9 := hcs 9 _ rfl
  rw [Nat.add_zero] at c0
  have hn128 := hO.len
  have i1 : (i : Int) < (C.n : Int) := by omega
  have i2 : (C.n : Int) ≤ 9223372036854775807 := by omega
  have i3 : (i : Int) ≤ 128 := by omega
  dsimp only at k4 hd hst g1 g2 g3 g4 hlab hmod c0 c1 c2 c3 c4 c5 c6 c7 c8 c9
  subst k4
  subst hd
  obtain ⟨W0, hW0⟩ : ∃ W0, W.alloc (.cells #[.int .u8 4, .int .i64 xm, .string xn, .int .i64 1, .bool lv, .int .u64 ln, .bool pv, .int .u64 pn, .bool ev, .int .u64 en] 68) = W0 := ⟨_, rfl⟩
  have hb0 : Below W.heap.size W W0 := by rw [← hW0]; exact (Below.refl _ _).alloc (Nat.le_refl _) _
  have hN0 : Blk W0 W.heap.size 68 #[.int .u8 4, .int .i64 xm, .string xn, .int .i64 1, .bool lv, .int .u64 ln, .bool pv, .int .u64 pn, .bool ev, .int .u64 en] := by rw [← hW0]; exact Blk.new W _ _
  have hsz0 : W0.heap.size = W.heap.size + 1 := by rw [← hW0]; simp
  have hv : nodeT C.P C.body (F + 1) i = ([refB, atB ++ C.P.lab ⟨lv, ln⟩, spB] ++ (heldT (nodeT C.P C.body F) C.body (i + 1)).1, (heldT (nodeT C.P C.body F) C.body (i + 1)).2) := by
    simp only [nodeT, hxo]
    rfl
  rw [hv]
  have cL := lab_at C ⟨lv, ln⟩ hlab W0 bs (h3.below hb0) (h4.chg (TChg.below hb0))
  have CL := Lib.hid cL
  have n0 := hN0.cell 0
  have n4 := hN0.cell 4
  have n5 := hN0.cell 5
  simp at n0 n4 n5
  have hN : ∀ W1, Below W0.heap.size W0 W1 → W.heap.size < W1.heap.size ∧ W1.cell? ⟨W.heap.size, 0, none⟩ = some (.int .u8 4) := fun W1 hb => by
    have := hN0.below hb hN0.lt
    refine ⟨this.lt, ?_⟩
    rw [this.cell]
    rfl
  have HN := Lib.hid hN
  have hls : 1 + (C.P.lab ⟨lv, ln⟩).size ≤ 9223372036854775807 := by
    have : (atB ++ C.P.lab ⟨lv, ln⟩).size ≤ 5000 := g1
    rw [ByteArray.size_append] at this
    have h1 : atB.size = 1 := rfl
    omega
  have hbsz := h3.lt
  have hfix := fix_size
  have hg : ∀ s ∈ [refB, atB ++ C.P.lab ⟨lv, ln⟩, spB], s.size ≤ 5000 := by
    intro s hs; simp only [List.mem_cons, List.not_mem_nil, or_false] at hs
    rcases hs with rfl | rfl | rfl
    · exact hfix.1
    · exact g1
    · exact hfix.2.2.2.2.2.2.2.2.1
  have hgl := piece_size hg
  have cP : ∀ W1, Below W.heap.size W W1 → _ := fun W1 hb =>
    puts_5000 W1 C.B C.b C.f bs [refB, atB ++ C.P.lab ⟨lv, ln⟩, spB] 3 rfl (by omega) hg (h3.below hb) (by omega) (Nat.le_trans h6 hb.size)
  have CP := Lib.hid cP
  have cH : ∀ W2, TChg TW C.B W W2 → WAt W2 C.B C.b C.f (bs ++ catV [refB, atB ++ C.P.lab ⟨lv, ln⟩, spB]) → Calls Tryz.prog 65 #[.pointer (some ⟨C.b, 0, none⟩), .slice C.A C.n C.c, .int .i64 ((i : Int) + 1)] W2 (C.Post (heldT (nodeT C.P C.body F) C.body (i + 1)) W2 (bs ++ catV [refB, atB ++ C.P.lab ⟨lv, ln⟩, spB])) := fun W2 ht hw =>
    held_of C hO F ih (i + 1) m W2 _ ⟨by omega, hst, hw, h4.chg ht, by rw [List.length_append]; simp only [List.length_cons, List.length_nil] at hgl; omega, Nat.le_trans h6 ht.size⟩
  rw [hA] at cH
  have CH := Lib.hid cH
  have HB0 := Lib.hid hb0
  clear cL hN hN0 hb0 h1 h2 h3 h4 h5 h6 hI hS hcs hok hx hx' hv hxo hmem g1 g2 g3 g4 g5 hlab cP hO hn128 hst hgl hg hfix cH ih hmod
  rw [hA]
  generalize C.P.lab ⟨lv, ln⟩ = lb at *
  generalize heldT (nodeT C.P C.body F) C.body (i + 1) = r at *
  obtain ⟨ps, en'⟩ := r
  dsimp only at *
  go_enter Tryz.func37, Tryz.ntmps37
  go_wp2_with fail
  go_step3
  go_wp2_with fail
  refine CL.out.mono ?_
  rintro r1 w1 ⟨rfl, hb1⟩
  obtain ⟨gl, q0⟩ := HN.out w1 hb1
  have hbw1 := HB0.out.trans (hb1.mono (by omega))
  have cQ := CP.out w1 hbw1
  have CQ := Lib.hid cQ
  clear cQ
  go_wp2_with fail
  refine CQ.out.mono ?_
  rintro r2 w2 ⟨rfl, hW2, hT2⟩
  have hT02 := (TChg.below hbw1).trans hT2
  go_wp2_with fail
  refine (CH.out w2 hT02 hW2).mono ?_
  rintro r3 w3 ⟨rfl, hW3, hT3⟩
  go_wp2_with fail
  rw [Exit.noGoto_ret]
  go_ret
  refine ⟨rfl, ?_, hT02.trans hT3⟩
  show WAt w3 C.B C.b C.f (bs ++ catV ([refB, atB ++ lb, spB] ++ ps))
  rw [catV_append, ← List.append_assoc]
  exact hW3
end Go.Proofs.YtcgnbpjbpbabaaaGreatDoor
end

section
set_option linter.unusedVariables false
set_option linter.unusedSimpArgs false
set_option maxRecDepth 100000
set_option maxHeartbeats 2000000
namespace Go.Proofs.YtcgnbpjbpbabaaaGreatDoor
open Go.RowKit
theorem node_fun (C : NCtx) (hO : C.Ok) (F : Nat) (ih : C.NodeC F) (i m : Nat) (W : World) (bs : List Value) (h : C.Pre (F + 1) i m W bs 0) (x : Node) (hx : C.body[i]? = some x) (k4 : x.kind = 5) (hd : x.kids = 2) (hst : St C.body (i + 1) (m + x.kids.toNat)) :
    Calls Tryz.prog 37 #[.pointer (some ⟨C.b, 0, none⟩), .slice C.A C.n C.c, .int .i64 (i : Nat)] W (C.Post (nodeT C.P C.body (F + 1) i) W bs) := by
  obtain ⟨h1, h2, h3, h4, h5, h6⟩ := h
  have hxo := nodeOf_eq hx
  have hi : i < C.body.length := (List.getElem?_eq_some_iff.1 hx).1
  obtain ⟨_, _, hI, hS⟩ := h4 W TChg.refl
  have hnl := hS.1
  have hmem := List.mem_of_getElem? hx
  obtain ⟨g1, g2, g3, g4, g5⟩ := hO.good x hmem
  have hlab := hO.lab x hmem
  have hfn := hO.fn x hmem k4
  obtain ⟨g6, g7⟩ := g5 k4
  have hmod := hO.mod x hmem
  obtain ⟨b0, o0, x', cs, hA, hx', ⟨rfl, hok⟩, _, hcs⟩ := hS.at_ (k := i) (by omega) (by omega)
  cases hx.symm.trans hx'
  have hu64 := hok.2.2.2.2.2.2
  obtain ⟨xk, xm, xn, xd, ⟨lv, ln⟩, ⟨pv, pn⟩, ⟨ev, en⟩⟩ := x
  have c0 := hcs 0 _ rfl
  have c1 := hcs 1 _ rfl
  have c2 := hcs 2 _ rfl
  have c3 := hcs 3 _ rfl
  have c4 := hcs 4 _ rfl
  have c5 := hcs 5 _ rfl
  have c6 := hcs 6 _ rfl
  have c7 := hcs 7 _ rfl
  have c8 := hcs 8 _ rfl
  have c9 := hcs 9 _ rfl
  rw [Nat.add_zero] at c0
  have hn128 := hO.len
  have i1 : (i : Int) < (C.n : Int) := by omega
  have i2 : (C.n : Int) ≤ 9223372036854775807 := by omega
  have i3 : (i : Int) ≤ 128 := by omega
  dsimp only at k4 hd hst hfn g6 g7 g1 g2 g3 g4 hlab hmod c0 c1 c2 c3 c4 c5 c6 c7 c8 c9
  subst k4
  subst hd
  obtain ⟨W0, hW0⟩ : ∃ W0, W.alloc (.cells #[.int .u8 5, .int .i64 xm, .string xn, .int .i64 2, .bool lv, .int .u64 ln, .bool pv, .int .u64 pn, .bool ev, .int .u64 en] 68) = W0 := ⟨_, rfl⟩
  have hb0 : Below W.heap.size W W0 := by rw [← hW0]; exact (Below.refl _ _).alloc (Nat.le_refl _) _
  have hN0 : Blk W0 W.heap.size 68 #[.int .u8 5, .int .i64 xm, .string xn, .int .i64 2, .bool lv, .int .u64 ln, .bool pv, .int .u64 pn, .bool ev, .int .u64 en] := by rw [← hW0]; exact Blk.new W _ _
  have hsz0 : W0.heap.size = W.heap.size + 1 := by rw [← hW0]; simp
  have hno := node_ok fix_size hO.good F
  have hfix := fix_size
  have hh := held_ok hfix hno (i + 1) (m + 1) (by omega) hst
  obtain ⟨a1, a2, a3, a4, a5⟩ := hh
  have hpl := piece_size a5
  have hv : nodeT C.P C.body (F + 1) i = ((heldT (nodeT C.P C.body F) C.body (i + 1)).1 ++ ([arrowB, C.P.lab ⟨lv, ln⟩, cspB, C.P.lab ⟨pv, pn⟩, cspB, C.P.eff ⟨ev, en⟩, endB] ++ (nodeT C.P C.body F (heldT (nodeT C.P C.body F) C.body (i + 1)).2).1), (nodeT C.P C.body F (heldT (nodeT C.P C.body F) C.body (i + 1)).2).2) := by
    simp only [nodeT, hxo]
    rfl
  rw [hv]
  have n0 := hN0.cell 0
  simp at n0
  have hN : ∀ W1, TChg TW C.B W0 W1 → W.heap.size < W1.heap.size ∧ W1.cell? ⟨W.heap.size, 4, none⟩ = some (.bool lv) ∧ W1.cell? ⟨W.heap.size, 5, none⟩ = some (.int .u64 ln) ∧ W1.cell? ⟨W.heap.size, 6, none⟩ = some (.bool pv) ∧ W1.cell? ⟨W.heap.size, 7, none⟩ = some (.int .u64 pn) ∧ W1.cell? ⟨W.heap.size, 8, none⟩ = some (.bool ev) ∧ W1.cell? ⟨W.heap.size, 9, none⟩ = some (.int .u64 en) := fun W1 ht => by
    have := ht.blk hN0 (by rintro (h | h) <;> cases h)
    refine ⟨this.lt, ?_, ?_, ?_, ?_, ?_, ?_⟩ <;> rw [this.cell] <;> rfl
  have HN := Lib.hid hN
  have cH : Calls Tryz.prog 65 #[.pointer (some ⟨C.b, 0, none⟩), .slice C.A C.n C.c, .int .i64 ((i : Int) + 1)] W0 (C.Post (heldT (nodeT C.P C.body F) C.body (i + 1)) W0 bs) :=
    held_of C hO F ih (i + 1) (m + 1) W0 _ ⟨by omega, hst, h3.below hb0, h4.chg (TChg.below hb0), by omega, Nat.le_trans h6 hb0.size⟩
  have cN : ∀ e W2, e = (heldT (nodeT C.P C.body F) C.body (i + 1)).2 → TChg TW C.B W W2 → WAt W2 C.B C.b C.f ((bs ++ catV (heldT (nodeT C.P C.body F) C.body (i + 1)).1) ++ catV [arrowB, C.P.lab ⟨lv, ln⟩, cspB, C.P.lab ⟨pv, pn⟩, cspB, C.P.eff ⟨ev, en⟩, endB]) → Calls Tryz.prog 37 #[.pointer (some ⟨C.b, 0, none⟩), .slice C.A C.n C.c, .int .i64 (e : Nat)] W2 (C.Post (nodeT C.P C.body F e) W2 ((bs ++ catV (heldT (nodeT C.P C.body F) C.body (i + 1)).1) ++ catV [arrowB, C.P.lab ⟨lv, ln⟩, cspB, C.P.lab ⟨pv, pn⟩, cspB, C.P.eff ⟨ev, en⟩, endB])) := fun e W2 he ht hw => by
    subst he
    have hgl := piece_size (ps := [arrowB, C.P.lab ⟨lv, ln⟩, cspB, C.P.lab ⟨pv, pn⟩, cspB, C.P.eff ⟨ev, en⟩, endB]) (by
      intro s hs; simp only [List.mem_cons, List.not_mem_nil, or_false] at hs
      rcases hs with rfl | rfl | rfl | rfl | rfl | rfl | rfl
      · exact hfix.2.2.2.2.1
      · exact g2
      · exact hfix.2.2.1
      · exact g6
      · exact hfix.2.2.1
      · exact g7
      · exact hfix.2.2.2.2.2.1)
    simp only [List.length_cons, List.length_nil] at hgl
    exact ih _ m W2 _ ⟨by omega, a3, hw, h4.chg ht, by rw [List.length_append, List.length_append]; omega, Nat.le_trans h6 ht.size⟩
  have cP : ∀ W1, TChg TW C.B W W1 → WAt W1 C.B C.b C.f (bs ++ catV (heldT (nodeT C.P C.body F) C.body (i + 1)).1) → _ := fun W1 ht hw =>
    puts_5000 W1 C.B C.b C.f (bs ++ catV (heldT (nodeT C.P C.body F) C.body (i + 1)).1) [arrowB, C.P.lab ⟨lv, ln⟩, cspB, C.P.lab ⟨pv, pn⟩, cspB, C.P.eff ⟨ev, en⟩, endB] 7 rfl (by omega) (by
      intro s hs; simp only [List.mem_cons, List.not_mem_nil, or_false] at hs
      rcases hs with rfl | rfl | rfl | rfl | rfl | rfl | rfl
      · exact hfix.2.2.2.2.1
      · exact g2
      · exact hfix.2.2.1
      · exact g6
      · exact hfix.2.2.1
      · exact g7
      · exact hfix.2.2.2.2.2.1) hw (by rw [List.length_append]; omega) (Nat.le_trans h6 ht.size)
  have cLl := fun W1 bs1 (ht : TChg TW C.B W W1) (hw : WAt W1 C.B C.b C.f bs1) => lab_at C ⟨lv, ln⟩ hlab W1 bs1 hw (h4.chg ht)
  have cLp := fun W1 bs1 (ht : TChg TW C.B W W1) (hw : WAt W1 C.B C.b C.f bs1) => lab_at C ⟨pv, pn⟩ hfn.1 W1 bs1 hw (h4.chg ht)
  have cLe := fun W1 bs1 (ht : TChg TW C.B W W1) (hw : WAt W1 C.B C.b C.f bs1) => eff_at C hO ⟨ev, en⟩ hfn.2 hu64 W1 bs1 hw (h4.chg ht)
  rw [hA] at cN cH
  have CP := Lib.hid cP
  have CH := Lib.hid cH
  have CN := Lib.hid cN
  have cLab : ∀ (tv : Bool) (tn : Nat) (s : ByteArray) W1 bs1, TChg TW C.B W W1 → WAt W1 C.B C.b C.f bs1 → (tv = lv ∧ tn = ln ∧ s = C.P.lab ⟨lv, ln⟩ ∨ tv = pv ∧ tn = pn ∧ s = C.P.lab ⟨pv, pn⟩) →
      Calls Tryz.prog 39 #[.pointer (some ⟨C.b, 0, none⟩), .agg #[.bool tv, .int .u64 (tn : Nat)]] W1 fun e w' => e = .returned (.string s) ∧ Below W1.heap.size W1 w' := by
    rintro tv tn s W1 bs1 ht hw (⟨rfl, rfl, rfl⟩ | ⟨rfl, rfl, rfl⟩)
    · exact cLl W1 bs1 ht hw
    · exact cLp W1 bs1 ht hw
  have CLab := Lib.hid cLab
  have CLe := Lib.hid cLe
  have HB0 := Lib.hid (TChg.below (T := TW) (B := C.B) hb0)
  have HA1 := Lib.hid a1
  clear hN hN0 hb0 h1 h2 h3 h4 h5 h6 hI hS hcs hok hx hx' hv hxo hmem g1 g2 g3 g4 g5 g6 g7 hlab hfn cP hO hst hfix cH cN ih hmod cLl cLp cLe cLab hno a1 a3 a4 a5 hpl
  rw [hA]
  generalize C.P.lab ⟨lv, ln⟩ = lb at *
  generalize C.P.lab ⟨pv, pn⟩ = lp at *
  generalize C.P.eff ⟨ev, en⟩ = le at *
  generalize heldT (nodeT C.P C.body F) C.body (i + 1) = r at *
  obtain ⟨ps, en'⟩ := r
  dsimp only at *
  go_enter Tryz.func37, Tryz.ntmps37
  go_wp2_with fail
  refine wp_scope_hop 0 rfl ?_
  go_wp2_with fail
  go_step3
  refine And.intro (rfl : 0 = 0) ?_
  go_wp2_with fail
  refine CH.out.mono ?_
  rintro r1 w1 ⟨rfl, hW1, hT1⟩
  have hTa := HB0.out.trans hT1
  have hd0 : TChg TW C.B W0 w1.drew := hT1.trans (Chg.drew _ w1)
  have hda : TChg TW C.B W w1.drew := hTa.trans (Chg.drew _ w1)
  have hWd : WAt w1.drew C.B C.b C.f (bs ++ catV ps) := hW1.below (Below.refl _ w1).drew
  obtain ⟨gl, q4, q5, q6, q7, q8, q9⟩ := HN.out w1.drew hd0
  go_wp2_with fail
  go_region_held3 (fun w' => w'.cell? ⟨W.heap.size, 4, none⟩ = some (.bool lv) ∧ w'.cell? ⟨W.heap.size, 5, none⟩ = some (.int .u64 ln) ∧ w'.cell? ⟨W.heap.size, 6, none⟩ = some (.bool pv) ∧ w'.cell? ⟨W.heap.size, 7, none⟩ = some (.int .u64 pn) ∧ w'.cell? ⟨W.heap.size, 8, none⟩ = some (.bool ev) ∧ w'.cell? ⟨W.heap.size, 9, none⟩ = some (.int .u64 en))
    (first | (refine ⟨?_, ?_, ?_, ?_, ?_, ?_⟩ <;> assumption) | go_keep)
    (first
    | (go_at_call 39
       refine (CLab.out _ _ _ _ _ (by assumption) (by assumption) (by first | exact Or.inl ⟨rfl, rfl, rfl⟩ | exact Or.inr ⟨rfl, rfl, rfl⟩)).mono ?_
       rintro rr ww ⟨rfl, hbb⟩
       have ht0 : TChg TW C.B W0 _ := TChg.trans (by assumption) (TChg.below (T := TW) (B := C.B) hbb)
       have hta : TChg TW C.B W _ := TChg.trans (by assumption) (TChg.below (T := TW) (B := C.B) hbb)
       have hwa : WAt _ C.B C.b C.f (bs ++ catV ps) := WAt.below (by assumption) hbb
       obtain ⟨gl, q4, q5, q6, q7, q8, q9⟩ := HN.out _ ht0)
    | (go_at_call 40
       refine (CLe.out _ _ (by assumption) (by assumption)).mono ?_
       rintro rr ww ⟨rfl, hbb⟩
       have ht0 : TChg TW C.B W0 _ := TChg.trans (by assumption) (TChg.below (T := TW) (B := C.B) hbb)
       have hta : TChg TW C.B W _ := TChg.trans (by assumption) (TChg.below (T := TW) (B := C.B) hbb)
       have hwa : WAt _ C.B C.b C.f (bs ++ catV ps) := WAt.below (by assumption) hbb
       obtain ⟨gl, q4, q5, q6, q7, q8, q9⟩ := HN.out _ ht0)
    | (go_at_call 32
       refine (CP.out _ (by assumption) (by assumption)).mono ?_
       rintro rr ww ⟨rfl, hwp, htp⟩
       have hta : TChg TW C.B W _ := TChg.trans (by assumption) htp
       have ht0 : TChg TW C.B W0 _ := TChg.trans (by assumption) htp
       obtain ⟨gl, q4, q5, q6, q7, q8, q9⟩ := HN.out _ ht0))
  all_goals
    go_wp2_with fail
    refine (CN.out _ _ rfl hta hwp).mono ?_
    rintro r3 w3 ⟨rfl, hW3, hT3⟩
    go_wp2_with fail
    rw [Exit.noGoto_ret]
    go_ret
    refine ⟨rfl, ?_, hta.trans hT3⟩
    show WAt w3 C.B C.b C.f (bs ++ catV (ps ++ ([arrowB, lb, cspB, lp, cspB, le, endB] ++ (nodeT C.P C.body F en').1)))
    rw [catV_append, catV_append, ← List.append_assoc, ← List.append_assoc]
    exact hW3
end Go.Proofs.YtcgnbpjbpbabaaaGreatDoor
end

section
set_option linter.unusedVariables false
set_option linter.unusedSimpArgs false
set_option maxRecDepth 100000
set_option maxHeartbeats 2000000
namespace Go.Proofs.YtcgnbpjbpbabaaaGreatDoor
open Go.RowKit
theorem node_tuple (C : NCtx) (hO : C.Ok) (F : Nat) (ih : C.NodeC F) (i m : Nat) (W : World) (bs : List Value) (h : C.Pre (F + 1) i m W bs 0) (x : Node) (hx : C.body[i]? = some x) (k4 : x.kind = 3) (hd0 : 0 ≤ x.kids) (h8 : x.kids ≤ 8) (hst : St C.body (i + 1) (m + x.kids.toNat)) :
    Calls Tryz.prog 37 #[.pointer (some ⟨C.b, 0, none⟩), .slice C.A C.n C.c, .int .i64 (i : Nat)] W (C.Post (nodeT C.P C.body (F + 1) i) W bs) := by
  obtain ⟨h1, h2, h3, h4, h5, h6⟩ := h
  have hxo := nodeOf_eq hx
  have hi : i < C.body.length := (List.getElem?_eq_some_iff.1 hx).1
  obtain ⟨_, _, hI, hS⟩ := h4 W TChg.refl
  have hnl := hS.1
  have hmem := List.mem_of_getElem? hx
  obtain ⟨g1, g2, g3, g4, g5⟩ := hO.good x hmem
  have hlab := hO.lab x hmem
  have hmod := hO.mod x hmem
  obtain ⟨b0, o0, x', cs, hA, hx', ⟨rfl, hok⟩, _, hcs⟩ := hS.at_ (k := i) (by omega) (by omega)
  cases hx.symm.trans hx'
  obtain ⟨xk, xm, xn, xd, ⟨lv, ln⟩, ⟨pv, pn⟩, ⟨ev, en⟩⟩ := x
  have c0 := hcs 0 _ rfl
  have c1 := hcs 1 _ rfl
  have c2 := hcs 2 _ rfl
  have c3 := hcs 3 _ rfl
  have c4 := hcs 4 _ rfl
  have c5 := hcs 5 _ rfl
  have c6 := hcs 6 _ rfl
  have c7 := hcs 7 _ rfl
  have c8 := hcs 8 _ rfl
  have c9 := hcs 9 _ rfl
  rw [Nat.add_zero] at c0
  have hn128 := hO.len
  have i1 : (i : Int) < (C.n : Int) := by omega
  have i2 : (C.n : Int) ≤ 9223372036854775807 := by omega
  have i3 : (i : Int) ≤ 128 := by omega
  dsimp only at k4 hd0 h8 hst g1 g2 g3 g4 hlab hmod c0 c1 c2 c3 c4 c5 c6 c7 c8 c9
  subst k4
  obtain ⟨K, rfl⟩ : ∃ K : Nat, xd = K := ⟨xd.toNat, by omega⟩
  rw [Int.toNat_natCast] at hst
  obtain ⟨W0, hW0⟩ : ∃ W0, W.alloc (.cells #[.int .u8 3, .int .i64 xm, .string xn, .int .i64 (K : Nat), .bool lv, .int .u64 ln, .bool pv, .int .u64 pn, .bool ev, .int .u64 en] 68) = W0 := ⟨_, rfl⟩
  have hb0 : Below W.heap.size W W0 := by rw [← hW0]; exact (Below.refl _ _).alloc (Nat.le_refl _) _
  have hN0 : Blk W0 W.heap.size 68 #[.int .u8 3, .int .i64 xm, .string xn, .int .i64 (K : Nat), .bool lv, .int .u64 ln, .bool pv, .int .u64 pn, .bool ev, .int .u64 en] := by rw [← hW0]; exact Blk.new W _ _
  have hsz0 : W0.heap.size = W.heap.size + 1 := by rw [← hW0]; simp
  have hno := node_ok fix_size hO.good F
  have hfix := fix_size
  have hK8 : K ≤ 8 := by omega
  have hkid : ∀ k, k ≤ K → i + 1 ≤ (kidsT (nodeT C.P C.body F) k (i + 1)).2 ∧ (kidsT (nodeT C.P C.body F) k (i + 1)).2 ≤ C.body.length ∧ St C.body (kidsT (nodeT C.P C.body F) k (i + 1)).2 (m + (K - k)) ∧ (catV (kidsT (nodeT C.P C.body F) k (i + 1)).1).length ≤ 60000 * ((kidsT (nodeT C.P C.body F) k (i + 1)).2 - (i + 1)) + 5000 * k := fun k hk => by
    obtain ⟨a1, a2, a3, a4, a5⟩ := kids_ok hfix hno k (i + 1) (m + (K - k)) (by omega) (by omega) (by rw [show m + (K - k) + k = m + K by omega]; exact hst)
    have := piece_size a5
    exact ⟨a1, a2, a3, by omega⟩
  have hv : nodeT C.P C.body (F + 1) i = (openB :: ((kidsT (nodeT C.P C.body F) K (i + 1)).1 ++ [closeB, C.P.lab ⟨lv, ln⟩]), (kidsT (nodeT C.P C.body F) K (i + 1)).2) := by
    simp only [nodeT, hxo]
    rfl
  rw [hv]
  have n0 := hN0.cell 0
  have n3 := hN0.cell 3
  simp at n0 n3
  have hN : ∀ W1, TChg TW C.B W0 W1 → W.heap.size < W1.heap.size ∧ W1.cell? ⟨W.heap.size, 3, none⟩ = some (.int .i64 K) ∧ W1.cell? ⟨W.heap.size, 4, none⟩ = some (.bool lv) ∧ W1.cell? ⟨W.heap.size, 5, none⟩ = some (.int .u64 ln) := fun W1 ht => by
    have := ht.blk hN0 (by rintro (h | h) <;> cases h)
    refine ⟨this.lt, ?_, ?_, ?_⟩ <;> rw [this.cell] <;> rfl
  have HN := Lib.hid hN
  have cO := puts_5000 W0 C.B C.b C.f bs [openB] 1 rfl (by omega) (by intro s hs; simp only [List.mem_cons, List.not_mem_nil, or_false] at hs; subst hs; exact hfix.2.1) (h3.below hb0) (by omega) (Nat.le_trans h6 hb0.size)
  have hol : (catV [openB]).length = 1 := rfl
  -- one kid
  have cN : ∀ k W2 (bs2 : List Value), k < K → TChg TW C.B W W2 → WAt W2 C.B C.b C.f bs2 → bs2.length ≤ bs.length + 1 + (catV (kidsT (nodeT C.P C.body F) k (i + 1)).1).length + 2 → Calls Tryz.prog 37 #[.pointer (some ⟨C.b, 0, none⟩), .slice C.A C.n C.c, .int .i64 ((kidsT (nodeT C.P C.body F) k (i + 1)).2 : Nat)] W2 (C.Post (nodeT C.P C.body F (kidsT (nodeT C.P C.body F) k (i + 1)).2) W2 bs2) := fun k W2 bs2 hk ht hw hl => by
    obtain ⟨a1, a2, a3, a4⟩ := hkid k (by omega)
    refine ih _ (m + (K - (k + 1))) W2 bs2 ⟨by omega, ?_, hw, h4.chg ht, by omega, Nat.le_trans h6 ht.size⟩
    rw [show m + (K - (k + 1)) + 1 = m + (K - k) by omega]
    exact a3
  have cC : ∀ k W1, k ≤ K → TChg TW C.B W W1 → WAt W1 C.B C.b C.f (bs ++ catV [openB] ++ catV (kidsT (nodeT C.P C.body F) k (i + 1)).1) → _ := fun k W1 hk ht hw =>
    puts_5000 W1 C.B C.b C.f (bs ++ catV [openB] ++ catV (kidsT (nodeT C.P C.body F) k (i + 1)).1) [cspB] 1 rfl (by omega) (by intro s hs; simp only [List.mem_cons, List.not_mem_nil, or_false] at hs; subst hs; exact hfix.2.2.1) hw (by obtain ⟨a1, a2, a3, a4⟩ := hkid k hk; rw [List.length_append, List.length_append]; omega) (Nat.le_trans h6 ht.size)
  have cE : ∀ W1, TChg TW C.B W W1 → WAt W1 C.B C.b C.f (bs ++ catV [openB] ++ catV (kidsT (nodeT C.P C.body F) K (i + 1)).1) → _ := fun W1 ht hw =>
    puts_5000 W1 C.B C.b C.f (bs ++ catV [openB] ++ catV (kidsT (nodeT C.P C.body F) K (i + 1)).1) [closeB, C.P.lab ⟨lv, ln⟩] 2 rfl (by omega) (by
      intro s hs; simp only [List.mem_cons, List.not_mem_nil, or_false] at hs
      rcases hs with rfl | rfl
      · exact hfix.2.2.2.1
      · exact g2) hw (by obtain ⟨a1, a2, a3, a4⟩ := hkid K (Nat.le_refl _); rw [List.length_append, List.length_append]; omega) (Nat.le_trans h6 ht.size)
  have cLl := fun W1 bs1 (ht : TChg TW C.B W W1) (hw : WAt W1 C.B C.b C.f bs1) => lab_at C ⟨lv, ln⟩ hlab W1 bs1 hw (h4.chg ht)
  have hk0 : kidsT (nodeT C.P C.body F) 0 (i + 1) = ([], i + 1) := rfl
  have hks : ∀ k, kidsT (nodeT C.P C.body F) (k + 1) (i + 1) = ((kidsT (nodeT C.P C.body F) k (i + 1)).1 ++ ((if 0 < k then [cspB] else []) ++ (nodeT C.P C.body F (kidsT (nodeT C.P C.body F) k (i + 1)).2).1), (nodeT C.P C.body F (kidsT (nodeT C.P C.body F) k (i + 1)).2).2) := fun k => rfl
  rw [hA] at cN
  rw [hsz0] at cO
  have CO := Lib.hid cO
  have CN := Lib.hid cN
  have CC := Lib.hid cC
  have CE := Lib.hid cE
  have CLl := Lib.hid cLl
  have HK0 := Lib.hid hk0
  have HKS := Lib.hid hks
  have HKid := Lib.hid hkid
  have HB0 := Lib.hid (TChg.below (T := TW) (B := C.B) hb0)
  clear hN hN0 hb0 h1 h2 h3 h4 h5 h6 hI hS hcs hok hx hx' hv hxo hmem g1 g2 g3 g4 g5 hlab hO hst hfix cO cN cC cE ih hmod cLl hno hk0 hks hkid hol h8
  rw [hA]
  generalize C.P.lab ⟨lv, ln⟩ = lb at *
  generalize nodeT C.P C.body F = nd at *
  have i7 : (K : Int) ≤ 8 := by omega
  go_enter Tryz.func37, Tryz.ntmps37
  go_wp2_with fail
  refine wp_scope_hop 1 rfl ?_
  go_wp2_with fail
  go_step3
  refine And.intro (rfl : 1 = 1) ?_
  go_wp2_with fail
  refine CO.out.mono ?_
  rintro r1 w1 ⟨rfl, hW1, hT1⟩
  have hTa := HB0.out.trans hT1
  obtain ⟨gl, q3, q4, q5⟩ := HN.out w1 hT1
  go_wp2_with fail
  go_loopw [8, 68] (fun xv iv wr => ∃ k : Nat, iv = .int .i64 k ∧ k ≤ K ∧ xv = .int .i64 ((kidsT nd k (i + 1)).2 : Nat) ∧ WAt wr C.B C.b C.f (bs ++ catV [openB] ++ catV (kidsT nd k (i + 1)).1) ∧ TChg TW C.B W wr ∧ TChg TW C.B W0 wr) (fun _ iv _ => K - (intOf iv).toNat)
  case atStart => exact ⟨0, rfl, Nat.zero_le _, by rw [HK0.out]; rfl, by rw [HK0.out]; simpa [catV] using hW1, hTa, hT1⟩
  case round =>
    obtain ⟨k, rfl, hk, rfl, hW2, hT2, hT20⟩ := hrel
    by_cases hlt : k < K
    · have i8 : (k : Int) < (K : Int) := by omega
      have hks := HKS.out k
      have hl1 : (catV [openB]).length = 1 := rfl
      have hl2 : (catV [cspB]).length = 2 := rfl
      cases k with
      | zero =>
        have CM := Lib.hid (CN.out 0 wr _ hlt hT2 hW2 (by rw [List.length_append, List.length_append]; omega))
        have HS := Lib.hid hks
        clear hks hW2 hl1 hl2
        go_wp2_with fail
        refine CM.out.mono ?_
        rintro r3 w3 ⟨rfl, hW3, hT3⟩
        go_wp2_with fail
        go_roundw
        case rel =>
          refine ⟨1, by simp, by omega, by rw [HS.out], ?_, hT2.trans hT3, hT20.trans hT3⟩
          rw [HS.out, HK0.out] at *
          simpa [catV] using hW3
        case measure => simp [intOf]; omega
      | succ k =>
        have CQ := Lib.hid (CC.out (k + 1) wr hk hT2 hW2)
        have CM := Lib.hid (fun w3 (ht : TChg TW C.B wr w3) hw => CN.out (k + 1) w3 (bs ++ catV [openB] ++ catV (kidsT nd (k + 1) (i + 1)).1 ++ catV [cspB]) hlt (hT2.trans ht) hw (by rw [List.length_append, List.length_append, List.length_append]; omega))
        have HS := Lib.hid hks
        clear hks hW2 hl1 hl2
        go_wp2_with fail
        refine CQ.out.mono ?_
        rintro r2 w2 ⟨rfl, hW3, hT3⟩
        go_wp2_with fail
        refine (CM.out w2 hT3 hW3).mono ?_
        rintro r3 w3 ⟨rfl, hW4, hT4⟩
        go_wp2_with fail
        go_roundw
        case rel =>
          refine ⟨k + 1 + 1, by simp, by omega, by rw [HS.out], ?_, hT2.trans (hT3.trans hT4), hT20.trans (hT3.trans hT4)⟩
          rw [HS.out, if_pos (by omega)]
          show WAt w3 C.B C.b C.f (bs ++ catV [openB] ++ catV ((kidsT nd (k + 1) (i + 1)).1 ++ ([cspB] ++ (nd (kidsT nd (k + 1) (i + 1)).2).1)))
          rw [catV_append, catV_append, ← List.append_assoc, ← List.append_assoc]
          exact hW4
        case measure => simp [intOf]; omega
    · obtain rfl : k = K := by omega
      obtain ⟨gl, q3, q4, q5⟩ := HN.out wr hT20
      have CL := Lib.hid (CLl.out wr _ hT2 hW2)
      have HW2 := Lib.hid hW2
      clear hW2
      go_wp2_with fail
      refine CL.out.mono ?_
      rintro r3 w3 ⟨rfl, hb3⟩
      have hT3 := hT2.trans (TChg.below hb3)
      have CQ := Lib.hid (CE.out w3 hT3 (HW2.out.below hb3))
      go_wp2_with fail
      refine CQ.out.mono ?_
      rintro r4 w4 ⟨rfl, hW4, hT4⟩
      go_wp2_with fail
      rw [Exit.noGoto_ret]
      go_ret
      refine ⟨rfl, ?_, hT3.trans hT4⟩
      show WAt w4 C.B C.b C.f (bs ++ catV ([openB] ++ ((kidsT nd k (i + 1)).1 ++ [closeB, lb])))
      rw [catV_append, catV_append, ← List.append_assoc, ← List.append_assoc]
      exact hW4
end Go.Proofs.YtcgnbpjbpbabaaaGreatDoor
end
