/- spots.all: the walk. spots.told: the spots that a body holds, with their terms. spots.Of. -/
import Derived.Test.YtcgnbpjbpbabaaaGreatDoorMg13
import Derived.RangeFuncBox
import Derived.RangeFuncNested
import Derived.RangeFuncCalls
import Derived.RangeFuncLeaves
import Derived.Sort.CutIn
import Derived.Stop.RegionWithIn
section
set_option linter.unusedVariables false
set_option linter.unusedSimpArgs false
set_option maxRecDepth 100000
set_option maxHeartbeats 2000000
namespace Go.Proofs.YtcgnbpjbpbabaaaGreatDoor
open Go.RowKit Go.Shelf
attribute [local go_sem] Oper.semAt_some
attribute [-go_sem] Builtin.append_

theorem sides_any (v : Value) (w : World) (hv : v.oneCell' = true) : Calls Tryz.prog 93 #[v] w fun e w' => e = .returned (.func (.func 107) #[] #[.pointer (some ⟨w.heap.size, 0, none⟩)]) ∧ w' = w.alloc (.cells #[v] 40) := by
  cases v <;> cases hv
  all_goals
    go_enter Tryz.func93, Tryz.ntmps93
    go_wp2_with fail
    go_ret
    exact ⟨rfl, rfl⟩

theorem part_at (i p s : Nat) (pv : Int) (hp : (p : Int) = pv) (w : World) :
    Calls Tryz.prog 94 #[.int .i64 (i : Nat), .int .u8 pv, .int .u8 (s : Nat)] w fun e w' => ∃ b1 b2,
      e = .returned (.agg #[.int .i64 (i : Nat), .int .u8 pv, .int .u8 (s : Nat), .bool false, .int .u64 0, .func (.func 109) #[] #[.pointer (some ⟨b1, 0, none⟩), .pointer (some ⟨b2, 0, none⟩)]]) ∧
      Blk w' b1 3 #[.int .i64 (i : Nat)] ∧ Blk w' b2 118 #[.int .u8 (p : Nat)] ∧ Below w.heap.size w w' := by
  subst hp
  refine (part_any i p s w).mono ?_
  rintro e w' ⟨rfl, h1, h2, h3⟩
  exact ⟨_, _, rfl, h1, h2, h3⟩

theorem all_push_l {w X W2 : World} {n₀ m c b1 b2 : Nat} {A : Option Addr} {ql qe : List (Nat × Nat × Nat)} {i p : Nat} {v : Value} (h : AllI w n₀ A m c ql qe X) (hv : X.cell? ⟨n₀ + 1, 0, none⟩ = some v) (hb : Below X.heap.size X W2) (k1 : Blk W2 b1 3 #[.int .i64 (i : Nat)]) (k2 : Blk W2 b2 118 #[.int .u8 (p : Nat)]) (hq : ql.length ≤ 1000) (s : Nat) (pv : Int) (hp : (p : Int) = pv) :
    ∃ v' Av nv cv Y, v' = .slice Av nv cv ∧ W2.cell? ⟨n₀ + 1, 0, none⟩ = some v ∧ n₀ + 1 < W2.heap.size ∧ (Builtin.append_ #[147, 147] 147 #[v, .slice (some ⟨W2.heap.size, 0, none⟩) 1 1]).run Tryz.prog (W2.alloc (.cells #[.int .i64 (i : Nat), .int .u8 pv, .int .u8 (s : Nat), .bool false, .int .u64 0, .func (.func 109) #[] #[.pointer (some ⟨b1, 0, none⟩), .pointer (some ⟨b2, 0, none⟩)]] 174)) = .ok v' Y ∧
      Y.cell? ⟨n₀ + 1, 0, none⟩ = some v ∧ Y.frozen? ⟨n₀ + 1, 0, none⟩ = false ∧ AllI w n₀ A m c (ql ++ [(i, p, s)]) qe (Y.setCell ⟨n₀ + 1, 0, none⟩ v') ∧ TChg TAll n₀ X (Y.setCell ⟨n₀ + 1, 0, none⟩ v') := by
  subst hp
  have hsz := h.2.1
  have hI2 : AllI w n₀ A m c ql qe W2 := AllI.keep (X := X) (h.1.trans (hb.mono (by omega))) hb.size (fun g t cs _ h => h.below hb h.lt) h
  obtain ⟨v0, v', Av, nv, cv, Y, ev, hv0, hr, hcY, hfY, hI3, ht3⟩ := hI2.push_l (q := (i, p, s)) k1 k2 hq
  have e := (hb.cell (p := ⟨n₀ + 1, 0, none⟩) (by show n₀ + 1 < _; omega)).trans hv
  cases e.symm.trans hv0
  have hX : TChg TAll n₀ X W2 := TChg.below hb
  exact ⟨v', Av, nv, cv, Y, ev, e, by have := hI2.2.1; omega, hr, hcY, hfY, hI3, hX.trans ht3⟩
theorem all_push_e {w X W2 : World} {n₀ m c b1 b2 : Nat} {A : Option Addr} {ql qe : List (Nat × Nat × Nat)} {i p : Nat} {v : Value} (h : AllI w n₀ A m c ql qe X) (hv : X.cell? ⟨n₀ + 2, 0, none⟩ = some v) (hb : Below X.heap.size X W2) (k1 : Blk W2 b1 3 #[.int .i64 (i : Nat)]) (k2 : Blk W2 b2 118 #[.int .u8 (p : Nat)]) (hq : qe.length ≤ 1000) (s : Nat) (pv : Int) (hp : (p : Int) = pv) :
    ∃ v' Av nv cv Y, v' = .slice Av nv cv ∧ W2.cell? ⟨n₀ + 2, 0, none⟩ = some v ∧ n₀ + 2 < W2.heap.size ∧ (Builtin.append_ #[147, 147] 147 #[v, .slice (some ⟨W2.heap.size, 0, none⟩) 1 1]).run Tryz.prog (W2.alloc (.cells #[.int .i64 (i : Nat), .int .u8 pv, .int .u8 (s : Nat), .bool false, .int .u64 0, .func (.func 109) #[] #[.pointer (some ⟨b1, 0, none⟩), .pointer (some ⟨b2, 0, none⟩)]] 174)) = .ok v' Y ∧
      Y.cell? ⟨n₀ + 2, 0, none⟩ = some v ∧ Y.frozen? ⟨n₀ + 2, 0, none⟩ = false ∧ AllI w n₀ A m c ql (qe ++ [(i, p, s)]) (Y.setCell ⟨n₀ + 2, 0, none⟩ v') ∧ TChg TAll n₀ X (Y.setCell ⟨n₀ + 2, 0, none⟩ v') := by
  subst hp
  have hsz := h.2.1
  have hI2 : AllI w n₀ A m c ql qe W2 := AllI.keep (X := X) (h.1.trans (hb.mono (by omega))) hb.size (fun g t cs _ h => h.below hb h.lt) h
  obtain ⟨v0, v', Av, nv, cv, Y, ev, hv0, hr, hcY, hfY, hI3, ht3⟩ := hI2.push_e (q := (i, p, s)) k1 k2 hq
  have e := (hb.cell (p := ⟨n₀ + 2, 0, none⟩) (by show n₀ + 2 < _; omega)).trans hv
  cases e.symm.trans hv0
  have hX : TChg TAll n₀ X W2 := TChg.below hb
  exact ⟨v', Av, nv, cv, Y, ev, e, by have := hI2.2.1; omega, hr, hcY, hfY, hI3, hX.trans ht3⟩

theorem side_pre {l : List Node} {pre : List (Nat × Nat)} {i s : Nat} (hck : checkBody l = 0) (h : pre ++ [(i, s)] <+: sideList l) : i < l.length ∧ s ≤ 2 ∧ pre.length < 128 := by
  obtain ⟨hlen, _⟩ := checkBody_mem hck
  have hm : (i, s) ∈ sideList l := h.subset (by simp)
  obtain ⟨h1, h2⟩ := List.of_mem_zip hm
  have h3 := h.length_le
  have h4 : (sideList l).length ≤ l.length := by simp only [sideList, List.length_zip, List.length_range]; omega
  rw [List.length_append] at h3
  simp only [List.length_cons, List.length_nil] at h3
  exact ⟨List.mem_range.1 h1, sidesGo_le (b := l) (nx := [0]) (by simp) s h2, by omega⟩
theorem TChg.drewL {T : TypeId → Prop} {B : Nat} {X Y : World} (h : TChg T B X.drew Y) : TChg T B X Y := Chg.trans (Chg.drew _ X) h
theorem TChg.ends {n₀ : Nat} {X Y : World} (h : TChg TAll n₀ X Y) : KpI X Y :=
  ⟨h.size, fun g t cs ht hb => h.blk hb (by rcases ht with rfl | rfl <;> rintro (h | h) <;> cases h)⟩
theorem AllI.drew {w X : World} {n₀ m c : Nat} {A : Option Addr} {ql qe : List (Nat × Nat × Nat)} (h : AllI w n₀ A m c ql qe X) : AllI w n₀ A m c ql qe X.drew ∧ (∃ v, X.drew.cell? ⟨n₀ + 1, 0, none⟩ = some v) ∧ ∃ v, X.drew.cell? ⟨n₀ + 2, 0, none⟩ = some v := by
  have h' : AllI w n₀ A m c ql qe X.drew := AllI.keep (X := X) h.1.drew (Nat.le_refl _) (fun g t cs _ h => h.drew) h
  obtain ⟨_, _, _, _, vl, ve, h1, h2, _⟩ := h
  exact ⟨h', ⟨vl, by rw [h1.1.drew.cell]; rfl⟩, ve, by rw [h2.1.drew.cell]; rfl⟩

theorem spotsAll_any (w : World) (A : Option Addr) (m c : Nat) (l : List Node) (hS : Sl rNode 10 w A m l) (hck : checkBody l = 0) :
    Calls Tryz.prog 75 #[.slice A m c] w fun e w' => Below w.heap.size w w' ∧ ∃ vl ve xl xe, e = .returned (.tuple #[vl, ve]) ∧
      Row w' (w.heap.size + 4) 174 6 vl (lqs l (sideList l)).length xl ∧ LaysQ w' (lqs l (sideList l)) xl ∧
      Row w' (w.heap.size + 4) 174 6 ve (eqs l (sideList l)).length xe ∧ LaysQ w' (eqs l (sideList l)) xe := by
  obtain ⟨n₀, hn₀⟩ : ∃ n₀, w.heap.size = n₀ := ⟨_, rfl⟩
  rw [hn₀]
  refine (callsIn_wide (n := 4)).1 ?_
  refine callsIn_of_wp_marks Tryz.func75 rfl trivial ?_ rfl
  simp only [Tryz.ntmps75, List.size_toArray, List.length_cons, List.length_nil, Nat.reduceAdd, Nat.reduceSub, Array.replicate_succ, Array.replicate_zero, List.push_toArray, List.append_toArray, List.nil_append, List.cons_append]
  have hw0 := (((Below.refl n₀ w).alloc (Nat.le_of_eq hn₀.symm) (.cells #[.slice A m c] 40)).alloc (by simp [hn₀]) (.cells #[.slice none 0 0] 147)).alloc (by simp [hn₀]; omega) (.cells #[.slice none 0 0] 147)
  gi_wp2_with fail
  refine ⟨trivial, (calls_in rfl (sides_any _ _ rfl)).mono ?_⟩
  rintro e W1 ⟨rfl, e1⟩
  have hs1 : W1.heap.size = n₀ + 4 := by rw [e1]; simp [hn₀]
  have hA1 : AllI w n₀ A m c (lqs l []) (eqs l []) W1 := by
    have b0 := Blk.new w 40 #[.slice A m c]
    have b1 := Blk.new (w.alloc (.cells #[.slice A m c] 40)) 147 #[.slice none 0 0]
    have b2 := Blk.new ((w.alloc (.cells #[.slice A m c] 40)).alloc (.cells #[.slice none 0 0] 147)) 147 #[.slice none 0 0]
    have b3 := Blk.new (((w.alloc (.cells #[.slice A m c] 40)).alloc (.cells #[.slice none 0 0] 147)).alloc (.cells #[.slice none 0 0] 147)) 40 #[.slice A m c]
    simp only [World.size_alloc, hn₀, Nat.add_assoc, Nat.reduceAdd] at b0 b1 b2 b3
    rw [e1]
    refine ⟨hw0.alloc (by simp [hn₀]; omega) _, by simp [hn₀], ((b0.alloc _).alloc _).alloc _, b3, .slice none 0 0, .slice none 0 0, ⟨(b1.alloc _).alloc _, [], Row.nil _ _ _ _, rfl⟩, ⟨b2.alloc _, [], Row.nil _ _ _ _, rfl⟩, fun g e => by cases e⟩
  clear e1
  simp only [World.size_alloc, hn₀]
  gi_wp2_with fail
  have hG : Gives Fence.wide 3 Tryz.prog 107 #[.pointer (some ⟨n₀ + 3, 0, none⟩)] encS (fun xs => xs <+: sideList l) W1.heap.size (fun xs => xs = sideList l) KpI (fun pre X => AllI w n₀ A m c (lqs l pre) (eqs l pre) X) := by
    rw [hs1]
    exact sides1_gives Fence.wide 3 rfl trivial rfl (by omega) (n₀ + 3) n₀ (n₀ + 4) A m c l w hS hn₀ hck _ (fun pre X Y h hc => h.it (by omega) hc) (fun pre X h => by rw [h.2.2.2.1.cell]; rfl) (fun pre X h => h.1)
  refine range_gives rfl (by omega) (gf := 107) rfl trivial (enters_of Tryz.func107 (by kernel_rfl) rfl) hG (fun h k => h.trans k) (fun W g o o' _ hl ho _ => KpI.putObj hl ho) (fun x => rfl)
    (fun pre X Y row h hg hr => h.own (B := n₀ + 4) (Nat.le_of_eq hn₀.symm) (by omega) hg (fun r e => by have := hr r e; rw [hs1] at this; exact this)) hA1
    (fun x => { tmps := #[.slice A m c, .pointer (some ⟨n₀, 0, none⟩), .pointer (some ⟨n₀ + 1, 0, none⟩), .pointer (some ⟨n₀ + 2, 0, none⟩), .int .i64 (x.1 : Nat), .int .u8 (x.2 : Nat), .slice A m c, .func (.func 107) #[] #[.pointer (some ⟨n₀ + 3, 0, none⟩)], .int .i64 (x.1 : Nat), .int .u8 (x.2 : Nat), undef, undef, undef, undef, undef, undef, undef, undef, undef, undef, undef, undef, undef, undef, undef, undef, undef, undef, undef, undef, undef, undef, undef, undef, undef, undef, undef], defers := [] }) ?assign ?body ?done
  case assign =>
    rintro lp ⟨i, s⟩ W K hK
    simp only [encS, List.zip_toArray, List.zip_cons_cons, List.zip_nil_right, List.foldl_toArray, List.foldl_cons, List.foldl_nil]
    gi_wp2
    exact hK
  case done =>
    rintro D xs W hD rfl hI hd
    obtain ⟨hb, h1, h2, h2', vl, ve, ⟨h3, xl, h4, h5⟩, ⟨h6, xe, h7, h8⟩, _⟩ := hI
    have z1 := h3.cell 0
    have z2 := h6.cell 0
    have z3 := h3.frozen 0
    have z4 := h6.frozen 0
    obtain ⟨A1, c1, rfl, _⟩ := h4.reads
    obtain ⟨A2, c2, rfl, _⟩ := h7.reads
    simp at z1 z2
    gi_wp2_with fail
    gi_cut [] from 35 (fun wr => wr = (W.drew.setCell ⟨n₀ + 1, 0, none⟩ (.slice A1 (lqs l (sideList l)).length c1)).setCell ⟨n₀ + 2, 0, none⟩ (.slice A2 (eqs l (sideList l)).length c2))
    case first =>
      gi_region
      all_goals
        gi_wp2_with fail
        gi_meet
        rfl
    case rest =>
      have hdw : wc.heap[D]? = some (.deferred (some [])) := by
        rw [hcut]
        exact (Below.heap_setCell _ _ _ _ (by show D ≠ n₀ + 2; omega)).trans ((Below.heap_setCell _ _ _ _ (by show D ≠ n₀ + 1; omega)).trans hd)
      have g1 := ((h3.drew.set_ 0 (.slice A1 (lqs l (sideList l)).length c1)).far (p := ⟨n₀ + 2, 0, none⟩) (by show n₀ + 1 ≠ n₀ + 2; omega) (.slice A2 (eqs l (sideList l)).length c2))
      have g2 := ((h6.drew.far (p := ⟨n₀ + 1, 0, none⟩) (by show n₀ + 2 ≠ n₀ + 1; omega) (.slice A1 (lqs l (sideList l)).length c1)).set_ 0 (.slice A2 (eqs l (sideList l)).length c2))
      have ht : TChg TAll n₀ W wc := by
        rw [hcut]
        exact TChg.trans (TChg.drewL (TChg.set_ (B := n₀) h3.drew (Or.inl rfl) (by omega) _)) (TChg.set_ (B := n₀) (h6.drew.far (p := ⟨n₀ + 1, 0, none⟩) (by show n₀ + 2 ≠ n₀ + 1; omega) (.slice A1 (lqs l (sideList l)).length c1)) (Or.inl rfl) (by omega) _)
      rw [← hcut] at g1 g2
      have k4 : Row wc (n₀ + 4) 174 6 (.slice A1 (lqs l (sideList l)).length c1) (lqs l (sideList l)).length xl := by
        rw [hcut]
        refine ((show Row W.drew (n₀ + 4) 174 6 _ _ xl from h4).keep (fun g e => Below.heap_setCell _ _ _ _ ?_)).keep (fun g e => Below.heap_setCell _ _ _ _ ?_)
        · have := (h4.lt e).1; show g ≠ n₀ + 1; omega
        · have := (h4.lt e).1; show g ≠ n₀ + 2; omega
      have k7 : Row wc (n₀ + 4) 174 6 (.slice A2 (eqs l (sideList l)).length c2) (eqs l (sideList l)).length xe := by
        rw [hcut]
        refine ((show Row W.drew (n₀ + 4) 174 6 _ _ xe from h7).keep (fun g e => Below.heap_setCell _ _ _ _ ?_)).keep (fun g e => Below.heap_setCell _ _ _ _ ?_)
        · have := (h7.lt e).1; show g ≠ n₀ + 1; omega
        · have := (h7.lt e).1; show g ≠ n₀ + 2; omega
      have k5 : LaysQ wc (lqs l (sideList l)) xl := h5.keep (fun g t cs h hb => ht.blk hb (by rcases h with rfl | rfl <;> rintro (h | h) <;> cases h))
      have k8 : LaysQ wc (eqs l (sideList l)) xe := h8.keep (fun g t cs h hb => ht.blk hb (by rcases h with rfl | rfl <;> rintro (h | h) <;> cases h))
      have hbw := ht.to_below hb (Nat.le_refl _) (by omega)
      have hDn : n₀ + 4 ≤ D := by omega
      clear hcut
      gi_wp2_with fail
      refine ⟨by simp, .inl ⟨_, _, rfl, run_takeDeferred hdw, ?_⟩⟩
      obtain ⟨Y, hY⟩ : ∃ Y, wc.putObj D (.deferred none) = Y := ⟨_, rfl⟩
      have hg := grownBy_putObj' wc D (.deferred none)
      rw [hY] at hg ⊢
      have hr : ∀ r, some D = some r → ∃ o : Obj, wc.heap[r]? = some o ∧ o.isCells = false := fun r e => by cases e; exact ⟨_, hdw, rfl⟩
      have y1 := (blk_own hg hr g1).cell 0
      have y2 := (blk_own hg hr g2).cell 0
      simp at y1 y2
      refine ⟨.tuple #[.slice A1 (lqs l (sideList l)).length c1, .slice A2 (eqs l (sideList l)).length c2], ?_, ?_, _, _, xl, xe, rfl, row_own hg hr k4, k5.keep (fun g t cs _ hb => blk_own hg hr hb), row_own hg hr k7, k8.keep (fun g t cs _ hb => blk_own hg hr hb)⟩
      · simp [results, Tryz.results75, go_sem, y1, y2]
      · exact hbw.grown hg (by have := ht.size; omega) (fun k e => by cases e; omega)
  case body =>
    rintro lp pre ⟨i, s⟩ W hI hlen
    obtain ⟨hil, hs2, hpl⟩ := side_pre hck hlen
    have hm := hS.1
    have hlq := lqs_len l pre
    have heq := eqs_len l pre
    have hf3 : Fence.wide.fn 94 := trivial
    have hf4 : Fence.wide.fn 95 := trivial
    obtain ⟨hID, ⟨vl, hvl⟩, _⟩ := hI.drew
    have hS0 := Lib.hid hS
    clear hG hlen hI hA1 hw0 hS hck
    gi_wp2_with fail
    gi_cut [] from 10 (fun wr => AllI w n₀ A m c (lqs l pre ++ [(i, 0, s)]) (eqs l pre) wr ∧ TChg TAll n₀ W wr)
    case first =>
      gi_region_with (gi_at_call 94; refine (CallsIn.inRound lp (calls_in rfl (part_at i 0 s 0 rfl _))).mono ?_; rintro e W2 ⟨b1, b2, rfl, k1, k2, hb2⟩; obtain ⟨v', Av, nv, cv, Y, rfl, hv2, hl2, hr, hcY, hfY, hI3, ht3⟩ := all_push_l hID hvl hb2 k1 k2 (by omega) s 0 rfl)
      all_goals
        gi_wp2_with fail
        gi_meet
        exact ⟨hI3, Chg.trans (Chg.drew _ W) ht3⟩
    case rest =>
      obtain ⟨hIc, htc⟩ := hcut
      have hSr := hS0.out.below rNode_keeps (by rw [hn₀]; exact hIc.1)
      obtain ⟨b0, o0, x, cs, rfl, hxk, ⟨rfl, hok⟩, _, hcs⟩ := hSr.at_ (show i < m by omega) (by omega)
      obtain ⟨kd, md, nm, ks, ⟨lv, ln⟩, ⟨pv, pn⟩, ⟨ev, en⟩⟩ := x
      have c0 := hcs 0 _ rfl
      simp only [Nat.add_zero] at c0
      try dsimp only at c0
      have hbox := hIc.2.2.1.cell 0
      simp at hbox
      have i1 : (i : Int) < (m : Int) := by omega
      have i2 : (m : Int) ≤ 9223372036854775807 := by have := hS0.out.2.1; omega
      clear hcs hok hSr hID hvl vl
      have Hxk := Lib.hid hxk
      clear hxk
      by_cases k5 : kd = 5
      · subst k5
        have hlx : lqAt l (i, s) = [(i, 0, s), (i, 1, turnedS s)] := by simp [lqAt, Hxk.out]
        have hex : eqAt l (i, s) = [(i, 2, s)] := by simp [eqAt, Hxk.out]
        have Hlx := Lib.hid hlx
        have Hex := Lib.hid hex
        clear hlx hex
        obtain ⟨hID, ⟨vl, hvl⟩, _⟩ := hIc.drew
        gi_wp2_with fail
        gi_cut [] from 22 (fun wr => AllI w n₀ (some ⟨b0, o0, none⟩) m c ((lqs l pre ++ [(i, 0, s)]) ++ [(i, 1, turnedS s)]) (eqs l pre) wr ∧ TChg TAll n₀ W wr)
        case first =>
          gi_region_with (first | (gi_at_call 95; refine (CallsIn.inRound lp (calls_in rfl (turnedS_any s hs2 _))).mono ?_; rintro e W2 ⟨rfl, rfl⟩) | (gi_at_call 94; refine (CallsIn.inRound lp (calls_in rfl (part_at i 1 (turnedS s) 1 rfl _))).mono ?_; rintro e W2 ⟨b1, b2, rfl, k1, k2, hb2⟩; obtain ⟨v', Av, nv, cv, Y, rfl, hv2, hl2, hr, hcY, hfY, hI3, ht3⟩ := all_push_l hID hvl hb2 k1 k2 (by rw [List.length_append, List.length_singleton]; omega) (turnedS s) 1 rfl))
          all_goals
            gi_wp2_with fail
            gi_meet
            exact ⟨hI3, TChg.trans htc ht3.drewL⟩
        case rest =>
          obtain ⟨hI6, ht6⟩ := hcut
          clear hID hvl vl
          obtain ⟨hID, _, ⟨vl, hvl⟩⟩ := hI6.drew
          gi_wp2_with fail
          gi_region_with (gi_at_call 94; refine (CallsIn.inRound lp (calls_in rfl (part_at i 2 s 2 rfl _))).mono ?_; rintro e W2 ⟨b1, b2, rfl, k1, k2, hb2⟩; obtain ⟨v', Av, nv, cv, Y, rfl, hv2, hl2, hr, hcY, hfY, hI3, ht3⟩ := all_push_e hID hvl hb2 k1 k2 (by omega) s 2 rfl)
          all_goals
            gi_wp2_with fail
            have ht7 := TChg.trans ht6 ht3.drewL
            refine ⟨ht7.keeps _, ht7.ends, ?_⟩
            rw [lqs_snoc, eqs_snoc, Hlx.out, Hex.out]
            rw [List.append_assoc] at hI3
            exact hI3
      · have z5 : ((kd : Int) == 5) = false := by rw [beq_eq_false_iff_ne]; omega
        have hlx : lqAt l (i, s) = [(i, 0, s)] := by simp [lqAt, Hxk.out, k5]
        have hex : eqAt l (i, s) = [] := by simp [eqAt, Hxk.out, k5]
        have Hlx := Lib.hid hlx
        have Hex := Lib.hid hex
        clear hlx hex
        gi_wp2_with fail
        refine ⟨htc.keeps _, htc.ends, ?_⟩
        rw [lqs_snoc, eqs_snoc, Hlx.out, Hex.out, List.append_nil]
        exact hIc
end Go.Proofs.YtcgnbpjbpbabaaaGreatDoor
end

section
set_option linter.unusedVariables false
set_option linter.unusedSimpArgs false
set_option maxRecDepth 100000
set_option maxHeartbeats 2000000
namespace Go.Proofs.YtcgnbpjbpbabaaaGreatDoor
open Go.RowKit
def cSpot (x : Spot) : List Value := [.int .i64 (x.node : Nat), .int .u8 (x.part : Nat), .int .u8 (x.side : Nat), .bool x.t.var, .int .u64 (x.t.n : Nat)]
def flatQ (l : List Spot) : List Value := l.flatMap cSpot
theorem flatQ_length : ∀ l : List Spot, (flatQ l).length = l.length * 5
  | [] => rfl
  | x :: r => by
    have := flatQ_length r
    simp only [flatQ, List.flatMap_cons, List.length_append, List.length_cons] at this ⊢
    rw [this]; simp [cSpot]; omega
theorem flatQ_snoc (l : List Spot) (x : Spot) : flatQ (l ++ [x]) = flatQ l ++ cSpot x := by simp [flatQ]
def partT (x : Node) (p : Nat) : Term := if p = 0 then x.l else if p = 1 then x.pc else x.e
def toldQ (b : List Node) (q : Nat × Nat × Nat) : Spot := ⟨q.1, q.2.1, q.2.2, partT ((b[q.1]?).getD default) q.2.1⟩
theorem toldQ_at {b : List Node} {q : Nat × Nat × Nat} {x : Node} (h : b[q.1]? = some x) : toldQ b q = ⟨q.1, q.2.1, q.2.2, partT x q.2.1⟩ := by simp [toldQ, h]

theorem LaysQ.at_ {X : World} : ∀ {qs : List (Nat × Nat × Nat)} {xs : List Value} {k : Nat} {q : Nat × Nat × Nat}, LaysQ X qs xs → qs[k]? = some q →
    ∃ b1 b2, (∀ j u, (spotV b1 b2 q)[j]? = some u → xs[k * 6 + j]? = some u) ∧ Blk X b1 3 #[.int .i64 (q.1 : Nat)] ∧ Blk X b2 118 #[.int .u8 (q.2.1 : Nat)]
  | [], _, _, _, _, h => by simp at h
  | p :: r, xs, 0, q, ⟨b1, b2, ys, e, h1, h2, _⟩, h => by
    have : p = q := by simpa using h
    subst this
    refine ⟨b1, b2, fun j u hu => ?_, h1, h2⟩
    rw [e, Nat.zero_mul, Nat.zero_add, List.getElem?_append_left (List.getElem?_eq_some_iff.1 hu).1, hu]
  | p :: r, xs, k + 1, q, ⟨b1, b2, ys, e, h1, h2, h3⟩, h => by
    obtain ⟨c1, c2, g1, g2, g3⟩ := LaysQ.at_ (k := k) h3 (by simpa using h)
    refine ⟨c1, c2, fun j u hu => ?_, g2, g3⟩
    rw [e, List.getElem?_append_right (by simp [spotV]; omega), ← g1 j u hu]
    congr 1
    simp [spotV]
    omega

theorem set5 {α : Type} (a : List α) (x0 x1 x2 x3 x4 y0 y1 y2 y3 y4 : α) (r : List α) :
    (((((a ++ x0 :: x1 :: x2 :: x3 :: x4 :: r).set a.length y0).set (a.length + 1) y1).set (a.length + 2) y2).set (a.length + 3) y3).set (a.length + 4) y4 = a ++ y0 :: y1 :: y2 :: y3 :: y4 :: r := by
  simp [List.set_append]
theorem split5 {α : Type} {r : List α} (h : 5 ≤ r.length) : ∃ x0 x1 x2 x3 x4 t, r = x0 :: x1 :: x2 :: x3 :: x4 :: t := by
  match r, h with
  | x0 :: x1 :: x2 :: x3 :: x4 :: t, _ => exact ⟨x0, x1, x2, x3, x4, t, rfl⟩

theorem blk_set5 {w : World} {g k5 : Nat} {t : TypeId} {F r : List Value} {x0 x1 x2 x3 x4 : Value} (h : Blk w g t (F ++ x0 :: x1 :: x2 :: x3 :: x4 :: r).toArray) (hk : F.length = k5) (y0 y1 y2 y3 y4 : Value) :
    Blk (((((w.setCell ⟨g, k5, none⟩ y0).setCell ⟨g, k5 + 1, none⟩ y1).setCell ⟨g, k5 + 2, none⟩ y2).setCell ⟨g, k5 + 3, none⟩ y3).setCell ⟨g, k5 + 4, none⟩ y4) g t (F ++ y0 :: y1 :: y2 :: y3 :: y4 :: r).toArray := by
  subst hk
  have := ((((h.set_ F.length y0).set_ (F.length + 1) y1).set_ (F.length + 2) y2).set_ (F.length + 3) y3).set_ (F.length + 4) y4
  simp only [List.setIfInBounds_toArray, set5] at this
  exact this
theorem blk_set2 {w : World} {g k5 : Nat} {t : TypeId} {F r : List Value} {x0 x1 x2 x3 x4 : Value} (h : Blk w g t (F ++ x0 :: x1 :: x2 :: x3 :: x4 :: r).toArray) (hk : F.length = k5) (y3 y4 : Value) :
    Blk ((w.setCell ⟨g, k5 + 3, none⟩ y3).setCell ⟨g, k5 + 4, none⟩ y4) g t (F ++ x0 :: x1 :: x2 :: y3 :: y4 :: r).toArray := by
  subst hk
  have := (h.set_ (F.length + 3) y3).set_ (F.length + 4) y4
  simp only [List.setIfInBounds_toArray] at this
  simp [List.set_append] at this
  simpa using this
theorem part_cells {w : World} {b o : Nat} {x : Node} {p : Nat} (hp : p ≤ 2) (h : ∀ i u, (cNode x)[i]? = some u → w.cell? ⟨b, o + i, none⟩ = some u) :
    w.cell? ⟨b, o + partOff p, none⟩ = some (.bool (partT x p).var) ∧ w.cell? ⟨b, o + partOff p + 1, none⟩ = some (.int .u64 ((partT x p).n : Nat)) := by
  rcases (by omega : p = 0 ∨ p = 1 ∨ p = 2) with rfl | rfl | rfl
  · exact ⟨h 4 _ rfl, h 5 _ rfl⟩
  · exact ⟨h 6 _ rfl, h 7 _ rfl⟩
  · exact ⟨h 8 _ rfl, h 9 _ rfl⟩
theorem told_info : (Tryz.prog.info? 121).map (fun i => (i.zero, i.size, i.bytes)) = some (some (.agg #[.int .i64 0, .int .u8 0, .int .u8 0, .bool false, .int .u64 0]), 5, 32) := by kernel_rfl

theorem told_any (w : World) (A : Option Addr) (m c : Nat) (l : List Node) (B : Nat) (v : Value) (n : Nat) (xs : List Value) (qs : List (Nat × Nat × Nat)) (hS : Sl rNode 10 w A m l) (hm : m ≤ 1000) (hR : Row w B 174 6 v n xs) (hL : LaysQ w qs xs) (hn : n ≤ 1000) (hqn : qs.length = n) (hq : ∀ q ∈ qs, q.1 < m ∧ q.2.1 ≤ 2) :
    Calls Tryz.prog 76 #[.slice A m c, v] w fun e w' => e = .returned (.slice (some ⟨w.heap.size, 0, none⟩) n n) ∧ Blk w' w.heap.size 121 (flatQ (qs.map (toldQ l))).toArray ∧ Below w.heap.size w w' := by
  obtain ⟨i0, hi0, hz0, hz1, hz2⟩ := info_parts told_info
  have hmk := fun W => run_makeSlice (P := Tryz.prog) W 114 121 i0 _ Tryz.underlying114 hi0 hz0 .i64 .i64 (n : Int) (n : Int) (by omega) (by omega) (by rw [hz1]; omega) (by rw [hz2]; omega) (by omega)
  obtain ⟨mc, hmc⟩ : ∃ mc : List Value, mc.toArray = madeCells (Value.agg #[.int .i64 0, .int .u8 0, .int .u8 0, .bool false, .int .u64 0]).cells (n * 5) := ⟨_, Array.toArray_toList⟩
  have hmcl : mc.length = n * 5 := by rw [← List.size_toArray, hmc, size_madeCells]
  simp only [hz1, Int.toNat_natCast, ← hmc] at hmk
  obtain ⟨A2, c2, rfl, _, _, hRd⟩ := hR.reads
  clear hz0 hz1 hz2 hi0 hmc
  have HS := Lib.hid hS
  have HR := Lib.hid hR
  have HL := Lib.hid hL
  have HQ := Lib.hid hq
  clear hS hR hL hq hRd
  go_enter Tryz.func76, Tryz.ntmps76
  go_wp2_with fail
  obtain ⟨W0, hW0⟩ : ∃ W0, w.alloc (.cells mc.toArray 121) = W0 := ⟨_, rfl⟩
  have hb0 : Below w.heap.size w W0 := by rw [← hW0]; exact (Below.refl _ w).alloc (Nat.le_refl _) _
  have hk0 : Blk W0 w.heap.size 121 mc.toArray := by rw [← hW0]; exact Blk.new w _ _
  rw [hW0]
  clear hW0 hmk
  go_loopw [13] (fun iv wr => ∃ (k : Nat) (rest : List Value), iv = .int .i64 k ∧ k ≤ n ∧ rest.length = (n - k) * 5 ∧ Blk wr w.heap.size 121 (flatQ ((qs.take k).map (toldQ l)) ++ rest).toArray ∧ Below w.heap.size w wr) (fun iv _ => n - (intOf iv).toNat)
  case atStart => exact ⟨0, mc, rfl, Nat.zero_le _, by rw [hmcl, Nat.sub_zero], by simpa [flatQ] using hk0, hb0⟩
  case round =>
    obtain ⟨k, rest, rfl, hk, hrl, hB, hbw⟩ := hrel
    clear hk0 hb0
    by_cases hlt : k < n
    · obtain ⟨q, hqk⟩ : ∃ q, qs[k]? = some q := ⟨_, List.getElem?_eq_getElem (by omega)⟩
      obtain ⟨b1, b2, hxs, k1, k2⟩ := HL.out.at_ hqk
      obtain ⟨i, p, s⟩ := q
      obtain ⟨hqm, hqp⟩ := HQ.out _ (List.mem_of_getElem? hqk)
      dsimp only at k1 k2 hqm hqp
      obtain ⟨g, cap, hv, hnc, e0, _⟩ := HR.out.cellAt (hxs 0 _ rfl)
      injection hv with hA _ hc2
      subst hA
      subst hc2
      have hgl : g < w.heap.size := World.block_lt_of_cell? _ _ e0
      have cA : ∀ j u, (spotV b1 b2 (i, p, s))[j]? = some u → wr.cell? ⟨g, k * 6 + j, none⟩ = some u := fun j u hu => by
        obtain ⟨g', cap', hv', _, e, _⟩ := HR.out.cellAt (hxs j u hu)
        injection hv' with hA _ _
        injection hA with hA
        injection hA with hA
        subst hA
        exact (hbw.cell (by exact hgl)).trans e
      have a0 := cA 0 _ rfl
      have a1 := cA 1 _ rfl
      have a2 := cA 2 _ rfl
      have a3 := cA 3 _ rfl
      have a4 := cA 4 _ rfl
      have a5 := cA 5 _ rfl
      simp only [Nat.add_zero] at a0
      obtain ⟨b0, o0, x, cs, rfl, hxk, ⟨rfl, hok⟩, _, hcs⟩ := HS.out.at_ hqm (by omega)
      obtain ⟨p0, p1⟩ := part_cells hqp hcs
      have hb0l : b0 < w.heap.size := World.block_lt_of_cell? _ _ p0
      have k1' := k1.below hbw k1.lt
      have k2' := k2.below hbw k2.lt
      have q0 := (hbw.cell (p := ⟨b0, o0 + i * 10 + partOff p, none⟩) hb0l).trans p0
      have q1 := (hbw.cell (p := ⟨b0, o0 + i * 10 + partOff p + 1, none⟩) hb0l).trans p1
      obtain ⟨tv, htv⟩ : ∃ t, (partT x p).var = t := ⟨_, rfl⟩
      obtain ⟨tn, htn⟩ : ∃ t, (partT x p).n = t := ⟨_, rfl⟩
      rw [htv] at q0
      rw [htn] at q1
      obtain ⟨x0, x1, x2, x3, x4, t, rfl⟩ := split5 (show 5 ≤ rest.length by rw [hrl]; omega)
      obtain ⟨F, hF⟩ : ∃ F, flatQ ((qs.take k).map (toldQ l)) = F := ⟨_, rfl⟩
      have hFl : F.length = k * 5 := by rw [← hF, flatQ_length, List.length_map, List.length_take]; omega
      rw [hF] at hB
      have z0 := hB.cell (k * 5)
      have z1 := hB.cell (k * 5 + 1)
      have z2 := hB.cell (k * 5 + 2)
      have z3 := hB.cell (k * 5 + 3)
      have z4 := hB.cell (k * 5 + 4)
      simp [hFl, List.getElem?_append_right] at z0 z1 z2 z3 z4
      have f0 := hB.frozen (k * 5)
      have f1 := hB.frozen (k * 5 + 1)
      have f2 := hB.frozen (k * 5 + 2)
      have f3 := hB.frozen (k * 5 + 3)
      have f4 := hB.frozen (k * 5 + 4)
      have hNl := hB.lt
      have hb0r : b0 < wr.heap.size := by omega
      have hgr : g < wr.heap.size := by omega
      have hb1r := k1'.lt
      have hb2r := k2'.lt
      have e1 : b0 ≠ w.heap.size := by omega
      have e2 : b1 ≠ w.heap.size := k1'.ne_ hB (by intro h; cases h)
      have e3 : b2 ≠ w.heap.size := k2'.ne_ hB (by intro h; cases h)
      have i1 : (k : Int) < (n : Int) := by omega
      have i2 : (n : Int) ≤ 1000 := by omega
      clear cA hxs hcs e0
      go_wp2_with fail
      obtain ⟨W1, hW1⟩ : ∃ W1, ((((((wr.setCell ⟨w.heap.size, k * 5, none⟩ (.int .i64 (i : Nat))).setCell ⟨w.heap.size, k * 5 + 1, none⟩ (.int .u8 (p : Nat))).setCell ⟨w.heap.size, k * 5 + 2, none⟩ (.int .u8 (s : Nat))).setCell ⟨w.heap.size, k * 5 + 3, none⟩ (.bool false)).setCell ⟨w.heap.size, k * 5 + 4, none⟩ (.int .u64 0)).alloc
        (.cells #[.int .i64 (i : Nat), .int .u8 (p : Nat), .int .u8 (s : Nat), .bool false, .int .u64 0, .func (.func 109) #[] #[.pointer (some ⟨b1, 0, none⟩), .pointer (some ⟨b2, 0, none⟩)]] 174)) = W1 := ⟨_, rfl⟩
      have hB1 := (blk_set5 hB hFl (.int .i64 (i : Nat)) (.int .u8 (p : Nat)) (.int .u8 (s : Nat)) (.bool false) (.int .u64 0)).alloc (.cells #[.int .i64 (i : Nat), .int .u8 (p : Nat), .int .u8 (s : Nat), .bool false, .int .u64 0, .func (.func 109) #[] #[.pointer (some ⟨b1, 0, none⟩), .pointer (some ⟨b2, 0, none⟩)]] 174)
      have hb1 : Below w.heap.size w W1 := by
        rw [← hW1]
        refine Below.alloc ?_ (by simp; omega) _
        iterate 5 refine Below.setCell ?_ (by simp) _
        exact hbw
      rw [hW1] at hB1 ⊢
      clear hW1
      have u1 := (k1.below hb1 (by have := k1.lt; exact this)).cell 0
      have u2 := (k2.below hb1 (by have := k2.lt; exact this)).cell 0
      simp at u1 u2
      refine (part1_any b0 o0 m c b1 b2 i p W1 hqm hqp hm u1 u2).mono ?_
      rintro e W2 ⟨rfl, rfl⟩
      have q0 := (hb1.cell (p := ⟨b0, o0 + i * 10 + partOff p, none⟩) hb0l).trans p0
      have q1 := (hb1.cell (p := ⟨b0, o0 + i * 10 + partOff p + 1, none⟩) hb0l).trans p1
      rw [htv] at q0
      rw [htn] at q1
      have z3 := hB1.cell (k * 5 + 3)
      have z4 := hB1.cell (k * 5 + 4)
      simp [hFl, List.getElem?_append_right] at z3 z4
      have f3 := hB1.frozen (k * 5 + 3)
      have f4 := hB1.frozen (k * 5 + 4)
      have hNl := hB1.lt
      have hBn := blk_set2 hB1 hFl (.bool tv) (.int .u64 (tn : Nat))
      have hbn : Below w.heap.size w ((W2.setCell ⟨w.heap.size, k * 5 + 3, none⟩ (.bool tv)).setCell ⟨w.heap.size, k * 5 + 4, none⟩ (.int .u64 (tn : Nat))) := (hb1.setCell (p := ⟨w.heap.size, k * 5 + 3, none⟩) (by simp) _).setCell (p := ⟨w.heap.size, k * 5 + 4, none⟩) (by simp) _
      clear hb1 hB1
      go_wp2_with fail
      go_roundw
      case rel =>
        refine ⟨k + 1, t, by simp, by omega, by simp at hrl; omega, ?_, hbn⟩
        have hx : toldQ l (i, p, s) = ⟨i, p, s, partT x p⟩ := toldQ_at hxk
        rw [List.take_add_one, hqk, Option.toList_some, List.map_append, List.map_cons, List.map_nil, flatQ_snoc, hF, hx]
        have e5 : F ++ cSpot ⟨i, p, s, partT x p⟩ ++ t = F ++ .int .i64 (i : Nat) :: .int .u8 (p : Nat) :: .int .u8 (s : Nat) :: .bool tv :: .int .u64 (tn : Nat) :: t := by simp [cSpot, htv, htn]
        rw [e5]
        exact hBn
      case measure => simp [intOf]; omega
    · obtain rfl : k = n := by omega
      have hr0 : rest = [] := List.eq_nil_of_length_eq_zero (by rw [hrl]; omega)
      subst hr0
      rw [List.append_nil, List.take_of_length_le (by omega)] at hB
      go_wp2_with fail
      go_ret
      exact ⟨rfl, hB, hbw⟩
end Go.Proofs.YtcgnbpjbpbabaaaGreatDoor
end

section
set_option linter.unusedVariables false
set_option linter.unusedSimpArgs false
set_option maxRecDepth 100000
set_option maxHeartbeats 2000000
namespace Go.Proofs.YtcgnbpjbpbabaaaGreatDoor
open Go.RowKit
def rSpot (w : World) (cs : List Value) (x : Spot) : Prop := cs = cSpot x ∧ u64 x.t.n
theorem rSpot_keeps : Keeps rSpot := fun _ _ _ _ _ h => h

theorem labelSpots_eq (b : List Node) : ∀ (r : List Node) (t : List Nat) (i : Nat), t.length = r.length → (∀ j, r[j]? = b[i + j]?) → labelSpots i r t = (lqs b ((List.range' i r.length).zip t)).map (toldQ b)
  | [], [], _, _, _ => by simp [labelSpots, lqs]
  | x :: r, s :: t, i, hl, h => by
    have ih := labelSpots_eq b r t (i + 1) (by simpa using hl) (fun j => by have := h (j + 1); simp at this; rw [this]; congr 1; omega)
    have h0 : b[i]? = some x := by have := h 0; simpa using this.symm
    rw [labelSpots, ih, List.length_cons, List.range'_succ, List.zip_cons_cons, lqs, lqs, List.flatMap_cons, List.map_append]
    congr 1
    simp only [lqAt, h0, Option.map_some, Option.some.injEq]
    split
    · simp [toldQ_at (q := (i, 0, s)) h0, toldQ_at (q := (i, 1, turnedS s)) h0, partT]
    · simp [toldQ_at (q := (i, 0, s)) h0, partT]
theorem effectSpots_eq (b : List Node) : ∀ (r : List Node) (t : List Nat) (i : Nat), t.length = r.length → (∀ j, r[j]? = b[i + j]?) → effectSpots i r t = (eqs b ((List.range' i r.length).zip t)).map (toldQ b)
  | [], [], _, _, _ => by simp [effectSpots, eqs]
  | x :: r, s :: t, i, hl, h => by
    have ih := effectSpots_eq b r t (i + 1) (by simpa using hl) (fun j => by have := h (j + 1); simp at this; rw [this]; congr 1; omega)
    have h0 : b[i]? = some x := by have := h 0; simpa using this.symm
    rw [effectSpots, ih, List.length_cons, List.range'_succ, List.zip_cons_cons, eqs, eqs, List.flatMap_cons, List.map_append]
    congr 1
    simp only [eqAt, h0, Option.map_some, Option.some.injEq]
    split
    · simp [toldQ_at (q := (i, 2, s)) h0, partT]
    · simp
theorem spotsOf_eq {b : List Node} (h : checkBody b = 0) : spotsOf b = ((lqs b (sideList b)).map (toldQ b), (eqs b (sideList b)).map (toldQ b)) := by
  obtain ⟨_, _, hgo, _⟩ := checkBody_mem h
  have hl := sidesGo_len (nx := [0]) hgo rfl
  have e : sideList b = (List.range' 0 b.length).zip (sidesGo [0] b) := by rw [sideList, List.range_eq_range']
  rw [spotsOf, if_pos h, labelSpots_eq b b _ 0 hl (fun j => by simp), effectSpots_eq b b _ 0 hl (fun j => by simp), e]

theorem lqs_mem {b : List Node} {q : Nat × Nat × Nat} {l : List (Nat × Nat)} (h : q ∈ lqs b l) : ∃ s, (q.1, s) ∈ l ∧ q.2.1 ≤ 2 := by
  simp only [lqs, List.mem_flatMap] at h
  obtain ⟨⟨i, s⟩, hx, h⟩ := h
  simp only [lqAt, List.mem_cons] at h
  rcases h with rfl | h
  · exact ⟨s, hx, by simp⟩
  · split at h
    · simp only [List.mem_singleton] at h
      subst h
      exact ⟨s, hx, by simp⟩
    · cases h
theorem eqs_mem {b : List Node} {q : Nat × Nat × Nat} {l : List (Nat × Nat)} (h : q ∈ eqs b l) : ∃ s, (q.1, s) ∈ l ∧ q.2.1 ≤ 2 := by
  simp only [eqs, List.mem_flatMap] at h
  obtain ⟨⟨i, s⟩, hx, h⟩ := h
  simp only [eqAt] at h
  split at h
  · simp only [List.mem_singleton] at h
    subst h
    exact ⟨s, hx, by simp⟩
  · cases h
theorem sideList_mem {b : List Node} {i s : Nat} (h : (i, s) ∈ sideList b) : i < b.length := List.mem_range.1 (List.of_mem_zip h).1

theorem flat_at : ∀ (l : List Spot) (j k : Nat) (x : Spot), l[j]? = some x → k < 5 → (flatQ l)[j * 5 + k]? = (cSpot x)[k]?
  | [], _, _, _, h, _ => by simp at h
  | y :: r, 0, k, x, h, hk => by
    have : y = x := by simpa using h
    subst this
    rw [Nat.zero_mul, Nat.zero_add, flatQ, List.flatMap_cons, List.getElem?_append_left (by simpa [cSpot] using hk)]
  | y :: r, j + 1, k, x, h, hk => by
    rw [flatQ, List.flatMap_cons, List.getElem?_append_right (by simp [cSpot]; omega), ← flat_at r j k x (by simpa using h) hk]
    congr 1
    simp [cSpot]
    omega
/-- a row of spots that lies as told was made is read as those spots -/
theorem sl_spots {w w' : World} {g n m : Nat} {A : Option Addr} {l : List Node} {qs : List (Nat × Nat × Nat)} (hS : Sl rNode 10 w A m l) (hB : Blk w' g 121 (flatQ (qs.map (toldQ l))).toArray) (hn : qs.length = n) (hn2 : n ≤ 1000) (hq : ∀ q ∈ qs, q.1 < l.length) :
    Sl rSpot 5 w' (some ⟨g, 0, none⟩) n (qs.map (toldQ l)) := by
  refine ⟨by rw [List.length_map, hn], by omega, fun _ => ⟨_, rfl, fun j x hx => ⟨cSpot x, ⟨rfl, ?_⟩, rfl, fun k u hu => ?_⟩⟩⟩
  · rw [List.getElem?_map] at hx
    obtain ⟨q, hq', rfl⟩ := Option.map_eq_some_iff.1 hx
    have hlt := hq q (List.mem_of_getElem? hq')
    obtain ⟨b, o, y, cs, _, hy, ⟨rfl, hok⟩, _, _⟩ := hS.at_ (k := q.1) (by rw [← hS.1]; exact hlt) (by omega)
    rw [toldQ_at hy]
    obtain ⟨_, _, _, _, h5, h6, h7⟩ := hok
    show u64 (partT y q.2.1).n
    unfold partT
    split
    · exact h5
    · split
      · exact h6
      · exact h7
  · have hk : k < 5 := (List.getElem?_eq_some_iff.1 hu).1
    show w'.cell? ((⟨g, 0, none⟩ : Addr).add (j * 5 + k)) = some u
    rw [add_lit', Nat.zero_add, hB.cell, List.getElem?_toArray]
    have := flat_at (qs.map (toldQ l)) j k x hx hk
    rw [this]
    exact hu
theorem spotsOf_any (A : Option Addr) (n c : Nat) (l : List Node) (w : World) (h : Sl rNode 10 w A n l) :
    Calls Tryz.prog 57 #[.slice A n c] w fun e w' => ∃ A1 n1 c1 A2 n2 c2, e = .returned (.tuple #[.slice A1 n1 c1, .slice A2 n2 c2]) ∧ Sl rSpot 5 w' A1 n1 (spotsOf l).1 ∧ Sl rSpot 5 w' A2 n2 (spotsOf l).2 ∧ n1 ≤ c1 ∧ n2 ≤ c2 ∧ n1 ≤ 256 ∧ n2 ≤ 256 ∧ Below w.heap.size w w' := by
  have cT := tcheck_any A n c l w h
  by_cases hck : checkBody l = 0
  · have e0 : ((checkBody l : Nat) : Int) = 0 := by rw [hck]; rfl
    rw [e0] at cT
    have CT := Lib.hid cT
    clear cT e0
    have Hsp := Lib.hid (spotsOf_eq hck)
    have Hck := Lib.hid hck
    have Hs := Lib.hid h
    clear h hck
    obtain ⟨hln, _, _, _⟩ := checkBody_mem Hck.out
    have hsl : (sideList l).length ≤ l.length := by simp only [sideList, List.length_zip, List.length_range]; omega
    have hl1 := lqs_len l (sideList l)
    have hl2 := eqs_len l (sideList l)
    have hnl := Hs.out.1
    go_enter Tryz.func57, Tryz.ntmps57
    go_wp2_with fail
    refine CT.out.mono ?_
    rintro e w1 ⟨rfl, b1⟩
    have h1 := Hs.out.below rNode_keeps b1
    have H1 := Lib.hid h1
    clear h1
    go_wp2_with fail
    refine (spotsAll_any w1 A n c l H1.out Hck.out).mono ?_
    rintro e w2 ⟨b2, vl, ve, xl, xe, rfl, hRl, hLl, hRe, hLe⟩
    have h2 := Lib.hid (H1.out.below rNode_keeps b2)
    obtain ⟨Al, cl, rfl, _⟩ := hRl.reads
    obtain ⟨Ae, ce, rfl, _⟩ := hRe.reads
    have HRl := Lib.hid hRl
    have HLl := Lib.hid hLl
    have HRe := Lib.hid hRe
    have HLe := Lib.hid hLe
    clear hRl hLl hRe hLe
    go_wp2_with fail
    refine (told_any w2 A n c l _ _ _ xl _ h2.out (by omega) HRl.out HLl.out (by omega) rfl (fun q hq => by obtain ⟨s, h3, h4⟩ := lqs_mem hq; exact ⟨by have := sideList_mem h3; omega, h4⟩)).mono ?_
    rintro e w3 ⟨rfl, hB1, b3⟩
    have hRe3 := HRe.out.chg (Chg.of_below (fun _ => False) b3) (fun _ _ h => h)
    have hLe3 := HLe.out.keep (Y := w3) (fun g t cs _ hb => hb.below b3 hb.lt)
    have h3 := Lib.hid (h2.out.below rNode_keeps b3)
    have HRe3 := Lib.hid hRe3
    have HLe3 := Lib.hid hLe3
    have HB1 := Lib.hid hB1
    clear hRe3 hLe3 hB1
    go_wp2_with fail
    refine (told_any w3 A n c l _ _ _ xe _ h3.out (by omega) HRe3.out HLe3.out (by omega) rfl (fun q hq => by obtain ⟨s, h3, h4⟩ := eqs_mem hq; exact ⟨by have := sideList_mem h3; omega, h4⟩)).mono ?_
    rintro e w4 ⟨rfl, hB2, b4⟩
    have k1 := sl_spots Hs.out (HB1.out.below b4 HB1.out.lt) rfl (by omega) (fun q hq => by obtain ⟨s, h3, _⟩ := lqs_mem hq; exact sideList_mem h3)
    have k2 := sl_spots Hs.out hB2 rfl (by omega) (fun q hq => by obtain ⟨s, h3, _⟩ := eqs_mem hq; exact sideList_mem h3)
    have K := Lib.hid (And.intro k1 k2)
    clear k1 k2 hB2
    go_wp2_with fail
    refine bodyPost_ret (v := .tuple #[.slice (some ⟨w2.heap.size, 0, none⟩) (lqs l (sideList l)).length (lqs l (sideList l)).length, .slice (some ⟨w3.heap.size, 0, none⟩) (eqs l (sideList l)).length (eqs l (sideList l)).length]) (by simp [results, Tryz.results57, go_sem]) rfl ?_
    rw [Hsp.out]
    exact ⟨_, _, _, _, _, _, rfl, K.out.1, K.out.2, Nat.le_refl _, Nat.le_refl _, by omega, by omega, ((b1.trans (b2.mono b1.size)).trans (b3.mono (Nat.le_trans b1.size b2.size))).trans (b4.mono (Nat.le_trans (Nat.le_trans b1.size b2.size) b3.size))⟩
  · have z : (((checkBody l : Nat) : Int) != 0) = true := by rw [bne_iff_ne]; omega
    have CT := Lib.hid cT
    have Hck := Lib.hid hck
    clear cT hck
    go_enter Tryz.func57, Tryz.ntmps57
    go_wp2_with fail
    refine CT.out.mono ?_
    rintro e w1 ⟨rfl, b1⟩
    go_wp2_with fail
    refine bodyPost_ret (v := .tuple #[.slice none 0 0, .slice none 0 0]) (by simp [results, Tryz.results57, go_sem]) rfl ?_
    rw [spotsOf, if_neg Hck.out]
    exact ⟨_, _, _, _, _, _, rfl, Sl.nil _, Sl.nil _, Nat.le_refl _, Nat.le_refl _, by omega, by omega, b1⟩
end Go.Proofs.YtcgnbpjbpbabaaaGreatDoor
end
