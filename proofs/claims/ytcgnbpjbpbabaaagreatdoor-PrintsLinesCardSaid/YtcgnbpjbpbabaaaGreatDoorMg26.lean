/- the chapter's interface: its text, reckoned. lives: the walk. What is printed, in plain Lean: as many line's ends as lines, each behind a ';', one at the end. -/
import Derived.Test.YtcgnbpjbpbabaaaGreatDoorMg24
import Derived.Test.YtcgnbpjbpbabaaaGreatDoorMg25
section
set_option linter.unusedVariables false
set_option maxRecDepth 100000
namespace Go.Proofs.YtcgnbpjbpbabaaaGreatDoor
def livF : Face := ⟨⟨#[109]⟩, [⟨#[97]⟩, ⟨#[98]⟩], [3, 2], [⟨#[105, 111]⟩], [], [], [⟨⟨#[102]⟩, ⟨1, 0, [⟨1, 0, ⟨#[105, 110, 116]⟩, 0, ⟨true, 0⟩, ⟨false, 0⟩, ⟨false, 0⟩⟩], [⟨⟨false, 0⟩, ⟨true, 0⟩⟩], []⟩⟩]⟩
def livL : List UInt8 := [105, 110, 116, 101, 114, 102, 97, 99, 101, 32, 109, 59, 10, 108, 97, 98, 101, 108, 115, 32, 97, 32, 98, 59, 10, 111, 114, 100, 101, 114, 32, 97, 32, 60, 61, 32, 98, 59, 10, 101, 102, 102, 101, 99, 116, 115, 32, 105, 111, 59, 10, 116, 121, 112, 101, 115, 59, 10, 118, 97, 108, 32, 102, 32, 91, 49, 32, 48, 93, 58, 32, 105, 110, 116, 64, 37, 48, 32, 124, 32, 97, 32, 60, 61, 32, 37, 48, 32, 124, 59, 10]
theorem livF_check : checkFace livF = 0 := by decide +kernel
theorem livF_text : printL livF = livL := by decide +kernel
theorem livF_print : printR livF = (⟨livL.toArray⟩, 0) := by
  unfold printR
  rw [if_neg (by rw [livF_check]; decide), livF_text, if_neg (by decide)]
end Go.Proofs.YtcgnbpjbpbabaaaGreatDoor
end

section
set_option linter.unusedVariables false
set_option linter.unusedSimpArgs false
set_option maxRecDepth 100000
set_option maxHeartbeats 2000000
namespace Go.Proofs.YtcgnbpjbpbabaaaGreatDoor
open Go.RowKit
theorem print_any (f : Face) (A1 A2 A3 A4 A5 A6 : Option Addr) (n1 c1 n2 c2 n3 c3 n4 c4 n5 c5 n6 c6 : Nat) (w : World) (hmod : f.module.size ≤ 4611686018427387904) (h1 : Strs w A1 n1 f.labels) (h2 : Sl rNum 1 w A2 n2 f.rows) (h3 : Strs w A3 n3 f.effects) (h4 : Strs w A4 n4 f.types) (h5 : Sl rImport 2 w A5 n5 f.imports) (h6 : Sl rEntry 6 w A6 n6 f.entries)
    (k1 : n1 ≤ c1) (k3 : n3 ≤ c3) (k4 : n4 ≤ c4) (b5 : n5 * 16 ≤ 140737488355328) (b6 : n6 * 16 ≤ 140737488355328) (hT : Tabs w) (hP : PowTab w) :
    Calls Tryz.prog 6 #[.agg #[.string f.module, .slice A1 n1 c1, .slice A2 n2 c2, .slice A3 n3 c3, .slice A4 n4 c4, .slice A5 n5 c5, .slice A6 n6 c6]] w fun r w' => r = .returned (.tuple #[.string (printR f).1, .int .i64 ((printR f).2 : Nat)]) ∧ Below w.heap.size w w' := by
  by_cases h : checkFace f = 0
  · exact print_good f A1 A2 A3 A4 A5 A6 n1 c1 n2 c2 n3 c3 n4 c4 n5 c5 n6 c6 w hmod h1 h2 h3 h4 h5 h6 k1 k3 k4 b5 b6 hT hP h
  · exact print_bad f A1 A2 A3 A4 A5 A6 n1 c1 n2 c2 n3 c3 n4 c4 n5 c5 n6 c6 w hmod h1 h2 h3 h4 h5 h6 k1 k3 k4 b5 b6 hT h
theorem sl_one {α : Type} {R : World → List Value → α → Prop} {size g : Nat} {t : TypeId} {w : World} {cs : List Value} {x : α} (hB : Blk w g t cs.toArray) (hR : R w cs x) (hs : cs.length = size) : Sl R size w (some ⟨g, 0, none⟩) 1 [x] := by
  refine ⟨rfl, by omega, fun _ => ⟨_, rfl, fun j y hy => ?_⟩⟩
  cases j with
  | zero =>
    simp at hy
    subst hy
    refine ⟨cs, hR, hs, fun k u hu => ?_⟩
    rw [add_lit', hB.cell, List.getElem?_toArray]
    simpa using hu
  | succ j => simp at hy
theorem sl_two {α : Type} {R : World → List Value → α → Prop} {g : Nat} {t : TypeId} {w : World} {a b : Value} {x y : α} (hB : Blk w g t #[a, b]) (ha : R w [a] x) (hb : R w [b] y) : Sl R 1 w (some ⟨g, 0, none⟩) 2 [x, y] := by
  refine ⟨rfl, by omega, fun _ => ⟨_, rfl, fun j z hz => ?_⟩⟩
  match j, hz with
  | 0, hz =>
    simp at hz
    subst hz
    refine ⟨[a], ha, rfl, fun k u hu => ?_⟩
    have hk : k = 0 := by have := (List.getElem?_eq_some_iff.1 hu).1; simpa using this
    subst hk
    rw [add_lit', hB.cell]
    simpa using hu
  | 1, hz =>
    simp at hz
    subst hz
    refine ⟨[b], hb, rfl, fun k u hu => ?_⟩
    have hk : k = 0 := by have := (List.getElem?_eq_some_iff.1 hu).1; simpa using this
    subst hk
    rw [add_lit', hB.cell]
    simpa using hu
  | j + 2, hz => simp at hz
theorem lives_any (w : World) (hT : Tabs w) (hP : PowTab w) : Calls Tryz.prog 5 #[] w fun e w' => e = .returned (.bool true) ∧ Below w.heap.size w w' := by
  have c1 := law18One_any w
  unfold oneV at c1
  have C1 := Lib.hid c1
  have HT := Lib.hid hT
  have HP := Lib.hid hP
  clear c1 hT hP
  obtain ⟨h, hh⟩ : ∃ h, w.heap.size = h := ⟨_, rfl⟩
  go_enter Tryz.func5, Tryz.ntmps5
  go_wp2_with fail
  refine C1.out.mono ?_
  rintro e w1 ⟨rfl, ⟨o1, o2, o3, o5, o6, o7⟩, hb, hs⟩
  rw [hh] at o1 o2 o3 o5 o6 o7 hs ⊢
  obtain ⟨g, hg⟩ : ∃ g, w1.heap.size = g := ⟨_, rfl⟩
  obtain ⟨W1, hW1⟩ : ∃ W1, w1.alloc (.cells #[.string ⟨#[109]⟩, .slice (some ⟨h + 1, 0, none⟩) 2 2, .slice (some ⟨h + 2, 0, none⟩) 2 2, .slice (some ⟨h + 3, 0, none⟩) 1 1, .slice (some ⟨h + 4, 0, none⟩) 1 1, .slice none 0 0, .slice (some ⟨h + 7, 0, none⟩) 1 1] 27) = W1 := ⟨_, rfl⟩
  have hF : Blk W1 g 27 #[.string ⟨#[109]⟩, .slice (some ⟨h + 1, 0, none⟩) 2 2, .slice (some ⟨h + 2, 0, none⟩) 2 2, .slice (some ⟨h + 3, 0, none⟩) 1 1, .slice (some ⟨h + 4, 0, none⟩) 1 1, .slice none 0 0, .slice (some ⟨h + 7, 0, none⟩) 1 1] := by rw [← hW1, ← hg]; exact Blk.new w1 _ _
  have hbW1 : Below h w W1 := by rw [← hW1, ← hh]; exact hb.alloc (by omega) _
  have p1 := Eq.subst (motive := fun W => Blk W (h + 1) _ _) hW1 (o1.alloc _)
  have p2 := Eq.subst (motive := fun W => Blk W (h + 2) _ _) hW1 (o2.alloc _)
  have p3 := Eq.subst (motive := fun W => Blk W (h + 3) _ _) hW1 (o3.alloc _)
  have p5 := Eq.subst (motive := fun W => Blk W (h + 5) _ _) hW1 (o5.alloc _)
  have p6 := Eq.subst (motive := fun W => Blk W (h + 6) _ _) hW1 (o6.alloc _)
  have p7 := Eq.subst (motive := fun W => Blk W (h + 7) _ _) hW1 (o7.alloc _)
  have f4 := hF.frozen 4
  have k4 := hF.cell 4
  simp at k4
  obtain ⟨W2, hW2⟩ : ∃ W2, W1.setCell ⟨g, 4, none⟩ (.slice none 0 0) = W2 := ⟨_, rfl⟩
  have hF2 : Blk W2 g 27 #[.string ⟨#[109]⟩, .slice (some ⟨h + 1, 0, none⟩) 2 2, .slice (some ⟨h + 2, 0, none⟩) 2 2, .slice (some ⟨h + 3, 0, none⟩) 1 1, .slice none 0 0, .slice none 0 0, .slice (some ⟨h + 7, 0, none⟩) 1 1] := by
    rw [← hW2]
    have := hF.set_ 4 (.slice none 0 0)
    simpa using this
  have r1 := Eq.subst (motive := fun W => Blk W (h + 1) _ _) hW2 (p1.far (p := ⟨g, 4, none⟩) (by show h + 1 ≠ g; omega) _)
  have r2 := Eq.subst (motive := fun W => Blk W (h + 2) _ _) hW2 (p2.far (p := ⟨g, 4, none⟩) (by show h + 2 ≠ g; omega) _)
  have r3 := Eq.subst (motive := fun W => Blk W (h + 3) _ _) hW2 (p3.far (p := ⟨g, 4, none⟩) (by show h + 3 ≠ g; omega) _)
  have r5 := Eq.subst (motive := fun W => Blk W (h + 5) _ _) hW2 (p5.far (p := ⟨g, 4, none⟩) (by show h + 5 ≠ g; omega) _)
  have r6 := Eq.subst (motive := fun W => Blk W (h + 6) _ _) hW2 (p6.far (p := ⟨g, 4, none⟩) (by show h + 6 ≠ g; omega) _)
  have r7 := Eq.subst (motive := fun W => Blk W (h + 7) _ _) hW2 (p7.far (p := ⟨g, 4, none⟩) (by show h + 7 ≠ g; omega) _)
  have hbW2 : Below h w W2 := by rw [← hW2]; exact hbW1.setCell (p := ⟨g, 4, none⟩) (by show h ≤ g; omega) _
  have t6 := hF2.cell 6
  have t74 := r7.cell 4
  have t61 := r6.cell 1
  have f61 := r6.frozen 1
  simp at t6 t74 t61
  have l7 := r7.lt
  have l6 := r6.lt
  have lg := hF2.lt
  obtain ⟨W3, hW3⟩ : ∃ W3, W2.setCell ⟨h + 6, 1, none⟩ (.int .u64 0) = W3 := ⟨_, rfl⟩
  have hF3 := Eq.subst (motive := fun W => Blk W g _ _) hW3 (hF2.far (p := ⟨h + 6, 1, none⟩) (by show g ≠ h + 6; omega) _)
  have s1 := Eq.subst (motive := fun W => Blk W (h + 1) _ _) hW3 (r1.far (p := ⟨h + 6, 1, none⟩) (by show h + 1 ≠ h + 6; omega) _)
  have s2 := Eq.subst (motive := fun W => Blk W (h + 2) _ _) hW3 (r2.far (p := ⟨h + 6, 1, none⟩) (by show h + 2 ≠ h + 6; omega) _)
  have s3 := Eq.subst (motive := fun W => Blk W (h + 3) _ _) hW3 (r3.far (p := ⟨h + 6, 1, none⟩) (by show h + 3 ≠ h + 6; omega) _)
  have s5 := Eq.subst (motive := fun W => Blk W (h + 5) _ _) hW3 (r5.far (p := ⟨h + 6, 1, none⟩) (by show h + 5 ≠ h + 6; omega) _)
  have s7 := Eq.subst (motive := fun W => Blk W (h + 7) _ _) hW3 (r7.far (p := ⟨h + 6, 1, none⟩) (by show h + 7 ≠ h + 6; omega) _)
  have s6 : Blk W3 (h + 6) 39 #[.bool false, .int .u64 0, .bool true, .int .u64 0] := by
    rw [← hW3]
    have := r6.set_ 1 (.int .u64 0)
    simpa using this
  have hbW3 : Below h w W3 := by rw [← hW3]; exact hbW2.setCell (p := ⟨h + 6, 1, none⟩) (by show h ≤ h + 6; omega) _
  have cP := print_any livF (some ⟨h + 1, 0, none⟩) (some ⟨h + 2, 0, none⟩) (some ⟨h + 3, 0, none⟩) none none (some ⟨h + 7, 0, none⟩) 2 2 2 2 1 1 0 0 0 0 1 1 W3 (by decide)
    (sl_strs.1 (sl_two s1 ⟨rfl, by decide⟩ ⟨rfl, by decide⟩)) (sl_two s2 ⟨rfl, by unfold u64; decide⟩ ⟨rfl, by unfold u64; decide⟩) (sl_strs.1 (sl_one (cs := [_]) s3 ⟨rfl, by decide⟩ rfl)) (sl_strs.1 (Sl.nil none)) (Sl.nil none)
    (sl_one (cs := [_, _, _, _, _, _]) s7 ⟨_, rfl, by decide, by unfold i64; decide, by unfold i64; decide, _, _, _, _, _, _, _, _, _, rfl, sl_one (cs := [_, _, _, _, _, _, _, _, _, _]) s5 ⟨rfl, by unfold okNode i64 u64; decide⟩ rfl, sl_one (cs := [_, _, _, _]) s6 ⟨rfl, by unfold u64; decide⟩ rfl, Sl.nil none, by omega, by omega, by omega⟩ rfl)
    (by omega) (by omega) (by omega) (by omega) (by omega) (HT.out.below (hh ▸ hbW3)) (powTab_below HP.out (hh ▸ hbW3))
  rw [livF_print] at cP
  obtain ⟨sv, hsv⟩ : ∃ sv : ByteArray, (⟨livL.toArray⟩ : ByteArray) = sv := ⟨_, rfl⟩
  rw [hsv] at cP
  have HSv := Lib.hid hsv
  have CP := Lib.hid cP
  have HB3 := Lib.hid hbW3
  have t30 := hF3.cell 0
  have t31 := hF3.cell 1
  have t32 := hF3.cell 2
  have t33 := hF3.cell 3
  have t34 := hF3.cell 4
  have t35 := hF3.cell 5
  have t36 := hF3.cell 6
  have l3 := hF3.lt
  simp at t30 t31 t32 t33 t34 t35 t36
  clear hsv hbW3 cP s1 s2 s3 s5 s6 s7 r1 r2 r3 r5 r6 r7 p1 p2 p3 p5 p6 p7 o1 o2 o3 o5 o6 o7 hF hF2 hF3
  go_wp2_with fail
  refine CP.out.mono ?_
  rintro r w4 ⟨rfl, hb4⟩
  go_wp2_with fail
  go_ret
  have hsl : sv.toList = livL := by rw [← HSv.out, Lib.toList_data]
  refine ⟨?_, ?_⟩
  · show Ending.returned (Value.bool (sv.toList == livL)) = _
    rw [hsl, beq_self_eq_true]
  · rw [hh]
    exact HB3.out.trans (hb4.mono (hh ▸ HB3.out.size))
end Go.Proofs.YtcgnbpjbpbabaaaGreatDoor
end

section
set_option linter.unusedVariables false
set_option linter.unusedSimpArgs false
namespace Go.Proofs.YtcgnbpjbpbabaaaGreatDoor
open Go.RowKit
def byt (ps : List ByteArray) : List UInt8 := ps.flatMap (·.data.toList)
theorem byt_append (a b : List ByteArray) : byt (a ++ b) = byt a ++ byt b := by simp [byt]
theorem byt_ne {l : List ByteArray} (h : ∀ s ∈ l, PieceG s) : (10 : UInt8) ∉ byt l := by
  simp only [byt, List.mem_flatMap, not_exists, not_and]
  exact fun s hs => (h s hs).2
theorem byt_lines (a : List ByteArray) (r : List (List ByteArray)) : byt (lnT (a :: r)) = (byt a ++ [59, 10]) ++ byt (lnT r) := by
  have h1 : lnT (a :: r) = (a ++ [semiB]) ++ lnT r := by simp [lnT]
  rw [h1, byt_append, byt_append]
  rfl
/-- each line's end stands behind a ';' -/
def EndOk (L : List UInt8) : Prop := ∀ i : Nat, L[i]? = some 10 → ∃ j : Nat, i = j + 1 ∧ L[j]? = some 59
theorem EndOk.append {A B : List UInt8} (hA : EndOk A) (hB : EndOk B) : EndOk (A ++ B) := by
  intro i hi
  by_cases h : i < A.length
  · rw [List.getElem?_append_left h] at hi
    obtain ⟨j, rfl, hj⟩ := hA i hi
    exact ⟨j, rfl, by rw [List.getElem?_append_left (by omega)]; exact hj⟩
  · rw [List.getElem?_append_right (by omega)] at hi
    obtain ⟨j, e, hj⟩ := hB _ hi
    exact ⟨A.length + j, by omega, by rw [List.getElem?_append_right (by omega), Nat.add_sub_cancel_left]; exact hj⟩
theorem endOk_line {x : List UInt8} (h : (10 : UInt8) ∉ x) : EndOk (x ++ [59, 10]) := by
  intro i hi
  by_cases h1 : i < x.length
  · rw [List.getElem?_append_left h1] at hi
    exact absurd (List.mem_of_getElem? hi) h
  · rw [List.getElem?_append_right (by omega)] at hi
    refine ⟨x.length, ?_, by rw [List.getElem?_append_right (by omega)]; simp⟩
    have hl := (List.getElem?_eq_some_iff.1 hi).1
    simp only [List.length_cons, List.length_nil] at hl
    by_cases h0 : i - x.length = 0
    · rw [h0] at hi
      simp at hi
    · omega
theorem lines_ok : ∀ {Ls : List (List ByteArray)}, (∀ l ∈ Ls, LineOk l) → EndOk (byt (lnT Ls)) ∧ (byt (lnT Ls)).count 10 = Ls.length ∧ (Ls ≠ [] → ∃ M, byt (lnT Ls) = M ++ [10])
  | [], _ => ⟨by intro i hi; simp [lnT, byt] at hi, by simp [lnT, byt], fun h => absurd rfl h⟩
  | a :: r, h => by
    obtain ⟨h1, h2, h3⟩ := lines_ok (Ls := r) (fun l hl => h l (List.mem_cons_of_mem _ hl))
    have ha := byt_ne (h a (List.mem_cons_self ..)).2
    rw [byt_lines]
    refine ⟨(endOk_line ha).append h1, ?_, fun _ => ?_⟩
    · rw [List.count_append, List.count_append, List.count_eq_zero.2 ha, h2, List.length_cons]
      have : List.count (10 : UInt8) [59, 10] = 1 := by decide
      omega
    · by_cases hr : r = []
      · subst hr
        exact ⟨byt a ++ [59], by simp [lnT, byt]⟩
      · obtain ⟨M, hM⟩ := h3 hr
        exact ⟨(byt a ++ [59, 10]) ++ M, by rw [hM]; simp [List.append_assoc]⟩
/-- the law, in plain words -/
theorem print_lines {f : Face} (h : checkFace f = 0) (hs : ∀ x ∈ f.imports, x.sum < 4294967296) :
    EndOk (printL f) ∧ (printL f).count 10 = 5 + f.imports.length + f.entries.length ∧ ∃ M, printL f = M ++ [10] := by
  obtain ⟨h1, h2, h3⟩ := lines_ok (print_ok (faceOk h) hs)
  refine ⟨h1, ?_, h3 (by simp [printLs, headLs])⟩
  show (byt (lnT (printLs f))).count 10 = _
  rw [h2]
  simp [printLs, headLs]
  omega
/-- how many line's ends stand ahead of a place -/
def endsTo (L : List UInt8) (i : Nat) : Nat := (L.take i).count 10
theorem endsTo_succ {L : List UInt8} {i : Nat} {c : UInt8} (h : L[i]? = some c) : endsTo L (i + 1) = endsTo L i + if c = 10 then 1 else 0 := by
  rw [endsTo, endsTo, List.take_add_one, h, List.count_append]
  congr 1
  by_cases hc : c = 10
  · subst hc; simp
  · rw [if_neg hc]
    simp [hc]
theorem endsTo_all (L : List UInt8) : endsTo L L.length = L.count 10 := by rw [endsTo, List.take_length]
theorem endsTo_le (L : List UInt8) (i : Nat) : endsTo L i ≤ i := by
  have h1 := List.count_le_length (a := (10 : UInt8)) (l := L.take i)
  rw [List.length_take] at h1
  unfold endsTo
  omega
end Go.Proofs.YtcgnbpjbpbabaaaGreatDoor
end
