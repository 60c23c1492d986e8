/- types: named, may. types: may. types: Check. -/
import Derived.Test.YtcgnbpjbpbabaaaGreatDoorMg10
import Derived.Maps.OwnSet
import Derived.Maps.Keyed
section
set_option linter.unusedVariables false
set_option linter.unusedSimpArgs false
set_option maxRecDepth 100000
set_option maxHeartbeats 1000000
namespace Go.Proofs.YtcgnbpjbpbabaaaGreatDoor
open Go.RowKit
theorem dropWhile_nil {α : Type} (p : α → Bool) : ∀ l : List α, l.dropWhile p = [] ↔ ∀ x ∈ l, p x = true
  | [] => by simp
  | a :: r => by
    rw [List.dropWhile_cons]
    cases h : p a
    · simp [h]
    · simp [h, dropWhile_nil p r]
theorem dropWhile_head {α : Type} (p : α → Bool) : ∀ (l : List α) (a : α) (r : List α), l.dropWhile p = a :: r → p a = false
  | [], a, r, h => by simp at h
  | b :: l, a, r, h => by
    rw [List.dropWhile_cons] at h
    cases hb : p b
    · rw [hb] at h
      simp at h
      rw [← h.1]
      exact hb
    · rw [hb] at h
      exact dropWhile_head p l a r (by simpa using h)
theorem trim_empty (l : List UInt8) : Lib.trimS l othersL = [] ↔ ∀ c ∈ l, othersL.contains c = true := by
  unfold Lib.trimS Lib.trimLeftS Lib.trimRightS
  constructor
  · intro h
    rw [dropWhile_nil] at h
    intro c hc
    -- what is left of the right trim has nothing but what is cut
    have hr : ∀ x ∈ (l.reverse.dropWhile (othersL.contains ·)), othersL.contains x = true := fun x hx => h x (by simpa using hx)
    cases hd : l.reverse.dropWhile (othersL.contains ·) with
    | nil =>
      rw [dropWhile_nil] at hd
      exact hd c (by simpa using hc)
    | cons a r =>
      exfalso
      have h1 : othersL.contains a = false := dropWhile_head _ _ _ _ hd
      rw [hd] at hr
      rw [hr a (by simp)] at h1
      cases h1
  · intro h
    have : l.reverse.dropWhile (othersL.contains ·) = [] := by
      rw [dropWhile_nil]
      intro c hc
      exact h c (by simpa using hc)
    rw [this]
    rfl
theorem contains_others (c : UInt8) : othersL.contains c = otherB c := by
  have : ∀ c : Fin 256, othersL.contains (UInt8.ofNat c.val) = otherB (UInt8.ofNat c.val) := by decide +kernel
  have h := this ⟨c.toNat, c.toNat_lt⟩
  simpa using h
theorem index_letters (c : UInt8) : decide (0 ≤ Lib.indexByte lettersL c) = letterB c := by
  have : ∀ c : Fin 256, decide (0 ≤ Lib.indexByte lettersL (UInt8.ofNat c.val)) = letterB (UInt8.ofNat c.val) := by decide +kernel
  have h := this ⟨c.toNat, c.toNat_lt⟩
  simpa using h
theorem restOk_false : ∀ l, restOk false l = l.all otherB
  | [] => rfl
  | c :: r => by simp [restOk, restOk_false r]
theorem letter_other (c : UInt8) (h : letterB c = true) : otherB c = true := by simp [otherB, h]
theorem nameB_parts (c : UInt8) (r : List UInt8) : nameB (c :: r) = (decide (r.length + 1 ≤ 32) && (letterB c && (c :: r).all otherB)) := by
  have : restOk true (c :: r) = (letterB c && (c :: r).all otherB) := by
    simp only [restOk, restOk_false, if_true, List.all_cons]
    cases h : letterB c
    · rfl
    · rw [letter_other c h]; rfl
  simp [nameB, this]

theorem dat_inj' {a b : ByteArray} (h : a.data.toList = b.data.toList) : a = b := by
  cases a; cases b; congr; exact Array.toList_inj.1 h

theorem named_any (s : ByteArray) (w : World) (hs : s.size ≤ 9223372036854775807) :
    Calls Tryz.prog 90 #[.string s] w fun e w' => e = .returned (.bool (nameB s.data.toList)) ∧ Below w.heap.size w w' := by
  have hsz : s.data.toList.length = s.size := by simp
  cases hl : s.data.toList with
  | nil =>
    have h0 : s.toList = [] := by rw [Lib.toList_data]; exact hl
    have h1 : s.toList.isEmpty = true := by rw [h0]; rfl
    clear hl
    go_enter Tryz.func90, Tryz.ntmps90
    go_wp2_with fail
    go_ret
    exact ⟨rfl, Below.refl _ _⟩
  | cons c r =>
    rw [hl] at hsz
    simp only [List.length_cons] at hsz
    have h1 : s.toList.isEmpty = false := by rw [Lib.toList_data, hl]; rfl
    have h2 : (!s.toList.isEmpty) = true := by rw [h1]; rfl
    have i0 : (1 : Int) ≤ (s.size : Int) := by omega
    by_cases hbig : 32 < s.size
    · have i1 : (32 : Int) < (s.size : Int) := by omega
      have hv : nameB (c :: r) = false := by rw [nameB_parts, decide_eq_false (by omega)]; rfl
      rw [hv]
      clear hl hv hsz
      go_enter Tryz.func90, Tryz.ntmps90
      go_wp2_with fail
      go_ret
      exact ⟨rfl, Below.refl _ _⟩
    · have i1 : (s.size : Int) ≤ 32 := by omega
      have hv : nameB (c :: r) = (letterB c && (c :: r).all otherB) := by rw [nameB_parts, decide_eq_true (by omega)]; rfl
      rw [hv]
      have hex : s.extract 0 1 = ⟨#[c]⟩ := by
        apply dat_inj'
        rw [Lib.extract_data, hl]
        rfl
      have cC := Tryz.strings_Contains_one ⟨lettersL.toArray⟩ c w
      rw [show (decide (0 ≤ Lib.indexByte (ByteArray.mk lettersL.toArray).data.toList c)) = letterB c from index_letters c] at cC
      have hcon := Any.strings_Trim_laid Tryz.lays160 (by kernel_rfl) s ⟨othersL.toArray⟩ w hs (by decide) (ascii_of_all (by decide))
      change Calls Tryz.prog 105 _ _ _ at hcon
      have htr : (Lib.trimS s.data.toList (ByteArray.mk othersL.toArray).data.toList).isEmpty = (c :: r).all otherB := by
        rw [Bool.eq_iff_iff, List.isEmpty_iff, show (ByteArray.mk othersL.toArray).data.toList = othersL from rfl, trim_empty, hl, List.all_eq_true]
        simp only [contains_others]
      obtain ⟨T, hT⟩ : ∃ T, Lib.trimS s.data.toList (ByteArray.mk othersL.toArray).data.toList = T := ⟨_, rfl⟩
      rw [hT] at htr hcon
      obtain ⟨q, hq⟩ : ∃ q, (c :: r).all otherB = q := ⟨_, rfl⟩
      rw [hq] at htr ⊢
      have CT := Lib.hid hcon
      have Htr := Lib.hid htr
      clear hT htr hq hcon hv hsz hl
      cases hlc : letterB c <;> rw [hlc] at cC
      · have CC := Lib.hid cC
        clear cC
        go_enter Tryz.func90, Tryz.ntmps90
        go_wp2_with fail
        refine CC.out.mono ?_
        rintro e w1 ⟨rfl, e1⟩
        obtain rfl := e1.symm
        go_wp2_with fail
        go_ret
        exact ⟨rfl, Below.refl _ _⟩
      · have CC := Lib.hid cC
        clear cC
        go_enter Tryz.func90, Tryz.ntmps90
        go_wp2_with fail
        refine CC.out.mono ?_
        rintro e w1 ⟨rfl, e1⟩
        obtain rfl := e1.symm
        go_wp2_with fail
        refine CT.out.mono ?_
        rintro e w1 ⟨rfl, b1⟩
        go_wp2_with fail
        go_ret
        exact ⟨ret_bool (by rw [Htr.out]; rfl), b1⟩

theorem kind_keyed : Maps.Keyed Tryz.prog 66 := Maps.int_keyed Tryz.underlying66
theorem int_zero (w : World) : (zeroValue 3).run Tryz.prog w = .ok (.int .i64 0) w := by kernel_rfl
/-- the map of how many stand below a reference, or a function -/
theorem kidsMap (w : World) : ∃ W2 W3, (Instr.mapUpdate 163 (.map (some w.heap.size)) (.int .u8 4) (.int .i64 1)).run Tryz.prog (w.alloc (.map #[] 0)) = .ok () W2 ∧
    (Instr.mapUpdate 163 (.map (some w.heap.size)) (.int .u8 5) (.int .i64 2)).run Tryz.prog W2 = .ok () W3 ∧ (w.alloc (.map #[] 0)).grownBy W3 (some w.heap.size) ∧
    (Instr.lookup 163 (.map (some w.heap.size)) (.int .u8 3) true).run Tryz.prog W3 = .ok (.tuple #[.int .i64 0, .bool false]) W3 ∧
    (Instr.lookup 163 (.map (some w.heap.size)) (.int .u8 4) true).run Tryz.prog W3 = .ok (.tuple #[.int .i64 1, .bool true]) W3 ∧
    (Instr.lookup 163 (.map (some w.heap.size)) (.int .u8 5) true).run Tryz.prog W3 = .ok (.tuple #[.int .i64 2, .bool true]) W3 := by
  have o1 := World.ownsMap_made (H := Unit) w Tryz.prog 66 (plainElem Tryz.prog 3)
  have k3 : keyOf Tryz.prog 66 (.int .u8 3) = some (.int .u8 3) := Maps.keyOf_int_mk Tryz.underlying66 (by decide)
  have k4 : keyOf Tryz.prog 66 (.int .u8 4) = some (.int .u8 4) := Maps.keyOf_int_mk Tryz.underlying66 (by decide)
  have k5 : keyOf Tryz.prog 66 (.int .u8 5) = some (.int .u8 5) := Maps.keyOf_int_mk Tryz.underlying66 (by decide)
  obtain ⟨W2, r2, o2, g2⟩ := o1.update kind_keyed Tryz.underlying163 (by unfold maxLen; omega) k4 (plainElem_int Tryz.underlying3 (a := 1) (by decide))
  obtain ⟨W3, r3, o3, g3⟩ := o2.update kind_keyed Tryz.underlying163 (by unfold maxLen; omega) k5 (plainElem_int Tryz.underlying3 (a := 2) (by decide))
  have hz0 : plainElem (H := Unit) Tryz.prog 3 (.int .i64 0) = some (.lit (.int .i64 0), []) := plainElem_int Tryz.underlying3 (by decide)
  refine ⟨W2, W3, r2, r3, g2.trans g3, ?_, ?_, ?_⟩
  · obtain ⟨v, ps, hr, hv⟩ := o3.look_ok kind_keyed Tryz.underlying163 (int_zero W3) hz0 k3
    obtain ⟨c, rfl, hc, _⟩ := plainElem_int_inv Tryz.underlying3 hv
    have e : DataW.lit (H := Unit) (.int .i64 0) = .lit (.int .i64 c) := congrArg Prod.fst hc
    injection e with e
    injection e with _ e
    rw [hr, ← e]
    rfl
  · obtain ⟨v, ps, hr, hv⟩ := o3.look_ok kind_keyed Tryz.underlying163 (int_zero W3) hz0 k4
    obtain ⟨c, rfl, hc, _⟩ := plainElem_int_inv Tryz.underlying3 hv
    have e : DataW.lit (H := Unit) (.int .i64 1) = .lit (.int .i64 c) := congrArg Prod.fst hc
    injection e with e
    injection e with _ e
    rw [hr, ← e]
    rfl
  · obtain ⟨v, ps, hr, hv⟩ := o3.look_ok kind_keyed Tryz.underlying163 (int_zero W3) hz0 k5
    obtain ⟨c, rfl, hc, _⟩ := plainElem_int_inv Tryz.underlying3 hv
    have e : DataW.lit (H := Unit) (.int .i64 2) = .lit (.int .i64 c) := congrArg Prod.fst hc
    injection e with e
    injection e with _ e
    rw [hr, ← e]
    rfl
end Go.Proofs.YtcgnbpjbpbabaaaGreatDoor
end

section
set_option linter.unusedVariables false
set_option linter.unusedSimpArgs false
set_option maxRecDepth 100000
set_option maxHeartbeats 2000000
namespace Go.Proofs.YtcgnbpjbpbabaaaGreatDoor
open Go.RowKit
theorem may1_any (md : Int) (nm : ByteArray) (ks : Int) (lv pv ev : Bool) (ln pn en : Nat) (w : World) (hk : okNode ⟨1, md, nm, ks, ⟨lv, ln⟩, ⟨pv, pn⟩, ⟨ev, en⟩⟩) :
    Calls Tryz.prog 72 #[.agg #[.int .u8 1, .int .i64 md, .string nm, .int .i64 ks, .bool lv, .int .u64 ln, .bool pv, .int .u64 pn, .bool ev, .int .u64 en]] w fun e w' => e = .returned (.bool (mayB ⟨1, md, nm, ks, ⟨lv, ln⟩, ⟨pv, pn⟩, ⟨ev, en⟩⟩)) ∧ Below w.heap.size w w' := by
  unfold okNode at hk
  dsimp only at hk
  obtain ⟨h1, ⟨h2, h2'⟩, h3, ⟨h4, h4'⟩, h5, h6, h7⟩ := hk
  have hv : mayB ⟨1, md, nm, ks, ⟨lv, ln⟩, ⟨pv, pn⟩, ⟨ev, en⟩⟩ = (md == 0 && baseN nm && (ks == 0 && noTerm ⟨pv, pn⟩ && noTerm ⟨ev, en⟩)) := by simp [mayB]
  rw [hv]
  have cB := typesBase_any nm
  by_cases hm : md = 0
  · subst hm
    cases tb : baseN nm <;> rw [tb] at cB
    all_goals
      have CB := Lib.hid cB
      clear cB hv tb
      go_enter Tryz.func72, Tryz.ntmps72
      go_wp2_with fail
      refine (CB.out _).mono ?_
      rintro e w1 ⟨rfl, b1⟩
      obtain ⟨hc1, hf1⟩ := bcell b1
      have hB := ((Below.refl _ w).alloc (Nat.le_refl _) _).trans (b1.mono (by simp))
      have HB := Lib.hid hB
      clear hB
      go_wp2_with fail
      all_goals
        go_ret
        exact ⟨ret_bool (by first | (simp [noTerm, *]; done) | (simp [noTerm, *]; intros; omega) | (simp_all [noTerm]; done)), HB.out⟩
  · have z : (md != 0) = true := by rw [bne_iff_ne]; exact hm
    have z2 : (md == 0) = false := by rw [beq_eq_false_iff_ne]; exact hm
    rw [z2]
    go_enter Tryz.func72, Tryz.ntmps72
    go_wp2_with fail
    go_ret
    exact ⟨rfl, ((Below.refl _ w).alloc (Nat.le_refl _) _)⟩
theorem may2_any (md : Int) (nm : ByteArray) (ks : Int) (lv pv ev : Bool) (ln pn en : Nat) (w : World) (hk : okNode ⟨2, md, nm, ks, ⟨lv, ln⟩, ⟨pv, pn⟩, ⟨ev, en⟩⟩) :
    Calls Tryz.prog 72 #[.agg #[.int .u8 2, .int .i64 md, .string nm, .int .i64 ks, .bool lv, .int .u64 ln, .bool pv, .int .u64 pn, .bool ev, .int .u64 en]] w fun e w' => e = .returned (.bool (mayB ⟨2, md, nm, ks, ⟨lv, ln⟩, ⟨pv, pn⟩, ⟨ev, en⟩⟩)) ∧ Below w.heap.size w w' := by
  unfold okNode at hk
  dsimp only at hk
  obtain ⟨h1, ⟨h2, h2'⟩, h3, ⟨h4, h4'⟩, h5, h6, h7⟩ := hk
  have hv : mayB ⟨2, md, nm, ks, ⟨lv, ln⟩, ⟨pv, pn⟩, ⟨ev, en⟩⟩ = (decide (0 ≤ md) && decide (md ≤ 16) && nameB nm.data.toList && (ks == 0 && noTerm ⟨pv, pn⟩ && noTerm ⟨ev, en⟩)) := by simp [mayB]
  rw [hv]
  have cB := fun W => named_any nm W (by omega)
  by_cases hm : 0 ≤ md
  · by_cases hm2 : md ≤ 16
    · rw [decide_eq_true hm, decide_eq_true hm2]
      have z : (md < 0) = False := by simp; omega
      have z2 : (16 < md) = False := by simp; omega
      cases tb : nameB nm.data.toList <;> rw [tb] at cB
      all_goals
        have CB := Lib.hid cB
        clear cB hv tb
        go_enter Tryz.func72, Tryz.ntmps72
        go_wp2_with fail
        refine (CB.out _).mono ?_
        rintro e w1 ⟨rfl, b1⟩
        obtain ⟨hc1, hf1⟩ := bcell b1
        have hB := ((Below.refl _ w).alloc (Nat.le_refl _) _).trans (b1.mono (by simp))
        have HB := Lib.hid hB
        clear hB
        go_wp2_with fail
        all_goals
          go_ret
          exact ⟨ret_bool (by first | (simp [noTerm, *]; done) | (simp [noTerm, *]; intros; omega) | (simp_all [noTerm]; done)), HB.out⟩
    · rw [decide_eq_false hm2]
      have z2 : 16 < md := by omega
      go_enter Tryz.func72, Tryz.ntmps72
      go_wp2_with fail
      go_ret
      exact ⟨ret_bool (by simp), ((Below.refl _ w).alloc (Nat.le_refl _) _)⟩
  · rw [decide_eq_false hm]
    have z2 : md < 0 := by omega
    go_enter Tryz.func72, Tryz.ntmps72
    go_wp2_with fail
    go_ret
    exact ⟨rfl, ((Below.refl _ w).alloc (Nat.le_refl _) _)⟩
theorem may3_any (md : Int) (nm : ByteArray) (ks : Int) (lv pv ev : Bool) (ln pn en : Nat) (w : World) (hk : okNode ⟨3, md, nm, ks, ⟨lv, ln⟩, ⟨pv, pn⟩, ⟨ev, en⟩⟩) :
    Calls Tryz.prog 72 #[.agg #[.int .u8 3, .int .i64 md, .string nm, .int .i64 ks, .bool lv, .int .u64 ln, .bool pv, .int .u64 pn, .bool ev, .int .u64 en]] w fun e w' => e = .returned (.bool (mayB ⟨3, md, nm, ks, ⟨lv, ln⟩, ⟨pv, pn⟩, ⟨ev, en⟩⟩)) ∧ Below w.heap.size w w' := by
  unfold okNode at hk
  dsimp only at hk
  obtain ⟨h1, ⟨h2, h2'⟩, h3, ⟨h4, h4'⟩, h5, h6, h7⟩ := hk
  have hv : mayB ⟨3, md, nm, ks, ⟨lv, ln⟩, ⟨pv, pn⟩, ⟨ev, en⟩⟩ = (nm.toList.isEmpty && md == 0 && decide (0 ≤ ks) && (noTerm ⟨pv, pn⟩ && noTerm ⟨ev, en⟩)) := by simp [mayB]
  rw [hv]
  cases te : nm.toList.isEmpty
  · have hne : ¬ nm.toList = [] := by intro h; rw [h] at te; cases te
    clear hv
    go_enter Tryz.func72, Tryz.ntmps72
    go_wp2_with fail
    go_ret
    exact ⟨rfl, ((Below.refl _ w).alloc (Nat.le_refl _) _)⟩
  · have hne : nm.toList = [] := by simpa using te
    by_cases hm : md = 0
    · subst hm
      have hmm := @run_makeMap Tryz.prog
      have hB1 := ((Below.refl _ w).alloc (Nat.le_refl _) (Obj.cells #[.int .u8 3, .int .i64 0, .string nm, .int .i64 ks, .bool lv, .int .u64 ln, .bool pv, .int .u64 pn, .bool ev, .int .u64 en] 68))
      obtain ⟨W2, W3, r2, r3, g23, l3, l4, l5⟩ := kidsMap (w.alloc (Obj.cells #[.int .u8 3, .int .i64 0, .string nm, .int .i64 ks, .bool lv, .int .u64 ln, .bool pv, .int .u64 pn, .bool ev, .int .u64 en] 68))
      have hsz : (w.alloc (Obj.cells #[.int .u8 3, .int .i64 0, .string nm, .int .i64 ks, .bool lv, .int .u64 ln, .bool pv, .int .u64 pn, .bool ev, .int .u64 en] 68)).heap.size = w.heap.size + 1 := by simp
      rw [hsz] at r2 r3 g23 l3 l4 l5
      have hBm := (hB1.alloc hB1.size (.map #[] 0)).grown g23 (by simp; omega) (fun k hk => by cases hk; omega)
      have hcn : ∀ j, W3.cell? ⟨w.heap.size, j, none⟩ = #[Value.int .u8 3, .int .i64 0, .string nm, .int .i64 ks, .bool lv, .int .u64 ln, .bool pv, .int .u64 pn, .bool ev, .int .u64 en][j]? := fun j => by
        have h1 := Blk.new w 68 #[Value.int .u8 3, .int .i64 0, .string nm, .int .i64 ks, .bool lv, .int .u64 ln, .bool pv, .int .u64 pn, .bool ev, .int .u64 en]
        have h2 := (h1.alloc (.map #[] 0)).grown g23 (by simp)
        exact h2.cell j
      have n0 := hcn 0
      have n3 := hcn 3
      have n5 := hcn 5
      have n6 := hcn 6
      have n7 := hcn 7
      have n8 := hcn 8
      have n9 := hcn 9
      have n4 := hcn 4
      simp at n0 n3 n4 n5 n6 n7 n8 n9
      have HB := Lib.hid hBm
      clear hcn hBm hB1 g23 hsz hv te
      go_enter Tryz.func72, Tryz.ntmps72
      go_wp2_with fail
      all_goals
        go_ret
        exact ⟨ret_bool (by first | (simp [noTerm, *]; done) | (simp [noTerm, *]; intros; omega) | (simp_all [noTerm]; done)), HB.out⟩
    · have z : (md != 0) = true := by rw [bne_iff_ne]; exact hm
      have z2 : (md == 0) = false := by rw [beq_eq_false_iff_ne]; exact hm
      rw [z2]
      clear hv
      go_enter Tryz.func72, Tryz.ntmps72
      go_wp2_with fail
      go_ret
      exact ⟨rfl, ((Below.refl _ w).alloc (Nat.le_refl _) _)⟩
theorem may4_any (md : Int) (nm : ByteArray) (ks : Int) (lv pv ev : Bool) (ln pn en : Nat) (w : World) (hk : okNode ⟨4, md, nm, ks, ⟨lv, ln⟩, ⟨pv, pn⟩, ⟨ev, en⟩⟩) :
    Calls Tryz.prog 72 #[.agg #[.int .u8 4, .int .i64 md, .string nm, .int .i64 ks, .bool lv, .int .u64 ln, .bool pv, .int .u64 pn, .bool ev, .int .u64 en]] w fun e w' => e = .returned (.bool (mayB ⟨4, md, nm, ks, ⟨lv, ln⟩, ⟨pv, pn⟩, ⟨ev, en⟩⟩)) ∧ Below w.heap.size w w' := by
  unfold okNode at hk
  dsimp only at hk
  obtain ⟨h1, ⟨h2, h2'⟩, h3, ⟨h4, h4'⟩, h5, h6, h7⟩ := hk
  have hv : mayB ⟨4, md, nm, ks, ⟨lv, ln⟩, ⟨pv, pn⟩, ⟨ev, en⟩⟩ = (nm.toList.isEmpty && md == 0 && ks == 1 && (noTerm ⟨pv, pn⟩ && noTerm ⟨ev, en⟩)) := by simp [mayB]
  rw [hv]
  cases te : nm.toList.isEmpty
  · have hne : ¬ nm.toList = [] := by intro h; rw [h] at te; cases te
    clear hv
    go_enter Tryz.func72, Tryz.ntmps72
    go_wp2_with fail
    go_ret
    exact ⟨rfl, ((Below.refl _ w).alloc (Nat.le_refl _) _)⟩
  · have hne : nm.toList = [] := by simpa using te
    by_cases hm : md = 0
    · subst hm
      have hmm := @run_makeMap Tryz.prog
      have hB1 := ((Below.refl _ w).alloc (Nat.le_refl _) (Obj.cells #[.int .u8 4, .int .i64 0, .string nm, .int .i64 ks, .bool lv, .int .u64 ln, .bool pv, .int .u64 pn, .bool ev, .int .u64 en] 68))
      obtain ⟨W2, W3, r2, r3, g23, l3, l4, l5⟩ := kidsMap (w.alloc (Obj.cells #[.int .u8 4, .int .i64 0, .string nm, .int .i64 ks, .bool lv, .int .u64 ln, .bool pv, .int .u64 pn, .bool ev, .int .u64 en] 68))
      have hsz : (w.alloc (Obj.cells #[.int .u8 4, .int .i64 0, .string nm, .int .i64 ks, .bool lv, .int .u64 ln, .bool pv, .int .u64 pn, .bool ev, .int .u64 en] 68)).heap.size = w.heap.size + 1 := by simp
      rw [hsz] at r2 r3 g23 l3 l4 l5
      have hBm := (hB1.alloc hB1.size (.map #[] 0)).grown g23 (by simp; omega) (fun k hk => by cases hk; omega)
      have hcn : ∀ j, W3.cell? ⟨w.heap.size, j, none⟩ = #[Value.int .u8 4, .int .i64 0, .string nm, .int .i64 ks, .bool lv, .int .u64 ln, .bool pv, .int .u64 pn, .bool ev, .int .u64 en][j]? := fun j => by
        have h1 := Blk.new w 68 #[Value.int .u8 4, .int .i64 0, .string nm, .int .i64 ks, .bool lv, .int .u64 ln, .bool pv, .int .u64 pn, .bool ev, .int .u64 en]
        have h2 := (h1.alloc (.map #[] 0)).grown g23 (by simp)
        exact h2.cell j
      have n0 := hcn 0
      have n3 := hcn 3
      have n5 := hcn 5
      have n6 := hcn 6
      have n7 := hcn 7
      have n8 := hcn 8
      have n9 := hcn 9
      have n4 := hcn 4
      simp at n0 n3 n4 n5 n6 n7 n8 n9
      have HB := Lib.hid hBm
      clear hcn hBm hB1 g23 hsz hv te
      go_enter Tryz.func72, Tryz.ntmps72
      go_wp2_with fail
      all_goals
        go_ret
        exact ⟨ret_bool (by first | (simp [noTerm, *]; done) | (simp [noTerm, *]; intros; omega) | (simp_all [noTerm]; done)), HB.out⟩
    · have z : (md != 0) = true := by rw [bne_iff_ne]; exact hm
      have z2 : (md == 0) = false := by rw [beq_eq_false_iff_ne]; exact hm
      rw [z2]
      clear hv
      go_enter Tryz.func72, Tryz.ntmps72
      go_wp2_with fail
      go_ret
      exact ⟨rfl, ((Below.refl _ w).alloc (Nat.le_refl _) _)⟩
theorem may5_any (md : Int) (nm : ByteArray) (ks : Int) (lv pv ev : Bool) (ln pn en : Nat) (w : World) (hk : okNode ⟨5, md, nm, ks, ⟨lv, ln⟩, ⟨pv, pn⟩, ⟨ev, en⟩⟩) :
    Calls Tryz.prog 72 #[.agg #[.int .u8 5, .int .i64 md, .string nm, .int .i64 ks, .bool lv, .int .u64 ln, .bool pv, .int .u64 pn, .bool ev, .int .u64 en]] w fun e w' => e = .returned (.bool (mayB ⟨5, md, nm, ks, ⟨lv, ln⟩, ⟨pv, pn⟩, ⟨ev, en⟩⟩)) ∧ Below w.heap.size w w' := by
  unfold okNode at hk
  dsimp only at hk
  obtain ⟨h1, ⟨h2, h2'⟩, h3, ⟨h4, h4'⟩, h5, h6, h7⟩ := hk
  have hv : mayB ⟨5, md, nm, ks, ⟨lv, ln⟩, ⟨pv, pn⟩, ⟨ev, en⟩⟩ = (nm.toList.isEmpty && md == 0 && ks == 2) := by simp [mayB]
  rw [hv]
  cases te : nm.toList.isEmpty
  · have hne : ¬ nm.toList = [] := by intro h; rw [h] at te; cases te
    clear hv
    go_enter Tryz.func72, Tryz.ntmps72
    go_wp2_with fail
    go_ret
    exact ⟨rfl, ((Below.refl _ w).alloc (Nat.le_refl _) _)⟩
  · have hne : nm.toList = [] := by simpa using te
    by_cases hm : md = 0
    · subst hm
      have hmm := @run_makeMap Tryz.prog
      have hB1 := ((Below.refl _ w).alloc (Nat.le_refl _) (Obj.cells #[.int .u8 5, .int .i64 0, .string nm, .int .i64 ks, .bool lv, .int .u64 ln, .bool pv, .int .u64 pn, .bool ev, .int .u64 en] 68))
      obtain ⟨W2, W3, r2, r3, g23, l3, l4, l5⟩ := kidsMap (w.alloc (Obj.cells #[.int .u8 5, .int .i64 0, .string nm, .int .i64 ks, .bool lv, .int .u64 ln, .bool pv, .int .u64 pn, .bool ev, .int .u64 en] 68))
      have hsz : (w.alloc (Obj.cells #[.int .u8 5, .int .i64 0, .string nm, .int .i64 ks, .bool lv, .int .u64 ln, .bool pv, .int .u64 pn, .bool ev, .int .u64 en] 68)).heap.size = w.heap.size + 1 := by simp
      rw [hsz] at r2 r3 g23 l3 l4 l5
      have hBm := (hB1.alloc hB1.size (.map #[] 0)).grown g23 (by simp; omega) (fun k hk => by cases hk; omega)
      have hcn : ∀ j, W3.cell? ⟨w.heap.size, j, none⟩ = #[Value.int .u8 5, .int .i64 0, .string nm, .int .i64 ks, .bool lv, .int .u64 ln, .bool pv, .int .u64 pn, .bool ev, .int .u64 en][j]? := fun j => by
        have h1 := Blk.new w 68 #[Value.int .u8 5, .int .i64 0, .string nm, .int .i64 ks, .bool lv, .int .u64 ln, .bool pv, .int .u64 pn, .bool ev, .int .u64 en]
        have h2 := (h1.alloc (.map #[] 0)).grown g23 (by simp)
        exact h2.cell j
      have n0 := hcn 0
      have n3 := hcn 3
      have n5 := hcn 5
      have n6 := hcn 6
      have n7 := hcn 7
      have n8 := hcn 8
      have n9 := hcn 9
      have n4 := hcn 4
      simp at n0 n3 n4 n5 n6 n7 n8 n9
      have HB := Lib.hid hBm
      clear hcn hBm hB1 g23 hsz hv te
      go_enter Tryz.func72, Tryz.ntmps72
      go_wp2_with fail
      all_goals
        go_ret
        exact ⟨ret_bool (by first | (simp [noTerm, *]; done) | (simp [noTerm, *]; intros; omega) | (simp_all [noTerm]; done)), HB.out⟩
    · have z : (md != 0) = true := by rw [bne_iff_ne]; exact hm
      have z2 : (md == 0) = false := by rw [beq_eq_false_iff_ne]; exact hm
      rw [z2]
      clear hv
      go_enter Tryz.func72, Tryz.ntmps72
      go_wp2_with fail
      go_ret
      exact ⟨rfl, ((Below.refl _ w).alloc (Nat.le_refl _) _)⟩
theorem may0_any (kd : Nat) (md : Int) (nm : ByteArray) (ks : Int) (lv pv ev : Bool) (ln pn en : Nat) (w : World) (hk : okNode ⟨kd, md, nm, ks, ⟨lv, ln⟩, ⟨pv, pn⟩, ⟨ev, en⟩⟩) (h0 : ¬ (kd = 1 ∨ kd = 2 ∨ kd = 3 ∨ kd = 4 ∨ kd = 5)) :
    Calls Tryz.prog 72 #[.agg #[.int .u8 kd, .int .i64 md, .string nm, .int .i64 ks, .bool lv, .int .u64 ln, .bool pv, .int .u64 pn, .bool ev, .int .u64 en]] w fun e w' => e = .returned (.bool (mayB ⟨kd, md, nm, ks, ⟨lv, ln⟩, ⟨pv, pn⟩, ⟨ev, en⟩⟩)) ∧ Below w.heap.size w w' := by
  unfold okNode at hk
  dsimp only at hk
  obtain ⟨h1, ⟨h2, h2'⟩, h3, ⟨h4, h4'⟩, h5, h6, h7⟩ := hk
  have hv : mayB ⟨kd, md, nm, ks, ⟨lv, ln⟩, ⟨pv, pn⟩, ⟨ev, en⟩⟩ = false := by
    rw [mayB, if_neg (by show ¬ kd = 1; omega), if_neg (by show ¬ kd = 2; omega), if_neg (by show ¬ kd = 3; omega), if_neg (by show ¬ kd = 4; omega), if_neg (by show ¬ kd = 5; omega)]
  rw [hv]
  have z1 : ((kd : Int) == 1) = false := by rw [beq_eq_false_iff_ne]; omega
  have z2 : ((kd : Int) == 2) = false := by rw [beq_eq_false_iff_ne]; omega
  have z3 : ((kd : Int) == 3) = false := by rw [beq_eq_false_iff_ne]; omega
  have z4 : ((kd : Int) == 4) = false := by rw [beq_eq_false_iff_ne]; omega
  have z5 : ((kd : Int) == 5) = false := by rw [beq_eq_false_iff_ne]; omega
  clear hv
  go_enter Tryz.func72, Tryz.ntmps72
  go_wp2_with fail
  go_ret
  exact ⟨rfl, ((Below.refl _ w).alloc (Nat.le_refl _) _)⟩
theorem may_any (kd : Nat) (md : Int) (nm : ByteArray) (ks : Int) (lv pv ev : Bool) (ln pn en : Nat) (w : World) (hk : okNode ⟨kd, md, nm, ks, ⟨lv, ln⟩, ⟨pv, pn⟩, ⟨ev, en⟩⟩) :
    Calls Tryz.prog 72 #[.agg #[.int .u8 kd, .int .i64 md, .string nm, .int .i64 ks, .bool lv, .int .u64 ln, .bool pv, .int .u64 pn, .bool ev, .int .u64 en]] w fun e w' => e = .returned (.bool (mayB ⟨kd, md, nm, ks, ⟨lv, ln⟩, ⟨pv, pn⟩, ⟨ev, en⟩⟩)) ∧ Below w.heap.size w w' := by
  by_cases h0 : kd = 1 ∨ kd = 2 ∨ kd = 3 ∨ kd = 4 ∨ kd = 5
  · rcases h0 with rfl | rfl | rfl | rfl | rfl
    · exact may1_any md nm ks lv pv ev ln pn en w hk
    · exact may2_any md nm ks lv pv ev ln pn en w hk
    · exact may3_any md nm ks lv pv ev ln pn en w hk
    · exact may4_any md nm ks lv pv ev ln pn en w hk
    · exact may5_any md nm ks lv pv ev ln pn en w hk
  · exact may0_any kd md nm ks lv pv ev ln pn en w hk h0
end Go.Proofs.YtcgnbpjbpbabaaaGreatDoor
end

section
set_option linter.unusedVariables false
set_option linter.unusedSimpArgs false
set_option maxRecDepth 100000
set_option maxHeartbeats 2000000
namespace Go.Proofs.YtcgnbpjbpbabaaaGreatDoor
open Go.RowKit

theorem tcheck_any (A : Option Addr) (n c : Nat) (l : List Node) (w : World) (h : Sl rNode 10 w A n l) :
    Calls Tryz.prog 55 #[.slice A n c] w fun e w' => e = .returned (.int .i64 (checkBody l : Nat)) ∧ Below w.heap.size w w' := by
  have Hl := Lib.hid h.1
  have hn := h.2.1
  by_cases h0 : n = 0
  · subst h0
    have hv : checkBody l = 1 := by rw [checkBody, if_pos Hl.out]
    rw [hv]
    clear hv
    go_enter Tryz.func55, Tryz.ntmps55
    go_wp2_with fail
    go_ret
    exact ⟨rfl, Below.refl _ _⟩
  · have z0 : ((n : Int) == 0) = false := by rw [beq_eq_false_iff_ne]; omega
    by_cases hbig : 128 < n
    · have hv : checkBody l = 3 := by rw [checkBody, if_neg (by rw [Hl.out]; exact h0), if_pos (by rw [Hl.out]; exact hbig)]
      rw [hv]
      have z1 : (128 : Int) < (n : Int) := by omega
      clear hv
      go_enter Tryz.func55, Tryz.ntmps55
      go_wp2_with fail
      go_ret
      exact ⟨rfl, Below.refl _ _⟩
    · have hv : checkBody l = checkGo [1] l := by rw [checkBody, if_neg (by rw [Hl.out]; exact h0), if_neg (by rw [Hl.out]; exact hbig)]
      rw [hv]
      have Hv := Lib.hid hv
      clear hv
      have z1 : (n : Int) ≤ 128 := by omega
      go_enter Tryz.func55, Tryz.ntmps55
      go_wp2_with fail
      go_loopw [18] (fun v w' => ∃ i : Nat, v = .int .i64 i ∧ i ≤ n ∧ Below w.heap.size w w' ∧ ∃ o, Stk w.heap.size w' (w.heap.size + 1) o ∧ o.length ≤ 18 ∧ (∀ x ∈ o, x ≤ 8) ∧ checkGo [1] l = checkGo o (l.drop i)) (fun v _ => n - (intOf v).toNat)
      case atStart =>
        refine ⟨0, rfl, by omega, ((Below.refl _ w).alloc (Nat.le_refl _) _).alloc (by simp) _, [1], ⟨.slice (some ⟨w.heap.size, 0, none⟩) 1 1, ?_, by omega, ?_⟩, by simp, by simp, rfl⟩
        · have := Blk.new (w.alloc (Obj.cells #[Value.int IntKind.i64 1] 3)) 141 #[.slice (some ⟨w.heap.size, 0, none⟩) 1 1]
          simpa using this
        refine ⟨rfl, .inr ⟨w.heap.size, 1, #[.int .i64 1], rfl, Nat.le_refl _, (Blk.new w _ _).alloc _, Nat.le_refl _, by simp [maxLen], by simp, rfl⟩⟩
      case round =>
        obtain ⟨i, rfl, hi, hbw, o, hS, ho, hle, hgo⟩ := hrel
        have Hgo := Lib.hid hgo
        clear hgo
        by_cases hlt : i < n
        · have hSl := h.below rNode_keeps hbw
          obtain ⟨b0, o0, x, cs, rfl, hxk, ⟨rfl, hok⟩, _, hcs⟩ := hSl.at_ hlt (by omega)
          obtain ⟨kd, md, nm, ks, ⟨lv, ln⟩, ⟨pv, pn⟩, ⟨ev, en⟩⟩ := x
          have c0 := hcs 0 _ rfl
          have c1 := hcs 1 _ rfl
          have c2 := hcs 2 _ rfl
          have c3 := hcs 3 _ rfl
          have c4 := hcs 4 _ rfl
          have c5 := hcs 5 _ rfl
          have c6 := hcs 6 _ rfl
          have c7 := hcs 7 _ rfl
          have c8 := hcs 8 _ rfl
          have c9 := hcs 9 _ rfl
          simp only [Nat.add_zero] at c0
          dsimp only at c0 c1 c2 c3 c4 c5 c6 c7 c8 c9
          have Hok := Lib.hid hok
          have Hxk := Lib.hid hxk
          clear hcs hok hxk hSl
          have i1 : (i : Int) < (n : Int) := by omega
          have hks : ks < 9223372036854775808 := by have := Hok.out.2.2.2.1; unfold i64 at this; dsimp only at this; omega
          have hmx : max 0 ks = ((ks.toNat : Nat) : Int) := by omega
          have HMX := Lib.hid hmx
          clear hmx
          have hcons : checkGo o (l.drop i) = if (takesO o ks.toNat).2 = 0 || !mayB ⟨kd, md, nm, ks, ⟨lv, ln⟩, ⟨pv, pn⟩, ⟨ev, en⟩⟩ then 4 else if 8 < ks || 16 < (takesO o ks.toNat).2 then 3 else checkGo (takesO o ks.toNat).1 (l.drop (i + 1)) := by
            rw [List.drop_eq_getElem_cons (by have := Hl.out; omega), (List.getElem?_eq_some_iff.1 Hxk.out).2]
            rfl
          have hlen2 : (takesO o ks.toNat).1.length ≤ (takesO o ks.toNat).2 + 1 := by
            unfold takesO
            cases dropZ o <;> simp
          have hle2 : ∀ x ∈ (takesO o ks.toNat).1, x ≤ ks.toNat ∨ x ≤ 8 := by
            have hz : ∀ o : List Nat, (∀ x ∈ o, x ≤ 8) → ∀ x ∈ dropZ o, x ≤ 8 := by
              intro o
              induction o with
              | nil => intro h x hx; simp [dropZ] at hx
              | cons a r ih =>
                intro h
                cases a with
                | zero => rw [dropZ]; exact ih (fun x hx => h x (by simp [hx]))
                | succ a => exact h
            intro x hx
            have hzo := hz o hle
            unfold takesO at hx
            cases hd : dropZ o with
            | nil => rw [hd] at hx; simp at hx
            | cons a r =>
              rw [hd] at hx hzo
              simp at hx
              rcases hx with rfl | rfl | hx
              · exact .inl (Nat.le_refl _)
              · have := hzo a (by simp)
                exact .inr (by omega)
              · exact .inr (hzo x (by simp [hx]))
          have hS1 := hS.alloc (Obj.cells #[.int .u8 kd, .int .i64 md, .string nm, .int .i64 ks, .bool lv, .int .u64 ln, .bool pv, .int .u64 pn, .bool ev, .int .u64 en] 68)
          have hbw1 := hbw.alloc hbw.size (Obj.cells #[.int .u8 kd, .int .i64 md, .string nm, .int .i64 ks, .bool lv, .int .u64 ln, .bool pv, .int .u64 pn, .bool ev, .int .u64 en] 68)
          have hNB := Blk.new wr 68 #[.int .u8 kd, .int .i64 md, .string nm, .int .i64 ks, .bool lv, .int .u64 ln, .bool pv, .int .u64 pn, .bool ev, .int .u64 en]
          have cT := takes_any w.heap.size (w.heap.size + 1) o ks.toNat _ hS1 hbw1.size (by omega) (by omega) hle
          obtain ⟨d, hd⟩ : ∃ d, (takesO o ks.toNat).2 = d := ⟨_, rfl⟩
          obtain ⟨o2, ho2⟩ : ∃ o2, (takesO o ks.toNat).1 = o2 := ⟨_, rfl⟩
          rw [hd] at cT hlen2 hcons
          rw [ho2] at cT hlen2 hle2 hcons
          have CT := Lib.hid cT
          have Hle2 := Lib.hid hle2
          have Hcons := Lib.hid hcons
          have HNB := Lib.hid hNB
          clear cT hle2 hcons hd ho2 hle hS hS1 hNB
          obtain ⟨mv, hmv⟩ : ∃ m, mayB ⟨kd, md, nm, ks, ⟨lv, ln⟩, ⟨pv, pn⟩, ⟨ev, en⟩⟩ = m := ⟨_, rfl⟩
          have cMay := fun W => may_any kd md nm ks lv pv ev ln pn en W Hok.out
          rw [hmv] at cMay Hcons
          have CMay := Lib.hid cMay
          clear cMay hmv
          go_wp2_with fail
          rw [HMX.out]
          refine CT.out.mono ?_
          rintro e w2 ⟨rfl, hS2, hb2, hct2⟩
          have hN2 : Blk w2 wr.heap.size 68 _ := Chg.blk hct2 HNB.out (fun hs => by
            rcases hs with ⟨cs, hb⟩ | ⟨cs, hb⟩
            · exact Blk.ne_ hb HNB.out (by decide) rfl
            · exact Blk.ne_ hb HNB.out (by decide) rfl)
          have hbw2 := hbw1.trans hb2
          have n0 := hN2.cell 0
          have n1 := hN2.cell 1
          have n2 := hN2.cell 2
          have n3 := hN2.cell 3
          have n4 := hN2.cell 4
          have n5 := hN2.cell 5
          have n6 := hN2.cell 6
          have n7 := hN2.cell 7
          have n8 := hN2.cell 8
          have n9 := hN2.cell 9
          simp at n0 n1 n2 n3 n4 n5 n6 n7 n8 n9
          have HN2 := Lib.hid hN2
          clear hN2 hct2
          by_cases hd0 : d = 0
          · subst hd0
            go_wp2_with fail
            go_ret
            exact ⟨ret_int (by rw [Hgo.out, Hcons.out]; rfl), hbw2⟩
          · have zd : ((d : Int) == 0) = false := by rw [beq_eq_false_iff_ne]; omega
            have hd0' : decide (d = 0) = false := by simp [hd0]
            cases mv
            · go_wp2_with fail
              refine (CMay.out _).mono ?_
              rintro e w3 ⟨rfl, b3⟩
              go_wp2_with fail
              go_ret
              exact ⟨ret_int (by rw [Hgo.out, Hcons.out]; simp), hbw2.trans (b3.mono hbw2.size)⟩
            · go_wp2_with fail
              refine (CMay.out _).mono ?_
              rintro e w3 ⟨rfl, b3⟩
              obtain ⟨hc3, hf3⟩ := bcell b3
              have hlt3 : wr.heap.size < w2.heap.size := HN2.out.lt
              by_cases hk8 : 8 < ks
              · go_wp2_with fail
                go_ret
                exact ⟨ret_int (by rw [Hgo.out, Hcons.out]; simp [hd0, hk8]), hbw2.trans (b3.mono hbw2.size)⟩
              · have zk : (8 < ks) = False := by simp; omega
                by_cases hd16 : 16 < d
                · have zd16 : (16 : Int) < (d : Int) := by omega
                  go_wp2_with fail
                  go_ret
                  exact ⟨ret_int (by rw [Hgo.out, Hcons.out]; simp [hd0, hd16]), hbw2.trans (b3.mono hbw2.size)⟩
                · have zd16 : ((d : Int) ≤ 16) := by omega
                  have hS3 : Stk w.heap.size w3 (w.heap.size + 1) o2 := by
                    obtain ⟨v, h1, h2, h3⟩ := hS2
                    exact ⟨v, h1.below b3 h1.lt, h2, h3.chg (Chg.of_below (fun _ => False) b3) (fun _ _ h => h)⟩
                  have HS3 := Lib.hid hS3
                  clear hS3 hS2 zk
                  go_wp2_with fail
                  refine ⟨⟨i + 1, by go_num, by omega, hbw2.trans (b3.mono hbw2.size), o2, HS3.out, by omega, fun x hx => by have := Hle2.out x hx; omega, ?_⟩, by simp [intOf]; omega⟩
                  rw [Hgo.out, Hcons.out]
                  simp [hd0, hd16]
                  intro h8
                  omega
        · obtain rfl : i = n := by omega
          obtain ⟨B, c', hcell, hR⟩ := hS.reads (by omega) hle
          have hend : checkGo o (l.drop i) = if fullO o then 0 else 4 := by rw [List.drop_eq_nil_of_le (by have := Hl.out; omega)]; rfl
          have cF := full_any B o.length c' o wr hR
          obtain ⟨q, hq⟩ : ∃ q, fullO o = q := ⟨_, rfl⟩
          rw [hq] at cF hend
          have CF := Lib.hid cF
          have Hend := Lib.hid hend
          clear cF hend hR hS hq
          cases q
          all_goals
            go_wp2_with fail
            refine CF.out.mono ?_
            rintro e w2 ⟨rfl, b2⟩
            go_wp2_with fail
            go_ret
            exact ⟨ret_int (by rw [Hgo.out, Hend.out]; rfl), hbw.trans (b2.mono hbw.size)⟩
end Go.Proofs.YtcgnbpjbpbabaaaGreatDoor
end
