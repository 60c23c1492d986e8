/- PrintsLines: the law's walk. How an argument that is an interface opens: what its cells say. The library's tables, from the row's condition. -/
import Derived.Test.YtcgnbpjbpbabaaaGreatDoorMg26
import Derived.Test.YtcgnbpjbpbabaaaGreatDoorMg02
import Derived.Deep.Slices
import Derived.Deep.Fields
import Derived.SizedLaws
import Derived.LaidSub
import Derived.Lib.LaidTab
section
set_option linter.unusedVariables false
set_option linter.unusedSimpArgs false
set_option maxRecDepth 100000
set_option maxHeartbeats 2000000
namespace Go.Proofs.YtcgnbpjbpbabaaaGreatDoor
open Go.RowKit
attribute [-go_sem] run_index_string
/-- what Print answers, as the law asks -/
theorem printR_law (f : Face) (hs : ∀ x ∈ f.imports, x.sum < 4294967296) : ∃ s e0, printR f = (s, e0) ∧ ((e0 ≠ 0 ∧ s = ⟨#[]⟩) ∨ (e0 = 0 ∧ s.size ≤ 1048576 ∧ EndOk s.data.toList ∧ s.data.toList.count 10 = 5 + f.imports.length + f.entries.length ∧ ∃ M, s.data.toList = M ++ [10])) := by
  unfold printR
  split
  · rename_i h
    exact ⟨_, _, rfl, .inl ⟨h, rfl⟩⟩
  · rename_i h
    split
    · exact ⟨_, _, rfl, .inl ⟨by decide, rfl⟩⟩
    · rename_i h2
      obtain ⟨h3, h4, h5⟩ := print_lines (Decidable.not_not.1 h) hs
      refine ⟨_, _, rfl, .inr ⟨rfl, ?_, by simpa using h3, by simpa using h4, by simpa using h5⟩⟩
      show (printL f).toArray.size ≤ _
      rw [List.size_toArray]
      omega
theorem index_at (s : ByteArray) (k : Nat) (c : UInt8) (h : s.data.toList[k]? = some c) (W : World) : (Instr.index 9 (.string s) (.int .i64 (k : Nat))).run Tryz.prog W = .ok (.int .u8 (c.toNat : Nat)) W := by
  obtain ⟨hk, hc⟩ := List.getElem?_eq_some_iff.1 h
  have hk2 : k < s.size := by rw [Array.length_toList] at hk; exact hk
  rw [run_index_string W 9 s .i64 (k : Nat) Tryz.underlying9, dif_pos ⟨by omega, by omega⟩]
  have : s[(k : Int).toNat]'(by simpa using hk2) = c := by
    rw [← hc]
    simp only [Int.toNat_natCast]
    rfl
  rw [this]
theorem law_any (f : Face) (A1 A2 A3 A4 A5 A6 : Option Addr) (n1 c1 n2 c2 n3 c3 n4 c4 n5 c5 n6 c6 : Nat) (w : World) (hmod : f.module.size ≤ 4611686018427387904) (h1 : Strs w A1 n1 f.labels) (h2 : Sl rNum 1 w A2 n2 f.rows) (h3 : Strs w A3 n3 f.effects) (h4 : Strs w A4 n4 f.types) (h5 : Sl rImport 2 w A5 n5 f.imports) (h6 : Sl rEntry 6 w A6 n6 f.entries)
    (k1 : n1 ≤ c1) (k3 : n3 ≤ c3) (k4 : n4 ≤ c4) (b1 : n1 ≤ 140737488355328) (b2 : n2 ≤ 140737488355328) (b3 : n3 ≤ 140737488355328) (b4 : n4 ≤ 140737488355328) (b5 : n5 * 16 ≤ 140737488355328) (b6 : n6 * 16 ≤ 140737488355328) (hse : ∀ x ∈ f.entries, SmallEnt x) (hT : Tabs w) (hP : PowTab w) :
    Calls Tryz.prog 3 #[.agg #[.string f.module, .slice A1 n1 c1, .slice A2 n2 c2, .slice A3 n3 c3, .slice A4 n4 c4, .slice A5 n5 c5, .slice A6 n6 c6]] w fun r w' => r = .returned (.bool true) ∧ Below w.heap.size w w' := by
  have hsum : ∀ x ∈ f.imports, x.sum < 4294967296 := fun x hx => by
    obtain ⟨j, hj, rfl⟩ := List.getElem_of_mem hx
    obtain ⟨ad, e, hc⟩ := h5.2.2 (by have := h5.1; omega)
    obtain ⟨cs, h1, _⟩ := hc j _ (List.getElem?_eq_getElem hj)
    exact h1.2.2
  obtain ⟨s, e0, hpr, hcase⟩ := printR_law f hsum
  have l5 := h5.1
  have l6 := h6.1
  obtain ⟨W0, hW0⟩ : ∃ W0, w.alloc (.cells #[.string f.module, .slice A1 n1 c1, .slice A2 n2 c2, .slice A3 n3 c3, .slice A4 n4 c4, .slice A5 n5 c5, .slice A6 n6 c6] 27) = W0 := ⟨_, rfl⟩
  have hb0 : Below w.heap.size w W0 := by rw [← hW0]; exact (Below.refl _ w).alloc (Nat.le_refl _) _
  have hB0 : Blk W0 w.heap.size 27 #[.string f.module, .slice A1 n1 c1, .slice A2 n2 c2, .slice A3 n3 c3, .slice A4 n4 c4, .slice A5 n5 c5, .slice A6 n6 c6] := by rw [← hW0]; exact Blk.new w _ _
  have hrd : ∀ W', Below w.heap.size w W' → Strs W' A1 n1 f.labels ∧ Sl rNum 1 W' A2 n2 f.rows ∧ Strs W' A3 n3 f.effects ∧ Strs W' A4 n4 f.types ∧ Sl rImport 2 W' A5 n5 f.imports ∧ Sl rEntry 6 W' A6 n6 f.entries ∧ Tabs W' ∧ PowTab W' := fun W' hb =>
    ⟨sl_strs.1 ((sl_strs.2 h1).below rStr_keeps hb), h2.below rNum_keeps hb, sl_strs.1 ((sl_strs.2 h3).below rStr_keeps hb), sl_strs.1 ((sl_strs.2 h4).below rStr_keeps hb), h5.below rImport_keeps hb, h6.below rEntry_keeps hb, hT.below hb, powTab_below hP hb⟩
  have hfc : ∀ W', Below W0.heap.size W0 W' → w.heap.size < W'.heap.size ∧ W'.cell? ⟨w.heap.size, 0, none⟩ = some (.string f.module) ∧ W'.cell? ⟨w.heap.size, 1, none⟩ = some (.slice A1 n1 c1) ∧ W'.cell? ⟨w.heap.size, 2, none⟩ = some (.slice A2 n2 c2) ∧ W'.cell? ⟨w.heap.size, 3, none⟩ = some (.slice A3 n3 c3) ∧ W'.cell? ⟨w.heap.size, 4, none⟩ = some (.slice A4 n4 c4) ∧ W'.cell? ⟨w.heap.size, 5, none⟩ = some (.slice A5 n5 c5) ∧ W'.cell? ⟨w.heap.size, 6, none⟩ = some (.slice A6 n6 c6) := fun W' hb => by
    have := hB0.below hb hB0.lt
    refine ⟨this.lt, ?_, ?_, ?_, ?_, ?_, ?_, ?_⟩ <;> rw [this.cell] <;> rfl
  have cG : Calls Tryz.prog 4 #[.agg #[.string f.module, .slice A1 n1 c1, .slice A2 n2 c2, .slice A3 n3 c3, .slice A4 n4 c4, .slice A5 n5 c5, .slice A6 n6 c6]] W0 fun e w' => (∃ x : Bool, e = .returned (.bool x)) ∧ Below W0.heap.size W0 w' := by
    obtain ⟨a1, a2, a3, a4, a5, a6, _⟩ := hrd W0 hb0
    exact great_any f A1 A2 A3 A4 A5 A6 n1 c1 n2 c2 n3 c3 n4 c4 n5 c5 n6 c6 W0 a1 a3 a4 a6 b1 b2 b3 b4 (by omega) (by omega) hse
  have cP : ∀ W', Below w.heap.size w W' → Calls Tryz.prog 6 #[.agg #[.string f.module, .slice A1 n1 c1, .slice A2 n2 c2, .slice A3 n3 c3, .slice A4 n4 c4, .slice A5 n5 c5, .slice A6 n6 c6]] W' fun r w' => r = .returned (.tuple #[.string s, .int .i64 (e0 : Nat)]) ∧ Below W'.heap.size W' w' := fun W' hb => by
    obtain ⟨a1, a2, a3, a4, a5, a6, a7, a8⟩ := hrd W' hb
    have := print_any f A1 A2 A3 A4 A5 A6 n1 c1 n2 c2 n3 c3 n4 c4 n5 c5 n6 c6 W' hmod a1 a2 a3 a4 a5 a6 k1 k3 k4 b5 b6 a7 a8
    rw [hpr] at this
    exact this
  have cL : ∀ W', Below w.heap.size w W' → Calls Tryz.prog 5 #[] W' fun e w' => e = .returned (.bool true) ∧ Below W'.heap.size W' w' := fun W' hb => lives_any W' (hrd W' hb).2.2.2.2.2.2.1 (hrd W' hb).2.2.2.2.2.2.2
  have CG := Lib.hid cG
  have CP := Lib.hid cP
  have CL := Lib.hid cL
  have HFc := Lib.hid hfc
  have HB := Lib.hid hb0
  have HC := Lib.hid hcase
  have i5 : (n5 : Int) ≤ 140737488355328 := by omega
  have i6 : (n6 : Int) ≤ 140737488355328 := by omega
  clear cG cP cL hfc hrd hB0 hb0 h1 h2 h3 h4 h5 h6 hT hP hse hpr hsum hcase
  obtain ⟨gl, g0, g1, g2, g3, g4, g5, g6⟩ := HFc.out W0 (Below.refl _ _)
  go_enter Tryz.func3, Tryz.ntmps3
  go_wp2_with fail
  refine CG.out.mono ?_
  rintro r w1 ⟨⟨x, rfl⟩, e1⟩
  have hbw1 := HB.out.trans (e1.mono HB.out.size)
  clear gl g0 g1 g2 g3 g4 g5 g6
  obtain ⟨gl, g0, g1, g2, g3, g4, g5, g6⟩ := HFc.out w1 e1
  cases x
  · have CP1 := Lib.hid (CP.out w1 hbw1)
    go_wp2_with fail
    refine CP1.out.mono ?_
    rintro r w2 ⟨rfl, e2⟩
    have hbw2 := hbw1.trans (e2.mono hbw1.size)
    have e12 := e1.trans (e2.mono e1.size)
    clear gl g0 g1 g2 g3 g4 g5 g6
    obtain ⟨gl, g0, g1, g2, g3, g4, g5, g6⟩ := HFc.out w2 e12
    have CL2 := Lib.hid (CL.out w2 hbw2)
    rcases HC.out with ⟨he, rfl⟩ | ⟨rfl, hss, hend, hcnt, M, hM⟩
    · have z : ((e0 : Int) != 0) = true := by rw [bne_iff_ne]; omega
      clear he HC
      go_wp2_with fail
      refine CL2.out.mono ?_
      rintro r w3 ⟨rfl, e3⟩
      go_wp2_with fail
      go_ret
      exact ⟨rfl, hbw2.trans (e3.mono hbw2.size)⟩
    · have hLs : s.data.toList.length = s.size := by rw [Array.length_toList]; rfl
      have hIx := Lib.hid (fun k c h W => index_at s k c h W)
      obtain ⟨L, hL⟩ : ∃ L, s.data.toList = L := ⟨_, rfl⟩
      rw [hL] at hend hcnt hM hLs
      have HL := Lib.hid hL
      have HEnd := Lib.hid hend
      have HM := Lib.hid hM
      have HCnt := Lib.hid hcnt
      clear hL hend hM hcnt HC
      have i7 : (s.size : Int) ≤ 1048576 := by omega
      go_wp2_with fail
      go_loopw [5, 6] (fun nv iv wr => ∃ k : Nat, nv = .int .i64 (endsTo L k : Nat) ∧ iv = .int .i64 k ∧ k ≤ s.size ∧ wr = w2) (fun _ iv _ => s.size - (intOf iv).toNat)
      case atStart => exact ⟨0, by simp [endsTo], rfl, Nat.zero_le _, rfl⟩
      case round =>
        obtain ⟨k, rfl, rfl, hk, hww⟩ := hrel
        subst hww
        have hle := endsTo_le L k
        have j3 : (endsTo L k : Int) ≤ 1048576 := by omega
        by_cases hlt : k < s.size
        · have j1 : (k : Int) < (s.size : Int) := by omega
          obtain ⟨c, hc⟩ : ∃ c, L[k]? = some c := ⟨_, List.getElem?_eq_getElem (by omega)⟩
          have hi1 := hIx.out k c (by rw [HL.out]; exact hc)
          have hs1 := endsTo_succ hc
          by_cases hc10 : c = 10
          · subst hc10
            obtain ⟨j, rfl, hj⟩ := HEnd.out k hc
            have hi2 := hIx.out j 59 (by rw [HL.out]; exact hj)
            rw [if_pos rfl] at hs1
            have HS1 := Lib.hid hs1
            have z0 : (((j + 1 : Nat) : Int) == 0) = false := by rw [beq_eq_false_iff_ne]; omega
            rw [show (((10 : UInt8).toNat : Nat) : Int) = 10 from rfl] at hi1
            rw [show (((59 : UInt8).toNat : Nat) : Int) = 59 from rfl] at hi2
            rw [show ((j + 1 : Nat) : Int) = (j : Int) + 1 from rfl] at hi1 z0 j1
            clear hs1 hj hc
            go_wp2_with fail
            exact ⟨⟨j + 1 + 1, by rw [HS1.out]; rfl, rfl, by omega, trivial⟩, by simp [intOf]; omega⟩
          · rw [if_neg hc10, Nat.add_zero] at hs1
            have HS1 := Lib.hid hs1
            have zc : (((c.toNat : Nat) : Int) == 10) = false := by
              rw [beq_eq_false_iff_ne]
              intro h
              apply hc10
              apply UInt8.toNat.inj
              show c.toNat = 10
              omega
            clear hs1 hc
            go_wp2_with fail
            exact ⟨⟨k + 1, by simp [HS1.out], by go_num, by omega, by simp⟩, by simp [intOf]; omega⟩
        · obtain rfl : k = s.size := by omega
          have hcount : endsTo L s.size = 5 + n5 + n6 := by
            rw [← hLs, endsTo_all, HCnt.out, l5, l6]
          rw [hcount]
          have hml : M.length + 1 = s.size := by rw [← hLs, HM.out]; simp
          have hi1 := hIx.out M.length 10 (by rw [HL.out, HM.out]; simp)
          rw [show (((10 : UInt8).toNat : Nat) : Int) = 10 from rfl] at hi1
          have hz : (s.size : Int) - 1 = (M.length : Int) := by omega
          rw [← hz] at hi1
          have hsl : s.toList = L := by rw [Lib.toList_data, HL.out]
          have hne : (s.toList == []) = false := by rw [hsl, HM.out, beq_eq_false_iff_ne]; simp
          have hne2 : s.toList.isEmpty = false := by rw [hsl, HM.out]; simp
          have hne3 : s ≠ ⟨#[]⟩ := by
            rintro rfl
            have := hsl
            rw [HM.out] at this
            simp at this
          have e2' := e2
          clear hz hsl hcount hle j3 hLs
          go_wp2_with fail
          refine CL2.out.mono ?_
          rintro r w3 ⟨rfl, e3⟩
          go_wp2_with fail
          go_ret
          exact ⟨rfl, hbw2.trans (e3.mono hbw2.size)⟩
  · have CL1 := Lib.hid (CL.out w1 hbw1)
    go_wp2_with fail
    refine CL1.out.mono ?_
    rintro r w2 ⟨rfl, e2⟩
    go_wp2_with fail
    go_ret
    exact ⟨rfl, hbw1.trans (e2.mono hbw1.size)⟩
end Go.Proofs.YtcgnbpjbpbabaaaGreatDoor
end

section
set_option linter.unusedVariables false
set_option linter.unusedSimpArgs false
set_option maxRecDepth 100000
namespace Go.Proofs.YtcgnbpjbpbabaaaGreatDoor
open Go.ChangeShapes Go.WideShapes Go.ChangeAt Go.RowKit Go.Deep
theorem all_choose {α : Type} {Q : Nat → α → Prop} : ∀ n : Nat, (∀ i, i < n → ∃ y, Q i y) → ∃ l : List α, l.length = n ∧ ∀ (i : Nat) (y : α), l[i]? = some y → Q i y
  | 0, _ => ⟨[], rfl, by simp⟩
  | n + 1, h => by
    obtain ⟨l, h1, h2⟩ := all_choose n (fun i hi => h i (by omega))
    obtain ⟨y, hy⟩ := h n (by omega)
    refine ⟨l ++ [y], by simp [h1], fun i z hz => ?_⟩
    by_cases hi : i < l.length
    · rw [List.getElem?_append_left hi] at hz
      exact h2 i z hz
    · rw [List.getElem?_append_right (by omega)] at hz
      have h0 : i - l.length = 0 := by
        have := (List.getElem?_eq_some_iff.1 hz).1
        simp at this
        omega
      rw [h0] at hz
      simp at hz
      subst hz
      rw [show i = n by omega]
      exact hy
section
variable {H : Type} {enc : TypeId × Value → H} {w : World}
/-- whatever is read as an e opens as R -/
def OpensAs {α : Type} (enc : TypeId × Value → H) (w : World) (e : TypeId) (R : World → List Value → α → Prop) : Prop :=
  ∀ (fuel : Nat) (cs : List Value) (x : DataW H × List MemPlace), DataW.trod enc Tryz.prog w 0 (fun _ => true) true fuel e cs = some x → (∀ k ∈ x.1.weights Tryz.prog e, k ≤ 140737488351232) → ∃ y, R w cs y
theorem opens_slice {α : Type} {R : World → List Value → α → Prop} {t e : TypeId} {size by_ : Nat} (ht : Tryz.prog.underlying t = some (.slice e)) (hc : Tryz.prog.cellsOf e = size) (hby : Tryz.prog.bytesOf e = by_) (hO : OpensAs enc w e R)
    {fuel : Nat} {cs : List Value} {x : DataW H × List MemPlace} (h : DataW.trod enc Tryz.prog w 0 (fun _ => true) true fuel t cs = some x) (hw : ∀ k ∈ x.1.weights Tryz.prog t, k ≤ 140737488351232) :
    ∃ A n c l, cs = [.slice A n c] ∧ Sl R size w A n l ∧ n ≤ c ∧ c * by_ ≤ 140737488351232 ∧ c ≤ maxLen := by
  rcases open_slice ht h with ⟨rfl, rfl⟩ | ⟨a, len, cap, m, n, D, Pl, rfl, _, hl, hm, hmm, rfl, hi⟩
  · exact ⟨none, 0, 0, [], rfl, Sl.nil none, by omega, by omega, by omega⟩
  · simp only [if_true] at hmm
    subst hmm
    have hwts : ∀ i, i < len → ∀ k ∈ (D i).weights Tryz.prog e, k ≤ 140737488351232 := fun i hi2 k hk => hw k (by
      simp only [DataW.weights, ht, List.mem_cons, List.mem_append]
      right; left
      exact weights_all (d := D i) (List.mem_map.2 ⟨i, List.mem_range.2 hi2, rfl⟩) _ hk)
    have hcap : m * by_ ≤ 140737488351232 := by
      refine hw _ ?_
      simp only [DataW.weights, ht, List.mem_cons, hby, List.length_map, List.length_range]
      left
      rw [show len + (m - len) = m by omega]
    obtain ⟨l, hll, hlq⟩ := all_choose (Q := fun i y => ∃ cs', R w cs' y ∧ cs'.length = size ∧ ∀ k u, cs'[k]? = some u → w.cell? (a.add (i * size + k)) = some u) len (fun i hi2 => by
      obtain ⟨cs', h1, h2⟩ := hi i (by omega)
      obtain ⟨y, hy⟩ := hO _ _ _ h2 (hwts i hi2)
      rw [hc] at h1
      obtain ⟨_, h3, h4⟩ := World.cells?_some h1
      refine ⟨y, cs', hy, h3, fun k u hu => ?_⟩
      have hk := (List.getElem?_eq_some_iff.1 hu).1
      rw [← Go.Deep.add_add, h4 k (by omega)]
      exact hu)
    refine ⟨some a, len, m, l, rfl, ⟨hll, by unfold maxLen at hm; omega, fun _ => ⟨a, rfl, fun j y hy => ?_⟩⟩, hl, hcap, hm⟩
    obtain ⟨cs', h1, h2, h3⟩ := hlq j y hy
    exact ⟨cs', h1, h2, h3⟩
/-- a field of a struct -/
theorem struct_field {t : TypeId} {fs : Array Field} {fuel : Nat} {cs : List Value} {x : DataW H × List MemPlace} (ht : Tryz.prog.underlying t = some (.struct fs)) (h : DataW.trod enc Tryz.prog w 0 (fun _ => true) true fuel t cs = some x) (hw : ∀ k ∈ x.1.weights Tryz.prog t, k ≤ 140737488351232)
    (i : Nat) (f : Field) (hi : fs[i]? = some f) (u : TypeId) (off k : Nat) (hu : f.type = u) (ho : f.offset = off) (hk : Tryz.prog.cellsOf u = k) :
    ∃ n y, DataW.trod enc Tryz.prog w 0 (fun _ => true) true n u ((cs.drop off).take k) = some y ∧ ∀ m ∈ y.1.weights Tryz.prog u, m ≤ 140737488351232 := by
  obtain ⟨xs, n, _, rfl, hlen, hxl, hf⟩ := DataW.trod_struct ht h
  have hil : i < xs.length := by rw [hxl]; exact (Array.getElem?_eq_some_iff.1 hi).1
  have h1 := hf i f hi
  rw [hu, ho, hk] at h1
  refine ⟨n, xs[i], by rw [h1]; exact List.getElem?_eq_getElem hil, fun m hm => hw m ?_⟩
  simp only [DataW.weights, ht]
  refine DataW.weights_mem_each (j := i) (t := u) (d := xs[i].1) ?_ ?_ m hm
  · rw [List.getElem?_map, ← hu]
    simp [hi]
  · rw [List.getElem?_map, List.getElem?_eq_getElem hil]
    rfl
theorem struct_len {t : TypeId} {fs : Array Field} {fuel : Nat} {cs : List Value} {x : DataW H × List MemPlace} (ht : Tryz.prog.underlying t = some (.struct fs)) (h : DataW.trod enc Tryz.prog w 0 (fun _ => true) true fuel t cs = some x) : cs.length = Tryz.prog.cellsOf t := by
  obtain ⟨xs, n, _, rfl, hlen, hxl, hf⟩ := DataW.trod_struct ht h
  exact hlen
theorem wf_u64 {n : Int} (h : (Lit.int .u64 n).wf = true) : ∃ k : Nat, n = k ∧ u64 k := by
  have : 0 ≤ n ∧ n ≤ 18446744073709551615 := by simpa [Lit.wf, IntKind.min, IntKind.max, IntKind.signed, IntKind.bits] using h
  exact ⟨n.toNat, by omega, by unfold u64; omega⟩
theorem wf_u32 {n : Int} (h : (Lit.int .u32 n).wf = true) : ∃ k : Nat, n = k ∧ k < 4294967296 := by
  have : 0 ≤ n ∧ n ≤ 4294967295 := by simpa [Lit.wf, IntKind.min, IntKind.max, IntKind.signed, IntKind.bits] using h
  exact ⟨n.toNat, by omega, by omega⟩
theorem wf_u8 {n : Int} (h : (Lit.int .u8 n).wf = true) : ∃ k : Nat, n = k ∧ k < 256 := by
  have : 0 ≤ n ∧ n ≤ 255 := by simpa [Lit.wf, IntKind.min, IntKind.max, IntKind.signed, IntKind.bits] using h
  exact ⟨n.toNat, by omega, by omega⟩
theorem wf_i64 {n : Int} (h : (Lit.int .i64 n).wf = true) : i64 n := by
  have : -9223372036854775808 ≤ n ∧ n ≤ 9223372036854775807 := by simpa [Lit.wf, IntKind.min, IntKind.max, IntKind.signed, IntKind.bits] using h
  exact this
theorem opens_str : OpensAs enc w 9 rStr := by
  intro fuel cs x h hw
  obtain ⟨s, rfl, rfl, _⟩ := DataW.trod_string Tryz.underlying9 h
  have := hw s.data.toList.length (by simp [DataW.weights])
  rw [Array.length_toList] at this
  exact ⟨s, rfl, Nat.le_trans this (by decide)⟩
theorem opens_num : OpensAs enc w 35 rNum := by
  intro fuel cs x h hw
  obtain ⟨n, rfl, _, hwf⟩ := DataW.trod_int Tryz.underlying35 h
  obtain ⟨k, rfl, hk⟩ := wf_u64 hwf
  exact ⟨k, rfl, hk⟩
theorem opens_term : OpensAs enc w 37 rTerm := by
  intro fuel cs x h hw
  have hl := struct_len Tryz.underlying37 h
  rw [show Tryz.prog.cellsOf 37 = 2 by kernel_rfl] at hl
  obtain ⟨n0, y0, h0, _⟩ := struct_field Tryz.underlying37 h hw 0 _ rfl 4 0 1 rfl rfl (by kernel_rfl)
  obtain ⟨n1, y1, h1, _⟩ := struct_field Tryz.underlying37 h hw 1 _ rfl 35 1 1 rfl rfl (by kernel_rfl)
  match cs, hl with
  | [c0, c1], _ =>
    obtain ⟨b, e0, _⟩ := DataW.trod_bool Tryz.underlying4 h0
    obtain ⟨n, e1, _, hwf⟩ := DataW.trod_int Tryz.underlying35 h1
    obtain ⟨k, rfl, hk⟩ := wf_u64 hwf
    simp at e0 e1
    subst e0 e1
    exact ⟨⟨b, k⟩, rfl, hk⟩
theorem opens_bound : OpensAs enc w 39 rBound := by
  intro fuel cs x h hw
  have hl := struct_len Tryz.underlying39 h
  rw [show Tryz.prog.cellsOf 39 = 4 by kernel_rfl] at hl
  obtain ⟨n0, y0, h0, w0⟩ := struct_field Tryz.underlying39 h hw 0 _ rfl 37 0 2 rfl rfl (by kernel_rfl)
  obtain ⟨n1, y1, h1, w1⟩ := struct_field Tryz.underlying39 h hw 1 _ rfl 37 2 2 rfl rfl (by kernel_rfl)
  obtain ⟨t0, e0, u0⟩ := opens_term _ _ _ h0 w0
  obtain ⟨t1, e1, u1⟩ := opens_term _ _ _ h1 w1
  match cs, hl with
  | [c0, c1, c2, c3], _ =>
    simp [cTerm] at e0 e1
    obtain ⟨rfl, rfl⟩ := e0
    obtain ⟨rfl, rfl⟩ := e1
    exact ⟨⟨t0, t1⟩, rfl, u0, u1⟩
theorem opens_node : OpensAs enc w 68 rNode := by
  intro fuel cs x h hw
  have hl := struct_len Tryz.underlying68 h
  rw [show Tryz.prog.cellsOf 68 = 10 by kernel_rfl] at hl
  obtain ⟨n0, y0, h0, w0⟩ := struct_field Tryz.underlying68 h hw 0 _ rfl 66 0 1 rfl rfl (by kernel_rfl)
  obtain ⟨n1, y1, h1, w1⟩ := struct_field Tryz.underlying68 h hw 1 _ rfl 3 1 1 rfl rfl (by kernel_rfl)
  obtain ⟨n2, y2, h2, w2⟩ := struct_field Tryz.underlying68 h hw 2 _ rfl 9 2 1 rfl rfl (by kernel_rfl)
  obtain ⟨n3, y3, h3, w3⟩ := struct_field Tryz.underlying68 h hw 3 _ rfl 3 3 1 rfl rfl (by kernel_rfl)
  obtain ⟨n4, y4, h4, w4⟩ := struct_field Tryz.underlying68 h hw 4 _ rfl 37 4 2 rfl rfl (by kernel_rfl)
  obtain ⟨n5, y5, h5, w5⟩ := struct_field Tryz.underlying68 h hw 5 _ rfl 37 6 2 rfl rfl (by kernel_rfl)
  obtain ⟨n6, y6, h6, w6⟩ := struct_field Tryz.underlying68 h hw 6 _ rfl 37 8 2 rfl rfl (by kernel_rfl)
  obtain ⟨k0, e0, _, f0⟩ := DataW.trod_int Tryz.underlying66 h0
  obtain ⟨k, rfl, hk⟩ := wf_u8 f0
  obtain ⟨k1, e1, _, f1⟩ := DataW.trod_int Tryz.underlying3 h1
  obtain ⟨s, e2, hs⟩ := opens_str _ _ _ h2 w2
  obtain ⟨k3, e3, _, f3⟩ := DataW.trod_int Tryz.underlying3 h3
  obtain ⟨t4, e4, u4⟩ := opens_term _ _ _ h4 w4
  obtain ⟨t5, e5, u5⟩ := opens_term _ _ _ h5 w5
  obtain ⟨t6, e6, u6⟩ := opens_term _ _ _ h6 w6
  match cs, hl with
  | [c0, c1, c2, c3, c4, c5, c6, c7, c8, c9], _ =>
    simp [cTerm] at e0 e1 e2 e3 e4 e5 e6
    obtain ⟨rfl, rfl⟩ := e4
    obtain ⟨rfl, rfl⟩ := e5
    obtain ⟨rfl, rfl⟩ := e6
    subst e0 e1 e2 e3
    exact ⟨⟨k, k1, s, k3, t4, t5, t6⟩, rfl, hk, wf_i64 f1, hs, wf_i64 f3, u4, u5, u6⟩
theorem opens_import : OpensAs enc w 57 rImport := by
  intro fuel cs x h hw
  have hl := struct_len Tryz.underlying57 h
  rw [show Tryz.prog.cellsOf 57 = 2 by kernel_rfl] at hl
  obtain ⟨n0, y0, h0, w0⟩ := struct_field Tryz.underlying57 h hw 0 _ rfl 9 0 1 rfl rfl (by kernel_rfl)
  obtain ⟨n1, y1, h1, w1⟩ := struct_field Tryz.underlying57 h hw 1 _ rfl 55 1 1 rfl rfl (by kernel_rfl)
  obtain ⟨s, e0, hs⟩ := opens_str _ _ _ h0 w0
  obtain ⟨k1, e1, _, f1⟩ := DataW.trod_int Tryz.underlying55 h1
  obtain ⟨k, rfl, hk⟩ := wf_u32 f1
  match cs, hl with
  | [c0, c1], _ =>
    simp at e0 e1
    subst e0 e1
    exact ⟨⟨s, k⟩, rfl, hs, hk⟩
def rScheme' (w : World) (cs : List Value) (x : Scheme) : Prop := rScheme w cs x ∧ x.body.length ≤ 140737488355328 ∧ x.l.length ≤ 140737488355328 ∧ x.e.length ≤ 140737488355328
theorem opens_scheme : OpensAs enc w 43 rScheme' := by
  intro fuel cs x h hw
  have hl := struct_len Tryz.underlying43 h
  rw [show Tryz.prog.cellsOf 43 = 5 by kernel_rfl] at hl
  obtain ⟨n0, y0, h0, w0⟩ := struct_field Tryz.underlying43 h hw 0 _ rfl 3 0 1 rfl rfl (by kernel_rfl)
  obtain ⟨n1, y1, h1, w1⟩ := struct_field Tryz.underlying43 h hw 1 _ rfl 3 1 1 rfl rfl (by kernel_rfl)
  obtain ⟨n2, y2, h2, w2⟩ := struct_field Tryz.underlying43 h hw 2 _ rfl 40 2 1 rfl rfl (by kernel_rfl)
  obtain ⟨n3, y3, h3, w3⟩ := struct_field Tryz.underlying43 h hw 3 _ rfl 41 3 1 rfl rfl (by kernel_rfl)
  obtain ⟨n4, y4, h4, w4⟩ := struct_field Tryz.underlying43 h hw 4 _ rfl 41 4 1 rfl rfl (by kernel_rfl)
  obtain ⟨k0, e0, _, f0⟩ := DataW.trod_int Tryz.underlying3 h0
  obtain ⟨k1, e1, _, f1⟩ := DataW.trod_int Tryz.underlying3 h1
  obtain ⟨A, n, c, l, e2, s2, m2, v2, _⟩ := opens_slice (size := 10) (by_ := 88) Tryz.underlying40 (by kernel_rfl) (by kernel_rfl) opens_node h2 w2
  obtain ⟨A', n', c', l', e3, s3, m3, v3, _⟩ := opens_slice (size := 4) (by_ := 32) Tryz.underlying41 (by kernel_rfl) (by kernel_rfl) opens_bound h3 w3
  obtain ⟨A'', n'', c'', l'', e4, s4, m4, v4, _⟩ := opens_slice (size := 4) (by_ := 32) Tryz.underlying41 (by kernel_rfl) (by kernel_rfl) opens_bound h4 w4
  match cs, hl with
  | [c0, c1, c2, c3, c4], _ =>
    simp at e0 e1 e2 e3 e4
    subst e0 e1 e2 e3 e4
    have q2 := s2.1
    have q3 := s3.1
    have q4 := s4.1
    exact ⟨⟨k0, k1, l, l', l''⟩, ⟨wf_i64 f0, wf_i64 f1, _, _, _, _, _, _, _, _, _, rfl, s2, s3, s4, m2, m3, m4⟩, by dsimp only; omega, by dsimp only; omega, by dsimp only; omega⟩
def rEntry' (w : World) (cs : List Value) (x : Entry) : Prop := rEntry w cs x ∧ SmallEnt x
theorem opens_entry : OpensAs enc w 45 rEntry' := by
  intro fuel cs x h hw
  have hl := struct_len Tryz.underlying45 h
  rw [show Tryz.prog.cellsOf 45 = 6 by kernel_rfl] at hl
  obtain ⟨n0, y0, h0, w0⟩ := struct_field Tryz.underlying45 h hw 0 _ rfl 9 0 1 rfl rfl (by kernel_rfl)
  obtain ⟨n1, y1, h1, w1⟩ := struct_field Tryz.underlying45 h hw 1 _ rfl 43 1 5 rfl rfl (by kernel_rfl)
  obtain ⟨s, e0, hs⟩ := opens_str _ _ _ h0 w0
  obtain ⟨sc, hsc, hsm⟩ := opens_scheme _ _ _ h1 w1
  match cs, hl with
  | [c0, c1, c2, c3, c4, c5], _ =>
    simp at e0 hsc
    subst e0
    exact ⟨⟨s, sc⟩, ⟨_, rfl, hs, hsc⟩, hsm⟩
theorem sl_mono {α : Type} {R R' : World → List Value → α → Prop} {size n : Nat} {w : World} {A : Option Addr} {l : List α} (h : Sl R size w A n l) (hm : ∀ cs x, R w cs x → R' w cs x) : Sl R' size w A n l :=
  ⟨h.1, h.2.1, fun hn => by
    obtain ⟨ad, e, hc⟩ := h.2.2 hn
    exact ⟨ad, e, fun j x hx => by obtain ⟨cs, h1, h2, h3⟩ := hc j x hx; exact ⟨cs, hm _ _ h1, h2, h3⟩⟩⟩
theorem sl_mem {α : Type} {R : World → List Value → α → Prop} {size n : Nat} {w : World} {A : Option Addr} {l : List α} (h : Sl R size w A n l) : ∀ x ∈ l, ∃ cs, R w cs x := by
  intro x hx
  obtain ⟨j, hj, rfl⟩ := List.getElem_of_mem hx
  obtain ⟨ad, e, hc⟩ := h.2.2 (by have := h.1; omega)
  obtain ⟨cs, h1, _⟩ := hc j _ (List.getElem?_eq_getElem hj)
  exact ⟨cs, h1⟩
/-- an interface that is handed in -/
theorem open_face {r : Reach} {b0 : Nat} {v : Value} {d : DataW H} {ps : List MemPlace} (hval : Value.okWide Tryz.prog w r b0 27 v) (h : DataW.Trod enc Tryz.prog w 0 (fun _ => true) true 27 v d ps) (hw : ∀ k ∈ d.weights Tryz.prog 27, k ≤ 140737488351232) :
    ∃ (f : Face) (A1 A2 A3 A4 A5 A6 : Option Addr) (n1 c1 n2 c2 n3 c3 n4 c4 n5 c5 n6 c6 : Nat), v = .agg #[.string f.module, .slice A1 n1 c1, .slice A2 n2 c2, .slice A3 n3 c3, .slice A4 n4 c4, .slice A5 n5 c5, .slice A6 n6 c6] ∧
      f.module.size ≤ 4611686018427387904 ∧ Sl rStr 1 w A1 n1 f.labels ∧ Sl rNum 1 w A2 n2 f.rows ∧ Sl rStr 1 w A3 n3 f.effects ∧ Sl rStr 1 w A4 n4 f.types ∧ Sl rImport 2 w A5 n5 f.imports ∧ Sl rEntry 6 w A6 n6 f.entries ∧ (∀ x ∈ f.entries, SmallEnt x) ∧
      (n1 ≤ c1 ∧ n2 ≤ c2 ∧ n3 ≤ c3 ∧ n4 ≤ c4 ∧ n5 ≤ c5 ∧ n6 ≤ c6) ∧ c1 * 16 ≤ 140737488351232 ∧ c2 * 8 ≤ 140737488351232 ∧ c3 * 16 ≤ 140737488351232 ∧ c4 * 16 ≤ 140737488351232 ∧ c5 * 24 ≤ 140737488351232 ∧ c6 * 104 ≤ 140737488351232 := by
  obtain ⟨cs, rfl, hsz⟩ := okWide_struct Tryz.underlying27 hval
  rw [show Tryz.prog.cellsOf 27 = 7 by kernel_rfl] at hsz
  obtain ⟨fuel, hf⟩ := h
  have hcl : Value.cells (.agg cs) = cs := rfl
  rw [hcl] at hf
  obtain ⟨n0, y0, h0, w0⟩ := struct_field Tryz.underlying27 hf hw 0 _ rfl 9 0 1 rfl rfl (by kernel_rfl)
  obtain ⟨n1, y1, h1, w1⟩ := struct_field Tryz.underlying27 hf hw 1 _ rfl 22 1 1 rfl rfl (by kernel_rfl)
  obtain ⟨n2, y2, h2, w2⟩ := struct_field Tryz.underlying27 hf hw 2 _ rfl 23 2 1 rfl rfl (by kernel_rfl)
  obtain ⟨n3, y3, h3, w3⟩ := struct_field Tryz.underlying27 hf hw 3 _ rfl 22 3 1 rfl rfl (by kernel_rfl)
  obtain ⟨n4, y4, h4, w4⟩ := struct_field Tryz.underlying27 hf hw 4 _ rfl 22 4 1 rfl rfl (by kernel_rfl)
  obtain ⟨n5, y5, h5, w5⟩ := struct_field Tryz.underlying27 hf hw 5 _ rfl 24 5 1 rfl rfl (by kernel_rfl)
  obtain ⟨n6, y6, h6, w6⟩ := struct_field Tryz.underlying27 hf hw 6 _ rfl 25 6 1 rfl rfl (by kernel_rfl)
  obtain ⟨s, e0, hs⟩ := opens_str _ _ _ h0 w0
  obtain ⟨A1, n1, c1, l1, e1, s1, m1, v1, _⟩ := opens_slice (size := 1) (by_ := 16) Tryz.underlying22 (by kernel_rfl) (by kernel_rfl) opens_str h1 w1
  obtain ⟨A2, n2, c2, l2, e2, s2, m2, v2, _⟩ := opens_slice (size := 1) (by_ := 8) Tryz.underlying23 (by kernel_rfl) (by kernel_rfl) opens_num h2 w2
  obtain ⟨A3, n3, c3, l3, e3, s3, m3, v3, _⟩ := opens_slice (size := 1) (by_ := 16) Tryz.underlying22 (by kernel_rfl) (by kernel_rfl) opens_str h3 w3
  obtain ⟨A4, n4, c4, l4, e4, s4, m4, v4, _⟩ := opens_slice (size := 1) (by_ := 16) Tryz.underlying22 (by kernel_rfl) (by kernel_rfl) opens_str h4 w4
  obtain ⟨A5, n5, c5, l5, e5, s5, m5, v5, _⟩ := opens_slice (size := 2) (by_ := 24) Tryz.underlying24 (by kernel_rfl) (by kernel_rfl) opens_import h5 w5
  obtain ⟨A6, n6, c6, l6, e6, s6, m6, v6, _⟩ := opens_slice (size := 6) (by_ := 104) Tryz.underlying25 (by kernel_rfl) (by kernel_rfl) opens_entry h6 w6
  obtain ⟨cl⟩ := cs
  match cl, hsz with
  | [d0, d1, d2, d3, d4, d5, d6], _ =>
    simp at e0 e1 e2 e3 e4 e5 e6
    subst e0 e1 e2 e3 e4 e5 e6
    exact ⟨⟨s, l1, l2, l3, l4, l5, l6⟩, A1, A2, A3, A4, A5, A6, n1, c1, n2, c2, n3, c3, n4, c4, n5, c5, n6, c6, rfl, hs, s1, s2, s3, s4, s5, sl_mono s6 (fun _ _ h => h.1), (fun x hx => by obtain ⟨_, h⟩ := sl_mem s6 x hx; exact h.2), ⟨m1, m2, m3, m4, m5, m6⟩, v1, v2, v3, v4, v5, v6⟩
end
end Go.Proofs.YtcgnbpjbpbabaaaGreatDoor
end

section
set_option linter.unusedVariables false
set_option maxRecDepth 100000
namespace Go.Proofs.YtcgnbpjbpbabaaaGreatDoor
open Go.RowKit
theorem laid_one {l : List (String × DataW Unit)} {W : World} (h : laidMetH Tryz.prog l W) (name : String) (d : DataW Unit) (hf : l.filter (fun x => x.1 == name) = [(name, d)]) (hn : d.handleName? = none) : laidMet Tryz.prog [(name, d)] W := by
  have h1 := h.filter (fun x => x.1 == name)
  rw [hf] at h1
  have h2 := (laidMetH_iff.1 h1).1
  have e : ([(name, d)].filter fun x : String × DataW Unit => x.2.handleName?.isNone) = [(name, d)] := by simp [hn]
  rw [e] at h2
  exact h2
theorem tabs_of_laid {W : World} (h : laidMetH Tryz.prog Rows.printsLinesRow.laid W) : Tabs W ∧ PowTab W := by
  have h1 := laid_one h "math/bits.deBruijn64tab" Rows.laid_math_bits_deBruijn64tab (by kernel_rfl) rfl
  have h2 := laid_one h "internal/strconv.uint64pow10" Rows.laid_internal_strconv_uint64pow10 (by kernel_rfl) rfl
  have t1 : Lib.TabIs Tryz.prog W "math/bits.deBruijn64tab" .u8 (Lib.deBruijn64tab.map Int.ofNat) := by
    rw [show Rows.laid_math_bits_deBruijn64tab = Lib.tabData .u8 (Lib.deBruijn64tab.map Int.ofNat) by kernel_rfl] at h1
    exact Lib.tabIs_of_head (g := 0) (by kernel_rfl) (by kernel_rfl) Tryz.underlying159 Tryz.underlying5 (by kernel_rfl) (by kernel_rfl) h1
  have t2 : Lib.TabIs Tryz.prog W "internal/strconv.uint64pow10" .u64 Lib.pow10Tab := by
    rw [show Rows.laid_internal_strconv_uint64pow10 = Lib.tabData .u64 Lib.pow10Tab by kernel_rfl] at h2
    exact Lib.tabIs_of_head (g := 1) (by kernel_rfl) (by kernel_rfl) Tryz.underlying182 Tryz.underlying35 (by kernel_rfl) (by kernel_rfl) h2
  refine ⟨fun j hj => ?_, t2⟩
  have hg : Tryz.prog.globalNamed "math/bits.deBruijn64tab" = some 0 := by kernel_rfl
  have := t1.cell hg j (by simpa using hj)
  rw [this, List.getD_eq_getElem?_getD, List.getD_eq_getElem?_getD, List.getElem?_map, List.getElem?_eq_getElem hj]
  rfl
end Go.Proofs.YtcgnbpjbpbabaaaGreatDoor
end
