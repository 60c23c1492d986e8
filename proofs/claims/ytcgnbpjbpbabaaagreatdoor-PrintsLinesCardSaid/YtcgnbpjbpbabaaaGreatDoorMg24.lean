/- prints: Len of a writer's builder. prints: Print, what it stands on. prints: Print. -/
import Derived.Test.YtcgnbpjbpbabaaaGreatDoorMg16
import Derived.Shelf.Strings.Builder1
import Derived.Test.YtcgnbpjbpbabaaaGreatDoorMg23
import Derived.Deep.RegionHeld3
section
set_option linter.unusedVariables false
set_option linter.unusedSimpArgs false
set_option maxRecDepth 100000
set_option maxHeartbeats 2000000
namespace Go.Proofs.YtcgnbpjbpbabaaaGreatDoor
open Go.RowKit
theorem len_any (w : World) (B b : Nat) (f bs : List Value) (h : WAt w B b f bs) :
    Calls Tryz.prog 14 #[.pointer (some ⟨b, 0, none⟩)] w fun e w' => e = .returned (.int .i64 bs.length) ∧ w' = w := by
  obtain ⟨hB, hf, p, v, hp, hb, hown⟩ := h
  obtain ⟨ao, cap, rfl⟩ : ∃ ao cap, v = .slice ao bs.length cap := by
    rcases hown.2 with ⟨hv, h0⟩ | ⟨g, cap, cur, hv, _⟩
    · exact ⟨none, 0, by rw [hv, h0]⟩
    · exact ⟨_, _, hv⟩
  have c1 : w.cell? ⟨b, 1, none⟩ = some (.slice ao bs.length cap) := by rw [hb.cell]; rfl
  clear hp hown
  go_enter Tryz.func14, Tryz.ntmps14
  go_wp2
  go_ret
  exact ⟨rfl, rfl⟩
theorem byte_cells : Tryz.prog.cellsOf 5 = 1 := by kernel_rfl
theorem string_any (w : World) (B b : Nat) (f : List Value) (l : List UInt8) (h : WAt w B b f (Lib.byteCells l)) (h0 : l ≠ []) :
    Calls Tryz.prog 15 #[.pointer (some ⟨b, 0, none⟩)] w fun e w' => e = .returned (.string ⟨l.toArray⟩) ∧ Below B w w' := by
  obtain ⟨hB, hf, p, v, hp, hb, hown⟩ := h
  have hl0 : l.length ≠ 0 := by simpa using h0
  rw [Lib.byteCells_length] at hown
  obtain ⟨g, cap, cur, rfl, hbg, hg, hnc, hcm, hcs, htake⟩ : ∃ g cap cur, v = .slice (some ⟨g, 0, none⟩) l.length cap ∧ B ≤ g ∧ w.heap[g]? = some (.cells cur 5 (0, 0)) ∧ l.length ≤ cap ∧ cap ≤ maxLen ∧ cur.size = cap * 1 ∧ cur.toList.take (l.length * 1) = Lib.byteCells l := by
    rcases hown.2 with ⟨_, hz⟩ | ⟨g, cap, cur, hv, r⟩
    · exact absurd hz hl0
    · exact ⟨g, cap, cur, hv, r⟩
  have c1 : w.drew.cell? ⟨b, 1, none⟩ = some (.slice (some ⟨g, 0, none⟩) l.length cap) := by
    rw [hb.drew.cell]
    rfl
  have hSD : (Builtin.unsafeSliceData_ #[49] 95 #[.slice (some ⟨g, 0, none⟩) l.length cap]).run Tryz.prog w.drew = .ok (.pointer (some ⟨g, 0, none⟩)) w.drew :=
    Lib.run_unsafeSliceData_row _ _ _ _ _ _ (by omega)
  have hUS : (Builtin.unsafeString_ #[95, 3] 9 #[.pointer (some ⟨g, 0, none⟩), .int .i64 l.length]).run Tryz.prog w.drew = .ok (.string ⟨l.toArray⟩) (w.drew.freeze ⟨g, 0, none⟩ l.length) := by
    refine Lib.run_unsafeString_row w.drew 95 3 9 5 Tryz.underlying95 byte_cells g cur.size (by have hg' : w.drew.heap[g]? = some (.cells cur 5 (0, 0)) := hg; simp [World.shape?, hg']) l h0 (by omega) (by unfold maxLen at hcm; omega) ?_
    intro j x hx
    have := hown.cells (g := g) rfl j (.int .u8 x.toNat) (by simp [Lib.byteCells, hx])
    exact this
  clear hp hown
  go_enter Tryz.func15, Tryz.ntmps15
  go_wp2
  go_region
  all_goals (go_wp2; go_ret; exact ⟨rfl, Lib.below_freeze (Below.drew (Below.refl B w)) (p := ⟨g, 0, none⟩) hbg _⟩)
end Go.Proofs.YtcgnbpjbpbabaaaGreatDoor
end

section
set_option linter.unusedVariables false
set_option linter.unusedSimpArgs false
set_option maxRecDepth 100000
set_option maxHeartbeats 2000000
namespace Go.Proofs.YtcgnbpjbpbabaaaGreatDoor
open Go.RowKit
theorem nodeG_mono {G G' : ByteArray → Prop} {P : PCtx} {x : Node} (h : NodeG G P x) (hm : ∀ s, G s → G' s) : NodeG G' P x :=
  ⟨hm _ h.1, hm _ h.2.1, fun h0 => hm _ (h.2.2.1 h0), hm _ h.2.2.2.1, fun h5 => ⟨hm _ (h.2.2.2.2 h5).1, hm _ (h.2.2.2.2 h5).2⟩⟩
/-- the context of an entry's body -/
def eCtx (f : Face) (B b : Nat) (A1 A2 A3 A4 A5 A6 A : Option Addr) (n1 c1 n2 c2 n3 c3 n4 c4 n5 c5 n6 c6 n c : Nat) (body : List Node) : NCtx :=
  ⟨B, b, A, n, c, A1, n1, c1, A3, n3, c3, A5, n5, c5, .string f.module, .slice A2 n2 c2, .slice A4 n4 c4, .slice A6 n6 c6, f.labels, f.effects, f.imports, body⟩
theorem eCtx_ok {f : Face} (hF : FaceOk f) {x : Entry} (hx : x ∈ f.entries) (B b : Nat) (A1 A2 A3 A4 A5 A6 A : Option Addr) (n1 c1 n2 c2 n3 c3 n4 c4 n5 c5 n6 c6 n c : Nat) (h1 : f.labels.length = n1) (h3 : f.effects.length = n3) (h5 : f.imports.length = n5) :
    (eCtx f B b A1 A2 A3 A4 A5 A6 A n1 c1 n2 c2 n3 c3 n4 c4 n5 c5 n6 c6 n c x.s.body).Ok := by
  obtain ⟨he, hn⟩ := hF.ent x hx
  have hS := schemeOk he
  obtain ⟨hb1, _, _, hb2⟩ := checkBody_mem hS.body
  refine ⟨fun y hy => ?_, fun y hy h => ?_, fun y hy h => ?_, fun y hy => ?_, fun s hs => ?_, ?_, ?_, hb1⟩
  · have := hS.nl y hy
    rw [hF.rows, h1] at this
    exact this
  · have := hS.nf y hy h
    rw [hF.rows, h1] at this
    exact this
  · have := named_mod (hb2 y hy).1 (hn y hy) h
    rw [h5] at this
    exact this
  · exact nodeG_mono (node_G hF (hb2 y hy).1 (hn y hy) (hS.nl y hy) (hS.nf y hy)) (fun s h => h.1)
  · exact Nat.le_trans (hF.nEff s hs).1 (by decide)
  · rw [← h3]; exact hF.effects
  · rw [← h5]; exact hF.imports
/-- the first five lines -/
theorem ord_size {f : Face} (hF : FaceOk f) : ∀ s, OrdP f.labels s → s.size ≤ 32 := by
  rintro s (h | rfl | rfl | rfl | rfl)
  · exact (hF.nLab s h).1
  · decide
  · decide
  · decide
  · decide
theorem powTab_below {w w' : World} (h : PowTab w) (hb : Below w.heap.size w w') : PowTab w' := by
  unfold PowTab Lib.TabIs World.var? at *
  cases hg : Tryz.prog.globalNamed "internal/strconv.uint64pow10" with
  | none => simp [hg] at h
  | some g =>
    simp only [hg, Option.bind_some] at h ⊢
    have hlt : g < w.heap.size := by
      rcases Nat.lt_or_ge g w.heap.size with h' | h'
      · exact h'
      · rw [Array.getElem?_eq_none h'] at h
        cases h
    rw [hb.block g hlt]
    exact h
end Go.Proofs.YtcgnbpjbpbabaaaGreatDoor
end

section
set_option linter.unusedVariables false
set_option linter.unusedSimpArgs false
set_option maxRecDepth 100000
set_option maxHeartbeats 2000000
namespace Go.Proofs.YtcgnbpjbpbabaaaGreatDoor
open Go.RowKit
def printL (f : Face) : List UInt8 := (printW f).flatMap (·.data.toList)
/-- what Print answers -/
def printR (f : Face) : ByteArray × Nat :=
  if checkFace f ≠ 0 then (ByteArray.empty, checkFace f) else if 1048576 < (printL f).length then (ByteArray.empty, 3) else (⟨(printL f).toArray⟩, 0)
theorem catV_bytes (l : List ByteArray) : catV l = Lib.byteCells (l.flatMap (·.data.toList)) := by
  induction l with
  | nil => rfl
  | cons a r ih =>
    have h1 : catV (a :: r) = Lib.strCells a ++ catV r := rfl
    rw [h1, ih, List.flatMap_cons]
    simp [Lib.byteCells, Lib.strCells]
theorem printR_bad {f : Face} (h : checkFace f ≠ 0) : printR f = (ByteArray.empty, checkFace f) := if_pos h
theorem print_bad (f : Face) (A1 A2 A3 A4 A5 A6 : Option Addr) (n1 c1 n2 c2 n3 c3 n4 c4 n5 c5 n6 c6 : Nat) (w : World) (hmod : f.module.size ≤ 4611686018427387904) (h1 : Strs w A1 n1 f.labels) (h2 : Sl rNum 1 w A2 n2 f.rows) (h3 : Strs w A3 n3 f.effects) (h4 : Strs w A4 n4 f.types) (h5 : Sl rImport 2 w A5 n5 f.imports) (h6 : Sl rEntry 6 w A6 n6 f.entries)
    (k1 : n1 ≤ c1) (k3 : n3 ≤ c3) (k4 : n4 ≤ c4) (b5 : n5 * 16 ≤ 140737488355328) (b6 : n6 * 16 ≤ 140737488355328) (hT : Tabs w) (hck : checkFace f ≠ 0) :
    Calls Tryz.prog 6 #[.agg #[.string f.module, .slice A1 n1 c1, .slice A2 n2 c2, .slice A3 n3 c3, .slice A4 n4 c4, .slice A5 n5 c5, .slice A6 n6 c6]] w fun r w' => r = .returned (.tuple #[.string (printR f).1, .int .i64 ((printR f).2 : Nat)]) ∧ Below w.heap.size w w' := by
  obtain ⟨W0, hW0⟩ : ∃ W0, w.alloc (.cells #[.string f.module, .slice A1 n1 c1, .slice A2 n2 c2, .slice A3 n3 c3, .slice A4 n4 c4, .slice A5 n5 c5, .slice A6 n6 c6] 27) = W0 := ⟨_, rfl⟩
  have hb0 : Below w.heap.size w W0 := by rw [← hW0]; exact (Below.refl _ w).alloc (Nat.le_refl _) _
  have hB0 : Blk W0 w.heap.size 27 #[.string f.module, .slice A1 n1 c1, .slice A2 n2 c2, .slice A3 n3 c3, .slice A4 n4 c4, .slice A5 n5 c5, .slice A6 n6 c6] := by rw [← hW0]; exact Blk.new w _ _
  have hlt := hB0.lt
  have g0 := hB0.cell 0
  have g1 := hB0.cell 1
  have g2 := hB0.cell 2
  have g3 := hB0.cell 3
  have g4 := hB0.cell 4
  have g5 := hB0.cell 5
  have g6 := hB0.cell 6
  simp at g0 g1 g2 g3 g4 g5 g6
  have cF := fcheck_any f A1 A2 A3 A4 A5 A6 n1 c1 n2 c2 n3 c3 n4 c4 n5 c5 n6 c6 W0 hmod ((sl_strs.1 ((sl_strs.2 h1).below rStr_keeps hb0))) (h2.below rNum_keeps hb0) (sl_strs.1 ((sl_strs.2 h3).below rStr_keeps hb0)) (sl_strs.1 ((sl_strs.2 h4).below rStr_keeps hb0)) (h5.below rImport_keeps hb0) (h6.below rEntry_keeps hb0) k1 k3 k4 b5 b6 (hT.below hb0)
  have CF := Lib.hid cF
  have HV := Lib.hid (printR_bad hck)
  have HB := Lib.hid hb0
  have z : ((checkFace f : Int) != 0) = true := by rw [bne_iff_ne]; omega
  clear cF h1 h2 h3 h4 h5 h6 hT hb0 hck
  generalize checkFace f = e0 at *
  go_enter Tryz.func6, Tryz.ntmps6
  go_wp2_with fail
  refine CF.out.mono ?_
  rintro e w1 ⟨rfl, hb1⟩
  go_wp2_with fail
  refine bodyPost_ret (v := .tuple #[.string ⟨#[]⟩, .int .i64 (e0 : Nat)]) (by simp [results, Tryz.results6, go_sem]) rfl ⟨?_, HB.out.trans (hb1.mono HB.out.size)⟩
  rw [HV.out]
  rfl
end Go.Proofs.YtcgnbpjbpbabaaaGreatDoor
end
