/- prints: Print of an interface that may be. sizes of things (the statements' own): each ends, and answers some number. lives: the chapter's text. -/
import Derived.Test.YtcgnbpjbpbabaaaGreatDoorMg24
import Derived.Test.YtcgnbpjbpbabaaaGreatDoorMg03
section
set_option linter.unusedVariables false
set_option linter.unusedSimpArgs false
set_option maxRecDepth 100000
set_option maxHeartbeats 2000000
namespace Go.Proofs.YtcgnbpjbpbabaaaGreatDoor
open Go.RowKit
theorem lnT_len {Ls : List (List ByteArray)} (h : ∀ l ∈ Ls, LineOk l) : (catV (lnT Ls)).length ≤ Ls.length * 130000000 := by
  induction Ls with
  | nil => simp [lnT, catV]
  | cons a r ih =>
    have h1 := lines_len (h a (List.mem_cons_self ..))
    have h2 := ih (fun l hl => h l (List.mem_cons_of_mem _ hl))
    have e : lnT (a :: r) = (a ++ [semiB]) ++ lnT r := by simp [lnT]
    rw [e, catV_append, List.length_append, List.length_cons, Nat.succ_mul]
    omega
theorem take_map_snoc {α β : Type} {l : List α} {k : Nat} {x : α} (g : α → β) (h : l[k]? = some x) : (l.take (k + 1)).map g = (l.take k).map g ++ [g x] := by
  rw [List.take_add_one, h]
  simp
theorem print_good (f : Face) (A1 A2 A3 A4 A5 A6 : Option Addr) (n1 c1 n2 c2 n3 c3 n4 c4 n5 c5 n6 c6 : Nat) (w : World) (hmod : f.module.size ≤ 4611686018427387904) (h1 : Strs w A1 n1 f.labels) (h2 : Sl rNum 1 w A2 n2 f.rows) (h3 : Strs w A3 n3 f.effects) (h4 : Strs w A4 n4 f.types) (h5 : Sl rImport 2 w A5 n5 f.imports) (h6 : Sl rEntry 6 w A6 n6 f.entries)
    (k1 : n1 ≤ c1) (k3 : n3 ≤ c3) (k4 : n4 ≤ c4) (b5 : n5 * 16 ≤ 140737488355328) (b6 : n6 * 16 ≤ 140737488355328) (hT : Tabs w) (hP : PowTab w) (hck : checkFace f = 0) :
    Calls Tryz.prog 6 #[.agg #[.string f.module, .slice A1 n1 c1, .slice A2 n2 c2, .slice A3 n3 c3, .slice A4 n4 c4, .slice A5 n5 c5, .slice A6 n6 c6]] w fun r w' => r = .returned (.tuple #[.string (printR f).1, .int .i64 ((printR f).2 : Nat)]) ∧ Below w.heap.size w w' := by
  obtain ⟨W0, hW0⟩ : ∃ W0, w.alloc (.cells #[.string f.module, .slice A1 n1 c1, .slice A2 n2 c2, .slice A3 n3 c3, .slice A4 n4 c4, .slice A5 n5 c5, .slice A6 n6 c6] 27) = W0 := ⟨_, rfl⟩
  have hb0 : Below w.heap.size w W0 := by rw [← hW0]; exact (Below.refl _ w).alloc (Nat.le_refl _) _
  have hB0 : Blk W0 w.heap.size 27 #[.string f.module, .slice A1 n1 c1, .slice A2 n2 c2, .slice A3 n3 c3, .slice A4 n4 c4, .slice A5 n5 c5, .slice A6 n6 c6] := by rw [← hW0]; exact Blk.new w _ _
  have hlt := hB0.lt
  have g0 := hB0.cell 0
  have g1 := hB0.cell 1
  have g2 := hB0.cell 2
  have g3 := hB0.cell 3
  have g4 := hB0.cell 4
  have g5 := hB0.cell 5
  have g6 := hB0.cell 6
  simp at g0 g1 g2 g3 g4 g5 g6
  have cF := fcheck_any f A1 A2 A3 A4 A5 A6 n1 c1 n2 c2 n3 c3 n4 c4 n5 c5 n6 c6 W0 hmod ((sl_strs.1 ((sl_strs.2 h1).below rStr_keeps hb0))) (h2.below rNum_keeps hb0) (sl_strs.1 ((sl_strs.2 h3).below rStr_keeps hb0)) (sl_strs.1 ((sl_strs.2 h4).below rStr_keeps hb0)) (h5.below rImport_keeps hb0) (h6.below rEntry_keeps hb0) k1 k3 k4 b5 b6 (hT.below hb0)
  rw [hck] at cF
  have hF := faceOk hck
  have hsum : ∀ x ∈ f.imports, x.sum < 4294967296 := fun x hx => by
    obtain ⟨j, hj, rfl⟩ := List.getElem_of_mem hx
    obtain ⟨ad, e, hc⟩ := h5.2.2 (by have := h5.1; omega)
    obtain ⟨cs, h1, _⟩ := hc j _ (List.getElem?_eq_getElem hj)
    exact h1.2.2
  have hok := print_ok hF hsum
  have l1 := h1.1
  have l3 := h3.1
  have l5 := h5.1
  have l6 := h6.1
  have hrow := h2.1
  -- what is read lies as it lay, whatever the writer does
  have hrd : ∀ W', Below W0.heap.size W0 W' → Strs W' A1 n1 f.labels ∧ Sl rNum 1 W' A2 n2 f.rows ∧ Strs W' A3 n3 f.effects ∧ Strs W' A4 n4 f.types ∧ Sl rImport 2 W' A5 n5 f.imports ∧ Sl rEntry 6 W' A6 n6 f.entries ∧ PowTab W' := fun W' hb => by
    have hb := hb0.trans (hb.mono hb0.size)
    exact ⟨sl_strs.1 ((sl_strs.2 h1).below rStr_keeps hb), h2.below rNum_keeps hb, sl_strs.1 ((sl_strs.2 h3).below rStr_keeps hb), sl_strs.1 ((sl_strs.2 h4).below rStr_keeps hb), h5.below rImport_keeps hb, h6.below rEntry_keeps hb, powTab_below hP hb⟩
  have hfc : ∀ W', Below W0.heap.size W0 W' → w.heap.size < W'.heap.size ∧ W'.cell? ⟨w.heap.size, 0, none⟩ = some (.string f.module) ∧ W'.cell? ⟨w.heap.size, 1, none⟩ = some (.slice A1 n1 c1) ∧ W'.cell? ⟨w.heap.size, 2, none⟩ = some (.slice A2 n2 c2) ∧ W'.cell? ⟨w.heap.size, 3, none⟩ = some (.slice A3 n3 c3) ∧ W'.cell? ⟨w.heap.size, 4, none⟩ = some (.slice A4 n4 c4) ∧ W'.cell? ⟨w.heap.size, 5, none⟩ = some (.slice A5 n5 c5) ∧ W'.cell? ⟨w.heap.size, 6, none⟩ = some (.slice A6 n6 c6) := fun W' hb => by
    have := hB0.below hb hB0.lt
    refine ⟨this.lt, ?_, ?_, ?_, ?_, ?_, ?_, ?_⟩ <;> rw [this.cell] <;> rfl
  have hh := head_ok hF
  have lh : ∀ l ∈ headLs f, (catV (l ++ [semiB])).length ≤ 130000000 := fun l hl => lines_len (hh l hl)
  have m1 := lh _ (List.mem_cons_self ..)
  have m2 := lh _ (List.mem_cons_of_mem _ (List.mem_cons_self ..))
  have m3 := lh _ (List.mem_cons_of_mem _ (List.mem_cons_of_mem _ (List.mem_cons_self ..)))
  have m4 := lh _ (List.mem_cons_of_mem _ (List.mem_cons_of_mem _ (List.mem_cons_of_mem _ (List.mem_cons_self ..))))
  have m5 := lh _ (List.mem_cons_of_mem _ (List.mem_cons_of_mem _ (List.mem_cons_of_mem _ (List.mem_cons_of_mem _ (List.mem_cons_self ..)))))
  rw [l1] at m3
  have hn1 : n1 ≤ 64 := by have := hF.labels; omega
  have hn2 : n2 = n1 := by have := hF.rows; omega
  subst hn2
  have CF := Lib.hid cF
  have HRd := Lib.hid hrd
  have HFc := Lib.hid hfc
  have HB := Lib.hid hb0
  have HF := Lib.hid hF
  have HOk := Lib.hid hok
  have HM := Lib.hid (And.intro m1 (And.intro m2 (And.intro m3 (And.intro m4 m5))))
  clear cF h1 h2 h3 h4 h5 h6 hT hP hb0 hrd hfc hok hh lh hB0 m1 m2 m3 m4 m5 g0 g1 g2 g3 g4 g5 g6
  obtain ⟨gl, g0, g1, g2, g3, g4, g5, g6⟩ := HFc.out W0 (Below.refl _ _)
  go_enter Tryz.func6, Tryz.ntmps6
  go_wp2_with fail
  refine CF.out.mono ?_
  rintro e w1 ⟨rfl, hb1⟩
  clear gl g0 g1 g2 g3 g4 g5 g6
  obtain ⟨gl, g0, g1, g2, g3, g4, g5, g6⟩ := HFc.out w1 hb1
  -- the writer
  obtain ⟨b, hbw⟩ : ∃ b, w1.heap.size = b := ⟨_, rfl⟩
  obtain ⟨fv, hfv⟩ : ∃ fv : List Value, [.string f.module, .slice A1 n2 c1, .slice A2 n2 c2, .slice A3 n3 c3, .slice A4 n4 c4, .slice A5 n5 c5, .slice A6 n6 c6] = fv := ⟨_, rfl⟩
  obtain ⟨W1, hW1⟩ : ∃ W1, w1.alloc (.cells #[.pointer none, .slice none 0 0, .string f.module, .slice A1 n2 c1, .slice A2 n2 c2, .slice A3 n3 c3, .slice A4 n4 c4, .slice A5 n5 c5, .slice A6 n6 c6] 53) = W1 := ⟨_, rfl⟩
  have hb2 : Below w1.heap.size w1 W1 := by rw [← hW1]; exact (Below.refl _ w1).alloc (Nat.le_refl _) _
  have hbW1 := hb1.trans (hb2.mono hb1.size)
  have hw1 : WAt W1 b b fv [] := by
    refine ⟨Nat.le_refl _, by rw [← hfv]; rfl, .pointer none, .slice none 0 0, .inl rfl, ?_, ⟨rfl, .inl ⟨rfl, rfl⟩⟩⟩
    rw [← hW1, ← hbw, ← hfv]
    exact Blk.new w1 _ _
  have hb1s := hb1.size
  have hsz1 : b < W1.heap.size := by rw [← hW1, ← hbw]; simp
  -- all that is read, at whatever world the writer comes to
  have hall : ∀ W', TChg TC b W1 W' → Below W0.heap.size W0 W' := fun W' ht => ht.to_below hbW1 (by omega) hbW1.size
  have HAll := Lib.hid hall
  clear hall
  obtain ⟨gl', g0', g1', g2', g3', g4', g5', g6'⟩ := HFc.out W1 hbW1
  obtain ⟨m1, m2, m3, m4, m5⟩ := HM.out
  have cL1 : Calls Tryz.prog 10 #[.pointer (some ⟨b, 0, none⟩), .string ifaceB, .slice (some ⟨W1.heap.size, 0, none⟩) 1 1] (W1.alloc (.cells #[.string f.module] 9)) fun e w' => e = .returned (.tuple #[]) ∧ WAt w' b b fv ([] ++ catV (([ifaceB] ++ lineW [f.module]) ++ [semiB])) ∧ TChg TW b (W1.alloc (.cells #[.string f.module] 9)) w' := by
    have hBs := Blk.new W1 9 #[.string f.module]
    refine line_any _ b b fv [] ifaceB _ 1 1 [f.module] (hw1.alloc _) (by decide) (fun W' ht => strs_blk (g := W1.heap.size) (t := 9) (ht.blk hBs (by rintro (h | h) <;> cases h)) rfl (by omega) (by simpa using hmod)) ?_ (by simp; omega)
    simp only [List.length_nil, Nat.zero_add]
    exact Nat.le_trans m1 (by decide)
  have CL1 := Lib.hid cL1
  have HFv := Lib.hid hfv
  clear cL1 hfv
  go_wp2_with fail
  refine CL1.out.mono ?_
  rintro e w2 ⟨rfl, hW2, hT2⟩
  have hTT2 : TChg TC b W1 w2 := (TChg.alloc W1 _).trans hT2.tc
  obtain ⟨t1, ht1⟩ : ∃ t, [] ++ catV (([ifaceB] ++ lineW [f.module]) ++ [semiB]) = t := ⟨_, rfl⟩
  have hl1 : t1.length ≤ 130000000 := by rw [← ht1, List.nil_append]; exact m1
  rw [ht1] at hW2
  have HE1 := Lib.hid ht1
  clear ht1
  -- labels
  obtain ⟨gl, g0, g1, g2, g3, g4, g5, g6⟩ := HFc.out w2 (HAll.out w2 hTT2)
  have CL2 := Lib.hid (line_any w2 b b fv t1 labelsB A1 n2 c1 f.labels hW2 (by decide) (fun W' ht => (HRd.out W' (HAll.out W' (hTT2.trans ht.tc))).1) (by omega) (by have := hTT2.size; omega))
  clear hW2
  go_wp2_with fail
  refine CL2.out.mono ?_
  rintro e w3 ⟨rfl, hW3, hT3⟩
  have hTT3 : TChg TC b W1 w3 := hTT2.trans hT3.tc
  obtain ⟨t2, ht2⟩ : ∃ t, t1 ++ catV ([labelsB] ++ lineW f.labels ++ [semiB]) = t := ⟨_, rfl⟩
  have hl2 : t2.length ≤ 260000000 := by rw [← ht2, List.length_append]; omega
  rw [ht2] at hW3
  have HE2 := Lib.hid ht2
  clear ht2
  -- order
  have hW3' : WAt w3 b b (.string f.module :: .slice A1 n2 c1 :: .slice A2 n2 c2 :: [.slice A3 n3 c3, .slice A4 n4 c4, .slice A5 n5 c5, .slice A6 n6 c6]) t2 := by rw [HFv.out]; exact hW3
  have CL3 := Lib.hid (order_any w3 b b (.string f.module) [.slice A3 n3 c3, .slice A4 n4 c4, .slice A5 n5 c5, .slice A6 n6 c6] t2 A1 A2 n2 c1 c2 32 f.labels f.rows hW3' (fun W' ht => (HRd.out W' (HAll.out W' (hTT3.trans ht))).1) (fun W' ht => (HRd.out W' (HAll.out W' (hTT3.trans ht))).2.1) hn1 (ord_size HF.out) (by omega) (by omega) (by have := hTT3.size; omega))
  clear hW3 hW3'
  go_wp2_with fail
  refine CL3.out.mono ?_
  rintro e w4 ⟨rfl, ps, rfl, _, _, hW4, hT4⟩
  rw [HFv.out] at hW4
  have hTT4 : TChg TC b W1 w4 := hTT3.trans hT4
  obtain ⟨t3, ht3⟩ : ∃ t, t2 ++ catV (ordW f.labels f.rows n2 ++ [semiB]) = t := ⟨_, rfl⟩
  have hl3 : t3.length ≤ 390000000 := by rw [← ht3, List.length_append]; omega
  rw [ht3] at hW4
  have HE3 := Lib.hid ht3
  clear ht3
  -- effects
  obtain ⟨gl, g0, g1, g2, g3, g4, g5, g6⟩ := HFc.out w4 (HAll.out w4 hTT4)
  have CL4 := Lib.hid (line_any w4 b b fv t3 effectsB A3 n3 c3 f.effects hW4 (by decide) (fun W' ht => (HRd.out W' (HAll.out W' (hTT4.trans ht.tc))).2.2.1) (by omega) (by have := hTT4.size; omega))
  clear hW4
  go_wp2_with fail
  refine CL4.out.mono ?_
  rintro e w5 ⟨rfl, hW5, hT5⟩
  have hTT5 : TChg TC b W1 w5 := hTT4.trans hT5.tc
  obtain ⟨t4, ht4⟩ : ∃ t, t3 ++ catV ([effectsB] ++ lineW f.effects ++ [semiB]) = t := ⟨_, rfl⟩
  have hl4 : t4.length ≤ 520000000 := by rw [← ht4, List.length_append]; omega
  rw [ht4] at hW5
  have HE4 := Lib.hid ht4
  clear ht4
  -- types
  obtain ⟨gl, g0, g1, g2, g3, g4, g5, g6⟩ := HFc.out w5 (HAll.out w5 hTT5)
  have CL5 := Lib.hid (line_any w5 b b fv t4 typesB A4 n4 c4 f.types hW5 (by decide) (fun W' ht => (HRd.out W' (HAll.out W' (hTT5.trans ht.tc))).2.2.2.1) (by omega) (by have := hTT5.size; omega))
  clear hW5
  go_wp2_with fail
  refine CL5.out.mono ?_
  rintro e w6 ⟨rfl, hW6, hT6⟩
  have hTT6 : TChg TC b W1 w6 := hTT5.trans hT6.tc
  obtain ⟨t5, ht5⟩ : ∃ t, t4 ++ catV ([typesB] ++ lineW f.types ++ [semiB]) = t := ⟨_, rfl⟩
  have hl5 : t5.length ≤ 650000000 := by rw [← ht5, List.length_append]; omega
  rw [ht5] at hW6
  have HE5 := Lib.hid ht5
  clear ht5 CL1 CL2 CL3 CL4 CL5 m1 m2 m3 m4 m5
  obtain ⟨gl, g0, g1, g2, g3, g4, g5, g6⟩ := HFc.out w6 (HAll.out w6 hTT6)
  have q5 : n5 ≤ 16 := by have := HF.out.imports; omega
  have q6 : n6 ≤ 64 := by have := HF.out.entries; omega
  have i5 : (n5 : Int) ≤ 16 := by omega
  have i6 : (n6 : Int) ≤ 64 := by omega
  go_wp2_with fail
  clear gl g0 g1 g2 g3 g4 g5 g6
  go_loopw [40] (fun iv wr => ∃ k : Nat, iv = .int .i64 k ∧ k ≤ n5 ∧ WAt wr b b fv (t5 ++ catV (lnT ((f.imports.take k).map impT))) ∧ TChg TC b W1 wr) (fun iv _ => n5 - (intOf iv).toNat)
  case atStart => exact ⟨0, rfl, Nat.zero_le _, by simpa [lnT, catV] using hW6, hTT6⟩
  case round =>
    obtain ⟨k, rfl, hk, hW, hT⟩ := hrel
    have hbx := HAll.out wr hT
    by_cases hlt : k < n5
    · have j1 : (k : Int) < (n5 : Int) := by omega
      obtain ⟨b0, o0, ⟨md, sm⟩, cs, rfl, hx, ⟨rfl, hms, hsm⟩, _, hcs⟩ := (HRd.out wr hbx).2.2.2.2.1.at_ hlt (by omega)
      have c0 := hcs 0 _ rfl
      have c1 := hcs 1 _ rfl
      rw [Nat.add_zero] at c0
      dsimp only at c0 c1 hms hsm
      have hmem := List.mem_of_getElem? hx
      have hlo := imp_ok HF.out hmem hsm
      have hll := lines_len hlo
      have hpre := lnT_len (Ls := (f.imports.take k).map impT) (fun l hl => by
        obtain ⟨y, hy, rfl⟩ := List.mem_map.1 hl
        exact imp_ok HF.out (List.mem_of_mem_take hy) (by
          obtain ⟨j, hj, rfl⟩ := List.getElem_of_mem (List.mem_of_mem_take hy)
          obtain ⟨ad, e, hc⟩ := (HRd.out wr hbx).2.2.2.2.1.2.2 (by omega)
          obtain ⟨cs, h1, _⟩ := hc j _ (List.getElem?_eq_getElem hj)
          exact h1.2.2))
      rw [List.length_map, List.length_take] at hpre
      have htk : (f.imports.take (k + 1)).map impT = (f.imports.take k).map impT ++ [impT ⟨md, sm⟩] := take_map_snoc impT hx
      obtain ⟨t, ht⟩ : ∃ t, t5 ++ catV (lnT ((f.imports.take k).map impT)) = t := ⟨_, rfl⟩
      have htl : t.length ≤ 4000000000 := by rw [← ht, List.length_append]; omega
      rw [ht] at hW
      have hSt : t5 ++ catV (lnT ((f.imports.take (k + 1)).map impT)) = t ++ catV ([importB] ++ lineW [md, decB sm] ++ [semiB]) := by rw [htk, lnT_append, lnT_one, catV_append, ← List.append_assoc, ht]; rfl
      have HSt := Lib.hid hSt
      clear hSt
      obtain ⟨W2, hW2⟩ : ∃ W2, wr.alloc (.cells #[.string md, .int .u32 sm] 57) = W2 := ⟨_, rfl⟩
      have hb2 : Below wr.heap.size wr W2 := by rw [← hW2]; exact (Below.refl _ _).alloc (Nat.le_refl _) _
      have hN0 : Blk W2 wr.heap.size 57 #[.string md, .int .u32 sm] := by rw [← hW2]; exact Blk.new wr _ _
      have hNf : ∀ W', TChg TC b W2 W' → wr.heap.size < W'.heap.size ∧ W'.cell? ⟨wr.heap.size, 0, none⟩ = some (.string md) ∧ W'.cell? ⟨wr.heap.size, 1, none⟩ = some (.int .u32 sm) := fun W' ht => by
        have := ht.blk hN0 (by rintro ((h | h) | h) <;> cases h)
        refine ⟨this.lt, ?_, ?_⟩ <;> rw [this.cell] <;> rfl
      have hT2 : TChg TC b W1 W2 := hT.trans (TChg.below hb2)
      have cN : ∀ W', TChg TC b W1 W' → Calls Tryz.prog 12 #[.int .u64 (sm : Nat)] W' fun e w' => e = .returned (.string (decB sm)) ∧ Below W'.heap.size W' w' := fun W' ht =>
        number_any sm (by omega) W' (HRd.out W' (HAll.out W' ht)).2.2.2.2.2.2
      have hds := (decB_G sm (by omega)).1
      have cL : ∀ W', TChg TC b W1 W' → WAt W' b b fv t → Calls Tryz.prog 10 #[.pointer (some ⟨b, 0, none⟩), .string importB, .slice (some ⟨W'.heap.size, 0, none⟩) 2 2] (W'.alloc (.cells #[.string md, .string (decB sm)] 9)) fun e w' => e = .returned (.tuple #[]) ∧ WAt w' b b fv (t ++ catV ([importB] ++ lineW [md, decB sm] ++ [semiB])) ∧ TChg TW b (W'.alloc (.cells #[.string md, .string (decB sm)] 9)) w' := fun W' ht hw => by
        have hBs := Blk.new W' 9 #[.string md, .string (decB sm)]
        refine line_any _ b b fv t importB _ 2 2 [md, decB sm] (hw.alloc _) (by decide) (fun W'' ht => strs_blk (g := W'.heap.size) (t := 9) (ht.blk hBs (by rintro (h | h) <;> cases h)) rfl (by omega) (by
          intro s hs
          simp only [List.mem_cons, List.not_mem_nil, or_false] at hs
          rcases hs with rfl | rfl
          · exact hms
          · exact Nat.le_trans hds (by decide))) ?_ (by have := ht.size; simp; omega)
        show t.length + (catV (impT ⟨md, sm⟩ ++ [semiB])).length ≤ _
        omega
      have HNf := Lib.hid hNf
      have CN := Lib.hid cN
      have CL := Lib.hid cL
      have hd2 : TChg TC b W2 W2.drew := Chg.drew _ W2
      have hd1 : TChg TC b W1 W2.drew := hT2.trans (Chg.drew _ W2)
      have hWd : WAt W2.drew b b fv t := hW.below hb2.drew
      obtain ⟨gl, q0, q1⟩ := HNf.out W2 TChg.refl
      obtain ⟨gl', q0', q1'⟩ := HNf.out W2.drew hd2
      obtain ⟨gw, g0, g1, g2, g3, g4, g5, g6⟩ := HFc.out wr hbx
      have e1 : IntKind.u64.wrap (sm : Int) = sm := IntWalk.u64_in _ (by omega)
      clear cN cL hNf hN0 hW hlo hll hpre htk hx hmem hcs ht
      go_wp2_with fail
      go_region_held3 (fun w' => w'.cell? ⟨wr.heap.size, 0, none⟩ = some (.string md) ∧ w'.cell? ⟨wr.heap.size, 1, none⟩ = some (.int .u32 sm))
        (first | (refine ⟨?_, ?_⟩ <;> assumption) | go_keep)
        (first
        | (go_at_call 12
           refine (CN.out _ (by assumption)).mono ?_
           rintro rr ww ⟨rfl, hbb⟩
           have ht1 : TChg TC b W1 _ := TChg.trans (by assumption) (TChg.below (T := TC) (B := b) hbb)
           have ht2 : TChg TC b W2 _ := TChg.trans (by assumption) (TChg.below (T := TC) (B := b) hbb)
           have hwa : WAt _ b b fv t := WAt.below (by assumption) hbb
           obtain ⟨gl, q0, q1⟩ := HNf.out _ ht2)
        | (go_at_call 10
           refine (CL.out _ (by assumption) (by assumption)).mono ?_
           rintro rr ww ⟨rfl, hwp, htp⟩
           have ht1 : TChg TC b W1 _ := TChg.trans (by assumption) (TChg.trans (TChg.alloc _ _) htp.tc)
           have ht2 : TChg TC b W2 _ := TChg.trans (by assumption) (TChg.trans (TChg.alloc _ _) htp.tc)
           obtain ⟨gl, q0, q1⟩ := HNf.out _ ht2))
      all_goals
        go_wp2_with fail
        exact ⟨⟨k + 1, by go_num, by omega, by rw [HSt.out]; exact hwp, ht1⟩, by simp [intOf]; omega⟩
    · obtain rfl : n5 = k := by omega
      rw [List.take_of_length_le (by omega)] at hW
      have hlen := lnT_len (Ls := f.imports.map impT) (fun l hl => by
        obtain ⟨y, hy, rfl⟩ := List.mem_map.1 hl
        exact imp_ok HF.out hy (by
          obtain ⟨j, hj, rfl⟩ := List.getElem_of_mem hy
          obtain ⟨ad, e, hc⟩ := (HRd.out wr hbx).2.2.2.2.1.2.2 (by omega)
          obtain ⟨cs, h1, _⟩ := hc j _ (List.getElem?_eq_getElem hj)
          exact h1.2.2))
      rw [List.length_map] at hlen
      obtain ⟨t6, ht6⟩ : ∃ t, t5 ++ catV (lnT (f.imports.map impT)) = t := ⟨_, rfl⟩
      have hl6 : t6.length ≤ 4000000000 := by rw [← ht6, List.length_append]; omega
      rw [ht6] at hW
      have HE6 := Lib.hid ht6
      clear ht6 hlen
      obtain ⟨gl, g0, g1, g2, g3, g4, g5, g6⟩ := HFc.out wr hbx
      go_wp2_with fail
      clear gl g0 g1 g2 g3 g4 g5 g6
      obtain ⟨wo, rfl⟩ : ∃ wo : World, wo = wr := ⟨_, rfl⟩
      go_loopw [57] (fun iv wr => ∃ k : Nat, iv = .int .i64 k ∧ k ≤ n6 ∧ WAt wr b b fv (t6 ++ catV (lnT ((f.entries.take k).map (entT (faceP f))))) ∧ TChg TC b W1 wr) (fun iv _ => n6 - (intOf iv).toNat)
      case atStart => exact ⟨0, rfl, Nat.zero_le _, by simpa [lnT, catV] using hW, hT⟩
      case round =>
        clear hW hT hbx
        obtain ⟨k, rfl, hk, hW, hT⟩ := hrel
        have hbx := HAll.out wr hT
        obtain ⟨gw, g0, g1, g2, g3, g4, g5, g6⟩ := HFc.out wr hbx
        have hpre := lnT_len (Ls := (f.entries.take k).map (entT (faceP f))) (fun l hl => by
          obtain ⟨y, hy, rfl⟩ := List.mem_map.1 hl
          exact ent_ok HF.out (List.mem_of_mem_take hy))
        rw [List.length_map, List.length_take] at hpre
        by_cases hlt : k < n6
        · have j1 : (k : Int) < (n6 : Int) := by omega
          obtain ⟨b0, o0, ⟨nm, ⟨lv, ev, body, lb, eb⟩⟩, cs, rfl, hx, ⟨cs', rfl, hnm, hlv, hev, A, n, c, LA, ln, lc, EA, en, ec, rfl, hSb, hSl, hSe, hcb, hcl, hce⟩, _, hcs⟩ := (HRd.out W0 (Below.refl _ _)).2.2.2.2.2.1.at_ hlt (by omega)
          dsimp only at hnm hlv hev hSb hSl hSe
          have hcw : ∀ i u, (Value.string nm :: [.int .i64 lv, .int .i64 ev, .slice A n c, .slice LA ln lc, .slice EA en ec])[i]? = some u → wr.cell? ⟨b0, o0 + k * 6 + i, none⟩ = some u := fun i u hu => (hbx.cell (World.block_lt_of_cell? W0 _ (hcs i u hu))).trans (hcs i u hu)
          have p0 := hcw 0 _ rfl
          have p1 := hcw 1 _ rfl
          have p2 := hcw 2 _ rfl
          have p3 := hcw 3 _ rfl
          have p4 := hcw 4 _ rfl
          have p5 := hcw 5 _ rfl
          rw [Nat.add_zero] at p0
          have hmem := List.mem_of_getElem? hx
          obtain ⟨he, hno⟩ := HF.out.ent _ hmem
          have hS := schemeOk he
          have hrw := HF.out.rows
          have hnl := hS.ll
          have hne := hS.le
          have hsl := hSl.1
          have hse := hSe.1
          dsimp only at hnl hne hno
          have htk : (f.entries.take (k + 1)).map (entT (faceP f)) = (f.entries.take k).map (entT (faceP f)) ++ [entT (faceP f) ⟨nm, ⟨lv, ev, body, lb, eb⟩⟩] := take_map_snoc (entT (faceP f)) hx
          obtain ⟨t, ht⟩ : ∃ t, t6 ++ catV (lnT ((f.entries.take k).map (entT (faceP f)))) = t := ⟨_, rfl⟩
          have htl : t.length ≤ 13000000000 := by rw [← ht, List.length_append]; omega
          rw [ht] at hW
          have hSt : t6 ++ catV (lnT ((f.entries.take (k + 1)).map (entT (faceP f)))) = t ++ catV (entT (faceP f) ⟨nm, ⟨lv, ev, body, lb, eb⟩⟩ ++ [semiB]) := by rw [htk, lnT_append, lnT_one, catV_append, ← List.append_assoc, ht]
          have hT2 : ∀ W', Below wr.heap.size wr W' → TChg TC b W1 W' := fun W' h => hT.trans (TChg.below h)
          have hCf : (eCtx f b b A1 A2 A3 A4 A5 (some ⟨b0, o0, none⟩) A n2 c1 n2 c2 n3 c3 n4 c4 n5 c5 n6 c6 n c body).f = fv := HFv.out
          have hCo := eCtx_ok HF.out hmem b b A1 A2 A3 A4 A5 (some ⟨b0, o0, none⟩) A n2 c1 n2 c2 n3 c3 n4 c4 n5 c5 n6 c6 n c l1 l3 l5
          have hbd : ∀ y ∈ lb, LabT n2 y.a ∧ LabT n2 y.b := fun y hy => by
            have := hS.bl y hy
            rw [hrw, l1] at this
            exact this
          have cE : ∀ W', TChg TC b W1 W' → WAt W' b b fv t → Calls Tryz.prog 13 #[.pointer (some ⟨b, 0, none⟩), .agg #[.string nm, .int .i64 lv, .int .i64 ev, .slice A n c, .slice LA ln lc, .slice EA en ec]] W' fun e w' => e = .returned (.tuple #[]) ∧ WAt w' b b fv (t ++ catV (entT (faceP f) ⟨nm, ⟨lv, ev, body, lb, eb⟩⟩ ++ [semiB])) ∧ TChg TC b W' w' := fun W' ht' hw => by
            have hrd : ∀ W2, TChg TC b W' W2 → Below W0.heap.size W0 W2 := fun W2 h2 => HAll.out W2 (ht'.trans h2)
            have := entry_any (eCtx f b b A1 A2 A3 A4 A5 (some ⟨b0, o0, none⟩) A n2 c1 n2 c2 n3 c3 n4 c4 n5 c5 n6 c6 n c body) hCo ⟨nm, ⟨lv, ev, body, lb, eb⟩⟩ rfl LA EA ln lc en ec W' t (by rw [hCf]; exact hw)
              (fun W2 h2 => ⟨(HRd.out W2 (hrd W2 h2)).1, (HRd.out W2 (hrd W2 h2)).2.2.1, (HRd.out W2 (hrd W2 h2)).2.2.2.2.1, hSb.below rNode_keeps (hrd W2 h2)⟩)
              (fun W2 h2 => hSl.below rBound_keeps (hrd W2 h2)) (fun W2 h2 => hSe.below rBound_keeps (hrd W2 h2)) (by omega) (by omega) (Nat.le_trans (HF.out.nEnt _ hmem).1 (by decide)) hS.body hS.lv hS.ev hbd hS.be
              (fun y hy => by
                have := hbd y hy
                rw [← l1] at this
                exact ⟨Nat.le_trans (label_G HF.out.nLab this.1).1 (by decide), Nat.le_trans (label_G HF.out.nLab this.2).1 (by decide)⟩)
              (fun y hy => ⟨(eff_G HF.out.effects HF.out.nEff (hS.be y hy).1).1, (eff_G HF.out.effects HF.out.nEff (hS.be y hy).2).1⟩) (by omega) (by have := ht'.size; show b ≤ W'.heap.size; omega)
            rw [hCf] at this
            exact this
          have HSt := Lib.hid hSt
          have CE := Lib.hid cE
          have HT2 := Lib.hid hT2
          have HW := Lib.hid hW
          clear hSt cE hT2 hW hbd hCo hCf ht htk hmem he hno hS hrw hx hcs hcw hSb hSl hSe hpre
          obtain ⟨W2, hW2⟩ : ∃ W2, wr.alloc (.cells #[.string nm, .int .i64 lv, .int .i64 ev, .slice A n c, .slice LA ln lc, .slice EA en ec] 45) = W2 := ⟨_, rfl⟩
          have hb2 : Below wr.heap.size wr W2 := by rw [← hW2]; exact (Below.refl _ _).alloc (Nat.le_refl _) _
          have hN0 : Blk W2 wr.heap.size 45 #[.string nm, .int .i64 lv, .int .i64 ev, .slice A n c, .slice LA ln lc, .slice EA en ec] := by rw [← hW2]; exact Blk.new wr _ _
          have hlt2 := hN0.lt
          have d0 := hN0.cell 0
          have d1 := hN0.cell 1
          have d2 := hN0.cell 2
          have d3 := hN0.cell 3
          have d4 := hN0.cell 4
          have d5 := hN0.cell 5
          simp at d0 d1 d2 d3 d4 d5
          have CE2 := Lib.hid (CE.out W2 (HT2.out W2 hb2) (HW.out.below hb2))
          have HTw := Lib.hid (HT2.out W2 hb2)
          go_wp2_with fail
          refine CE2.out.mono ?_
          rintro r w7 ⟨rfl, hW7, hT7⟩
          go_wp2_with fail
          exact ⟨⟨k + 1, by go_num, by omega, by rw [HSt.out]; exact hW7, HTw.out.trans hT7⟩, by simp [intOf]; omega⟩
        · obtain rfl : k = n6 := by omega
          rw [List.take_of_length_le (by omega)] at hW
          have hfin : t6 ++ catV (lnT (f.entries.map (entT (faceP f)))) = Lib.byteCells (printL f) := by
            rw [printL, ← catV_bytes, printW, printLs, lnT_append, lnT_append, catV_append, catV_append, ← HE6.out, ← HE5.out, ← HE4.out, ← HE3.out, ← HE2.out, ← HE1.out, headLs, l1]
            simp [lnT, catV]
          rw [hfin] at hW
          have hne : printL f ≠ [] := by
            obtain ⟨r, hr⟩ : ∃ r, printW f = ifaceB :: r := ⟨_, rfl⟩
            rw [printL, hr, List.flatMap_cons]
            intro h
            have := congrArg List.length h
            simp [ifaceB] at this
          have cLen := len_any wr b b fv _ hW
          rw [Lib.byteCells_length] at cLen
          have cStr := string_any wr b b fv _ hW hne
          have hfb : Below w.heap.size w wr := HB.out.trans (hbx.mono HB.out.size)
          have hwb : w.heap.size ≤ b := by have := HB.out.size; omega
          have hbl : b < wr.heap.size := hW.lt
          have CLen := Lib.hid cLen
          have CStr := Lib.hid cStr
          clear cLen cStr hfin hne hW hpre
          by_cases hbig : 1048576 < (printL f).length
          · have hv : printR f = (ByteArray.empty, 3) := by rw [printR, if_neg (by omega), if_pos hbig]
            have HV := Lib.hid hv
            have z : decide ((1048576 : Int) < ((printL f).length : Int)) = true := by simp; omega
            clear hv hbig
            go_wp2_with fail
            refine CLen.out.mono ?_
            rintro r w7 ⟨rfl, e1⟩
            obtain rfl := e1.symm
            go_wp2_with fail
            refine bodyPost_ret (v := .tuple #[.string ⟨#[]⟩, .int .i64 3]) (by simp [results, Tryz.results6, go_sem]) rfl ⟨?_, hfb⟩
            rw [HV.out]
            rfl
          · have hv : printR f = (⟨(printL f).toArray⟩, 0) := by rw [printR, if_neg (by omega), if_neg hbig]
            have HV := Lib.hid hv
            have z : decide ((1048576 : Int) < ((printL f).length : Int)) = false := by simp; omega
            clear hv hbig
            go_wp2_with fail
            refine CLen.out.mono ?_
            rintro r w7 ⟨rfl, e1⟩
            obtain rfl := e1.symm
            go_wp2_with fail
            refine CStr.out.mono ?_
            rintro r w8 ⟨rfl, hb8⟩
            go_wp2_with fail
            refine bodyPost_ret (v := .tuple #[.string ⟨(printL f).toArray⟩, .int .i64 0]) (by simp [results, Tryz.results6, go_sem]) rfl ⟨?_, hfb.trans (hb8.mono hwb)⟩
            rw [HV.out]
            rfl
end Go.Proofs.YtcgnbpjbpbabaaaGreatDoor
end

section
set_option linter.unusedVariables false
set_option linter.unusedSimpArgs false
set_option maxRecDepth 100000
set_option maxHeartbeats 2000000
namespace Go.Proofs.YtcgnbpjbpbabaaaGreatDoor
open Go.RowKit
theorem size_nums (A : Option Addr) (n c : Nat) (w : World) : Calls Tryz.prog 17 #[.slice A n c] w fun e w' => e = .returned (.int .i64 (n : Nat)) ∧ w' = w := by
  go_enter Tryz.func17, Tryz.ntmps17
  go_wp2_with fail
  go_ret
  exact ⟨rfl, rfl⟩
theorem size_imports (A : Option Addr) (n c : Nat) (w : World) : Calls Tryz.prog 18 #[.slice A n c] w fun e w' => e = .returned (.int .i64 (n : Nat)) ∧ w' = w := by
  go_enter Tryz.func18, Tryz.ntmps18
  go_wp2_with fail
  go_ret
  exact ⟨rfl, rfl⟩
theorem size_nodes (A : Option Addr) (n c : Nat) (w : World) : Calls Tryz.prog 86 #[.slice A n c] w fun e w' => e = .returned (.int .i64 (n : Nat)) ∧ w' = w := by
  go_enter Tryz.func86, Tryz.ntmps86
  go_wp2_with fail
  go_ret
  exact ⟨rfl, rfl⟩
theorem size_bounds (A : Option Addr) (n c : Nat) (w : World) : Calls Tryz.prog 87 #[.slice A n c] w fun e w' => e = .returned (.int .i64 (n : Nat)) ∧ w' = w := by
  go_enter Tryz.func87, Tryz.ntmps87
  go_wp2_with fail
  go_ret
  exact ⟨rfl, rfl⟩
theorem size_texts (A : Option Addr) (n c : Nat) (l : List ByteArray) (w : World) (h : Strs w A n l) (hn : n ≤ 140737488355328) : Calls Tryz.prog 16 #[.slice A n c] w fun e w' => (∃ x : Int, e = .returned (.int .i64 x)) ∧ w' = w := by
  have HS := Lib.hid (sl_strs.2 h)
  clear h
  have i1 : (n : Int) ≤ 140737488355328 := by omega
  go_enter Tryz.func16, Tryz.ntmps16
  go_wp2_with fail
  go_loopw [3, 4] (fun xv iv wr => ∃ (k : Nat) (x : Int), xv = .int .i64 x ∧ iv = .int .i64 k ∧ k ≤ n ∧ wr = w) (fun _ iv _ => n - (intOf iv).toNat)
  case atStart => exact ⟨0, _, rfl, rfl, Nat.zero_le _, rfl⟩
  case round =>
    obtain ⟨k, x, rfl, rfl, hk, hww⟩ := hrel
    subst hww
    by_cases hlt : k < n
    · have i2 : (k : Int) < (n : Int) := by omega
      obtain ⟨b0, o0, s, cs, rfl, hsk, ⟨rfl, hsz⟩, _, hcs⟩ := HS.out.at_ hlt (by omega)
      have c0 := hcs 0 _ rfl
      simp only [Nat.mul_one, Nat.add_zero] at c0
      clear hcs hsk
      by_cases hx : x ≤ 1048576
      · go_wp2_with fail
        exact ⟨⟨k + 1, _, rfl, by go_num, by omega, by simp⟩, by simp [intOf]; omega⟩
      · go_wp2_with fail
        go_ret
        exact ⟨⟨_, rfl⟩, rfl⟩
    · obtain rfl : n = k := by omega
      go_wp2_with fail
      go_ret
      exact ⟨⟨_, rfl⟩, rfl⟩
theorem size_scheme (a b : Int) (A B C : Option Addr) (n c m d k e : Nat) (w : World) (hn : n ≤ 140737488355328) (hm : m ≤ 140737488355328) (hk : k ≤ 140737488355328) :
    Calls Tryz.prog 67 #[.agg #[.int .i64 a, .int .i64 b, .slice A n c, .slice B m d, .slice C k e]] w fun r w' => (∃ x : Int, r = .returned (.int .i64 x)) ∧ Below w.heap.size w w' := by
  have i1 : (n : Int) ≤ 140737488355328 := by omega
  have i2 : (m : Int) ≤ 140737488355328 := by omega
  have i3 : (k : Int) ≤ 140737488355328 := by omega
  have hb := (Below.refl w.heap.size w).alloc (Nat.le_refl _) (.cells #[.int .i64 a, .int .i64 b, .slice A n c, .slice B m d, .slice C k e] 43)
  go_enter Tryz.func67, Tryz.ntmps67
  go_wp2_with (first
    | (go_at_call 86; refine (size_nodes _ _ _ _).mono ?_; rintro r w1 ⟨rfl, rfl⟩)
    | (go_at_call 87; refine (size_bounds _ _ _ _).mono ?_; rintro r w1 ⟨rfl, rfl⟩))
  all_goals
    go_ret
    exact ⟨⟨_, rfl⟩, hb⟩
theorem size_entry (s : ByteArray) (a b : Int) (A B C : Option Addr) (n c m d k e : Nat) (w : World) (hn : n ≤ 140737488355328) (hm : m ≤ 140737488355328) (hk : k ≤ 140737488355328) :
    Calls Tryz.prog 41 #[.agg #[.string s, .int .i64 a, .int .i64 b, .slice A n c, .slice B m d, .slice C k e]] w fun r w' => (∃ x : Int, r = .returned (.int .i64 x)) ∧ Below w.heap.size w w' := by
  have hb := (Below.refl w.heap.size w).alloc (Nat.le_refl _) (.cells #[.string s, .int .i64 a, .int .i64 b, .slice A n c, .slice B m d, .slice C k e] 45)
  have HS := Lib.hid (size_scheme a b A B C n c m d k e (w.alloc (.cells #[.string s, .int .i64 a, .int .i64 b, .slice A n c, .slice B m d, .slice C k e] 45)) hn hm hk)
  go_enter Tryz.func41, Tryz.ntmps41
  go_wp2_with fail
  refine HS.out.mono ?_
  rintro r w1 ⟨⟨x, rfl⟩, hb1⟩
  go_wp2_with fail
  go_ret
  exact ⟨⟨_, rfl⟩, hb.trans (hb1.mono (by simp))⟩
def SmallEnt (x : Entry) : Prop := x.s.body.length ≤ 140737488355328 ∧ x.s.l.length ≤ 140737488355328 ∧ x.s.e.length ≤ 140737488355328
theorem size_entries (A : Option Addr) (n c : Nat) (l : List Entry) (w : World) (h : Sl rEntry 6 w A n l) (hn : n ≤ 140737488355328) (hs : ∀ x ∈ l, SmallEnt x) :
    Calls Tryz.prog 19 #[.slice A n c] w fun e w' => (∃ x : Int, e = .returned (.int .i64 x)) ∧ Below w.heap.size w w' := by
  have HS := Lib.hid h
  have HN := Lib.hid hs
  clear h hs
  have i1 : (n : Int) ≤ 140737488355328 := by omega
  go_enter Tryz.func19, Tryz.ntmps19
  go_wp2_with fail
  go_loopw [3, 4] (fun xv iv wr => ∃ (k : Nat) (x : Int), xv = .int .i64 x ∧ iv = .int .i64 k ∧ k ≤ n ∧ Below w.heap.size w wr) (fun _ iv _ => n - (intOf iv).toNat)
  case atStart => exact ⟨0, _, rfl, rfl, Nat.zero_le _, Below.refl _ _⟩
  case round =>
    obtain ⟨k, x, rfl, rfl, hk, hbw⟩ := hrel
    by_cases hlt : k < n
    · have i2 : (k : Int) < (n : Int) := by omega
      obtain ⟨b0, o0, ⟨nm, ⟨lv, ev, body, lb, eb⟩⟩, cs, rfl, hx, ⟨cs', rfl, hnm, hlv, hev, A', n', c', LA, ln, lc, EA, en, ec, rfl, hSb, hSl, hSe, hcb, hcl, hce⟩, _, hcs⟩ := (HS.out.below rEntry_keeps hbw).at_ hlt (by omega)
      dsimp only at hSb hSl hSe
      obtain ⟨s1, s2, s3⟩ := HN.out _ (List.mem_of_getElem? hx)
      dsimp only at s1 s2 s3
      have z1 := hSb.1
      have z2 := hSl.1
      have z3 := hSe.1
      have p0 := hcs 0 _ rfl
      have p1 := hcs 1 _ rfl
      have p2 := hcs 2 _ rfl
      have p3 := hcs 3 _ rfl
      have p4 := hcs 4 _ rfl
      have p5 := hcs 5 _ rfl
      rw [Nat.add_zero] at p0
      have CE := Lib.hid (size_entry nm lv ev A' LA EA n' c' ln lc en ec wr (by omega) (by omega) (by omega))
      have HB := Lib.hid hbw
      clear hcs hx hSb hSl hSe s1 s2 s3 z1 z2 z3 hbw hlv hev
      by_cases hx : x ≤ 1048576
      · go_wp2_with fail
        refine CE.out.mono ?_
        rintro r w1 ⟨⟨y, rfl⟩, hb1⟩
        go_wp2_with fail
        exact ⟨⟨k + 1, _, rfl, by go_num, by omega, HB.out.trans (hb1.mono HB.out.size)⟩, by simp [intOf]; omega⟩
      · go_wp2_with fail
        go_ret
        exact ⟨⟨_, rfl⟩, HB.out⟩
    · obtain rfl : n = k := by omega
      go_wp2_with fail
      go_ret
      exact ⟨⟨_, rfl⟩, hbw⟩
theorem size_face (f : Face) (A1 A2 A3 A4 A5 A6 : Option Addr) (n1 c1 n2 c2 n3 c3 n4 c4 n5 c5 n6 c6 : Nat) (w : World) (h1 : Strs w A1 n1 f.labels) (h3 : Strs w A3 n3 f.effects) (h4 : Strs w A4 n4 f.types) (h6 : Sl rEntry 6 w A6 n6 f.entries)
    (b1 : n1 ≤ 140737488355328) (b2 : n2 ≤ 140737488355328) (b3 : n3 ≤ 140737488355328) (b4 : n4 ≤ 140737488355328) (b5 : n5 ≤ 140737488355328) (b6 : n6 ≤ 140737488355328) (hs : ∀ x ∈ f.entries, SmallEnt x) :
    Calls Tryz.prog 7 #[.agg #[.string f.module, .slice A1 n1 c1, .slice A2 n2 c2, .slice A3 n3 c3, .slice A4 n4 c4, .slice A5 n5 c5, .slice A6 n6 c6]] w fun e w' => (∃ x : Int, e = .returned (.int .i64 x)) ∧ Below w.heap.size w w' := by
  obtain ⟨W0, hW0⟩ : ∃ W0, w.alloc (.cells #[.string f.module, .slice A1 n1 c1, .slice A2 n2 c2, .slice A3 n3 c3, .slice A4 n4 c4, .slice A5 n5 c5, .slice A6 n6 c6] 27) = W0 := ⟨_, rfl⟩
  have hb0 : Below w.heap.size w W0 := by rw [← hW0]; exact (Below.refl _ w).alloc (Nat.le_refl _) _
  have hB0 : Blk W0 w.heap.size 27 #[.string f.module, .slice A1 n1 c1, .slice A2 n2 c2, .slice A3 n3 c3, .slice A4 n4 c4, .slice A5 n5 c5, .slice A6 n6 c6] := by rw [← hW0]; exact Blk.new w _ _
  have hlt := hB0.lt
  have g1 := hB0.cell 1
  have g2 := hB0.cell 2
  have g3 := hB0.cell 3
  have g4 := hB0.cell 4
  have g5 := hB0.cell 5
  have g6 := hB0.cell 6
  simp at g1 g2 g3 g4 g5 g6
  have C1 := Lib.hid (size_texts A1 n1 c1 f.labels W0 (sl_strs.1 ((sl_strs.2 h1).below rStr_keeps hb0)) b1)
  have C3 := Lib.hid (size_texts A3 n3 c3 f.effects W0 (sl_strs.1 ((sl_strs.2 h3).below rStr_keeps hb0)) b3)
  have C4 := Lib.hid (size_texts A4 n4 c4 f.types W0 (sl_strs.1 ((sl_strs.2 h4).below rStr_keeps hb0)) b4)
  have C6 := Lib.hid (size_entries A6 n6 c6 f.entries W0 (h6.below rEntry_keeps hb0) b6 hs)
  have HB := Lib.hid hb0
  clear h1 h3 h4 h6 hs hb0 hB0
  go_enter Tryz.func7, Tryz.ntmps7
  go_wp2_with fail
  refine C1.out.mono ?_
  rintro r w1 ⟨⟨x1, rfl⟩, e1⟩
  obtain rfl := e1.symm
  obtain ⟨y1, hy1⟩ : ∃ y, IntKind.i64.wrap (1 + x1) = y := ⟨_, rfl⟩
  by_cases q1 : y1 ≤ 1048576
  rotate_left
  · go_wp2_with fail
    go_ret
    exact ⟨⟨_, rfl⟩, HB.out⟩
  go_wp2_with fail
  refine (size_nums A2 n2 c2 W0).mono ?_
  rintro r w1 ⟨rfl, e1⟩
  obtain rfl := e1.symm
  obtain ⟨y2, hy2⟩ : ∃ y, IntKind.i64.wrap (y1 + (n2 : Int)) = y := ⟨_, rfl⟩
  by_cases q2 : y2 ≤ 1048576
  rotate_left
  · go_wp2_with fail
    go_ret
    exact ⟨⟨_, rfl⟩, HB.out⟩
  go_wp2_with fail
  refine C3.out.mono ?_
  rintro r w1 ⟨⟨x3, rfl⟩, e1⟩
  obtain rfl := e1.symm
  obtain ⟨y3, hy3⟩ : ∃ y, IntKind.i64.wrap (y2 + x3) = y := ⟨_, rfl⟩
  by_cases q3 : y3 ≤ 1048576
  rotate_left
  · go_wp2_with fail
    go_ret
    exact ⟨⟨_, rfl⟩, HB.out⟩
  go_wp2_with fail
  refine C4.out.mono ?_
  rintro r w1 ⟨⟨x4, rfl⟩, e1⟩
  obtain rfl := e1.symm
  obtain ⟨y4, hy4⟩ : ∃ y, IntKind.i64.wrap (y3 + x4) = y := ⟨_, rfl⟩
  by_cases q4 : y4 ≤ 1048576
  rotate_left
  · go_wp2_with fail
    go_ret
    exact ⟨⟨_, rfl⟩, HB.out⟩
  go_wp2_with fail
  refine (size_imports A5 n5 c5 W0).mono ?_
  rintro r w1 ⟨rfl, e1⟩
  obtain rfl := e1.symm
  obtain ⟨y5, hy5⟩ : ∃ y, IntKind.i64.wrap (y4 + (n5 : Int)) = y := ⟨_, rfl⟩
  by_cases q5 : y5 ≤ 1048576
  rotate_left
  · go_wp2_with fail
    go_ret
    exact ⟨⟨_, rfl⟩, HB.out⟩
  go_wp2_with fail
  refine C6.out.mono ?_
  rintro r w1 ⟨⟨x6, rfl⟩, e1⟩
  go_wp2_with fail
  go_ret
  exact ⟨⟨_, rfl⟩, HB.out.trans (e1.mono HB.out.size)⟩
theorem great_any (f : Face) (A1 A2 A3 A4 A5 A6 : Option Addr) (n1 c1 n2 c2 n3 c3 n4 c4 n5 c5 n6 c6 : Nat) (w : World) (h1 : Strs w A1 n1 f.labels) (h3 : Strs w A3 n3 f.effects) (h4 : Strs w A4 n4 f.types) (h6 : Sl rEntry 6 w A6 n6 f.entries)
    (b1 : n1 ≤ 140737488355328) (b2 : n2 ≤ 140737488355328) (b3 : n3 ≤ 140737488355328) (b4 : n4 ≤ 140737488355328) (b5 : n5 ≤ 140737488355328) (b6 : n6 ≤ 140737488355328) (hs : ∀ x ∈ f.entries, SmallEnt x) :
    Calls Tryz.prog 4 #[.agg #[.string f.module, .slice A1 n1 c1, .slice A2 n2 c2, .slice A3 n3 c3, .slice A4 n4 c4, .slice A5 n5 c5, .slice A6 n6 c6]] w fun e w' => (∃ x : Bool, e = .returned (.bool x)) ∧ Below w.heap.size w w' := by
  obtain ⟨W0, hW0⟩ : ∃ W0, w.alloc (.cells #[.string f.module, .slice A1 n1 c1, .slice A2 n2 c2, .slice A3 n3 c3, .slice A4 n4 c4, .slice A5 n5 c5, .slice A6 n6 c6] 27) = W0 := ⟨_, rfl⟩
  have hb0 : Below w.heap.size w W0 := by rw [← hW0]; exact (Below.refl _ w).alloc (Nat.le_refl _) _
  have hB0 : Blk W0 w.heap.size 27 #[.string f.module, .slice A1 n1 c1, .slice A2 n2 c2, .slice A3 n3 c3, .slice A4 n4 c4, .slice A5 n5 c5, .slice A6 n6 c6] := by rw [← hW0]; exact Blk.new w _ _
  have hlt := hB0.lt
  have g0 := hB0.cell 0
  have g1 := hB0.cell 1
  have g2 := hB0.cell 2
  have g3 := hB0.cell 3
  have g4 := hB0.cell 4
  have g5 := hB0.cell 5
  have g6 := hB0.cell 6
  simp at g0 g1 g2 g3 g4 g5 g6
  have C1 := Lib.hid (size_face f A1 A2 A3 A4 A5 A6 n1 c1 n2 c2 n3 c3 n4 c4 n5 c5 n6 c6 W0 (sl_strs.1 ((sl_strs.2 h1).below rStr_keeps hb0)) (sl_strs.1 ((sl_strs.2 h3).below rStr_keeps hb0)) (sl_strs.1 ((sl_strs.2 h4).below rStr_keeps hb0)) (h6.below rEntry_keeps hb0) b1 b2 b3 b4 b5 b6 hs)
  have HB := Lib.hid hb0
  have HB0 := Lib.hid hB0
  have i6 : (n6 : Int) ≤ 140737488355328 := by omega
  clear h1 h3 h4 h6 hs hb0 hB0
  go_enter Tryz.func4, Tryz.ntmps4
  go_wp2_with fail
  refine C1.out.mono ?_
  rintro r w1 ⟨⟨x1, rfl⟩, e1⟩
  have hBw := HB0.out.below e1 HB0.out.lt
  have hlt1 := hBw.lt
  have d6 := hBw.cell 6
  simp at d6
  by_cases q : 700 < x1
  · go_wp2_with fail
    go_ret
    exact ⟨⟨_, rfl⟩, HB.out.trans (e1.mono HB.out.size)⟩
  · go_wp2_with fail
    go_ret
    exact ⟨⟨_, rfl⟩, HB.out.trans (e1.mono HB.out.size)⟩
end Go.Proofs.YtcgnbpjbpbabaaaGreatDoor
end

section
set_option linter.unusedVariables false
set_option linter.unusedSimpArgs false
set_option maxRecDepth 100000
set_option maxHeartbeats 2000000
namespace Go.Proofs.YtcgnbpjbpbabaaaGreatDoor
open Go.RowKit
def oneV (h : Nat) : Value := .agg #[.string ⟨#[109]⟩, .slice (some ⟨h + 1, 0, none⟩) 2 2, .slice (some ⟨h + 2, 0, none⟩) 2 2, .slice (some ⟨h + 3, 0, none⟩) 1 1, .slice (some ⟨h + 4, 0, none⟩) 1 1, .slice none 0 0, .slice (some ⟨h + 7, 0, none⟩) 1 1]
def OneAt (w : World) (h : Nat) : Prop :=
  Blk w (h + 1) 9 #[.string ⟨#[97]⟩, .string ⟨#[98]⟩] ∧ Blk w (h + 2) 35 #[.int .u64 3, .int .u64 2] ∧ Blk w (h + 3) 9 #[.string ⟨#[105, 111]⟩] ∧
  Blk w (h + 5) 68 #[.int .u8 1, .int .i64 0, .string ⟨#[105, 110, 116]⟩, .int .i64 0, .bool true, .int .u64 0, .bool false, .int .u64 0, .bool false, .int .u64 0] ∧
  Blk w (h + 6) 39 #[.bool false, .int .u64 1, .bool true, .int .u64 0] ∧
  Blk w (h + 7) 45 #[.string ⟨#[102]⟩, .int .i64 1, .int .i64 0, .slice (some ⟨h + 5, 0, none⟩) 1 1, .slice (some ⟨h + 6, 0, none⟩) 1 1, .slice none 0 0]
theorem blk_new {W : World} {t : TypeId} {cs : Array Value} {n : Nat} (hn : W.heap.size = n) : Blk (W.alloc (.cells cs t)) n t cs := hn ▸ Blk.new W t cs
theorem law18One_any (w : World) : Calls Tryz.prog 8 #[] w fun e w' => e = .returned (oneV w.heap.size) ∧ OneAt w' w.heap.size ∧ Below w.heap.size w w' ∧ w.heap.size + 8 ≤ w'.heap.size := by
  go_enter Tryz.func8, Tryz.ntmps8
  go_wp2_with fail
  refine bodyPost_ret (v := oneV w.heap.size) (by simp [results, Tryz.results8, go_sem, oneV]) rfl ⟨rfl, ⟨?_, ?_, ?_, ?_, ?_, ?_⟩, ?_, ?_⟩
  · exact ((((((blk_new (by simp)).alloc _).alloc _).alloc _).alloc _).alloc _).alloc _
  · exact (((((blk_new (by simp)).alloc _).alloc _).alloc _).alloc _).alloc _
  · exact ((((blk_new (by simp)).alloc _).alloc _).alloc _).alloc _
  · exact ((blk_new (by simp)).alloc _).alloc _
  · exact (blk_new (by simp)).alloc _
  · exact blk_new (by simp)
  · exact (((((((((Below.refl _ w).alloc (by simp) _).alloc (by simp <;> omega) _).alloc (by simp <;> omega) _).alloc (by simp <;> omega) _).alloc (by simp <;> omega) _).alloc (by simp <;> omega) _).alloc (by simp <;> omega) _).alloc (by simp <;> omega) _)
  · simp
end Go.Proofs.YtcgnbpjbpbabaaaGreatDoor
end
