/- prints: entry. prints: the pieces of an interface's text, in plain Lean; what its parts are if it may be. prints: the lines of an interface's text, in plain Lean: not long, no line's end in a piece. -/
import Derived.Test.YtcgnbpjbpbabaaaGreatDoorMg22
section
set_option linter.unusedVariables false
set_option linter.unusedSimpArgs false
set_option maxRecDepth 100000
set_option maxHeartbeats 2000000
namespace Go.Proofs.YtcgnbpjbpbabaaaGreatDoor
open Go.RowKit
def valB : ByteArray := ⟨#[118, 97, 108, 32]⟩
def lvB : ByteArray := ⟨#[32, 91]⟩
def colB : ByteArray := ⟨#[93, 58, 32]⟩
def entT (P : PCtx) (x : Entry) : List ByteArray :=
  [valB, x.name, lvB, decB x.s.lv.toNat, spB, decB x.s.ev.toNat, colB] ++ (nodeT P x.s.body x.s.body.length 0).1 ++ (if 0 < x.s.l.length + x.s.e.length then bndT P.lab x.s.l ++ bndT P.eff x.s.e else [])
theorem checkGo_st {b : List Node} (h : checkBody b = 0) : St b 0 1 := ⟨[1], by simpa using (checkBody_mem h).2.2.1, rfl⟩
theorem entry_any (C : NCtx) (hO : C.Ok) (x : Entry) (hxb : x.s.body = C.body) (LA EA : Option Addr) (ln lc en ec : Nat) (W : World) (bs : List Value) (h : WAt W C.B C.b C.f bs) (hR : C.ReadC W)
    (hL : ∀ W', TChg TC C.B W W' → Sl rBound 4 W' LA ln x.s.l) (hE : ∀ W', TChg TC C.B W W' → Sl rBound 4 W' EA en x.s.e) (hln : ln ≤ 256) (hen : en ≤ 256) (hname : x.name.size ≤ 5000) (hck : checkBody x.s.body = 0)
    (hlv : 0 ≤ x.s.lv ∧ x.s.lv ≤ 64) (hev : 0 ≤ x.s.ev ∧ x.s.ev ≤ 64)
    (okl : ∀ y ∈ x.s.l, C.LabOk y.a ∧ C.LabOk y.b) (oke : ∀ y ∈ x.s.e, (if y.a.var then y.a.n < 64 else True) ∧ (if y.b.var then y.b.n < 64 else True))
    (hgl : ∀ y ∈ x.s.l, (C.P.lab y.a).size ≤ 5000 ∧ (C.P.lab y.b).size ≤ 5000) (hge : ∀ y ∈ x.s.e, (C.P.eff y.a).size ≤ 5000 ∧ (C.P.eff y.b).size ≤ 5000) (hlen : bs.length + 30000000 ≤ 140737488355328) (hB : C.B ≤ W.heap.size) :
    Calls Tryz.prog 13 #[.pointer (some ⟨C.b, 0, none⟩), .agg #[.string x.name, .int .i64 x.s.lv, .int .i64 x.s.ev, .slice C.A C.n C.c, .slice LA ln lc, .slice EA en ec]] W fun e w' => e = .returned (.tuple #[]) ∧ WAt w' C.B C.b C.f (bs ++ catV (entT C.P x ++ [semiB])) ∧ TChg TC C.B W w' := by
  obtain ⟨nm, ⟨lv, ev, body, l, es⟩⟩ := x
  dsimp only at hxb hL hE hname hck hlv hev okl oke hgl hge
  subst hxb
  obtain ⟨lvN, rfl⟩ : ∃ k : Nat, lv = k := ⟨lv.toNat, by omega⟩
  obtain ⟨evN, rfl⟩ : ∃ k : Nat, ev = k := ⟨ev.toNat, by omega⟩
  have hll := (hL W TChg.refl).1
  have hel := (hE W TChg.refl).1
  have hd1 : (decB lvN).size ≤ 20 := decB_le lvN (by omega)
  have hd2 : (decB evN).size ≤ 20 := decB_le evN (by omega)
  obtain ⟨W0, hW0⟩ : ∃ W0, W.alloc (.cells #[.string nm, .int .i64 (lvN : Nat), .int .i64 (evN : Nat), .slice C.A C.n C.c, .slice LA ln lc, .slice EA en ec] 45) = W0 := ⟨_, rfl⟩
  have hb0 : Below W.heap.size W W0 := by rw [← hW0]; exact (Below.refl _ _).alloc (Nat.le_refl _) _
  have hN0 : Blk W0 W.heap.size 45 #[.string nm, .int .i64 (lvN : Nat), .int .i64 (evN : Nat), .slice C.A C.n C.c, .slice LA ln lc, .slice EA en ec] := by rw [← hW0]; exact Blk.new W _ _
  have hN : ∀ W1, TChg TC C.B W0 W1 → W.heap.size < W1.heap.size ∧ W1.cell? ⟨W.heap.size, 0, none⟩ = some (.string nm) ∧ W1.cell? ⟨W.heap.size, 1, none⟩ = some (.int .i64 lvN) ∧ W1.cell? ⟨W.heap.size, 2, none⟩ = some (.int .i64 evN) ∧ W1.cell? ⟨W.heap.size, 3, none⟩ = some (.slice C.A C.n C.c) ∧ W1.cell? ⟨W.heap.size, 4, none⟩ = some (.slice LA ln lc) ∧ W1.cell? ⟨W.heap.size, 5, none⟩ = some (.slice EA en ec) := fun W1 ht => by
    have := ht.blk hN0 (by rintro ((h | h) | h) <;> cases h)
    refine ⟨this.lt, ?_, ?_, ?_, ?_, ?_, ?_⟩ <;> rw [this.cell] <;> rfl
  have cI : ∀ (k : Nat) (s : ByteArray) W1, (k = lvN ∧ s = decB lvN ∨ k = evN ∧ s = decB evN) → Calls Tryz.prog 36 #[.int .i64 (k : Nat)] W1 fun e w' => e = .returned (.string s) ∧ w' = W1 := by
    rintro k s W1 (⟨rfl, rfl⟩ | ⟨rfl, rfl⟩)
    · exact itoa_num k (by omega) W1
    · exact itoa_num k (by omega) W1
  have cP : ∀ W1, TChg TC C.B W0 W1 → WAt W1 C.B C.b C.f bs → _ := fun W1 ht hw =>
    puts_5000 W1 C.B C.b C.f bs [valB, nm, lvB, decB lvN, spB, decB evN, colB] 7 rfl (by omega) (by
      intro s hs; simp only [List.mem_cons, List.not_mem_nil, or_false] at hs
      rcases hs with rfl | rfl | rfl | rfl | rfl | rfl | rfl
      · decide
      · exact hname
      · decide
      · omega
      · decide
      · omega
      · decide) hw (by omega) (Nat.le_trans hB (Nat.le_trans hb0.size ht.size))
  have hpl : (catV [valB, nm, lvB, decB lvN, spB, decB evN, colB]).length ≤ 35000 := by
    have := piece_size (ps := [valB, nm, lvB, decB lvN, spB, decB evN, colB]) (by
      intro s hs; simp only [List.mem_cons, List.not_mem_nil, or_false] at hs
      rcases hs with rfl | rfl | rfl | rfl | rfl | rfl | rfl
      · decide
      · exact hname
      · decide
      · omega
      · decide
      · omega
      · decide)
    simpa using this
  have hno := node_ok fix_size hO.good C.body.length 0 0 (by omega) (checkGo_st hck)
  have hnl := piece_size hno.2.2.2.2
  have hnn := hno.2.2.2.1
  have hne := hno.2.1
  have hbl := hO.len
  have hT0 : TChg TC C.B W W0 := TChg.below hb0
  have cN : ∀ W1, TChg TC C.B W0 W1 → WAt W1 C.B C.b C.f (bs ++ catV [valB, nm, lvB, decB lvN, spB, decB evN, colB]) → Calls Tryz.prog 37 #[.pointer (some ⟨C.b, 0, none⟩), .slice C.A C.n C.c, .int .i64 0] W1 (C.Post (nodeT C.P C.body C.body.length 0) W1 (bs ++ catV [valB, nm, lvB, decB lvN, spB, decB evN, colB])) := fun W1 ht hw =>
    node_any C hO C.body.length 0 0 W1 _ ⟨by omega, checkGo_st hck, hw, (hR.chg (hT0.trans ht)).read, by rw [List.length_append]; omega, Nat.le_trans hB (Nat.le_trans hb0.size ht.size)⟩
  have hl1 := bndGo_ok (G := fun s => s.size ≤ 5000) (by decide) (by decide) (by decide) (by decide) C.P.lab l hgl
  have hl2 := bndGo_ok (G := fun s => s.size ≤ 5000) (by decide) (by decide) (by decide) (by decide) C.P.eff es hge
  have hs1 : (catV (bndT C.P.lab l)).length ≤ 6500000 := by have := piece_size hl1.2; have := hl1.1; unfold bndT; omega
  have hs2 : (catV (bndT C.P.eff es)).length ≤ 6500000 := by have := piece_size hl2.2; have := hl2.1; unfold bndT; omega
  have cBl : ∀ W1 bs1, TChg TC C.B W0 W1 → WAt W1 C.B C.b C.f bs1 → bs1.length ≤ bs.length + 10000000 → _ := fun W1 bs1 ht hw hl =>
    bounds_lab C hO LA ln lc l W1 bs1 hw (hR.chg (hT0.trans ht)) (fun W2 h2 => hL W2 (hT0.trans (ht.trans h2))) hln okl hgl (by omega) (Nat.le_trans hB (Nat.le_trans hb0.size ht.size))
  have cBe : ∀ W1 bs1, TChg TC C.B W0 W1 → WAt W1 C.B C.b C.f bs1 → bs1.length ≤ bs.length + 20000000 → _ := fun W1 bs1 ht hw hl =>
    bounds_eff C hO EA en ec es W1 bs1 hw (hR.chg (hT0.trans ht)) (fun W2 h2 => hE W2 (hT0.trans (ht.trans h2))) hen oke hge (by omega) (Nat.le_trans hB (Nat.le_trans hb0.size ht.size))
  have cS : ∀ W1 bs1, TChg TC C.B W0 W1 → WAt W1 C.B C.b C.f bs1 → bs1.length ≤ bs.length + 29000000 → _ := fun W1 bs1 ht hw hl =>
    puts_5000 W1 C.B C.b C.f bs1 [semiB] 1 rfl (by omega) (by intro s hs; simp at hs; subst hs; decide) hw (by omega) (Nat.le_trans hB (Nat.le_trans hb0.size ht.size))
  have hent : entT C.P ⟨nm, ⟨(lvN : Int), (evN : Int), C.body, l, es⟩⟩ = [valB, nm, lvB, decB lvN, spB, decB evN, colB] ++ (nodeT C.P C.body C.body.length 0).1 ++ (if 0 < l.length + es.length then bndT C.P.lab l ++ bndT C.P.eff es else []) := rfl
  have HEnt := Lib.hid hent
  have HN := Lib.hid hN
  have CI := Lib.hid cI
  have CP := Lib.hid cP
  have CN := Lib.hid cN
  have CBl := Lib.hid cBl
  have CBe := Lib.hid cBe
  have CS := Lib.hid cS
  have HT0 := Lib.hid hT0
  have i1 : (ln : Int) ≤ 256 := by omega
  have i2 : (en : Int) ≤ 256 := by omega
  have hW0w := h.below hb0
  obtain ⟨gl, q0, q1, q2, q3, q4, q5⟩ := HN.out W0 TChg.refl
  have hd0 : TChg TC C.B W0 W0.drew := Chg.drew _ W0
  obtain ⟨gl', q0', q1', q2', q3', q4', q5'⟩ := HN.out W0.drew hd0
  have hWd : WAt W0.drew C.B C.b C.f bs := hW0w.below (Below.refl _ _).drew
  clear hent hN cI cP cN cBl cBe cS hT0 hl1 hl2 hno hO hR hL hE hck okl oke hgl hge hN0 hb0 h hW0w hlv hev hname
  generalize nodeT C.P C.body C.body.length 0 = r at *
  obtain ⟨ps, en'⟩ := r
  dsimp only at *
  go_enter Tryz.func13, Tryz.ntmps13
  go_wp2_with fail
  go_region_held3 (fun w' => w'.cell? ⟨W.heap.size, 0, none⟩ = some (.string nm) ∧ w'.cell? ⟨W.heap.size, 1, none⟩ = some (.int .i64 lvN) ∧ w'.cell? ⟨W.heap.size, 2, none⟩ = some (.int .i64 evN))
    (first | (refine ⟨?_, ?_, ?_⟩ <;> assumption) | go_keep)
    (first
    | (go_at_call 36
       refine (CI.out _ _ _ (by first | exact Or.inl ⟨rfl, rfl⟩ | exact Or.inr ⟨rfl, rfl⟩)).mono ?_
       rintro rr ww ⟨rfl, rfl⟩)
    | (go_at_call 32
       refine (CP.out _ (by assumption) (by assumption)).mono ?_
       rintro rr ww ⟨rfl, hwp, htp⟩
       have ht0 : TChg TC C.B W0 _ := TChg.trans (by assumption) htp.tc
       obtain ⟨gl, q0, q1, q2, q3, q4, q5⟩ := HN.out _ ht0))
  all_goals
    go_wp2_with fail
    refine (CN.out _ ht0 hwp).mono ?_
    rintro r1 w1 ⟨rfl, hW1, hT1⟩
    have ht1 := ht0.trans hT1.tc
    dsimp only at hW1
    obtain ⟨gl, q0, q1, q2, q3, q4, q5⟩ := HN.out w1 ht1
    by_cases h0 : 0 < ln + en
    · have z : decide (0 < (ln : Int) + (en : Int)) = true := by simp; omega
      have CL := Lib.hid (CBl.out w1 _ ht1 hW1 (by rw [List.length_append, List.length_append]; omega))
      clear hwp
      go_wp2_with fail
      refine CL.out.mono ?_
      rintro r2 w2 ⟨rfl, hW2, hT2⟩
      have ht2 := ht1.trans hT2
      obtain ⟨gl, q0, q1, q2, q3, q4, q5⟩ := HN.out w2 ht2
      have CE := Lib.hid (CBe.out w2 _ ht2 hW2 (by rw [List.length_append, List.length_append, List.length_append]; omega))
      go_wp2_with fail
      refine CE.out.mono ?_
      rintro r3 w3 ⟨rfl, hW3, hT3⟩
      have ht3 := ht2.trans hT3
      obtain ⟨gl, q0, q1, q2, q3, q4, q5⟩ := HN.out w3 ht3
      have CZ := Lib.hid (CS.out w3 _ ht3 hW3 (by rw [List.length_append, List.length_append, List.length_append, List.length_append]; omega))
      go_wp2_with fail
      refine CZ.out.mono ?_
      rintro r4 w4 ⟨rfl, hW4, hT4⟩
      go_wp2_with fail
      go_end0
      refine ⟨rfl, ?_, HT0.out.trans (ht3.trans hT4.tc)⟩
      rw [HEnt.out, if_pos (by omega)]
      simp only [catV_append, List.append_assoc] at hW4 ⊢
      exact hW4
    · have z : decide (0 < (ln : Int) + (en : Int)) = false := by simp; omega
      have CZ := Lib.hid (CS.out w1 _ ht1 hW1 (by rw [List.length_append, List.length_append]; omega))
      clear hwp
      go_wp2_with fail
      refine CZ.out.mono ?_
      rintro r4 w4 ⟨rfl, hW4, hT4⟩
      go_wp2_with fail
      go_end0
      refine ⟨rfl, ?_, HT0.out.trans (ht1.trans hT4.tc)⟩
      rw [HEnt.out, if_neg (by omega), List.append_nil]
      simp only [catV_append, List.append_assoc] at hW4 ⊢
      exact hW4
end Go.Proofs.YtcgnbpjbpbabaaaGreatDoor
end

section
set_option linter.unusedVariables false
set_option linter.unusedSimpArgs false
namespace Go.Proofs.YtcgnbpjbpbabaaaGreatDoor
open Go.RowKit

/-- a piece: not long, no line's end in it -/
def PieceG (s : ByteArray) : Prop := s.size ≤ 5000 ∧ (10 : UInt8) ∉ s.data.toList
theorem decDigits_ne : ∀ u : Nat, (10 : UInt8) ∉ Lib.decDigits u := by
  intro u
  induction u using Nat.strongRecOn with
  | _ u ih =>
    rw [Lib.decDigits]
    split
    · rename_i h
      intro hm
      simp only [List.mem_cons, List.not_mem_nil, or_false] at hm
      have : ∀ i : Fin 10, UInt8.ofNat (48 + i.1) ≠ 10 := by decide
      exact this ⟨u, h⟩ hm.symm
    · rename_i h
      intro hm
      rw [List.mem_append] at hm
      rcases hm with hm | hm
      · exact ih _ (by omega) hm
      · simp only [List.mem_cons, List.not_mem_nil, or_false] at hm
        have : ∀ i : Fin 10, UInt8.ofNat (48 + i.1) ≠ 10 := by decide
        exact this ⟨u % 10, Nat.mod_lt _ (by omega)⟩ hm.symm
theorem decB_G (u : Nat) (h : u < 18446744073709551616) : (decB u).size ≤ 20 ∧ (10 : UInt8) ∉ (decB u).data.toList := ⟨decB_le u h, by simpa [decB] using decDigits_ne u⟩
theorem restOk_ne : ∀ (l : List UInt8) (b : Bool), restOk b l = true → (10 : UInt8) ∉ l
  | [], _, _ => by simp
  | c :: r, b, h => by
    simp only [restOk, Bool.and_eq_true] at h
    intro hm
    rcases List.mem_cons.1 hm with rfl | hm
    · cases b
      · have : otherB 10 = false := by decide
        simp [this] at h
      · have : letterB 10 = false := by decide
        simp [this] at h
    · exact restOk_ne r false h.2 hm
theorem name_G {s : ByteArray} (h : nameB s.data.toList = true) : s.size ≤ 32 ∧ (10 : UInt8) ∉ s.data.toList := by
  simp only [nameB, Bool.and_eq_true, decide_eq_true_eq] at h
  refine ⟨?_, restOk_ne _ _ h.2⟩
  have := h.1.2
  rw [Array.length_toList] at this
  exact this
theorem append_G {a b : ByteArray} (ha : (10 : UInt8) ∉ a.data.toList) (hb : (10 : UInt8) ∉ b.data.toList) : (10 : UInt8) ∉ (a ++ b).data.toList := by
  rw [ByteArray.data_append, Array.toList_append, List.mem_append]
  exact fun h => h.elim ha hb
theorem join_G {xs : List (List UInt8)} (h : ∀ x ∈ xs, (10 : UInt8) ∉ x) : (10 : UInt8) ∉ Lib.join xs [32] := by
  cases xs with
  | nil => simp [Lib.join_nil]
  | cons x r =>
    rw [Lib.join_cons, List.mem_append]
    rintro (h1 | h1)
    · exact h x (List.mem_cons_self ..) h1
    · simp only [Lib.joinTail, List.mem_flatten, List.mem_map] at h1
      obtain ⟨l, ⟨y, hy, rfl⟩, hl⟩ := h1
      simp only [List.mem_append, List.mem_cons, List.not_mem_nil, or_false] at hl
      rcases hl with hl | hl
      · exact absurd hl (by decide)
      · exact h y (List.mem_cons_of_mem _ hy) hl
theorem pct_G (n : Nat) (h : n < 64) : (pctB n).size ≤ 21 ∧ (10 : UInt8) ∉ (pctB n).data.toList := by
  obtain ⟨h1, h2⟩ := decB_G n (by omega)
  refine ⟨?_, append_G (by decide) h2⟩
  rw [pctB, ByteArray.size_append]
  have : (⟨#[37]⟩ : ByteArray).size = 1 := rfl
  omega

section
variable {f : Face}
def faceP (f : Face) : PCtx := ⟨labelB f.labels, effB f.effects, NCtx.modB f.imports⟩
theorem names_G {l : List ByteArray} (h : namesB l = true) : ∀ s ∈ l, s.size ≤ 32 ∧ (10 : UInt8) ∉ s.data.toList := by
  simp only [namesB, Bool.and_eq_true, List.all_eq_true] at h
  exact fun s hs => name_G (h.2 s hs)
/-- what a face that may be is made of -/
structure FaceOk (f : Face) : Prop where
  labels : f.labels.length ≤ 64
  effects : f.effects.length ≤ 64
  types : f.types.length ≤ 64
  imports : f.imports.length ≤ 16
  entries : f.entries.length ≤ 64
  rows : f.rows.length = f.labels.length
  nMod : f.module.size ≤ 32 ∧ (10 : UInt8) ∉ f.module.data.toList
  nLab : ∀ s ∈ f.labels, s.size ≤ 32 ∧ (10 : UInt8) ∉ s.data.toList
  nEff : ∀ s ∈ f.effects, s.size ≤ 32 ∧ (10 : UInt8) ∉ s.data.toList
  nTyp : ∀ s ∈ f.types, s.size ≤ 32 ∧ (10 : UInt8) ∉ s.data.toList
  nImp : ∀ x ∈ f.imports, x.module.size ≤ 32 ∧ (10 : UInt8) ∉ x.module.data.toList
  nEnt : ∀ x ∈ f.entries, x.name.size ≤ 32 ∧ (10 : UInt8) ∉ x.name.data.toList
  ent : ∀ x ∈ f.entries, checkScheme x.s (.lat f.rows) (.eff f.effects.length) = 0 ∧ ∀ y ∈ x.s.body, namedOk f y = true
theorem checkEntries_mem : ∀ {l : List Entry}, checkEntries f l = 0 → ∀ x ∈ l, checkScheme x.s (.lat f.rows) (.eff f.effects.length) = 0 ∧ ∀ y ∈ x.s.body, namedOk f y = true
  | [], _, x, hx => by cases hx
  | y :: r, h, x, hx => by
    rw [checkEntries] at h
    split at h
    · rename_i h1; exact absurd h h1
    · rename_i h1
      split at h
      · rename_i h2
        rcases List.mem_cons.1 hx with rfl | hx
        · exact ⟨Decidable.not_not.1 h1, by simpa [List.all_eq_true] using h2⟩
        · exact checkEntries_mem h x hx
      · cases h
theorem faceOk (h : checkFace f = 0) : FaceOk f := by
  unfold checkFace at h
  split at h
  · cases h
  · rename_i h1
    split at h
    · cases h
    · rename_i h2
      split at h
      · cases h
      · rename_i h3
        split at h
        · rename_i h4; exact absurd h h4
        · simp only [Bool.or_eq_true, decide_eq_true_eq, not_or, Nat.not_lt] at h1
          simp only [Bool.not_eq_true', Bool.not_eq_false, Bool.and_eq_true] at h2
          simp only [Bool.or_eq_true, not_or, Bool.not_eq_true', Bool.not_eq_false, beq_iff_eq] at h3
          obtain ⟨⟨⟨⟨a1, a2⟩, a3⟩, a4⟩, a5⟩ := h1
          obtain ⟨⟨⟨⟨⟨b1, b2⟩, b3⟩, b4⟩, b5⟩, b6⟩ := h2
          exact ⟨a1, a2, a3, a4, a5, h3.2, names_G b1 _ (by simp), names_G b2, names_G b3, names_G b4, fun x hx => names_G b5 _ (List.mem_map_of_mem hx), fun x hx => names_G b6 _ (List.mem_map_of_mem hx), checkEntries_mem h⟩

/-! ### the terms of a body -/
theorem labelSpots_mem : ∀ (b : List Node) (i : Nat) (s : List Nat), s.length = b.length → ∀ x ∈ b, (∃ p ∈ labelSpots i b s, p.t = x.l) ∧ (x.kind = 5 → ∃ p ∈ labelSpots i b s, p.t = x.pc)
  | [], _, _, _, x, hx => by cases hx
  | y :: r, i, [], h, _, _ => by simp at h
  | y :: r, i, u :: t, h, x, hx => by
    simp only [labelSpots, List.mem_append, List.mem_cons]
    rcases List.mem_cons.1 hx with rfl | hx
    · refine ⟨⟨_, .inl (.inl rfl), rfl⟩, fun h5 => ⟨⟨i, 1, turnedS u, x.pc⟩, .inl (.inr ?_), rfl⟩⟩
      rw [if_pos h5]
      simp
    · obtain ⟨⟨p, hp, e⟩, h2⟩ := labelSpots_mem r (i + 1) t (by simpa using h) x hx
      refine ⟨⟨p, .inr hp, e⟩, fun h5 => ?_⟩
      obtain ⟨q, hq, e2⟩ := h2 h5
      exact ⟨q, .inr hq, e2⟩
theorem effectSpots_mem : ∀ (b : List Node) (i : Nat) (s : List Nat), s.length = b.length → ∀ x ∈ b, x.kind = 5 → ∃ p ∈ effectSpots i b s, p.t = x.e
  | [], _, _, _, x, hx, _ => by cases hx
  | y :: r, i, [], h, _, _, _ => by simp at h
  | y :: r, i, u :: t, h, x, hx, h5 => by
    simp only [effectSpots, List.mem_append]
    rcases List.mem_cons.1 hx with rfl | hx
    · refine ⟨⟨i, 2, u, x.e⟩, .inl ?_, rfl⟩
      rw [if_pos h5]
      simp
    · obtain ⟨p, hp, e⟩ := effectSpots_mem r (i + 1) t (by simpa using h) x hx h5
      exact ⟨p, .inr hp, e⟩
def LabT (n : Nat) (t : Term) : Prop := if t.var then t.n < 64 else t.n < n
def EffT (t : Term) : Prop := if t.var then t.n < 64 else True
/-- what a scheme that may be is made of -/
structure SchemeOk (n : Nat) (s : Scheme) : Prop where
  body : checkBody s.body = 0
  lv : 0 ≤ s.lv ∧ s.lv ≤ 64
  ev : 0 ≤ s.ev ∧ s.ev ≤ 64
  ll : s.l.length ≤ 256
  le : s.e.length ≤ 256
  bl : ∀ y ∈ s.l, LabT n y.a ∧ LabT n y.b
  be : ∀ y ∈ s.e, EffT y.a ∧ EffT y.b
  nl : ∀ x ∈ s.body, LabT n x.l
  nf : ∀ x ∈ s.body, x.kind = 5 → LabT n x.pc ∧ EffT x.e
theorem termOk_lab {rows : List Nat} {v : Nat} {t : Term} (hv : v ≤ 64) (h : termOk (.lat rows) v t = true) : LabT rows.length t := by
  unfold termOk at h
  unfold LabT
  split <;> rename_i ht <;> simp only [ht, if_true, if_false, Bool.false_eq_true, Srt.has, decide_eq_true_eq] at h <;> omega
theorem termOk_eff {n v : Nat} {t : Term} (hv : v ≤ 64) (h : termOk (.eff n) v t = true) : EffT t := by
  unfold termOk at h
  unfold EffT
  split
  · rename_i ht
    simp only [ht, if_true, decide_eq_true_eq] at h
    omega
  · trivial
theorem checkBounds_ok {S : Srt} {v : Int} {l : List Bound} (h : checkBounds S v l = 0) : 0 ≤ v ∧ v ≤ 64 ∧ l.length ≤ 256 ∧ ∀ y ∈ l, termOk S v.toNat y.a = true ∧ termOk S v.toNat y.b = true := by
  unfold checkBounds at h
  split at h
  · cases h
  · rename_i h1
    simp only [Bool.or_eq_true, decide_eq_true_eq, not_or, Int.not_lt, Nat.not_lt] at h1
    split at h
    · rename_i h2
      simp only [List.all_eq_true, Bool.and_eq_true] at h2
      exact ⟨h1.1.1, h1.1.2, h1.2, h2⟩
    · cases h
theorem schemeOk {rows : List Nat} {n : Nat} {s : Scheme} (h : checkScheme s (.lat rows) (.eff n) = 0) : SchemeOk rows.length s := by
  unfold checkScheme at h
  split at h
  · rename_i h1; exact absurd h h1
  · rename_i h1
    have h1 := Decidable.not_not.1 h1
    split at h
    · rename_i h2; exact absurd h h2
    · rename_i h2
      have h2 := Decidable.not_not.1 h2
      split at h
      · rename_i h3; exact absurd h h3
      · rename_i h3
        have h3 := Decidable.not_not.1 h3
        split at h
        · rename_i h4
          obtain ⟨a1, a2, a3, a4⟩ := checkBounds_ok h2
          obtain ⟨b1, b2, b3, b4⟩ := checkBounds_ok h3
          obtain ⟨_, _, hgo, _⟩ := checkBody_mem h1
          have hlen := sidesGo_len (nx := [0]) hgo rfl
          simp only [spotsOf, h1, if_true, Bool.and_eq_true, List.all_eq_true] at h4
          refine ⟨h1, ⟨a1, a2⟩, ⟨b1, b2⟩, a3, b3, fun y hy => ⟨termOk_lab (by omega) (a4 y hy).1, termOk_lab (by omega) (a4 y hy).2⟩, fun y hy => ⟨termOk_eff (by omega) (b4 y hy).1, termOk_eff (by omega) (b4 y hy).2⟩, fun x hx => ?_, fun x hx h5 => ⟨?_, ?_⟩⟩
          · obtain ⟨⟨p, hp, e⟩, _⟩ := labelSpots_mem _ 0 _ hlen x hx
            rw [← e]
            exact termOk_lab (by omega) (h4.1 p hp)
          · obtain ⟨_, h5'⟩ := labelSpots_mem _ 0 _ hlen x hx
            obtain ⟨p, hp, e⟩ := h5' h5
            rw [← e]
            exact termOk_lab (by omega) (h4.1 p hp)
          · obtain ⟨p, hp, e⟩ := effectSpots_mem _ 0 _ hlen x hx h5
            rw [← e]
            exact termOk_eff (by omega) (h4.2 p hp)
        · cases h
end
end Go.Proofs.YtcgnbpjbpbabaaaGreatDoor
end

section
set_option linter.unusedVariables false
set_option linter.unusedSimpArgs false
namespace Go.Proofs.YtcgnbpjbpbabaaaGreatDoor
open Go.RowKit
def ifaceB : ByteArray := ⟨#[105, 110, 116, 101, 114, 102, 97, 99, 101]⟩
def labelsB : ByteArray := ⟨#[108, 97, 98, 101, 108, 115]⟩
def effectsB : ByteArray := ⟨#[101, 102, 102, 101, 99, 116, 115]⟩
def typesB : ByteArray := ⟨#[116, 121, 112, 101, 115]⟩
def importB : ByteArray := ⟨#[105, 109, 112, 111, 114, 116]⟩
def impT (x : Import) : List ByteArray := [importB] ++ lineW [x.module, decB x.sum]
def headLs (f : Face) : List (List ByteArray) := [[ifaceB] ++ lineW [f.module], [labelsB] ++ lineW f.labels, ordW f.labels f.rows f.labels.length, [effectsB] ++ lineW f.effects, [typesB] ++ lineW f.types]
def printLs (f : Face) : List (List ByteArray) := headLs f ++ f.imports.map impT ++ f.entries.map (entT (faceP f))
def lnT (Ls : List (List ByteArray)) : List ByteArray := Ls.flatMap fun l => l ++ [semiB]
theorem lnT_append (a b : List (List ByteArray)) : lnT (a ++ b) = lnT a ++ lnT b := by simp [lnT]
theorem lnT_one (l : List ByteArray) : lnT [l] = l ++ [semiB] := by simp [lnT]
def printW (f : Face) : List ByteArray := lnT (printLs f)

section
variable {G : ByteArray → Prop}
theorem lineW_ok {word : ByteArray} {l : List ByteArray} (hw : G word) (hs : G spB) (h : ∀ s ∈ l, G s) : ([word] ++ lineW l).length = 1 + 2 * l.length ∧ ∀ s ∈ [word] ++ lineW l, G s := by
  have h1 : ∀ l : List ByteArray, (lineW l).length = 2 * l.length := by
    intro l
    induction l with
    | nil => rfl
    | cons a r ih =>
      have : lineW (a :: r) = [spB, a] ++ lineW r := rfl
      rw [this, List.length_append, ih, List.length_cons]
      simp
      omega
  refine ⟨by rw [List.length_append, h1]; simp, ?_⟩
  intro s hm
  simp only [lineW, List.mem_append, List.mem_cons, List.not_mem_nil, or_false, List.mem_flatMap] at hm
  rcases hm with rfl | ⟨x, hx, rfl | rfl⟩
  · exact hw
  · exact hs
  · exact h _ hx
theorem ordRow_ok (hc : G commaB) (hs : G spB) (hl : G leB) {labels : List ByteArray} (rows : List Nat) (n i : Nat) (hg : ∀ j, G (labels.getD j ByteArray.empty)) : ∀ (m : Nat) (st : List ByteArray × Bool), (∀ s ∈ st.1, G s) →
    (ordRow labels rows n i m st).1.length ≤ st.1.length + 5 * m ∧ ∀ s ∈ (ordRow labels rows n i m st).1, G s
  | 0, st, h => ⟨by simp [ordRow], by simpa [ordRow] using h⟩
  | m + 1, st, h => by
    obtain ⟨h1, h2⟩ := ordRow_ok hc hs hl rows n i hg m st h
    rw [ordRow_succ, ordStep]
    split
    · have hlen := comW_len (ordRow labels rows n i m st).2 (labels.getD i ByteArray.empty) (labels.getD m ByteArray.empty)
      have hgm := comW_G hc hs hl (sm := (ordRow labels rows n i m st).2) (hg i) (hg m)
      refine ⟨?_, fun s hm => ?_⟩
      · simp only [List.length_append]
        omega
      · exact (List.mem_append.1 hm).elim (h2 s) (hgm s)
    · exact ⟨by omega, h2⟩
theorem ordGo_ok (hc : G commaB) (hs : G spB) (hl : G leB) (ho : G orderB) {labels : List ByteArray} (rows : List Nat) (n : Nat) (hg : ∀ j, G (labels.getD j ByteArray.empty)) : ∀ m : Nat,
    (ordGo labels rows n m).1.length ≤ 1 + 5 * n * m ∧ ∀ s ∈ (ordGo labels rows n m).1, G s
  | 0 => ⟨by simp [ordGo], by simpa [ordGo] using ho⟩
  | m + 1 => by
    obtain ⟨h1, h2⟩ := ordGo_ok hc hs hl ho rows n hg m
    rw [ordGo_succ]
    obtain ⟨h3, h4⟩ := ordRow_ok hc hs hl rows n m hg n _ h2
    refine ⟨?_, h4⟩
    rw [Nat.mul_add, Nat.mul_one]
    omega
end
theorem label_G {l : List ByteArray} (h : ∀ s ∈ l, s.size ≤ 32 ∧ (10 : UInt8) ∉ s.data.toList) {t : Term} (ht : LabT l.length t) : (labelB l t).size ≤ 32 ∧ (10 : UInt8) ∉ (labelB l t).data.toList := by
  unfold LabT at ht
  unfold labelB
  split <;> rename_i h1
  · rw [if_pos h1] at ht
    obtain ⟨h2, h3⟩ := pct_G t.n ht
    exact ⟨by omega, h3⟩
  · rw [if_neg h1] at ht
    rw [List.getD_eq_getElem?_getD, List.getElem?_eq_getElem ht]
    exact h _ (List.getElem_mem ht)
theorem eff_G {l : List ByteArray} (hl : l.length ≤ 64) (h : ∀ s ∈ l, s.size ≤ 32 ∧ (10 : UInt8) ∉ s.data.toList) {t : Term} (ht : EffT t) : PieceG (effB l t) := by
  unfold EffT at ht
  unfold effB
  split <;> rename_i h1
  · rw [if_pos h1] at ht
    obtain ⟨h2, h3⟩ := pct_G t.n ht
    exact ⟨by omega, h3⟩
  · have hj := joinB_le (K := 32) (n := 64) (l := pickB l t.n l.length) (fun s hs => (h s (pickB_mem s hs)).1) (Nat.le_trans (pickB_len ..) hl)
    refine ⟨?_, append_G (append_G (by decide) ?_) (by decide)⟩
    · rw [ByteArray.size_append, ByteArray.size_append]
      have h1 : (⟨#[60]⟩ : ByteArray).size = 1 := rfl
      have h2 : (⟨#[62]⟩ : ByteArray).size = 1 := rfl
      omega
    · have := join_G (xs := (pickB l t.n l.length).map (·.data.toList)) (by
        intro x hx
        obtain ⟨s, hs, rfl⟩ := List.mem_map.1 hx
        exact (h s (pickB_mem s hs)).2)
      simpa [joinB] using this
theorem mod_G {l : List Import} (h : ∀ x ∈ l, x.module.size ≤ 32 ∧ (10 : UInt8) ∉ x.module.data.toList) {i : Int} (h0 : 0 < i) (h1 : i ≤ l.length) : PieceG (NCtx.modB l i) := by
  have hi : i.toNat - 1 < l.length := by omega
  unfold NCtx.modB
  rw [List.getD_eq_getElem?_getD, List.getElem?_eq_getElem hi]
  obtain ⟨h2, h3⟩ := h _ (List.getElem_mem hi)
  refine ⟨?_, append_G h3 (by decide)⟩
  rw [Option.getD_some, ByteArray.size_append]
  have h1 : (⟨#[46]⟩ : ByteArray).size = 1 := rfl
  omega
theorem nodeName_G {x : Node} (h : mayB x = true) : x.name.size ≤ 32 ∧ (10 : UInt8) ∉ x.name.data.toList := by
  have hsz : x.name.size = x.name.data.toList.length := by rw [Array.length_toList]; rfl
  have hemp : x.name.toList.isEmpty = true → x.name.size ≤ 32 ∧ (10 : UInt8) ∉ x.name.data.toList := fun h => by
    rw [Lib.toList_data, List.isEmpty_iff] at h
    rw [hsz, h]
    exact ⟨by simp, by simp⟩
  unfold mayB at h
  split at h
  · simp only [Bool.and_eq_true, baseN, Bool.or_eq_true, beq_iff_eq, Lib.toList_data] at h
    rcases h.1.2 with ((h | h) | h) | h <;> rw [hsz, h] <;> decide
  · split at h
    · simp only [Bool.and_eq_true] at h
      exact name_G h.1.2
    · split at h
      · simp only [Bool.and_eq_true] at h
        exact hemp h.1.1.1
      · split at h
        · simp only [Bool.and_eq_true] at h
          exact hemp h.1.1.1
        · split at h
          · simp only [Bool.and_eq_true] at h
            exact hemp h.1.1
          · cases h
theorem mod_kind {x : Node} (h : mayB x = true) (h0 : 0 < x.mod) : x.kind = 2 := by
  unfold mayB at h
  split at h
  · simp at h; omega
  · split at h
    · assumption
    · split at h
      · simp at h; omega
      · split at h
        · simp at h; omega
        · split at h
          · simp at h; omega
          · cases h
theorem named_mod {f : Face} {x : Node} (hm : mayB x = true) (h : namedOk f x = true) (h0 : 0 < x.mod) : x.mod ≤ (f.imports.length : Int) := by
  have h2 := mod_kind hm h0
  simp only [namedOk, h2, Bool.not_eq_true', Bool.and_eq_false_iff, Bool.or_eq_false_iff, decide_eq_false_iff_not] at h
  rcases h with h | h
  · simp at h
  · omega
theorem node_G {f : Face} (hF : FaceOk f) {x : Node} (hm : mayB x = true) (hn : namedOk f x = true) (hl : LabT f.rows.length x.l) (hf : x.kind = 5 → LabT f.rows.length x.pc ∧ EffT x.e) : NodeG PieceG (faceP f) x := by
  rw [hF.rows] at hl hf
  obtain ⟨h1, h2⟩ := label_G hF.nLab hl
  obtain ⟨h3, h4⟩ := nodeName_G hm
  refine ⟨⟨?_, append_G (by decide) h2⟩, ⟨Nat.le_trans h1 (by decide), h2⟩, fun h0 => mod_G hF.nImp h0 (named_mod hm hn h0), ⟨Nat.le_trans h3 (by decide), h4⟩, fun h5 => ?_⟩
  · show (atB ++ labelB f.labels x.l).size ≤ 5000
    rw [ByteArray.size_append]
    have h1 : atB.size = 1 := rfl
    omega
  · obtain ⟨h6, h7⟩ := hf h5
    obtain ⟨h8, h9⟩ := label_G hF.nLab h6
    exact ⟨⟨Nat.le_trans h8 (by decide), h9⟩, eff_G hF.effects hF.nEff h7⟩
theorem fix_G : FixG PieceG := by unfold FixG PieceG; decide
theorem getD_G {l : List ByteArray} (h : ∀ s ∈ l, s.size ≤ 32 ∧ (10 : UInt8) ∉ s.data.toList) (j : Nat) : PieceG (l.getD j ByteArray.empty) := by
  rw [List.getD_eq_getElem?_getD]
  by_cases hj : j < l.length
  · rw [List.getElem?_eq_getElem hj]
    obtain ⟨h1, h2⟩ := h _ (List.getElem_mem hj)
    exact ⟨Nat.le_trans h1 (by decide), h2⟩
  · rw [List.getElem?_eq_none (by omega)]
    unfold PieceG
    decide
theorem small_G {s : ByteArray} (h : s.size ≤ 32 ∧ (10 : UInt8) ∉ s.data.toList) : PieceG s := ⟨Nat.le_trans h.1 (by decide), h.2⟩
/-- a line: not too many pieces, each one not long and without a line's end -/
def LineOk (l : List ByteArray) : Prop := l.length ≤ 25000 ∧ ∀ s ∈ l, PieceG s
theorem line_ok {word : ByteArray} {l : List ByteArray} (hw : PieceG word) (hn : l.length ≤ 64) (h : ∀ s ∈ l, s.size ≤ 32 ∧ (10 : UInt8) ∉ s.data.toList) : LineOk ([word] ++ lineW l) := by
  obtain ⟨h1, h2⟩ := lineW_ok (G := PieceG) hw (by unfold PieceG; decide) (fun s hs => small_G (h s hs))
  exact ⟨by omega, h2⟩
theorem head_ok {f : Face} (hF : FaceOk f) : ∀ l ∈ headLs f, LineOk l := by
  intro l hl
  simp only [headLs, List.mem_cons, List.not_mem_nil, or_false] at hl
  rcases hl with rfl | rfl | rfl | rfl | rfl
  · exact line_ok (by unfold PieceG; decide) (by simp) (by simpa using hF.nMod)
  · exact line_ok (by unfold PieceG; decide) hF.labels hF.nLab
  · obtain ⟨h1, h2⟩ := ordGo_ok (G := PieceG) (by unfold PieceG; decide) (by unfold PieceG; decide) (by unfold PieceG; decide) (by unfold PieceG; decide) f.rows f.labels.length (getD_G hF.nLab) f.labels.length
    have h3 : 5 * f.labels.length * f.labels.length ≤ 5 * 64 * 64 := Nat.mul_le_mul (Nat.mul_le_mul_left 5 hF.labels) hF.labels
    exact ⟨by unfold ordW; omega, h2⟩
  · exact line_ok (by unfold PieceG; decide) hF.effects hF.nEff
  · exact line_ok (by unfold PieceG; decide) hF.types hF.nTyp
theorem imp_ok {f : Face} (hF : FaceOk f) {x : Import} (hx : x ∈ f.imports) (hs : x.sum < 4294967296) : LineOk (impT x) := by
  obtain ⟨h1, h2⟩ := decB_G x.sum (by omega)
  refine line_ok (by unfold PieceG; decide) (by simp) (fun s hs => ?_)
  simp only [List.mem_cons, List.not_mem_nil, or_false] at hs
  rcases hs with rfl | rfl
  · exact hF.nImp x hx
  · exact ⟨by omega, h2⟩
theorem ent_ok {f : Face} (hF : FaceOk f) {x : Entry} (hx : x ∈ f.entries) : LineOk (entT (faceP f) x) := by
  obtain ⟨he, hn⟩ := hF.ent x hx
  have hS := schemeOk he
  rw [hF.rows] at hS
  obtain ⟨hb1, _, _, hb2⟩ := checkBody_mem hS.body
  have hno := node_ok (P := faceP f) fix_G (fun y hy => node_G hF (hb2 y hy).1 (hn y hy) (by rw [hF.rows]; exact hS.nl y hy) (by rw [hF.rows]; exact hS.nf y hy)) x.s.body.length 0 0 (by omega) (checkGo_st hS.body)
  have hl1 := bndGo_ok (G := PieceG) (by unfold PieceG; decide) (by unfold PieceG; decide) (by unfold PieceG; decide) (by unfold PieceG; decide) (faceP f).lab x.s.l (fun y hy => ⟨small_G (label_G hF.nLab (hS.bl y hy).1), small_G (label_G hF.nLab (hS.bl y hy).2)⟩)
  have hl2 := bndGo_ok (G := PieceG) (by unfold PieceG; decide) (by unfold PieceG; decide) (by unfold PieceG; decide) (by unfold PieceG; decide) (faceP f).eff x.s.e (fun y hy => ⟨eff_G hF.effects hF.nEff (hS.be y hy).1, eff_G hF.effects hF.nEff (hS.be y hy).2⟩)
  have c1 := hS.ll
  have c2 := hS.le
  have c3 := hno.2.2.2.1
  have c4 := hno.2.1
  have c5 := hl1.1
  have c6 := hl2.1
  have hd1 := hS.lv
  have hd2 := hS.ev
  obtain ⟨g1, g2⟩ := decB_G x.s.lv.toNat (by omega)
  obtain ⟨g3, g4⟩ := decB_G x.s.ev.toNat (by omega)
  refine ⟨?_, ?_⟩
  · unfold entT
    rw [List.length_append, List.length_append]
    have : (if 0 < x.s.l.length + x.s.e.length then bndT (faceP f).lab x.s.l ++ bndT (faceP f).eff x.s.e else []).length ≤ 2562 := by
      split
      · rw [List.length_append]
        unfold bndT
        omega
      · simp
    simp only [List.length_cons, List.length_nil]
    omega
  · intro s hs
    unfold entT at hs
    rw [List.mem_append, List.mem_append] at hs
    rcases hs with (hs | hs) | hs
    · simp only [List.mem_cons, List.not_mem_nil, or_false] at hs
      rcases hs with rfl | rfl | rfl | rfl | rfl | rfl | rfl
      · unfold PieceG; decide
      · exact small_G (hF.nEnt x hx)
      · unfold PieceG; decide
      · exact ⟨by omega, g2⟩
      · unfold PieceG; decide
      · exact ⟨by omega, g4⟩
      · unfold PieceG; decide
    · exact hno.2.2.2.2 s hs
    · split at hs
      · rw [List.mem_append] at hs
        exact hs.elim (hl1.2 s) (hl2.2 s)
      · cases hs
theorem print_ok {f : Face} (hF : FaceOk f) (hs : ∀ x ∈ f.imports, x.sum < 4294967296) : ∀ l ∈ printLs f, LineOk l := by
  intro l hl
  simp only [printLs, List.mem_append, List.mem_map] at hl
  rcases hl with (hl | ⟨x, hx, rfl⟩) | ⟨x, hx, rfl⟩
  · exact head_ok hF l hl
  · exact imp_ok hF hx (hs x hx)
  · exact ent_ok hF hx
theorem lines_len {l : List ByteArray} (h : LineOk l) : (catV (l ++ [semiB])).length ≤ 130000000 := by
  have h1 := piece_size (fun s hs => (h.2 s hs).1)
  have h2 := h.1
  rw [catV_append, List.length_append]
  have : (catV [semiB]).length = 2 := rfl
  omega
end Go.Proofs.YtcgnbpjbpbabaaaGreatDoor
end
