/- prints: the pieces of a body's text, in plain Lean. prints: held, from node. prints: node, of a base and of a named one. -/
import Derived.Test.YtcgnbpjbpbabaaaGreatDoorMg03
import Derived.Test.YtcgnbpjbpbabaaaGreatDoorMg18
import Derived.Test.YtcgnbpjbpbabaaaGreatDoorMg19
import Derived.WalkMore
section
set_option linter.unusedVariables false
set_option linter.unusedSimpArgs false
namespace Go.Proofs.YtcgnbpjbpbabaaaGreatDoor

structure PCtx where
  lab : Term → ByteArray
  eff : Term → ByteArray
  mod : Int → ByteArray
def atB : ByteArray := ⟨#[64]⟩
def refB : ByteArray := ⟨#[114, 101, 102]⟩
def openB : ByteArray := ⟨#[40]⟩
def cspB : ByteArray := ⟨#[44, 32]⟩
def closeB : ByteArray := ⟨#[41, 64]⟩
def arrowB : ByteArray := ⟨#[32, 45, 91]⟩
def endB : ByteArray := ⟨#[93, 62, 32]⟩
def lbrB : ByteArray := ⟨#[123]⟩
def rbrB : ByteArray := ⟨#[125]⟩
def nodeOf (b : List Node) (i : Nat) : Node := b.getD i default
def heldT (nd : Nat → List ByteArray × Nat) (b : List Node) (i : Nat) : List ByteArray × Nat :=
  if (nodeOf b i).kind = 5 then (lbrB :: ((nd i).1 ++ [rbrB]), (nd i).2) else nd i
def kidsT (nd : Nat → List ByteArray × Nat) : Nat → Nat → List ByteArray × Nat
  | 0, i => ([], i)
  | k + 1, i => ((kidsT nd k i).1 ++ ((if 0 < k then [cspB] else []) ++ (nd (kidsT nd k i).2).1), (nd (kidsT nd k i).2).2)
def nodeT (P : PCtx) (b : List Node) : Nat → Nat → List ByteArray × Nat
  | 0, i => ([], i)
  | F + 1, i =>
    let x := nodeOf b i
    let nd := nodeT P b F
    if x.kind = 5 then ((heldT nd b (i + 1)).1 ++ ([arrowB, P.lab x.l, cspB, P.lab x.pc, cspB, P.eff x.e, endB] ++ (nd (heldT nd b (i + 1)).2).1), (nd (heldT nd b (i + 1)).2).2)
    else if x.kind = 3 then (openB :: ((kidsT nd x.kids.toNat (i + 1)).1 ++ [closeB, P.lab x.l]), (kidsT nd x.kids.toNat (i + 1)).2)
    else if x.kind = 4 then ([refB, atB ++ P.lab x.l, spB] ++ (heldT nd b (i + 1)).1, (heldT nd b (i + 1)).2)
    else ([if 0 < x.mod then P.mod x.mod else ByteArray.empty, x.name, atB ++ P.lab x.l], i + 1)

/-- m bodies stand ahead of what is left -/
def St (b : List Node) (i m : Nat) : Prop := ∃ o, checkGo o (b.drop i) = 0 ∧ sumO o = m
theorem st_step {b : List Node} {i m : Nat} (h : St b i (m + 1)) : ∃ x, b[i]? = some x ∧ i < b.length ∧ mayB x = true ∧ x.kids ≤ 8 ∧ St b (i + 1) (m + x.kids.toNat) := by
  obtain ⟨o, h1, h2⟩ := h
  by_cases hi : i < b.length
  · rw [List.drop_eq_getElem_cons hi] at h1
    obtain ⟨h3, h4, h5, h6, h7⟩ := checkGo_cons h1
    have := takesO_some h3
    exact ⟨b[i], List.getElem?_eq_getElem hi, hi, h4, h5, _, h7, by omega⟩
  · rw [List.drop_of_length_le (by omega), checkGo] at h1
    split at h1
    · rename_i h3
      rw [fullO_iff] at h3
      omega
    · cases h1
theorem nodeOf_eq {b : List Node} {i : Nat} {x : Node} (h : b[i]? = some x) : nodeOf b i = x := by rw [nodeOf, List.getD_eq_getElem?_getD, h]; rfl
theorem mayB_kind {x : Node} (h : mayB x = true) : (x.kind = 1 ∧ x.kids = 0) ∨ (x.kind = 2 ∧ x.kids = 0) ∨ (x.kind = 3 ∧ 0 ≤ x.kids) ∨ (x.kind = 4 ∧ x.kids = 1) ∨ (x.kind = 5 ∧ x.kids = 2) := by
  unfold mayB at h
  split at h
  · simp at h; omega
  · split at h
    · simp at h; omega
    · split at h
      · simp at h; omega
      · split at h
        · simp at h; omega
        · split at h
          · simp at h; omega
          · cases h

section
variable {G : ByteArray → Prop} {P : PCtx} {b : List Node}
/-- what holds of each piece that is fixed -/
def FixG (G : ByteArray → Prop) : Prop := G refB ∧ G openB ∧ G cspB ∧ G closeB ∧ G arrowB ∧ G endB ∧ G lbrB ∧ G rbrB ∧ G spB ∧ G ByteArray.empty
/-- what holds of each piece of a node -/
def NodeG (G : ByteArray → Prop) (P : PCtx) (x : Node) : Prop := G (atB ++ P.lab x.l) ∧ G (P.lab x.l) ∧ (0 < x.mod → G (P.mod x.mod)) ∧ G x.name ∧ (x.kind = 5 → G (P.lab x.pc) ∧ G (P.eff x.e))
def NOk (G : ByteArray → Prop) (b : List Node) (nd : Nat → List ByteArray × Nat) (F : Nat) : Prop :=
  ∀ i m, b.length - i ≤ F → St b i (m + 1) → i < (nd i).2 ∧ (nd i).2 ≤ b.length ∧ St b (nd i).2 m ∧ (nd i).1.length ≤ 12 * ((nd i).2 - i) ∧ ∀ s ∈ (nd i).1, G s
theorem held_ok {nd : Nat → List ByteArray × Nat} {F : Nat} (hF : FixG G) (h : NOk G b nd F) (i m : Nat) (h1 : b.length - i ≤ F) (h2 : St b i (m + 1)) :
    i < (heldT nd b i).2 ∧ (heldT nd b i).2 ≤ b.length ∧ St b (heldT nd b i).2 m ∧ (heldT nd b i).1.length ≤ 12 * ((heldT nd b i).2 - i) + 2 ∧ ∀ s ∈ (heldT nd b i).1, G s := by
  obtain ⟨k1, k2, k3, k4, k5⟩ := h i m h1 h2
  obtain ⟨f1, f2, f3, f4, f5, f6, f7, f8, f9, f10⟩ := hF
  unfold heldT
  split
  · refine ⟨k1, k2, k3, by simp; omega, ?_⟩
    intro s hs
    simp only [List.mem_cons, List.mem_append, List.not_mem_nil, or_false] at hs
    rcases hs with rfl | hs | rfl
    · exact f7
    · exact k5 s hs
    · exact f8
  · exact ⟨k1, k2, k3, by omega, k5⟩
theorem kids_ok {nd : Nat → List ByteArray × Nat} {F : Nat} (hF : FixG G) (h : NOk G b nd F) : ∀ (k i m : Nat), b.length - i ≤ F → i ≤ b.length → St b i (m + k) →
    i ≤ (kidsT nd k i).2 ∧ (kidsT nd k i).2 ≤ b.length ∧ St b (kidsT nd k i).2 m ∧ (kidsT nd k i).1.length ≤ 12 * ((kidsT nd k i).2 - i) + k ∧ ∀ s ∈ (kidsT nd k i).1, G s
  | 0, i, m, h1, hi, h2 => ⟨Nat.le_refl _, hi, h2, by simp [kidsT], by simp [kidsT]⟩
  | k + 1, i, m, h1, hi, h2 => by
    obtain ⟨k1, k2, k3, k4, k5⟩ := kids_ok hF h k i (m + 1) h1 hi (by rw [show m + 1 + k = m + (k + 1) by omega]; exact h2)
    obtain ⟨j1, j2, j3, j4, j5⟩ := h _ m (by omega) k3
    have hl : (if 0 < k then [cspB] else []).length ≤ 1 := by split <;> simp
    refine ⟨?_, j2, j3, ?_, ?_⟩
    · show i ≤ (nd (kidsT nd k i).2).2
      omega
    · show ((kidsT nd k i).1 ++ ((if 0 < k then [cspB] else []) ++ (nd (kidsT nd k i).2).1)).length ≤ 12 * ((nd (kidsT nd k i).2).2 - i) + (k + 1)
      rw [List.length_append, List.length_append]
      omega
    · intro s hs
      have hs : s ∈ (kidsT nd k i).1 ++ ((if 0 < k then [cspB] else []) ++ (nd (kidsT nd k i).2).1) := hs
      rw [List.mem_append, List.mem_append] at hs
      rcases hs with hs | hs | hs
      · exact k5 s hs
      · split at hs
        · simp at hs; subst hs; exact hF.2.2.1
        · cases hs
      · exact j5 s hs
theorem node_ok (hF : FixG G) (hN : ∀ x ∈ b, NodeG G P x) : ∀ F, NOk G b (nodeT P b F) F
  | 0, i, m, h1, h2 => by
    obtain ⟨x, _, h3, _⟩ := st_step h2
    omega
  | F + 1, i, m, h1, h2 => by
    have ih := node_ok hF hN F
    obtain ⟨x, hx, hi, hm, h8, hst⟩ := st_step h2
    have hxo := nodeOf_eq hx
    obtain ⟨g1, g2, g3, g4, g5⟩ := hN x (List.mem_of_getElem? hx)
    have hF' := hF
    obtain ⟨f1, f2, f3, f4, f5, f6, f7, f8, f9, f10⟩ := hF'
    have hk := mayB_kind hm
    simp only [nodeT, hxo]
    by_cases h5 : x.kind = 5
    · simp only [if_pos h5]
      have hk2 : x.kids = 2 := by omega
      rw [hk2] at hst
      obtain ⟨a1, a2, a3, a4, a5⟩ := held_ok hF ih (i + 1) (m + 1) (by omega) hst
      obtain ⟨c1, c2, c3, c4, c5⟩ := ih _ m (by omega) a3
      obtain ⟨g6, g7⟩ := g5 h5
      refine ⟨by omega, c2, c3, ?_, ?_⟩
      · rw [List.length_append, List.length_append]
        simp only [List.length_cons, List.length_nil]
        omega
      · intro s hs
        simp only [List.mem_cons, List.mem_append, List.not_mem_nil, or_false] at hs
        rcases hs with hs | (rfl | rfl | rfl | rfl | rfl | rfl | rfl) | hs
        · exact a5 s hs
        · exact f5
        · exact g2
        · exact f3
        · exact g6
        · exact f3
        · exact g7
        · exact f6
        · exact c5 s hs
    · simp only [if_neg h5]
      by_cases h3 : x.kind = 3
      · simp only [if_pos h3]
        obtain ⟨a1, a2, a3, a4, a5⟩ := kids_ok hF ih x.kids.toNat (i + 1) m (by omega) (by omega) hst
        refine ⟨by omega, a2, a3, ?_, ?_⟩
        · rw [List.length_cons, List.length_append]
          simp only [List.length_cons, List.length_nil]
          omega
        · intro s hs
          simp only [List.mem_cons, List.mem_append, List.not_mem_nil, or_false] at hs
          rcases hs with rfl | hs | rfl | rfl
          · exact f2
          · exact a5 s hs
          · exact f4
          · exact g2
      · simp only [if_neg h3]
        by_cases h4 : x.kind = 4
        · simp only [if_pos h4]
          have hk2 : x.kids = 1 := by omega
          rw [hk2] at hst
          obtain ⟨a1, a2, a3, a4, a5⟩ := held_ok hF ih (i + 1) m (by omega) hst
          refine ⟨by omega, a2, a3, ?_, ?_⟩
          · rw [List.length_append]
            simp only [List.length_cons, List.length_nil]
            omega
          · intro s hs
            simp only [List.mem_cons, List.mem_append, List.not_mem_nil, or_false] at hs
            rcases hs with (rfl | rfl | rfl) | hs
            · exact f1
            · exact g1
            · exact f9
            · exact a5 s hs
        · simp only [if_neg h4]
          have hk0 : x.kids = 0 := by omega
          rw [hk0] at hst
          refine ⟨by omega, by omega, hst, by simp, ?_⟩
          intro s hs
          simp only [List.mem_cons, List.not_mem_nil, or_false] at hs
          rcases hs with rfl | rfl | rfl
          · split
            · rename_i h; exact g3 h
            · exact f10
          · exact g4
          · exact g1
end
end Go.Proofs.YtcgnbpjbpbabaaaGreatDoor
end

section
set_option linter.unusedVariables false
set_option linter.unusedSimpArgs false
set_option maxRecDepth 100000
set_option maxHeartbeats 2000000
namespace Go.Proofs.YtcgnbpjbpbabaaaGreatDoor
open Go.RowKit
/-- a writer, its interface's parts, a body: where they lie, and what they are -/
structure NCtx where
  B : Nat
  b : Nat
  A : Option Addr
  n : Nat
  c : Nat
  A1 : Option Addr
  n1 : Nat
  c1 : Nat
  A3 : Option Addr
  n3 : Nat
  c3 : Nat
  A5 : Option Addr
  n5 : Nat
  c5 : Nat
  v0 : Value
  v2 : Value
  v4 : Value
  v6 : Value
  labels : List ByteArray
  effects : List ByteArray
  imports : List Import
  body : List Node
namespace NCtx
def f (C : NCtx) : List Value := [C.v0, .slice C.A1 C.n1 C.c1, C.v2, .slice C.A3 C.n3 C.c3, C.v4, .slice C.A5 C.n5 C.c5, C.v6]
def modB (imports : List Import) (i : Int) : ByteArray := (imports.getD (i.toNat - 1) default).module ++ ⟨#[46]⟩
def P (C : NCtx) : PCtx := ⟨labelB C.labels, effB C.effects, modB C.imports⟩
def Read (C : NCtx) (W : World) : Prop := ∀ W', TChg TW C.B W W' → Strs W' C.A1 C.n1 C.labels ∧ Strs W' C.A3 C.n3 C.effects ∧ Sl rImport 2 W' C.A5 C.n5 C.imports ∧ Sl rNode 10 W' C.A C.n C.body
theorem Read.chg {C : NCtx} {W W' : World} (h : C.Read W) (ht : TChg TW C.B W W') : C.Read W' := fun W2 h2 => h W2 (ht.trans h2)
def LabOk (C : NCtx) (t : Term) : Prop := if t.var then t.n < 64 else t.n < C.n1
structure Ok (C : NCtx) : Prop where
  lab : ∀ x ∈ C.body, C.LabOk x.l
  fn : ∀ x ∈ C.body, x.kind = 5 → C.LabOk x.pc ∧ (if x.e.var then x.e.n < 64 else True)
  mod : ∀ x ∈ C.body, 0 < x.mod → x.mod ≤ (C.n5 : Int)
  good : ∀ x ∈ C.body, NodeG (fun s => s.size ≤ 5000) C.P x
  effs : ∀ s ∈ C.effects, s.size ≤ 1000
  n3 : C.n3 ≤ 64
  n5 : C.n5 ≤ 16
  len : C.body.length ≤ 128
def Pre (C : NCtx) (F i m : Nat) (W : World) (bs : List Value) (k : Nat) : Prop :=
  C.body.length - i ≤ F ∧ St C.body i (m + 1) ∧ WAt W C.B C.b C.f bs ∧ C.Read W ∧ bs.length + 60000 * (C.body.length - i) + k ≤ 140737488355328 ∧ C.B ≤ W.heap.size
def Post (C : NCtx) (r : List ByteArray × Nat) (W : World) (bs : List Value) (e : Ending) (w' : World) : Prop :=
  e = .returned (.int .i64 (r.2 : Nat)) ∧ WAt w' C.B C.b C.f (bs ++ catV r.1) ∧ TChg TW C.B W w'
def NodeC (C : NCtx) (F : Nat) : Prop := ∀ i m W bs, C.Pre F i m W bs 0 →
  Calls Tryz.prog 37 #[.pointer (some ⟨C.b, 0, none⟩), .slice C.A C.n C.c, .int .i64 (i : Nat)] W (C.Post (nodeT C.P C.body F i) W bs)
end NCtx
theorem fix_size : FixG (fun s => s.size ≤ 5000) := by unfold FixG; decide
theorem piece_size {ps : List ByteArray} (h : ∀ s ∈ ps, s.size ≤ 5000) : (catV ps).length ≤ ps.length * 5000 := catV_le 5000 ps h
theorem held_of (C : NCtx) (hO : C.Ok) (F : Nat) (ih : C.NodeC F) (i m : Nat) (W : World) (bs : List Value) (h : C.Pre F i m W bs 10000) :
    Calls Tryz.prog 65 #[.pointer (some ⟨C.b, 0, none⟩), .slice C.A C.n C.c, .int .i64 (i : Nat)] W (C.Post (heldT (nodeT C.P C.body F) C.body i) W bs) := by
  obtain ⟨h1, h2, h3, h4, h5, h6⟩ := h
  obtain ⟨x, hx, hi, hm, _⟩ := st_step h2
  have hxo := nodeOf_eq hx
  obtain ⟨_, _, _, hS⟩ := h4 W TChg.refl
  have hnl := hS.1
  obtain ⟨b0, o0, x', cs, hA, hx', ⟨rfl, hok⟩, _, hcs⟩ := hS.at_ (k := i) (by omega) (by omega)
  cases hx.symm.trans hx'
  have c0 := hcs 0 _ rfl
  rw [Nat.add_zero] at c0
  have i1 : (i : Int) < (C.n : Int) := by omega
  have i2 : (C.n : Int) ≤ 9223372036854775807 := by have := hS.2.1; omega
  by_cases hk : x.kind = 5
  · have hv : heldT (nodeT C.P C.body F) C.body i = (lbrB :: ((nodeT C.P C.body F i).1 ++ [rbrB]), (nodeT C.P C.body F i).2) := by rw [heldT, hxo, if_pos hk]
    rw [hv]
    have hok2 := node_ok fix_size hO.good F i m h1 h2
    obtain ⟨g1, g2, g3, g4, g5⟩ := hok2
    have hgl := piece_size g5
    have cL := puts_at W C.B C.b C.f bs [lbrB] 1 rfl (by omega) (by intro s hs; simp at hs; subst hs; decide) h3 (by have : (catV [lbrB]).length = 1 := rfl; omega) h6
    have cN : ∀ W1, TChg TW C.B W W1 → WAt W1 C.B C.b C.f (bs ++ catV [lbrB]) → Calls Tryz.prog 37 #[.pointer (some ⟨C.b, 0, none⟩), .slice C.A C.n C.c, .int .i64 (i : Nat)] W1 (C.Post (nodeT C.P C.body F i) W1 (bs ++ catV [lbrB])) := fun W1 ht hw =>
      ih i m W1 _ ⟨h1, h2, hw, h4.chg ht, by have : (catV [lbrB]).length = 1 := rfl; rw [List.length_append]; omega, Nat.le_trans h6 ht.size⟩
    have cR : ∀ W1, TChg TW C.B W W1 → WAt W1 C.B C.b C.f ((bs ++ catV [lbrB]) ++ catV (nodeT C.P C.body F i).1) → _ := fun W1 ht hw =>
      puts_at W1 C.B C.b C.f _ [rbrB] 1 rfl (by omega) (by intro s hs; simp at hs; subst hs; decide) hw (by have : (catV [lbrB]).length = 1 := rfl; have : (catV [rbrB]).length = 1 := rfl; rw [List.length_append, List.length_append]; omega) (Nat.le_trans h6 ht.size)
    have CL := Lib.hid cL
    have CN := Lib.hid cN
    have CR := Lib.hid cR
    clear cL cN cR hgl h1 h2 h3 h4 h5 h6 hcs hS hx hx' hv hxo g1 g2 g3 g4 g5 hok hm ih
    rw [hA]
    rw [hA] at CN
    rw [hk] at c0
    generalize (nodeT C.P C.body F i) = r at *
    obtain ⟨ps, e⟩ := r
    dsimp only at *
    go_enter Tryz.func65, Tryz.ntmps65
    go_wp2_with fail
    refine CL.out.mono ?_
    rintro r1 w1 ⟨rfl, hW1, hT1⟩
    go_wp2_with fail
    refine (CN.out w1 hT1 hW1).mono ?_
    rintro r2 w2 ⟨rfl, hW2, hT2⟩
    go_wp2_with fail
    refine (CR.out w2 (hT1.trans hT2) hW2).mono ?_
    rintro r3 w3 ⟨rfl, hW3, hT3⟩
    go_wp2_with fail
    go_ret
    refine ⟨rfl, ?_, hT1.trans (hT2.trans hT3)⟩
    have hc : bs ++ catV (lbrB :: (ps ++ [rbrB])) = ((bs ++ catV [lbrB]) ++ catV ps) ++ catV [rbrB] := by
      rw [show lbrB :: (ps ++ [rbrB]) = [lbrB] ++ (ps ++ [rbrB]) from rfl, catV_append, catV_append]
      simp only [List.append_assoc]
    rw [hc]
    exact hW3
  · have hv : heldT (nodeT C.P C.body F) C.body i = nodeT C.P C.body F i := by rw [heldT, hxo, if_neg hk]
    rw [hv]
    have cN := ih i m W bs ⟨h1, h2, h3, h4, by omega, h6⟩
    have CN := Lib.hid cN
    have z : ((x.kind : Int) != 5) = true := by rw [bne_iff_ne]; omega
    clear cN h1 h2 h3 h4 h5 h6 hcs hS hx hx' hv hxo hok hm ih
    rw [hA]
    rw [hA] at CN
    go_enter Tryz.func65, Tryz.ntmps65
    go_wp2_with fail
    refine CN.out.mono ?_
    rintro r2 w2 ⟨rfl, hW2, hT2⟩
    go_wp2_with fail
    go_ret
    exact ⟨rfl, hW2, hT2⟩
end Go.Proofs.YtcgnbpjbpbabaaaGreatDoor
end

section
set_option linter.unusedVariables false
set_option linter.unusedSimpArgs false
set_option maxRecDepth 100000
set_option maxHeartbeats 2000000
namespace Go.Proofs.YtcgnbpjbpbabaaaGreatDoor
open Go.RowKit
theorem WAt.below {w w' : World} {B b : Nat} {f bs : List Value} (h : WAt w B b f bs) (hb : Below w.heap.size w w') : WAt w' B b f bs := h.keep (fun g t cs _ h => h.below hb h.lt)
theorem WAt.lt {w : World} {B b : Nat} {f bs : List Value} (h : WAt w B b f bs) : b < w.heap.size := by
  obtain ⟨_, _, p, v, _, hb, _⟩ := h
  exact hb.lt
/-- label, of a writer -/
theorem lab_at (C : NCtx) (t : Term) (ht : C.LabOk t) (W : World) (bs : List Value) (h : WAt W C.B C.b C.f bs) (hR : C.Read W) :
    Calls Tryz.prog 39 #[.pointer (some ⟨C.b, 0, none⟩), .agg #[.bool t.var, .int .u64 (t.n : Nat)]] W fun e w' => e = .returned (.string (C.P.lab t)) ∧ Below W.heap.size W w' :=
  label_any W C.B C.b bs _ C.v0 C.A1 C.n1 C.c1 C.labels t h (hR W TChg.refl).1 ht
theorem eff_at (C : NCtx) (hO : C.Ok) (t : Term) (ht : if t.var then t.n < 64 else True) (h64 : u64 t.n) (W : World) (bs : List Value) (h : WAt W C.B C.b C.f bs) (hR : C.Read W) :
    Calls Tryz.prog 40 #[.pointer (some ⟨C.b, 0, none⟩), .agg #[.bool t.var, .int .u64 (t.n : Nat)]] W fun e w' => e = .returned (.string (C.P.eff t)) ∧ Below W.heap.size W w' :=
  effect_any W C.B C.b bs [C.v0, .slice C.A1 C.n1 C.c1, C.v2] [C.v4, .slice C.A5 C.n5 C.c5, C.v6] rfl C.A3 C.n3 C.c3 C.effects t h (hR W TChg.refl).2.1 ht h64 hO.n3 hO.effs
theorem puts_5000 (W : World) (B b : Nat) (f bs : List Value) (l : List ByteArray) (n : Nat) (hn : l.length = n) (hn2 : n ≤ 1000) (hsz : ∀ s ∈ l, s.size ≤ 5000) (h : WAt W B b f bs) (hlen : bs.length + n * 5000 ≤ 140737488355328) (hBw : B ≤ W.heap.size) :
    Calls Tryz.prog 32 #[.pointer (some ⟨b, 0, none⟩), .slice (some ⟨W.heap.size, 0, none⟩) n n] (W.alloc (.cells (l.map Value.string).toArray 9)) fun e w' => e = .returned (.tuple #[]) ∧ WAt w' B b f (bs ++ catV l) ∧ TChg TW B W w' :=
  puts_at W B b f bs l n hn hn2 (fun s hs => Nat.le_trans (hsz s hs) (by decide)) h (by have := piece_size hsz; rw [hn] at this; omega) hBw
theorem node_named (C : NCtx) (hO : C.Ok) (F : Nat) (i m : Nat) (W : World) (bs : List Value) (h : C.Pre (F + 1) i m W bs 0) (x : Node) (hx : C.body[i]? = some x) (k5 : x.kind ≠ 5) (k3 : x.kind ≠ 3) (k4 : x.kind ≠ 4) :
    Calls Tryz.prog 37 #[.pointer (some ⟨C.b, 0, none⟩), .slice C.A C.n C.c, .int .i64 (i : Nat)] W (C.Post (nodeT C.P C.body (F + 1) i) W bs) := by
  obtain ⟨h1, h2, h3, h4, h5, h6⟩ := h
  have hxo := nodeOf_eq hx
  have hi : i < C.body.length := (List.getElem?_eq_some_iff.1 hx).1
  obtain ⟨_, _, hI, hS⟩ := h4 W TChg.refl
  have hnl := hS.1
  have hmem := List.mem_of_getElem? hx
  obtain ⟨g1, g2, g3, g4, g5⟩ := hO.good x hmem
  have hlab := hO.lab x hmem
  have hmod := hO.mod x hmem
  obtain ⟨b0, o0, x', cs, hA, hx', ⟨rfl, hok⟩, _, hcs⟩ := hS.at_ (k := i) (by omega) (by omega)
  cases hx.symm.trans hx'
  obtain ⟨xk, xm, xn, xd, ⟨lv, ln⟩, ⟨pv, pn⟩, ⟨ev, en⟩⟩ := x
  have c0 := hcs 0 _ rfl
  have c1 := hcs 1 _ rfl
  have c2 := hcs 2 _ rfl
  have c3 := hcs 3 _ rfl
  have c4 := hcs 4 _ rfl
  have c5 := hcs 5 _ rfl
  have c6 := hcs 6 _ rfl
  have c7 := hcs 7 _ rfl
  have c8 := hcs 8 _ rfl
  have c9 := hcs 9 _ rfl
  rw [Nat.add_zero] at c0
  have hn128 := hO.len
  have i1 : (i : Int) < (C.n : Int) := by omega
  have i2 : (C.n : Int) ≤ 9223372036854775807 := by omega
  have i3 : (i : Int) ≤ 128 := by omega
  dsimp only at k5 k3 k4 g1 g2 g3 g4 hlab hmod c0 c1 c2 c3 c4 c5 c6 c7 c8 c9
  have z5 : ((xk : Int) == 5) = false := by rw [beq_eq_false_iff_ne]; omega
  have z3 : ((xk : Int) == 3) = false := by rw [beq_eq_false_iff_ne]; omega
  have z4 : ((xk : Int) == 4) = false := by rw [beq_eq_false_iff_ne]; omega
  obtain ⟨W0, hW0⟩ : ∃ W0, W.alloc (.cells #[.int .u8 xk, .int .i64 xm, .string xn, .int .i64 xd, .bool lv, .int .u64 ln, .bool pv, .int .u64 pn, .bool ev, .int .u64 en] 68) = W0 := ⟨_, rfl⟩
  have hb0 : Below W.heap.size W W0 := by rw [← hW0]; exact (Below.refl _ _).alloc (Nat.le_refl _) _
  have hN0 : Blk W0 W.heap.size 68 #[.int .u8 xk, .int .i64 xm, .string xn, .int .i64 xd, .bool lv, .int .u64 ln, .bool pv, .int .u64 pn, .bool ev, .int .u64 en] := by rw [← hW0]; exact Blk.new W _ _
  have hsz0 : W0.heap.size = W.heap.size + 1 := by rw [← hW0]; simp
  have hv : nodeT C.P C.body (F + 1) i = ([if 0 < xm then C.P.mod xm else ByteArray.empty, xn, atB ++ C.P.lab ⟨lv, ln⟩], i + 1) := by
    simp only [nodeT, hxo, if_neg k5, if_neg k3, if_neg k4]
  obtain ⟨pre, hpre⟩ : ∃ q, (if 0 < xm then C.P.mod xm else ByteArray.empty) = q := ⟨_, rfl⟩
  rw [hpre] at hv
  rw [hv]
  have HPre := Lib.hid hpre
  have cL := lab_at C ⟨lv, ln⟩ hlab W0 bs (h3.below hb0) (h4.chg (TChg.below hb0))
  have CL := Lib.hid cL
  have n0 := hN0.cell 0
  have n4 := hN0.cell 4
  have n5 := hN0.cell 5
  simp at n0 n4 n5
  have hN : ∀ W1, Below W0.heap.size W0 W1 → W.heap.size < W1.heap.size ∧ W1.cell? ⟨W.heap.size, 0, none⟩ = some (.int .u8 xk) ∧ W1.cell? ⟨W.heap.size, 1, none⟩ = some (.int .i64 xm) ∧ W1.cell? ⟨W.heap.size, 2, none⟩ = some (.string xn) := fun W1 hb => by
    have := hN0.below hb hN0.lt
    refine ⟨this.lt, ?_, ?_, ?_⟩ <;> rw [this.cell] <;> rfl
  have HN := Lib.hid hN
  have hls : 1 + (C.P.lab ⟨lv, ln⟩).size ≤ 9223372036854775807 := by
    have : (atB ++ C.P.lab ⟨lv, ln⟩).size ≤ 5000 := g1
    rw [ByteArray.size_append] at this
    have h1 : atB.size = 1 := rfl
    omega
  have hbsz := h3.lt
  have HW := Lib.hid h3
  have HR := Lib.hid h4
  have cP : ∀ (q : ByteArray) W1, q.size ≤ 5000 → Below W.heap.size W W1 → _ := fun q W1 hq hb =>
    puts_5000 W1 C.B C.b C.f bs [q, xn, atB ++ C.P.lab ⟨lv, ln⟩] 3 rfl (by omega) (by intro s hs; simp only [List.mem_cons, List.not_mem_nil, or_false] at hs; rcases hs with rfl | rfl | rfl <;> assumption) (h3.below hb) (by omega) (Nat.le_trans h6 hb.size)
  have CP := Lib.hid cP
  have HI := Lib.hid hI
  have HM := Lib.hid g3
  have HB0 := Lib.hid hb0
  have HMod := Lib.hid hmod
  have hn5 := hO.n5
  clear hmod hpre cL hN hN0 hb0 h1 h2 h3 h4 h5 h6 hI hS hcs hok hx hx' hv hxo hmem g1 g2 g3 g4 g5 hlab cP hO hn128
  rw [hA]
  generalize C.P.lab ⟨lv, ln⟩ = lb at *
  go_enter Tryz.func37, Tryz.ntmps37
  go_wp2_with fail
  go_step3
  go_wp2_with fail
  refine CL.out.mono ?_
  rintro r1 w1 ⟨rfl, hb1⟩
  obtain ⟨gl, q0, q1, q2⟩ := HN.out w1 hb1
  have hbw1 := HB0.out.trans (hb1.mono (by omega))
  by_cases hm : 0 < xm
  · have he := HPre.out
    rw [if_pos hm] at he
    have hml := HMod.out hm
    have hms := HM.out hm
    obtain ⟨k, rfl⟩ : ∃ k : Nat, xm = (k : Int) + 1 := ⟨(xm - 1).toNat, by omega⟩
    obtain ⟨b5, o5, im, cs5, hA5, him, ⟨rfl, him1, him2⟩, _, hcs5⟩ := (HI.out.below rImport_keeps hbw1).at_ (k := k) (by omega) (by omega)
    have d0 := hcs5 0 _ rfl
    rw [Nat.add_zero] at d0
    have hpe : C.P.mod ((k : Int) + 1) = im.module ++ ⟨#[46]⟩ := by
      show NCtx.modB C.imports ((k : Int) + 1) = _
      rw [NCtx.modB, show ((k : Int) + 1).toNat - 1 = k by omega, List.getD_eq_getElem?_getD, him]
      rfl
    rw [hpe] at he hms
    subst he
    have hs2 : im.module.size + 1 ≤ 9223372036854775807 := by
      rw [ByteArray.size_append] at hms
      omega
    have w7 : w1.cell? ⟨C.b, 7, none⟩ = some (.slice C.A5 C.n5 C.c5) := by
      obtain ⟨_, _, p, v, _, hb, _⟩ := HW.out.below hbw1
      rw [hb.cell]
      rfl
    rw [hA5] at w7
    have hbl1 : C.b < w1.heap.size := World.block_lt_of_cell? _ _ w7
    have hb5l := World.block_lt_of_cell? _ _ d0
    have i5 : (k : Int) < (C.n5 : Int) := by omega
    have i6 : (C.n5 : Int) ≤ 16 := by omega
    have z1 : decide (0 < (k : Int) + 1) = true := by simp
    have cQ := CP.out (im.module ++ ⟨#[46]⟩) w1.drew hms hbw1.drew
    have CQ := Lib.hid cQ
    clear cQ hcs5 him hpe hml hms hm
    go_wp2_with fail
    go_region
    all_goals
      go_wp2_with fail
      refine CQ.out.mono ?_
      rintro r2 w2 ⟨rfl, hW2, hT2⟩
      go_wp2_with fail
      rw [Exit.noGoto_ret]
      go_ret
      exact ⟨rfl, hW2, (TChg.below hbw1.drew).trans hT2⟩
  · have z1 : decide (0 < xm) = false := by simpa using hm
    have he := HPre.out
    rw [if_neg hm] at he
    subst he
    have cQ := CP.out ByteArray.empty w1 (by decide) hbw1
    have CQ := Lib.hid cQ
    clear cQ
    go_wp2_with fail
    refine CQ.out.mono ?_
    rintro r2 w2 ⟨rfl, hW2, hT2⟩
    go_wp2_with fail
    rw [Exit.noGoto_ret]
    go_ret
    exact ⟨rfl, hW2, (TChg.below hbw1).trans hT2⟩
end Go.Proofs.YtcgnbpjbpbabaaaGreatDoor
end
