/- What the program computes, in plain Lean: terms, nodes, schemes, interfaces; orders, sorts of values, bodies, spots, bounds; may a scheme, an interface be. What values in memory say: terms, nodes, bounds, schemes, entries, imports, interfaces; slices of them. Plain laws of bodies: how many nodes are missing, and how many sides wait. -/
import Derived.Test.YtcgnbpjbpbabaaaGreatDoorMg02
section
set_option linter.unusedVariables false
set_option linter.unusedSimpArgs false
namespace Go.Proofs.YtcgnbpjbpbabaaaGreatDoor
open Go.RowKit

structure Term where
  var : Bool
  n : Nat
  deriving DecidableEq, Inhabited
structure Node where
  kind : Nat
  mod : Int
  name : ByteArray
  kids : Int
  l : Term
  pc : Term
  e : Term
  deriving DecidableEq, Inhabited
structure Bound where
  a : Term
  b : Term
  deriving DecidableEq, Inhabited
structure Scheme where
  lv : Int
  ev : Int
  body : List Node
  l : List Bound
  e : List Bound
  deriving DecidableEq, Inhabited
structure Import where
  module : ByteArray
  sum : Nat
  deriving DecidableEq, Inhabited
structure Entry where
  name : ByteArray
  s : Scheme
  deriving DecidableEq, Inhabited
structure Face where
  module : ByteArray
  labels : List ByteArray
  rows : List Nat
  effects : List ByteArray
  types : List ByteArray
  imports : List Import
  entries : List Entry
  deriving DecidableEq, Inhabited
structure Spot where
  node : Nat
  part : Nat
  side : Nat
  t : Term
  deriving DecidableEq, Inhabited
structure Sense where
  spots : List Spot
  low : List Nat
  high : List Nat
  below : List (List Bool)
  deriving DecidableEq, Inhabited

/-! ### Orders (layer 4) -/
/-- has one of some labels, as bits, a row that has all of them? -/
def oneB (s : Nat) (l : List Nat) : Bool := (List.range l.length).any fun k => s.testBit k && (l.getD k 0 &&& s == s)
/-- of each those that are below it -/
def turnedTo (l : List Nat) (j : Nat) : Nat → Nat
  | 0 => 0
  | k + 1 => if (l.getD k 0).testBit j then turnedTo l j k ||| 2 ^ k else turnedTo l j k
def turnedL (l : List Nat) : List Nat := (List.range l.length).map fun j => turnedTo l j l.length
def meetOk (l d : List Nat) (i j : Nat) : Bool := oneB (l.getD i 0 &&& l.getD j 0) l && oneB (d.getD i 0 &&& d.getD j 0) d
def pairOk (l : List Nat) (i j : Nat) : Bool := !(decide (j ≠ i) && (l.getD i 0).testBit j && ((l.getD j 0).testBit i || !(l.getD j 0 &&& l.getD i 0 == l.getD j 0)))
def rowOk (l : List Nat) (i : Nat) : Bool := (l.getD i 0).testBit i && (List.range l.length).all (pairOk l i)
def orderedB (l : List Nat) : Bool := (List.range l.length).all (rowOk l)
def checkOrder (l : List Nat) : Nat :=
  if l.length < 1 || 64 < l.length then 1
  else if l.any fun r => !decide (r < 2 ^ l.length) then 1
  else if !orderedB l then 9
  else if (List.range l.length).all fun i => (List.range i).all (meetOk l (turnedL l) i) then 0 else 7

/-! ### Sorts of values (layers 5, 6, 10) -/
inductive Srt where
  | none
  | lat (rows : List Nat)
  | eff (n : Nat)
  deriving DecidableEq, Inhabited
/-- the first of some labels whose row has all of them; 0: none -/
def allRow (r : List Nat) (s : Nat) : Nat := ((List.range 64).find? fun k => s.testBit k && (r.getD k 0 &&& s == s)).getD 0
namespace Srt
def has : Srt → Nat → Bool
  | none, _ => false
  | lat r, a => decide (a < r.length)
  | eff n, a => decide (a < 2 ^ n)
def below : Srt → Nat → Nat → Bool
  | none, _, _ => false
  | lat r, a, b => decide (a < r.length) && decide (b < r.length) && (r.getD a 0).testBit b
  | eff n, a, b => decide (a < 2 ^ n) && decide (b < 2 ^ n) && (a &&& b == a)
def join : Srt → Nat → Nat → Nat
  | none, _, _ => 0
  | lat r, a, b => if a < r.length ∧ b < r.length then allRow r (r.getD a 0 &&& r.getD b 0) else 0
  | eff n, a, b => if a < 2 ^ n ∧ b < 2 ^ n then a ||| b else 0
def meet : Srt → Nat → Nat → Nat
  | none, _, _ => 0
  | lat r, a, b => if a < r.length ∧ b < r.length then allRow (turnedL r) ((turnedL r).getD a 0 &&& (turnedL r).getD b 0) else 0
  | eff n, a, b => if a < 2 ^ n ∧ b < 2 ^ n then a &&& b else 0
def bottom : Srt → Nat
  | none => 0
  | lat r => if r.length = 0 then 0 else allRow r (2 ^ r.length - 1)
  | eff _ => 0
def top : Srt → Nat
  | none => 0
  | lat r => if r.length = 0 then 0 else allRow (turnedL r) (2 ^ r.length - 1)
  | eff n => 2 ^ n - 1
end Srt

/-! ### Bodies (layer 7) -/
def noTerm (t : Term) : Bool := !t.var && t.n == 0
def boolS : List UInt8 := [98, 111, 111, 108]
def intS : List UInt8 := [105, 110, 116]
def textS : List UInt8 := [116, 101, 120, 116]
def unitS : List UInt8 := [117, 110, 105, 116]
def refS : List UInt8 := [114, 101, 102]
def baseN (s : ByteArray) : Bool := s.toList == boolS || s.toList == intS || s.toList == textS || s.toList == unitS
def mayB (x : Node) : Bool :=
  if x.kind = 1 then x.mod == 0 && baseN x.name && (x.kids == 0 && noTerm x.pc && noTerm x.e)
  else if x.kind = 2 then decide (0 ≤ x.mod) && decide (x.mod ≤ 16) && nameB x.name.data.toList && (x.kids == 0 && noTerm x.pc && noTerm x.e)
  else if x.kind = 3 then x.name.toList.isEmpty && x.mod == 0 && decide (0 ≤ x.kids) && (noTerm x.pc && noTerm x.e)
  else if x.kind = 4 then x.name.toList.isEmpty && x.mod == 0 && x.kids == 1 && (noTerm x.pc && noTerm x.e)
  else if x.kind = 5 then x.name.toList.isEmpty && x.mod == 0 && x.kids == 2
  else false
/-- what is open, the innermost one first -/
def dropZ : List Nat → List Nat
  | 0 :: r => dropZ r
  | l => l
def takesO (o : List Nat) (kids : Nat) : List Nat × Nat :=
  match dropZ o with
  | [] => ([], 0)
  | k :: r => (kids :: (k - 1) :: r, r.length + 1)
def fullO (o : List Nat) : Bool := !o.any fun k => decide (0 < k)
def checkGo : List Nat → List Node → Nat
  | o, [] => if fullO o then 0 else 4
  | o, x :: r =>
    let t := takesO o x.kids.toNat
    if t.2 = 0 || !mayB x then 4
    else if 8 < x.kids || 16 < t.2 then 3
    else checkGo t.1 r
def checkBody (b : List Node) : Nat := if b.length = 0 then 1 else if 128 < b.length then 3 else checkGo [1] b
def sameBody (a b : List Node) : Bool := a.length == b.length && (List.zipWith (fun x y : Node => x.kind == y.kind && x.mod == y.mod && x.name.toList == y.name.toList && x.kids == y.kids) a b).all id

/-! ### Spots (layer 8) -/
def turnedS (s : Nat) : Nat := if s = 0 then 1 else if s = 1 then 0 else s
/-- the sides of what stands below a node, the next one first -/
def kidsS (x : Node) (s : Nat) : List Nat :=
  if x.kind = 4 then [2] else if x.kind = 5 then [turnedS s, s] else List.replicate x.kids.toNat s
def sidesGo : List Nat → List Node → List Nat
  | _, [] => []
  | [], _ :: _ => []
  | s :: nx, x :: r => s :: sidesGo (kidsS x s ++ nx) r
def labelSpots : Nat → List Node → List Nat → List Spot
  | i, x :: r, s :: t => (⟨i, 0, s, x.l⟩ :: if x.kind = 5 then [⟨i, 1, turnedS s, x.pc⟩] else []) ++ labelSpots (i + 1) r t
  | _, _, _ => []
def effectSpots : Nat → List Node → List Nat → List Spot
  | i, x :: r, s :: t => (if x.kind = 5 then [⟨i, 2, s, x.e⟩] else []) ++ effectSpots (i + 1) r t
  | _, _, _ => []
def spotsOf (b : List Node) : List Spot × List Spot := if checkBody b = 0 then (labelSpots 0 b (sidesGo [0] b), effectSpots 0 b (sidesGo [0] b)) else ([], [])

/-! ### Bounds, schemes (layers 10, 12) -/
def termOk (S : Srt) (vars : Nat) (t : Term) : Bool := if t.var then decide (t.n < vars) else S.has t.n
def checkBounds (S : Srt) (vars : Int) (l : List Bound) : Nat :=
  if vars < 0 || 64 < vars || 256 < l.length then 3
  else if l.all fun b => termOk S vars.toNat b.a && termOk S vars.toNat b.b then 0 else 1
def checkScheme (s : Scheme) (L X : Srt) : Nat :=
  if checkBody s.body ≠ 0 then checkBody s.body
  else if checkBounds L s.lv s.l ≠ 0 then checkBounds L s.lv s.l
  else if checkBounds X s.ev s.e ≠ 0 then checkBounds X s.ev s.e
  else if ((spotsOf s.body).1.all fun p => termOk L s.lv.toNat p.t) && ((spotsOf s.body).2.all fun p => termOk X s.ev.toNat p.t) then 0 else 1

/-! ### Interfaces (layer 18) -/
/-- names that rise -/
def namesB (l : List ByteArray) : Bool := sortedB l && l.all fun s => nameB s.data.toList
/-- the words of a base, and of a reference -/
def baseB (s : ByteArray) : Bool := s.toList == boolS || s.toList == intS || s.toList == refS || s.toList == textS || s.toList == unitS
def inB (l : List ByteArray) (s : ByteArray) : Bool := l.any fun t => s.toList == t.toList
def namedOk (f : Face) (x : Node) : Bool := !(x.kind == 2 && (decide ((f.imports.length : Int) < x.mod) || x.mod == 0 && !inB f.types x.name))
def checkEntries (f : Face) : List Entry → Nat
  | [] => 0
  | x :: r =>
    if checkScheme x.s (.lat f.rows) (.eff f.effects.length) ≠ 0 then checkScheme x.s (.lat f.rows) (.eff f.effects.length)
    else if x.s.body.all (namedOk f) then checkEntries f r else 7
def checkFace (f : Face) : Nat :=
  if 64 < f.labels.length || 64 < f.effects.length || 64 < f.types.length || 16 < f.imports.length || 64 < f.entries.length then 3
  else if !(namesB [f.module] && namesB f.labels && namesB f.effects && namesB f.types && namesB (f.imports.map Import.module) && namesB (f.entries.map Entry.name)) then 4
  else if f.types.any baseB || inB (f.imports.map Import.module) f.module || !(f.rows.length == f.labels.length) then 4
  else if checkOrder f.rows ≠ 0 then checkOrder f.rows
  else checkEntries f f.entries
end Go.Proofs.YtcgnbpjbpbabaaaGreatDoor
end

section
set_option linter.unusedVariables false
set_option linter.unusedSimpArgs false
namespace Go.Proofs.YtcgnbpjbpbabaaaGreatDoor
open Go.RowKit

/-- a slice value at A of length n and capacity c: its elements, `size` cells each, read as l by R -/
def Sl {α : Type} (R : World → List Value → α → Prop) (size : Nat) (w : World) (A : Option Addr) (n : Nat) (l : List α) : Prop :=
  l.length = n ∧ n ≤ 9223372036854775807 ∧ (0 < n → ∃ ad, A = some ad ∧ ∀ j x, l[j]? = some x → ∃ cs, R w cs x ∧ cs.length = size ∧ ∀ k u, cs[k]? = some u → w.cell? (ad.add (j * size + k)) = some u)

/-- a way to read that is kept where all that lay lies as it lay -/
def Keeps {α : Type} (R : World → List Value → α → Prop) : Prop := ∀ w w' cs x, Below w.heap.size w w' → R w cs x → R w' cs x

theorem Sl.below {α : Type} {R : World → List Value → α → Prop} {size n : Nat} {w w' : World} {A : Option Addr} {l : List α} (hR : Keeps R) (h : Sl R size w A n l) (hb : Below w.heap.size w w') : Sl R size w' A n l :=
  ⟨h.1, h.2.1, fun hn => by
    obtain ⟨ad, e, hc⟩ := h.2.2 hn
    refine ⟨ad, e, fun j x hx => ?_⟩
    obtain ⟨cs, h1, h2, h3⟩ := hc j x hx
    exact ⟨cs, hR _ _ _ _ hb h1, h2, fun k u hu => (hb.cell (World.block_lt_of_cell? w _ (h3 k u hu))).trans (h3 k u hu)⟩⟩
theorem Sl.nil {α : Type} {R : World → List Value → α → Prop} {size : Nat} {w : World} (A : Option Addr) : Sl R size w A 0 [] :=
  ⟨rfl, by omega, fun h => absurd h (by omega)⟩
theorem lit_of_cell {w : World} {a : Addr} {v : Value} (h : w.cell? a = some v) : a = ⟨a.block, a.off, none⟩ := by
  obtain ⟨b, o, sp⟩ := a
  cases sp with
  | none => rfl
  | some k =>
    unfold World.cell? at h
    split at h <;> simp at h
theorem add_lit' (b o j : Nat) : (⟨b, o, none⟩ : Addr).add j = ⟨b, o + j, none⟩ := by
  unfold Addr.add
  split
  · subst_vars; simp
  · rfl
theorem Sl.at_ {α : Type} {R : World → List Value → α → Prop} {size n k : Nat} {w : World} {A : Option Addr} {l : List α} (h : Sl R size w A n l) (hk : k < n) (hs : 0 < size) :
    ∃ b o x cs, A = some ⟨b, o, none⟩ ∧ l[k]? = some x ∧ R w cs x ∧ cs.length = size ∧ ∀ i u, cs[i]? = some u → w.cell? ⟨b, o + k * size + i, none⟩ = some u := by
  obtain ⟨ad, e, hc⟩ := h.2.2 (by omega)
  have hl : k < l.length := by have := h.1; omega
  have hlit : ad = ⟨ad.block, ad.off, none⟩ := by
    obtain ⟨cs, _, h2, h3⟩ := hc 0 _ (List.getElem?_eq_getElem (by omega))
    have h4 := h3 0 _ (List.getElem?_eq_getElem (by omega))
    have h5 := lit_of_cell h4
    simpa [Addr.add] using h5
  obtain ⟨cs, h1, h2, h3⟩ := hc k _ (List.getElem?_eq_getElem hl)
  refine ⟨ad.block, ad.off, _, cs, by rw [← hlit]; exact e, List.getElem?_eq_getElem hl, h1, h2, fun i u hu => ?_⟩
  have := h3 i u hu
  rw [hlit, add_lit', ← Nat.add_assoc] at this
  exact this

def u64 (n : Nat) : Prop := n < 18446744073709551616
def i64 (n : Int) : Prop := -9223372036854775808 ≤ n ∧ n ≤ 9223372036854775807

def rStr (w : World) (cs : List Value) (s : ByteArray) : Prop := cs = [.string s] ∧ s.size ≤ 4611686018427387904
def rNum (w : World) (cs : List Value) (n : Nat) : Prop := cs = [.int .u64 n] ∧ u64 n
def cTerm (t : Term) : List Value := [.bool t.var, .int .u64 t.n]
def rTerm (w : World) (cs : List Value) (t : Term) : Prop := cs = cTerm t ∧ u64 t.n
def cNode (x : Node) : List Value := [.int .u8 x.kind, .int .i64 x.mod, .string x.name, .int .i64 x.kids, .bool x.l.var, .int .u64 x.l.n, .bool x.pc.var, .int .u64 x.pc.n, .bool x.e.var, .int .u64 x.e.n]
def okNode (x : Node) : Prop := x.kind < 256 ∧ i64 x.mod ∧ x.name.size ≤ 4611686018427387904 ∧ i64 x.kids ∧ u64 x.l.n ∧ u64 x.pc.n ∧ u64 x.e.n
def rNode (w : World) (cs : List Value) (x : Node) : Prop := cs = cNode x ∧ okNode x
def cBound (x : Bound) : List Value := [.bool x.a.var, .int .u64 x.a.n, .bool x.b.var, .int .u64 x.b.n]
def rBound (w : World) (cs : List Value) (x : Bound) : Prop := cs = cBound x ∧ u64 x.a.n ∧ u64 x.b.n
def rImport (w : World) (cs : List Value) (x : Import) : Prop := cs = [.string x.module, .int .u32 x.sum] ∧ x.module.size ≤ 4611686018427387904 ∧ x.sum < 4294967296
def rScheme (w : World) (cs : List Value) (x : Scheme) : Prop :=
  i64 x.lv ∧ i64 x.ev ∧ ∃ A n c B m d C k e, cs = [.int .i64 x.lv, .int .i64 x.ev, .slice A n c, .slice B m d, .slice C k e] ∧ Sl rNode 10 w A n x.body ∧ Sl rBound 4 w B m x.l ∧ Sl rBound 4 w C k x.e ∧ n ≤ c ∧ m ≤ d ∧ k ≤ e
def rEntry (w : World) (cs : List Value) (x : Entry) : Prop := ∃ cs', cs = .string x.name :: cs' ∧ x.name.size ≤ 4611686018427387904 ∧ rScheme w cs' x.s

theorem rStr_keeps : Keeps rStr := fun _ _ _ _ _ h => h
theorem rNum_keeps : Keeps rNum := fun _ _ _ _ _ h => h
theorem rTerm_keeps : Keeps rTerm := fun _ _ _ _ _ h => h
theorem rNode_keeps : Keeps rNode := fun _ _ _ _ _ h => h
theorem rBound_keeps : Keeps rBound := fun _ _ _ _ _ h => h
theorem rImport_keeps : Keeps rImport := fun _ _ _ _ _ h => h
theorem rScheme_keeps : Keeps rScheme := fun _ _ _ _ hb ⟨h1, h2, A, n, c, B, m, d, C, k, e, hc, ha, hb', hc', h3⟩ =>
  ⟨h1, h2, A, n, c, B, m, d, C, k, e, hc, ha.below rNode_keeps hb, hb'.below rBound_keeps hb, hc'.below rBound_keeps hb, h3⟩
theorem rEntry_keeps : Keeps rEntry := fun _ _ _ _ hb ⟨cs', h1, h2, h3⟩ => ⟨cs', h1, h2, rScheme_keeps _ _ _ _ hb h3⟩

theorem sl_strs {w : World} {A : Option Addr} {n : Nat} {l : List ByteArray} : Sl rStr 1 w A n l ↔ Strs w A n l := by
  constructor
  · intro h
    refine ⟨h.1, h.2.1, fun s hs => ?_, fun hn => ?_⟩
    · obtain ⟨j, hj, rfl⟩ := List.getElem_of_mem hs
      obtain ⟨ad, e, hc⟩ := h.2.2 (by have := h.1; omega)
      obtain ⟨cs, h1, _⟩ := hc j _ (List.getElem?_eq_getElem hj)
      exact h1.2
    · obtain ⟨ad, e, hc⟩ := h.2.2 hn
      refine ⟨ad, e, fun j hj => ?_⟩
      obtain ⟨cs, h1, _, h3⟩ := hc j _ (List.getElem?_eq_getElem hj)
      rw [h1.1] at h3
      simpa using h3 0 _ rfl
  · intro h
    refine ⟨h.1, h.2.1, fun hn => ?_⟩
    obtain ⟨ad, e, hc⟩ := h.2.2.2 hn
    refine ⟨ad, e, fun j x hx => ?_⟩
    obtain ⟨hj, rfl⟩ := List.getElem?_eq_some_iff.1 hx
    refine ⟨_, ⟨rfl, h.2.2.1 _ (List.getElem_mem hj)⟩, rfl, fun k u hu => ?_⟩
    cases k with
    | zero =>
      simp at hu
      subst hu
      simpa using hc j hj
    | succ k => simp at hu

/-- an interface's value -/
def rFace (w : World) (cs : List Value) (f : Face) : Prop :=
  ∃ A1 n1 c1 A2 n2 c2 A3 n3 c3 A4 n4 c4 A5 n5 c5 A6 n6 c6, cs = [.string f.module, .slice A1 n1 c1, .slice A2 n2 c2, .slice A3 n3 c3, .slice A4 n4 c4, .slice A5 n5 c5, .slice A6 n6 c6] ∧
    f.module.size ≤ 4611686018427387904 ∧ Sl rStr 1 w A1 n1 f.labels ∧ Sl rNum 1 w A2 n2 f.rows ∧ Sl rStr 1 w A3 n3 f.effects ∧ Sl rStr 1 w A4 n4 f.types ∧ Sl rImport 2 w A5 n5 f.imports ∧ Sl rEntry 6 w A6 n6 f.entries ∧
    n1 ≤ c1 ∧ n2 ≤ c2 ∧ n3 ≤ c3 ∧ n4 ≤ c4 ∧ n5 ≤ c5 ∧ n6 ≤ c6
end Go.Proofs.YtcgnbpjbpbabaaaGreatDoor
end

section
set_option linter.unusedVariables false
set_option linter.unusedSimpArgs false
namespace Go.Proofs.YtcgnbpjbpbabaaaGreatDoor

def sumO (o : List Nat) : Nat := o.foldr (· + ·) 0
@[simp] theorem sumO_nil : sumO [] = 0 := rfl
@[simp] theorem sumO_cons (a : Nat) (o : List Nat) : sumO (a :: o) = a + sumO o := rfl
theorem sumO_dropZ : ∀ o, sumO (dropZ o) = sumO o
  | [] => rfl
  | 0 :: r => by rw [dropZ, sumO_dropZ r]; simp
  | (k + 1) :: r => rfl
theorem dropZ_form : ∀ o, dropZ o = [] ∨ ∃ k r, dropZ o = (k + 1) :: r
  | [] => .inl rfl
  | 0 :: r => by rw [dropZ]; exact dropZ_form r
  | (k + 1) :: r => .inr ⟨k, r, rfl⟩
theorem dropZ_len : ∀ o, (dropZ o).length ≤ o.length
  | [] => Nat.le_refl _
  | 0 :: r => by rw [dropZ]; have := dropZ_len r; simp; omega
  | (k + 1) :: r => Nat.le_refl _
theorem takesO_none {o : List Nat} {k : Nat} : (takesO o k).2 = 0 ↔ sumO o = 0 := by
  rw [← sumO_dropZ o]
  unfold takesO
  rcases dropZ_form o with h | ⟨m, r, h⟩ <;> rw [h] <;> simp
theorem takesO_some {o : List Nat} {k : Nat} (h : (takesO o k).2 ≠ 0) : sumO (takesO o k).1 + 1 = sumO o + k := by
  rw [← sumO_dropZ o]
  unfold takesO at h ⊢
  rcases dropZ_form o with h' | ⟨m, r, h'⟩ <;> rw [h'] at h ⊢
  · simp at h
  · simp
    omega
theorem fullO_iff {o : List Nat} : fullO o = true ↔ sumO o = 0 := by
  unfold fullO
  induction o with
  | nil => simp
  | cons a r ih =>
    simp only [List.any_cons, sumO_cons]
    cases ha : decide (0 < a)
    · simp only [decide_eq_false_iff_not] at ha
      rw [Bool.false_or, ih]
      omega
    · simp only [decide_eq_true_eq] at ha
      simp
      omega

theorem mayB_kids {x : Node} (h : mayB x = true) : 0 ≤ x.kids := by
  unfold mayB at h
  split at h
  · simp at h; omega
  · split at h
    · simp at h; omega
    · split at h
      · simp at h; omega
      · split at h
        · simp at h; omega
        · split at h
          · simp at h; omega
          · cases h
theorem mayB_kidsS {x : Node} (h : mayB x = true) (s : Nat) : (kidsS x s).length = x.kids.toNat := by
  unfold kidsS
  unfold mayB at h
  by_cases h4 : x.kind = 4
  · simp [h4] at h ⊢
    omega
  · by_cases h5 : x.kind = 5
    · simp [h5] at h ⊢
      omega
    · rw [if_neg h4, if_neg h5]
      simp
theorem checkGo_cons {o : List Nat} {x : Node} {r : List Node} (h : checkGo o (x :: r) = 0) :
    (takesO o x.kids.toNat).2 ≠ 0 ∧ mayB x = true ∧ x.kids ≤ 8 ∧ (takesO o x.kids.toNat).2 ≤ 16 ∧ checkGo (takesO o x.kids.toNat).1 r = 0 := by
  simp only [checkGo] at h
  split at h
  · cases h
  · rename_i h1
    split at h
    · cases h
    · rename_i h2
      simp at h1 h2
      exact ⟨by simpa using h1.1, h1.2, by omega, by omega, h⟩
theorem checkGo_mem : ∀ {b : List Node} {o : List Nat}, checkGo o b = 0 → ∀ x ∈ b, mayB x = true ∧ x.kids ≤ 8
  | [], _, _, _, hx => by cases hx
  | y :: r, o, h, x, hx => by
    obtain ⟨_, h1, h2, _, h3⟩ := checkGo_cons h
    rcases List.mem_cons.1 hx with rfl | hx
    · exact ⟨h1, h2⟩
    · exact checkGo_mem h3 x hx
theorem checkBody_mem {b : List Node} (h : checkBody b = 0) : b.length ≤ 128 ∧ 0 < b.length ∧ checkGo [1] b = 0 ∧ ∀ x ∈ b, mayB x = true ∧ x.kids ≤ 8 := by
  unfold checkBody at h
  split at h
  · cases h
  · split at h
    · cases h
    · exact ⟨by omega, by omega, h, checkGo_mem h⟩

/-- the sides that wait ahead of a node -/
def sidesAt : List Nat → List Node → List Nat
  | nx, [] => nx
  | [], _ :: _ => []
  | s :: nx, x :: r => sidesAt (kidsS x s ++ nx) r
theorem sidesAt_len : ∀ {b : List Node} {o nx : List Nat} (k : Nat), checkGo o b = 0 → sumO o = nx.length → k ≤ b.length → ∃ o', checkGo o' (b.drop k) = 0 ∧ sumO o' = (sidesAt nx (b.take k)).length
  | b, o, nx, 0, h, hs, _ => ⟨o, h, by simpa [sidesAt] using hs⟩
  | [], o, nx, k + 1, _, _, hk => by simp at hk
  | x :: r, o, nx, k + 1, h, hs, hk => by
    obtain ⟨h1, h2, h3, h4, h5⟩ := checkGo_cons h
    have hsum := takesO_some h1
    have hne : sumO o ≠ 0 := fun e => h1 (takesO_none.2 e)
    cases nx with
    | nil => simp at hs; omega
    | cons s nx =>
      simp only [List.take_succ_cons, List.drop_succ_cons, sidesAt]
      refine sidesAt_len k h5 ?_ (by simpa using hk)
      rw [List.length_append, mayB_kidsS h2 s]
      simp at hs
      omega
/-- ahead of each node a side waits -/
theorem sidesAt_cons {b : List Node} {o nx : List Nat} {k : Nat} (h : checkGo o b = 0) (hs : sumO o = nx.length) (hk : k < b.length) : ∃ s r, sidesAt nx (b.take k) = s :: r := by
  obtain ⟨o', h1, h2⟩ := sidesAt_len k h hs (by omega)
  rw [List.drop_eq_getElem_cons hk] at h1
  obtain ⟨h3, _⟩ := checkGo_cons h1
  have : sumO o' ≠ 0 := fun e => h3 (takesO_none.2 e)
  cases hc : sidesAt nx (b.take k) with
  | nil => rw [hc] at h2; simp at h2; omega
  | cons s r => exact ⟨s, r, rfl⟩
theorem sidesAt_snoc : ∀ {b : List Node} {nx : List Nat} {k : Nat} {s : Nat} {r : List Nat} {x : Node}, sidesAt nx (b.take k) = s :: r → b[k]? = some x → sidesAt nx (b.take (k + 1)) = kidsS x s ++ r
  | [], _, _, _, _, _, _, hx => by simp at hx
  | y :: b, nx, 0, s, r, x, h, hx => by
    simp at hx
    subst hx
    simp [sidesAt] at h
    subst h
    simp [sidesAt]
  | y :: b, [], k + 1, s, r, x, h, hx => by simp [sidesAt] at h
  | y :: b, t :: nx, k + 1, s, r, x, h, hx => by
    simp only [List.take_succ_cons, sidesAt] at h ⊢
    exact sidesAt_snoc h (by simpa using hx)
theorem sidesGo_at : ∀ {b : List Node} {nx : List Nat} {k : Nat} {s : Nat} {r : List Nat}, k < b.length → sidesAt nx (b.take k) = s :: r → (sidesGo nx b)[k]? = some s
  | [], _, _, _, _, hk, _ => by simp at hk
  | y :: b, nx, 0, s, r, _, h => by
    simp [sidesAt] at h
    subst h
    simp [sidesGo]
  | y :: b, [], k + 1, s, r, hk, h => by simp [sidesAt] at h
  | y :: b, t :: nx, k + 1, s, r, hk, h => by
    simp only [List.take_succ_cons, sidesAt] at h
    simp only [sidesGo, List.getElem?_cons_succ]
    exact sidesGo_at (by simpa using hk) h
theorem sidesGo_len : ∀ {b : List Node} {o nx : List Nat}, checkGo o b = 0 → sumO o = nx.length → (sidesGo nx b).length = b.length
  | [], _, _, _, _ => rfl
  | x :: b, o, nx, h, hs => by
    obtain ⟨h1, h2, h3, h4, h5⟩ := checkGo_cons h
    have hsum := takesO_some h1
    have hne : sumO o ≠ 0 := fun e => h1 (takesO_none.2 e)
    cases nx with
    | nil => simp at hs; omega
    | cons s nx =>
      simp only [sidesGo, List.length_cons]
      rw [sidesGo_len h5 (by rw [List.length_append, mayB_kidsS h2 s]; simp at hs; omega)]
theorem kidsS_le {x : Node} {s : Nat} (hs : s ≤ 2) : ∀ t ∈ kidsS x s, t ≤ 2 := by
  intro t ht
  unfold kidsS at ht
  split at ht
  · simp at ht; omega
  · split at ht
    · simp [turnedS] at ht
      rcases ht with rfl | rfl
      · split <;> (try split) <;> omega
      · exact hs
    · rw [List.mem_replicate] at ht
      omega
theorem sidesGo_le : ∀ {b : List Node} {nx : List Nat}, (∀ s ∈ nx, s ≤ 2) → ∀ s ∈ sidesGo nx b, s ≤ 2
  | [], _, _, s, h => by simp [sidesGo] at h
  | _ :: _, [], _, s, h => by simp [sidesGo] at h
  | x :: b, t :: nx, hn, s, h => by
    simp only [sidesGo, List.mem_cons] at h
    rcases h with rfl | h
    · exact hn _ (by simp)
    · refine sidesGo_le ?_ s h
      intro u hu
      rcases List.mem_append.1 hu with hu | hu
      · exact kidsS_le (hn t (by simp)) u hu
      · exact hn u (by simp [hu])
end Go.Proofs.YtcgnbpjbpbabaaaGreatDoor
end
