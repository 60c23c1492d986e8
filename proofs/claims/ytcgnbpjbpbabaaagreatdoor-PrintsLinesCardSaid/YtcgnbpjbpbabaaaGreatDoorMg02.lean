/- Words for memory: a slice that reads as a list (nil let in), a block known whole, append onto a row of the call's own. Plain lemmas, of no program. Texts, part C: the functions that only read slices of texts: Sorted, has, SameTexts, TextsSize, great. How an argument that is a slice of texts opens. -/
import Derived.Test.YtcgnbpjbpbabaaaGreatDoorRows
import Derived.WalkKit
import Derived.WalkSpells
import Derived.Below
import Derived.Laws.OwnMore
import Derived.Deep.AppendLies
import Derived.Deep.Draws
import Derived.Laws.Rows
import Derived.Maps.AppendAt
import Derived.RegionTactic
import Derived.OwnWalk
import Derived.Lib.Hide
import Derived.Test.YtcgnbpjbpbabaaaGreatDoorMg01
import Derived.Deep.QuietTactic
import Derived.BigQuiet
import Derived.Sort.Row
section
set_option linter.unusedVariables false
set_option linter.unusedSimpArgs false
namespace Go.Proofs.YtcgnbpjbpbabaaaGreatDoor
open Go.RowKit
theorem block_of_add (a : Addr) (n : Nat) : (a.add n).block = a.block := by unfold Addr.add; split <;> rfl
theorem add_of_add (a : Addr) (i j : Nat) : (a.add i).add j = a.add (i + j) := by
  unfold Addr.add
  by_cases hi : i = 0 <;> by_cases hj : j = 0 <;> simp [hi, hj, Nat.add_assoc]

def Reads (w : World) (B size : Nat) (A : Option Addr) (n : Nat) (xs : List Value) : Prop :=
  xs.length = n * size ∧ (0 < n → ∃ ad, A = some ad ∧ ad.block < B ∧ ∀ j u, xs[j]? = some u → w.cell? (ad.add j) = some u)

section
variable {w w' : World} {B B' size n : Nat} {A : Option Addr} {xs : List Value}
theorem Reads.none_ : Reads w B size A 0 [] := ⟨by simp, fun h => absurd h (by omega)⟩
theorem Reads.at_ {k : Nat} (h : Reads w B 1 A n xs) (hk : k < n) : ∃ ad u, A = some ad ∧ ad.block < B ∧ xs[k]? = some u ∧ w.cell? (ad.add k) = some u := by
  obtain ⟨ad, e, hb, hc⟩ := h.2 (by omega)
  have hl : k < xs.length := by have := h.1; omega
  exact ⟨ad, xs[k], e, hb, List.getElem?_eq_getElem hl, hc k _ (List.getElem?_eq_getElem hl)⟩
theorem Reads.keep (h : Reads w B size A n xs) (hk : ∀ p : Addr, p.block < B → w'.cell? p = w.cell? p) : Reads w' B size A n xs :=
  ⟨h.1, fun hn => by
    obtain ⟨ad, e, hb, hc⟩ := h.2 hn
    exact ⟨ad, e, hb, fun j u hu => (hk _ (by rw [block_of_add]; exact hb)).trans (hc j u hu)⟩⟩
theorem Reads.more (h : Reads w B size A n xs) (hB : B ≤ B') : Reads w B' size A n xs :=
  ⟨h.1, fun hn => by
    obtain ⟨ad, e, hb, hc⟩ := h.2 hn
    exact ⟨ad, e, by omega, hc⟩⟩
theorem Reads.below (h : Reads w B size A n xs) (hb : Below B w w') : Reads w' B size A n xs := h.keep fun _ hp => hb.cell hp
theorem Reads.drew (h : Reads w B size A n xs) : Reads w.drew B size A n xs := h
theorem Reads.drewN (h : Reads w B size A n xs) (k : Nat) : Reads (w.drewN k) B size A n xs := h
theorem Reads.alloc (h : Reads w B size A n xs) (hB : B ≤ w.heap.size) (o : Obj) : Reads (w.alloc o) B size A n xs := h.keep fun p hp => World.cell?_alloc_lt w o p (by omega)
theorem Reads.setCell (h : Reads w B size A n xs) {p : Addr} (hB : B ≤ p.block) (u : Value) : Reads (w.setCell p u) B size A n xs :=
  h.keep fun q hq => World.cell?_setCell_other w p q u (fun e => by subst e; omega)
theorem Reads.grown (h : Reads w B size A n xs) {row : Option Nat} (hg : w.grownBy w' row) (hB : B ≤ w.heap.size) (hr : ∀ g, row = some g → B ≤ g) : Reads w' B size A n xs :=
  h.keep fun p hp => World.cell?_of_block (hg.block p.block (by omega) (fun e => by have := hr _ e.symm; omega))
theorem Reads.cut (h : Reads w B size A n xs) {k cap : Nat} (hk : k ≤ n) (hc : n ≤ cap) :
    Reads w B size (if cap = k then A else A.map (·.add (k * size))) (n - k) (xs.drop (k * size)) := by
  refine ⟨by rw [List.length_drop, h.1, Nat.sub_mul], fun hn => ?_⟩
  obtain ⟨ad, rfl, hb, hcell⟩ := h.2 (by omega)
  rw [if_neg (by omega)]
  refine ⟨ad.add (k * size), rfl, by rw [block_of_add]; exact hb, fun j u hu => ?_⟩
  rw [add_of_add]
  exact hcell _ u (by rw [← hu, List.getElem?_drop])
theorem Reads.of_own {base : Nat} {e : TypeId} {c : Nat} (h : w.ownsRow base e size (.slice A n c) n xs) : Reads w w.heap.size size A n xs := by
  refine ⟨h.1, fun hn => ?_⟩
  obtain ⟨g, cap, hv, _, hlt⟩ := h.form hn
  have hA : A = some ⟨g, 0, none⟩ := by injection hv
  subst hA
  exact ⟨_, rfl, hlt, h.cells (g := g) rfl⟩
end

def Blk (w : World) (g : Nat) (t : TypeId) (cs : Array Value) : Prop := w.heap[g]? = some (.cells cs t (0, 0))

section
variable {w w' : World} {g : Nat} {t : TypeId} {cs : Array Value}
theorem Blk.lt (h : Blk w g t cs) : g < w.heap.size := by
  rcases Nat.lt_or_ge g w.heap.size with hlt | hge
  · exact hlt
  · unfold Blk at h; rw [Array.getElem?_eq_none hge] at h; cases h
theorem Blk.cell (h : Blk w g t cs) (i : Nat) : w.cell? ⟨g, i, none⟩ = cs[i]? := cell_of_row w g i cs t (0, 0) h
theorem Blk.frozen (h : Blk w g t cs) (i : Nat) : w.frozen? ⟨g, i, none⟩ = false := by
  unfold Blk at h
  simp [World.frozen?, h]
theorem Blk.new (w : World) (t : TypeId) (cs : Array Value) : Blk (w.alloc (.cells cs t)) w.heap.size t cs := heap_alloc_new w _
theorem Blk.drew (h : Blk w g t cs) : Blk w.drew g t cs := h
theorem Blk.drewN (h : Blk w g t cs) (n : Nat) : Blk (w.drewN n) g t cs := h
theorem Blk.alloc (h : Blk w g t cs) (o : Obj) : Blk (w.alloc o) g t cs := (Below.heap_alloc w o g h.lt).trans h
theorem Blk.set_ (h : Blk w g t cs) (i : Nat) (u : Value) : Blk (w.setCell ⟨g, i, none⟩ u) g t (cs.setIfInBounds i u) := by
  unfold Blk at h ⊢
  simp [World.setCell, Array.getElem?_modify, h]
theorem Blk.far (h : Blk w g t cs) {p : Addr} (hp : g ≠ p.block) (u : Value) : Blk (w.setCell p u) g t cs := (Below.heap_setCell w p u g hp).trans h
theorem Blk.below {B : Nat} (h : Blk w g t cs) (hb : Below B w w') (hg : g < B) : Blk w' g t cs := (hb.block g hg).trans h
theorem Blk.grown {row : Option Nat} (h : Blk w g t cs) (hb : w.grownBy w' row) (hg : some g ≠ row) : Blk w' g t cs := (hb.block g h.lt hg).trans h
theorem Blk.ne_ {g' : Nat} {t' : TypeId} {cs' : Array Value} (h : Blk w g t cs) (h' : Blk w g' t' cs') (hne : t ≠ t') : g ≠ g' := by
  rintro rfl
  unfold Blk at h h'
  rw [h] at h'
  injection h' with h'
  injection h' with _ ht
  exact hne ht
theorem own_blk_ne {base : Nat} {e : TypeId} {size n : Nat} {v : Value} {xs : List Value} (h : w.ownsRow base e size v n xs) (hg : Blk w g t cs) (hne : e ≠ t) : v.ownBlock ≠ some g := by
  rcases h.2 with ⟨rfl, _⟩ | ⟨g', cap, cur, rfl, _, hh, _⟩
  · simp [Value.ownBlock]
  · intro he
    have : g' = g := by simpa [Value.ownBlock] using he
    subst this
    exact Blk.ne_ (t := e) hh hg hne rfl
end

section
variable {P : Program} (w : World)

theorem run_append_of_nil (base : Nat) (t ty e : TypeId) (i : TypeInfo) (size : Nat) (ht : P.underlying t = some (.slice e)) (hi : P.info? e = some i)
    (v : Value) (n : Nat) (xs : List Value) (hown : w.ownsRow base e size v n xs) (c : Nat) : (Builtin.append_ #[t, t] ty #[v, .slice none 0 c]).run P w = .ok v w := by
  rcases hown.2 with ⟨rfl, rfl⟩ | ⟨g, cap, cur, rfl, _, _, hnc, _⟩
  · simp [Builtin.append_, run_underlying ht, sizeOf, typeInfo, hi, Builtin.lenOf, Builtin.firstCells]
  · simp [Builtin.append_, run_underlying ht, sizeOf, typeInfo, hi, Builtin.lenOf, Builtin.firstCells, hnc, storeCells]

theorem run_append_any (base : Nat) (t ty e : TypeId) (i : TypeInfo) (z : Value) (size bytes : Nat) (ht : P.underlying t = some (.slice e)) (hi : P.info? e = some i) (hz : i.zero = some z)
    (hsize : i.size = size) (hby : i.bytes = bytes) (hzs : z.cells.size = size) (hsz : 0 < size)
    (v : Value) (n : Nat) (xs : List Value) (hown : w.ownsRow base e size v n xs)
    (B : Nat) (A : Option Addr) (m c : Nat) (news : List Value) (hr : Reads w B size A m news) (h1 : ∀ u ∈ news, u.oneCell' = true)
    (h63 : n + m ≤ maxLen) (hbytes : (n + m) * bytes ≤ 140737488355328) (hbase : base ≤ w.heap.size) :
    ∃ v' w', (Builtin.append_ #[t, t] ty #[v, .slice A m c]).run P w = .ok v' w' ∧ w'.ownsRow base e size v' (n + m) (xs ++ news) ∧ w.grownBy w' v.ownBlock ∧
      (v'.ownBlock = v.ownBlock ∨ v'.ownBlock = some w.heap.size) := by
  rcases A with _ | ad
  · have hm : m = 0 := by
      rcases Nat.eq_zero_or_pos m with h0 | h0
      · exact h0
      · obtain ⟨ad, h, _⟩ := hr.2 h0
        cases h
    subst hm
    have hn : news = [] := List.eq_nil_of_length_eq_zero (by simpa using hr.1)
    subst hn
    exact ⟨v, w, run_append_of_nil w base t ty e i size ht hi v n xs hown c, by simpa using hown, World.grownBy.refl w _, .inl rfl⟩
  · have hcells : ∀ j u, news[j]? = some u → w.cell? (ad.add j) = some u := by
      intro j u hu
      rcases Nat.eq_zero_or_pos m with h0 | h0
      · subst h0
        have hn : news = [] := List.eq_nil_of_length_eq_zero (by simpa using hr.1)
        subst hn
        simp at hu
      · obtain ⟨ad', h, _, hc⟩ := hr.2 h0
        injection h with h
        subst h
        exact hc j u hu
    obtain ⟨v', w', hrun, h2, h3, _, h5⟩ := run_append_own_at (P := P) w base t ty e i z size bytes ht hi hz hsize hby hzs hsz v n xs hown ad m c news hr.1 hcells h1 h63 hbytes hbase
    exact ⟨v', w', hrun, h2, h3, h5⟩

theorem wp_append_any {o : Oper} {a : Act} {K : Act → World → Prop} {Q : Exit → Act → World → Prop} (s x : Operand) (t : TypeId)
    (ho : o.op = .call { callee := .builtin .append, args := #[s, x], argTypes := #[t, t] })
    (base : Nat) (e : TypeId) (i : TypeInfo) (z : Value) (size bytes : Nat) (ht : P.underlying t = some (.slice e)) (hi : P.info? e = some i) (hz : i.zero = some z)
    (hsize : i.size = size) (hby : i.bytes = bytes) (hzs : z.cells.size = size) (hsz : 0 < size)
    (v : Value) (n : Nat) (xs : List Value) (hs : a.eval s = v) (hown : w.ownsRow base e size v n xs)
    (B : Nat) (A : Option Addr) (m c : Nat) (news : List Value) (hx : a.eval x = .slice A m c) (hr : Reads w B size A m news) (h1 : ∀ u ∈ news, u.oneCell' = true)
    (h63 : n + m ≤ maxLen) (hbytes : (n + m) * bytes ≤ 140737488355328) (hbase : base ≤ w.heap.size)
    (h : ∀ v' w', w'.ownsRow base e size v' (n + m) (xs ++ news) → w.grownBy w' v.ownBlock → (v'.ownBlock = v.ownBlock ∨ v'.ownBlock = some w.heap.size) → K (a.put o.dst v') w') : o.wp P a w K Q := by
  obtain ⟨v', w', hrun, h2, h3, h4⟩ := run_append_any (P := P) w base t o.type e i z size bytes ht hi hz hsize hby hzs hsz v n xs hown B A m c news hr h1 h63 hbytes hbase
  unfold Oper.wp execOp
  simp only [ho, resolve, invoke, builtin, Sem.run_bind, Sem.run_pure, Result.andThen_ok, List.map_toArray, List.map_cons, List.map_nil, hs, hx, hrun]
  exact h v' w' h2 h3 h4

theorem wpList_append_any {ops : Array Oper} {rest : List Oper} {o : Oper} {a : Act} {Q : Exit → Act → World → Prop} (hgd : o.guard = none) (s x : Operand) (t : TypeId)
    (ho : o.op = .call { callee := .builtin .append, args := #[s, x], argTypes := #[t, t] })
    (base : Nat) (e : TypeId) (i : TypeInfo) (z : Value) (size bytes : Nat) (ht : P.underlying t = some (.slice e)) (hi : P.info? e = some i) (hz : i.zero = some z)
    (hsize : i.size = size) (hby : i.bytes = bytes) (hzs : z.cells.size = size) (hsz : 0 < size)
    (v : Value) (n : Nat) (xs : List Value) (hs : a.eval s = v) (hown : w.ownsRow base e size v n xs)
    (B : Nat) (A : Option Addr) (m c : Nat) (news : List Value) (hx : a.eval x = .slice A m c) (hr : Reads w B size A m news) (h1 : ∀ u ∈ news, u.oneCell' = true)
    (h63 : n + m ≤ maxLen) (hbytes : (n + m) * bytes ≤ 140737488355328) (hbase : base ≤ w.heap.size)
    (h : ∀ v' w', w'.ownsRow base e size v' (n + m) (xs ++ news) → w.grownBy w' v.ownBlock → (v'.ownBlock = v.ownBlock ∨ v'.ownBlock = some w.heap.size) → wpList P ops Q rest (a.put o.dst v') w') : wpList P ops Q (o :: rest) a w :=
  wpList_plain hgd fun _ hK => wp_append_any w s x t ho base e i z size bytes ht hi hz hsize hby hzs hsz v n xs hs hown B A m c news hx hr h1 h63 hbytes hbase fun v' w' h2 h3 h4 => hK _ _ (h v' w' h2 h3 h4)

theorem step_append_any {ops : Array Oper} {o : Oper} {a : Act} {K : Act → World → Prop} {Q : Exit → Act → World → Prop} {E : Prop} (hgd : o.guard = none) (s x : Operand) (t : TypeId)
    (ho : o.op = .call { callee := .builtin .append, args := #[s, x], argTypes := #[t, t] })
    (base : Nat) (e : TypeId) (i : TypeInfo) (z : Value) (size bytes : Nat) (ht : P.underlying t = some (.slice e)) (hi : P.info? e = some i) (hz : i.zero = some z)
    (hsize : i.size = size) (hby : i.bytes = bytes) (hzs : z.cells.size = size) (hsz : 0 < size)
    (v : Value) (n : Nat) (xs : List Value) (hs : a.eval s = v) (hown : w.ownsRow base e size v n xs)
    (B : Nat) (A : Option Addr) (m c : Nat) (news : List Value) (hx : a.eval x = .slice A m c) (hr : Reads w B size A m news) (h1 : ∀ u ∈ news, u.oneCell' = true)
    (h63 : n + m ≤ maxLen) (hbytes : (n + m) * bytes ≤ 140737488355328) (hbase : base ≤ w.heap.size)
    (h : ∀ v' w', w'.ownsRow base e size v' (n + m) (xs ++ news) → w.grownBy w' v.ownBlock → (v'.ownBlock = v.ownBlock ∨ v'.ownBlock = some w.heap.size) → K (a.put o.dst v') w') :
    if Region.wanted o (yielded ops a.tmps) = true then Oper.wp P o a w K Q else E := by
  have hw : Region.wanted o (yielded ops a.tmps) = true := by simp [Region.wanted, hgd]
  rw [if_pos hw]
  exact wp_append_any w s x t ho base e i z size bytes ht hi hz hsize hby hzs hsz v n xs hs hown B A m c news hx hr h1 h63 hbytes hbase h
end

end Go.Proofs.YtcgnbpjbpbabaaaGreatDoor
end

section
namespace Go.Proofs.YtcgnbpjbpbabaaaGreatDoor
open Go.RowKit



theorem below_drewN {B : Nat} {a w : World} (h : Below B a w) (n : Nat) : Below B a (w.drewN n) := ⟨h.os, h.tape, h.output, h.size, h.block⟩

/-- the slice value at A of length n reads as the texts l -/
def Strs (w : World) (A : Option Addr) (n : Nat) (l : List ByteArray) : Prop :=
  l.length = n ∧ n ≤ 9223372036854775807 ∧ (∀ s ∈ l, s.size ≤ 4611686018427387904) ∧ (0 < n → ∃ ad, A = some ad ∧ ∀ j (_ : j < l.length), w.cell? (ad.add j) = some (.string l[j]))

theorem Strs.at_ {w : World} {A : Option Addr} {n k : Nat} {l : List ByteArray} (h : Strs w A n l) (hk : k < n) : ∃ ad s, A = some ad ∧ l[k]? = some s ∧ w.cell? (ad.add k) = some (.string s) ∧ s.size ≤ 4611686018427387904 := by
  obtain ⟨ad, e, hc⟩ := h.2.2.2 (by omega)
  have hl : k < l.length := by have := h.1; omega
  exact ⟨ad, l[k], e, List.getElem?_eq_getElem hl, hc k hl, h.2.2.1 _ (List.getElem_mem hl)⟩
theorem Strs.below {w w' : World} {A : Option Addr} {n : Nat} {l : List ByteArray} (h : Strs w A n l) (hb : Below w.heap.size w w') : Strs w' A n l :=
  ⟨h.1, h.2.1, h.2.2.1, fun hn => by
    obtain ⟨ad, e, hc⟩ := h.2.2.2 hn
    exact ⟨ad, e, fun j hj => (hb.cell (World.block_lt_of_cell? w _ (hc j hj))).trans (hc j hj)⟩⟩

/-- do they rise? -/
def sortedB : List ByteArray → Bool
  | [] => true
  | [_] => true
  | a :: b :: r => Op.bytesLess a.toList b.toList && sortedB (b :: r)

theorem sortedB_iff : ∀ l : List ByteArray, sortedB l = true ↔ ∀ i s t, l[i]? = some s → l[i + 1]? = some t → Op.bytesLess s.toList t.toList = true
  | [] => by simp [sortedB]
  | [_] => by simp [sortedB]
  | a :: b :: r => by
    rw [sortedB, Bool.and_eq_true, sortedB_iff (b :: r)]
    constructor
    · rintro ⟨h0, h1⟩ i s t hs ht
      cases i with
      | zero =>
        simp at hs ht
        subst hs; subst ht
        exact h0
      | succ i => exact h1 i s t (by simpa using hs) (by simpa using ht)
    · intro h
      exact ⟨h 0 a b rfl rfl, fun i s t hs ht => h (i + 1) s t (by simpa using hs) (by simpa using ht)⟩

set_option maxHeartbeats 400000 in
theorem sorted_any (A : Option Addr) (n c : Nat) (l : List ByteArray) (w : World) (h : Strs w A n l) :
    Calls Tryz.prog 44 #[.slice A n c] w fun e w' => e = .returned (.bool (sortedB l)) ∧ Below w.heap.size w w' := by
  have hn := h.2.1
  go_enter Tryz.func44, Tryz.ntmps44
  go_wp2
  go_loopw [3, 6] (fun _ v w' => ∃ k : Nat, v = .int .i64 k ∧ k ≤ n ∧ Below w.heap.size w w' ∧ Strs w' A n l ∧ (∀ i s t, l[i]? = some s → l[i + 1]? = some t → i + 1 < k → Op.bytesLess s.toList t.toList = true)) (fun _ v _ => n - (intOf v).toNat)
  case atStart => exact ⟨0, rfl, by omega, Below.refl _ _, h, fun _ _ _ _ _ => by omega⟩
  case round =>
    obtain ⟨k, rfl, hk, hbw, hS, hs⟩ := hrel
    have Hs := Lib.hid hs
    clear hs
    by_cases hlt : k < n
    · obtain ⟨ad, s, rfl, hsk, hc, hss⟩ := hS.at_ hlt
      by_cases h0 : 0 < k
      · obtain ⟨ad', s', e, hsk', hc', hss'⟩ := hS.at_ (k := k - 1) (by omega)
        cases e
        have i1 : (0 : Int) < (k : Int) := by omega
        have i1' : (1 : Int) ≤ (k : Int) := by omega
        have i2 : (k : Int) < (n : Int) := by omega
        have i3 : (0 : Int) ≤ (k : Int) - 1 := by omega
        have i4 : (k : Int) - 1 < (n : Int) := by omega
        have e1 : IntKind.i64.wrap ((k : Int) - 1) = (k : Int) - 1 := IntWalk.i64_in _ (by omega)
        have e2 : ((k : Int) - 1).toNat = k - 1 := by omega
        go_wp2_with fail
        go_quiet (fail)
        clear e1 e2
        go_wp2
        · go_ret
          refine ⟨?_, below_drewN hbw nq⟩
          have hf : (!Op.bytesLess s'.toList s.toList) = true := by assumption
          cases hb : sortedB l
          · rfl
          · rw [(sortedB_iff l).1 hb (k - 1) s' s hsk' (by rw [show k - 1 + 1 = k by omega]; exact hsk)] at hf
            cases hf
        · have hf : (!Op.bytesLess s'.toList s.toList) = false := by assumption
          refine ⟨⟨k + 1, by go_num, by omega, below_drewN hbw nq, hS, ?_⟩, by simp [intOf]; omega⟩
          intro i s1 t1 h1 h2 hik
          by_cases hik' : i + 1 < k
          · exact Hs.out i s1 t1 h1 h2 hik'
          · obtain rfl : i = k - 1 := by omega
            rw [show k - 1 + 1 = k by omega, hsk] at h2
            rw [hsk'] at h1
            cases h1; cases h2
            simpa using hf
      · obtain rfl : k = 0 := by omega
        go_wp2_with fail
        go_quiet (fail)
        go_wp2
        exact ⟨⟨1, rfl, by omega, below_drewN hbw nq, hS, fun _ _ _ _ _ => by omega⟩, by simp [intOf]; omega⟩
    · go_wp2
      go_ret
      refine ⟨?_, hbw⟩
      rw [(sortedB_iff l).2 fun i s t h1 h2 => Hs.out i s t h1 h2 (by have := (List.getElem?_eq_some_iff.1 h2).1; have := hS.1; omega)]
      rfl

/-- are lists the same? -/
def sameB (a b : List ByteArray) : Bool := a.map (·.toList) == b.map (·.toList)

theorem sameB_false {a b : List ByteArray} (k : Nat) (s t : ByteArray) (hs : a[k]? = some s) (ht : b[k]? = some t) (h : (s.toList == t.toList) = false) : sameB a b = false := by
  cases hb : sameB a b
  · rfl
  · simp only [sameB, beq_iff_eq] at hb
    have := congrArg (fun l => l[k]?) hb
    simp only [List.getElem?_map, hs, ht, Option.map_some, Option.some.injEq] at this
    rw [this] at h
    simp at h

set_option maxHeartbeats 400000 in
/-- how much texts have in them, counted with an early end -/
def sizeGo (acc : Nat) : List ByteArray → Nat
  | [] => acc
  | s :: r => if acc ≤ 1048576 then sizeGo (acc + s.size) r else acc
theorem sizeGo_stop (acc : Nat) (l : List ByteArray) (h : ¬ acc ≤ 1048576) : sizeGo acc l = acc := by
  cases l <;> simp [sizeGo, h]
def textsSize (l : List ByteArray) : Nat := sizeGo l.length l

set_option maxHeartbeats 400000 in
theorem textsSize_any (A : Option Addr) (n c : Nat) (l : List ByteArray) (w : World) (h : Strs w A n l) :
    Calls Tryz.prog 16 #[.slice A n c] w fun e w' => e = .returned (.int .i64 (textsSize l)) ∧ Below w.heap.size w w' := by
  have hn := h.2.1
  go_enter Tryz.func16, Tryz.ntmps16
  go_wp2
  go_loopw [3, 4] (fun a v w' => ∃ k m : Nat, v = .int .i64 k ∧ a = .int .i64 m ∧ k ≤ n ∧ m ≤ 9223372036854775807 ∧ Below w.heap.size w w' ∧ Strs w' A n l ∧ sizeGo m (l.drop k) = textsSize l) (fun _ v _ => n - (intOf v).toNat)
  case atStart => exact ⟨0, n, rfl, rfl, by omega, by omega, Below.refl _ _, h, by rw [← h.1]; rfl⟩
  case round =>
    obtain ⟨k, m, rfl, rfl, hk, hm, hbw, hS, hs⟩ := hrel
    have Hs := Lib.hid hs
    clear hs
    by_cases hlt : k < n
    · by_cases hmost : m ≤ 1048576
      · obtain ⟨ad, t, rfl, hsk, hc, hss⟩ := hS.at_ hlt
        have hd : sizeGo m (l.drop k) = sizeGo (m + t.size) (l.drop (k + 1)) := by
          rw [List.drop_eq_getElem_cons (by have := hS.1; omega), List.getElem?_eq_some_iff.1 hsk |>.2]
          simp [sizeGo, hmost]
        have Hd := Lib.hid hd
        clear hd
        have i2 : (k : Int) < (n : Int) := by omega
        have i3 : (m : Int) ≤ 1048576 := by omega
        go_wp2
        refine ⟨⟨k + 1, m + t.size, by go_num, by go_num, by omega, by omega, hbw, hS, ?_⟩, by simp [intOf]; omega⟩
        rw [← Hs.out, Hd.out]
      · have i2 : (k : Int) < (n : Int) := by omega
        have i3 : (1048576 : Int) < (m : Int) := by omega
        go_wp2
        go_ret
        refine ⟨?_, hbw⟩
        rw [← Hs.out, sizeGo_stop _ _ hmost]
        rfl
    · go_wp2
      go_ret
      refine ⟨?_, hbw⟩
      rw [← Hs.out, List.drop_eq_nil_of_le (by have := hS.1; omega)]
      rfl

end Go.Proofs.YtcgnbpjbpbabaaaGreatDoor
end

section
set_option linter.unusedVariables false
set_option linter.unusedSimpArgs false
namespace Go.Proofs.YtcgnbpjbpbabaaaGreatDoor
open Go.ChangeShapes Go.WideShapes Go.ChangeAt Go.RowKit

theorem weights_all {H : Type} {P : Program} {e : TypeId} {ds : List (DataW H)} {d : DataW H} (hd : d ∈ ds) : ∀ n ∈ d.weights P e, n ∈ DataW.weightsAll P e ds := by
  intro n hn
  induction ds with
  | nil => simp at hd
  | cons a r ih =>
    simp only [DataW.weightsAll, List.mem_append]
    rcases List.mem_cons.1 hd with rfl | hd
    · exact .inl hn
    · exact .inr (ih hd)

theorem open_texts {H : Type} {enc : TypeId × Value → H} {P : Program} {w : World} {r : Reach} {b0 : Nat} {t e : TypeId} {v : Value} {d : DataW H} {ps : List MemPlace} (ht : P.underlying t = some (.slice e)) (he : P.underlying e = some .string) (hc : P.cellsOf e = 1) (hby : P.bytesOf e = 16)
    (hval : Value.okWide P w r b0 t v) (h : DataW.Trod enc P w 0 (fun _ => true) true t v d ps) (hsz : ∀ n ∈ d.weights P t, n ≤ reachBytes) :
    ∃ A n c l, v = .slice A n c ∧ Strs w A n l ∧ n ≤ c ∧ c * 16 ≤ 140737488351232 ∧ ∀ s ∈ l, s.size ≤ 140737488351232 := by
  obtain ⟨A, n, c, rfl⟩ := okWide_slice ht hval
  obtain ⟨fuel, hf⟩ := h
  rcases open_strings ht he hc hf with ⟨hcs, _⟩ | ⟨a, len, cap, ss, hcs, _, hl, hm, hlen, hx, hcell, hw⟩
  · simp [Value.cells] at hcs
    obtain ⟨rfl, rfl, rfl⟩ := hcs
    exact ⟨none, 0, 0, [], rfl, ⟨rfl, by omega, by simp, fun h => absurd h (by omega)⟩, by omega, by omega, by simp⟩
  · simp [Value.cells] at hcs
    obtain ⟨rfl, rfl, rfl⟩ := hcs
    simp only [if_true] at hlen
    simp only [Prod.mk.injEq] at hx
    obtain ⟨rfl, rfl⟩ := hx
    have hcap : c * 16 ≤ 140737488351232 := by
      have := hsz ((c : Nat) * 16) (by
        simp only [DataW.weights, ht, hby, List.mem_cons]
        left
        simp [strs]
        omega)
      simpa [reachBytes] using this
    have hstr : ∀ s ∈ ss.take n, s.size ≤ 140737488351232 := by
      intro s hs
      have := hsz s.size (by
        simp only [DataW.weights, ht, List.mem_cons, List.mem_append]
        right; left
        refine weights_all (d := .lit (.string s.data.toList)) ?_ _ (by simp [DataW.weights])
        exact List.mem_map.2 ⟨s, hs, rfl⟩)
      simpa [reachBytes] using this
    refine ⟨some a, n, c, ss.take n, rfl, ⟨by simp; omega, by omega, fun s hs => by have := hstr s hs; omega, fun _ => ⟨a, rfl, fun j hj => ?_⟩⟩, hl, hcap, hstr⟩
    have hj' : j < n := by simp at hj; omega
    rw [hcell j (by omega)]
    simp [List.getD, show j < ss.length by omega]
end Go.Proofs.YtcgnbpjbpbabaaaGreatDoor
end
