/- Texts, part D: Sort. -/
import Derived.Test.YtjinhkdncenhdaaGreatDoorTextsC
import Derived.Test.YtjinhkdncenhdaaGreatDoorShelf
import Derived.Sort.OwnSorted
namespace Go.Proofs.YtjinhkdncenhdaaGreatDoor
open Go.RowKit Go.Sort

set_option maxHeartbeats 400000 in
theorem clip_any (A : Option Addr) (n c : Nat) (w : World) (h : n ≤ c) :
    Calls Tryz.prog 21 #[.slice A n c] w fun e w' => e = .returned (.slice A n n) ∧ w' = w := by
  go_enter Tryz.func21, Tryz.ntmps21
  go_wp2
  go_ret
  exact ⟨rfl, rfl⟩

/-- a text as its bytes, and back -/
def ofB (b : List UInt8) : ByteArray := ⟨b.toArray⟩
theorem ofB_data (s : ByteArray) : ofB s.data.toList = s := by simp [ofB]
theorem data_ofB (b : List UInt8) : (ofB b).data.toList = b := by simp [ofB]

/-- sorted, each once: of bytes -/
def sortL (l : List (List UInt8)) : List (List UInt8) := Lib.compact (l.mergeSort fun x y => decide (x ≤ y))
/-- sorted, each once: of texts -/
def sortT (l : List ByteArray) : List ByteArray := (sortL (l.map fun s => s.data.toList)).map ofB

theorem spot_of_cell {w : World} {a : Addr} {v : Value} (h : w.cell? a = some v) : a = ⟨a.block, a.off, none⟩ := by
  obtain ⟨b, o, sp⟩ := a
  cases sp with
  | none => rfl
  | some k =>
    unfold World.cell? at h
    split at h <;> simp at h

theorem add_lit (b o j : Nat) : (⟨b, o, none⟩ : Addr).add j = ⟨b, o + j, none⟩ := by
  unfold Addr.add
  split
  · subst_vars; simp
  · rfl

/-- what the call owns: nil, or a row of its own whose capacity is its length -/
def OwnRow (w : World) (B : Nat) (A : Option Addr) (n c : Nat) : Prop :=
  (A = none ∧ n = 0 ∧ c = 0) ∨ ∃ g cur, A = some ⟨g, 0, none⟩ ∧ B ≤ g ∧ w.heap[g]? = some (.cells cur 9 (0, 0)) ∧ c ≤ cur.size ∧ n ≤ c

theorem strs_of_block {w : World} {g : Nat} {cur : Array Value} {l : List (List UInt8)} {e : TypeId} (hb : w.heap[g]? = some (.cells cur e (0, 0))) (ht : cur.toList.take l.length = l.map encStr)
    (hl : l.length ≤ 9223372036854775807) (hs : ∀ s ∈ l, s.length ≤ 4611686018427387904) : Strs w (some ⟨g, 0, none⟩) l.length (l.map ofB) := by
  refine ⟨by simp, hl, ?_, fun _ => ⟨_, rfl, ?_⟩⟩
  · intro s hs'
    obtain ⟨b, hb', rfl⟩ := List.mem_map.1 hs'
    have := hs b hb'
    simpa [ofB, ByteArray.size] using this
  · intro j hj
    have hj' : j < l.length := by simpa using hj
    have h1 : (cur.toList.take l.length)[j]? = (l.map encStr)[j]? := by rw [ht]
    rw [List.getElem?_take_of_lt hj'] at h1
    rw [add_lit, Nat.zero_add]
    simp only [World.cell?, hb, Option.isSome_none, Bool.false_eq_true, if_false]
    rw [← Array.getElem?_toList, h1]
    simp [hj', ofB, encStr]

theorem compact_length (zs : List (List UInt8)) : (Lib.compact zs).length ≤ zs.length := by
  unfold Lib.compact Lib.compactUpTo
  rw [List.length_map]
  exact Nat.le_trans (List.length_filter_le _ _) (by simp)
theorem compact_mem {zs : List (List UInt8)} {x : List UInt8} (h : x ∈ Lib.compact zs) : x ∈ zs := by
  unfold Lib.compact Lib.compactUpTo at h
  obtain ⟨j, hj, rfl⟩ := List.mem_map.1 h
  have hj' := List.mem_range.1 (List.mem_filter.1 hj).1
  rw [getElem!_pos _ j (by simpa using hj')]
  simp

theorem grow_none (w : World) : grow w #[] = w := by
  unfold grow
  rw [Array.append_empty]

theorem sortT_nil : sortT [] = [] := by simp [sortT, sortL, Lib.compact, Lib.compactUpTo]

set_option maxHeartbeats 1000000 in
theorem sort_any (A : Option Addr) (n c : Nat) (l : List ByteArray) (w : World) (h : Strs w A n l) (hbig : n * 16 ≤ 140737488355328) :
    Calls Tryz.prog 6 #[.slice A n c] w fun e w' => ∃ A' m, e = .returned (.slice A' m m) ∧ Strs w' A' m (sortT l) ∧ OwnRow w' w.heap.size A' m m ∧ Below w.heap.size w w' := by
  rcases Nat.eq_zero_or_pos n with rfl | hn
  · obtain rfl : l = [] := List.eq_nil_of_length_eq_zero h.1
    cases A with
    | none =>
      go_enter Tryz.func6, Tryz.ntmps6
      go_wp2_with (first
        | (go_at_call 19; refine (Tryz.slices_Clone_string_nil _ _ _).mono ?_; rintro e w' ⟨rfl, rfl⟩)
        | (go_at_call 20; refine (Tryz.slices_Sort_string_none _ _ _).mono ?_; rintro e w' ⟨rfl, rfl⟩)
        | (go_at_call 22; refine (Tryz.slices_Compact_string_empty _ _ _).mono ?_; rintro e w' ⟨rfl, rfl⟩)
        | (go_at_call 21; refine (clip_any _ _ _ _ (Nat.le_refl _)).mono ?_; rintro e w' ⟨rfl, rfl⟩))
      go_ret
      exact ⟨none, 0, rfl, ⟨by rw [sortT_nil]; rfl, by omega, by simp [sortT_nil], by omega⟩, .inl ⟨rfl, rfl, rfl⟩, Below.refl _ _⟩
    | some a =>
      go_enter Tryz.func6, Tryz.ntmps6
      go_wp2_with fail
      refine (Tryz.slices_Clone_string_zero _ _ _).mono ?_
      rintro e w1 ⟨v', rfl, hown, hnn, hb1⟩
      rcases hown.2 with ⟨hnil, _⟩ | ⟨g, cap, cur, rfl, hbase, hb, k1, k2, k3, k4⟩
      · exact absurd hnil hnn
      · go_wp2_with (first
          | (go_at_call 20; refine (Tryz.slices_Sort_string_none _ _ _).mono ?_; rintro e w' ⟨rfl, rfl⟩)
          | (go_at_call 22; refine (Tryz.slices_Compact_string_empty _ _ _).mono ?_; rintro e w' ⟨rfl, rfl⟩)
          | (go_at_call 21; refine (clip_any _ _ _ _ (Nat.zero_le _)).mono ?_; rintro e w' ⟨rfl, rfl⟩))
        go_ret
        exact ⟨_, 0, rfl, ⟨by rw [sortT_nil]; rfl, by omega, by simp [sortT_nil], by omega⟩, .inr ⟨g, cur, rfl, hbase, hb, by omega, by omega⟩, hb1⟩
  · obtain ⟨ad, rfl, hc⟩ := h.2.2.2 hn
    have hl := h.1
    have hc0 := hc 0 (by omega)
    have had : ad = ⟨ad.block, ad.off, none⟩ := by
      have := spot_of_cell hc0
      simpa [Addr.add] using this
    obtain ⟨b, o, sp⟩ := ad
    simp only [Addr.mk.injEq, true_and] at had
    subst had
    obtain ⟨ss, hss⟩ : ∃ ss : List (List UInt8), l.map (fun s => s.data.toList) = ss := ⟨_, rfl⟩
    have hsl : ss.length = n := by rw [← hss]; simpa using hl
    have hle : ∀ s ∈ ss, s.length ≤ 4611686018427387904 := by
      intro s hs
      rw [← hss] at hs
      obtain ⟨t, ht, rfl⟩ := List.mem_map.1 hs
      simpa using h.2.2.1 t ht
    have hcl := Tryz.slices_Clone_string b o n c l w (by omega) hbig (fun j hj => by
      have := hc j hj
      rw [add_lit] at this
      rw [this]
      simp [List.getD, List.getElem?_eq_getElem hj])
    have hmap : (l.take n).map Value.string = ss.map encStr := by
      rw [← hss, List.take_of_length_le (by omega), List.map_map]
      apply List.map_congr_left
      intro s _
      simp [encStr]
    rw [hmap] at hcl
    have hsort : sortT l = (Lib.compact (ss.mergeSort fun x y => decide (x ≤ y))).map ofB := by rw [sortT, sortL, hss]
    have Hsort := Lib.hid hsort
    clear hsort hmap hss hc hc0 hl
    subst hsl
    go_enter Tryz.func6, Tryz.ntmps6
    go_wp2_with fail
    refine hcl.mono ?_
    clear hcl
    rintro e w1 ⟨v', rfl, hown, hnn, hb1⟩
    rcases hown.2 with ⟨hnil, _⟩ | ⟨g, cap, cur, rfl, hbase, hb, k1, k2, k3, k4⟩
    · exact absurd hnil hnn
    · have hlen : (ss.mergeSort fun x y => decide (x ≤ y)).length = ss.length := by simp
      have hsc := Tryz.slices_Sort_string g 0 cap ss w1 (holds_of_block hb (by simpa using k4)) (Array.getElem?_eq_some_iff.1 hb).1 (by omega)
      obtain ⟨ts, hts⟩ : ∃ ts, (ss.mergeSort fun x y => decide (x ≤ y)) = ts := ⟨_, rfl⟩
      have hlt : ∀ s ∈ ts, s.length ≤ 4611686018427387904 := fun s hs => hle s (by rw [← hts] at hs; exact (List.mem_mergeSort).1 hs)
      rw [hts] at hlen hsc
      rw [hts] at Hsort
      clear hts
      go_wp2_with fail
      refine hsc.mono ?_
      clear hsc
      rintro e w2 ⟨rfl, q, os, rfl⟩
      have hb2 := heap_sorted (n := q) (os := os) ts.toArray hb
      have ht2 := take_putCells cur ts (by omega)
      have hg2 := grownBy_sorted (w := w1) (g := g) (n := q) (os := os) ts.toArray
      have hbe := hb1.grown hg2 hb1.size (fun k hk => by cases hk; exact hbase)
      obtain ⟨w2, hw2⟩ : ∃ w2, grow (putRow encStr (Sort.ahead w1 q) g 0 ts.toArray) os = w2 := ⟨_, rfl⟩
      rw [hw2] at hb2 hg2 hbe ⊢
      clear hw2
      have hcc := Tryz.slices_Compact_string g 0 cap ts w2 (holds_of_block hb2 ht2) (by omega) (by omega)
      rw [hlen] at hcc
      go_wp2_with fail
      refine hcc.mono ?_
      clear hcc
      rintro e w3 ⟨rfl, q3, rfl⟩
      have hcl3 := compact_length ts
      have hcm : ∀ s ∈ Lib.compact ts, s.length ≤ 4611686018427387904 := fun s hs => hlt s (compact_mem hs)
      obtain ⟨us, hus⟩ : ∃ us, Lib.compact ts = us := ⟨_, rfl⟩
      rw [hus] at hcl3 hcm Hsort ⊢
      clear hus
      obtain ⟨vs, hvs⟩ : ∃ vs, us ++ List.replicate (ss.length - us.length) [] = vs := ⟨_, rfl⟩
      have hvl : vs.length = ts.length := by rw [← hvs]; simp; omega
      have hvt : vs.take us.length = us := by rw [← hvs]; simp
      rw [hvs]
      clear hvs
      rw [show putRow encStr (Sort.ahead w2 q3) g 0 vs.toArray = grow (putRow encStr (Sort.ahead w2 q3) g 0 vs.toArray) #[] from (grow_none _).symm]
      have hs2 : (putCells encStr 0 ts.toArray cur).size = cap := by simp [putCells]; omega
      have hb3 := heap_sorted (n := q3) (os := #[]) vs.toArray hb2
      have ht3 := take_putCells (putCells encStr 0 ts.toArray cur) vs (by omega)
      have hg3 := grownBy_sorted (w := w2) (g := g) (n := q3) (os := #[]) vs.toArray
      have hbf := hbe.grown hg3 hbe.size (fun k hk => by cases hk; exact hbase)
      have hs3 : (putCells encStr 0 vs.toArray (putCells encStr 0 ts.toArray cur)).size = cap := by simp [putCells]; simpa [putCells] using hs2
      obtain ⟨w3, hw3⟩ : ∃ w3, grow (putRow encStr (Sort.ahead w2 q3) g 0 vs.toArray) #[] = w3 := ⟨_, rfl⟩
      obtain ⟨cur3, hcur3⟩ : ∃ cur3, putCells encStr 0 vs.toArray (putCells encStr 0 ts.toArray cur) = cur3 := ⟨_, rfl⟩
      rw [hw3] at hb3 hbf ⊢
      rw [hcur3] at hb3 ht3 hs3
      clear hw3 hcur3 hg3 hs2 hb2 ht2
      have ht4 : cur3.toList.take us.length = us.map encStr := by
        have := congrArg (List.take us.length) ht3
        rw [List.take_take, Nat.min_eq_left (by omega), ← List.map_take, hvt] at this
        exact this
      have hst := strs_of_block hb3 ht4 (by omega) hcm
      have H4 := Lib.hid ht4
      have H3 := Lib.hid ht3
      have Hs3 := Lib.hid hs3
      have Hv := Lib.hid hvl
      have Hvt := Lib.hid hvt
      have Hl := Lib.hid hlen
      clear ht4 ht3 hs3 hvl hvt hlen k3 k4
      go_wp2_with (go_at_call 21; refine (clip_any _ _ _ _ (by have := Hl.out; omega)).mono ?_; rintro e w' ⟨rfl, rfl⟩)
      go_ret
      exact ⟨_, us.length, rfl, by rw [Hsort.out]; exact hst, .inr ⟨g, cur3, rfl, hbase, hb3, by have := Hs3.out; have := Hl.out; omega, by omega⟩, hbf⟩
end Go.Proofs.YtjinhkdncenhdaaGreatDoor
