/- Texts, the plain laws: what sorting gives, and where one stands. No program in sight but its words. -/
import Derived.Test.YtjinhkdncenhdaaGreatDoorTextsE
set_option linter.unusedVariables false
set_option linter.unusedSimpArgs false
namespace Go.Proofs.YtjinhkdncenhdaaGreatDoor
open Go.RowKit Go.Sort

/-! ### Lists of bytes that rise -/
theorem lt_or_eq_of_le {a b : List UInt8} (h : a ≤ b) : a < b ∨ a = b := by
  by_cases hb : b ≤ a
  · exact .inr (List.le_antisymm h hb)
  · exact .inl (List.not_le.1 hb)
theorem le_of_lt {a b : List UInt8} (h : a < b) : a ≤ b := List.not_lt.1 (fun k => List.lt_irrefl a (List.lt_trans h k))
theorem lt_of_le_of_lt {a b c : List UInt8} (h : a ≤ b) (k : b < c) : a < c := by
  rcases lt_or_eq_of_le h with h | rfl
  · exact List.lt_trans h k
  · exact k

theorem sortedLe_mergeSort (l : List (List UInt8)) : (l.mergeSort fun x y => decide (x ≤ y)).Pairwise (· ≤ ·) := by
  have := List.pairwise_mergeSort (le := fun x y : List UInt8 => decide (x ≤ y)) (fun a b c h k => by simp at *; exact List.le_trans h k) (fun a b => by simp; exact List.le_total a b) l
  exact this.imp (fun h => by simpa using h)

theorem compactUpTo_facts (d : List (List UInt8)) (hd : d.Pairwise (· ≤ ·)) : ∀ m, m ≤ d.length →
    (Lib.compactUpTo d.toArray m).Pairwise (· < ·) ∧ (∀ x, x ∈ Lib.compactUpTo d.toArray m ↔ x ∈ d.take m)
  | 0, _ => by simp [Lib.compactUpTo]
  | m + 1, hm => by
    obtain ⟨h1, h2⟩ := compactUpTo_facts d hd m (by omega)
    rw [Lib.compactUpTo_succ]
    have hget : d.toArray[m]! = d[m]'(by omega) := by rw [getElem!_pos _ m (by simp; omega)]; simp
    have htake : d.take (m + 1) = d.take m ++ [d[m]'(by omega)] := List.take_succ_eq_append_getElem (by omega)
    have hle : ∀ x ∈ d.take m, ∀ k (hk : k < d.length), m ≤ k → x ≤ d[k] := by
      intro x hx k hk hmk
      obtain ⟨j, hj, rfl⟩ := List.getElem_of_mem hx
      simp at hj
      simp only [List.getElem_take]
      exact List.pairwise_iff_getElem.1 hd j k (by omega) hk (by omega)
    by_cases hk : Lib.keeps d.toArray m = true
    · rw [if_pos hk, hget]
      constructor
      · rw [List.pairwise_append]
        refine ⟨h1, by simp, ?_⟩
        intro x hx y hy
        simp at hy
        subst hy
        have hx' := (h2 x).1 hx
        rcases lt_or_eq_of_le (hle x hx' m (by omega) (Nat.le_refl _)) with h | h
        · exact h
        · exfalso
          rcases Nat.eq_zero_or_pos m with rfl | hp
          · simp at hx'
          · have hne : d[m - 1]'(by omega) ≠ d[m]'(by omega) := by
              simp only [Lib.keeps, decide_eq_true_eq] at hk
              rcases hk with hk | hk
              · omega
              · rw [hget, getElem!_pos _ (m - 1) (by simp; omega)] at hk
                simp at hk
                exact fun e => hk e.symm
            have hlast : x ≤ d[m - 1]'(by omega) := by
              obtain ⟨j, hj, rfl⟩ := List.getElem_of_mem hx'
              simp at hj
              simp only [List.getElem_take]
              by_cases hjm : j = m - 1
              · subst hjm; exact List.le_refl _
              · exact List.pairwise_iff_getElem.1 hd j (m - 1) (by omega) (by omega) (by omega)
            have hl2 : d[m - 1]'(by omega) ≤ d[m]'(by omega) := List.pairwise_iff_getElem.1 hd (m - 1) m (by omega) (by omega) (by omega)
            rw [h] at hlast
            exact hne (List.le_antisymm hl2 hlast)
      · intro x
        rw [htake, List.mem_append, List.mem_append, h2]
    · rw [if_neg hk, List.append_nil]
      refine ⟨h1, fun x => ?_⟩
      rw [htake, List.mem_append, h2]
      constructor
      · exact .inl
      · rintro (h | h)
        · exact h
        · simp at h
          subst h
          simp only [Lib.keeps, decide_eq_true_eq, not_or, Decidable.not_not] at hk
          obtain ⟨h0, he⟩ := hk
          rw [hget, getElem!_pos _ (m - 1) (by simp; omega)] at he
          simp at he
          rw [he]
          exact List.mem_iff_getElem.2 ⟨m - 1, by simp; omega, by simp⟩

theorem sortL_lt (l : List (List UInt8)) : (sortL l).Pairwise (· < ·) := (compactUpTo_facts _ (sortedLe_mergeSort l) _ (Nat.le_refl _)).1
theorem mem_sortL (l : List (List UInt8)) (x : List UInt8) : x ∈ sortL l ↔ x ∈ l := by
  have := (compactUpTo_facts _ (sortedLe_mergeSort l) _ (Nat.le_refl _)).2 x
  rw [List.take_length] at this
  exact this.trans List.mem_mergeSort

theorem rise_unique : ∀ (a b : List (List UInt8)), a.Pairwise (· < ·) → b.Pairwise (· < ·) → (∀ x, x ∈ a ↔ x ∈ b) → a = b
  | [], [], _, _, _ => rfl
  | [], y :: b, _, _, h => absurd ((h y).2 (by simp)) (by simp)
  | x :: a, [], _, _, h => absurd ((h x).1 (by simp)) (by simp)
  | x :: a, y :: b, ha, hb, h => by
    rw [List.pairwise_cons] at ha hb
    have hxy : x = y := by
      have h1 := (h x).1 (by simp)
      have h2 := (h y).2 (by simp)
      rcases List.mem_cons.1 h1 with h1 | h1
      · exact h1
      · rcases List.mem_cons.1 h2 with h2 | h2
        · exact h2.symm
        · exact absurd (List.lt_trans (ha.1 y h2) (hb.1 x h1)) (List.lt_irrefl _)
    subst hxy
    congr 1
    refine rise_unique a b ha.2 hb.2 (fun z => ?_)
    have := h z
    constructor
    · intro hz
      rcases List.mem_cons.1 (this.1 (List.mem_cons_of_mem _ hz)) with e | h'
      · exact absurd (e ▸ ha.1 z hz) (List.lt_irrefl _)
      · exact h'
    · intro hz
      rcases List.mem_cons.1 (this.2 (List.mem_cons_of_mem _ hz)) with e | h'
      · exact absurd (e ▸ hb.1 z hz) (List.lt_irrefl _)
      · exact h'

theorem sortL_eq {l k : List (List UInt8)} (hk : k.Pairwise (· < ·)) (h : ∀ x, x ∈ l ↔ x ∈ k) : sortL l = k :=
  rise_unique _ _ (sortL_lt l) hk (fun x => (mem_sortL l x).trans (h x))
theorem sortL_congr {l k : List (List UInt8)} (h : ∀ x, x ∈ l ↔ x ∈ k) : sortL l = sortL k :=
  sortL_eq (sortL_lt k) (fun x => (h x).trans (mem_sortL k x).symm)

/-! ### Texts -/
theorem less_iff (a b : ByteArray) : Op.bytesLess a.toList b.toList = true ↔ a.data.toList < b.data.toList := by
  rw [bytesLess_eq, Lib.toList_data, Lib.toList_data]; simp
theorem dat_inj {a b : ByteArray} (h : a.data.toList = b.data.toList) : a = b := by
  rw [← ofB_data a, ← ofB_data b, h]
theorem toList_inj {a b : ByteArray} : a.toList = b.toList ↔ a = b := by
  rw [Lib.toList_data, Lib.toList_data]
  exact ⟨dat_inj, fun h => by rw [h]⟩

def Rise (l : List ByteArray) : Prop := l.Pairwise fun a b => a.data.toList < b.data.toList

theorem sortT_rise (l : List ByteArray) : Rise (sortT l) := by
  unfold Rise sortT
  rw [List.pairwise_map]
  exact (sortL_lt _).imp (fun h => by simpa [data_ofB] using h)
theorem mem_sortT (l : List ByteArray) (x : ByteArray) : x ∈ sortT l ↔ x ∈ l := by
  unfold sortT
  rw [List.mem_map]
  constructor
  · rintro ⟨b, hb, rfl⟩
    obtain ⟨y, hy, rfl⟩ := List.mem_map.1 ((mem_sortL _ _).1 hb)
    rw [ofB_data]; exact hy
  · intro hx
    exact ⟨x.data.toList, (mem_sortL _ _).2 (List.mem_map.2 ⟨x, hx, rfl⟩), ofB_data x⟩
theorem sortT_eq {l k : List ByteArray} (hk : Rise k) (h : ∀ x, x ∈ l ↔ x ∈ k) : sortT l = k := by
  have : sortL (l.map fun s => s.data.toList) = k.map fun s => s.data.toList := by
    refine sortL_eq (by rw [List.pairwise_map]; exact hk) (fun x => ?_)
    simp only [List.mem_map]
    exact ⟨fun ⟨y, hy, e⟩ => ⟨y, (h y).1 hy, e⟩, fun ⟨y, hy, e⟩ => ⟨y, (h y).2 hy, e⟩⟩
  unfold sortT
  rw [this, List.map_map]
  conv => rhs; rw [← List.map_id k]
  exact List.map_congr_left (fun s _ => by simp [ofB_data])
theorem sortT_idem (l : List ByteArray) : sortT (sortT l) = sortT l := sortT_eq (sortT_rise l) (fun _ => Iff.rfl)
theorem sortT_congr {l k : List ByteArray} (h : ∀ x, x ∈ l ↔ x ∈ k) : sortT l = sortT k := sortT_eq (sortT_rise k) (fun x => (h x).trans (mem_sortT k x).symm)

theorem sortedB_rise {l : List ByteArray} (h : Rise l) : sortedB l = true := by
  rw [sortedB_iff]
  intro i s t hs ht
  rw [less_iff]
  obtain ⟨h1, rfl⟩ := List.getElem?_eq_some_iff.1 hs
  obtain ⟨h2, rfl⟩ := List.getElem?_eq_some_iff.1 ht
  exact List.pairwise_iff_getElem.1 h i (i + 1) h1 h2 (by omega)
theorem rise_of_sortedB : ∀ {l : List ByteArray}, sortedB l = true → Rise l
  | [], _ => List.Pairwise.nil
  | [a], _ => by simp [Rise]
  | a :: b :: r, h => by
    rw [sortedB, Bool.and_eq_true, less_iff] at h
    have ih := rise_of_sortedB h.2
    unfold Rise at ih ⊢
    rw [List.pairwise_cons]
    refine ⟨fun x hx => ?_, ih⟩
    rcases List.mem_cons.1 hx with rfl | hx
    · exact h.1
    · exact List.lt_trans h.1 ((List.pairwise_cons.1 ih).1 x hx)

theorem sameB_iff (a b : List ByteArray) : sameB a b = true ↔ a = b := by
  unfold sameB
  rw [beq_iff_eq]
  constructor
  · intro h
    refine List.ext_getElem? (fun i => ?_)
    have := congrArg (fun l => l[i]?) h
    simp only [List.getElem?_map] at this
    cases ha : a[i]? <;> cases hb : b[i]? <;> simp only [ha, hb, Option.map_some, Option.map_none, Option.some.injEq, reduceCtorEq] at this ⊢
    exact toList_inj.1 this
  · intro h
    rw [h]

/-! ### Where one stands in texts that rise -/
theorem findN_le (l : List ByteArray) (s : ByteArray) : findN l s ≤ l.length := List.Sublist.length_le (List.takeWhile_sublist _)
theorem less_of_lt_findN (l : List ByteArray) (s : ByteArray) (i : Nat) (t : ByteArray) (hi : i < findN l s) (ht : l[i]? = some t) : Op.bytesLess t.toList s.toList = true := by
  have hp : aheadL l s <+: l := List.takeWhile_prefix _
  have h1 : (aheadL l s)[i]? = some t := by
    have hi' : i < (aheadL l s).length := hi
    rw [← ht, List.getElem?_eq_getElem hi', List.IsPrefix.getElem hp hi']
    rw [List.getElem?_eq_getElem]
  have hm := List.mem_of_getElem? h1
  have ha : (aheadL l s).all (fun t => Op.bytesLess t.toList s.toList) = true := List.all_takeWhile
  exact List.all_eq_true.1 ha t hm
theorem not_less_findN (l : List ByteArray) (s : ByteArray) (t : ByteArray) (ht : l[findN l s]? = some t) : Op.bytesLess t.toList s.toList = false := by
  unfold findN aheadL at ht
  induction l with
  | nil => simp at ht
  | cons a r ih =>
    by_cases h : Op.bytesLess a.toList s.toList = true
    · simp only [List.takeWhile_cons, h, if_true, List.length_cons, List.getElem?_cons_succ] at ht
      exact ih ht
    · simp only [List.takeWhile_cons, h, Bool.false_eq_true, if_false, List.length_nil, List.getElem?_cons_zero, Option.some.injEq] at ht
      subst ht
      simpa using h
/-- in texts that rise one is ahead of s just if it stands ahead of where s is found -/
theorem less_iff_findN {l : List ByteArray} (hr : Rise l) (s : ByteArray) (i : Nat) (t : ByteArray) (ht : l[i]? = some t) : Op.bytesLess t.toList s.toList = true ↔ i < findN l s := by
  constructor
  · intro h
    apply Decidable.byContradiction
    intro hn
    have hlt := (List.getElem?_eq_some_iff.1 ht).1
    have h0 : l[findN l s]? = some (l[findN l s]'(by omega)) := List.getElem?_eq_getElem (by omega)
    have h1 := not_less_findN l s _ h0
    have h2 : (l[findN l s]'(by omega)).data.toList ≤ t.data.toList := by
      obtain ⟨_, rfl⟩ := List.getElem?_eq_some_iff.1 ht
      by_cases he : i = findN l s
      · subst he; exact List.le_refl _
      · exact le_of_lt (List.pairwise_iff_getElem.1 hr (findN l s) i (by omega) hlt (by omega))
    have h3 := lt_of_le_of_lt h2 ((less_iff _ _).1 h)
    rw [← less_iff] at h3
    rw [h1] at h3
    cases h3
  · intro h
    exact less_of_lt_findN l s i t h ht
theorem findB_iff {l : List ByteArray} (hr : Rise l) (s : ByteArray) : findB l s = true ↔ s ∈ l := by
  unfold findB
  constructor
  · intro h
    cases ht : l[findN l s]? with
    | none => rw [ht] at h; cases h
    | some t =>
      rw [ht] at h
      simp only [beq_iff_eq, toList_inj] at h
      exact h ▸ List.mem_of_getElem? ht
  · intro h
    obtain ⟨i, hi, he⟩ := List.getElem_of_mem h
    have hi' : l[i]? = some s := by rw [List.getElem?_eq_getElem hi, he]
    have h1 : ¬ i < findN l s := by
      rw [← less_iff_findN hr s i s hi', less_iff]
      exact List.lt_irrefl _
    have h2 : findN l s = i := by
      apply Decidable.byContradiction
      intro hne
      have h3 : findN l s < l.length := by omega
      have h4 := not_less_findN l s _ (List.getElem?_eq_getElem h3)
      have h5 := List.pairwise_iff_getElem.1 hr (findN l s) i h3 hi (by omega)
      rw [he, ← less_iff, h4] at h5
      cases h5
    rw [h2, hi']
    simp
/-- of texts that rise each is found where it stands -/
theorem findN_at {l : List ByteArray} (hr : Rise l) (i : Nat) (t : ByteArray) (ht : l[i]? = some t) : findN l t = i := by
  have h1 : ¬ i < findN l t := by
    rw [← less_iff_findN hr t i t ht, less_iff]
    exact List.lt_irrefl _
  apply Decidable.byContradiction
  intro hne
  have hlt := (List.getElem?_eq_some_iff.1 ht).1
  have h3 : findN l t < l.length := by omega
  have h4 := not_less_findN l t _ (List.getElem?_eq_getElem h3)
  obtain ⟨_, rfl⟩ := List.getElem?_eq_some_iff.1 ht
  have h5 := List.pairwise_iff_getElem.1 hr (findN l l[i]) i h3 hlt (by omega)
  rw [← less_iff, h4] at h5
  cases h5

theorem insert_sorted {x : List ByteArray} (hr : Rise x) (s : ByteArray) : sortedB (x.take (findN x s) ++ s :: x.drop (findN x s)) = !(findB x s) := by
  have hk := findN_le x s
  cases hB : findB x s
  · rw [Bool.not_false]
    apply sortedB_rise
    unfold Rise
    rw [List.pairwise_append]
    refine ⟨hr.sublist (List.take_sublist _ _), ?_, ?_⟩
    · rw [List.pairwise_cons]
      refine ⟨fun t ht => ?_, hr.sublist (List.drop_sublist _ _)⟩
      obtain ⟨j, hj, rfl⟩ := List.getElem_of_mem ht
      simp at hj
      rw [List.getElem_drop]
      have hnl : ¬ x[findN x s + j].data.toList < s.data.toList := by
        rw [← less_iff, less_iff_findN hr s (findN x s + j) _ (List.getElem?_eq_getElem (by omega))]
        omega
      rcases lt_or_eq_of_le (List.not_lt.1 hnl) with h | h
      · exact h
      · exfalso
        have hs : s ∈ x := dat_inj h ▸ List.getElem_mem _
        rw [(findB_iff hr s).2 hs] at hB
        cases hB
    · intro a ha b hb
      obtain ⟨i, hi, rfl⟩ := List.getElem_of_mem ha
      simp at hi
      rw [List.getElem_take]
      rcases List.mem_cons.1 hb with rfl | hb
      · rw [← less_iff]
        exact less_of_lt_findN x _ i _ (by omega) (List.getElem?_eq_getElem (by omega))
      · obtain ⟨j, hj, rfl⟩ := List.getElem_of_mem hb
        simp at hj
        rw [List.getElem_drop]
        exact List.pairwise_iff_getElem.1 hr i (findN x s + j) (by omega) (by omega) (by omega)
  · rw [Bool.not_true]
    cases hS : sortedB (x.take (findN x s) ++ s :: x.drop (findN x s))
    · rfl
    · exfalso
      have hR := rise_of_sortedB hS
      unfold Rise at hR
      rw [List.pairwise_append] at hR
      have h2 := (List.pairwise_cons.1 hR.2.1).1
      obtain ⟨i, hi, he⟩ := List.getElem_of_mem ((findB_iff hr s).1 hB)
      have hik := findN_at hr i s (by rw [List.getElem?_eq_getElem hi, he])
      have hm : s ∈ x.drop (findN x s) := by
        rw [hik, List.drop_eq_getElem_cons hi, he]
        simp
      exact List.lt_irrefl _ (h2 s hm)
end Go.Proofs.YtjinhkdncenhdaaGreatDoor
