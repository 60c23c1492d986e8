/- Texts, part C: the functions that only read slices of texts: Sorted, has, SameTexts, TextsSize, great. -/
import Derived.Test.YtjinhkdncenhdaaGreatDoorTextsB
import Derived.Test.YtjinhkdncenhdaaGreatDoorWords
import Derived.Deep.QuietTactic
import Derived.BigQuiet
import Derived.Deep.AppendLies
import Derived.Sort.Row
namespace Go.Proofs.YtjinhkdncenhdaaGreatDoor
open Go.RowKit



theorem below_drewN {B : Nat} {a w : World} (h : Below B a w) (n : Nat) : Below B a (w.drewN n) := ⟨h.os, h.tape, h.output, h.size, h.block⟩

/-- the slice value at A of length n reads as the texts l -/
def Strs (w : World) (A : Option Addr) (n : Nat) (l : List ByteArray) : Prop :=
  l.length = n ∧ n ≤ 9223372036854775807 ∧ (∀ s ∈ l, s.size ≤ 4611686018427387904) ∧ (0 < n → ∃ ad, A = some ad ∧ ∀ j (_ : j < l.length), w.cell? (ad.add j) = some (.string l[j]))

theorem Strs.at_ {w : World} {A : Option Addr} {n k : Nat} {l : List ByteArray} (h : Strs w A n l) (hk : k < n) : ∃ ad s, A = some ad ∧ l[k]? = some s ∧ w.cell? (ad.add k) = some (.string s) ∧ s.size ≤ 4611686018427387904 := by
  obtain ⟨ad, e, hc⟩ := h.2.2.2 (by omega)
  have hl : k < l.length := by have := h.1; omega
  exact ⟨ad, l[k], e, List.getElem?_eq_getElem hl, hc k hl, h.2.2.1 _ (List.getElem_mem hl)⟩
theorem Strs.below {w w' : World} {A : Option Addr} {n : Nat} {l : List ByteArray} (h : Strs w A n l) (hb : Below w.heap.size w w') : Strs w' A n l :=
  ⟨h.1, h.2.1, h.2.2.1, fun hn => by
    obtain ⟨ad, e, hc⟩ := h.2.2.2 hn
    exact ⟨ad, e, fun j hj => (hb.cell (World.block_lt_of_cell? w _ (hc j hj))).trans (hc j hj)⟩⟩

/-- do they rise? -/
def sortedB : List ByteArray → Bool
  | [] => true
  | [_] => true
  | a :: b :: r => Op.bytesLess a.toList b.toList && sortedB (b :: r)

theorem sortedB_iff : ∀ l : List ByteArray, sortedB l = true ↔ ∀ i s t, l[i]? = some s → l[i + 1]? = some t → Op.bytesLess s.toList t.toList = true
  | [] => by simp [sortedB]
  | [_] => by simp [sortedB]
  | a :: b :: r => by
    rw [sortedB, Bool.and_eq_true, sortedB_iff (b :: r)]
    constructor
    · rintro ⟨h0, h1⟩ i s t hs ht
      cases i with
      | zero =>
        simp at hs ht
        subst hs; subst ht
        exact h0
      | succ i => exact h1 i s t (by simpa using hs) (by simpa using ht)
    · intro h
      exact ⟨h 0 a b rfl rfl, fun i s t hs ht => h (i + 1) s t (by simpa using hs) (by simpa using ht)⟩

set_option maxHeartbeats 400000 in
theorem sorted_any (A : Option Addr) (n c : Nat) (l : List ByteArray) (w : World) (h : Strs w A n l) :
    Calls Tryz.prog 9 #[.slice A n c] w fun e w' => e = .returned (.bool (sortedB l)) ∧ Below w.heap.size w w' := by
  have hn := h.2.1
  go_enter Tryz.func9, Tryz.ntmps9
  go_wp2
  go_loopw [3, 6] (fun _ v w' => ∃ k : Nat, v = .int .i64 k ∧ k ≤ n ∧ Below w.heap.size w w' ∧ Strs w' A n l ∧ (∀ i s t, l[i]? = some s → l[i + 1]? = some t → i + 1 < k → Op.bytesLess s.toList t.toList = true)) (fun _ v _ => n - (intOf v).toNat)
  case atStart => exact ⟨0, rfl, by omega, Below.refl _ _, h, fun _ _ _ _ _ => by omega⟩
  case round =>
    obtain ⟨k, rfl, hk, hbw, hS, hs⟩ := hrel
    have Hs := Lib.hid hs
    clear hs
    by_cases hlt : k < n
    · obtain ⟨ad, s, rfl, hsk, hc, hss⟩ := hS.at_ hlt
      by_cases h0 : 0 < k
      · obtain ⟨ad', s', e, hsk', hc', hss'⟩ := hS.at_ (k := k - 1) (by omega)
        cases e
        have i1 : (0 : Int) < (k : Int) := by omega
        have i1' : (1 : Int) ≤ (k : Int) := by omega
        have i2 : (k : Int) < (n : Int) := by omega
        have i3 : (0 : Int) ≤ (k : Int) - 1 := by omega
        have i4 : (k : Int) - 1 < (n : Int) := by omega
        have e1 : IntKind.i64.wrap ((k : Int) - 1) = (k : Int) - 1 := IntWalk.i64_in _ (by omega)
        have e2 : ((k : Int) - 1).toNat = k - 1 := by omega
        go_wp2_with fail
        go_quiet (fail)
        clear e1 e2
        go_wp2
        · go_ret
          refine ⟨?_, below_drewN hbw nq⟩
          have hf : (!Op.bytesLess s'.toList s.toList) = true := by assumption
          cases hb : sortedB l
          · rfl
          · rw [(sortedB_iff l).1 hb (k - 1) s' s hsk' (by rw [show k - 1 + 1 = k by omega]; exact hsk)] at hf
            cases hf
        · have hf : (!Op.bytesLess s'.toList s.toList) = false := by assumption
          refine ⟨⟨k + 1, by go_num, by omega, below_drewN hbw nq, hS, ?_⟩, by simp [intOf]; omega⟩
          intro i s1 t1 h1 h2 hik
          by_cases hik' : i + 1 < k
          · exact Hs.out i s1 t1 h1 h2 hik'
          · obtain rfl : i = k - 1 := by omega
            rw [show k - 1 + 1 = k by omega, hsk] at h2
            rw [hsk'] at h1
            cases h1; cases h2
            simpa using hf
      · obtain rfl : k = 0 := by omega
        go_wp2_with fail
        go_quiet (fail)
        go_wp2
        exact ⟨⟨1, rfl, by omega, below_drewN hbw nq, hS, fun _ _ _ _ _ => by omega⟩, by simp [intOf]; omega⟩
    · go_wp2
      go_ret
      refine ⟨?_, hbw⟩
      rw [(sortedB_iff l).2 fun i s t h1 h2 => Hs.out i s t h1 h2 (by have := (List.getElem?_eq_some_iff.1 h2).1; have := hS.1; omega)]
      rfl

/-- are lists the same? -/
def sameB (a b : List ByteArray) : Bool := a.map (·.toList) == b.map (·.toList)

theorem sameB_false {a b : List ByteArray} (k : Nat) (s t : ByteArray) (hs : a[k]? = some s) (ht : b[k]? = some t) (h : (s.toList == t.toList) = false) : sameB a b = false := by
  cases hb : sameB a b
  · rfl
  · simp only [sameB, beq_iff_eq] at hb
    have := congrArg (fun l => l[k]?) hb
    simp only [List.getElem?_map, hs, ht, Option.map_some, Option.some.injEq] at this
    rw [this] at h
    simp at h

set_option maxHeartbeats 400000 in
theorem same_any (A B : Option Addr) (n c m d : Nat) (l k : List ByteArray) (w : World) (h : Strs w A n l) (h' : Strs w B m k) :
    Calls Tryz.prog 13 #[.slice A n c, .slice B m d] w fun e w' => e = .returned (.bool (sameB l k)) ∧ Below w.heap.size w w' := by
  have hn := h.2.1
  have hm := h'.2.1
  by_cases hne : n = m
  · subst hne
    have hb0 : (!((n : Int) == (n : Int))) = false := by simp
    go_enter Tryz.func13, Tryz.ntmps13
    go_wp2
    go_loopw [5] (fun v w' => ∃ i : Nat, v = .int .i64 i ∧ i ≤ n ∧ Below w.heap.size w w' ∧ Strs w' A n l ∧ Strs w' B n k ∧ (∀ j s t, l[j]? = some s → k[j]? = some t → j < i → (s.toList == t.toList) = true)) (fun v _ => n - (intOf v).toNat)
    case atStart => exact ⟨0, rfl, by omega, Below.refl _ _, h, h', fun _ _ _ _ _ => by omega⟩
    case round =>
      obtain ⟨i, rfl, hi, hbw, hS, hT, hs⟩ := hrel
      have Hs := Lib.hid hs
      clear hs
      by_cases hlt : i < n
      · obtain ⟨ad, s, rfl, hsk, hc, hss⟩ := hS.at_ hlt
        obtain ⟨ad', t, rfl, htk, hc', hts⟩ := hT.at_ hlt
        have i2 : (i : Int) < (n : Int) := by omega
        cases hb : (s.toList == t.toList)
        · go_wp2
          go_quiet (fail)
          go_wp2
          go_ret
          refine ⟨?_, below_drewN hbw nq⟩
          rw [sameB_false i s t hsk htk hb]
          rfl
        · go_wp2
          go_quiet (fail)
          go_wp2
          refine ⟨⟨i + 1, by go_num, by omega, below_drewN hbw nq, hS, hT, ?_⟩, by simp [intOf]; omega⟩
          intro j s1 t1 h1 h2 hj
          by_cases hj' : j < i
          · exact Hs.out j s1 t1 h1 h2 hj'
          · obtain rfl : j = i := by omega
            rw [hsk] at h1
            rw [htk] at h2
            cases h1; cases h2
            exact hb
      · go_wp2
        go_ret
        refine ⟨?_, hbw⟩
        have : sameB l k = true := by
          simp only [sameB, beq_iff_eq]
          apply List.ext_getElem?
          intro j
          simp only [List.getElem?_map]
          by_cases hj : j < n
          · have hl := hS.1
            have hk := hT.1
            rw [List.getElem?_eq_getElem (by omega : j < l.length), List.getElem?_eq_getElem (by omega : j < k.length)]
            have := Hs.out j _ _ (List.getElem?_eq_getElem (by omega : j < l.length)) (List.getElem?_eq_getElem (by omega : j < k.length)) (by omega)
            simpa using this
          · have hl := hS.1
            have hk := hT.1
            rw [List.getElem?_eq_none (by omega), List.getElem?_eq_none (by omega)]
        rw [this]
        rfl
  · have hb0 : (!((n : Int) == (m : Int))) = true := by simp; omega
    have hf : sameB l k = false := by
      cases hb : sameB l k
      · rfl
      · simp only [sameB, beq_iff_eq] at hb
        have := congrArg List.length hb
        simp only [List.length_map, h.1, h'.1] at this
        exact absurd this hne
    go_enter Tryz.func13, Tryz.ntmps13
    go_wp2
    go_ret
    refine ⟨?_, Below.refl _ _⟩
    rw [hf]
    rfl

/-- how much texts have in them, counted with an early end -/
def sizeGo (acc : Nat) : List ByteArray → Nat
  | [] => acc
  | s :: r => if acc ≤ 1048576 then sizeGo (acc + s.size) r else acc
theorem sizeGo_stop (acc : Nat) (l : List ByteArray) (h : ¬ acc ≤ 1048576) : sizeGo acc l = acc := by
  cases l <;> simp [sizeGo, h]
def textsSize (l : List ByteArray) : Nat := sizeGo l.length l

set_option maxHeartbeats 400000 in
theorem textsSize_any (A : Option Addr) (n c : Nat) (l : List ByteArray) (w : World) (h : Strs w A n l) :
    Calls Tryz.prog 4 #[.slice A n c] w fun e w' => e = .returned (.int .i64 (textsSize l)) ∧ Below w.heap.size w w' := by
  have hn := h.2.1
  go_enter Tryz.func4, Tryz.ntmps4
  go_wp2
  go_loopw [3, 4] (fun a v w' => ∃ k m : Nat, v = .int .i64 k ∧ a = .int .i64 m ∧ k ≤ n ∧ m ≤ 9223372036854775807 ∧ Below w.heap.size w w' ∧ Strs w' A n l ∧ sizeGo m (l.drop k) = textsSize l) (fun _ v _ => n - (intOf v).toNat)
  case atStart => exact ⟨0, n, rfl, rfl, by omega, by omega, Below.refl _ _, h, by rw [← h.1]; rfl⟩
  case round =>
    obtain ⟨k, m, rfl, rfl, hk, hm, hbw, hS, hs⟩ := hrel
    have Hs := Lib.hid hs
    clear hs
    by_cases hlt : k < n
    · by_cases hmost : m ≤ 1048576
      · obtain ⟨ad, t, rfl, hsk, hc, hss⟩ := hS.at_ hlt
        have hd : sizeGo m (l.drop k) = sizeGo (m + t.size) (l.drop (k + 1)) := by
          rw [List.drop_eq_getElem_cons (by have := hS.1; omega), List.getElem?_eq_some_iff.1 hsk |>.2]
          simp [sizeGo, hmost]
        have Hd := Lib.hid hd
        clear hd
        have i2 : (k : Int) < (n : Int) := by omega
        have i3 : (m : Int) ≤ 1048576 := by omega
        go_wp2
        refine ⟨⟨k + 1, m + t.size, by go_num, by go_num, by omega, by omega, hbw, hS, ?_⟩, by simp [intOf]; omega⟩
        rw [← Hs.out, Hd.out]
      · have i2 : (k : Int) < (n : Int) := by omega
        have i3 : (1048576 : Int) < (m : Int) := by omega
        go_wp2
        go_ret
        refine ⟨?_, hbw⟩
        rw [← Hs.out, sizeGo_stop _ _ hmost]
        rfl
    · go_wp2
      go_ret
      refine ⟨?_, hbw⟩
      rw [← Hs.out, List.drop_eq_nil_of_le (by have := hS.1; omega)]
      rfl

end Go.Proofs.YtjinhkdncenhdaaGreatDoor
