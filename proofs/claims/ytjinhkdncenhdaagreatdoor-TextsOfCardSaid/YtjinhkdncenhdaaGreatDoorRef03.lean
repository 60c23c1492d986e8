/- The document's answer for texts: Find, Sorted, letter, Name of cartoucheref03. -/
import Derived.Test.YtjinhkdncenhdaaGreatDoorTextsQ
import Derived.Deep.QuietTactic
import Derived.BigQuiet
set_option linter.unusedVariables false
set_option linter.unusedSimpArgs false
namespace Go.Proofs.YtjinhkdncenhdaaGreatDoor
open Go.RowKit Go.Sort

theorem findN_stop {l : List ByteArray} {s : ByteArray} {k : Nat} (hk : k ≤ l.length) (h1 : ∀ i t, l[i]? = some t → i < k → Op.bytesLess t.toList s.toList = true)
    (h2 : ∀ t, l[k]? = some t → Op.bytesLess t.toList s.toList = false) : findN l s = k := by
  rw [findN, ahead_take l s k hk h1 h2, List.length_take]
  omega

set_option maxHeartbeats 400000 in
theorem refFind_any (A : Option Addr) (n c : Nat) (l : List ByteArray) (s : ByteArray) (w : World) (h : Strs w A n l) :
    Calls Tryz.prog 8 #[.slice A n c, .string s] w fun e w' => e = .returned (.tuple #[.int .i64 (findN l s), .bool (findB l s)]) ∧ Below w.heap.size w w' := by
  have hn := h.2.1
  have hl := h.1
  go_enter Tryz.func8, Tryz.ntmps8
  go_wp2
  go_loopw [6] (fun v w' => ∃ k : Nat, v = .int .i64 k ∧ k ≤ n ∧ Below w.heap.size w w' ∧ Strs w' A n l ∧ (∀ i t, l[i]? = some t → i < k → Op.bytesLess t.toList s.toList = true)) (fun v _ => n - (intOf v).toNat)
  case atStart => exact ⟨0, rfl, by omega, Below.refl _ _, h, fun _ _ _ _ => by omega⟩
  case round =>
    obtain ⟨k, rfl, hk, hbw, hS, hs⟩ := hrel
    have Hs := Lib.hid hs
    have Hl := Lib.hid hl
    clear hs hl
    by_cases hlt : k < n
    · obtain ⟨ad, t, rfl, htk, hc, hts⟩ := hS.at_ hlt
      have Htk := Lib.hid htk
      clear htk
      have i2 : (k : Int) < (n : Int) := by omega
      have i3 : decide ((k : Int) < (n : Int)) = true := decide_eq_true i2
      have i4 : decide (k < n) = true := decide_eq_true hlt
      cases hb : Op.bytesLess t.toList s.toList
      · go_wp2
        go_quiet (fail)
        go_wp2
        go_ret2
        refine ⟨?_, below_drewN hbw nq⟩
        have hf := findN_stop (by have := Hl.out; omega) Hs.out (fun t' ht => by rw [Htk.out] at ht; cases ht; exact hb)
        rw [findB, hf, Htk.out]
        rfl
      · go_wp2
        refine ⟨⟨k + 1, by go_num, by omega, hbw, hS, ?_⟩, by simp [intOf]; omega⟩
        intro i t' hi hik
        by_cases hik' : i < k
        · exact Hs.out i t' hi hik'
        · obtain rfl : i = k := by omega
          rw [Htk.out] at hi
          cases hi
          exact hb
    · have i2 : ¬ (k : Int) < (n : Int) := by omega
      have i3 : decide ((k : Int) < (n : Int)) = false := decide_eq_false i2
      have i4 : decide (k < n) = false := decide_eq_false hlt
      go_wp2
      go_quiet (fail)
      go_wp2
      go_ret2
      refine ⟨?_, below_drewN hbw nq⟩
      have hf := findN_stop (by have := Hl.out; omega) Hs.out (fun t' ht => by have := (List.getElem?_eq_some_iff.1 ht).1; have := Hl.out; omega)
      rw [findB, hf, List.getElem?_eq_none (by have := Hl.out; omega)]
      rfl

set_option maxHeartbeats 400000 in
theorem refSorted_any (A : Option Addr) (n c : Nat) (l : List ByteArray) (w : World) (h : Strs w A n l) :
    Calls Tryz.prog 10 #[.slice A n c] w fun e w' => e = .returned (.bool (sortedB l)) ∧ Below w.heap.size w w' := by
  have hn := h.2.1
  go_enter Tryz.func10, Tryz.ntmps10
  go_wp2
  go_loopw [3] (fun v w' => ∃ k : Nat, v = .int .i64 k ∧ 1 ≤ k ∧ (k ≤ n ∨ k = 1) ∧ Below w.heap.size w w' ∧ Strs w' A n l ∧ (∀ i s t, l[i]? = some s → l[i + 1]? = some t → i + 1 < k → Op.bytesLess s.toList t.toList = true)) (fun v _ => n - (intOf v).toNat)
  case atStart => exact ⟨1, rfl, by omega, .inr rfl, Below.refl _ _, h, fun _ _ _ _ _ => by omega⟩
  case round =>
    obtain ⟨k, rfl, h0, hk, hbw, hS, hs⟩ := hrel
    have Hs := Lib.hid hs
    clear hs
    by_cases hlt : k < n
    · obtain ⟨ad, s, rfl, hsk, hc, hss⟩ := hS.at_ hlt
      obtain ⟨ad', s', e, hsk', hc', hss'⟩ := hS.at_ (k := k - 1) (by omega)
      cases e
      have i1 : (0 : Int) < (k : Int) := by omega
      have i1' : (1 : Int) ≤ (k : Int) := by omega
      have i2 : (k : Int) < (n : Int) := by omega
      have i3 : (0 : Int) ≤ (k : Int) - 1 := by omega
      have i4 : (k : Int) - 1 < (n : Int) := by omega
      have e1 : IntKind.i64.wrap ((k : Int) - 1) = (k : Int) - 1 := IntWalk.i64_in _ (by omega)
      have e2 : ((k : Int) - 1).toNat = k - 1 := by omega
      go_wp2_with fail
      go_quiet (fail)
      clear e1 e2
      go_wp2
      · go_ret
        refine ⟨?_, below_drewN hbw nq⟩
        have hf : (!Op.bytesLess s'.toList s.toList) = true := by assumption
        cases hb : sortedB l
        · rfl
        · rw [(sortedB_iff l).1 hb (k - 1) s' s hsk' (by rw [show k - 1 + 1 = k by omega]; exact hsk)] at hf
          cases hf
      · have hf : (!Op.bytesLess s'.toList s.toList) = false := by assumption
        refine ⟨⟨k + 1, by go_num, by omega, by omega, below_drewN hbw nq, hS, ?_⟩, by simp [intOf]; omega⟩
        intro i s1 t1 h1 h2 hik
        by_cases hik' : i + 1 < k
        · exact Hs.out i s1 t1 h1 h2 hik'
        · obtain rfl : i = k - 1 := by omega
          rw [show k - 1 + 1 = k by omega, hsk] at h2
          rw [hsk'] at h1
          cases h1; cases h2
          simpa using hf
    · go_wp2
      go_ret
      refine ⟨?_, hbw⟩
      rw [(sortedB_iff l).2 fun i s t h1 h2 => Hs.out i s t h1 h2 (by have := (List.getElem?_eq_some_iff.1 h2).1; have := hS.1; omega)]
      rfl

theorem letterB_nat (c : UInt8) : letterB c = ((decide (97 ≤ c.toNat) && decide (c.toNat ≤ 122)) || (decide (65 ≤ c.toNat) && decide (c.toNat ≤ 90))) := by
  have : ∀ c : Fin 256, letterB (UInt8.ofNat c.val) = ((decide (97 ≤ (UInt8.ofNat c.val).toNat) && decide ((UInt8.ofNat c.val).toNat ≤ 122)) || (decide (65 ≤ (UInt8.ofNat c.val).toNat) && decide ((UInt8.ofNat c.val).toNat ≤ 90))) := by decide +kernel
  have h := this ⟨c.toNat, c.toNat_lt⟩
  simpa using h
theorem otherB_nat (c : UInt8) : otherB c = (letterB c || (decide (48 ≤ c.toNat) && decide (c.toNat ≤ 57)) || decide (c.toNat = 95)) := by
  have : ∀ c : Fin 256, otherB (UInt8.ofNat c.val) = (letterB (UInt8.ofNat c.val) || (decide (48 ≤ (UInt8.ofNat c.val).toNat) && decide ((UInt8.ofNat c.val).toNat ≤ 57)) || decide ((UInt8.ofNat c.val).toNat = 95)) := by decide +kernel
  have h := this ⟨c.toNat, c.toNat_lt⟩
  simpa using h

theorem letter_any (c : UInt8) (w : World) :
    Calls Tryz.prog 25 #[.int .u8 c.toNat] w fun e w' => e = .returned (.bool (letterB c)) ∧ w' = w := by
  have hc := c.toNat_lt
  go_enter Tryz.func25, Tryz.ntmps25
  go_wp2
  all_goals (
    go_ret
    refine ⟨ret_bool ?_, rfl⟩
    rw [letterB_nat, Bool.eq_iff_iff]
    simp
    omega)

/-- behind the first byte -/
theorem restOk_false_iff (l : List UInt8) : restOk false l = true ↔ ∀ (i : Nat) (b : UInt8), l[i]? = some b → otherB b = true := by
  induction l with
  | nil => simp [restOk]
  | cons a r ih =>
    rw [restOk, Bool.and_eq_true, ih]
    constructor
    · rintro ⟨h1, h2⟩ i b hb
      cases i with
      | zero => simp at hb; subst hb; simpa using h1
      | succ i => exact h2 i b (by simpa using hb)
    · intro h
      exact ⟨by simpa using h 0 a rfl, fun i b hb => h (i + 1) b (by simpa using hb)⟩

theorem restStep (s : ByteArray) (k : Nat) (hk : k < s.size) (h : ∀ (i : Nat) (b : UInt8), s.data.toList[i]? = some b → 1 ≤ i → i < k → otherB b = true) (ho : otherB s[k] = true) :
    ∀ (i : Nat) (b : UInt8), s.data.toList[i]? = some b → 1 ≤ i → i < k + 1 → otherB b = true := by
  intro i b hib h1 hi
  by_cases hik : i < k
  · exact h i b hib h1 hik
  · obtain rfl : i = k := by omega
    obtain ⟨_, rfl⟩ := List.getElem?_eq_some_iff.1 hib
    exact ho
theorem restNot (s : ByteArray) (k : Nat) (hk : k < s.size) (h1 : 1 ≤ k) (ho : otherB s[k] = false) : restOk false (s.data.toList.drop 1) = false := by
  cases h : restOk false (s.data.toList.drop 1)
  · rfl
  · rw [restOk_false_iff] at h
    have := h (k - 1) s[k] (by rw [List.getElem?_drop, show 1 + (k - 1) = k by omega, List.getElem?_eq_getElem (by simpa using hk)]; rfl)
    rw [ho] at this
    cases this

set_option maxHeartbeats 1000000 in
theorem refName_any (s : ByteArray) (w : World) (hs : s.size ≤ 9223372036854775807) :
    Calls Tryz.prog 12 #[.string s] w fun e w' => e = .returned (.bool (nameB s.data.toList)) ∧ Below w.heap.size w w' := by
  have hlen : s.data.toList.length = s.size := by simp
  by_cases h1 : s.size < 1
  · have i1 : (s.size : Int) < 1 := by omega
    have Hl := Lib.hid hlen
    clear hlen
    go_enter Tryz.func12, Tryz.ntmps12
    go_wp2
    go_ret
    refine ⟨ret_bool ?_, Below.refl _ _⟩
    simp only [nameB, Hl.out, show ¬ 1 ≤ s.size by omega, decide_false, Bool.false_and]
  · by_cases h2 : 32 < s.size
    · have i1 : (1 : Int) ≤ (s.size : Int) := by omega
      have i2 : (32 : Int) < (s.size : Int) := by omega
      have Hl := Lib.hid hlen
      clear hlen
      go_enter Tryz.func12, Tryz.ntmps12
      go_wp2
      go_ret
      refine ⟨ret_bool ?_, Below.refl _ _⟩
      simp only [nameB, Hl.out, show ¬ s.size ≤ 32 by omega, decide_false, Bool.false_and, Bool.and_false]
    · have i1 : (1 : Int) ≤ (s.size : Int) := by omega
      have i2 : (s.size : Int) ≤ 32 := by omega
      have hrest : nameB s.data.toList = (letterB s[0] && restOk false (s.data.toList.drop 1)) := by
        have := drop_cons s 0 (by omega)
        rw [List.drop_zero] at this
        simp only [nameB, hlen, show 1 ≤ s.size by omega, show s.size ≤ 32 by omega, decide_true, Bool.true_and]
        rw [this, restOk]
        simp
      have Hr := Lib.hid hrest
      clear hrest
      go_enter Tryz.func12, Tryz.ntmps12
      have cL := letter_any s[0] w
      cases hb : letterB s[0] <;> rw [hb] at cL
      · go_wp2_with fail
        refine cL.mono ?_
        rintro e w1 ⟨rfl, e1⟩
        obtain rfl := e1.symm
        go_wp2
        go_ret
        refine ⟨ret_bool ?_, Below.refl _ _⟩
        rw [Hr.out, hb]
        rfl
      · go_wp2_with fail
        refine cL.mono ?_
        rintro e w1 ⟨rfl, e1⟩
        obtain rfl := e1.symm
        go_wp2
        go_loopw [3] (fun v w' => ∃ k : Nat, v = .int .i64 k ∧ 1 ≤ k ∧ k ≤ s.size ∧ w' = w ∧ (∀ i b, s.data.toList[i]? = some b → 1 ≤ i → i < k → otherB b = true)) (fun v _ => s.size - (intOf v).toNat)
        case atStart => exact ⟨1, rfl, by omega, by omega, rfl, fun _ _ _ _ _ => by omega⟩
        case round =>
          obtain ⟨k, rfl, hk1, hk, rfl, hx⟩ := hrel
          have Hx := Lib.hid hx
          clear hx
          by_cases hlt : k < s.size
          · have j1 : (k : Int) < (s.size : Int) := by omega
            have cL := letter_any s[k] wr
            have hO := otherB_nat s[k]
            have HO := Lib.hid hO
            clear hO
            cases hb2 : letterB s[k] <;> rw [hb2] at cL
            · go_wp2_with fail
              refine cL.mono ?_
              rintro e w1 ⟨rfl, e1⟩
              obtain rfl := e1.symm
              have hu := (s[k]).toNat_lt
              by_cases q1 : s[k].toNat = 95
              · have HO1 : otherB s[k] = true := by rw [HO.out, q1]; simp
                have q1' : (s[k].toNat : Int) = 95 := by omega
                go_wp2
                refine ⟨⟨k + 1, by go_num, by omega, by omega, by trivial, ?_⟩, by simp [intOf]; omega⟩
                exact restStep s k hlt Hx.out HO1
              · have q1' : ((s[k].toNat : Int) == 95) = false := by simp; omega
                by_cases q2 : s[k].toNat < 48
                · have HO1 : otherB s[k] = false := by rw [HO.out, hb2]; simp; omega
                  have q2' : (s[k].toNat : Int) < 48 := by omega
                  go_wp2
                  go_ret
                  refine ⟨ret_bool ?_, Below.refl _ _⟩
                  rw [Hr.out, restNot s k hlt hk1 HO1, Bool.and_false]
                · by_cases q3 : 57 < s[k].toNat
                  · have HO1 : otherB s[k] = false := by rw [HO.out, hb2]; simp; omega
                    have q2' : (48 : Int) ≤ (s[k].toNat : Int) := by omega
                    have q3' : (57 : Int) < (s[k].toNat : Int) := by omega
                    go_wp2
                    go_ret
                    refine ⟨ret_bool ?_, Below.refl _ _⟩
                    rw [Hr.out, restNot s k hlt hk1 HO1, Bool.and_false]
                  · have HO1 : otherB s[k] = true := by rw [HO.out]; simp; omega
                    have q2' : (48 : Int) ≤ (s[k].toNat : Int) := by omega
                    have q3' : (s[k].toNat : Int) ≤ 57 := by omega
                    go_wp2
                    refine ⟨⟨k + 1, by go_num, by omega, by omega, by trivial, ?_⟩, by simp [intOf]; omega⟩
                    exact restStep s k hlt Hx.out HO1
            · go_wp2_with fail
              refine cL.mono ?_
              rintro e w1 ⟨rfl, e1⟩
              obtain rfl := e1.symm
              have HO1 : otherB s[k] = true := by rw [HO.out, hb2]; simp
              go_wp2
              refine ⟨⟨k + 1, by go_num, by omega, by omega, by trivial, ?_⟩, by simp [intOf]; omega⟩
              exact restStep s k hlt Hx.out HO1
          · go_wp2
            go_ret
            refine ⟨ret_bool ?_, Below.refl _ _⟩
            rw [Hr.out, hb, Bool.true_and, eq_comm, restOk_false_iff]
            intro i b hib
            rw [List.getElem?_drop] at hib
            exact Hx.out (1 + i) b hib (by omega) (by have := (List.getElem?_eq_some_iff.1 hib).1; omega)
end Go.Proofs.YtjinhkdncenhdaaGreatDoor
