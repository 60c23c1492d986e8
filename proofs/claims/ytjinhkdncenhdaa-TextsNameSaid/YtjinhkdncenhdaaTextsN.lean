/- For every text, every byte and every place: TextsName answers true. No condition. -/
import Derived.Test.YtjinhkdncenhdaaTextsL
import Derived.RegionTactic
import Derived.BigRegion
import Derived.ChangeAlike
import Derived.Deep.DeepCutAuto
set_option linter.unusedVariables false
set_option linter.unusedSimpArgs false
namespace Go.Proofs.Ytjinhkdncenhdaa
open Go.RowKit

theorem restOk_false (l : List UInt8) : restOk false l = l.all otherB := by
  induction l with
  | nil => rfl
  | cons c r ih => simp [restOk, ih]
theorem other_of_letter {c : UInt8} (h : letterB c = true) : otherB c = true := by simp [otherB, h]
def mayB (c : UInt8) (k : Nat) : Bool := letterB c || (decide (0 < k) && ((48 ≤ c && c ≤ 57) || c == 95))
theorem may_pos {c : UInt8} {k : Nat} (h : 0 < k) : mayB c k = otherB c := by simp [mayB, otherB, h, Bool.or_assoc]
theorem may_zero (c : UInt8) : mayB c 0 = letterB c := by simp [mayB]
theorem name_insert (l : List UInt8) (c : UInt8) (k : Nat) (hk : k ≤ l.length) (h : nameB l = true) :
    nameB (l.take k ++ c :: l.drop k) = (mayB c k && decide (l.length + 1 ≤ 32)) := by
  simp only [nameB, Bool.and_eq_true, decide_eq_true_eq] at h
  obtain ⟨⟨h1, h2⟩, h3⟩ := h
  have hlen : (l.take k ++ c :: l.drop k).length = l.length + 1 := by simp; omega
  have hrest : restOk true (l.take k ++ c :: l.drop k) = mayB c k := by
    cases l with
    | nil => simp at h1
    | cons x r =>
      simp only [restOk, if_true, restOk_false, Bool.and_eq_true] at h3
      cases k with
      | zero => simp [restOk, restOk_false, may_zero, other_of_letter h3.1, h3.2]
      | succ k =>
        rw [may_pos (by omega)]
        have : (r.take k ++ c :: r.drop k).all otherB = otherB c := by
          rw [List.all_append, List.all_cons]
          have h4 := h3.2
          rw [← List.take_append_drop k r, List.all_append, Bool.and_eq_true] at h4
          rw [h4.1, h4.2]; simp
        simp only [List.take_succ_cons, List.drop_succ_cons, List.cons_append, restOk, if_true, restOk_false, h3.1, this, Bool.true_and]
  simp only [nameB, hlen, hrest]
  have : decide (1 ≤ l.length + 1) = true := by simp
  rw [this, Bool.true_and, Bool.and_comm]

set_option maxHeartbeats 1000000 in
theorem textsName_any (s : ByteArray) (c a : UInt8) (w : World) (hs : s.size ≤ 9223372036854775807) :
    Calls Try.prog 5 #[.string s, .int .u8 c.toNat, .int .u8 a.toNat] w fun e w' => e = .returned (.bool true) ∧ Below w.heap.size w w' := by
  cases hn : nameB s.data.toList
  · have cN := name_any s w hs
    rw [hn] at cN
    have CN := Lib.hid cN
    clear cN hn
    go_enter Try.func5, Try.ntmps5
    go_wp2_with fail
    refine CN.out.mono ?_
    rintro e w1 ⟨rfl, b1⟩
    go_wp2_with fail
    refine (alive_any _).mono ?_
    rintro e w2 ⟨rfl, b2⟩
    go_wp2
    go_ret
    exact ⟨rfl, bthen b1 b2⟩
  · have cN := name_any s w hs
    rw [hn] at cN
    have CN := Lib.hid cN
    have Hn := Lib.hid hn
    have hsz : 1 ≤ s.size ∧ s.size ≤ 32 := by
      simp only [nameB, Bool.and_eq_true, decide_eq_true_eq] at hn
      simpa using hn.1
    obtain ⟨hs1, hs2⟩ := hsz
    clear cN hn
    have i1 : (1 : Int) ≤ (s.size : Int) := by omega
    have i2 : (s.size : Int) ≤ 32 := by omega
    have i3 : (a.toNat : Int) ≤ 255 := by have := a.toNat_lt; omega
    have i4 : (0 : Int) ≤ (a.toNat : Int) := by omega
    go_enter Try.func5, Try.ntmps5
    go_wp2_with fail
    refine CN.out.mono ?_
    rintro e w1 ⟨rfl, b1⟩
    go_wp2_with fail
    obtain ⟨k, hk, hkl⟩ : ∃ k : Nat, ((a.toNat : Int) % ((s.size : Int) + 1)) = (k : Int) ∧ k ≤ s.size := by
      refine ⟨a.toNat % (s.size + 1), by rw [Int.natCast_emod, Int.natCast_add]; rfl, ?_⟩
      have := Nat.mod_lt a.toNat (show 0 < s.size + 1 by omega)
      omega
    rw [hk]
    clear hk
    have k1 : (0 : Int) ≤ (k : Int) := by omega
    have k2 : (k : Int) ≤ (s.size : Int) := by omega
    have hconv := run_convert_bytes_back (P := Try.prog) ((w1.alloc (.cells #[.int .u8 c.toNat] 5)).drew) 32 9 5 ⟨w1.heap.size, 0, none⟩ 1 [c] Try.underlying32 Try.underlying5 Try.underlying9 (by
      intro j hj
      obtain rfl : j = 0 := by simpa using hj
      exact World.cell?_alloc_mark w1 _ _ _ _)
    simp only [List.length_singleton] at hconv
    go_region
    clear hconv
    have b2 : Below w.heap.size w ((w1.alloc (.cells #[.int .u8 c.toNat] 5)).drew) := (balloc b1 _).drew
    obtain ⟨w2, hw2⟩ : ∃ w2, (w1.alloc (.cells #[.int .u8 c.toNat] 5)).drew = w2 := ⟨_, rfl⟩
    rw [hw2] at b2 ⊢
    clear hw2 b1
    obtain ⟨t, ht⟩ : ∃ t, s.extract 0 k ++ ⟨#[c]⟩ ++ s.extract k s.size = t := ⟨_, rfl⟩
    rw [ht]
    have htl : t.data.toList = s.data.toList.take k ++ c :: s.data.toList.drop k := by
      rw [← ht]
      simp only [ByteArray.data_append, Lib.extract_data, Array.toList_append, List.drop_zero, Nat.sub_zero]
      rw [show (List.drop k s.data.toList).take (s.size - k) = List.drop k s.data.toList from List.take_of_length_le (by simp)]
      simp
    have htn : nameB t.data.toList = (mayB c k && decide (s.size + 1 ≤ 32)) := by
      have := name_insert s.data.toList c k (by simpa using hkl) Hn.out
      rw [← htl] at this
      simpa using this
    have hts : t.size = s.size + 1 := by
      have := congrArg List.length htl
      simp at this
      omega
    have j0 : t.size ≤ s.size + 1 := by omega
    have j0' : s.size + 1 ≤ t.size := by omega
    have Htn := Lib.hid htn
    clear ht htl htn hts
    have c0 := c.toNat_lt
    go_upto_region 7 with fail
    go_cut [9] (fun s9 wx => s9 = .bool (letterB c) ∧ wx = w2)
    case first =>
      go_wp2_with fail
      all_goals (go_meet; refine ⟨congrArg Value.bool ?_, rfl⟩; rw [Bool.eq_iff_iff]; simp [letterB, UInt8.le_iff_toNat_le]; try omega)
    case rest =>
      obtain ⟨rfl, rfl⟩ := hcut
      obtain ⟨M, hM⟩ : ∃ M, mayB c k = M := ⟨_, rfl⟩
      have HM := Lib.hid hM
      have hmay : mayB c k = (letterB c || (decide (0 < k) && ((48 ≤ c && c ≤ 57) || c == 95))) := rfl
      rw [hM] at hmay
      clear hM
      by_cases hk0 : 0 < k <;> cases hL : letterB c <;> rw [hL] at hmay <;> (first | rw [decide_eq_true hk0] at hmay | rw [decide_eq_false hk0] at hmay)
      all_goals
        have HL := Lib.hid hmay
        clear hmay hL
        go_upto_region 8 with fail
        go_cut [10] (fun s10 wx => s10 = .bool M ∧ wx = wc)
        case first =>
          go_wp2_with fail
          all_goals (go_meet; refine ⟨congrArg Value.bool ?_, rfl⟩; rw [HL.out, Bool.eq_iff_iff]; simp [UInt8.le_iff_toNat_le, ← UInt8.toNat_inj]; try omega)
        case rest =>
          obtain ⟨rfl, rfl⟩ := hcut
          go_wp2_with fail
          refine (alive_any _).mono ?_
          rintro e w3 ⟨rfl, b3⟩
          go_wp2_with fail
          by_cases h32 : s.size + 1 ≤ 32
          · have j1 : (t.size : Int) ≤ 32 := by omega
            have cN := name_any t w3 (by omega)
            rw [Htn.out, HM.out, decide_eq_true h32, Bool.and_true] at cN
            refine cN.mono ?_
            rintro e w4 ⟨rfl, b4⟩
            cases M
            all_goals
              go_wp2
              go_ret
              first | exact ⟨rfl, bthen (bthen b2 b3) b4⟩ | exact ⟨ret_bool (by simp; omega), bthen (bthen b2 b3) b4⟩
          · have j1 : (32 : Int) < (t.size : Int) := by omega
            have cN := name_any t w3 (by omega)
            rw [Htn.out, HM.out, decide_eq_false h32, Bool.and_false] at cN
            refine cN.mono ?_
            rintro e w4 ⟨rfl, b4⟩
            cases M
            all_goals
              go_wp2
              go_ret
              first | exact ⟨rfl, bthen (bthen b2 b3) b4⟩ | exact ⟨ret_bool (by simp; omega), bthen (bthen b2 b3) b4⟩
end Go.Proofs.Ytjinhkdncenhdaa
