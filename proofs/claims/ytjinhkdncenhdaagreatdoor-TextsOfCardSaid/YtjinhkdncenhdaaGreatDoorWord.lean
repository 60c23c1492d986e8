/- The mark of the book: word (a number under 100). -/
import Derived.Test.YtjinhkdncenhdaaGreatDoorTextsQ
set_option linter.unusedVariables false
set_option linter.unusedSimpArgs false
namespace Go.Proofs.YtjinhkdncenhdaaGreatDoor
open Go.RowKit

/-- the digits of a number under 100 -/
def smallB (n : Nat) : ByteArray :=
  if n < 10 then (⟨#[48, 49, 50, 51, 52, 53, 54, 55, 56, 57, 97, 98, 99, 100, 101, 102, 103, 104, 105, 106, 107, 108, 109, 110, 111, 112, 113, 114, 115, 116, 117, 118, 119, 120, 121, 122]⟩ : ByteArray).extract n (n + 1)
  else (⟨#[48, 48, 48, 49, 48, 50, 48, 51, 48, 52, 48, 53, 48, 54, 48, 55, 48, 56, 48, 57, 49, 48, 49, 49, 49, 50, 49, 51, 49, 52, 49, 53, 49, 54, 49, 55, 49, 56, 49, 57, 50, 48, 50, 49, 50, 50, 50, 51, 50, 52, 50, 53, 50, 54, 50, 55, 50, 56, 50, 57, 51, 48, 51, 49, 51, 50, 51, 51, 51, 52, 51, 53, 51, 54, 51, 55, 51, 56, 51, 57, 52, 48, 52, 49, 52, 50, 52, 51, 52, 52, 52, 53, 52, 54, 52, 55, 52, 56, 52, 57, 53, 48, 53, 49, 53, 50, 53, 51, 53, 52, 53, 53, 53, 54, 53, 55, 53, 56, 53, 57, 54, 48, 54, 49, 54, 50, 54, 51, 54, 52, 54, 53, 54, 54, 54, 55, 54, 56, 54, 57, 55, 48, 55, 49, 55, 50, 55, 51, 55, 52, 55, 53, 55, 54, 55, 55, 55, 56, 55, 57, 56, 48, 56, 49, 56, 50, 56, 51, 56, 52, 56, 53, 56, 54, 56, 55, 56, 56, 56, 57, 57, 48, 57, 49, 57, 50, 57, 51, 57, 52, 57, 53, 57, 54, 57, 55, 57, 56, 57, 57]⟩ : ByteArray).extract (n * 2) (n * 2 + 2)
/-- the mark of a number -/
def wordB (n : Nat) : ByteArray := ⟨#[35]⟩ ++ smallB n

theorem smallB_size (n : Nat) : (smallB n).size ≤ 2 := by
  unfold smallB
  split
  · rw [ByteArray.size_extract]; omega
  · rw [ByteArray.size_extract]; omega
theorem wordB_size (n : Nat) : (wordB n).size ≤ 3 := by
  have := smallB_size n
  unfold wordB
  rw [ByteArray.size_append]
  have h : (⟨#[35]⟩ : ByteArray).size = 1 := rfl
  omega

set_option maxRecDepth 100000 in
set_option maxHeartbeats 400000 in
theorem small_any (n : Nat) (hn : n < 100) (w : World) :
    Calls Tryz.prog 125 #[.int .i64 n] w fun e w' => e = .returned (.string (smallB n)) ∧ w' = w := by
  by_cases h : n < 10
  · have i1 : (n : Int) < 10 := by omega
    go_enter Tryz.func125, Tryz.ntmps125
    go_wp2
    go_ret
    refine ⟨?_, rfl⟩
    rw [smallB, if_pos h]
    rfl
  · have i1 : (10 : Int) ≤ (n : Int) := by omega
    have i2 : (n : Int) < 100 := by omega
    go_enter Tryz.func125, Tryz.ntmps125
    go_wp2
    go_ret
    refine ⟨?_, rfl⟩
    rw [smallB, if_neg h]
    rfl

set_option maxHeartbeats 400000 in
theorem formatInt_any (n : Nat) (hn : n < 100) (w : World) :
    Calls Tryz.prog 118 #[.int .i64 n, .int .i64 10] w fun e w' => e = .returned (.string (smallB n)) ∧ w' = w := by
  have i2 : (n : Int) < 100 := by omega
  have i3 : (0 : Int) ≤ (n : Int) := by omega
  go_enter Tryz.func118, Tryz.ntmps118
  go_wp2_with fail
  refine (small_any n hn w).mono ?_
  rintro e w1 ⟨rfl, e1⟩
  obtain rfl := e1.symm
  go_wp2
  go_ret
  exact ⟨rfl, rfl⟩

theorem iitoa_any (n : Nat) (hn : n < 100) (w : World) :
    Calls Tryz.prog 106 #[.int .i64 n] w fun e w' => e = .returned (.string (smallB n)) ∧ w' = w := by
  go_enter Tryz.func106, Tryz.ntmps106
  go_wp2_with fail
  refine (formatInt_any n hn w).mono ?_
  rintro e w1 ⟨rfl, e1⟩
  obtain rfl := e1.symm
  go_wp2
  go_ret
  exact ⟨rfl, rfl⟩

theorem itoa_any (n : Nat) (hn : n < 100) (w : World) :
    Calls Tryz.prog 72 #[.int .i64 n] w fun e w' => e = .returned (.string (smallB n)) ∧ w' = w := by
  go_enter Tryz.func72, Tryz.ntmps72
  go_wp2_with fail
  refine (iitoa_any n hn w).mono ?_
  rintro e w1 ⟨rfl, e1⟩
  obtain rfl := e1.symm
  go_wp2
  go_ret
  exact ⟨rfl, rfl⟩

theorem word_any (n : Nat) (hn : n < 100) (w : World) :
    Calls Tryz.prog 18 #[.int .i64 n] w fun e w' => e = .returned (.string (wordB n)) ∧ w' = w := by
  have hs := smallB_size n
  go_enter Tryz.func18, Tryz.ntmps18
  go_wp2_with fail
  refine (itoa_any n hn w).mono ?_
  rintro e w1 ⟨rfl, e1⟩
  obtain rfl := e1.symm
  go_wp2
  go_ret
  exact ⟨rfl, rfl⟩
end Go.Proofs.YtjinhkdncenhdaaGreatDoor
