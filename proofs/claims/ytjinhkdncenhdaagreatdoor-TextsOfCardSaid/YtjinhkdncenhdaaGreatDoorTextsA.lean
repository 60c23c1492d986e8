/- Texts, part A: what the inner functions of the text layer return. No conditions beyond sizes. -/
import Derived.Test.YtjinhkdncenhdaaGreatDoorRows
import Derived.WalkKit
import Derived.WalkSpells
import Derived.WalkLawsBesides
import Derived.Lib.Hide
import Derived.Lib.OthersKept
namespace Go.Proofs.YtjinhkdncenhdaaGreatDoor
open Go.RowKit

theorem ret_bool {a b : Bool} (h : a = b) : Ending.returned (.bool a) = .returned (.bool b) := by rw [h]
theorem ret_int {k : IntKind} {a b : Int} (h : a = b) : Ending.returned (.int k a) = .returned (.int k b) := by rw [h]

theorem width_pos (s : ByteArray) (pos : Nat) (h : pos < s.size) : 1 ≤ (Utf8.decode s pos).2 := by
  by_cases ha : (s[pos]'h).toNat < 128
  · rw [decode_ascii s pos h ha]
    exact Nat.le_refl _
  · exact (decode_high s pos h (by omega)).2

/-- is a rune the value of a byte of the text? -/
def runeIn (l : List UInt8) (r : Int) : Bool := l.any fun b => (b.toNat : Int) == r

theorem below_iter (w : World) (s : ByteArray) (pos : Nat) : Below w.heap.size w (w.iter s pos) :=
  (Below.refl _ w).alloc (Nat.le_refl _) _

theorem drop_cons (s : ByteArray) (pos : Nat) (h : pos < s.size) : s.data.toList.drop pos = s[pos] :: s.data.toList.drop (pos + 1) := by
  rw [List.drop_eq_getElem_cons (by simpa using h)]
  rfl

set_option maxHeartbeats 400000 in
set_option maxRecDepth 100000 in
theorem hasRune_any (s : ByteArray) (r : Int) (w : World) (ha : ∀ b ∈ s.data.toList, b.toNat < 128) :
    Calls Tryz.prog 24 #[.string s, .int .i32 r] w fun e w' => e = .returned (.bool (runeIn s.data.toList r)) ∧ Below w.heap.size w w' := by
  go_enter Tryz.func24, Tryz.ntmps24
  go_wp2
  go_loopw [6] (fun _ w' => ∃ (pos : Nat), w' = w.iter s pos ∧ pos ≤ s.size ∧ runeIn (s.data.toList.drop pos) r = runeIn s.data.toList r) (fun _ w' => s.size - w'.iterPos w.heap.size)
  case atStart => exact ⟨0, rfl, by omega, by simp⟩
  case round =>
    obtain ⟨pos, rfl, hle, hr⟩ := hrel
    by_cases hp : pos < s.size
    · have hasc : (s[pos]'hp).toNat < 128 := ha _ (by rw [ByteArray.getElem_eq_getElem_data]; simp)
      have hnx : ∀ ty, (Instr.next (.pointer (some ⟨w.heap.size, 0, none⟩)) true ty).run Tryz.prog (w.iter s pos) = _ := fun ty => run_next_ascii w s pos ty hp hasc
      have hd := drop_cons s pos hp
      have Hr := Lib.hid hr
      clear hr
      have Hd := Lib.hid hd
      clear hd
      go_wp2
      · go_ret
        refine ⟨?_, below_iter _ _ _⟩
        have h1 : ((s[pos].toNat : Int) == r) = true := by assumption
        have h2 := Hr.out
        rw [Hd.out] at h2
        simp only [runeIn, List.any_cons, h1, Bool.true_or] at h2
        rw [runeIn, ← h2]; rfl
      · have h1 : ((s[pos].toNat : Int) == r) = false := by assumption
        have h2 := Hr.out
        rw [Hd.out] at h2
        simp only [runeIn, List.any_cons, h1, Bool.false_or] at h2
        exact ⟨⟨pos + 1, rfl, by omega, h2⟩, by simp; omega⟩
    · have hnx : ∀ ty, (Instr.next (.pointer (some ⟨w.heap.size, 0, none⟩)) true ty).run Tryz.prog (w.iter s pos) = _ := fun ty => run_next_end w s pos ty hp
      go_wp2
      go_ret
      refine ⟨?_, below_iter _ _ _⟩
      rw [← hr, List.drop_eq_nil_of_le (by simpa using Nat.le_of_not_lt hp)]
      rfl

/-! ### What a name is -/
def letterB (c : UInt8) : Bool := (97 ≤ c && c ≤ 122) || (65 ≤ c && c ≤ 90)
def otherB (c : UInt8) : Bool := letterB c || (48 ≤ c && c ≤ 57) || c == 95
def restOk (first : Bool) : List UInt8 → Bool
  | [] => true
  | c :: r => (if first then letterB c else otherB c) && restOk false r
def nameB (l : List UInt8) : Bool := decide (1 ≤ l.length) && decide (l.length ≤ 32) && restOk true l

def lettersL : List UInt8 := [97, 98, 99, 100, 101, 102, 103, 104, 105, 106, 107, 108, 109, 110, 111, 112, 113, 114, 115, 116, 117, 118, 119, 120, 121, 122, 65, 66, 67, 68, 69, 70, 71, 72, 73, 74, 75, 76, 77, 78, 79, 80, 81, 82, 83, 84, 85, 86, 87, 88, 89, 90]
def othersL : List UInt8 := [97, 98, 99, 100, 101, 102, 103, 104, 105, 106, 107, 108, 109, 110, 111, 112, 113, 114, 115, 116, 117, 118, 119, 120, 121, 122, 65, 66, 67, 68, 69, 70, 71, 72, 73, 74, 75, 76, 77, 78, 79, 80, 81, 82, 83, 84, 85, 86, 87, 88, 89, 90, 48, 49, 50, 51, 52, 53, 54, 55, 56, 57, 95]

theorem letters_ascii : ∀ b ∈ lettersL, b.toNat < 128 := by decide
theorem others_ascii : ∀ b ∈ othersL, b.toNat < 128 := by decide
theorem runeIn_high (l : List UInt8) (h : ∀ b ∈ l, b.toNat < 128) (r : Nat) (hr : 128 ≤ r) : runeIn l r = false := by
  unfold runeIn
  rw [List.any_eq_false]
  intro b hb he
  have := h b hb
  simp at he
  omega
theorem runeIn_letters (c : UInt8) : runeIn lettersL (c.toNat : Int) = letterB c := by
  have : ∀ c : Fin 256, runeIn lettersL (((UInt8.ofNat c.val).toNat : Nat) : Int) = letterB (UInt8.ofNat c.val) := by decide +kernel
  have h := this ⟨c.toNat, c.toNat_lt⟩
  simpa using h
theorem runeIn_others (c : UInt8) : runeIn othersL (c.toNat : Int) = otherB c := by
  have : ∀ c : Fin 256, runeIn othersL (((UInt8.ofNat c.val).toNat : Nat) : Int) = otherB (UInt8.ofNat c.val) := by decide +kernel
  have h := this ⟨c.toNat, c.toNat_lt⟩
  simpa using h
end Go.Proofs.YtjinhkdncenhdaaGreatDoor
