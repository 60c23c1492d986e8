/- Texts, part L: the law's own example (alive) answers true. -/
import Derived.Test.YtjinhkdncenhdaaTextsP
set_option linter.unusedVariables false
set_option linter.unusedSimpArgs false
namespace Go.Proofs.Ytjinhkdncenhdaa
open Go.RowKit

theorem bthen {w w1 w2 : World} (h : Below w.heap.size w w1) (k : Below w1.heap.size w1 w2) : Below w.heap.size w w2 := h.trans (k.mono h.size)
theorem balloc {w w1 : World} (h : Below w.heap.size w w1) (o : Obj) : Below w.heap.size w (w1.alloc o) := h.alloc h.size o

theorem strs_new (w : World) (cur : Array Value) (e : TypeId) (l : List ByteArray) (h : cur.toList = l.map Value.string) (hl : l.length ≤ 9223372036854775807) (hs : ∀ s ∈ l, s.size ≤ 4611686018427387904) :
    Strs (w.alloc (.cells cur e)) (some ⟨w.heap.size, 0, none⟩) l.length l := by
  refine ⟨rfl, hl, hs, fun _ => ⟨_, rfl, fun j hj => ?_⟩⟩
  rw [add_lit, Nat.zero_add, World.cell?_alloc_mark, ← Array.getElem?_toList, h]
  simp [hj]
theorem strs_none (w : World) : Strs w none 0 [] := ⟨rfl, by omega, by simp, fun h => absurd h (by omega)⟩

def tx (l : List UInt8) : ByteArray := ⟨l.toArray⟩

theorem name_is (l : List UInt8) (b : Bool) (h : nameB l = b) (w : World) (hl : l.length ≤ 100) :
    Calls Try.prog 13 #[.string ⟨l.toArray⟩] w fun e w' => e = .returned (.bool b) ∧ Below w.heap.size w w' := by
  have := name_any ⟨l.toArray⟩ w (show l.length ≤ 9223372036854775807 by omega)
  rw [List.toList_toArray, h] at this
  exact this

theorem sort_bab : sortT [⟨#[98]⟩, ⟨#[97]⟩, ⟨#[98]⟩] = [⟨#[97]⟩, ⟨#[98]⟩] :=
  sortT_eq (by unfold Rise; simp; decide) (by intro x; simp only [List.mem_cons, List.not_mem_nil, or_false]; exact ⟨fun h => by rcases h with h | h | h <;> simp [h], fun h => by rcases h with h | h <;> simp [h]⟩)

set_option maxHeartbeats 1000000 in
theorem alive_any (w : World) :
    Calls Try.prog 7 #[] w fun e w' => e = .returned (.bool true) ∧ Below w.heap.size w w' := by
  have cF1 : ∀ W A c, Strs W A 2 [⟨#[97]⟩, ⟨#[99]⟩] → Calls Try.prog 10 #[.slice A 2 c, .string ⟨#[98]⟩] W fun e w' => e = .returned (.tuple #[.int .i64 1, .bool false]) ∧ Below W.heap.size W w' := by
    intro W A c h
    have := find_any A 2 c _ ⟨#[98]⟩ W h
    rw [show findN [⟨#[97]⟩, ⟨#[99]⟩] ⟨#[98]⟩ = 1 by decide +kernel, show findB [⟨#[97]⟩, ⟨#[99]⟩] ⟨#[98]⟩ = false by decide +kernel] at this
    exact this
  have cF2 : ∀ W A c, Strs W A 2 [⟨#[97]⟩, ⟨#[99]⟩] → Calls Try.prog 10 #[.slice A 2 c, .string ⟨#[99]⟩] W fun e w' => e = .returned (.tuple #[.int .i64 1, .bool true]) ∧ Below W.heap.size W w' := by
    intro W A c h
    have := find_any A 2 c _ ⟨#[99]⟩ W h
    rw [show findN [⟨#[97]⟩, ⟨#[99]⟩] ⟨#[99]⟩ = 1 by decide +kernel, show findB [⟨#[97]⟩, ⟨#[99]⟩] ⟨#[99]⟩ = true by decide +kernel] at this
    exact this
  have cS : ∀ W A c, Strs W A 3 [⟨#[98]⟩, ⟨#[97]⟩, ⟨#[98]⟩] → Calls Try.prog 8 #[.slice A 3 c] W fun e w' => ∃ A', e = .returned (.slice A' 2 2) ∧ Strs w' A' 2 [⟨#[97]⟩, ⟨#[98]⟩] ∧ Below W.heap.size W w' := by
    intro W A c h
    refine (sort_any A 3 c _ W h (by omega)).mono ?_
    rintro e w' ⟨A', m, rfl, hS, _, hb⟩
    rw [sort_bab] at hS
    obtain rfl : m = 2 := hS.1.symm
    exact ⟨A', rfl, hS, hb⟩
  have cE : ∀ W A B c d, Strs W A 2 [⟨#[97]⟩, ⟨#[98]⟩] → Strs W B 2 [⟨#[97]⟩, ⟨#[98]⟩] → Calls Try.prog 12 #[.slice A 2 c, .slice B 2 d] W fun e w' => e = .returned (.bool true) ∧ Below W.heap.size W w' := by
    intro W A B c d h h'
    have := same_any A B 2 c 2 d _ _ W h h'
    rw [(sameB_iff _ _).2 rfl] at this
    exact this
  have cO : ∀ W A c, Strs W A 2 [⟨#[97]⟩, ⟨#[97]⟩] → Calls Try.prog 9 #[.slice A 2 c] W fun e w' => e = .returned (.bool false) ∧ Below W.heap.size W w' := by
    intro W A c h
    have := sorted_any A 2 c _ W h
    rw [show sortedB [⟨#[97]⟩, ⟨#[97]⟩] = false by decide +kernel] at this
    exact this
  have cO0 : ∀ W, Calls Try.prog 9 #[.slice none 0 0] W fun e w' => e = .returned (.bool true) ∧ Below W.heap.size W w' := fun W => sorted_any none 0 0 [] W (strs_none W)
  have hF1 := Lib.hid cF1
  have hF2 := Lib.hid cF2
  have hSo := Lib.hid cS
  have hE := Lib.hid cE
  have hO := Lib.hid cO
  have hO0 := Lib.hid cO0
  clear cF1 cF2 cS cE cO cO0
  go_enter Try.func7, Try.ntmps7
  go_wp2_with fail
  refine (hF1.out _ _ _ (strs_new w #[.string ⟨#[97]⟩, .string ⟨#[99]⟩] _ _ rfl (by simp) (by decide +kernel))).mono ?_
  rintro e w1 ⟨rfl, b1⟩
  have q1 := bthen (balloc (Below.refl _ w) _) b1
  clear b1
  go_wp2_with fail
  refine (hF2.out _ _ _ (strs_new w1 #[.string ⟨#[97]⟩, .string ⟨#[99]⟩] _ _ rfl (by simp) (by decide +kernel))).mono ?_
  rintro e w2 ⟨rfl, b1⟩
  have q2 := bthen (balloc q1 _) b1
  clear b1 q1
  go_wp2_with fail
  refine (hSo.out _ _ _ (strs_new w2 #[.string ⟨#[98]⟩, .string ⟨#[97]⟩, .string ⟨#[98]⟩] _ _ rfl (by simp) (by decide +kernel))).mono ?_
  rintro e w3 ⟨A', rfl, hS, b1⟩
  have q3 := bthen (balloc q2 _) b1
  clear b1 q2
  go_wp2_with fail
  refine (hE.out _ _ _ _ _ (hS.below (balloc (Below.refl _ w3) _)) (strs_new w3 #[.string ⟨#[97]⟩, .string ⟨#[98]⟩] _ _ rfl (by simp) (by decide +kernel))).mono ?_
  rintro e w4 ⟨rfl, b1⟩
  have q4 := bthen (balloc q3 _) b1
  clear b1 q3 hS
  go_wp2_with fail
  refine (hO.out _ _ _ (strs_new w4 #[.string ⟨#[97]⟩, .string ⟨#[97]⟩] _ _ rfl (by simp) (by decide +kernel))).mono ?_
  rintro e w5 ⟨rfl, b1⟩
  have q5 := bthen (balloc q4 _) b1
  clear b1 q4
  go_wp2_with fail
  refine (hO0.out _).mono ?_
  rintro e w6 ⟨rfl, b1⟩
  have q6 := bthen q5 b1
  clear b1 q5
  go_wp2_with fail
  refine (name_is [97, 49, 95] true (by decide) _ (by simp)).mono ?_
  rintro e w7 ⟨rfl, b1⟩
  have q7 := bthen q6 b1
  clear b1 q6
  go_wp2_with fail
  refine (name_is [49, 97] false (by decide) _ (by simp)).mono ?_
  rintro e w8 ⟨rfl, b1⟩
  have q8 := bthen q7 b1
  clear b1 q7
  go_wp2_with fail
  refine (name_is [] false (by decide) _ (by simp)).mono ?_
  rintro e w9 ⟨rfl, b1⟩
  have q9 := bthen q8 b1
  clear b1 q8
  go_wp2_with fail
  refine (name_is [97, 98, 99, 100, 101, 102, 103, 104, 105, 106, 107, 108, 109, 110, 111, 112, 113, 114, 115, 116, 117, 118, 119, 120, 121, 122, 97, 98, 99, 100, 101, 102, 103] false (by decide) _ (by simp)).mono ?_
  rintro e w10 ⟨rfl, b1⟩
  have q10 := bthen q9 b1
  clear b1 q9
  go_wp2
  go_ret
  exact ⟨rfl, q10⟩
end Go.Proofs.Ytjinhkdncenhdaa
