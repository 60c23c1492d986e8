/- Texts, part B: Name returns what nameB says. -/
import Derived.Test.YtjinhkdncenhdaaGreatDoorTextsA
namespace Go.Proofs.YtjinhkdncenhdaaGreatDoor
open Go.RowKit

theorem hasRune_letters (r : Int) (w : World) :
    Calls Tryz.prog 24 #[.string ⟨lettersL.toArray⟩, .int .i32 r] w fun e w' => e = .returned (.bool (runeIn lettersL r)) ∧ Below w.heap.size w w' :=
  hasRune_any ⟨lettersL.toArray⟩ r w (by simpa using letters_ascii)
theorem hasRune_others (r : Int) (w : World) :
    Calls Tryz.prog 24 #[.string ⟨othersL.toArray⟩, .int .i32 r] w fun e w' => e = .returned (.bool (runeIn othersL r)) ∧ Below w.heap.size w w' :=
  hasRune_any ⟨othersL.toArray⟩ r w (by simpa using others_ascii)

/-- what the rune that stands at a place tells: it is in the table just if the byte is, and then it is one byte long -/
theorem rune_at (s : ByteArray) (pos : Nat) (h : pos < s.size) (first : Bool) :
    runeIn (if first then lettersL else othersL) ((Utf8.decode s pos).1 : Int) = (if first then letterB s[pos] else otherB s[pos]) ∧
    ((if first then letterB s[pos] else otherB s[pos]) = true → (Utf8.decode s pos).2 = 1) := by
  by_cases ha : (s[pos]'h).toNat < 128
  · rw [decode_ascii s pos h ha]
    cases first
    · exact ⟨runeIn_others _, fun _ => rfl⟩
    · exact ⟨runeIn_letters _, fun _ => rfl⟩
  · have h1 := (decode_high s pos h (by omega)).1
    have hc : ∀ c : UInt8, 128 ≤ c.toNat → letterB c = false ∧ otherB c = false := by
      intro c hc
      have : ∀ c : Fin 256, 128 ≤ c.val → letterB (UInt8.ofNat c.val) = false ∧ otherB (UInt8.ofNat c.val) = false := by decide +kernel
      have := this ⟨c.toNat, c.toNat_lt⟩ hc
      simpa using this
    obtain ⟨hl, ho⟩ := hc s[pos] (by omega)
    cases first
    · simp only [Bool.false_eq_true, if_false, ho]
      exact ⟨runeIn_high _ others_ascii _ h1, fun h => by cases h⟩
    · simp only [if_true, hl]
      exact ⟨runeIn_high _ letters_ascii _ h1, fun h => by cases h⟩

set_option maxHeartbeats 400000 in
set_option maxRecDepth 100000 in
theorem name_any (s : ByteArray) (w : World) (hs : s.size ≤ 9223372036854775807) :
    Calls Tryz.prog 11 #[.string s] w fun e w' => e = .returned (.bool (nameB s.data.toList)) ∧ Below w.heap.size w w' := by
  have hlen : s.data.toList.length = s.size := by simp
  by_cases h1 : s.size < 1
  · have hb : decide ((s.size : Int) < 1) = true := decide_eq_true (by omega)
    go_enter Tryz.func11, Tryz.ntmps11
    go_wp2
    go_ret
    refine ⟨?_, Below.refl _ _⟩
    simp only [nameB, hlen, show ¬ 1 ≤ s.size by omega, decide_false, Bool.false_and]
    rfl
  · by_cases h2 : 32 < s.size
    · go_enter Tryz.func11, Tryz.ntmps11
      go_wp2
      go_ret
      refine ⟨?_, Below.refl _ _⟩
      simp only [nameB, hlen, show ¬ s.size ≤ 32 by omega, decide_false, Bool.and_false, Bool.false_and]
      rfl
    · go_enter Tryz.func11, Tryz.ntmps11
      go_wp2
      have hlp := fun c : UInt8 => (runeIn_letters c)
      go_loopw [3, 4, 5] (fun _ _ _ w' => ∃ (pos : Nat), w'.heap[w.heap.size]? = some (.stringIter s pos) ∧ pos ≤ s.size ∧ Below w.heap.size w w' ∧ restOk (pos == 0) (s.data.toList.drop pos) = restOk true s.data.toList) (fun _ _ _ w' => s.size - w'.iterPos w.heap.size)
      case atStart => exact ⟨0, World.iter_heap w s 0, by omega, (Below.refl _ w).alloc (Nat.le_refl _) _, by simp⟩
      case round =>
        obtain ⟨pos, hit, hle, hbw, hr⟩ := hrel
        clear hlp
        by_cases hp : pos < s.size
        · have hnx : ∀ ty, (Instr.next (.pointer (some ⟨w.heap.size, 0, none⟩)) true ty).run Tryz.prog wr = _ := fun ty => Lib.run_next_any_at wr w.heap.size s pos ty hit hp
          have hd := drop_cons s pos hp
          have Hr := Lib.hid hr
          clear hr
          have Hd := Lib.hid hd
          clear hd
          have hit2 := Lib.iterAt_heap wr w.heap.size s pos (pos + (Utf8.decode s pos).2) hit
          have hbw2 := Lib.below_iterAt hbw (k := w.heap.size) (Nat.le_refl _) s (pos + (Utf8.decode s pos).2)
          obtain ⟨hra, hrw⟩ := rune_at s pos hp (pos == 0)
          obtain ⟨W, hWd⟩ : ∃ W, wr.iterAt w.heap.size s (pos + (Utf8.decode s pos).2) = W := ⟨_, rfl⟩
          rw [hWd] at hnx hit2 hbw2
          obtain ⟨rn, hrn⟩ : ∃ rn, ((Utf8.decode s pos).1 : Int) = rn := ⟨_, rfl⟩
          rw [hrn] at hnx hra
          have hit0 := Lib.hid hit
          clear hit hbw hWd hrn
          have Hw := Lib.hid hrw
          clear hrw
          have hsz : w.heap.size < W.heap.size := (Array.getElem?_eq_some_iff.1 hit2).1
          by_cases h0 : pos = 0
          · subst h0
            have h00 : (((0 : Nat) : Int) == 0) = true := rfl
            simp only [beq_self_eq_true, if_true] at hra
            have cS := hasRune_letters rn W
            rw [hra] at cS
            clear hra
            cases hb : letterB s[0] <;> rw [hb] at cS
            · go_wp2_with (go_at_call 24; refine cS.mono ?_; rintro e W' ⟨rfl, hbc⟩)
              go_ret
              refine ⟨?_, hbw2.trans (hbc.mono hbw2.size)⟩
              have h2 := Hr.out
              rw [Hd.out] at h2
              simp only [restOk, beq_self_eq_true, if_true, hb, Bool.false_and] at h2
              simp only [nameB, ← h2, Bool.and_false]
              rfl
            · go_wp2_with (go_at_call 24; refine cS.mono ?_; rintro e W' ⟨rfl, hbc⟩)
              have hw1 : (Utf8.decode s 0).2 = 1 := by simpa [hb] using Hw.out
              rw [hw1] at hit2
              have hit3 := (hbc.block _ hsz).trans hit2
              refine ⟨⟨0 + 1, hit3, by omega, hbw2.trans (hbc.mono hbw2.size), ?_⟩, ?_⟩
              · have h2 := Hr.out
                rw [Hd.out] at h2
                simp only [restOk, beq_self_eq_true, if_true, hb, Bool.true_and] at h2
                simpa using h2
              · simp only [World.iterPos, hit3, hit0.out]; omega
          · have h00 : ((pos : Int) == 0) = false := by simp; omega
            have hp0 : (pos == 0) = false := by simpa using h0
            simp only [hp0, Bool.false_eq_true, if_false] at hra
            have cS := hasRune_others rn W
            rw [hra] at cS
            clear hra hp0
            cases hb : otherB s[pos] <;> rw [hb] at cS
            · go_wp2_with (go_at_call 24; refine cS.mono ?_; rintro e W' ⟨rfl, hbc⟩)
              go_ret
              refine ⟨?_, hbw2.trans (hbc.mono hbw2.size)⟩
              have hp0 : (pos == 0) = false := by simpa using h0
              have h2 := Hr.out
              rw [Hd.out, hp0] at h2
              simp only [restOk, Bool.false_eq_true, if_false, hb, Bool.false_and] at h2
              simp only [nameB, ← h2, Bool.and_false]
              rfl
            · go_wp2_with (go_at_call 24; refine cS.mono ?_; rintro e W' ⟨rfl, hbc⟩)
              have hp0 : (pos == 0) = false := by simpa using h0
              have hw1 : (Utf8.decode s pos).2 = 1 := by simpa [hb, hp0] using Hw.out
              rw [hw1] at hit2
              have hit3 := (hbc.block _ hsz).trans hit2
              refine ⟨⟨pos + 1, hit3, by omega, hbw2.trans (hbc.mono hbw2.size), ?_⟩, ?_⟩
              · have h2 := Hr.out
                rw [Hd.out, hp0] at h2
                simp only [restOk, Bool.false_eq_true, if_false, hb, Bool.true_and] at h2
                simpa using h2
              · simp only [World.iterPos, hit3, hit0.out]; omega
        · have hnx : ∀ ty, (Instr.next (.pointer (some ⟨w.heap.size, 0, none⟩)) true ty).run Tryz.prog wr = _ := fun ty => Lib.run_next_end_at wr w.heap.size s pos ty hit hp
          have Hr := Lib.hid hr
          clear hr
          go_wp2
          go_ret
          refine ⟨?_, hbw⟩
          have h2 := Hr.out
          rw [List.drop_eq_nil_of_le (by rw [hlen]; omega)] at h2
          simp only [nameB, ← h2, hlen, restOk, show 1 ≤ s.size by omega, show s.size ≤ 32 by omega, decide_true, Bool.and_true]
          rfl
end Go.Proofs.YtjinhkdncenhdaaGreatDoor
