/- How a law's statement comes of its walk: the call answers true, and what lay before the call lies as it lay. Texts, part A: what the inner functions of the text layer return. No conditions beyond sizes. Texts, part B: Name returns what nameB says. -/
import Derived.Test.YtcgnbpjbpbabaaaGreatDoorRows
import Derived.ProofKit
import Derived.Below
import Derived.Carry
import Derived.ChangeSame
import Derived.ChangeMaps5
import Derived.SliceStrings
import Derived.WalkKit
import Derived.WalkSpells
import Derived.WalkLawsBesides
import Derived.Lib.Hide
import Derived.Lib.OthersKept
section
namespace Go.Proofs.YtcgnbpjbpbabaaaGreatDoor
open Go.ChangeShapes Go.WideShapes Go.ChangeAt Go.RowKit

theorem Tryz.own : ownKnob Tryz.prog.godebug = none := by kernel_rfl
theorem Tryz.laidOut : laidOutB Tryz.prog = true := by kernel_rfl

section
variable {H : Type} {enc : TypeId × Value → H} {P : Program}

theorem trodAll_stays (hl : laidOutB P = true) {W W' : World} {sp : Nat → Bool} : ∀ {ts : List TypeId} {vs : List Value} {ds : List (DataW H)} {ps : List MemPlace},
    (∀ t ∈ ts, P.readableRec t = true ∧ t < P.types.size) → DataW.TrodAll enc P W 0 (fun _ => true) true ts vs ds ps → (∀ p ∈ ps, W.sameAt W' p) → (∀ p ∈ ps, sp p.block = true) →
    DataW.TrodAll enc P W' 0 sp true ts vs ds ps
  | [], [], [], _, _, h, _, _ => h
  | t :: ts, v :: vs, d :: ds, ps, ht, h, hs, hp => by
    obtain ⟨p, q, h1, h2, rfl⟩ := h
    exact ⟨p, q, WideElems.Trod_stays hl (ht t (by simp)).1 (ht t (by simp)).2 h1 (fun x hx => hs x (by simp [hx])) (fun x hx => hp x (by simp [hx])),
      trodAll_stays hl (fun t' h' => ht t' (by simp [h'])) h2 (fun x hx => hs x (by simp [hx])) (fun x hx => hp x (by simp [hx])), rfl⟩
  | [], [], _ :: _, _, _, h, _, _ => h.elim
  | [], _ :: _, _, _, _, h, _, _ => h.elim
  | _ :: _, [], _, _, _, h, _, _ => h.elim
  | _ :: _, _ :: _, [], _, _, h, _, _ => h.elim

/-- what a law's walk leaves is what its statement asks -/
theorem post_law {f : Func} {s : ChangeSpec} {tb : TypeId} {apart fresh handsOn again : Bool} {W W' : World} {args : Array Value} {ds gs : List (DataW H)} {before : List MemPlace}
    (hl : laidOutB P = true) (hts : ∀ t ∈ f.params.toList, P.readableRec t = true ∧ t < P.types.size) (hb : P.underlying tb = some .bool) (hres : f.resultTypes = #[tb]) (hvs : s.vars = [])
    (hspec : s.fn H ds = { results := [.lit (.bool true)], args := ds })
    (hW : DataW.Whole enc P f.params.toList s.vars apart W args.toList ds gs before) (h : Below W.heap.size W W') :
    s.post enc P f apart fresh handsOn again W args (.bool true) W' := by
  have hlt : ∀ p ∈ before, p.block < W.heap.size := fun p hp => hW.lt p hp
  have hW0 := hW
  obtain ⟨p, q, hA, hV, rfl, hz, hn⟩ := hW
  rw [hvs] at hV
  obtain ⟨rfl, rfl⟩ := trodVars_none hV
  have hs : s.fn H (ds ++ []) = { results := [.lit (.bool true)], args := ds } := by rw [List.append_nil]; exact hspec
  have hrl : (Value.bool true).resultList f.resultTypes.size = [.bool true] := by rw [hres]; rfl
  have hr : ∀ (b : Nat) (sp : Nat → Bool) (hd : Bool), DataW.TrodAll enc P W' b sp hd f.resultTypes.toList ((Value.bool true).resultList f.resultTypes.size) (s.fn H (ds ++ [])).results [] := by
    intro b sp hd
    rw [hrl, hres, hs]
    exact trodAll_mk1 (shut_bool hb _)
  have hargs : ∀ sp : Nat → Bool, (∀ x ∈ p ++ [], sp x.block = true) → DataW.TrodAll enc P W' 0 sp true f.params.toList args.toList (s.fn H (ds ++ [])).args p := by
    intro sp hsp
    rw [hs]
    exact trodAll_stays hl hts hA (fun x hx => h.same (hlt x (by simpa using hx))) (fun x hx => hsp x (by simpa using hx))
  have hvars : ∀ sp : Nat → Bool, DataW.TrodVars enc P W' sp s.vars (s.fn H (ds ++ [])).vars [] := by
    intro sp
    rw [hs, hvs]
    rfl
  refine ⟨ds, [], p ++ [], [], p, [], hW0, hr _ _ _, hargs _ (fun x hx => by simpa using hlt x hx), hvars _, World.keptBut_mono (fun x hx => ⟨hx, .inr (.inl (by simpa using hx))⟩) (h.frame (· ∈ p ++ [])), fun _ => ⟨?_, ds.cons (.lit (.bool true)), [], p ++ [], ⟨[] ++ p, [], ?_, ?_, by simp, ?_, ?_⟩, fun x hx _ => hx⟩⟩
  · exact ok_one hres rfl (okWide_bool_mk hb _)
  · rw [hrl, hres]
    have h1 : DataW.TrodAll enc P W' 0 (fun _ => true) true [tb] [.bool true] [.lit (.bool true)] [] := trodAll_mk1 (shut_bool hb _)
    have h2 := hargs (fun _ => true) (fun _ _ => rfl)
    rw [hs] at h2
    exact trodAll_append h2 h1
  · rw [hvs]; rfl
  · intro b off hp
    rw [h.frozen (hlt _ (by simpa using hp))]
    exact hz b off (by simpa using hp)
  · intro ha
    simpa using hn ha
end

theorem u8_of_wf {n : Int} (h : (Lit.int .u8 n).wf = true) : ∃ u : UInt8, n = (u.toNat : Int) := by
  have hn : 0 ≤ n ∧ n ≤ 255 := by
    simp [Lit.wf, IntKind.min, IntKind.max, IntKind.signed, IntKind.bits] at h
    omega
  refine ⟨UInt8.ofNat n.toNat, ?_⟩
  rw [UInt8.toNat_ofNat']
  omega
end Go.Proofs.YtcgnbpjbpbabaaaGreatDoor
end

section
namespace Go.Proofs.YtcgnbpjbpbabaaaGreatDoor
open Go.RowKit

theorem ret_bool {a b : Bool} (h : a = b) : Ending.returned (.bool a) = .returned (.bool b) := by rw [h]
theorem ret_int {k : IntKind} {a b : Int} (h : a = b) : Ending.returned (.int k a) = .returned (.int k b) := by rw [h]

theorem width_pos (s : ByteArray) (pos : Nat) (h : pos < s.size) : 1 ≤ (Utf8.decode s pos).2 := by
  by_cases ha : (s[pos]'h).toNat < 128
  · rw [decode_ascii s pos h ha]
    exact Nat.le_refl _
  · exact (decode_high s pos h (by omega)).2

/-- is a rune the value of a byte of the text? -/
def runeIn (l : List UInt8) (r : Int) : Bool := l.any fun b => (b.toNat : Int) == r

theorem below_iter (w : World) (s : ByteArray) (pos : Nat) : Below w.heap.size w (w.iter s pos) :=
  (Below.refl _ w).alloc (Nat.le_refl _) _

theorem drop_cons (s : ByteArray) (pos : Nat) (h : pos < s.size) : s.data.toList.drop pos = s[pos] :: s.data.toList.drop (pos + 1) := by
  rw [List.drop_eq_getElem_cons (by simpa using h)]
  rfl

set_option maxHeartbeats 400000 in
set_option maxRecDepth 100000 in
theorem hasRune_any (s : ByteArray) (r : Int) (w : World) (ha : ∀ b ∈ s.data.toList, b.toNat < 128) :
    Calls Tryz.prog 69 #[.string s, .int .i32 r] w fun e w' => e = .returned (.bool (runeIn s.data.toList r)) ∧ Below w.heap.size w w' := by
  go_enter Tryz.func69, Tryz.ntmps69
  go_wp2
  go_loopw [6] (fun _ w' => ∃ (pos : Nat), w' = w.iter s pos ∧ pos ≤ s.size ∧ runeIn (s.data.toList.drop pos) r = runeIn s.data.toList r) (fun _ w' => s.size - w'.iterPos w.heap.size)
  case atStart => exact ⟨0, rfl, by omega, by simp⟩
  case round =>
    obtain ⟨pos, rfl, hle, hr⟩ := hrel
    by_cases hp : pos < s.size
    · have hasc : (s[pos]'hp).toNat < 128 := ha _ (by rw [ByteArray.getElem_eq_getElem_data]; simp)
      have hnx : ∀ ty, (Instr.next (.pointer (some ⟨w.heap.size, 0, none⟩)) true ty).run Tryz.prog (w.iter s pos) = _ := fun ty => run_next_ascii w s pos ty hp hasc
      have hd := drop_cons s pos hp
      have Hr := Lib.hid hr
      clear hr
      have Hd := Lib.hid hd
      clear hd
      go_wp2
      · go_ret
        refine ⟨?_, below_iter _ _ _⟩
        have h1 : ((s[pos].toNat : Int) == r) = true := by assumption
        have h2 := Hr.out
        rw [Hd.out] at h2
        simp only [runeIn, List.any_cons, h1, Bool.true_or] at h2
        rw [runeIn, ← h2]; rfl
      · have h1 : ((s[pos].toNat : Int) == r) = false := by assumption
        have h2 := Hr.out
        rw [Hd.out] at h2
        simp only [runeIn, List.any_cons, h1, Bool.false_or] at h2
        exact ⟨⟨pos + 1, rfl, by omega, h2⟩, by simp; omega⟩
    · have hnx : ∀ ty, (Instr.next (.pointer (some ⟨w.heap.size, 0, none⟩)) true ty).run Tryz.prog (w.iter s pos) = _ := fun ty => run_next_end w s pos ty hp
      go_wp2
      go_ret
      refine ⟨?_, below_iter _ _ _⟩
      rw [← hr, List.drop_eq_nil_of_le (by simpa using Nat.le_of_not_lt hp)]
      rfl

/-! ### What a name is -/
def letterB (c : UInt8) : Bool := (97 ≤ c && c ≤ 122) || (65 ≤ c && c ≤ 90)
def otherB (c : UInt8) : Bool := letterB c || (48 ≤ c && c ≤ 57) || c == 95
def restOk (first : Bool) : List UInt8 → Bool
  | [] => true
  | c :: r => (if first then letterB c else otherB c) && restOk false r
def nameB (l : List UInt8) : Bool := decide (1 ≤ l.length) && decide (l.length ≤ 32) && restOk true l

def lettersL : List UInt8 := [97, 98, 99, 100, 101, 102, 103, 104, 105, 106, 107, 108, 109, 110, 111, 112, 113, 114, 115, 116, 117, 118, 119, 120, 121, 122, 65, 66, 67, 68, 69, 70, 71, 72, 73, 74, 75, 76, 77, 78, 79, 80, 81, 82, 83, 84, 85, 86, 87, 88, 89, 90]
def othersL : List UInt8 := [97, 98, 99, 100, 101, 102, 103, 104, 105, 106, 107, 108, 109, 110, 111, 112, 113, 114, 115, 116, 117, 118, 119, 120, 121, 122, 65, 66, 67, 68, 69, 70, 71, 72, 73, 74, 75, 76, 77, 78, 79, 80, 81, 82, 83, 84, 85, 86, 87, 88, 89, 90, 48, 49, 50, 51, 52, 53, 54, 55, 56, 57, 95]

theorem letters_ascii : ∀ b ∈ lettersL, b.toNat < 128 := by decide
theorem others_ascii : ∀ b ∈ othersL, b.toNat < 128 := by decide
theorem runeIn_high (l : List UInt8) (h : ∀ b ∈ l, b.toNat < 128) (r : Nat) (hr : 128 ≤ r) : runeIn l r = false := by
  unfold runeIn
  rw [List.any_eq_false]
  intro b hb he
  have := h b hb
  simp at he
  omega
theorem runeIn_letters (c : UInt8) : runeIn lettersL (c.toNat : Int) = letterB c := by
  have : ∀ c : Fin 256, runeIn lettersL (((UInt8.ofNat c.val).toNat : Nat) : Int) = letterB (UInt8.ofNat c.val) := by decide +kernel
  have h := this ⟨c.toNat, c.toNat_lt⟩
  simpa using h
theorem runeIn_others (c : UInt8) : runeIn othersL (c.toNat : Int) = otherB c := by
  have : ∀ c : Fin 256, runeIn othersL (((UInt8.ofNat c.val).toNat : Nat) : Int) = otherB (UInt8.ofNat c.val) := by decide +kernel
  have h := this ⟨c.toNat, c.toNat_lt⟩
  simpa using h
end Go.Proofs.YtcgnbpjbpbabaaaGreatDoor
end

section
namespace Go.Proofs.YtcgnbpjbpbabaaaGreatDoor
open Go.RowKit

theorem hasRune_letters (r : Int) (w : World) :
    Calls Tryz.prog 69 #[.string ⟨lettersL.toArray⟩, .int .i32 r] w fun e w' => e = .returned (.bool (runeIn lettersL r)) ∧ Below w.heap.size w w' :=
  hasRune_any ⟨lettersL.toArray⟩ r w (by simpa using letters_ascii)
theorem hasRune_others (r : Int) (w : World) :
    Calls Tryz.prog 69 #[.string ⟨othersL.toArray⟩, .int .i32 r] w fun e w' => e = .returned (.bool (runeIn othersL r)) ∧ Below w.heap.size w w' :=
  hasRune_any ⟨othersL.toArray⟩ r w (by simpa using others_ascii)

/-- what the rune that stands at a place tells: it is in the table just if the byte is, and then it is one byte long -/
theorem rune_at (s : ByteArray) (pos : Nat) (h : pos < s.size) (first : Bool) :
    runeIn (if first then lettersL else othersL) ((Utf8.decode s pos).1 : Int) = (if first then letterB s[pos] else otherB s[pos]) ∧
    ((if first then letterB s[pos] else otherB s[pos]) = true → (Utf8.decode s pos).2 = 1) := by
  by_cases ha : (s[pos]'h).toNat < 128
  · rw [decode_ascii s pos h ha]
    cases first
    · exact ⟨runeIn_others _, fun _ => rfl⟩
    · exact ⟨runeIn_letters _, fun _ => rfl⟩
  · have h1 := (decode_high s pos h (by omega)).1
    have hc : ∀ c : UInt8, 128 ≤ c.toNat → letterB c = false ∧ otherB c = false := by
      intro c hc
      have : ∀ c : Fin 256, 128 ≤ c.val → letterB (UInt8.ofNat c.val) = false ∧ otherB (UInt8.ofNat c.val) = false := by decide +kernel
      have := this ⟨c.toNat, c.toNat_lt⟩ hc
      simpa using this
    obtain ⟨hl, ho⟩ := hc s[pos] (by omega)
    cases first
    · simp only [Bool.false_eq_true, if_false, ho]
      exact ⟨runeIn_high _ others_ascii _ h1, fun h => by cases h⟩
    · simp only [if_true, hl]
      exact ⟨runeIn_high _ letters_ascii _ h1, fun h => by cases h⟩

set_option maxHeartbeats 400000 in
set_option maxRecDepth 100000 in
theorem name_any (s : ByteArray) (w : World) (hs : s.size ≤ 9223372036854775807) :
    Calls Tryz.prog 46 #[.string s] w fun e w' => e = .returned (.bool (nameB s.data.toList)) ∧ Below w.heap.size w w' := by
  have hlen : s.data.toList.length = s.size := by simp
  by_cases h1 : s.size < 1
  · have hb : decide ((s.size : Int) < 1) = true := decide_eq_true (by omega)
    go_enter Tryz.func46, Tryz.ntmps46
    go_wp2
    go_ret
    refine ⟨?_, Below.refl _ _⟩
    simp only [nameB, hlen, show ¬ 1 ≤ s.size by omega, decide_false, Bool.false_and]
    rfl
  · by_cases h2 : 32 < s.size
    · go_enter Tryz.func46, Tryz.ntmps46
      go_wp2
      go_ret
      refine ⟨?_, Below.refl _ _⟩
      simp only [nameB, hlen, show ¬ s.size ≤ 32 by omega, decide_false, Bool.and_false, Bool.false_and]
      rfl
    · go_enter Tryz.func46, Tryz.ntmps46
      go_wp2
      have hlp := fun c : UInt8 => (runeIn_letters c)
      go_loopw [3, 4, 5] (fun _ _ _ w' => ∃ (pos : Nat), w'.heap[w.heap.size]? = some (.stringIter s pos) ∧ pos ≤ s.size ∧ Below w.heap.size w w' ∧ restOk (pos == 0) (s.data.toList.drop pos) = restOk true s.data.toList) (fun _ _ _ w' => s.size - w'.iterPos w.heap.size)
      case atStart => exact ⟨0, World.iter_heap w s 0, by omega, (Below.refl _ w).alloc (Nat.le_refl _) _, by simp⟩
      case round =>
        obtain ⟨pos, hit, hle, hbw, hr⟩ := hrel
        clear hlp
        by_cases hp : pos < s.size
        · have hnx : ∀ ty, (Instr.next (.pointer (some ⟨w.heap.size, 0, none⟩)) true ty).run Tryz.prog wr = _ := fun ty => Lib.run_next_any_at wr w.heap.size s pos ty hit hp
          have hd := drop_cons s pos hp
          have Hr := Lib.hid hr
          clear hr
          have Hd := Lib.hid hd
          clear hd
          have hit2 := Lib.iterAt_heap wr w.heap.size s pos (pos + (Utf8.decode s pos).2) hit
          have hbw2 := Lib.below_iterAt hbw (k := w.heap.size) (Nat.le_refl _) s (pos + (Utf8.decode s pos).2)
          obtain ⟨hra, hrw⟩ := rune_at s pos hp (pos == 0)
          obtain ⟨W, hWd⟩ : ∃ W, wr.iterAt w.heap.size s (pos + (Utf8.decode s pos).2) = W := ⟨_, rfl⟩
          rw [hWd] at hnx hit2 hbw2
          obtain ⟨rn, hrn⟩ : ∃ rn, ((Utf8.decode s pos).1 : Int) = rn := ⟨_, rfl⟩
          rw [hrn] at hnx hra
          have hit0 := Lib.hid hit
          clear hit hbw hWd hrn
          have Hw := Lib.hid hrw
          clear hrw
          have hsz : w.heap.size < W.heap.size := (Array.getElem?_eq_some_iff.1 hit2).1
          by_cases h0 : pos = 0
          · subst h0
            have h00 : (((0 : Nat) : Int) == 0) = true := rfl
            simp only [beq_self_eq_true, if_true] at hra
            have cS := hasRune_letters rn W
            rw [hra] at cS
            clear hra
            cases hb : letterB s[0] <;> rw [hb] at cS
            · go_wp2_with (go_at_call 69; refine cS.mono ?_; rintro e W' ⟨rfl, hbc⟩)
              go_ret
              refine ⟨?_, hbw2.trans (hbc.mono hbw2.size)⟩
              have h2 := Hr.out
              rw [Hd.out] at h2
              simp only [restOk, beq_self_eq_true, if_true, hb, Bool.false_and] at h2
              simp only [nameB, ← h2, Bool.and_false]
              rfl
            · go_wp2_with (go_at_call 69; refine cS.mono ?_; rintro e W' ⟨rfl, hbc⟩)
              have hw1 : (Utf8.decode s 0).2 = 1 := by simpa [hb] using Hw.out
              rw [hw1] at hit2
              have hit3 := (hbc.block _ hsz).trans hit2
              refine ⟨⟨0 + 1, hit3, by omega, hbw2.trans (hbc.mono hbw2.size), ?_⟩, ?_⟩
              · have h2 := Hr.out
                rw [Hd.out] at h2
                simp only [restOk, beq_self_eq_true, if_true, hb, Bool.true_and] at h2
                simpa using h2
              · simp only [World.iterPos, hit3, hit0.out]; omega
          · have h00 : ((pos : Int) == 0) = false := by simp; omega
            have hp0 : (pos == 0) = false := by simpa using h0
            simp only [hp0, Bool.false_eq_true, if_false] at hra
            have cS := hasRune_others rn W
            rw [hra] at cS
            clear hra hp0
            cases hb : otherB s[pos] <;> rw [hb] at cS
            · go_wp2_with (go_at_call 69; refine cS.mono ?_; rintro e W' ⟨rfl, hbc⟩)
              go_ret
              refine ⟨?_, hbw2.trans (hbc.mono hbw2.size)⟩
              have hp0 : (pos == 0) = false := by simpa using h0
              have h2 := Hr.out
              rw [Hd.out, hp0] at h2
              simp only [restOk, Bool.false_eq_true, if_false, hb, Bool.false_and] at h2
              simp only [nameB, ← h2, Bool.and_false]
              rfl
            · go_wp2_with (go_at_call 69; refine cS.mono ?_; rintro e W' ⟨rfl, hbc⟩)
              have hp0 : (pos == 0) = false := by simpa using h0
              have hw1 : (Utf8.decode s pos).2 = 1 := by simpa [hb, hp0] using Hw.out
              rw [hw1] at hit2
              have hit3 := (hbc.block _ hsz).trans hit2
              refine ⟨⟨pos + 1, hit3, by omega, hbw2.trans (hbc.mono hbw2.size), ?_⟩, ?_⟩
              · have h2 := Hr.out
                rw [Hd.out, hp0] at h2
                simp only [restOk, Bool.false_eq_true, if_false, hb, Bool.true_and] at h2
                simpa using h2
              · simp only [World.iterPos, hit3, hit0.out]; omega
        · have hnx : ∀ ty, (Instr.next (.pointer (some ⟨w.heap.size, 0, none⟩)) true ty).run Tryz.prog wr = _ := fun ty => Lib.run_next_end_at wr w.heap.size s pos ty hit hp
          have Hr := Lib.hid hr
          clear hr
          go_wp2
          go_ret
          refine ⟨?_, hbw⟩
          have h2 := Hr.out
          rw [List.drop_eq_nil_of_le (by rw [hlen]; omega)] at h2
          simp only [nameB, ← h2, hlen, restOk, show 1 ≤ s.size by omega, show s.size ≤ 32 by omega, decide_true, Bool.and_true]
          rfl
end Go.Proofs.YtcgnbpjbpbabaaaGreatDoor
end
