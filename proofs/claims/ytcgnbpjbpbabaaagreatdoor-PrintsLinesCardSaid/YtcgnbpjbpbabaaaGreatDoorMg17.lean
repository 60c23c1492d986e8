/- prints: line. prints: commas.puts. prints: number, label, of small numbers. -/
import Derived.Test.YtcgnbpjbpbabaaaGreatDoorMg16
section
set_option linter.unusedVariables false
set_option linter.unusedSimpArgs false
set_option maxRecDepth 100000
set_option maxHeartbeats 2000000
namespace Go.Proofs.YtcgnbpjbpbabaaaGreatDoor
open Go.RowKit
theorem WAt.keep {w w' : World} {B b : Nat} {f bs : List Value} (h : WAt w B b f bs) (hk : ∀ g t cs, TW t → Blk w g t cs → Blk w' g t cs) : WAt w' B b f bs := by
  obtain ⟨hB, hf, p, v, hp, hb, hown⟩ := h
  exact ⟨hB, hf, p, v, hp, hk _ _ _ (.inl rfl) hb, wown_keep hown (fun g cs hg => hk _ _ _ (.inr rfl) hg)⟩
theorem WAt.alloc {w : World} {B b : Nat} {f bs : List Value} (h : WAt w B b f bs) (o : Obj) : WAt (w.alloc o) B b f bs := h.keep (fun _ _ _ _ hb => hb.alloc o)
theorem TChg.alloc {T : TypeId → Prop} {B : Nat} (w : World) (o : Obj) : TChg T B w (w.alloc o) := Chg.alloc _ w o
theorem strs_blk {w : World} {g n : Nat} {t : TypeId} {l : List ByteArray} (hB : Blk w g t (l.map Value.string).toArray) (hn : l.length = n) (hn2 : n ≤ 1000) (hsz : ∀ s ∈ l, s.size ≤ 4611686018427387904) : Strs w (some ⟨g, 0, none⟩) n l := by
  refine sl_strs.1 ⟨hn, by omega, fun _ => ⟨_, rfl, fun j x hx => ?_⟩⟩
  refine ⟨[.string x], ⟨rfl, hsz x (List.mem_of_getElem? hx)⟩, rfl, fun k u hu => ?_⟩
  have hk : k = 0 := by have := (List.getElem?_eq_some_iff.1 hu).1; simpa using this
  subst hk
  rw [add_lit', Nat.zero_add, Nat.mul_one, Nat.add_zero, hB.cell, List.getElem?_toArray, List.getElem?_map, hx]
  simpa using hu
theorem puts_at (W : World) (B b : Nat) (f bs : List Value) (l : List ByteArray) (n : Nat) (hn : l.length = n) (hn2 : n ≤ 1000) (hsz : ∀ s ∈ l, s.size ≤ 4611686018427387904) (h : WAt W B b f bs) (hlen : bs.length + (catV l).length ≤ 140737488355328) (hBw : B ≤ W.heap.size) :
    Calls Tryz.prog 32 #[.pointer (some ⟨b, 0, none⟩), .slice (some ⟨W.heap.size, 0, none⟩) n n] (W.alloc (.cells (l.map Value.string).toArray 9)) fun e w' => e = .returned (.tuple #[]) ∧ WAt w' B b f (bs ++ catV l) ∧ TChg TW B W w' := by
  have hB := Blk.new W 9 (l.map Value.string).toArray
  refine (puts_any _ B b f bs _ n n l (h.alloc _) (fun w' ht => strs_blk (ht.blk hB (by rintro (h | h) <;> cases h)) hn hn2 hsz) hlen (by simp; omega)).mono ?_
  rintro e w' ⟨rfl, h1, h2⟩
  exact ⟨rfl, h1, (TChg.alloc W _).trans h2⟩
def spB : ByteArray := ⟨#[32]⟩
def semiB : ByteArray := ⟨#[59, 10]⟩
/-- the strings of a line -/
def lineW (l : List ByteArray) : List ByteArray := l.flatMap fun s => [spB, s]
theorem lineW_snoc (l : List ByteArray) (s : ByteArray) : lineW (l ++ [s]) = lineW l ++ [spB, s] := by simp [lineW]
theorem catV_append (a c : List ByteArray) : catV (a ++ c) = catV a ++ catV c := by simp [catV]
theorem lineW_take_le (l : List ByteArray) (k : Nat) : (catV (lineW (l.take k))).length ≤ (catV (lineW l)).length := by
  have h : lineW l = lineW (l.take k) ++ lineW (l.drop k) := by rw [lineW, lineW, lineW, ← List.flatMap_append, List.take_append_drop]
  rw [h, catV_append, List.length_append]
  omega
theorem line_any (w : World) (B b : Nat) (f bs : List Value) (word : ByteArray) (A : Option Addr) (n c : Nat) (l : List ByteArray) (h : WAt w B b f bs) (hw : word.size ≤ 1000) (hS : ∀ W, TChg TW B w W → Strs W A n l) (hlen : bs.length + (catV ([word] ++ lineW l ++ [semiB])).length ≤ 140737488355328) (hBw : B ≤ w.heap.size) :
    Calls Tryz.prog 10 #[.pointer (some ⟨b, 0, none⟩), .string word, .slice A n c] w fun e w' => e = .returned (.tuple #[]) ∧ WAt w' B b f (bs ++ catV ([word] ++ lineW l ++ [semiB])) ∧ TChg TW B w w' := by
  have hl := (hS w TChg.refl).1
  have hn := (hS w TChg.refl).2.1
  have hss := (hS w TChg.refl).2.2.1
  rw [catV_append, catV_append, List.length_append, List.length_append] at hlen
  have hLs : (catV [semiB]).length = 2 := rfl
  have cP := puts_at w B b f bs [word] 1 rfl (by omega) (by intro s hs; simp at hs; subst hs; omega) h (by omega) hBw
  have CP := Lib.hid cP
  have HS := Lib.hid hS
  clear hS cP
  go_enter Tryz.func10, Tryz.ntmps10
  go_wp2_with fail
  refine CP.out.mono ?_
  rintro e w1 ⟨rfl, hW1, hT1⟩
  go_wp2_with fail
  go_loopw [14] (fun iv wr => ∃ k : Nat, iv = .int .i64 k ∧ k ≤ n ∧ WAt wr B b f (bs ++ catV ([word] ++ lineW (l.take k))) ∧ TChg TW B w wr) (fun iv _ => n - (intOf iv).toNat)
  case atStart => exact ⟨0, rfl, Nat.zero_le _, by simpa [lineW] using hW1, hT1⟩
  case round =>
    obtain ⟨k, rfl, hk, hW, hT⟩ := hrel
    have hsz := hT.size
    have hle := lineW_take_le l
    by_cases hlt : k < n
    · obtain ⟨b0, o0, s, cs, rfl, hsk, ⟨rfl, hsz'⟩, _, hcs⟩ := (sl_strs.2 (HS.out wr hT)).at_ hlt (by omega)
      have c0 := hcs 0 _ rfl
      simp only [Nat.mul_one, Nat.add_zero] at c0
      have i1 : (k : Int) < (n : Int) := by omega
      have i2 : (n : Int) ≤ 9223372036854775807 := by omega
      have htk : l.take (k + 1) = l.take k ++ [s] := by rw [List.take_add_one, hsk]; rfl
      have hle1 := hle (k + 1)
      rw [htk, lineW_snoc, catV_append, List.length_append] at hle1
      have cW := puts_at wr B b f (bs ++ catV ([word] ++ lineW (l.take k))) [spB, s] 2 rfl (by omega) (by intro x hx; simp at hx; rcases hx with rfl | rfl; exact (by decide); exact hsz') hW (by rw [List.length_append, catV_append, List.length_append]; omega) (Nat.le_trans hBw hT.size)
      have CW := Lib.hid cW
      have Htk := Lib.hid htk
      clear cW hW htk hcs hsk hle1
      go_wp2_with fail
      refine CW.out.mono ?_
      rintro e w1 ⟨rfl, hW1, ht1⟩
      go_wp2_with fail
      go_roundw
      case rel => exact ⟨k + 1, by simp, by omega, by rw [Htk.out, lineW_snoc, ← List.append_assoc, catV_append _ [spB, s], ← List.append_assoc]; exact hW1, hT.trans ht1⟩
      case measure => simp [intOf]; omega
    · obtain rfl : k = n := by omega
      rw [List.take_of_length_le (by omega)] at hW
      have cW := puts_at wr B b f (bs ++ catV ([word] ++ lineW l)) [semiB] 1 rfl (by omega) (by intro x hx; simp at hx; subst hx; decide) hW (by rw [List.length_append, catV_append, List.length_append]; omega) (Nat.le_trans hBw hT.size)
      have CW := Lib.hid cW
      clear cW hW
      go_wp2_with fail
      refine CW.out.mono ?_
      rintro e w1 ⟨rfl, hW1, ht1⟩
      go_wp2_with fail
      go_end0
      exact ⟨rfl, by rw [show word :: (lineW l ++ [semiB]) = ([word] ++ lineW l) ++ [semiB] from rfl, catV_append ([word] ++ lineW l), ← List.append_assoc]; exact hW1, hT.trans ht1⟩
end Go.Proofs.YtcgnbpjbpbabaaaGreatDoor
end

section
set_option linter.unusedVariables false
set_option linter.unusedSimpArgs false
set_option maxRecDepth 100000
set_option maxHeartbeats 2000000
namespace Go.Proofs.YtcgnbpjbpbabaaaGreatDoor
open Go.RowKit
def commaB : ByteArray := ⟨#[44]⟩
def leB : ByteArray := ⟨#[32, 60, 61, 32]⟩
def TC (t : TypeId) : Prop := TW t ∨ t = 87
theorem TChg.mono {T T' : TypeId → Prop} {B : Nat} {X Y : World} (h : TChg T B X Y) (hT : ∀ t, T t → T' t) : TChg T' B X Y :=
  Chg.mono h (fun _ ⟨h1, t, cs, ht, hb⟩ => ⟨h1, t, cs, hT t ht, hb⟩)
theorem TChg.tc {B : Nat} {X Y : World} (h : TChg TW B X Y) : TChg TC B X Y := h.mono (fun _ => .inl)
def comW (sm : Bool) (x y : ByteArray) : List ByteArray := (if sm then [commaB] else []) ++ [spB, x, leB, y]
theorem cputs_any (w : World) (B b cb : Nat) (f bs : List Value) (sm : Bool) (x y : ByteArray) (h : WAt w B b f bs) (hC : Blk w cb 87 #[.pointer (some ⟨b, 0, none⟩), .bool sm]) (hcb : B ≤ cb) (hx : x.size ≤ 4611686018427387904) (hy : y.size ≤ 4611686018427387904) (hlen : bs.length + (catV (comW sm x y)).length ≤ 140737488355328) (hBw : B ≤ w.heap.size) :
    Calls Tryz.prog 34 #[.pointer (some ⟨cb, 0, none⟩), .string x, .string y] w fun e w' => e = .returned (.tuple #[]) ∧ WAt w' B b f (bs ++ catV (comW sm x y)) ∧ Blk w' cb 87 #[.pointer (some ⟨b, 0, none⟩), .bool true] ∧ TChg TC B w w' := by
  have hset : ∀ W u, Blk W cb 87 #[.pointer (some ⟨b, 0, none⟩), .bool u] → Blk (W.setCell ⟨cb, 1, none⟩ (.bool true)) cb 87 #[.pointer (some ⟨b, 0, none⟩), .bool true] := fun W u hW => by
    have := hW.set_ 1 (.bool true)
    simpa using this
  have hWset : ∀ W bs', WAt W B b f bs' → (∃ u, Blk W cb 87 #[.pointer (some ⟨b, 0, none⟩), .bool u]) → WAt (W.setCell ⟨cb, 1, none⟩ (.bool true)) B b f bs' := fun W bs' hW ⟨u, hu⟩ =>
    hW.keep (fun g t cs ht hg => hg.far (p := ⟨cb, 1, none⟩) (by
      intro e
      subst e
      exact hg.ne_ hu (by rcases ht with rfl | rfl <;> intro h <;> cases h) rfl) _)
  -- the last four
  have hlast : ∀ W bs', WAt W B b f bs' → Blk W cb 87 #[.pointer (some ⟨b, 0, none⟩), .bool true] → bs'.length + (catV [spB, x, leB, y]).length ≤ 140737488355328 → B ≤ W.heap.size →
      Calls Tryz.prog 32 #[.pointer (some ⟨b, 0, none⟩), .slice (some ⟨W.heap.size, 0, none⟩) 4 4] (W.alloc (.cells #[.string spB, .string x, .string leB, .string y] 9)) fun e w' => e = .returned (.tuple #[]) ∧ WAt w' B b f (bs' ++ catV [spB, x, leB, y]) ∧ TChg TW B W w' := fun W bs' hW _ hl hB =>
    puts_at W B b f bs' [spB, x, leB, y] 4 rfl (by omega) (by intro s hs; simp at hs; rcases hs with rfl | rfl | rfl | rfl; exact (by decide); exact hx; exact (by decide); exact hy) hW hl hB
  have Hlast := Lib.hid hlast
  have Hset := Lib.hid hset
  have HWset := Lib.hid hWset
  clear hlast hset hWset
  have c0 := hC.cell 0
  have c1 := hC.cell 1
  have f1 := hC.frozen 1
  simp at c0 c1
  have hcl := hC.lt
  cases sm
  · have hlen' : bs.length + (catV [spB, x, leB, y]).length ≤ 140737488355328 := by simpa [comW] using hlen
    clear hlen
    have hC1 := Hset.out w _ hC
    have hW1 := HWset.out w _ h ⟨_, hC⟩
    have cL := Hlast.out _ bs hW1 hC1 hlen' (by simpa using hBw)
    rw [World.size_setCell] at cL
    have CL := Lib.hid cL
    have d0 := hC1.cell 0
    simp at d0
    have hT1 : TChg TC B w (w.setCell ⟨cb, 1, none⟩ (.bool true)) := TChg.set_ hC (Or.inr rfl) hcb _
    clear cL
    go_enter Tryz.func34, Tryz.ntmps34
    go_wp2_with fail
    refine CL.out.mono ?_
    rintro e w1 ⟨rfl, hW2, ht2⟩
    go_wp2_with fail
    go_end0
    exact ⟨rfl, by simpa [comW] using hW2, ht2.blk hC1 (by rintro (h | h) <;> cases h), hT1.trans ht2.tc⟩
  · have hlen' : bs.length + ((catV [commaB]).length + (catV [spB, x, leB, y]).length) ≤ 140737488355328 := by
      rw [comW, if_pos rfl, catV_append, List.length_append] at hlen
      exact hlen
    clear hlen
    have cP := puts_at w B b f bs [commaB] 1 rfl (by omega) (by intro s hs; simp at hs; subst hs; decide) h (by omega) hBw
    have CP := Lib.hid cP
    clear cP
    go_enter Tryz.func34, Tryz.ntmps34
    go_wp2_with fail
    refine CP.out.mono ?_
    rintro e w1 ⟨rfl, hW1, ht1⟩
    have hCa := ht1.blk hC (by rintro (h | h) <;> cases h)
    have hC1 := Hset.out w1 _ hCa
    have hW2 := HWset.out w1 _ hW1 ⟨_, hCa⟩
    have cL := Hlast.out _ (bs ++ catV [commaB]) hW2 hC1 (by rw [List.length_append]; omega) (by have := ht1.size; simp; omega)
    rw [World.size_setCell] at cL
    have CL := Lib.hid cL
    have a1 := hCa.cell 1
    have a0 := hCa.cell 0
    have f1 := hCa.frozen 1
    have d0 := hC1.cell 0
    simp at d0 a0 a1
    have hT1 : TChg TC B w1 (w1.setCell ⟨cb, 1, none⟩ (.bool true)) := TChg.set_ hCa (Or.inr rfl) hcb _
    clear cL
    go_wp2_with fail
    refine CL.out.mono ?_
    rintro e w2 ⟨rfl, hW3, ht2⟩
    go_wp2_with fail
    go_end0
    exact ⟨rfl, by rw [comW, if_pos rfl, catV_append, ← List.append_assoc]; exact hW3, ht2.blk hC1 (by rintro (h | h) <;> cases h), ht1.tc.trans (hT1.trans ht2.tc)⟩
end Go.Proofs.YtcgnbpjbpbabaaaGreatDoor
end

section
set_option linter.unusedVariables false
set_option linter.unusedSimpArgs false
set_option maxRecDepth 100000
set_option maxHeartbeats 2000000
namespace Go.Proofs.YtcgnbpjbpbabaaaGreatDoor
open Go.RowKit
def decB (i : Nat) : ByteArray := ⟨(Lib.decDigits i).toArray⟩
theorem formatUint_small (i : Nat) (h : i < 100) (w : World) :
    Calls Tryz.prog 63 #[.int .u64 i, .int .i64 10] w fun e w' => e = .returned (.string (decB i)) ∧ w' = w := by
  have cS := Tryz.internal_strconv_small i h w
  have CS := Lib.hid cS
  have i1 : (i : Int) < 100 := by omega
  clear cS
  go_enter Tryz.func63, Tryz.ntmps63
  go_wp2_with fail
  refine CS.out.mono ?_
  rintro e w1 ⟨rfl, e1⟩
  obtain rfl := e1.symm
  go_wp2_with fail
  go_ret
  exact ⟨rfl, rfl⟩
theorem number_small (i : Nat) (h : i < 100) (w : World) :
    Calls Tryz.prog 12 #[.int .u64 i] w fun e w' => e = .returned (.string (decB i)) ∧ w' = w := by
  have CS := Lib.hid (formatUint_small i h w)
  have cF : Calls Tryz.prog 35 #[.int .u64 i, .int .i64 10] w fun e w' => e = .returned (.string (decB i)) ∧ w' = w := by
    go_enter Tryz.func35, Tryz.ntmps35
    go_wp2_with fail
    refine CS.out.mono ?_
    rintro e w1 ⟨rfl, e1⟩
    obtain rfl := e1.symm
    go_wp2_with fail
    go_ret
    exact ⟨rfl, rfl⟩
  have CF := Lib.hid cF
  clear cF
  go_enter Tryz.func12, Tryz.ntmps12
  go_wp2_with fail
  refine CF.out.mono ?_
  rintro e w1 ⟨rfl, e1⟩
  obtain rfl := e1.symm
  go_wp2_with fail
  go_ret
  exact ⟨rfl, rfl⟩
end Go.Proofs.YtcgnbpjbpbabaaaGreatDoor
end
