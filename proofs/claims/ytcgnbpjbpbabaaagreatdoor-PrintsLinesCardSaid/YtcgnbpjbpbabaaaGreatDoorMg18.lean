/- prints: label. prints: number, of whatever number. prints: effect. -/
import Derived.Test.YtcgnbpjbpbabaaaGreatDoorMg17
import Derived.Lib.AppendIntMem
import Derived.Test.YtcgnbpjbpbabaaaGreatDoorMg05
section
set_option linter.unusedVariables false
set_option linter.unusedSimpArgs false
set_option maxRecDepth 100000
set_option maxHeartbeats 2000000
namespace Go.Proofs.YtcgnbpjbpbabaaaGreatDoor
open Go.RowKit
def pctB (i : Nat) : ByteArray := ⟨#[37]⟩ ++ decB i
def labelB (l : List ByteArray) (t : Term) : ByteArray := if t.var then pctB t.n else l.getD t.n ByteArray.empty
theorem decB_small : ∀ i : Fin 64, (decB i.1).size ≤ 2 := by decide +kernel
theorem label_any (w : World) (B b : Nat) (bs f6 : List Value) (m : Value) (A : Option Addr) (n c : Nat) (l : List ByteArray) (t : Term) (h : WAt w B b (m :: .slice A n c :: f6) bs) (hS : Strs w A n l) (ht : if t.var then t.n < 64 else t.n < n) :
    Calls Tryz.prog 39 #[.pointer (some ⟨b, 0, none⟩), .agg #[.bool t.var, .int .u64 (t.n : Nat)]] w fun e w' => e = .returned (.string (labelB l t)) ∧ Below w.heap.size w w' := by
  obtain ⟨hB, hf, p, v, hp, hb, hown⟩ := h
  have hbl := hb.lt
  obtain ⟨tv, tn⟩ := t
  dsimp only at ht
  have hb1 := fun u => (Below.refl w.heap.size w).alloc (Nat.le_refl _) (.cells #[.bool u, .int .u64 (tn : Nat)] 37)
  cases tv
  · simp only [Bool.false_eq_true, if_false] at ht
    obtain ⟨b0, o0, s, cs, rfl, hsk, ⟨rfl, hsz⟩, _, hcs⟩ := (sl_strs.2 hS).at_ ht (by omega)
    have c0 := hcs 0 _ rfl
    simp only [Nat.mul_one, Nat.add_zero] at c0
    have hb0l := World.block_lt_of_cell? _ _ c0
    have c3 : w.cell? ⟨b, 3, none⟩ = some (.slice (some ⟨b0, o0, none⟩) n c) := by rw [hb.cell]; rfl
    have hv : labelB l ⟨false, tn⟩ = s := by simp [labelB, hsk]
    rw [hv]
    have i1 : (tn : Int) < (n : Int) := by omega
    have i2 : (n : Int) ≤ 9223372036854775807 := by have := hS.2.1; omega
    clear hv hcs hsk hS hp hown hb
    go_enter Tryz.func39, Tryz.ntmps39
    go_wp2_with fail
    go_region
    all_goals
      go_wp2_with fail
      go_ret
      exact ⟨rfl, (hb1 false).drew⟩
  · simp only [if_true] at ht
    have cN := number_small tn (by omega) (w.alloc (.cells #[.bool true, .int .u64 (tn : Nat)] 37))
    have CN := Lib.hid cN
    have hsz : 1 + (decB tn).size ≤ 9223372036854775807 := by
      have := decB_small ⟨tn, ht⟩
      dsimp only at this
      omega
    clear cN
    go_enter Tryz.func39, Tryz.ntmps39
    go_wp2_with fail
    refine CN.out.mono ?_
    rintro e w1 ⟨rfl, e1⟩
    obtain rfl := e1.symm
    go_wp2_with fail
    go_ret
    exact ⟨rfl, hb1 true⟩
end Go.Proofs.YtcgnbpjbpbabaaaGreatDoor
end

section
set_option linter.unusedVariables false
set_option linter.unusedSimpArgs false
set_option maxRecDepth 100000
set_option maxHeartbeats 2000000
namespace Go.Proofs.YtcgnbpjbpbabaaaGreatDoor
open Go.Sort Go.RowKit
def PowTab (w : World) : Prop := Lib.TabIs Tryz.prog w "internal/strconv.uint64pow10" .u64 Lib.pow10Tab
theorem formatUint_big (u : Nat) (h1 : 100 ≤ u) (hu64 : u < 18446744073709551616) (w : World) (htab : PowTab w) :
    Calls Tryz.prog 63 #[.int .u64 u, .int .i64 10] w fun e w' => e = .returned (.string (decB u)) ∧ Below w.heap.size w w' := by
  have hu1 : 1 ≤ u := by omega
  have hnd20 : Lib.nDigits u ≤ 20 := by have := Lib.numDigits_eq u hu1 hu64; split at this <;> omega
  have hal : Tryz.prog.arrayLen 151 = 24 := by kernel_rfl
  have hnum := Tryz.internal_strconv_numDigits u hu1 hu64 (w.alloc (.cells Lib.zeros24 151)) (Lib.tabIs_alloc htab _)
  have hH0 := Lib.holds_zero0 w 151 (Lib.nDigits u) (by omega)
  have hfmt := Tryz.internal_strconv_formatBase10 w.heap.size 0 24 u (Array.replicate (Lib.nDigits u) 0) (w.alloc (.cells Lib.zeros24 151)) hH0 (by rw [Array.size_replicate]; exact Lib.lt_pow_nDigits u) hu64 (by rw [Array.size_replicate]; omega)
  rw [Array.size_replicate] at hfmt
  have hsl : ∀ W, (Instr.sliceAt 151 (.pointer (some ⟨w.heap.size, 0, none⟩)) none (some (.int .i64 (Lib.nDigits u : Nat))) none).run Tryz.prog W = .ok (.slice (some ⟨w.heap.size, 0, none⟩) (Lib.nDigits u) 24) W := fun W => by
    rw [run_sliceAt_array_h W 151 ⟨w.heap.size, 0, none⟩ Tryz.underlying151 .i64 (Lib.nDigits u : Nat) (by omega) (by rw [hal]; omega)]
    go_simp
  have HH0 := Lib.hid hH0
  have HF := Lib.hid hfmt
  have HN := Lib.hid hnum
  have i1 : ((u : Int) < 100) = False := by simp; omega
  clear hH0 hal hfmt hnum
  go_enter Tryz.func63, Tryz.ntmps63
  go_wp2_with fail
  refine HN.out.mono ?_
  rintro e w1 ⟨rfl, e1⟩
  obtain rfl := e1.symm
  go_wp2_with fail
  refine HF.out.mono ?_
  rintro e w' ⟨rfl, k, v', dk, rfl, hF⟩
  have hcv : (convert 49 9 (.slice (some ⟨w.heap.size, 0, none⟩) (Lib.nDigits u) 24)).run Tryz.prog ((putRow (fun (b : UInt8) => Value.int .u8 (b.toNat : Int)) (w.alloc (.cells Lib.zeros24 151)) w.heap.size 0 dk).drewN k) = .ok (.string (decB u)) ((putRow (fun (b : UInt8) => Value.int .u8 (b.toNat : Int)) (w.alloc (.cells Lib.zeros24 151)) w.heap.size 0 dk).drewN k) := by
    have h := run_convert_bytes_back (P := Tryz.prog) ((putRow (fun (b : UInt8) => Value.int .u8 (b.toNat : Int)) (w.alloc (.cells Lib.zeros24 151)) w.heap.size 0 dk).drewN k) 49 9 5 ⟨w.heap.size, 0, none⟩ 24 (Lib.decDigits u) Tryz.underlying49 Tryz.underlying5 Tryz.underlying9 (fun j hj => by
      rw [Lib.row_is_numeral hF j hj, Lib.add_plain, World.cell?_drewN]
      exact cell?_putRow (fun (b : UInt8) => Value.int .u8 (b.toNat : Int)) _ w.heap.size 0 _ dk HH0.out (by rw [hF.size, Array.size_replicate]) j (by rw [hF.size]; rw [Lib.decDigits_length] at hj; exact hj))
    rw [Lib.decDigits_length] at h
    exact h
  obtain ⟨os, eo⟩ := Lib.fin_at w (.cells Lib.zeros24 151) dk k 0
  have hbl : Below w.heap.size w ((putRow (fun (b : UInt8) => Value.int .u8 (b.toNat : Int)) (w.alloc (.cells Lib.zeros24 151)) w.heap.size 0 dk).drewN k) := by rw [eo]; exact Lib.below_grow _ w (Nat.le_refl _) k os
  clear eo
  go_wp2_with fail
  go_ret
  exact ⟨rfl, hbl⟩
theorem formatUint_any (u : Nat) (hu64 : u < 18446744073709551616) (w : World) (htab : PowTab w) :
    Calls Tryz.prog 63 #[.int .u64 u, .int .i64 10] w fun e w' => e = .returned (.string (decB u)) ∧ Below w.heap.size w w' := by
  by_cases h : u < 100
  · refine (formatUint_small u h w).mono ?_
    rintro e w1 ⟨rfl, e1⟩
    obtain rfl := e1.symm
    exact ⟨rfl, Below.refl _ _⟩
  · exact formatUint_big u (by omega) hu64 w htab
theorem number_any (i : Nat) (hu64 : i < 18446744073709551616) (w : World) (htab : PowTab w) :
    Calls Tryz.prog 12 #[.int .u64 i] w fun e w' => e = .returned (.string (decB i)) ∧ Below w.heap.size w w' := by
  have CS := Lib.hid (formatUint_any i hu64 w htab)
  have cF : Calls Tryz.prog 35 #[.int .u64 i, .int .i64 10] w fun e w' => e = .returned (.string (decB i)) ∧ Below w.heap.size w w' := by
    go_enter Tryz.func35, Tryz.ntmps35
    go_wp2_with fail
    refine CS.out.mono ?_
    rintro e w1 ⟨rfl, e1⟩
    go_wp2_with fail
    go_ret
    exact ⟨rfl, e1⟩
  have CF := Lib.hid cF
  clear cF
  go_enter Tryz.func12, Tryz.ntmps12
  go_wp2_with fail
  refine CF.out.mono ?_
  rintro e w1 ⟨rfl, e1⟩
  go_wp2_with fail
  go_ret
  exact ⟨rfl, e1⟩
theorem itoa_num (i : Nat) (h : i < 100) (w : World) : Calls Tryz.prog 36 #[.int .i64 i] w fun e w' => e = .returned (.string (decB i)) ∧ w' = w := Tryz.strconv_Itoa_small i h w
/-- the digits of a number below 2^64: few, and no line's end among them -/
theorem decB_le (i : Nat) (h : i < 18446744073709551616) : (decB i).size ≤ 20 := by
  have : (decB i).size = (Lib.decDigits i).length := by simp [decB, ByteArray.size]
  rw [this, Lib.decDigits_length]
  by_cases h0 : i = 0
  · subst h0; decide +kernel
  · have := Lib.numDigits_eq i (by omega) h
    split at this <;> omega
end Go.Proofs.YtcgnbpjbpbabaaaGreatDoor
end

section
set_option linter.unusedVariables false
set_option linter.unusedSimpArgs false
set_option maxRecDepth 100000
set_option maxHeartbeats 2000000
namespace Go.Proofs.YtcgnbpjbpbabaaaGreatDoor
open Go.RowKit
/-- the effects of a set, of the first k -/
def pickB (l : List ByteArray) (N k : Nat) : List ByteArray := (List.range k).filterMap fun i => if N.testBit i then l[i]? else none
theorem pickB_succ (l : List ByteArray) (N k : Nat) : pickB l N (k + 1) = pickB l N k ++ (if N.testBit k then (l[k]?).toList else []) := by
  simp only [pickB, List.range_succ, List.filterMap_append]
  congr 1
  cases h : N.testBit k <;> simp [List.filterMap, h]
  cases l[k]? <;> rfl
theorem pickB_mem {l : List ByteArray} {N k : Nat} : ∀ s ∈ pickB l N k, s ∈ l := by
  intro s hs
  simp only [pickB, List.mem_filterMap] at hs
  obtain ⟨i, _, hi⟩ := hs
  split at hi
  · exact List.mem_of_getElem? hi
  · cases hi
theorem pickB_len (l : List ByteArray) (N k : Nat) : (pickB l N k).length ≤ k := by
  have := List.length_filterMap_le (fun i => if N.testBit i then l[i]? else none) (List.range k)
  simpa [pickB] using this
def joinB (l : List ByteArray) : ByteArray := ⟨(Lib.join (l.map (·.data.toList)) [32]).toArray⟩
def effB (l : List ByteArray) (t : Term) : ByteArray := if t.var then pctB t.n else (⟨#[60]⟩ ++ joinB (pickB l t.n l.length)) ++ ⟨#[62]⟩
theorem joinTail_le (K : Nat) : ∀ r : List (List UInt8), (∀ x ∈ r, x.length ≤ K) → (Lib.joinTail [32] r).length ≤ r.length * (K + 1)
  | [], _ => by simp [Lib.joinTail]
  | x :: r, h => by
    have ih := joinTail_le K r (fun y hy => h y (List.mem_cons_of_mem _ hy))
    have h1 := h x (List.mem_cons_self ..)
    have e : Lib.joinTail [32] (x :: r) = ([32] ++ x) ++ Lib.joinTail [32] r := by simp [Lib.joinTail]
    rw [e, List.length_append, List.length_append, show (x :: r).length = r.length + 1 from rfl, Nat.succ_mul, show [(32 : UInt8)].length = 1 from rfl]
    omega
theorem join_le (K : Nat) (xs : List (List UInt8)) (h : ∀ x ∈ xs, x.length ≤ K) : (Lib.join xs [32]).length ≤ xs.length * (K + 1) := by
  cases xs with
  | nil => simp [Lib.join_nil]
  | cons x r =>
    have h1 := h x (List.mem_cons_self ..)
    have h2 := joinTail_le K r (fun y hy => h y (List.mem_cons_of_mem _ hy))
    rw [Lib.join_cons, List.length_append, List.length_cons, Nat.succ_mul]
    omega
theorem joinB_le {K n : Nat} {l : List ByteArray} (h : ∀ s ∈ l, s.size ≤ K) (hn : l.length ≤ n) : (joinB l).size ≤ n * (K + 1) := by
  have h1 := join_le K (l.map (·.data.toList)) (by
    intro x hx
    obtain ⟨s, hs, rfl⟩ := List.mem_map.1 hx
    show s.data.toList.length ≤ K
    rw [Array.length_toList]
    exact h s hs)
  have h2 : (joinB l).size = (Lib.join (l.map (·.data.toList)) [32]).length := by simp [joinB, ByteArray.size]
  rw [List.length_map] at h1
  rw [h2]
  exact Nat.le_trans h1 (Nat.mul_le_mul_right _ hn)
/-- strings.Join of a row of one's own -/
theorem join_row (W : World) (B m : Nat) (v : Value) (xs : List ByteArray) (h : Row W B 9 1 v m (xs.map Value.string)) (hm : m = xs.length) (hm2 : m ≤ 1000) (hlen : (joinB xs).size ≤ 140737488355328) :
    Calls Tryz.prog 66 #[v, .string ⟨#[32]⟩] W fun e w' => e = .returned (.string (joinB xs)) ∧ Below W.heap.size W w' := by
  obtain ⟨A, c, rfl, hc, hcm, hr⟩ := h.reads
  by_cases h0 : m = 0
  · subst h0
    have : xs = [] := List.length_eq_zero_iff.1 hm.symm
    subst this
    refine (Tryz.strings_Join_none A c ⟨#[32]⟩ W).mono ?_
    rintro e w' ⟨rfl, e1⟩
    obtain rfl := e1.symm
    exact ⟨rfl, Below.refl _ _⟩
  · obtain ⟨g, cap, hv, _, hcell, _⟩ := h.cellAt (k := 0) (u := .string (xs[0]'(by omega))) (by simp)
    cases hv
    have hg := World.block_lt_of_cell? _ _ hcell
    subst hm
    have hl2 : (Lib.join (xs.map (·.data.toList)) (ByteArray.data ⟨#[32]⟩).toList).length ≤ 140737488355328 := by simpa [joinB, ByteArray.size] using hlen
    unfold maxLen at hcm
    exact Tryz.strings_Join g 0 c xs ⟨#[32]⟩ W (fun j x hx => by
      obtain ⟨g', cap', hv', _, hcell', _⟩ := h.cellAt (k := j) (u := .string x) (by simp [hx])
      cases hv'
      rw [Nat.zero_add]
      exact hcell') hg (by omega) hc hl2
theorem effect_any (w : World) (B b : Nat) (bs f1 f6 : List Value) (hf1 : f1.length = 3) (A : Option Addr) (n c : Nat) (l : List ByteArray) (t : Term) (h : WAt w B b (f1 ++ .slice A n c :: f6) bs) (hS : Strs w A n l) (ht : if t.var then t.n < 64 else True) (ht64 : u64 t.n) (hn : n ≤ 64) (hl32 : ∀ s ∈ l, s.size ≤ 1000) :
    Calls Tryz.prog 40 #[.pointer (some ⟨b, 0, none⟩), .agg #[.bool t.var, .int .u64 (t.n : Nat)]] w fun e w' => e = .returned (.string (effB l t)) ∧ Below w.heap.size w w' := by
  obtain ⟨hB, hf, p, v, hp, hb, hown⟩ := h
  have hbl := hb.lt
  obtain ⟨a1, a2, a3, rfl⟩ : ∃ a1 a2 a3, f1 = [a1, a2, a3] := by
    match f1, hf1 with
    | [a1, a2, a3], _ => exact ⟨a1, a2, a3, rfl⟩
  obtain ⟨tv, tn⟩ := t
  dsimp only at ht ht64
  have hb1 := fun u => (Below.refl w.heap.size w).alloc (Nat.le_refl _) (.cells #[.bool u, .int .u64 (tn : Nat)] 37)
  cases tv
  · have c5 : ∀ W, Below w.heap.size w W → W.cell? ⟨b, 5, none⟩ = some (.slice A n c) := fun W hW => by rw [(hb.below hW hbl).cell]; rfl
    have hTB := Blk.new w 37 #[.bool false, .int .u64 (tn : Nat)]
    have C5 := Lib.hid c5
    have c5 := C5.out w (Below.refl _ _)
    have HS := Lib.hid (sl_strs.2 hS)
    have hll := hS.1
    obtain ⟨i0, hi0, hz0, hz1, hz2⟩ := info_parts str_info
    have Hz0 := Lib.hid hz0
    have Hz1 := Lib.hid hz1
    have Hz2 := Lib.hid hz2
    have Hi0 := Lib.hid hi0
    have HL := Lib.hid hl32
    have HB := Lib.hid hTB
    have i3 : (n : Int) ≤ 64 := by omega
    clear hz0 hz1 hz2 hi0 hS hp hown hb hl32 ht hb1 hTB
    obtain ⟨w1, hw1⟩ : ∃ w1, w.alloc (.cells #[.bool false, .int .u64 (tn : Nat)] 37) = w1 := ⟨_, rfl⟩
    have hbw1 : Below w.heap.size w w1 := by rw [← hw1]; exact (Below.refl _ _).alloc (Nat.le_refl _) _
    have hsz1 : w1.heap.size = w.heap.size + 1 := by rw [← hw1]; simp
    have hT1 := HB.out
    have d5 := C5.out w1 hbw1
    rw [hw1] at hT1
    have t0 := hT1.cell 0
    simp at t0
    go_enter Tryz.func40, Tryz.ntmps40
    go_wp2_with fail
    go_loopw [5, 19] (fun lv iv wr => ∃ k m : Nat, iv = .int .i64 k ∧ k ≤ n ∧ Below w1.heap.size w1 wr ∧ Row wr w1.heap.size 9 1 lv m ((pickB l tn k).map Value.string) ∧ m = (pickB l tn k).length) (fun _ iv _ => n - (intOf iv).toNat)
    case atStart => exact ⟨0, 0, rfl, by omega, Below.refl _ _, Row.nil _ _ _ _, rfl⟩
    case round =>
      obtain ⟨k, m, rfl, hk, hbw, hO, hm⟩ := hrel
      have hTr := hT1.below hbw hT1.lt
      have t1 := hTr.cell 1
      simp at t1
      have hlr := hTr.lt
      by_cases hlt : k < n
      · have hbr := hbw1.trans (hbw.mono (by omega))
        have d5' := C5.out wr hbr
        obtain ⟨b0, o0, s, cs, rfl, hsk, ⟨rfl, hsz⟩, _, hcs⟩ := (HS.out.below rStr_keeps hbr).at_ hlt (by omega)
        have c0 := hcs 0 _ rfl
        simp only [Nat.mul_one, Nat.add_zero] at c0
        have i1 : (k : Int) < (n : Int) := by omega
        have hs := shr_and1 tn k ht64
        have hpk := pickB_succ l tn k
        have hpl := pickB_len l tn k
        clear hcs
        cases tb : tn.testBit k <;> rw [tb] at hs hpk <;> simp only [Bool.false_eq_true, if_false, if_true, List.append_nil] at hs hpk
        · go_wp2_with fail
          exact ⟨⟨k + 1, m, by go_num, by omega, hbw, by rw [hpk]; exact hO, by rw [hpk]; exact hm⟩, by simp [intOf]; omega⟩
        · rw [hsk] at hpk
          have Hpk := Lib.hid hpk
          clear hpk hsk
          go_wp2_with (
            refine wpList_append_row _ rfl (.tmp 28) (.tmp 37) 22 rfl w1.heap.size 9 i0 (.string ⟨#[]⟩) 1 16 Tryz.underlying22 Hi0.out Hz0.out Hz1.out Hz2.out rfl (by omega) u5 m ((pickB l tn k).map Value.string) ?_ (hO.chg (S := fun _ => False) (Chg.alloc _ _ _) (fun _ _ h => h)) ⟨wr.heap.size, 0, none⟩ 1 1 [.string s] ?_ rfl (cells_new wr #[.string s] _) ?_ ?_ ?_ ?_ ?_
            · simp [Act.eval, Act.put]
            · simp [Act.eval, Act.put]
            · simp [Value.oneCell']
            · simp only [maxLen]; omega
            · omega
            · have := hbw.size; simp; omega
            intro v3 w3 hO3 hg3 hat3
            have bw3 : Below w1.heap.size w1 w3 := (hbw.alloc hbw.size _).grown hg3 (by have := hbw.size; simp; omega) (fun k hk => (hO.lt hk).1))
          refine ⟨⟨k + 1, m + 1, by go_num, by omega, bw3, ?_, ?_⟩, by simp [intOf]; omega⟩
          · rw [Hpk.out, List.map_append]
            exact hO3
          · rw [Hpk.out, List.length_append, hm]
            rfl
      · obtain rfl : k = n := by omega
        have hpl := pickB_len l tn k
        have hjl := joinB_le (K := 1000) (fun s hs => HL.out s (pickB_mem s hs)) hpl
        have hk1 : k * (1000 + 1) ≤ 64 * 1001 := Nat.mul_le_mul_right _ (by omega)
        have cJ := join_row wr _ m u5 _ hO hm (by omega) (by omega)
        have CJ := Lib.hid cJ
        have hbr := hbw1.trans (hbw.mono (by omega))
        have hv : effB l ⟨false, tn⟩ = (⟨#[60]⟩ ++ joinB (pickB l tn k)) ++ ⟨#[62]⟩ := by simp [effB, hll]
        have HV := Lib.hid hv
        have hs1 : 1 + (joinB (pickB l tn k)).size ≤ 9223372036854775807 := by omega
        have hs3 : 1 + (joinB (pickB l tn k)).size + 1 ≤ 9223372036854775807 := by omega
        have hs2 : (⟨#[60]⟩ ++ joinB (pickB l tn k) : ByteArray).size + 1 ≤ 9223372036854775807 := by rw [ByteArray.size_append]; have : (⟨#[60]⟩ : ByteArray).size = 1 := rfl; omega
        clear cJ hjl hO hm hv hpl
        go_wp2_with fail
        refine CJ.out.mono ?_
        rintro e w2 ⟨rfl, e1⟩
        go_wp2_with fail
        go_ret
        refine ⟨by rw [HV.out]; rfl, hbr.trans (e1.mono (by have := hbw.size; omega))⟩
  · simp only [if_true] at ht
    have cN := number_small tn (by omega) (w.alloc (.cells #[.bool true, .int .u64 (tn : Nat)] 37))
    have CN := Lib.hid cN
    have hsz : 1 + (decB tn).size ≤ 9223372036854775807 := by
      have := decB_small ⟨tn, ht⟩
      dsimp only at this
      omega
    clear cN
    go_enter Tryz.func40, Tryz.ntmps40
    go_wp2_with fail
    refine CN.out.mono ?_
    rintro e w1 ⟨rfl, e1⟩
    obtain rfl := e1.symm
    go_wp2_with fail
    go_ret
    exact ⟨rfl, hb1 true⟩
end Go.Proofs.YtcgnbpjbpbabaaaGreatDoor
end
