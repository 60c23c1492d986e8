/- orders: all, one, ordered, turned, Check. orders: ordered. orders: turned. -/
import Derived.Test.YtcgnbpjbpbabaaaGreatDoorMg06
import Derived.Outline
import Derived.Laws.BitsAllLaws
import Derived.Laws.MakeOwn
section
set_option linter.unusedVariables false
set_option linter.unusedSimpArgs false
namespace Go.Proofs.YtcgnbpjbpbabaaaGreatDoor
open Go.RowKit

theorem wrap_u64_nat (a : Nat) (h : a < 18446744073709551616) : IntKind.u64.wrap (a : Int) = (a : Int) := by rw [IntKind.wrap_u64]; omega
theorem wrap_pow (n : Nat) (hn : n ≤ 64) : IntKind.u64.wrap (IntKind.u64.wrap ((2 : Int) ^ n) - 1) = ((2 ^ n - 1 : Nat) : Int) := by
  have h2 : ((2 : Int) ^ n) = ((2 ^ n : Nat) : Int) := by simp
  have hp : 0 < 2 ^ n := Nat.two_pow_pos n
  have hle : 2 ^ n ≤ 2 ^ 64 := Nat.pow_le_pow_right (by omega) hn
  rw [h2, IntKind.wrap_u64, IntKind.wrap_u64]
  obtain ⟨p, hp2⟩ : ∃ p, 2 ^ n = p := ⟨_, rfl⟩
  rw [hp2] at hp hle ⊢
  omega
theorem all_any (n : Nat) (hn : n ≤ 64) (w : World) :
    Calls Tryz.prog 49 #[.int .i64 n] w fun e w' => e = .returned (.int .u64 ((2 ^ n - 1 : Nat))) ∧ w' = w := by
  have i1 : (n : Int) ≤ 64 := by omega
  go_enter Tryz.func49, Tryz.ntmps49
  go_wp2
  go_ret
  refine ⟨?_, rfl⟩
  rw [← wrap_pow n hn]
  rfl


theorem testBit_lt {s n k : Nat} (hs : s < 2 ^ n) (hk : s.testBit k = true) : k < n := by
  rcases Nat.lt_or_ge k n with h | h
  · exact h
  · rw [Nat.testBit_lt_two_pow (Nat.lt_of_lt_of_le hs (Nat.pow_le_pow_right (by omega) h))] at hk
    cases hk

theorem num_at {w : World} {A : Option Addr} {n k : Nat} {l : List Nat} (h : Sl rNum 1 w A n l) (hk : k < n) : ∃ b o, A = some ⟨b, o, none⟩ ∧ l.getD k 0 < 18446744073709551616 ∧ l[k]? = some (l.getD k 0) ∧ w.cell? ⟨b, o + k, none⟩ = some (.int .u64 (l.getD k 0)) := by
  obtain ⟨b, o, x, cs, e, hx, ⟨rfl, hu⟩, _, hc⟩ := h.at_ hk (by omega)
  have := hc 0 _ rfl
  rw [Nat.mul_one, Nat.add_zero] at this
  have hd : l.getD k 0 = x := by rw [List.getD_eq_getElem?_getD, hx]; rfl
  exact ⟨b, o, e, by rw [hd]; exact hu, by rw [hd]; exact hx, by rw [hd]; exact this⟩

set_option maxHeartbeats 1000000 in
theorem one_any (s : Nat) (A : Option Addr) (n c : Nat) (l : List Nat) (w : World) (h : Sl rNum 1 w A n l) (hT : Tabs w) (hn : n ≤ 64) (hs : s < 2 ^ n) :
    Calls Tryz.prog 52 #[.int .u64 s, .slice A n c] w fun e w' => e = .returned (.bool (oneB s l)) ∧ w' = w := by
  have hl := h.1
  have hs64 : s < 18446744073709551616 := Nat.lt_of_lt_of_le hs (Nat.pow_le_pow_right (n := 2) (by omega) hn)
  have Hl := Lib.hid hl
  clear hl
  go_enter Tryz.func52, Tryz.ntmps52
  go_wp2
  go_loopw [5] (fun v w' => ∃ m : Nat, v = .int .u64 m ∧ m < 18446744073709551616 ∧ w' = w ∧ (∀ k, m.testBit k = true → s.testBit k = true) ∧ (∀ k, s.testBit k = true → m.testBit k = false → (l.getD k 0 &&& s == s) = false)) (fun v _ => (intOf v).toNat)
  case atStart => exact ⟨s, rfl, hs64, rfl, fun _ h => h, fun k h1 h2 => by rw [h1] at h2; cases h2⟩
  case round =>
    obtain ⟨m, rfl, hm, e1, hsub, hno⟩ := hrel
    obtain rfl := e1.symm
    have Hsub := Lib.hid hsub
    have Hno := Lib.hid hno
    clear hsub hno
    by_cases h0 : m = 0
    · subst h0
      go_wp2
      go_ret
      refine ⟨ret_bool ?_, rfl⟩
      rw [eq_comm, oneB, List.any_eq_false]
      intro k _
      cases hk : s.testBit k
      · simp
      · have := Hno.out k hk (by simp)
        rw [List.getD_eq_getElem?_getD] at this
        simpa using this
    · have z : ((m : Int) == 0) = false := by simp; omega
      obtain ⟨hc64, hct, hlt, hbits⟩ := low_bits m h0 hm
      have cT := tz64_any m hm w hT
      obtain ⟨k, hk⟩ : ∃ k, Lib.ctz 64 m = k := ⟨_, rfl⟩
      rw [hk] at hc64 hct hbits cT
      clear hk
      have hkn : k < n := testBit_lt hs (Hsub.out k hct)
      obtain ⟨b, o, rfl, hr64, hlk, hcell⟩ := num_at h hkn
      have Hct := Lib.hid hct
      have Hbits := Lib.hid hbits
      have Hlk := Lib.hid hlk
      clear hct hbits hlk
      obtain ⟨r, hr⟩ : ∃ r, l.getD k 0 = r := ⟨_, rfl⟩
      rw [hr] at hr64 hcell
      have Hr := Lib.hid hr
      clear hr
      have i1 : (k : Int) < (n : Int) := by omega
      have ea := bits_and_u64_nat r s hr64 hs64
      have ew : IntKind.u64.wrap ((m : Int) - 1) = ((m - 1 : Nat) : Int) := by rw [IntKind.wrap_u64]; omega
      have em := bits_and_u64_nat m (m - 1) hm (by omega)
      go_wp2_with fail
      refine cT.mono ?_
      rintro e w1 ⟨rfl, e1⟩
      obtain rfl := e1.symm
      cases hb : (r &&& s == s)
      · have hb' : (((r &&& s : Nat) : Int) == (s : Int)) = false := by
          rw [beq_eq_false_iff_ne] at hb ⊢
          omega
        go_wp2_with fail
        refine ⟨⟨m &&& (m - 1), by simp only [ew, em], by have := Nat.and_le_left (n := m) (m := m - 1); omega, trivial, fun j hj => ?_, fun j h1 h2 => ?_⟩, by simp only [ew, em, intOf]; omega⟩
        · rw [Hbits.out, Bool.and_eq_true] at hj
          exact Hsub.out j hj.1
        · by_cases hjk : j = k
          · subst hjk
            rw [Hr.out]
            exact hb
          · refine Hno.out j h1 ?_
            rw [Hbits.out] at h2
            simpa [hjk] using h2
      · have hb' : (((r &&& s : Nat) : Int) == (s : Int)) = true := by
          rw [beq_iff_eq] at hb ⊢
          omega
        go_wp2_with fail
        go_ret
        refine ⟨ret_bool ?_, rfl⟩
        rw [eq_comm, oneB, List.any_eq_true]
        refine ⟨k, ?_, ?_⟩
        · rw [List.mem_range]
          have := (List.getElem?_eq_some_iff.1 Hlk.out).1
          exact this
        · rw [Hr.out, hb, Hsub.out k Hct.out]
          rfl
end Go.Proofs.YtcgnbpjbpbabaaaGreatDoor
end

section
set_option linter.unusedVariables false
set_option linter.unusedSimpArgs false
set_option maxRecDepth 100000
set_option maxHeartbeats 1000000
namespace Go.Proofs.YtcgnbpjbpbabaaaGreatDoor
open Go.RowKit

theorem shr_and1 (r i : Nat) (hr : r < 18446744073709551616) : bits .and .u64 ((r : Int) / 2 ^ i) 1 = if r.testBit i then 1 else 0 := by
  have h1 : ((r : Int) / 2 ^ i) = ((r / 2 ^ i : Nat) : Int) := by simp
  have hlt : r / 2 ^ i < 18446744073709551616 := Nat.lt_of_le_of_lt (Nat.div_le_self _ _) hr
  have := bits_and_u64_nat (r / 2 ^ i) 1 hlt (by omega)
  rw [h1]
  rw [show ((1 : Nat) : Int) = 1 from rfl] at this
  rw [this, Nat.testBit_eq_decide_div_mod_eq, Nat.and_one_is_mod]
  by_cases h : r / 2 ^ i % 2 = 1
  · simp [h]
  · have : r / 2 ^ i % 2 = 0 := by omega
    simp [this]
theorem andNot_zero (a b : Nat) (ha : a < 18446744073709551616) (hb : b < 18446744073709551616) : (bits .andNot .u64 (a : Int) (b : Int) == 0) = (a &&& b == a) := by
  have := u64_andNot (a : Int) (b : Int) (by omega) (by omega) (by omega) (by omega)
  rw [this]
  simp only [Int.toNat_natCast]
  have key : a &&& (18446744073709551615 - b) = 0 ↔ a &&& b = a := by
    have tb : ∀ k, (18446744073709551615 - b).testBit k = (decide (k < 64) && !b.testBit k) := by
      intro k
      have := Nat.testBit_two_pow_sub_succ (n := 64) (x := b) (by omega) k
      rw [← this]
      congr 1
      omega
    constructor
    · intro h
      apply Nat.eq_of_testBit_eq
      intro k
      have h2 := congrArg (fun x => x.testBit k) h
      simp only [Nat.testBit_and, tb, Nat.zero_testBit] at h2
      rw [Nat.testBit_and]
      by_cases hk : k < 64
      · cases ha' : a.testBit k <;> cases hb' : b.testBit k <;> simp_all
      · rw [Nat.testBit_lt_two_pow (Nat.lt_of_lt_of_le (show a < 2 ^ 64 by omega) (Nat.pow_le_pow_right (by omega) (by omega)))]
        rfl
    · intro h
      apply Nat.eq_of_testBit_eq
      intro k
      have h2 := congrArg (fun x => x.testBit k) h
      simp only [Nat.testBit_and] at h2
      rw [Nat.testBit_and, tb, Nat.zero_testBit]
      cases ha' : a.testBit k <;> cases hb' : b.testBit k <;> simp_all
  rw [Bool.eq_iff_iff, beq_iff_eq, beq_iff_eq, ← key]
  omega

theorem ordered_any (A : Option Addr) (n c : Nat) (l : List Nat) (w : World) (h : Sl rNum 1 w A n l) (hn : n ≤ 64) :
    Calls Tryz.prog 50 #[.slice A n c] w fun e w' => e = .returned (.bool (orderedB l)) ∧ w' = w := by
  have Hl := Lib.hid h.1
  go_enter Tryz.func50, Tryz.ntmps50
  go_wp2
  go_loopw [9] (fun v w' => ∃ i : Nat, v = .int .i64 i ∧ i ≤ n ∧ w' = w ∧ ∀ k, k < i → rowOk l k = true) (fun v _ => n - (intOf v).toNat)
  case atStart => exact ⟨0, rfl, by omega, rfl, fun _ h => by omega⟩
  case round =>
    obtain ⟨i, rfl, hi, e1, hrows⟩ := hrel
    obtain rfl := e1.symm
    have Hrows := Lib.hid hrows
    clear hrows
    by_cases hlt : i < n
    · obtain ⟨b, o, rfl, hr64, hlk, hcell⟩ := num_at h hlt
      obtain ⟨r, hr⟩ : ∃ r, l.getD i 0 = r := ⟨_, rfl⟩
      rw [hr] at hr64 hcell hlk
      have Hr := Lib.hid hr
      have Hlk := Lib.hid hlk
      clear hr hlk
      have i1 : (i : Int) < (n : Int) := by omega
      have hb := shr_and1 r i hr64
      have hbad : rowOk l i = false → orderedB l = false := fun hf => by
        rw [orderedB, List.all_eq_false]
        exact ⟨i, by simp [Hl.out, hlt], by simp [hf]⟩
      have Hbad := Lib.hid hbad
      clear hbad
      cases hii : r.testBit i <;> rw [hii] at hb
      · simp only [Bool.false_eq_true, if_false] at hb
        go_wp2
        go_ret
        refine ⟨ret_bool ?_, rfl⟩
        rw [Hbad.out]
        rw [rowOk, Hr.out, hii]
        rfl
      · simp only [if_true] at hb
        have Hii := Lib.hid hii
        clear hii
        go_wp2
        clear hb
        go_loopw [21] (fun v w' => ∃ j : Nat, v = .int .i64 j ∧ j ≤ n ∧ w' = w ∧ ∀ k, k < j → pairOk l i k = true) (fun v _ => n - (intOf v).toNat)
        case atStart => exact ⟨0, rfl, by omega, rfl, fun _ h => by omega⟩
        case round =>
          obtain ⟨j, rfl, hj, e1, hp⟩ := hrel
          obtain rfl := e1.symm
          have Hp := Lib.hid hp
          clear hp
          by_cases hlt2 : j < n
          · obtain ⟨b2, o2, e2, hr642, hlk2, hcell2⟩ := num_at h hlt2
            injection e2 with e2
            injection e2 with e2 e3
            subst e2
            subst e3
            obtain ⟨q, hq⟩ : ∃ q, l.getD j 0 = q := ⟨_, rfl⟩
            rw [hq] at hr642 hcell2 hlk2
            have Hq := Lib.hid hq
            have Hlk2 := Lib.hid hlk2
            clear hq hlk2
            have j1 : (j : Int) < (n : Int) := by omega
            have hb1 := shr_and1 r j hr64
            have hb2 := shr_and1 q i hr642
            have hb3 := andNot_zero q r hr642 hr64
            have hpv : pairOk l i j = !(decide (j ≠ i) && r.testBit j && (q.testBit i || !(q &&& r == q))) := by rw [pairOk, Hr.out, Hq.out]
            have Hpv := Lib.hid hpv
            clear hpv
            have hb3n : (bits .andNot .u64 (q : Int) (r : Int) != 0) = !(q &&& r == q) := by rw [bne, hb3]
            have hstep : pairOk l i j = true → ∀ k, k < j + 1 → pairOk l i k = true := fun ht k hk => by
              by_cases hkj : k < j
              · exact Hp.out k hkj
              · obtain rfl : k = j := by omega
                exact ht
            have hbad2 : pairOk l i j = false → orderedB l = false := fun hf => by
              refine Hbad.out ?_
              rw [rowOk, Hr.out, Hii.out, Bool.true_and, List.all_eq_false]
              exact ⟨j, by simp [Hl.out, hlt2], by simp [hf]⟩
            have Hstep := Lib.hid hstep
            have Hbad2 := Lib.hid hbad2
            clear hstep hbad2 hb3
            by_cases hij : j = i
            · subst hij
              have z2 : ((j : Int) != (j : Int)) = false := by simp
              go_wp2
              exact ⟨⟨j + 1, by go_num, by omega, trivial, Hstep.out (by rw [Hpv.out]; simp)⟩, by simp [intOf]; omega⟩
            · have z : ((j : Int) != (i : Int)) = true := by rw [bne_iff_ne]; omega
              have hij' : decide (j ≠ i) = true := by simp [hij]
              cases t1 : r.testBit j <;> cases t2 : q.testBit i <;> cases t3 : (q &&& r == q) <;> rw [t1] at hb1 <;> rw [t2] at hb2 <;> rw [t3] at hb3n
              all_goals
                rw [t1, t2, t3, hij'] at Hpv
                simp only [Bool.false_eq_true, if_true, if_false, Bool.not_false, Bool.not_true] at hb1 hb2 hb3n
                clear t1 t2 t3 hij hij'
                first
                | (go_wp2; exact ⟨⟨j + 1, by go_num, by omega, trivial, Hstep.out Hpv.out⟩, by simp [intOf]; omega⟩)
                | (go_wp2; go_ret; exact ⟨ret_bool (by rw [Hbad2.out Hpv.out]), rfl⟩)
          · go_wp2
            refine ⟨⟨i + 1, by go_num, by omega, trivial, fun k hk => ?_⟩, by simp [intOf]; omega⟩
            by_cases hki : k < i
            · exact Hrows.out k hki
            · obtain rfl : k = i := by omega
              rw [rowOk, Hr.out, Hii.out, Bool.true_and, List.all_eq_true]
              intro m hm
              exact Hp.out m (by have := Hl.out; simp at hm; omega)
    · go_wp2
      go_ret
      refine ⟨ret_bool ?_, rfl⟩
      rw [eq_comm, orderedB, List.all_eq_true]
      intro k hk
      exact Hrows.out k (by have := Hl.out; simp at hk; omega)
end Go.Proofs.YtcgnbpjbpbabaaaGreatDoor
end

section
set_option linter.unusedVariables false
set_option linter.unusedSimpArgs false
set_option maxRecDepth 100000
set_option maxHeartbeats 1000000
namespace Go.Proofs.YtcgnbpjbpbabaaaGreatDoor
open Go.RowKit

theorem u64_info : (Tryz.prog.info? 35).map (fun i => (i.zero, i.size, i.bytes)) = some (some (.int .u64 0), 1, 8) := by kernel_rfl

/-- numbers, as cells -/
def numsV (l : List Nat) : Array Value := (l.map fun (x : Nat) => Value.int .u64 (x : Int)).toArray
theorem numsV_get (l : List Nat) (k : Nat) : (numsV l)[k]? = l[k]?.map fun (x : Nat) => Value.int .u64 (x : Int) := by simp [numsV]
theorem numsV_set (l : List Nat) (k x : Nat) : (numsV l).setIfInBounds k (.int .u64 (x : Int)) = numsV (l.set k x) := by
  simp [numsV, List.map_set]
theorem numsV_size (l : List Nat) : (numsV l).size = l.length := by simp [numsV]
theorem madeNums (n : Nat) : madeCells #[.int .u64 0] n = numsV (List.replicate n 0) := by
  apply Array.ext
  · simp [madeCells, numsV]
  · intro i h1 h2
    simp [madeCells, numsV, Nat.mod_one]
theorem or_u64_nat (a b : Nat) (ha : a < 18446744073709551616) (hb : b < 18446744073709551616) : bits .or .u64 (a : Int) (b : Int) = ((a ||| b : Nat) : Int) := by
  have := u64_or (a : Int) (b : Int) (by omega) (by omega) (by omega) (by omega)
  simpa using this
theorem or_lt (a b n : Nat) (ha : a < 2 ^ n) (hb : b < 2 ^ n) : a ||| b < 2 ^ n := Nat.or_lt_two_pow ha hb
theorem turnedTo_lt (l : List Nat) (j : Nat) : ∀ k, turnedTo l j k < 2 ^ k
  | 0 => by simp [turnedTo]
  | k + 1 => by
    have := turnedTo_lt l j k
    have h2 : 2 ^ k < 2 ^ (k + 1) := Nat.pow_lt_pow_right (by omega) (by omega)
    rw [turnedTo]
    split
    · exact or_lt _ _ _ (by omega) h2
    · omega
theorem wrap_two_pow (i : Nat) (hi : i < 64) : IntKind.u64.wrap ((2 : Int) ^ i) = ((2 ^ i : Nat) : Int) := by
  have h2 : ((2 : Int) ^ i) = ((2 ^ i : Nat) : Int) := by simp
  have hle : 2 ^ i < 2 ^ 64 := Nat.pow_lt_pow_right (by omega) hi
  rw [h2, IntKind.wrap_u64]
  obtain ⟨p, hp⟩ : ∃ p, 2 ^ i = p := ⟨_, rfl⟩
  rw [hp] at hle ⊢
  omega
/-- of each label those that are below it, of some rows; of those up to j of one more -/
def turnedMid (l : List Nat) (i j : Nat) : List Nat := (List.range l.length).map fun k => turnedTo l k (if k < j then i + 1 else i)
theorem turnedMid_zero (l : List Nat) (i : Nat) : turnedMid l i 0 = (List.range l.length).map fun k => turnedTo l k i := by simp [turnedMid]
theorem turnedMid_full (l : List Nat) (i : Nat) : turnedMid l i l.length = turnedMid l (i + 1) 0 := by
  rw [turnedMid_zero, turnedMid]
  apply List.map_congr_left
  intro k hk
  rw [if_pos (by simpa using hk)]
theorem turnedMid_get (l : List Nat) (i j : Nat) (hj : j < l.length) : (turnedMid l i j)[j]? = some (turnedTo l j i) := by simp [turnedMid, hj]
theorem turnedMid_set (l : List Nat) (i j : Nat) (hj : j < l.length) : (turnedMid l i j).set j (turnedTo l j (i + 1)) = turnedMid l i (j + 1) := by
  apply List.ext_getElem
  · simp [turnedMid]
  · intro k h1 h2
    rw [List.getElem_set]
    by_cases h : j = k
    · subst h
      simp [turnedMid]
    · rw [if_neg h]
      simp only [turnedMid, List.getElem_map, List.getElem_range]
      by_cases h3 : k < j
      · rw [if_pos h3, if_pos (by omega)]
      · rw [if_neg h3, if_neg (by omega)]

theorem turned_any (A : Option Addr) (n c : Nat) (l : List Nat) (w : World) (h : Sl rNum 1 w A n l) (hn : n ≤ 64) :
    Calls Tryz.prog 51 #[.slice A n c] w fun e w' => e = .returned (.slice (some ⟨w.heap.size, 0, none⟩) n n) ∧ Blk w' w.heap.size 35 (numsV (turnedL l)) ∧ Below w.heap.size w w' := by
  have Hl := Lib.hid h.1
  obtain ⟨i0, hi0, hz0, hz1, hz2⟩ := info_parts u64_info
  have hmk := fun W => run_makeSlice (P := Tryz.prog) W 23 35 i0 _ Tryz.underlying23 hi0 hz0 .i64 .i64 (n : Int) (n : Int) (by omega) (by omega) (by rw [hz1]; omega) (by rw [hz2]; omega) (by omega)
  simp only [hz1, Int.toNat_natCast, Nat.mul_one, madeNums] at hmk
  clear hz0 hz1 hz2 hi0
  go_enter Tryz.func51, Tryz.ntmps51
  go_wp2
  go_loopw [12] (fun v w' => ∃ i : Nat, v = .int .i64 i ∧ i ≤ n ∧ Below w.heap.size w w' ∧ Blk w' w.heap.size 35 (numsV (turnedMid l i 0))) (fun v _ => n - (intOf v).toNat)
  case atStart =>
    refine ⟨0, rfl, by omega, (Below.refl _ w).alloc (Nat.le_refl _) _, ?_⟩
    rw [turnedMid_zero, show ((List.range l.length).map fun k => turnedTo l k 0) = List.replicate n 0 by simp only [turnedTo, List.map_const', List.length_range, Hl.out], ← madeNums]
    exact Blk.new _ _ _
  case round =>
    obtain ⟨i, rfl, hi, hbw, hB⟩ := hrel
    clear hmk
    have hS := h.below rNum_keeps hbw
    by_cases hlt : i < n
    · obtain ⟨b, o, rfl, hr64, hlk, hcell⟩ := num_at hS hlt
      obtain ⟨r, hr⟩ : ∃ r, l.getD i 0 = r := ⟨_, rfl⟩
      rw [hr] at hr64 hcell hlk
      have Hr := Lib.hid hr
      have Hlk := Lib.hid hlk
      clear hr hlk
      have i1 : (i : Int) < (n : Int) := by omega
      have hbl : b < wr.heap.size := World.block_lt_of_cell? wr _ hcell
      go_wp2
      obtain ⟨wo, rfl⟩ : ∃ wo : World, wo = wr := ⟨_, rfl⟩
      go_loopw [19] (fun v w' => ∃ j : Nat, v = .int .i64 j ∧ j ≤ n ∧ Below w.heap.size w w' ∧ Blk w' w.heap.size 35 (numsV (turnedMid l i j))) (fun v _ => n - (intOf v).toNat)
      case atStart => exact ⟨0, rfl, by omega, hbw, hB⟩
      case round =>
        obtain ⟨j, rfl, hj, hbw2, hB2⟩ := hrel
        by_cases hlt2 : j < n
        · have j1 : (j : Int) < (n : Int) := by omega
          have hcg := hB2.cell j
          have hfg := hB2.frozen j
          rw [numsV_get, turnedMid_get l i j (by have := Hl.out; omega)] at hcg
          simp only [Option.map_some] at hcg
          have hbit := shr_and1 r j hr64
          have hlo : turnedTo l j i < 18446744073709551616 := Nat.lt_of_lt_of_le (turnedTo_lt l j i) (Nat.pow_le_pow_right (n := 2) (j := 64) (by omega) (by omega))
          have hset := hB2.set_ j (.int .u64 ((turnedTo l j (i + 1) : Nat) : Int))
          rw [numsV_set, turnedMid_set l i j (by have := Hl.out; omega)] at hset
          have Hset := Lib.hid hset
          clear hset
          cases t1 : r.testBit j <;> rw [t1] at hbit
          · simp only [Bool.false_eq_true, if_false] at hbit
            have hval : bits .or .u64 ((turnedTo l j i : Nat) : Int) 0 = ((turnedTo l j (i + 1) : Nat) : Int) := by
              rw [turnedTo, Hr.out, t1]
              have := or_u64_nat (turnedTo l j i) 0 hlo (by omega)
              simpa using this
            have Hval := Lib.hid hval
            clear hval t1
            go_wp2
            go_region
            go_wp2
            rw [Hval.out]
            exact ⟨⟨j + 1, by go_num, by omega, (hbw2.setCell (by simp) _).drew, Hset.out.drew⟩, by simp [intOf]; omega⟩
          · simp only [if_true] at hbit
            have hval : bits .or .u64 ((turnedTo l j i : Nat) : Int) (IntKind.u64.wrap (2 ^ i)) = ((turnedTo l j (i + 1) : Nat) : Int) := by
              have hp : 2 ^ i < 18446744073709551616 := Nat.pow_lt_pow_right (n := 64) (a := 2) (by omega) (by omega)
              rw [wrap_two_pow i (by omega), or_u64_nat _ _ hlo hp]
              conv => rhs; rw [turnedTo, Hr.out, t1]
              rfl
            have Hval := Lib.hid hval
            clear hval t1
            go_wp2
            go_region
            go_wp2
            rw [Hval.out]
            exact ⟨⟨j + 1, by go_num, by omega, (hbw2.setCell (by simp) _).drew, Hset.out.drew⟩, by simp [intOf]; omega⟩
        · obtain rfl : j = n := by omega
          go_wp2
          refine ⟨⟨i + 1, by go_num, by omega, hbw2, ?_⟩, by simp [intOf]; omega⟩
          have := turnedMid_full l i
          rw [Hl.out] at this
          rw [← this]
          exact hB2
    · obtain rfl : i = n := by omega
      go_wp2
      go_ret
      refine ⟨rfl, ?_, hbw⟩
      have : turnedL l = turnedMid l i 0 := by rw [turnedMid_zero, turnedL, Hl.out]
      rw [this]
      exact hB
end Go.Proofs.YtcgnbpjbpbabaaaGreatDoor
end
