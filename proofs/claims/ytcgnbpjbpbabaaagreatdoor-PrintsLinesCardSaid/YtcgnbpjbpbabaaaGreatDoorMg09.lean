/- the methods of a lattice. the methods of a lattice, second part: joins, meets, ends. the methods of effects. -/
import Derived.Test.YtcgnbpjbpbabaaaGreatDoorMg08
import Derived.Deep.QuietTactic
import Derived.BigQuiet
section
set_option linter.unusedVariables false
set_option linter.unusedSimpArgs false
set_option maxRecDepth 100000
set_option maxHeartbeats 1000000
namespace Go.Proofs.YtcgnbpjbpbabaaaGreatDoor
open Go.RowKit

theorem LatAt.many {w : World} {g : Nat} {l : List Nat} (h : LatAt w g l) : w.cell? ⟨g, 0, none⟩ = some (.int .i64 (l.length : Nat)) := by
  rw [h.2.2.cell]
  rfl
theorem LatAt.up {w : World} {g : Nat} {l : List Nat} (h : LatAt w g l) {k : Nat} (hk : k < 64) : w.cell? ⟨g, 1 + k, none⟩ = some (.int .u64 (l.getD k 0 : Nat)) := by
  rw [h.2.2.cell]
  refine latV_up_get _ _ _ _ _ ?_
  rw [List.getD_eq_getElem?_getD]
  by_cases hl : k < l.length
  · rw [List.getElem?_append_left hl, List.getElem?_eq_getElem hl]; rfl
  · rw [List.getElem?_append_right (by omega), List.getElem?_replicate, if_pos (by have := h.1; omega), List.getElem?_eq_none (by omega : l.length ≤ k)]; rfl
theorem LatAt.down {w : World} {g : Nat} {l : List Nat} (h : LatAt w g l) {k : Nat} (hk : k < 64) : w.cell? ⟨g, 65 + k, none⟩ = some (.int .u64 ((turnedL l).getD k 0 : Nat)) := by
  rw [h.2.2.cell]
  have hl64 : (l ++ List.replicate (64 - l.length) 0).length = 64 := by have := h.1; simp; omega
  have := latV_down_get l.length (l ++ List.replicate (64 - l.length) 0) (turnedL l ++ List.replicate (64 - l.length) 0) k ((turnedL l).getD k 0) (by
    rw [List.getD_eq_getElem?_getD]
    by_cases hl : k < (turnedL l).length
    · rw [List.getElem?_append_left hl, List.getElem?_eq_getElem hl]; rfl
    · rw [List.getElem?_append_right (by omega), List.getElem?_replicate, if_pos (by rw [turnedL_len] at hl ⊢; have := h.1; omega), List.getElem?_eq_none (by omega : (turnedL l).length ≤ k)]; rfl)
  rw [hl64] at this
  exact this
theorem getD_u64 {l : List Nat} (h : ∀ x ∈ l, u64 x) (k : Nat) : l.getD k 0 < 18446744073709551616 := by
  rw [List.getD_eq_getElem?_getD]
  cases hx : l[k]? with
  | none => simp
  | some x => exact h x (List.mem_of_getElem? hx)

theorem has_lat (g a : Nat) (l : List Nat) (w : World) (h : LatAt w g l) (ha : u64 a) :
    Calls Tryz.prog 158 #[.pointer (some ⟨g, 0, none⟩), .int .u64 a] w fun e w' => e = .returned (.bool ((Srt.lat l).has a)) ∧ w' = w := by
  have hm := h.many
  have hl := h.1
  unfold u64 at ha
  have i1 : (l.length : Int) ≤ 64 := by omega
  have hp : (Srt.lat l).has a = decide (a < l.length) := rfl
  have Hp := Lib.hid hp
  clear hp
  go_enter Tryz.func158, Tryz.ntmps158
  go_wp2
  go_ret
  exact ⟨ret_bool (by rw [Hp.out]), rfl⟩
end Go.Proofs.YtcgnbpjbpbabaaaGreatDoor
end

section
set_option linter.unusedVariables false
set_option linter.unusedSimpArgs false
set_option maxRecDepth 100000
set_option maxHeartbeats 1000000
namespace Go.Proofs.YtcgnbpjbpbabaaaGreatDoor
open Go.RowKit

theorem allRow_some {r : List Nat} {s k : Nat} (hk : k < 64) (h1 : s.testBit k = true) (h2 : (r.getD k 0 &&& s == s) = true) (h3 : ∀ j, j < k → s.testBit j = true → (r.getD j 0 &&& s == s) = false) : allRow r s = k := by
  have : (List.range 64).find? (fun k => s.testBit k && (r.getD k 0 &&& s == s)) = some k := by
    rw [List.find?_eq_some_iff_getElem]
    refine ⟨by rw [h1, h2]; rfl, k, by simp; exact hk, by simp, fun j hj => ?_⟩
    simp only [List.getElem_range]
    cases hb : s.testBit j
    · rfl
    · rw [h3 j hj hb]; rfl
  rw [allRow, this]
  rfl
theorem allRow_none {r : List Nat} {s : Nat} (h3 : ∀ j, j < 64 → s.testBit j = true → (r.getD j 0 &&& s == s) = false) : allRow r s = 0 := by
  have : (List.range 64).find? (fun k => s.testBit k && (r.getD k 0 &&& s == s)) = none := by
    rw [List.find?_eq_none]
    intro j hj
    cases hb : s.testBit j
    · simp
    · rw [h3 j (by simpa using hj) hb]; simp
  rw [allRow, this]
  rfl
/-- the lowest bit is below all others -/
theorem low_least (l : Nat) (h0 : l ≠ 0) (h : l < 18446744073709551616) : ∀ j, l.testBit j = true → Lib.ctz 64 l ≤ j := by
  intro j hj
  have hc : Lib.ctz 64 l = Lib.ctzFrom 64 l := by rw [Lib.ctz, if_neg h0]
  obtain ⟨m, hm, hk⟩ := Lib.ctzFrom_spec 64 l (by omega) (by omega)
  rw [hc]
  rcases Nat.lt_or_ge j (Lib.ctzFrom 64 l) with h1 | h1
  · exfalso
    rw [hm, Nat.testBit_two_pow_mul] at hj
    simp at hj
    omega
  · exact h1

def oneL (r : List Nat) (n a b : Nat) : Nat := if a < n ∧ b < n then allRow r (r.getD a 0 &&& r.getD b 0) else 0
theorem turnedL_u64 {l : List Nat} (hl : l.length ≤ 64) : ∀ x ∈ turnedL l, u64 x := fun x hx => by
  have := turnedL_lt l x hx
  have h2 := two_pow_le64 l.length hl
  unfold u64
  omega
def endL (r : List Nat) (n : Nat) : Nat := if n = 0 then 0 else allRow r (2 ^ n - 1)
end Go.Proofs.YtcgnbpjbpbabaaaGreatDoor
end

section
set_option linter.unusedVariables false
set_option linter.unusedSimpArgs false
set_option maxRecDepth 100000
set_option maxHeartbeats 1000000
namespace Go.Proofs.YtcgnbpjbpbabaaaGreatDoor
open Go.RowKit

theorem EffAt.made {w : World} {g n : Nat} (h : EffAt w g n) : w.cell? ⟨g, 0, none⟩ = some (.bool true) := by rw [h.2.cell]; rfl
theorem EffAt.all {w : World} {g n : Nat} (h : EffAt w g n) : w.cell? ⟨g, 1, none⟩ = some (.int .u64 ((2 ^ n - 1 : Nat) : Int)) := by rw [h.2.cell]; rfl

theorem there_eff (g n : Nat) (w : World) (h : EffAt w g n) :
    Calls Tryz.prog 169 #[.pointer (some ⟨g, 0, none⟩)] w fun e w' => e = .returned (.bool true) ∧ w' = w := by
  have hm := h.made
  go_enter Tryz.func169, Tryz.ntmps169
  go_wp2
  go_ret
  exact ⟨rfl, rfl⟩
/-- the slice at A reads as numbers that are sets -/
theorem sets_eff (g n : Nat) (w : World) (h : EffAt w g n) (A : Option Addr) (m c : Nat) (l : List Nat) (hS : Sl rNum 1 w A m l) :
    Calls Tryz.prog 168 #[.pointer (some ⟨g, 0, none⟩), .slice A m c] w fun e w' => e = .returned (.bool (l.all fun a => decide (a < 2 ^ n))) ∧ w' = w := by
  have ct := Lib.hid (there_eff g n w h)
  have ha := h.all
  have hl := h.1
  have hm := hS.2.1
  have Hl := Lib.hid hS.1
  have hp := Nat.two_pow_pos n
  have h2 := two_pow_le64 n hl
  obtain ⟨q, hq⟩ : ∃ q, 2 ^ n = q := ⟨_, rfl⟩
  rw [hq] at ha hp h2
  have Hq := Lib.hid hq
  clear hq
  go_enter Tryz.func168, Tryz.ntmps168
  go_wp2_with fail
  go_loopw [9] (fun v w' => ∃ i : Nat, v = .int .i64 i ∧ i ≤ m ∧ w' = w ∧ ∀ k x, l[k]? = some x → k < i → x < q) (fun v _ => m - (intOf v).toNat)
  case atStart => exact ⟨0, rfl, by omega, rfl, fun _ _ _ h => by omega⟩
  case round =>
    obtain ⟨i, rfl, hi, e1, hrows⟩ := hrel
    obtain rfl := e1.symm
    have Hrows := Lib.hid hrows
    clear hrows
    by_cases hlt : i < m
    · obtain ⟨b, o, rfl, hr64, hlk, hcell⟩ := num_at hS hlt
      obtain ⟨r, hr⟩ : ∃ r, l.getD i 0 = r := ⟨_, rfl⟩
      rw [hr] at hr64 hcell hlk
      have Hlk := Lib.hid hlk
      clear hr hlk
      have i1 : (i : Int) < (m : Int) := by omega
      have hz := andNot_zero r (q - 1) hr64 (by omega)
      have hz2 : (bits .andNot .u64 (r : Int) ((q - 1 : Nat) : Int) != 0) = !(r &&& (q - 1) == r) := by rw [bne, hz]
      have hx := and_all r n
      have Hx := Lib.hid hx
      clear hz hx
      go_wp2_with fail
      refine ct.out.mono ?_
      rintro e w1 ⟨rfl, e1⟩
      obtain rfl := e1.symm
      go_wp2_with fail
      · go_ret
        have hr' : (!(r &&& (q - 1) == r)) = true := by assumption
        refine ⟨ret_bool ?_, rfl⟩
        rw [eq_comm, List.all_eq_false]
        refine ⟨r, List.mem_of_getElem? Hlk.out, ?_⟩
        have := Hx.out
        rw [Hq.out] at this
        rw [this] at hr'
        rw [Hq.out]
        simpa using hr'
      · have hr' : (!(r &&& (q - 1) == r)) = false := by assumption
        refine ⟨⟨i + 1, by go_num, by omega, by first | rfl | trivial, fun k x hx hk => ?_⟩, by simp [intOf]; omega⟩
        by_cases hki : k < i
        · exact Hrows.out k x hx hki
        · obtain rfl : k = i := by omega
          rw [Hlk.out] at hx
          cases hx
          have := Hx.out
          rw [Hq.out] at this
          rw [this] at hr'
          simpa using hr'
    · go_wp2
      go_ret
      refine ⟨ret_bool ?_, rfl⟩
      rw [eq_comm, List.all_eq_true]
      intro x hx
      obtain ⟨k, hk, rfl⟩ := List.getElem_of_mem hx
      have := Hrows.out k _ (List.getElem?_eq_getElem hk) (by have := Hl.out; omega)
      rw [Hq.out]
      simpa using this
theorem sl_new1 (w : World) (a : Nat) (ha : u64 a) : Sl rNum 1 (w.alloc (.cells #[.int .u64 (a : Int)] 35)) (some ⟨w.heap.size, 0, none⟩) 1 [a] :=
  sl_of_nums (l := [a]) (t := 35) (Blk.new w 35 #[.int .u64 (a : Int)]) (by simp) (by simpa using ha)
theorem sl_new2 (w : World) (a b : Nat) (ha : u64 a) (hb : u64 b) : Sl rNum 1 (w.alloc (.cells #[.int .u64 (a : Int), .int .u64 (b : Int)] 35)) (some ⟨w.heap.size, 0, none⟩) 2 [a, b] :=
  sl_of_nums (l := [a, b]) (t := 35) (Blk.new w 35 #[.int .u64 (a : Int), .int .u64 (b : Int)]) (by simp) (by simp; exact ⟨ha, hb⟩)
theorem has_eff (g n a : Nat) (w : World) (h : EffAt w g n) (ha : u64 a) :
    Calls Tryz.prog 164 #[.pointer (some ⟨g, 0, none⟩), .int .u64 a] w fun e w' => e = .returned (.bool ((Srt.eff n).has a)) ∧ Below w.heap.size w w' := by
  have c := sets_eff g n _ (h.below ((Below.refl _ w).alloc (Nat.le_refl _) _)) _ 1 1 [a] (sl_new1 w a ha)
  have hp : ([a].all fun a => decide (a < 2 ^ n)) = (Srt.eff n).has a := by simp [Srt.has]
  rw [hp] at c
  have C := Lib.hid c
  clear c hp
  go_enter Tryz.func164, Tryz.ntmps164
  go_wp2_with fail
  refine C.out.mono ?_
  rintro e w1 ⟨rfl, e1⟩
  obtain rfl := e1.symm
  go_wp2_with fail
  go_ret
  exact ⟨rfl, (Below.refl _ w).alloc (Nat.le_refl _) _⟩
theorem and_le_iff (a b : Nat) (ha : a < 18446744073709551616) (hb : b < 18446744073709551616) : (bits .andNot .u64 (a : Int) (b : Int) == 0) = (a &&& b == a) := andNot_zero a b ha hb
/-! ### A sort that is there: each method of it answers as the sort says -/
def Meth (T : TypeId) (p : Value) (name : String) (fid : FuncId) : Prop := (∀ F W, (method (F + 1) T p name).run Tryz.prog W = .ok (fid, p) W) ∧ ∀ args W, (callFunc fid args).run Tryz.prog W = .ok (.enter fid args) W
/-- what is asked of a sort's value: each method is there, and answers -/
structure Dyn (w : World) (T : TypeId) (p : Value) (S : Srt) : Prop where
  has : ∃ f, Meth T p "Has" f ∧ ∀ W a, Below w.heap.size w W → u64 a → Calls Tryz.prog f #[p, .int .u64 (a : Nat)] W fun e W' => e = .returned (.bool (S.has a)) ∧ Below W.heap.size W W'
theorem Dyn.later {w w' : World} {T : TypeId} {p : Value} {S : Srt} (h : Dyn w T p S) (hb : Below w.heap.size w w') : Dyn w' T p S where
  has := let ⟨f, h1, h2⟩ := h.has; ⟨f, h1, fun W a hW => h2 W a (hb.trans (hW.mono hb.size))⟩

theorem dyn_lat {w : World} {g : Nat} {l : List Nat} (h : LatAt w g l) (hT : Tabs w) : Dyn w 106 (.pointer (some ⟨g, 0, none⟩)) (.lat l) where
  has := ⟨158, ⟨fun F W => by kernel_rfl, fun _ _ => by kernel_rfl⟩, fun W a hW ha => (has_lat g a l W (h.below hW) ha).mono fun e W' ⟨h1, h2⟩ => ⟨h1, by rw [h2]; exact Below.refl _ _⟩⟩
theorem dyn_eff {w : World} {g n : Nat} (h : EffAt w g n) : Dyn w 109 (.pointer (some ⟨g, 0, none⟩)) (.eff n) where
  has := ⟨164, ⟨fun F W => by kernel_rfl, fun _ _ => by kernel_rfl⟩, fun W a hW ha => has_eff g n a W (h.below hW) ha⟩
end Go.Proofs.YtcgnbpjbpbabaaaGreatDoor
end
