/- append where the two types have two names. Bits of numbers; the library's tables; TrailingZeros64. Interfaces, part C: the names of imports and of entries. -/
import Derived.Test.YtcgnbpjbpbabaaaGreatDoorMg05
import Derived.Test.YtcgnbpjbpbabaaaGreatDoorRows
import Derived.WalkKit
import Derived.Laws.Bits64b
import Derived.Lib.TrailingZeros
import Derived.Shelf.Spec.TrailingZeros
import Derived.Lib.Hide
import Derived.Below
section
set_option linter.unusedVariables false
set_option linter.unusedSimpArgs false
namespace Go.Proofs.YtcgnbpjbpbabaaaGreatDoor
open Go.RowKit
section
variable {P : Program} (w : World)
theorem append_types {w : World} {t t2 e e2 ty : TypeId} {v x : Value} (ht : P.underlying t = some (.slice e)) (ht2 : P.underlying t2 = some (.slice e2)) : (Builtin.append_ #[t, t2] ty #[v, x]).run P w = (Builtin.append_ #[t, t] ty #[v, x]).run P w := by
  unfold Builtin.append_
  cases v <;> simp [run_underlying ht, run_underlying ht2]
theorem wpList_append_row2 {ops : Array Oper} {rest : List Oper} {o : Oper} {a : Act} {Q : Exit → Act → World → Prop} (hgd : o.guard = none) (s x : Operand) (t t2 : TypeId)
    (ho : o.op = .call { callee := .builtin .append, args := #[s, x], argTypes := #[t, t2] })
    (base : Nat) (e : TypeId) (i : TypeInfo) (z : Value) (size bytes : Nat) (ht : P.underlying t = some (.slice e)) (e2 : TypeId) (ht2 : P.underlying t2 = some (.slice e2)) (hi : P.info? e = some i) (hz : i.zero = some z)
    (hsize : i.size = size) (hby : i.bytes = bytes) (hzs : z.cells.size = size) (hsz : 0 < size)
    (v : Value) (n : Nat) (xs : List Value) (hs : a.eval s = v) (hown : Row w base e size v n xs)
    (ad : Addr) (m c : Nat) (news : List Value) (hx : a.eval x = .slice (some ad) m c) (hl : news.length = m * size) (hnews : ∀ j u, news[j]? = some u → w.cell? (ad.add j) = some u) (h1 : ∀ u ∈ news, u.oneCell' = true)
    (h63 : n + m ≤ maxLen) (hbytes : (n + m) * bytes ≤ 140737488355328) (hbase : base ≤ w.heap.size)
    (h : ∀ v' w', Row w' base e size v' (n + m) (xs ++ news) → w.grownBy w' v.ownBlock → (v'.ownBlock = v.ownBlock ∨ (∀ g, v'.ownBlock = some g → w.heap.size ≤ g) ∧ w.grownBy w' none) → wpList P ops Q rest (a.put o.dst v') w') :
    wpList P ops Q (o :: rest) a w := by
  refine wpList_plain hgd fun K hK => ?_
  obtain ⟨v', w', hr, h2, h3, h4⟩ := run_append_row (P := P) w base t o.type e i z size bytes ht hi hz hsize hby hzs hsz v n xs hown ad m c news hl hnews h1 h63 hbytes hbase
  have hr2 := (append_types ht ht2).trans hr
  unfold Oper.wp execOp
  simp only [ho, resolve, invoke, builtin, Sem.run_bind, Sem.run_pure, Result.andThen_ok, List.map_toArray, List.map_cons, List.map_nil, hs, hx, hr2]
  exact hK _ _ (h v' w' h2 h3 h4)

theorem step_append_row2 {ops : Array Oper} {o : Oper} {a : Act} {K : Act → World → Prop} {Q : Exit → Act → World → Prop} {E : Prop} (hgd : o.guard = none) (s x : Operand) (t t2 : TypeId)
    (ho : o.op = .call { callee := .builtin .append, args := #[s, x], argTypes := #[t, t2] })
    (base : Nat) (e : TypeId) (i : TypeInfo) (z : Value) (size bytes : Nat) (ht : P.underlying t = some (.slice e)) (e2 : TypeId) (ht2 : P.underlying t2 = some (.slice e2)) (hi : P.info? e = some i) (hz : i.zero = some z)
    (hsize : i.size = size) (hby : i.bytes = bytes) (hzs : z.cells.size = size) (hsz : 0 < size)
    (v : Value) (n : Nat) (xs : List Value) (hs : a.eval s = v) (hown : Row w base e size v n xs)
    (ad : Addr) (m c : Nat) (news : List Value) (hx : a.eval x = .slice (some ad) m c) (hl : news.length = m * size) (hnews : ∀ j u, news[j]? = some u → w.cell? (ad.add j) = some u) (h1 : ∀ u ∈ news, u.oneCell' = true)
    (h63 : n + m ≤ maxLen) (hbytes : (n + m) * bytes ≤ 140737488355328) (hbase : base ≤ w.heap.size)
    (h : ∀ v' w', Row w' base e size v' (n + m) (xs ++ news) → w.grownBy w' v.ownBlock → (v'.ownBlock = v.ownBlock ∨ (∀ g, v'.ownBlock = some g → w.heap.size ≤ g) ∧ w.grownBy w' none) → K (a.put o.dst v') w') :
    if Region.wanted o (yielded ops a.tmps) = true then Oper.wp P o a w K Q else E := by
  have hw : Region.wanted o (yielded ops a.tmps) = true := by simp [Region.wanted, hgd]
  rw [if_pos hw]
  obtain ⟨v', w', hr, h2, h3, h4⟩ := run_append_row (P := P) w base t o.type e i z size bytes ht hi hz hsize hby hzs hsz v n xs hown ad m c news hl hnews h1 h63 hbytes hbase
  have hr2 := (append_types ht ht2).trans hr
  unfold Oper.wp execOp
  simp only [ho, resolve, invoke, builtin, Sem.run_bind, Sem.run_pure, Result.andThen_ok, List.map_toArray, List.map_cons, List.map_nil, hs, hx, hr2]
  exact h v' w' h2 h3 h4
end
end Go.Proofs.YtcgnbpjbpbabaaaGreatDoor
end

section
set_option linter.unusedVariables false
set_option linter.unusedSimpArgs false
namespace Go.Proofs.YtcgnbpjbpbabaaaGreatDoor
open Go.RowKit

/-- the library's tables stand as the program's text lays them -/
def Tabs (w : World) : Prop := TabAt 0 Lib.deBruijn64tab w
theorem Tabs.below {w w' : World} (h : Tabs w) (hb : Below w.heap.size w w') : Tabs w' := fun j hj => (hb.cell (World.block_lt_of_cell? w _ (h j hj))).trans (h j hj)

set_option maxHeartbeats 1000000 in
theorem tz64_core (x k idx : Nat) (w : World) (hx0 : ((x : Int) == 0) = false)
    (key : IntKind.u64.wrap (bits BinOp.and IntKind.u64 (x : Int) (IntKind.u64.wrap (-(x : Int))) * 285870213051353865) / 288230376151711744 = (idx : Int))
    (hi : idx < 64) (hk : k < 64) (hcell : w.cell? ⟨0, idx, none⟩ = some (.int .u8 k)) :
    Calls Tryz.prog 70 #[.int .u64 x] w fun e w' => e = .returned (.int .i64 k) ∧ w' = w := by
  go_enter Tryz.func70, Tryz.ntmps70
  go_wp2_with (simp only [key])
  go_ret
  exact ⟨rfl, rfl⟩
theorem tz64_zero (w : World) :
    Calls Tryz.prog 70 #[.int .u64 0] w fun e w' => e = .returned (.int .i64 64) ∧ w' = w := by
  go_enter Tryz.func70, Tryz.ntmps70
  go_wp2
  go_ret
  exact ⟨rfl, rfl⟩
theorem tz64_any (x : Nat) (hx : x < 18446744073709551616) (w : World) (hT : Tabs w) :
    Calls Tryz.prog 70 #[.int .u64 x] w fun e w' => e = .returned (.int .i64 (Lib.ctz 64 x)) ∧ w' = w := by
  by_cases hx0 : x = 0
  · subst hx0
    exact tz64_zero w
  · obtain ⟨hlow, hk⟩ := Lib.lowest_bit 64 x hx0 hx
    obtain ⟨hi, htab⟩ := Lib.deBruijn64_at _ hk
    have hcell := hT _ hi
    rw [htab] at hcell
    exact tz64_core x _ _ w (by simp; omega) (tz64_key x _ hx hx0 hlow) hi hk hcell

/-- the lowest bit, and what is left without it -/
theorem low_bits (l : Nat) (h0 : l ≠ 0) (h : l < 18446744073709551616) : Lib.ctz 64 l < 64 ∧ l.testBit (Lib.ctz 64 l) = true ∧ (l &&& (l - 1)) < l ∧ ∀ k, (l &&& (l - 1)).testBit k = (l.testBit k && decide (k ≠ Lib.ctz 64 l)) := by
  have hc : Lib.ctz 64 l = Lib.ctzFrom 64 l := by rw [Lib.ctz, if_neg h0]
  obtain ⟨m, hm, hk⟩ := Lib.ctzFrom_spec 64 l (by omega) (by omega)
  rw [hc]
  obtain ⟨c, hcc⟩ : ∃ c, Lib.ctzFrom 64 l = c := ⟨_, rfl⟩
  rw [hcc] at hm hk ⊢
  have hp : 0 < 2 ^ c := Nat.two_pow_pos c
  have hl1 : l - 1 = 2 ^ c * (2 * m) + (2 ^ c - 1) := by
    rw [hm, Nat.mul_add, Nat.mul_one]
    omega
  have tb : ∀ k, l.testBit k = (decide (c ≤ k) && (2 * m + 1).testBit (k - c)) := fun k => by rw [hm, Nat.testBit_two_pow_mul]
  have tb1 : ∀ k, (l - 1).testBit k = if k < c then true else (2 * m).testBit (k - c) := fun k => by
    rw [hl1, Nat.testBit_two_pow_mul_add _ (by omega)]
    split
    · rename_i hkc
      rw [Nat.testBit_two_pow_sub_one]
      simpa using hkc
    · rfl
  have hbit : ∀ k, (l &&& (l - 1)).testBit k = (l.testBit k && decide (k ≠ c)) := by
    intro k
    rw [Nat.testBit_and, tb, tb1]
    by_cases hkc : k < c
    · simp [hkc, show ¬ c ≤ k by omega]
    · rw [if_neg hkc]
      by_cases hke : k = c
      · subst hke
        simp
      · have : k - c = (k - c - 1) + 1 := by omega
        rw [this, Nat.testBit_succ, Nat.testBit_succ]
        have e1 : (2 * m + 1) / 2 = m := by omega
        have e2 : 2 * m / 2 = m := by omega
        rw [e1, e2]
        simp [hke, show c ≤ k by omega]
  have hself : l.testBit c = true := by
    rw [tb]
    simp
  refine ⟨hk, hself, ?_, hbit⟩
  have hle : l &&& (l - 1) ≤ l := Nat.and_le_left
  rcases Nat.lt_or_ge (l &&& (l - 1)) l with h1 | h1
  · exact h1
  · have : l &&& (l - 1) = l := by omega
    have h2 := hbit c
    rw [this, hself] at h2
    simp at h2
end Go.Proofs.YtcgnbpjbpbabaaaGreatDoor
end

section
set_option linter.unusedVariables false
set_option linter.unusedSimpArgs false
namespace Go.Proofs.YtcgnbpjbpbabaaaGreatDoor
open Go.RowKit

theorem str_info : (Tryz.prog.info? 9).map (fun i => (i.zero, i.size, i.bytes)) = some (some (.string ⟨#[]⟩), 1, 16) := by kernel_rfl
theorem impName_any (s : ByteArray) (k : Nat) (w : World) :
    Calls Tryz.prog 21 #[.agg #[.string s, .int .u32 k]] w fun e w' => e = .returned (.string s) ∧ Below w.heap.size w w' := by
  go_enter Tryz.func21, Tryz.ntmps21
  go_wp2
  go_ret
  exact ⟨rfl, (Below.refl _ w).alloc (Nat.le_refl _) _⟩
theorem entName_any (s : ByteArray) (a b : Int) (A B C : Option Addr) (n c m d k e : Nat) (w : World) :
    Calls Tryz.prog 23 #[.agg #[.string s, .int .i64 a, .int .i64 b, .slice A n c, .slice B m d, .slice C k e]] w fun e w' => e = .returned (.string s) ∧ Below w.heap.size w w' := by
  go_enter Tryz.func23, Tryz.ntmps23
  go_wp2
  go_ret
  exact ⟨rfl, (Below.refl _ w).alloc (Nat.le_refl _) _⟩

set_option maxRecDepth 100000 in
set_option maxHeartbeats 1000000 in
theorem ofImports_any (A : Option Addr) (n c : Nat) (l : List Import) (w : World) (h : Sl rImport 2 w A n l) (hbig : n * 16 ≤ 140737488355328) :
    Calls Tryz.prog 20 #[.slice A n c, .func (.func 21) #[] #[]] w fun e w' => ∃ A' c', e = .returned (.slice A' n c') ∧ n ≤ c' ∧ Strs w' A' n (l.map Import.module) ∧ Below w.heap.size w w' := by
  have hn := h.2.1
  have hl := h.1
  have hsz : ∀ x ∈ l, (Import.module x).size ≤ 4611686018427387904 := fun x hx => by
    obtain ⟨j, hj, rfl⟩ := List.getElem_of_mem hx
    obtain ⟨ad, e, hc⟩ := h.2.2 (by omega)
    obtain ⟨cs, h1, _⟩ := hc j _ (List.getElem?_eq_getElem hj)
    exact h1.2.1
  obtain ⟨i0, hi0, hz0, hz1, hz2⟩ := info_parts str_info
  have Hz0 := Lib.hid hz0
  have Hz1 := Lib.hid hz1
  have Hz2 := Lib.hid hz2
  have Hi0 := Lib.hid hi0
  have Hl := Lib.hid hl
  have Hsz := Lib.hid hsz
  clear hz0 hz1 hz2 hi0 hl hsz
  go_enter Tryz.func20, Tryz.ntmps20
  go_wp2
  go_loopw [4, 9] (fun o v w' => ∃ k : Nat, v = .int .i64 k ∧ k ≤ n ∧ Below w.heap.size w w' ∧ Row w' w.heap.size 9 1 o k ((l.take k).map fun x => .string (Import.module x))) (fun _ v _ => n - (intOf v).toNat)
  case atStart => exact ⟨0, rfl, by omega, Below.refl _ _, Row.nil _ _ _ _⟩
  case round =>
    obtain ⟨k, rfl, hk, hbw, hO⟩ := hrel
    have hS := h.below rImport_keeps hbw
    by_cases hlt : k < n
    · obtain ⟨b0, o0, ⟨md, sm⟩, cs, rfl, htk, ⟨rfl, hts, hsm⟩, _, hc⟩ := hS.at_ hlt (by omega)
      have c0 := hc 0 _ rfl
      have c1 := hc 1 _ rfl
      dsimp only at c0 c1 hts hsm
      rw [Nat.add_zero] at c0
      have htake := List.take_succ_eq_append_getElem (l := l) (i := k) (by have := Hl.out; omega)
      rw [(List.getElem?_eq_some_iff.1 htk).2] at htake
      have Htake := Lib.hid htake
      clear htk htake hc
      have i2 : (k : Int) < (n : Int) := by omega
      go_wp2_with fail
      refine (impName_any md sm _).mono ?_
      rintro e w2 ⟨rfl, b2⟩
      have bw2 : Below w.heap.size w w2 := (hbw.alloc hbw.size _).trans (b2.mono (by have := hbw.size; simp; omega))
      have hO2 := hO.chg (S := fun _ => False) ((Chg.alloc _ _ _).trans (Chg.of_below _ b2)) (fun _ _ h => h)
      go_wp2_with (
        refine wpList_append_row _ rfl (.tmp 13) (.tmp 17) 22 rfl w.heap.size 9 i0 (.string ⟨#[]⟩) 1 16 Tryz.underlying22 Hi0.out Hz0.out Hz1.out Hz2.out rfl (by omega) u4 k ((l.take k).map fun x => .string (Import.module x)) ?_ (hO2.chg (S := fun _ => False) (Chg.alloc _ _ _) (fun _ _ h => h)) ⟨w2.heap.size, 0, none⟩ 1 1 [.string md] ?_ rfl (cells_new w2 #[.string md] _) ?_ ?_ ?_ ?_ ?_
        · simp [Act.eval, Act.put]
        · simp [Act.eval, Act.put]
        · simp [Value.oneCell']
        · simp only [maxLen]; omega
        · omega
        · have := bw2.size; simp; omega
        intro v3 w3 hO3 hg3 hat3
        have bw3 : Below w.heap.size w w3 := (bw2.alloc bw2.size _).grown hg3 (by have := bw2.size; simp; omega) (fun k hk => (hO2.lt hk).1))
      refine ⟨⟨k + 1, by go_num, by omega, bw3, ?_⟩, by simp [intOf]; omega⟩
      rw [Htake.out, List.map_append]
      exact hO3
    · obtain rfl : n = k := by omega
      obtain ⟨A', c', rfl, hc1, hc2, hR⟩ := hO.reads
      have hkl : l.take n = l := List.take_of_length_le (by have := Hl.out; omega)
      rw [hkl] at hR
      clear hkl
      go_wp2
      go_ret
      refine ⟨A', c', rfl, hc1, ?_, hbw⟩
      refine ⟨by simp [Hl.out], by omega, fun s hs => ?_, fun hp => ?_⟩
      · obtain ⟨x, hx, rfl⟩ := List.mem_map.1 hs
        exact Hsz.out x hx
      · obtain ⟨ad, e, hb, hcell⟩ := hR.2 hp
        exact ⟨ad, e, fun j hj => hcell j _ (by rw [List.getElem?_map, List.getElem?_eq_getElem (by simpa using hj)]; simp)⟩

set_option maxRecDepth 100000 in
set_option maxHeartbeats 1000000 in
theorem ofEntries_any (A : Option Addr) (n c : Nat) (l : List Entry) (w : World) (h : Sl rEntry 6 w A n l) (hbig : n * 16 ≤ 140737488355328) :
    Calls Tryz.prog 22 #[.slice A n c, .func (.func 23) #[] #[]] w fun e w' => ∃ A' c', e = .returned (.slice A' n c') ∧ n ≤ c' ∧ Strs w' A' n (l.map Entry.name) ∧ Below w.heap.size w w' := by
  have hn := h.2.1
  have hl := h.1
  have hsz : ∀ x ∈ l, (Entry.name x).size ≤ 4611686018427387904 := fun x hx => by
    obtain ⟨j, hj, rfl⟩ := List.getElem_of_mem hx
    obtain ⟨ad, e, hc⟩ := h.2.2 (by omega)
    obtain ⟨cs, h1, _⟩ := hc j _ (List.getElem?_eq_getElem hj)
    obtain ⟨cs', _, h2, _⟩ := h1; exact h2
  obtain ⟨i0, hi0, hz0, hz1, hz2⟩ := info_parts str_info
  have Hz0 := Lib.hid hz0
  have Hz1 := Lib.hid hz1
  have Hz2 := Lib.hid hz2
  have Hi0 := Lib.hid hi0
  have Hl := Lib.hid hl
  have Hsz := Lib.hid hsz
  clear hz0 hz1 hz2 hi0 hl hsz
  go_enter Tryz.func22, Tryz.ntmps22
  go_wp2
  go_loopw [4, 9] (fun o v w' => ∃ k : Nat, v = .int .i64 k ∧ k ≤ n ∧ Below w.heap.size w w' ∧ Row w' w.heap.size 9 1 o k ((l.take k).map fun x => .string (Entry.name x))) (fun _ v _ => n - (intOf v).toNat)
  case atStart => exact ⟨0, rfl, by omega, Below.refl _ _, Row.nil _ _ _ _⟩
  case round =>
    obtain ⟨k, rfl, hk, hbw, hO⟩ := hrel
    have hS := h.below rEntry_keeps hbw
    by_cases hlt : k < n
    · obtain ⟨b0, o0, ⟨md, ⟨lv, ev, bd, bl, be⟩⟩, cs, rfl, htk, ⟨cs', rfl, hts, h1v, h2v, B1, n1, d1, B2, n2, d2, B3, n3, d3, rfl, _⟩, _, hc⟩ := hS.at_ hlt (by omega)
      have c0 := hc 0 _ rfl
      have c1 := hc 1 _ rfl
      have c2 := hc 2 _ rfl
      have c3 := hc 3 _ rfl
      have c4 := hc 4 _ rfl
      have c5 := hc 5 _ rfl
      dsimp only at c0 c1 c2 hts
      rw [Nat.add_zero] at c0
      have htake := List.take_succ_eq_append_getElem (l := l) (i := k) (by have := Hl.out; omega)
      rw [(List.getElem?_eq_some_iff.1 htk).2] at htake
      have Htake := Lib.hid htake
      clear htk htake hc
      have i2 : (k : Int) < (n : Int) := by omega
      go_wp2_with fail
      refine (entName_any md lv ev _ _ _ _ _ _ _ _ _ _).mono ?_
      rintro e w2 ⟨rfl, b2⟩
      have bw2 : Below w.heap.size w w2 := (hbw.alloc hbw.size _).trans (b2.mono (by have := hbw.size; simp; omega))
      have hO2 := hO.chg (S := fun _ => False) ((Chg.alloc _ _ _).trans (Chg.of_below _ b2)) (fun _ _ h => h)
      go_wp2_with (
        refine wpList_append_row _ rfl (.tmp 13) (.tmp 17) 22 rfl w.heap.size 9 i0 (.string ⟨#[]⟩) 1 16 Tryz.underlying22 Hi0.out Hz0.out Hz1.out Hz2.out rfl (by omega) u4 k ((l.take k).map fun x => .string (Entry.name x)) ?_ (hO2.chg (S := fun _ => False) (Chg.alloc _ _ _) (fun _ _ h => h)) ⟨w2.heap.size, 0, none⟩ 1 1 [.string md] ?_ rfl (cells_new w2 #[.string md] _) ?_ ?_ ?_ ?_ ?_
        · simp [Act.eval, Act.put]
        · simp [Act.eval, Act.put]
        · simp [Value.oneCell']
        · simp only [maxLen]; omega
        · omega
        · have := bw2.size; simp; omega
        intro v3 w3 hO3 hg3 hat3
        have bw3 : Below w.heap.size w w3 := (bw2.alloc bw2.size _).grown hg3 (by have := bw2.size; simp; omega) (fun k hk => (hO2.lt hk).1))
      refine ⟨⟨k + 1, by go_num, by omega, bw3, ?_⟩, by simp [intOf]; omega⟩
      rw [Htake.out, List.map_append]
      exact hO3
    · obtain rfl : n = k := by omega
      obtain ⟨A', c', rfl, hc1, hc2, hR⟩ := hO.reads
      have hkl : l.take n = l := List.take_of_length_le (by have := Hl.out; omega)
      rw [hkl] at hR
      clear hkl
      go_wp2
      go_ret
      refine ⟨A', c', rfl, hc1, ?_, hbw⟩
      refine ⟨by simp [Hl.out], by omega, fun s hs => ?_, fun hp => ?_⟩
      · obtain ⟨x, hx, rfl⟩ := List.mem_map.1 hs
        exact Hsz.out x hx
      · obtain ⟨ad, e, hb, hcell⟩ := hR.2 hp
        exact ⟨ad, e, fun j hj => hcell j _ (by rw [List.getElem?_map, List.getElem?_eq_getElem (by simpa using hj)]; simp)⟩

end Go.Proofs.YtcgnbpjbpbabaaaGreatDoor
end
