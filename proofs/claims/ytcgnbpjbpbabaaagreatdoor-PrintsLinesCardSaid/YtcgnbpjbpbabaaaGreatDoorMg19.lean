/- prints: next. prints: order. prints: order. -/
import Derived.Test.YtcgnbpjbpbabaaaGreatDoorMg07
import Derived.Test.YtcgnbpjbpbabaaaGreatDoorMg03
import Derived.Test.YtcgnbpjbpbabaaaGreatDoorMg17
section
set_option linter.unusedVariables false
set_option linter.unusedSimpArgs false
set_option maxRecDepth 100000
set_option maxHeartbeats 2000000
namespace Go.Proofs.YtcgnbpjbpbabaaaGreatDoor
open Go.RowKit
theorem ordBelow_any (A : Option Addr) (n c : Nat) (l : List Nat) (a b : Nat) (w : World) (h : Sl rNum 1 w A n l) (hn : n ≤ 64) (ha : a < n) (hb : b < n) :
    Calls Tryz.prog 62 #[.slice A n c, .int .u64 (a : Nat), .int .u64 (b : Nat)] w fun e w' => e = .returned (.bool ((l.getD a 0).testBit b)) ∧ w' = w := by
  obtain ⟨b0, o0, r, cs, rfl, hr, ⟨rfl, hr64⟩, _, hcs⟩ := h.at_ ha (by omega)
  have c0 := hcs 0 _ rfl
  simp only [Nat.mul_one, Nat.add_zero] at c0
  have hd : l.getD a 0 = r := by rw [List.getD_eq_getElem?_getD, hr]; rfl
  rw [hd]
  have hb1 := shr_and1 r b hr64
  have i1 : (a : Int) < (n : Int) := by omega
  have i2 : (b : Int) < (n : Int) := by omega
  have i3 : (n : Int) ≤ 64 := by omega
  have i4 : (b : Int) < 64 := by omega
  have hmin : min (n : Int) 64 = (n : Int) := by omega
  clear hcs h hr hd
  cases tb : r.testBit b <;> rw [tb] at hb1 <;> simp only [Bool.false_eq_true, if_false, if_true] at hb1
  all_goals
    go_enter Tryz.func62, Tryz.ntmps62
    go_wp2_with fail
    go_ret
    exact ⟨rfl, rfl⟩
def midB (l : List Nat) (a b c : Nat) : Bool := c == a || c == b || !((l.getD a 0).testBit c && (l.getD c 0).testBit b)
def nextB (l : List Nat) (n a b : Nat) : Bool := !(a == b) && (l.getD a 0).testBit b && (List.range n).all (midB l a b)
theorem midAll_succ {l : List Nat} {a b k : Nat} (h : (List.range k).all (midB l a b) = true) (hk : midB l a b k = true) : (List.range (k + 1)).all (midB l a b) = true := by
  rw [List.range_succ, List.all_append, h]
  simp [hk]
theorem mid_false {l : List Nat} {n a b k : Nat} (hk : k < n) (h : midB l a b k = false) : nextB l n a b = false := by
  have : (List.range n).all (midB l a b) = false := by
    rw [List.all_eq_false]
    exact ⟨k, List.mem_range.2 hk, by simp [h]⟩
  simp [nextB, this]
/-- it answers, and the world is as it was -/
theorem next_any (A : Option Addr) (n c : Nat) (l : List Nat) (a b : Nat) (w : World) (h : Sl rNum 1 w A n l) (hn : n ≤ 64) (ha : a < n) (hb : b < n) :
    Calls Tryz.prog 33 #[.slice A n c, .int .i64 (a : Nat), .int .i64 (b : Nat)] w fun e w' => e = .returned (.bool (nextB l n a b)) ∧ w' = w := by
  have cB := fun x y hx hy => ordBelow_any A n c l x y w h hn hx hy
  have CB := Lib.hid cB
  clear cB h
  have i3 : (n : Int) ≤ 64 := by omega
  have i1 : (a : Int) < (n : Int) := by omega
  have i2 : (b : Int) < (n : Int) := by omega
  by_cases hab : a = b
  · have z : ((a : Int) == (b : Int)) = true := by rw [hab]; simp
    have hv : nextB l n a b = false := by simp [nextB, hab]
    rw [hv]
    clear hv
    go_enter Tryz.func33, Tryz.ntmps33
    go_wp2_with fail
    all_goals
      go_ret
      exact ⟨rfl, rfl⟩
  · have z : ((a : Int) == (b : Int)) = false := by rw [beq_eq_false_iff_ne]; omega
    go_enter Tryz.func33, Tryz.ntmps33
    go_wp2_with fail
    refine (CB.out a b ha hb).mono ?_
    rintro e w1 ⟨rfl, e1⟩
    obtain rfl := e1.symm
    cases tb : (l.getD a 0).testBit b
    · have hv : nextB l n a b = false := by simp only [nextB, tb]; simp
      have HV := Lib.hid hv
      clear hv
      go_wp2_with fail
      all_goals
        go_ret
        exact ⟨by rw [HV.out]; rfl, rfl⟩
    · have hv : nextB l n a b = (List.range n).all (midB l a b) := by simp only [nextB, tb]; simp [hab]
      have HV := Lib.hid hv
      have MF := Lib.hid (fun k => mid_false (l := l) (n := n) (a := a) (b := b) (k := k))
      clear tb hv
      go_wp2_with fail
      go_loopw [6, 22] (fun v6 iv wr => ∃ k : Nat, v6 = .bool false ∧ iv = .int .i64 k ∧ k ≤ n ∧ wr = w ∧ (List.range k).all (midB l a b) = true) (fun _ iv _ => n - (intOf iv).toNat)
      case atStart => exact ⟨0, rfl, rfl, Nat.zero_le _, rfl, rfl⟩
      case round =>
        obtain ⟨k, rfl, rfl, hk, hww, hall⟩ := hrel
        have HA := Lib.hid hall
        clear hall
        subst hww
        by_cases hlt : k < n
        · have i4 : (k : Int) < (n : Int) := by omega
          by_cases ka : k = a
          · have z1 : ((k : Int) != (a : Int)) = false := by rw [ka]; simp
            have hm := Lib.hid (show midB l a b k = true by simp [midB, ka])
            go_wp2_with fail
            exact ⟨⟨k + 1, by simp, by go_num, by omega, by simp, midAll_succ HA.out hm.out⟩, by simp [intOf]; omega⟩
          · have z1 : ((k : Int) != (a : Int)) = true := by rw [bne_iff_ne]; omega
            by_cases kb : k = b
            · have z2 : ((k : Int) != (b : Int)) = false := by rw [kb]; simp
              have hm := Lib.hid (show midB l a b k = true by simp [midB, kb])
              go_wp2_with fail
              exact ⟨⟨k + 1, by simp, by go_num, by omega, by simp, midAll_succ HA.out hm.out⟩, by simp [intOf]; omega⟩
            · have z2 : ((k : Int) != (b : Int)) = true := by rw [bne_iff_ne]; omega
              go_wp2_with fail
              refine (CB.out a k ha hlt).mono ?_
              rintro e w1 ⟨rfl, e1⟩
              obtain rfl := e1.symm
              cases t1 : (l.getD a 0).testBit k
              · have hm := Lib.hid (show midB l a b k = true by simp only [midB, t1]; simp)
                clear t1
                go_wp2_with fail
                exact ⟨⟨k + 1, by simp, by go_num, by omega, by simp, midAll_succ HA.out hm.out⟩, by simp [intOf]; omega⟩
              · go_wp2_with fail
                refine (CB.out k b hlt hb).mono ?_
                rintro e w1 ⟨rfl, e1⟩
                obtain rfl := e1.symm
                cases t2 : (l.getD k 0).testBit b
                · have hm := Lib.hid (show midB l a b k = true by simp only [midB, t2]; simp)
                  clear t1 t2
                  go_wp2_with fail
                  exact ⟨⟨k + 1, by simp, by go_num, by omega, by simp, midAll_succ HA.out hm.out⟩, by simp [intOf]; omega⟩
                · have hm : midB l a b k = false := by simp only [midB, t1, t2]; simp [ka, kb]
                  have hr := Lib.hid (MF.out k hlt hm)
                  clear t1 t2 hm
                  go_wp2_with fail
                  go_ret
                  exact ⟨by rw [hr.out]; rfl, rfl⟩
        · obtain rfl : k = n := by omega
          go_wp2_with fail
          go_ret
          exact ⟨by rw [HV.out, HA.out]; rfl, rfl⟩
end Go.Proofs.YtcgnbpjbpbabaaaGreatDoor
end

section
set_option linter.unusedVariables false
set_option linter.unusedSimpArgs false
set_option maxRecDepth 100000
set_option maxHeartbeats 2000000
namespace Go.Proofs.YtcgnbpjbpbabaaaGreatDoor
open Go.RowKit
def orderB : ByteArray := ⟨#[111, 114, 100, 101, 114]⟩
/-- the pieces that order may put down -/
def OrdP (l : List ByteArray) (s : ByteArray) : Prop := s ∈ l ∨ s = spB ∨ s = leB ∨ s = commaB ∨ s = orderB
/-- pieces, their number and the bytes of each bounded -/
theorem catV_le (K : Nat) : ∀ ps : List ByteArray, (∀ s ∈ ps, s.size ≤ K) → (catV ps).length ≤ ps.length * K
  | [], _ => by simp [catV]
  | s :: r, h => by
    have ih := catV_le K r (fun x hx => h x (List.mem_cons_of_mem _ hx))
    have h1 := h s (List.mem_cons_self ..)
    have : catV (s :: r) = Lib.strCells s ++ catV r := rfl
    rw [this, List.length_append, Lib.strCells_length, List.length_cons, Nat.succ_mul]
    omega
theorem comW_len (sm : Bool) (x y : ByteArray) : (comW sm x y).length ≤ 5 := by cases sm <;> simp [comW]
theorem comW_mem {l : List ByteArray} {sm : Bool} {x y : ByteArray} (hx : x ∈ l) (hy : y ∈ l) : ∀ s ∈ comW sm x y, OrdP l s := by
  intro s hs
  simp only [comW, List.mem_append, List.mem_cons, List.not_mem_nil, or_false] at hs
  rcases hs with hs | rfl | rfl | rfl | rfl
  · cases sm
    · cases hs
    · simp at hs; subst hs; exact .inr (.inr (.inr (.inl rfl)))
  · exact .inr (.inl rfl)
  · exact .inl hx
  · exact .inr (.inr (.inl rfl))
  · exact .inl hy
end Go.Proofs.YtcgnbpjbpbabaaaGreatDoor
end

section
set_option linter.unusedVariables false
set_option linter.unusedSimpArgs false
set_option maxRecDepth 100000
set_option maxHeartbeats 2000000
namespace Go.Proofs.YtcgnbpjbpbabaaaGreatDoor
open Go.RowKit
/-- one pair: what is put, and whether something was put -/
def ordStep (labels : List ByteArray) (rows : List Nat) (n i : Nat) (st : List ByteArray × Bool) (j : Nat) : List ByteArray × Bool :=
  if nextB rows n i j then (st.1 ++ comW st.2 (labels.getD i ByteArray.empty) (labels.getD j ByteArray.empty), true) else st
def ordRow (labels : List ByteArray) (rows : List Nat) (n i m : Nat) (st : List ByteArray × Bool) : List ByteArray × Bool := (List.range m).foldl (ordStep labels rows n i) st
def ordGo (labels : List ByteArray) (rows : List Nat) (n m : Nat) : List ByteArray × Bool := (List.range m).foldl (fun st i => ordRow labels rows n i n st) ([orderB], false)
def ordW (labels : List ByteArray) (rows : List Nat) (n : Nat) : List ByteArray := (ordGo labels rows n n).1
theorem ordRow_succ (labels : List ByteArray) (rows : List Nat) (n i m : Nat) (st : List ByteArray × Bool) : ordRow labels rows n i (m + 1) st = ordStep labels rows n i (ordRow labels rows n i m st) m := by
  simp [ordRow, List.range_succ]
theorem ordGo_succ (labels : List ByteArray) (rows : List Nat) (n m : Nat) : ordGo labels rows n (m + 1) = ordRow labels rows n m n (ordGo labels rows n m) := by
  simp [ordGo, List.range_succ]
theorem order_any (w : World) (B b : Nat) (m : Value) (f5 bs : List Value) (A1 A2 : Option Addr) (n c1 c2 K : Nat) (labels : List ByteArray) (rows : List Nat) (h : WAt w B b (m :: .slice A1 n c1 :: .slice A2 n c2 :: f5) bs)
    (hS : ∀ W, TChg TC B w W → Strs W A1 n labels) (hR : ∀ W, TChg TC B w W → Sl rNum 1 W A2 n rows) (hn : n ≤ 64) (hK : ∀ s, OrdP labels s → s.size ≤ K) (hlen : bs.length + 20490 * K ≤ 140737488355328) (hK2 : 5 ≤ K) (hBw : B ≤ w.heap.size) :
    Calls Tryz.prog 11 #[.pointer (some ⟨b, 0, none⟩)] w fun e w' => e = .returned (.tuple #[]) ∧ ∃ ps, ps = ordW labels rows n ∧ (∀ s ∈ ps, OrdP labels s) ∧ ps.length ≤ 20481 ∧ WAt w' B b (m :: .slice A1 n c1 :: .slice A2 n c2 :: f5) (bs ++ catV (ps ++ [semiB])) ∧ TChg TC B w w' := by
  have hf5 : ∀ W bs', WAt W B b (m :: .slice A1 n c1 :: .slice A2 n c2 :: f5) bs' → W.cell? ⟨b, 3, none⟩ = some (.slice A1 n c1) ∧ W.cell? ⟨b, 4, none⟩ = some (.slice A2 n c2) := fun W bs' hW => by
    obtain ⟨_, _, p, v, _, hb, _⟩ := hW
    exact ⟨by rw [hb.cell]; rfl, by rw [hb.cell]; rfl⟩
  have cP := puts_at w B b _ bs [orderB] 1 rfl (by omega) (by intro s hs; simp at hs; subst hs; decide) h (by have : (catV [orderB]).length = 5 := rfl; omega) hBw
  have CP := Lib.hid cP
  have HF := Lib.hid hf5
  have HS := Lib.hid hS
  have HR := Lib.hid hR
  clear cP hf5 hS hR
  go_enter Tryz.func11, Tryz.ntmps11
  go_wp2_with fail
  refine CP.out.mono ?_
  rintro e w1 ⟨rfl, hW1, hT1⟩
  obtain ⟨q3, q4⟩ := HF.out _ _ hW1
  have hbl : b < w1.heap.size := World.block_lt_of_cell? _ _ q3
  have hCB := Blk.new w1 87 #[.pointer (some ⟨b, 0, none⟩), .bool false]
  go_wp2_with fail
  obtain ⟨cb, hcb⟩ : ∃ cb, w1.heap.size = cb := ⟨_, rfl⟩
  rw [hcb] at hCB ⊢
  have hTa : TChg TC B w (w1.alloc (.cells #[.pointer (some ⟨b, 0, none⟩), .bool false] 87)) := hT1.tc.trans (TChg.alloc w1 _)
  have hWa := hW1.alloc (.cells #[.pointer (some ⟨b, 0, none⟩), .bool false] 87)
  have hBcb : B ≤ cb := by have := hT1.size; omega
  have i3 : (n : Int) ≤ 64 := by omega
  go_loopw [17] (fun iv wr => ∃ (i : Nat) (ps : List ByteArray) (sm : Bool), iv = .int .i64 i ∧ i ≤ n ∧ (ps, sm) = ordGo labels rows n i ∧ (∀ s ∈ ps, OrdP labels s) ∧ ps.length ≤ 1 + 320 * i ∧ WAt wr B b (m :: .slice A1 n c1 :: .slice A2 n c2 :: f5) (bs ++ catV ps) ∧ Blk wr cb 87 #[.pointer (some ⟨b, 0, none⟩), .bool sm] ∧ TChg TC B w wr) (fun iv _ => n - (intOf iv).toNat)
  case atStart => exact ⟨0, [orderB], false, rfl, Nat.zero_le _, rfl, by intro s hs; simp at hs; subst hs; exact .inr (.inr (.inr (.inr rfl))), by simp, hWa, hCB, hTa⟩
  case round =>
    obtain ⟨i, ps, sm, rfl, hi, hex, hps, hpl, hW, hC, hT⟩ := hrel
    obtain ⟨q3, q4⟩ := HF.out _ _ hW
    have hbl : b < wr.heap.size := World.block_lt_of_cell? _ _ q3
    by_cases hil : i < n
    · have i1 : (i : Int) < (n : Int) := by omega
      go_wp2_with fail
      have hB1 := hT.size
      obtain ⟨wo, rfl⟩ : ∃ wo : World, wo = wr := ⟨_, rfl⟩
      go_loopw [26] (fun iv wr => ∃ (j : Nat) (ps : List ByteArray) (sm : Bool), iv = .int .i64 j ∧ j ≤ n ∧ (ps, sm) = ordRow labels rows n i j (ordGo labels rows n i) ∧ (∀ s ∈ ps, OrdP labels s) ∧ ps.length ≤ 1 + 320 * i + 5 * j ∧ WAt wr B b (m :: .slice A1 n c1 :: .slice A2 n c2 :: f5) (bs ++ catV ps) ∧ Blk wr cb 87 #[.pointer (some ⟨b, 0, none⟩), .bool sm] ∧ TChg TC B w wr) (fun iv _ => n - (intOf iv).toNat)
      case atStart => exact ⟨0, ps, sm, rfl, Nat.zero_le _, hex, hps, by omega, hW, hC, hT⟩
      case round =>
        clear hex hps hpl hW hC hT q3 q4
        obtain ⟨j, ps, sm, rfl, hj, hex, hps, hpl, hW, hC, hT⟩ := hrel
        obtain ⟨q3, q4⟩ := HF.out _ _ hW
        have hbl : b < wr.heap.size := World.block_lt_of_cell? _ _ q3
        by_cases hjl : j < n
        · have i2 : (j : Int) < (n : Int) := by omega
          have CN := Lib.hid (next_any A2 n c2 rows i j wr (HR.out wr hT) hn hil hjl)
          go_wp2_with fail
          refine CN.out.mono ?_
          rintro e w2 ⟨rfl, e1⟩
          obtain rfl := e1.symm
          have hst := ordRow_succ labels rows n i j (ordGo labels rows n i)
          rw [← hex] at hst
          cases hr : nextB rows n i j
          · have hst' : (ps, sm) = ordRow labels rows n i (j + 1) (ordGo labels rows n i) := by rw [hst, ordStep, hr]; rfl
            have HST := Lib.hid hst'
            clear hst hst' hr hex
            go_wp2_with fail
            exact ⟨⟨j + 1, ps, sm, by go_num, by omega, HST.out, hps, by omega, hW, hC, hT⟩, by simp [intOf]; omega⟩
          · obtain ⟨b0, o0, x, cs, rfl, hx, ⟨rfl, hxs⟩, _, hcs⟩ := (sl_strs.2 (HS.out wr hT)).at_ hil (by omega)
            obtain ⟨b0', o0', y, cs', he, hy, ⟨rfl, hys⟩, _, hcs'⟩ := (sl_strs.2 (HS.out wr hT)).at_ hjl (by omega)
            cases he
            have x0 := hcs 0 _ rfl
            have y0 := hcs' 0 _ rfl
            simp only [Nat.mul_one, Nat.add_zero] at x0 y0
            have x0 : wr.drew.cell? ⟨b0, o0 + i, none⟩ = some (.string x) := x0
            have y0 : wr.drew.cell? ⟨b0, o0 + j, none⟩ = some (.string y) := y0
            have q3' : wr.drew.cell? ⟨b, 3, none⟩ = some (.slice (some ⟨b0, o0, none⟩) n c1) := q3
            have hst' : (ps ++ comW sm x y, true) = ordRow labels rows n i (j + 1) (ordGo labels rows n i) := by
              rw [hst, ordStep, hr, List.getD_eq_getElem?_getD, List.getD_eq_getElem?_getD, hx, hy]
              rfl
            have HST := Lib.hid hst'
            clear hst hst' hr hex
            have hmx := List.mem_of_getElem? hx
            have hmy := List.mem_of_getElem? hy
            have hcm := comW_mem (l := labels) (sm := sm) hmx hmy
            have hcl := catV_le K ps (fun s hs => hK s (hps s hs))
            have hcl2 : ps.length * K ≤ 20481 * K := Nat.mul_le_mul_right K (by omega)
            have hdl := catV_le K (comW sm x y) (fun s hs => hK s (hcm s hs))
            have hc5 := comW_len sm x y
            have hdl2 : (comW sm x y).length * K ≤ 5 * K := Nat.mul_le_mul_right K hc5
            have cC := cputs_any wr.drew B b cb _ (bs ++ catV ps) sm x y hW hC hBcb hxs hys (by rw [List.length_append]; omega) (Nat.le_trans hBw hT.size)
            have CC := Lib.hid cC
            clear cC hcs hcs' hx hy hW hC
            go_wp2_with fail
            go_region_with (go_at_call 34; refine CC.out.mono ?_; rintro e w3 ⟨rfl, hW3, hC3, hT3⟩)
            all_goals
              go_wp2_with fail
              exact ⟨⟨j + 1, ps ++ comW sm x y, true, by go_num, by omega, HST.out, fun s hs => (List.mem_append.1 hs).elim (hps s) (hcm s), by rw [List.length_append]; omega, by rw [catV_append, ← List.append_assoc]; exact hW3, hC3, hT.trans (Chg.trans (Chg.drew _ wr) hT3)⟩, by simp [intOf]; omega⟩
        · obtain rfl : j = n := by omega
          have hst' : (ps, sm) = ordGo labels rows j (i + 1) := by rw [hex, ← ordGo_succ]
          have HST := Lib.hid hst'
          clear hst' hex
          go_wp2_with fail
          exact ⟨⟨i + 1, ps, sm, by go_num, by omega, HST.out, hps, by omega, hW, hC, hT⟩, by simp [intOf]; omega⟩
    · obtain rfl : i = n := by omega
      have hcl := catV_le K ps (fun s hs => hK s (hps s hs))
      have hcl2 : ps.length * K ≤ 20481 * K := Nat.mul_le_mul_right K (by omega)
      have cW := puts_at wr B b _ (bs ++ catV ps) [semiB] 1 rfl (by omega) (by intro x hx; simp at hx; subst hx; decide) hW (by have : (catV [semiB]).length = 2 := rfl; rw [List.length_append]; omega) (Nat.le_trans hBw hT.size)
      have CW := Lib.hid cW
      have HX := Lib.hid hex
      clear cW hW hex
      go_wp2_with fail
      refine CW.out.mono ?_
      rintro e w2 ⟨rfl, hW2, ht2⟩
      go_wp2_with fail
      go_end0
      exact ⟨rfl, ps, by rw [ordW, ← HX.out], hps, by omega, by rw [catV_append, ← List.append_assoc]; exact hW2, hT.trans ht2.tc⟩
end Go.Proofs.YtcgnbpjbpbabaaaGreatDoor
end
