/- orders: Check. lattices.New, effects.New, faces.sorts. effects.New, faces.sorts; sorts of values in memory. -/
import Derived.Test.YtcgnbpjbpbabaaaGreatDoorMg07
import Derived.Deep.QuietTactic
import Derived.BigQuiet
section
set_option linter.unusedVariables false
set_option linter.unusedSimpArgs false
set_option maxRecDepth 100000
set_option maxHeartbeats 1000000
namespace Go.Proofs.YtcgnbpjbpbabaaaGreatDoor
open Go.RowKit

theorem sl_of_nums {w : World} {g : Nat} {t : TypeId} {l : List Nat} (h : Blk w g t (numsV l)) (hl : l.length ≤ 9223372036854775807) (hu : ∀ x ∈ l, u64 x) : Sl rNum 1 w (some ⟨g, 0, none⟩) l.length l := by
  refine ⟨rfl, hl, fun _ => ⟨_, rfl, fun j x hx => ⟨_, ⟨rfl, hu x (List.mem_of_getElem? hx)⟩, rfl, fun k u hku => ?_⟩⟩⟩
  cases k with
  | zero =>
    simp at hku
    subst hku
    rw [add_lit', Nat.mul_one, Nat.add_zero, Nat.zero_add, h.cell, numsV_get, hx]
    rfl
  | succ k => simp at hku
theorem turnedL_len (l : List Nat) : (turnedL l).length = l.length := by simp [turnedL]
theorem turnedL_lt (l : List Nat) : ∀ x ∈ turnedL l, x < 2 ^ l.length := by
  intro x hx
  simp only [turnedL, List.mem_map] at hx
  obtain ⟨j, _, rfl⟩ := hx
  exact turnedTo_lt l j _
theorem and_all (r n : Nat) : (r &&& (2 ^ n - 1) == r) = decide (r < 2 ^ n) := by
  rw [Nat.and_two_pow_sub_one_eq_mod, Bool.eq_iff_iff, beq_iff_eq, decide_eq_true_eq]
  constructor
  · intro h
    rw [← h]
    exact Nat.mod_lt _ (Nat.two_pow_pos n)
  · exact Nat.mod_eq_of_lt
theorem two_pow_le64 (n : Nat) (hn : n ≤ 64) : 2 ^ n ≤ 18446744073709551616 := Nat.pow_le_pow_right (n := 2) (j := 64) (by omega) hn

theorem checkOrder_any (A : Option Addr) (n c : Nat) (l : List Nat) (w : World) (h : Sl rNum 1 w A n l) (hT : Tabs w) :
    Calls Tryz.prog 29 #[.slice A n c] w fun e w' => e = .returned (.int .i64 (checkOrder l : Nat)) ∧ Below w.heap.size w w' := by
  have Hl := Lib.hid h.1
  by_cases hn1 : n < 1
  · go_enter Tryz.func29, Tryz.ntmps29
    go_wp2
    go_ret
    exact ⟨ret_int (by rw [checkOrder, if_pos (by simp [Hl.out]; omega)]; rfl), Below.refl _ _⟩
  · by_cases hn2 : 64 < n
    · go_enter Tryz.func29, Tryz.ntmps29
      go_wp2
      go_ret
      exact ⟨ret_int (by rw [checkOrder, if_pos (by simp [Hl.out]; omega)]; rfl), Below.refl _ _⟩
    · have hn : n ≤ 64 := by omega
      have h0 : checkOrder l = if (l.any fun r => !decide (r < 2 ^ l.length)) then 1 else if !orderedB l then 9 else if (List.range l.length).all fun i => (List.range i).all (meetOk l (turnedL l) i) then 0 else 7 := by
        rw [checkOrder, if_neg (by simp [Hl.out]; omega)]
      have H0 := Lib.hid h0
      clear h0
      have hal := two_pow_le64 n hn
      have hpos := Nat.two_pow_pos n
      have cA := all_any n hn w
      obtain ⟨p, hp⟩ : ∃ p, 2 ^ n = p := ⟨_, rfl⟩
      rw [hp] at cA hal hpos
      have Hp := Lib.hid hp
      clear hp
      go_enter Tryz.func29, Tryz.ntmps29
      go_wp2_with fail
      go_loopw [19] (fun v w' => ∃ i : Nat, v = .int .i64 i ∧ i ≤ n ∧ w' = w ∧ ∀ k, k < i → l.getD k 0 < p) (fun v _ => n - (intOf v).toNat)
      case atStart => exact ⟨0, rfl, by omega, rfl, fun _ h => by omega⟩
      case round =>
        obtain ⟨i, rfl, hi, e1, hrows⟩ := hrel
        obtain rfl := e1.symm
        have Hrows := Lib.hid hrows
        clear hrows
        by_cases hlt : i < n
        · obtain ⟨b, o, rfl, hr64, hlk, hcell⟩ := num_at h hlt
          obtain ⟨r, hr⟩ : ∃ r, l.getD i 0 = r := ⟨_, rfl⟩
          rw [hr] at hr64 hcell hlk
          have Hr := Lib.hid hr
          have Hlk := Lib.hid hlk
          clear hr hlk
          have i1 : (i : Int) < (n : Int) := by omega
          go_wp2_with fail
          refine cA.mono ?_
          rintro e w1 ⟨rfl, e1⟩
          obtain rfl := e1.symm
          have hz := andNot_zero r (p - 1) hr64 (by omega)
          have hz2 : (bits .andNot .u64 (r : Int) ((p - 1 : Nat) : Int) != 0) = !(r &&& (p - 1) == r) := by rw [bne, hz]
          clear hz
          go_wp2_with fail
          · go_ret
            have hr' : (!(r &&& (p - 1) == r)) = true := by assumption
            refine ⟨ret_int ?_, Below.refl _ _⟩
            rw [H0.out, if_pos]
            · rfl
            · rw [List.any_eq_true]
              refine ⟨r, List.mem_of_getElem? Hlk.out, ?_⟩
              rw [Hl.out, ← and_all, Hp.out]
              exact hr'
          · have hr' : (!(r &&& (p - 1) == r)) = false := by assumption
            refine ⟨⟨i + 1, by go_num, by omega, trivial, fun k hk => ?_⟩, by simp [intOf]; omega⟩
            by_cases hki : k < i
            · exact Hrows.out k hki
            · obtain rfl : k = i := by omega
              rw [Hr.out]
              have := and_all r n
              rw [Hp.out] at this
              rw [this] at hr'
              simpa using hr'
        · have hno : (l.any fun r => !decide (r < 2 ^ l.length)) = false := by
            rw [List.any_eq_false]
            intro x hx
            obtain ⟨k, hk, rfl⟩ := List.getElem_of_mem hx
            have := Hrows.out k (by have := Hl.out; omega)
            rw [List.getD_eq_getElem?_getD, List.getElem?_eq_getElem hk] at this
            rw [Hl.out, Hp.out]
            simpa using this
          rw [hno] at H0
          simp only [Bool.false_eq_true, if_false] at H0
          clear hno cA
          have cO := ordered_any A n c l w h hn
          cases ho : orderedB l <;> rw [ho] at cO H0
          · simp only [Bool.not_false, if_true] at H0
            clear ho
            go_wp2_with fail
            refine cO.mono ?_
            rintro e w1 ⟨rfl, e1⟩
            obtain rfl := e1.symm
            go_wp2
            go_ret
            exact ⟨ret_int (by rw [H0.out]; rfl), Below.refl _ _⟩
          · simp only [Bool.not_true, Bool.false_eq_true, if_false] at H0
            clear ho
            have cT := turned_any A n c l w h hn
            go_wp2_with fail
            refine cO.mono ?_
            rintro e w1 ⟨rfl, e1⟩
            obtain rfl := e1.symm
            go_wp2_with fail
            refine cT.mono ?_
            rintro e w1 ⟨rfl, hB1, hb1⟩
            clear cO cT
            have hS1 := h.below rNum_keeps hb1
            have hT1 := hT.below hb1
            have hD1 := sl_of_nums hB1 (by rw [turnedL_len, Hl.out]; omega) (fun x hx => by have := turnedL_lt l x hx; rw [Hl.out, Hp.out] at this; unfold u64; omega)
            rw [turnedL_len, Hl.out] at hD1
            obtain ⟨d, hd⟩ : ∃ d, turnedL l = d := ⟨_, rfl⟩
            have hdl : d.length = n := by rw [← hd, turnedL_len]; exact Hl.out
            have hlt' : ∀ x ∈ d, x < 2 ^ n := fun x hx => by have := turnedL_lt l x (by rw [hd]; exact hx); rwa [Hl.out] at this
            rw [hd] at H0 hD1
            have Hdl := Lib.hid hdl
            have Hlt' := Lib.hid hlt'
            clear hd hdl hlt' hB1
            go_wp2_with fail
            go_loopw [35] (fun v w' => ∃ i : Nat, v = .int .i64 i ∧ i ≤ n ∧ Below w1.heap.size w1 w' ∧ ∀ k, k < i → (List.range k).all (meetOk l d k) = true) (fun v _ => n - (intOf v).toNat)
            case atStart => exact ⟨0, rfl, by omega, Below.refl _ _, fun _ h => by omega⟩
            case round =>
              obtain ⟨i, rfl, hi, hbw, hrows2⟩ := hrel
              have Hrows2 := Lib.hid hrows2
              clear hrows2
              by_cases hlt : i < n
              · have i1 : (i : Int) < (n : Int) := by omega
                go_wp2_with fail
                obtain ⟨wo, rfl⟩ : ∃ wo : World, wo = wr := ⟨_, rfl⟩
                go_loopw [39] (fun v w' => ∃ j : Nat, v = .int .i64 j ∧ j ≤ i ∧ Below w1.heap.size w1 w' ∧ ∀ k, k < j → meetOk l d i k = true) (fun v _ => n - (intOf v).toNat)
                case atStart => exact ⟨0, rfl, by omega, hbw, fun _ h => by omega⟩
                case round =>
                  obtain ⟨j, rfl, hj, hbw2, hp⟩ := hrel
                  have Hmeet := Lib.hid hp
                  clear hp
                  by_cases hlt2 : j < i
                  · have hSr := hS1.below rNum_keeps hbw2
                    have hDr := hD1.below rNum_keeps hbw2
                    have hTr := hT1.below hbw2
                    obtain ⟨b, o, rfl, hi64, hlk, hci⟩ := num_at hSr hlt
                    obtain ⟨b2, o2, e2, hj64, hlk2, hcj⟩ := num_at hSr (show j < n by omega)
                    obtain ⟨b3, o3, e3, hi64', hlk3, hdi⟩ := num_at hDr hlt
                    obtain ⟨b4, o4, e4, hj64', hlk4, hdj⟩ := num_at hDr (show j < n by omega)
                    cases e2
                    cases e3
                    cases e4
                    rw [Nat.zero_add] at hdi hdj
                    obtain ⟨x, hx⟩ : ∃ x, l.getD i 0 = x := ⟨_, rfl⟩
                    obtain ⟨y, hy⟩ : ∃ y, l.getD j 0 = y := ⟨_, rfl⟩
                    obtain ⟨x', hx'⟩ : ∃ x, d.getD i 0 = x := ⟨_, rfl⟩
                    obtain ⟨y', hy'⟩ : ∃ y, d.getD j 0 = y := ⟨_, rfl⟩
                    rw [hx] at hi64 hlk hci
                    rw [hy] at hj64 hlk2 hcj
                    rw [hx'] at hi64' hlk3 hdi
                    rw [hy'] at hj64' hlk4 hdj
                    have hxs : x &&& y < 2 ^ n := by
                      have := Hrows.out i (by omega)
                      rw [hx] at this
                      have h2 := Nat.and_le_left (n := x) (m := y)
                      rw [Hp.out]
                      omega
                    have hxs' : x' &&& y' < 2 ^ n := by
                      have := Hlt'.out x' (List.mem_of_getElem? hlk3)
                      have h2 := Nat.and_le_left (n := x') (m := y')
                      omega
                    have hm : meetOk l d i j = (oneB (x &&& y) l && oneB (x' &&& y') d) := by rw [meetOk, hx, hy, hx', hy']
                    have Hm := Lib.hid hm
                    clear hx hy hx' hy' hm hlk hlk2 hlk3 hlk4
                    have ha1 := bits_and_u64_nat x y hi64 hj64
                    have ha2 := bits_and_u64_nat x' y' hi64' hj64'
                    have j0 : (j : Int) < (i : Int) := by omega
                    have j1 : (j : Int) < (n : Int) := by omega
                    have c1 := fun W (hW : Sl rNum 1 W (some ⟨b, o, none⟩) n l) (hTW : Tabs W) => one_any (x &&& y) (some ⟨b, o, none⟩) n c l W hW hTW hn hxs
                    have c2 := fun W (hW : Sl rNum 1 W (some ⟨w.heap.size, 0, none⟩) n d) (hTW : Tabs W) => one_any (x' &&& y') (some ⟨w.heap.size, 0, none⟩) n n d W hW hTW hn hxs'
                    obtain ⟨p1, hp1⟩ : ∃ p, x &&& y = p := ⟨_, rfl⟩
                    obtain ⟨p2, hp2⟩ : ∃ p, x' &&& y' = p := ⟨_, rfl⟩
                    rw [hp1] at ha1 Hm c1 hxs
                    rw [hp2] at ha2 Hm c2 hxs'
                    have hbad : meetOk l d i j = false → checkOrder l = 7 := fun hf => by
                      rw [H0.out, if_neg]
                      intro ha
                      have := List.all_eq_true.1 ha i (by simp [Hl.out, hlt])
                      have := List.all_eq_true.1 this j (by simp [hlt2])
                      rw [hf] at this
                      cases this
                    have Hbad := Lib.hid hbad
                    have HSr := Lib.hid hSr
                    have HDr := Lib.hid hDr
                    have HTr := Lib.hid hTr
                    clear hp1 hp2 hSr hDr hTr hbad
                    cases t1 : oneB p1 l
                    · have c1' := fun W h1 h2 => by have := c1 W h1 h2; rw [t1] at this; exact this
                      have C1 := Lib.hid c1'
                      rw [t1] at Hm
                      clear t1 c1 c2
                      go_wp2_with fail
                      go_quiet ((exact Calls.quiet_of_same (C1.out _ (by exact HSr.out) (by exact HTr.out))))
                      go_wp2_with fail
                      go_ret
                      exact ⟨ret_int (by rw [Hbad.out Hm.out]; rfl), below_drewN (hb1.trans (hbw2.mono hb1.size)) nq⟩
                    · have c1' := fun W h1 h2 => by have := c1 W h1 h2; rw [t1] at this; exact this
                      have C1 := Lib.hid c1'
                      rw [t1, Bool.true_and] at Hm
                      cases t2 : oneB p2 d
                      · have c2' := fun W h1 h2 => by have := c2 W h1 h2; rw [t2] at this; exact this
                        have C2 := Lib.hid c2'
                        rw [t2] at Hm
                        clear t1 t2 c1 c2
                        go_wp2_with fail
                        go_quiet ((first | (go_at_call_of 52 (Value.int .u64 (p1 : Int)); exact Calls.quiet_of_same (C1.out _ (by exact HSr.out) (by exact HTr.out))) | exact Calls.quiet_of_same (C2.out _ (by exact HDr.out) (by exact HTr.out))))
                        go_wp2_with fail
                        go_ret
                        exact ⟨ret_int (by rw [Hbad.out Hm.out]; rfl), below_drewN (hb1.trans (hbw2.mono hb1.size)) nq⟩
                      · have c2' := fun W h1 h2 => by have := c2 W h1 h2; rw [t2] at this; exact this
                        have C2 := Lib.hid c2'
                        rw [t2] at Hm
                        clear t1 t2 c1 c2
                        go_wp2_with fail
                        go_quiet ((first | (go_at_call_of 52 (Value.int .u64 (p1 : Int)); exact Calls.quiet_of_same (C1.out _ (by exact HSr.out) (by exact HTr.out))) | exact Calls.quiet_of_same (C2.out _ (by exact HDr.out) (by exact HTr.out))))
                        go_wp2_with fail
                        refine ⟨⟨j + 1, by go_num, by omega, below_drewN hbw2 nq, fun k hk => ?_⟩, by simp [intOf]; omega⟩
                        by_cases hkj : k < j
                        · exact Hmeet.out k hkj
                        · obtain rfl : k = j := by omega
                          exact Hm.out
                  · obtain rfl : j = i := by omega
                    go_wp2_with fail
                    refine ⟨⟨j + 1, by go_num, by omega, hbw2, fun k hk => ?_⟩, by simp [intOf]; omega⟩
                    by_cases hkj : k < j
                    · exact Hrows2.out k hkj
                    · obtain rfl : k = j := by omega
                      rw [List.all_eq_true]
                      intro m hm
                      exact Hmeet.out m (by simpa using hm)
              · go_wp2_with fail
                go_ret
                refine ⟨ret_int ?_, hb1.trans (hbw.mono hb1.size)⟩
                rw [H0.out, if_pos]
                · rfl
                · rw [List.all_eq_true]
                  intro m hm
                  exact Hrows2.out m (by have := Hl.out; simp at hm; omega)
end Go.Proofs.YtcgnbpjbpbabaaaGreatDoor
end

section
set_option linter.unusedVariables false
set_option linter.unusedSimpArgs false
set_option maxRecDepth 100000
set_option maxHeartbeats 1000000
namespace Go.Proofs.YtcgnbpjbpbabaaaGreatDoor
open Go.RowKit

/-- a lattice, as cells -/
def latV (n : Nat) (u d : List Nat) : Array Value := (Value.int .i64 (n : Int) :: (u ++ d).map fun (x : Nat) => Value.int .u64 (x : Int)).toArray

theorem latV_zero (n : Nat) : Tryz.zeroCells137.setIfInBounds 0 (Value.int .i64 (n : Int)) = latV n (List.replicate 64 0) (List.replicate 64 0) := by
  have : Tryz.zeroCells137 = latV 0 (List.replicate 64 0) (List.replicate 64 0) := by kernel_rfl
  rw [this]
  simp [latV]
theorem latV_up (n : Nat) (u d : List Nat) (i : Nat) (hi : i < u.length) (x : Nat) : (latV n u d).setIfInBounds (1 + i) (.int .u64 (x : Int)) = latV n (u.set i x) d := by
  rw [Nat.add_comm]
  simp [latV, List.set_append, hi, List.map_set]
theorem latV_down (n : Nat) (u d : List Nat) (j : Nat) (x : Nat) : (latV n u d).setIfInBounds (1 + u.length + j) (.int .u64 (x : Int)) = latV n u (d.set j x) := by
  rw [show 1 + u.length + j = (u.length + j) + 1 by omega]
  simp [latV, List.set_append, List.map_set]
theorem latV_up_get (n : Nat) (u d : List Nat) (i : Nat) (x : Nat) (h : u[i]? = some x) : (latV n u d)[1 + i]? = some (.int .u64 (x : Int)) := by
  rw [Nat.add_comm]
  have hi := (List.getElem?_eq_some_iff.1 h).1
  simp only [latV, List.getElem?_toArray, List.getElem?_cons_succ, List.getElem?_map, List.getElem?_append_left hi, h]
  rfl
theorem latV_down_get (n : Nat) (u d : List Nat) (i : Nat) (x : Nat) (h : d[i]? = some x) : (latV n u d)[1 + u.length + i]? = some (.int .u64 (x : Int)) := by
  rw [show 1 + u.length + i = (u.length + i) + 1 by omega]
  simp only [latV, List.getElem?_toArray, List.getElem?_cons_succ, List.getElem?_map, List.getElem?_append_right (Nat.le_add_right u.length i), Nat.add_sub_cancel_left, h]
  rfl
def upAt (l : List Nat) (i : Nat) : List Nat := l.take i ++ List.replicate (64 - i) 0
def dnAt (l : List Nat) (i j : Nat) : List Nat := turnedMid l i j ++ List.replicate (64 - l.length) 0
theorem upAt_len {l : List Nat} {i : Nat} (hi : i ≤ l.length) (hl : l.length ≤ 64) : (upAt l i).length = 64 := by simp [upAt]; omega
theorem upAt_get {l : List Nat} {i : Nat} (hi : i < l.length) (hl : l.length ≤ 64) : (upAt l i)[i]? = some 0 := by
  have h1 : (l.take i).length = i := by simp; omega
  rw [upAt, List.getElem?_append_right (by omega), h1, Nat.sub_self, List.getElem?_replicate, if_pos (by omega)]
theorem upAt_set {l : List Nat} {i : Nat} (hi : i < l.length) (hl : l.length ≤ 64) : (upAt l i).set i (l.getD i 0) = upAt l (i + 1) := by
  apply List.ext_getElem
  · simp [upAt]; omega
  · intro k h1 h2
    rw [List.getElem_set]
    by_cases h : i = k
    · subst h
      rw [if_pos rfl]
      simp only [upAt, List.getElem_append, List.length_take]
      rw [dif_pos (by omega)]
      simp [List.getD_eq_getElem?_getD, hi]
    · rw [if_neg h]
      simp only [upAt, List.getElem_append, List.length_take]
      by_cases h3 : k < i
      · rw [dif_pos (by omega), dif_pos (by omega)]
        simp
      · rw [dif_neg (by omega), dif_neg (by omega)]
        simp
theorem dnAt_get {l : List Nat} {i j : Nat} (hj : j < l.length) : (dnAt l i j)[j]? = some (turnedTo l j i) := by
  rw [dnAt, List.getElem?_append_left (by simp [turnedMid]; exact hj)]
  exact turnedMid_get l i j hj
theorem dnAt_set {l : List Nat} {i j : Nat} (hj : j < l.length) : (dnAt l i j).set j (turnedTo l j (i + 1)) = dnAt l i (j + 1) := by
  rw [dnAt, List.set_append_left _ _ (by simp [turnedMid]; exact hj), turnedMid_set l i j hj, dnAt]

theorem latNew_bad (A : Option Addr) (n c : Nat) (l : List Nat) (w : World) (h : Sl rNum 1 w A n l) (hT : Tabs w) (hbad : checkOrder l ≠ 0) :
    Calls Tryz.prog 53 #[.slice A n c] w fun e w' => e = .returned (.tuple #[.pointer none, .int .i64 (checkOrder l : Nat)]) ∧ Below w.heap.size w w' := by
  have cC := checkOrder_any A n c l w h hT
  have hne : (((checkOrder l : Nat) : Int) != 0) = true := by rw [bne_iff_ne]; omega
  obtain ⟨e0, he0⟩ : ∃ e, checkOrder l = e := ⟨_, rfl⟩
  rw [he0] at cC hne ⊢
  clear he0 hbad
  go_enter Tryz.func53, Tryz.ntmps53
  go_wp2_with fail
  refine cC.mono ?_
  rintro e w1 ⟨rfl, b1⟩
  go_wp2_with fail
  go_ret2
  exact ⟨rfl, b1⟩

theorem latNew_ok (A : Option Addr) (n c : Nat) (l : List Nat) (w : World) (h : Sl rNum 1 w A n l) (hT : Tabs w) (hok : checkOrder l = 0) :
    Calls Tryz.prog 53 #[.slice A n c] w fun e w' => ∃ g, e = .returned (.tuple #[.pointer (some ⟨g, 0, none⟩), .int .i64 0]) ∧ w.heap.size ≤ g ∧ Blk w' g 137 (latV n (l ++ List.replicate (64 - n) 0) (turnedL l ++ List.replicate (64 - n) 0)) ∧ Below w.heap.size w w' := by
  have cC := checkOrder_any A n c l w h hT
  rw [hok] at cC
  have Hl := Lib.hid h.1
  go_enter Tryz.func53, Tryz.ntmps53
  go_wp2_with fail
  refine cC.mono ?_
  rintro e w1 ⟨rfl, b1⟩
  go_wp2_with fail
  have hn : n ≤ 64 := by
    have := Hl.out
    unfold checkOrder at hok
    split at hok
    · cases hok
    · rename_i h1
      simp at h1
      omega
  have hS1 := h.below rNum_keeps b1
  rw [latV_zero]
  obtain ⟨G, hG⟩ : ∃ G, w1.heap.size = G := ⟨_, rfl⟩
  have hsz := b1.size
  have hB0 := Blk.new w1 137 (latV n (List.replicate 64 0) (List.replicate 64 0))
  have bw0 := (b1.alloc hsz (Obj.cells (latV n (List.replicate 64 0) (List.replicate 64 0)) 137))
  have hS2 := hS1.below rNum_keeps ((Below.refl _ w1).alloc (Nat.le_refl _) (Obj.cells (latV n (List.replicate 64 0) (List.replicate 64 0)) 137))
  rw [hG] at hB0 hsz ⊢
  obtain ⟨W0, hW0⟩ : ∃ W, w1.alloc (Obj.cells (latV n (List.replicate 64 0) (List.replicate 64 0)) 137) = W := ⟨_, rfl⟩
  rw [hW0] at hB0 bw0 hS2 ⊢
  clear hG hW0 hS1 b1 cC hok hT
  go_loopw [20] (fun v w' => ∃ i : Nat, v = .int .i64 i ∧ i ≤ n ∧ Below w.heap.size w w' ∧ Blk w' G 137 (latV n (upAt l i) (dnAt l i 0))) (fun v _ => n - (intOf v).toNat)
  case atStart =>
    refine ⟨0, rfl, by omega, bw0, ?_⟩
    rw [show upAt l 0 = List.replicate 64 0 by simp [upAt], show dnAt l 0 0 = List.replicate 64 0 by
      rw [dnAt, turnedMid_zero]; simp only [turnedTo, List.map_const', List.length_range, List.replicate_append_replicate]; congr 1; have := Hl.out; omega]
    exact hB0
  case round =>
    obtain ⟨i, rfl, hi, hbw, hB⟩ := hrel
    by_cases hlt : i < n
    · have hS := h.below rNum_keeps hbw
      obtain ⟨b, o, rfl, hr64, hlk, hcell⟩ := num_at hS hlt
      have hug := upAt_get (l := l) (i := i) (by rw [Hl.out]; exact hlt) (by rw [Hl.out]; exact hn)
      have hset := hB.set_ (1 + i) (.int .u64 ((l.getD i 0 : Nat) : Int))
      rw [latV_up _ _ _ _ (by rw [upAt_len (by rw [Hl.out]; omega) (by rw [Hl.out]; exact hn)]; omega), upAt_set (by rw [Hl.out]; exact hlt) (by rw [Hl.out]; exact hn)] at hset
      obtain ⟨r, hr⟩ : ∃ r, l.getD i 0 = r := ⟨_, rfl⟩
      rw [hr] at hr64 hcell hlk hset
      have Hr := Lib.hid hr
      have Hlk := Lib.hid hlk
      clear hr hlk
      have hcu := (hB.cell (1 + i)).trans (latV_up_get n _ _ i 0 hug)
      have hfu := hB.frozen (1 + i)
      clear hug
      have i1 : (i : Int) < (n : Int) := by omega
      go_wp2_with fail
      have Hset := Lib.hid hset
      clear hset
      have hbwS := hbw.setCell (p := ⟨G, 1 + i, none⟩) hsz (.int .u64 (r : Int))
      clear hcu hfu hcell
      have hul := upAt_len (l := l) (i := i + 1) (by rw [Hl.out]; omega) (by rw [Hl.out]; exact hn)
      have Hul := Lib.hid hul
      clear hul
      obtain ⟨wo, hwo⟩ : ∃ wo : World, wr.setCell ⟨G, 1 + i, none⟩ (.int .u64 (r : Int)) = wo := ⟨_, rfl⟩
      rw [hwo] at Hset hbwS ⊢
      clear hwo hS
      go_loopw [33] (fun v w' => ∃ j : Nat, v = .int .i64 j ∧ j ≤ n ∧ Below w.heap.size w w' ∧ Blk w' G 137 (latV n (upAt l (i + 1)) (dnAt l i j))) (fun v _ => n - (intOf v).toNat)
      case atStart => exact ⟨0, rfl, by omega, hbwS, Hset.out⟩
      case round =>
        obtain ⟨j, rfl, hj, hbw2, hB2⟩ := hrel
        by_cases hlt2 : j < n
        · have j1 : (j : Int) < (n : Int) := by omega
          have j2 : (j : Int) < 64 := by omega
          have hcg : wr.cell? ⟨G, 65 + j, none⟩ = some (.int .u64 ((turnedTo l j i : Nat) : Int)) := by
            have := latV_down_get n (upAt l (i + 1)) (dnAt l i j) j _ (dnAt_get (by rw [Hl.out]; exact hlt2))
            rw [Hul.out] at this
            rw [hB2.cell]
            exact this
          have hfg := hB2.frozen (65 + j)
          have hbit := shr_and1 r j hr64
          have hlo : turnedTo l j i < 18446744073709551616 := Nat.lt_of_lt_of_le (turnedTo_lt l j i) (Nat.pow_le_pow_right (n := 2) (j := 64) (by omega) (by omega))
          have hset := hB2.set_ (65 + j) (.int .u64 ((turnedTo l j (i + 1) : Nat) : Int))
          have hd := latV_down n (upAt l (i + 1)) (dnAt l i j) j (turnedTo l j (i + 1))
          rw [Hul.out, dnAt_set (by rw [Hl.out]; exact hlt2)] at hd
          rw [show 65 + j = 1 + 64 + j by omega, hd, show 1 + 64 + j = 65 + j by omega] at hset
          have Hset2 := Lib.hid hset
          clear hset hd
          cases t1 : r.testBit j <;> rw [t1] at hbit
          · simp only [Bool.false_eq_true, if_false] at hbit
            have hval : bits .or .u64 ((turnedTo l j i : Nat) : Int) 0 = ((turnedTo l j (i + 1) : Nat) : Int) := by
              rw [turnedTo, Hr.out, t1]
              have := or_u64_nat (turnedTo l j i) 0 hlo (by omega)
              simpa using this
            have Hval := Lib.hid hval
            clear hval t1
            go_wp2
            go_region
            go_wp2
            rw [Hval.out]
            exact ⟨⟨j + 1, by go_num, by omega, (hbw2.setCell hsz _).drew, Hset2.out.drew⟩, by simp [intOf]; omega⟩
          · simp only [if_true] at hbit
            have hval : bits .or .u64 ((turnedTo l j i : Nat) : Int) (IntKind.u64.wrap (2 ^ i)) = ((turnedTo l j (i + 1) : Nat) : Int) := by
              have hp : 2 ^ i < 18446744073709551616 := Nat.pow_lt_pow_right (n := 64) (a := 2) (by omega) (by omega)
              rw [wrap_two_pow i (by omega), or_u64_nat _ _ hlo hp]
              conv => rhs; rw [turnedTo, Hr.out, t1]
              rfl
            have Hval := Lib.hid hval
            clear hval t1
            go_wp2
            go_region
            go_wp2
            rw [Hval.out]
            exact ⟨⟨j + 1, by go_num, by omega, (hbw2.setCell hsz _).drew, Hset2.out.drew⟩, by simp [intOf]; omega⟩
        · obtain rfl : j = n := by omega
          go_wp2
          refine ⟨⟨i + 1, by go_num, by omega, hbw2, ?_⟩, by simp [intOf]; omega⟩
          have := turnedMid_full l i
          rw [Hl.out] at this
          rw [dnAt, ← this]
          exact hB2
    · obtain rfl : i = n := by omega
      go_wp2
      go_ret2
      refine ⟨G, rfl, hsz, ?_, hbw⟩
      have e1 : turnedL l = turnedMid l i 0 := by rw [turnedMid_zero, turnedL, Hl.out]
      have e2 : l.take i = l := List.take_of_length_le (by rw [Hl.out]; exact Nat.le_refl _)
      rw [upAt, e2, dnAt, Hl.out] at hB
      rw [e1]
      exact hB
end Go.Proofs.YtcgnbpjbpbabaaaGreatDoor
end

section
set_option linter.unusedVariables false
set_option linter.unusedSimpArgs false
set_option maxRecDepth 100000
set_option maxHeartbeats 1000000
namespace Go.Proofs.YtcgnbpjbpbabaaaGreatDoor
open Go.RowKit

theorem bcell {W w1 : World} (hb : Below W.heap.size W w1) : (∀ b o, b < W.heap.size → w1.cell? ⟨b, o, none⟩ = W.cell? ⟨b, o, none⟩) ∧ (∀ b o, b < W.heap.size → w1.frozen? ⟨b, o, none⟩ = W.frozen? ⟨b, o, none⟩) :=
  ⟨fun b o h => hb.cell (p := ⟨b, o, none⟩) h, fun b o h => hb.frozen (p := ⟨b, o, none⟩) h⟩

theorem effNew_any (n : Nat) (hn : n ≤ 64) (w : World) :
    Calls Tryz.prog 54 #[.int .i64 n] w fun e w' => ∃ g, e = .returned (.tuple #[.pointer (some ⟨g, 0, none⟩), .int .i64 0]) ∧ w.heap.size ≤ g ∧ Blk w' g 139 #[.bool true, .int .u64 ((2 ^ n - 1 : Nat) : Int)] ∧ Below w.heap.size w w' := by
  have i1 : (n : Int) ≤ 64 := by omega
  have hw := wrap_pow n hn
  have Hw := Lib.hid hw
  clear hw
  go_enter Tryz.func54, Tryz.ntmps54
  go_wp2
  go_ret2
  rw [Hw.out]
  exact ⟨w.heap.size, rfl, Nat.le_refl _, Blk.new _ _ _, (Below.refl _ w).alloc (Nat.le_refl _) _⟩
/-- a lattice in a block of its own -/
def LatAt (w : World) (g : Nat) (l : List Nat) : Prop := l.length ≤ 64 ∧ (∀ x ∈ l, u64 x) ∧ Blk w g 137 (latV l.length (l ++ List.replicate (64 - l.length) 0) (turnedL l ++ List.replicate (64 - l.length) 0))
def EffAt (w : World) (g n : Nat) : Prop := n ≤ 64 ∧ Blk w g 139 #[.bool true, .int .u64 ((2 ^ n - 1 : Nat) : Int)]
/-- a sort's value -/
def SrtAt (w : World) (v : Value) : Srt → Prop
  | .none => v = .nilIface
  | .lat l => checkOrder l = 0 ∧ ∃ g, v = .iface 106 (.pointer (some ⟨g, 0, none⟩)) ∧ LatAt w g l
  | .eff n => ∃ g, v = .iface 109 (.pointer (some ⟨g, 0, none⟩)) ∧ EffAt w g n
theorem LatAt.below {w w' : World} {g : Nat} {l : List Nat} (h : LatAt w g l) (hb : Below w.heap.size w w') : LatAt w' g l := ⟨h.1, h.2.1, h.2.2.below hb h.2.2.lt⟩
theorem EffAt.below {w w' : World} {g n : Nat} (h : EffAt w g n) (hb : Below w.heap.size w w') : EffAt w' g n := ⟨h.1, h.2.below hb h.2.lt⟩
theorem SrtAt.below {w w' : World} {v : Value} {S : Srt} (h : SrtAt w v S) (hb : Below w.heap.size w w') : SrtAt w' v S := by
  cases S with
  | none => exact h
  | lat l => obtain ⟨h0, g, e, hg⟩ := h; exact ⟨h0, g, e, hg.below hb⟩
  | eff n => obtain ⟨g, e, hg⟩ := h; exact ⟨g, e, hg.below hb⟩

theorem sorts_any (f : Face) (A1 A2 A3 A4 A5 A6 : Option Addr) (n1 c1 n2 c2 n3 c3 n4 c4 n5 c5 n6 c6 : Nat) (w : World) (h : Sl rNum 1 w A2 n2 f.rows) (hT : Tabs w) (hok : checkOrder f.rows = 0) (h3 : f.effects.length = n3) (hn3 : n3 ≤ 64) :
    Calls Tryz.prog 30 #[.agg #[.string f.module, .slice A1 n1 c1, .slice A2 n2 c2, .slice A3 n3 c3, .slice A4 n4 c4, .slice A5 n5 c5, .slice A6 n6 c6]] w fun e w' =>
      ∃ u v, e = .returned (.tuple #[u, v]) ∧ SrtAt w' u (.lat f.rows) ∧ SrtAt w' v (.eff f.effects.length) ∧ Below w.heap.size w w' := by
  have hl := h.1
  have hu : ∀ x ∈ f.rows, u64 x := fun x hx => by
    obtain ⟨j, hj, rfl⟩ := List.getElem_of_mem hx
    obtain ⟨ad, e, hc⟩ := h.2.2 (by omega)
    obtain ⟨cs, h1, _⟩ := hc j _ (List.getElem?_eq_getElem hj)
    exact h1.2
  have hle : n2 ≤ 64 := by
    unfold checkOrder at hok
    split at hok
    · cases hok
    · rename_i h1
      simp at h1
      omega
  have cL := fun W hW hTW => latNew_ok A2 n2 c2 f.rows W hW hTW hok
  have cE := effNew_any n3 hn3
  have Hl := Lib.hid hl
  have Hu := Lib.hid hu
  have H3 := Lib.hid h3
  have Hok := Lib.hid hok
  clear hl hu h3 hok
  go_enter Tryz.func30, Tryz.ntmps30
  go_wp2_with fail
  refine (cL _ (by exact h.below rNum_keeps ((Below.refl _ w).alloc (Nat.le_refl _) _)) (by exact hT.below ((Below.refl _ w).alloc (Nat.le_refl _) _))).mono ?_
  rintro e w1 ⟨g, rfl, hg, hB, hb⟩
  obtain ⟨hc1, hf1⟩ := bcell hb
  go_wp2_with fail
  refine (cE _).mono ?_
  rintro e w2 ⟨g2, rfl, hg2, hB2, hb2⟩
  go_wp2_with fail
  go_ret2
  have hbw := (((Below.refl _ w).alloc (Nat.le_refl _) _).trans (hb.mono (by simp)))
  refine ⟨_, _, rfl, ⟨Hok.out, g, rfl, by rw [Hl.out]; exact hle, Hu.out, ?_⟩, ⟨g2, rfl, by rw [H3.out]; exact hn3, by rw [H3.out]; exact hB2⟩, hbw.trans (hb2.mono hbw.size)⟩
  rw [Hl.out]
  exact hB.below hb2 hB.lt

end Go.Proofs.YtcgnbpjbpbabaaaGreatDoor
end
