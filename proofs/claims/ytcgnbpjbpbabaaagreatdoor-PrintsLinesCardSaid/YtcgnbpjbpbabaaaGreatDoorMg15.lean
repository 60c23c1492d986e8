/- bounds.Check. schemes: every, and the closures of Check. schemes.Check. -/
import Derived.Test.YtcgnbpjbpbabaaaGreatDoorMg10
import Derived.Test.YtcgnbpjbpbabaaaGreatDoorMg14
import Derived.Laws.EntriesVeiled
section
set_option linter.unusedVariables false
set_option linter.unusedSimpArgs false
set_option maxRecDepth 100000
set_option maxHeartbeats 2000000
namespace Go.Proofs.YtcgnbpjbpbabaaaGreatDoor
open Go.RowKit

theorem two0 (a c : Bool) (b d : Int) (W : World) : (Instr.index 145 (.agg #[.bool a, .int .u64 b, .bool c, .int .u64 d]) (.int .i64 0)).run Tryz.prog W = .ok (.agg #[.bool a, .int .u64 b]) W := by kernel_rfl
theorem two1 (a c : Bool) (b d : Int) (W : World) : (Instr.index 145 (.agg #[.bool a, .int .u64 b, .bool c, .int .u64 d]) (.int .i64 1)).run Tryz.prog W = .ok (.agg #[.bool c, .int .u64 d]) W := by kernel_rfl

theorem bcheck_any (v : Value) (S : Srt) (vars : Int) (A : Option Addr) (m c : Nat) (k : List Bound) (w : World) (hv : SrtAt w v S) (hT : Tabs w) (h : Sl rBound 4 w A m k) (hvars : i64 vars) :
    Calls Tryz.prog 56 #[v, .int .i64 vars, .slice A m c] w fun e w' => e = .returned (.int .i64 (checkBounds S vars k : Nat)) ∧ Below w.heap.size w w' := by
  have ct := there_any v S w hv hT
  have Hl := Lib.hid h.1
  unfold i64 at hvars
  obtain ⟨hv1, hv2⟩ := hvars
  have CT := Lib.hid ct
  clear ct hv
  have hbad : (vars < 0 ∨ 64 < vars ∨ 256 < m) → checkBounds S vars k = 3 := fun hb => by rw [checkBounds, if_pos (by rw [Hl.out]; simpa [or_assoc] using hb)]
  have Hbad := Lib.hid hbad
  clear hbad
  by_cases h1 : vars < 0
  · go_enter Tryz.func56, Tryz.ntmps56
    go_wp2_with fail
    refine CT.out.mono ?_
    rintro e w1 ⟨⟨T, p, rfl, hD⟩, e1⟩
    obtain rfl := e1.symm
    go_wp2_with fail
    all_goals
      go_ret
      exact ⟨ret_int (by rw [Hbad.out (by omega)]; rfl), Below.refl _ _⟩
  · by_cases h2 : 64 < vars
    · go_enter Tryz.func56, Tryz.ntmps56
      go_wp2_with fail
      refine CT.out.mono ?_
      rintro e w1 ⟨⟨T, p, rfl, hD⟩, e1⟩
      obtain rfl := e1.symm
      go_wp2_with fail
      all_goals
        go_ret
        exact ⟨ret_int (by rw [Hbad.out (by omega)]; rfl), Below.refl _ _⟩
    · by_cases h3 : 256 < m
      · have i3 : (256 : Int) < (m : Int) := by omega
        go_enter Tryz.func56, Tryz.ntmps56
        go_wp2_with fail
        refine CT.out.mono ?_
        rintro e w1 ⟨⟨T, p, rfl, hD⟩, e1⟩
        obtain rfl := e1.symm
        go_wp2_with fail
        all_goals
          go_ret
          exact ⟨ret_int (by rw [Hbad.out (by omega)]; rfl), Below.refl _ _⟩
      · obtain ⟨n, rfl⟩ := Int.eq_ofNat_of_zero_le (by omega : 0 ≤ vars)
        have hval : checkBounds S (n : Int) k = if (k.all fun b => termOk S n b.a && termOk S n b.b) then 0 else 1 := by
          rw [checkBounds, if_neg (by rw [Hl.out]; simp; omega)]
          rfl
        have Hval := Lib.hid hval
        clear hval Hbad
        have i1 : (n : Int) ≤ 64 := by omega
        have i2 : (m : Int) ≤ 256 := by omega
        go_enter Tryz.func56, Tryz.ntmps56
        go_wp2_with fail
        refine CT.out.mono ?_
        rintro e w1 ⟨⟨T, p, rfl, hD⟩, e1⟩
        obtain rfl := e1.symm
        go_wp2_with fail
        go_loopw [26] (fun v w' => ∃ i : Nat, v = .int .i64 i ∧ i ≤ m ∧ Below w.heap.size w w' ∧ ∀ j b, k[j]? = some b → j < i → (termOk S n b.a && termOk S n b.b) = true) (fun v _ => m - (intOf v).toNat)
        case atStart => exact ⟨0, rfl, by omega, Below.refl _ _, fun _ _ _ h => by omega⟩
        case round =>
          obtain ⟨i, rfl, hi, hbw, hok⟩ := hrel
          have Hok := Lib.hid hok
          clear hok
          by_cases hlt : i < m
          · have hS := h.below rBound_keeps hbw
            obtain ⟨b0, o0, x, cs, rfl, hxk, ⟨rfl, hua, hub⟩, _, hcs⟩ := hS.at_ hlt (by omega)
            obtain ⟨⟨av, an⟩, ⟨bv, bn⟩⟩ := x
            have c0 := hcs 0 _ rfl
            have c1 := hcs 1 _ rfl
            have c2 := hcs 2 _ rfl
            have c3 := hcs 3 _ rfl
            simp only [Nat.add_zero] at c0
            dsimp only at c0 c1 c2 c3 hua hub
            have hbad : (termOk S n ⟨av, an⟩ && termOk S n ⟨bv, bn⟩) = false → checkBounds S (n : Int) k = 1 := fun hf => by
              rw [Hval.out, if_neg]
              intro ha
              have := List.all_eq_true.1 ha _ (List.mem_of_getElem? hxk)
              rw [hf] at this
              cases this
            have hstep : (termOk S n ⟨av, an⟩ && termOk S n ⟨bv, bn⟩) = true → ∀ j b, k[j]? = some b → j < i + 1 → (termOk S n b.a && termOk S n b.b) = true := fun ht j b hj hji => by
              by_cases hji' : j < i
              · exact Hok.out j b hj hji'
              · obtain rfl : j = i := by omega
                rw [hxk] at hj
                cases hj
                exact ht
            have Hbad := Lib.hid hbad
            have Hstep := Lib.hid hstep
            clear hxk hcs hbad hstep
            have hDr := hD.later hbw
            obtain ⟨fh, ⟨hmeth, hent⟩, hcall⟩ := hDr.has
            have HC := Lib.hid hcall
            clear hcall hDr
            unfold u64 at hua hub
            have i1' : (i : Int) < (m : Int) := by omega
            have t0 := fun a c b d => two0 a c b d
            have t1 := fun a c b d => two1 a c b d
            have v0 : termOk S n ⟨true, an⟩ = decide (an < n) := rfl
            have v1 : termOk S n ⟨false, an⟩ = S.has an := rfl
            have v2 : termOk S n ⟨true, bn⟩ = decide (bn < n) := rfl
            have v3 : termOk S n ⟨false, bn⟩ = S.has bn := rfl
            have V0 := Lib.hid v0
            have V1 := Lib.hid v1
            have V2 := Lib.hid v2
            have V3 := Lib.hid v3
            clear v0 v1 v2 v3
            go_wp2_with fail
            refine wp_loop_rounds 3 ?_
            rw [rounds_succ]
            cases av
            · cases tA : S.has an
              · go_wp2_with fail
                refine (HC.out _ an (by exact ((Below.refl _ wr).alloc (Nat.le_refl _) _).alloc (by simp) _) (by exact hua)).mono ?_
                rw [tA]
                rintro e w1 ⟨rfl, b1⟩
                go_wp2_with fail
                go_ret
                exact ⟨ret_int (by rw [Hbad.out (by rw [V1.out, tA]; rfl)]; rfl), ((hbw.alloc hbw.size _).alloc (by have := hbw.size; simp; omega) _).trans (b1.mono (by have := hbw.size; simp; omega))⟩
              · go_wp2_with fail
                refine (HC.out _ an (by exact ((Below.refl _ wr).alloc (Nat.le_refl _) _).alloc (by simp) _) (by exact hua)).mono ?_
                rw [tA]
                rintro e w1 ⟨rfl, b1⟩
                have hq1 : Below wr.heap.size wr w1 := (((Below.refl _ wr).alloc (Nat.le_refl _) _).alloc (by simp) _).trans (b1.mono (by simp; omega))
                have hz1 := hq1.size
                have hw1 := hbw.trans (hq1.mono hbw.size)
                have hz2 := hw1.size
                go_wp2_with fail
                rw [rounds_succ]
                cases bv
                · cases tB : S.has bn
                  · go_wp2_with fail
                    refine (HC.out _ bn (by exact hq1.alloc hz1 _) (by exact hub)).mono ?_
                    rw [tB]
                    rintro e w2 ⟨rfl, b2⟩
                    go_wp2_with fail
                    go_ret
                    exact ⟨ret_int (by rw [Hbad.out (by rw [V3.out, tB, Bool.and_false])]; rfl), (hw1.alloc hz2 _).trans (b2.mono (by simp; omega))⟩
                  · go_wp2_with fail
                    refine (HC.out _ bn (by exact hq1.alloc hz1 _) (by exact hub)).mono ?_
                    rw [tB]
                    rintro e w2 ⟨rfl, b2⟩
                    go_wp2_with fail
                    rw [rounds_succ]
                    go_wp2_with fail
                    exact ⟨⟨i + 1, by go_num, by omega, (hw1.alloc hz2 _).trans (b2.mono (by simp; omega)), Hstep.out (by rw [V1.out, tA, V3.out, tB]; rfl)⟩, by simp [intOf]; omega⟩
                · by_cases hB : bn < n
                  · go_wp2_with fail
                    rw [rounds_succ]
                    go_wp2_with fail
                    exact ⟨⟨i + 1, by go_num, by omega, hw1.alloc hz2 _, Hstep.out (by rw [V1.out, tA, V2.out, decide_eq_true hB]; rfl)⟩, by simp [intOf]; omega⟩
                  · go_wp2_with fail
                    go_ret
                    exact ⟨ret_int (by rw [Hbad.out (by rw [V2.out, decide_eq_false hB, Bool.and_false])]; rfl), hw1.alloc hz2 _⟩
            · by_cases hA : an < n
              · go_wp2_with fail
                have hz := hbw.size
                rw [rounds_succ]
                cases bv
                · cases tB : S.has bn
                  · go_wp2_with fail
                    refine (HC.out _ bn (by exact ((((Below.refl _ wr).alloc (Nat.le_refl _) _).alloc (by simp) _).alloc (by simp; omega) _)) (by exact hub)).mono ?_
                    rw [tB]
                    rintro e w2 ⟨rfl, b2⟩
                    go_wp2_with fail
                    go_ret
                    exact ⟨ret_int (by rw [Hbad.out (by rw [V3.out, tB, Bool.and_false])]; rfl), (((hbw.alloc hz _).alloc (by simp; omega) _).alloc (by simp; omega) _).trans (b2.mono (by simp; omega))⟩
                  · go_wp2_with fail
                    refine (HC.out _ bn (by exact ((((Below.refl _ wr).alloc (Nat.le_refl _) _).alloc (by simp) _).alloc (by simp; omega) _)) (by exact hub)).mono ?_
                    rw [tB]
                    rintro e w2 ⟨rfl, b2⟩
                    go_wp2_with fail
                    rw [rounds_succ]
                    go_wp2_with fail
                    exact ⟨⟨i + 1, by go_num, by omega, (((hbw.alloc hz _).alloc (by simp; omega) _).alloc (by simp; omega) _).trans (b2.mono (by simp; omega)), Hstep.out (by rw [V0.out, decide_eq_true hA, V3.out, tB]; rfl)⟩, by simp [intOf]; omega⟩
                · by_cases hB : bn < n
                  · go_wp2_with fail
                    rw [rounds_succ]
                    go_wp2_with fail
                    exact ⟨⟨i + 1, by go_num, by omega, ((hbw.alloc hz _).alloc (by simp; omega) _).alloc (by simp; omega) _, Hstep.out (by rw [V0.out, decide_eq_true hA, V2.out, decide_eq_true hB]; rfl)⟩, by simp [intOf]; omega⟩
                  · go_wp2_with fail
                    go_ret
                    exact ⟨ret_int (by rw [Hbad.out (by rw [V2.out, decide_eq_false hB, Bool.and_false])]; rfl), ((hbw.alloc hz _).alloc (by simp; omega) _).alloc (by simp; omega) _⟩
              · go_wp2_with fail
                go_ret
                exact ⟨ret_int (by rw [Hbad.out (by rw [V0.out, decide_eq_false hA]; rfl)]; rfl), ((hbw.alloc hbw.size _).alloc (by have := hbw.size; simp; omega) _)⟩
          · go_wp2_with fail
            go_ret
            refine ⟨ret_int ?_, hbw⟩
            rw [Hval.out, if_pos]
            · rfl
            · rw [List.all_eq_true]
              intro x hx
              obtain ⟨j, hj, rfl⟩ := List.getElem_of_mem hx
              exact Hok.out j _ (List.getElem?_eq_getElem hj) (by have := Hl.out; omega)
end Go.Proofs.YtcgnbpjbpbabaaaGreatDoor
end

section
set_option linter.unusedVariables false
set_option linter.unusedSimpArgs false
set_option maxRecDepth 100000
set_option maxHeartbeats 2000000
namespace Go.Proofs.YtcgnbpjbpbabaaaGreatDoor
open Go.RowKit

theorem indexFunc_spot (A : Option Addr) (n c : Nat) (l : List Spot) (fid : FuncId) (caps : Array Value) (p : Spot → Bool) (w : World) (h : Sl rSpot 5 w A n l) (hE : ∀ args W, (callFunc fid args).run Tryz.prog W = .ok (.enter fid args) W)
    (hF : ∀ W t, t ∈ l → u64 t.t.n → Below w.heap.size w W → Calls Tryz.prog fid (#[.agg #[.int .i64 (t.node : Nat), .int .u8 (t.part : Nat), .int .u8 (t.side : Nat), .bool t.t.var, .int .u64 (t.t.n : Nat)]] ++ caps) W fun e W' => e = .returned (.bool (p t)) ∧ Below W.heap.size W W') :
    Calls Tryz.prog 96 #[.slice A n c, .func (.func fid) #[] caps] w fun e w' => e = .returned (.int .i64 (idxI l p)) ∧ Below w.heap.size w w' := by
  have hn := h.2.1
  have hl := h.1
  go_enter Tryz.func96, Tryz.ntmps96
  go_wp2
  go_loopw [8] (fun v w' => ∃ k : Nat, v = .int .i64 k ∧ k ≤ n ∧ Below w.heap.size w w' ∧ (∀ (i : Nat) (y : Spot), l[i]? = some y → i < k → p y = false)) (fun v _ => n - (intOf v).toNat)
  case atStart => exact ⟨0, rfl, by omega, Below.refl _ _, fun _ _ _ _ => by omega⟩
  case round =>
    obtain ⟨k, rfl, hk, hbw, hs⟩ := hrel
    have Hs := Lib.hid hs
    have Hl := Lib.hid hl
    clear hs hl
    have hS := h.below rSpot_keeps hbw
    by_cases hlt : k < n
    · obtain ⟨b0, o0, t, cs, rfl, htk, hR0, _, hc0⟩ := hS.at_ hlt (by omega)
      obtain ⟨rfl, hok⟩ := hR0
      have c0 := hc0 0 _ rfl
      have c1 := hc0 1 _ rfl
      have c2 := hc0 2 _ rfl
      have c3 := hc0 3 _ rfl
      have c4 := hc0 4 _ rfl
      simp only [Nat.mul_one, Nat.add_zero] at c0
      have hF1 := hF wr t (List.mem_of_getElem? htk) hok hbw
      have Htk := Lib.hid htk
      clear htk hF hc0
      have i2 : (k : Int) < (n : Int) := by omega
      cases hp : p t <;> rw [hp] at hF1
      · have HF := Lib.hid hF1
        clear hF1
        go_wp2_with fail
        refine HF.out.mono ?_
        rintro e w1 ⟨rfl, b1⟩
        go_wp2
        refine ⟨⟨k + 1, by go_num, by omega, hbw.trans (b1.mono hbw.size), fun i y hi hik => ?_⟩, by simp [intOf]; omega⟩
        by_cases hik' : i < k
        · exact Hs.out i y hi hik'
        · obtain rfl : i = k := by omega
          rw [Htk.out] at hi
          cases hi
          exact hp
      · have HF := Lib.hid hF1
        clear hF1
        go_wp2_with fail
        refine HF.out.mono ?_
        rintro e w1 ⟨rfl, b1⟩
        go_wp2
        go_ret
        refine ⟨?_, hbw.trans (b1.mono hbw.size)⟩
        rw [idxI_at Htk.out hp Hs.out]
        rfl
    · go_wp2
      go_ret
      refine ⟨?_, hbw⟩
      rw [idxI_none (fun i y hi => Hs.out i y hi (by have := (List.getElem?_eq_some_iff.1 hi).1; have := Hl.out; omega))]
      rfl
theorem containsFunc_spot (A : Option Addr) (n c : Nat) (l : List Spot) (fid : FuncId) (caps : Array Value) (p : Spot → Bool) (w : World) (h : Sl rSpot 5 w A n l) (hE : ∀ args W, (callFunc fid args).run Tryz.prog W = .ok (.enter fid args) W)
    (hF : ∀ W t, t ∈ l → u64 t.t.n → Below w.heap.size w W → Calls Tryz.prog fid (#[.agg #[.int .i64 (t.node : Nat), .int .u8 (t.part : Nat), .int .u8 (t.side : Nat), .bool t.t.var, .int .u64 (t.t.n : Nat)]] ++ caps) W fun e W' => e = .returned (.bool (p t)) ∧ Below W.heap.size W W') :
    Calls Tryz.prog 77 #[.slice A n c, .func (.func fid) #[] caps] w fun e w' => e = .returned (.bool (l.any p)) ∧ Below w.heap.size w w' := by
  have cI := indexFunc_spot A n c l fid caps p w h hE hF
  have hg := idxI_ge l p
  have CI := Lib.hid cI
  have Hg := Lib.hid hg
  clear cI hg hF hE
  go_enter Tryz.func77, Tryz.ntmps77
  go_wp2_with fail
  refine CI.out.mono ?_
  rintro e w1 ⟨rfl, b1⟩
  go_wp2
  go_ret
  exact ⟨ret_bool Hg.out, b1⟩

theorem every1_any (fid : FuncId) (caps : Array Value) (p : Spot → Bool) (b : Nat) (t : Spot) (w : World) (hb : w.cell? ⟨b, 0, none⟩ = some (.func (.func fid) #[] caps)) (hE : ∀ args W, (callFunc fid args).run Tryz.prog W = .ok (.enter fid args) W)
    (hF : ∀ W, Below w.heap.size w W → Calls Tryz.prog fid (#[.agg #[.int .i64 (t.node : Nat), .int .u8 (t.part : Nat), .int .u8 (t.side : Nat), .bool t.t.var, .int .u64 (t.t.n : Nat)]] ++ caps) W fun e W' => e = .returned (.bool (p t)) ∧ Below W.heap.size W W') :
    Calls Tryz.prog 78 #[.agg #[.int .i64 (t.node : Nat), .int .u8 (t.part : Nat), .int .u8 (t.side : Nat), .bool t.t.var, .int .u64 (t.t.n : Nat)], .pointer (some ⟨b, 0, none⟩)] w fun e w' => e = .returned (.bool (!p t)) ∧ Below w.heap.size w w' := by
  have hbl := World.block_lt_of_cell? _ _ hb
  obtain ⟨i, pt, s, tvr, tnn⟩ := t
  have hb1 := (Below.refl w.heap.size w).alloc (Nat.le_refl _) (.cells #[.int .i64 (i : Nat), .int .u8 (pt : Nat), .int .u8 (s : Nat), .bool tvr, .int .u64 (tnn : Nat)] 121)
  have HF := Lib.hid (hF _ hb1)
  clear hF
  go_enter Tryz.func78, Tryz.ntmps78
  go_wp2_with fail
  refine HF.out.mono ?_
  rintro e w1 ⟨rfl, b1⟩
  go_wp2_with fail
  go_ret
  exact ⟨rfl, hb1.trans (b1.mono (by simp))⟩
theorem every_any (A : Option Addr) (n c : Nat) (l : List Spot) (fid : FuncId) (caps : Array Value) (p : Spot → Bool) (w : World) (h : Sl rSpot 5 w A n l) (hE : ∀ args W, (callFunc fid args).run Tryz.prog W = .ok (.enter fid args) W)
    (hF : ∀ W t, t ∈ l → u64 t.t.n → Below w.heap.size w W → Calls Tryz.prog fid (#[.agg #[.int .i64 (t.node : Nat), .int .u8 (t.part : Nat), .int .u8 (t.side : Nat), .bool t.t.var, .int .u64 (t.t.n : Nat)]] ++ caps) W fun e W' => e = .returned (.bool (p t)) ∧ Below W.heap.size W W') :
    Calls Tryz.prog 60 #[.slice A n c, .func (.func fid) #[] caps] w fun e w' => e = .returned (.bool (l.all p)) ∧ Below w.heap.size w w' := by
  obtain ⟨W0, hW0⟩ : ∃ W0, w.alloc (.cells #[.func (.func fid) #[] caps] 117) = W0 := ⟨_, rfl⟩
  have hb0 : Below w.heap.size w W0 := by rw [← hW0]; exact (Below.refl _ w).alloc (Nat.le_refl _) _
  have hc0 : W0.cell? ⟨w.heap.size, 0, none⟩ = some (.func (.func fid) #[] caps) := by rw [← hW0, (Blk.new w _ _).cell]; rfl
  have hs0 : W0.heap.size = w.heap.size + 1 := by rw [← hW0]; simp
  have cC := containsFunc_spot A n c l 78 #[.pointer (some ⟨w.heap.size, 0, none⟩)] (fun t => !p t) W0 (h.below rSpot_keeps hb0) (enters_of Tryz.func78 (by kernel_rfl) rfl) (fun W t ht hu hbW => every1_any fid caps p w.heap.size t W ((hbW.cell (by show w.heap.size < _; omega)).trans hc0) hE (fun W' hW' => hF W' t ht hu ((hb0.trans (hbW.mono hb0.size)).trans (hW'.mono (Nat.le_trans hb0.size hbW.size)))))
  have hall : (!(l.any fun t => !p t)) = l.all p := by rw [List.not_any_eq_all_not]; simp
  have CC := Lib.hid cC
  have Hall := Lib.hid hall
  have HW0 := Lib.hid hW0
  clear cC hall hW0 hF h hc0
  go_enter Tryz.func60, Tryz.ntmps60
  go_wp2_with fail
  rw [HW0.out]
  refine CC.out.mono ?_
  rintro e w1 ⟨rfl, b1⟩
  go_wp2_with fail
  go_ret
  exact ⟨ret_bool Hall.out, hb0.trans (b1.mono hb0.size)⟩

/-- what a term must bear, told by the check of the bound of it with itself -/
def spotOk (S : Srt) (vars : Int) (t : Spot) : Bool := decide (checkBounds S vars [⟨t.t, t.t⟩] = 0)
theorem spotOk_eq {S : Srt} {vars : Int} {k : List Bound} (h : checkBounds S vars k = 0) (t : Spot) : spotOk S vars t = termOk S vars.toNat t.t := by
  unfold checkBounds at h
  split at h
  · cases h
  · rename_i hv
    have h2 : ¬ (vars < 0 || 64 < vars || 256 < [(⟨t.t, t.t⟩ : Bound)].length) = true := by
      simp only [Bool.or_eq_true, decide_eq_true_eq, List.length_singleton] at hv ⊢
      omega
    rw [spotOk, checkBounds, if_neg h2]
    simp only [List.all_cons, List.all_nil, Bool.and_true, Bool.and_self]
    cases termOk S vars.toNat t.t <;> simp
theorem check11_any (v : Value) (S : Srt) (vars : Int) (b1 b2 : Nat) (t : Spot) (w : World) (hv : SrtAt w v S) (hT : Tabs w) (hvars : i64 vars) (ht : u64 t.t.n) (h1 : w.cell? ⟨b1, 0, none⟩ = some v) (h2 : w.cell? ⟨b2, 0, none⟩ = some (.int .i64 vars)) :
    Calls Tryz.prog 59 #[.agg #[.int .i64 (t.node : Nat), .int .u8 (t.part : Nat), .int .u8 (t.side : Nat), .bool t.t.var, .int .u64 (t.t.n : Nat)], .pointer (some ⟨b1, 0, none⟩), .pointer (some ⟨b2, 0, none⟩)] w fun e w' => e = .returned (.bool (spotOk S vars t)) ∧ Below w.heap.size w w' := by
  have hb1 := World.block_lt_of_cell? _ _ h1
  have hb2 := World.block_lt_of_cell? _ _ h2
  obtain ⟨i, pt, s, tvr, tnn⟩ := t
  dsimp only at ht
  obtain ⟨W0, hW0⟩ : ∃ W0, (w.alloc (.cells #[.int .i64 (i : Nat), .int .u8 (pt : Nat), .int .u8 (s : Nat), .bool tvr, .int .u64 (tnn : Nat)] 121)).alloc (.cells #[.bool tvr, .int .u64 (tnn : Nat), .bool tvr, .int .u64 (tnn : Nat)] 39) = W0 := ⟨_, rfl⟩
  have hb0 : Below w.heap.size w W0 := by rw [← hW0]; exact ((Below.refl _ w).alloc (Nat.le_refl _) _).alloc (by simp) _
  have hB : Blk W0 (w.heap.size + 1) 39 #[.bool tvr, .int .u64 (tnn : Nat), .bool tvr, .int .u64 (tnn : Nat)] := by
    rw [← hW0]
    have := Blk.new (w.alloc (.cells #[.int .i64 (i : Nat), .int .u8 (pt : Nat), .int .u8 (s : Nat), .bool tvr, .int .u64 (tnn : Nat)] 121)) 39 #[.bool tvr, .int .u64 (tnn : Nat), .bool tvr, .int .u64 (tnn : Nat)]
    rwa [World.size_alloc] at this
  have hS : Sl rBound 4 W0 (some ⟨w.heap.size + 1, 0, none⟩) 1 [⟨⟨tvr, tnn⟩, ⟨tvr, tnn⟩⟩] := by
    refine ⟨rfl, by omega, fun _ => ⟨_, rfl, fun j x hx => ?_⟩⟩
    have hj : j = 0 := by have := (List.getElem?_eq_some_iff.1 hx).1; simpa using this
    subst hj
    cases hx
    refine ⟨_, ⟨rfl, ht, ht⟩, rfl, fun k u hu => ?_⟩
    rw [add_lit', Nat.zero_mul, Nat.zero_add, Nat.zero_add, hB.cell]
    simpa [cBound] using hu
  have cB := bcheck_any v S vars (some ⟨w.heap.size + 1, 0, none⟩) 1 1 [⟨⟨tvr, tnn⟩, ⟨tvr, tnn⟩⟩] W0 (hv.below hb0) (hT.below hb0) hS hvars
  have hval : (((checkBounds S vars [⟨⟨tvr, tnn⟩, ⟨tvr, tnn⟩⟩] : Nat) : Int) == 0) = spotOk S vars ⟨i, pt, s, ⟨tvr, tnn⟩⟩ := by
    rw [spotOk]
    by_cases h : checkBounds S vars [⟨⟨tvr, tnn⟩, ⟨tvr, tnn⟩⟩] = 0
    · simp [h]
    · rw [decide_eq_false h, beq_eq_false_iff_ne]; omega
  have CB := Lib.hid cB
  have Hval := Lib.hid hval
  have HW0 := Lib.hid hW0
  clear cB hval hW0 hS hB
  rcases hv.dyn hT with ⟨rfl, rfl⟩ | ⟨T, p, rfl, _⟩
  all_goals
    go_enter Tryz.func59, Tryz.ntmps59
    go_wp2_with fail
    rw [HW0.out]
    refine CB.out.mono ?_
    rintro e w1 ⟨rfl, b1⟩
    go_wp2_with fail
    go_ret
    exact ⟨ret_bool Hval.out, hb0.trans (b1.mono hb0.size)⟩
end Go.Proofs.YtcgnbpjbpbabaaaGreatDoor
end

section
set_option linter.unusedVariables false
set_option linter.unusedSimpArgs false
set_option maxRecDepth 100000
set_option maxHeartbeats 2000000
namespace Go.Proofs.YtcgnbpjbpbabaaaGreatDoor
open Go.RowKit
theorem check1_any (v : Value) (S : Srt) (vars : Int) (w : World) (hv : SrtAt w v S) (hT : Tabs w) :
    Calls Tryz.prog 58 #[v, .int .i64 vars] w fun e w' => ∃ b1 b2, e = .returned (.func (.func 59) #[] #[.pointer (some ⟨b1, 0, none⟩), .pointer (some ⟨b2, 0, none⟩)]) ∧ w'.cell? ⟨b1, 0, none⟩ = some v ∧ w'.cell? ⟨b2, 0, none⟩ = some (.int .i64 vars) ∧ Below w.heap.size w w' := by
  have hB : ∀ u : Value, Below w.heap.size w ((w.alloc (.cells #[u] 80)).alloc (.cells #[.int .i64 vars] 3)) := fun u => ((Below.refl _ w).alloc (Nat.le_refl _) _).alloc (by simp) _
  have h1 : ∀ u : Value, ((w.alloc (.cells #[u] 80)).alloc (.cells #[.int .i64 vars] 3)).cell? ⟨w.heap.size, 0, none⟩ = some u := fun u => by rw [((Blk.new w _ _).alloc _).cell]; rfl
  have h2 : ∀ u : Value, ((w.alloc (.cells #[u] 80)).alloc (.cells #[.int .i64 vars] 3)).cell? ⟨w.heap.size + 1, 0, none⟩ = some (.int .i64 vars) := fun u => by
    have := (Blk.new (w.alloc (.cells #[u] 80)) 3 #[.int .i64 vars]).cell 0
    rw [World.size_alloc] at this
    rw [this]
    rfl
  have H1 := Lib.hid h1
  have H2 := Lib.hid h2
  clear h1 h2
  rcases hv.dyn hT with ⟨rfl, rfl⟩ | ⟨T, p, rfl, _⟩
  all_goals
    go_enter Tryz.func58, Tryz.ntmps58
    go_wp2_with fail
    go_ret
    exact ⟨_, _, rfl, H1.out _, H2.out _, hB _⟩

theorem scheck_any (lv ev : Int) (A B C : Option Addr) (n c m d k e : Nat) (body : List Node) (lb eb : List Bound) (v1 v2 : Value) (L X : Srt) (w : World) (hb : Sl rNode 10 w A n body) (hl : Sl rBound 4 w B m lb) (he : Sl rBound 4 w C k eb) (hlv : i64 lv) (hev : i64 ev) (h1 : SrtAt w v1 L) (h2 : SrtAt w v2 X) (hT : Tabs w) :
    Calls Tryz.prog 31 #[.agg #[.int .i64 lv, .int .i64 ev, .slice A n c, .slice B m d, .slice C k e], v1, v2] w fun r w' => r = .returned (.int .i64 (checkScheme ⟨lv, ev, body, lb, eb⟩ L X : Nat)) ∧ Below w.heap.size w w' := by
  obtain ⟨W0, hW0⟩ : ∃ W0, w.alloc (.cells #[.int .i64 lv, .int .i64 ev, .slice A n c, .slice B m d, .slice C k e] 43) = W0 := ⟨_, rfl⟩
  have hb0 : Below w.heap.size w W0 := by rw [← hW0]; exact (Below.refl _ w).alloc (Nat.le_refl _) _
  have hB0 : Blk W0 w.heap.size 43 #[.int .i64 lv, .int .i64 ev, .slice A n c, .slice B m d, .slice C k e] := by rw [← hW0]; exact Blk.new w _ _
  have hcells : ∀ W, Below W0.heap.size W0 W → W.cell? ⟨w.heap.size, 0, none⟩ = some (.int .i64 lv) ∧ W.cell? ⟨w.heap.size, 1, none⟩ = some (.int .i64 ev) ∧ W.cell? ⟨w.heap.size, 2, none⟩ = some (.slice A n c) ∧ W.cell? ⟨w.heap.size, 3, none⟩ = some (.slice B m d) ∧ W.cell? ⟨w.heap.size, 4, none⟩ = some (.slice C k e) := fun W hW => by
    have := hB0.below hW hB0.lt
    refine ⟨?_, ?_, ?_, ?_, ?_⟩ <;> rw [this.cell] <;> rfl
  have Hcells := Lib.hid hcells
  have HW0 := Lib.hid hW0
  have Hb := Lib.hid (hb.below rNode_keeps hb0)
  have Hl := Lib.hid (hl.below rBound_keeps hb0)
  have He := Lib.hid (he.below rBound_keeps hb0)
  have H1 := Lib.hid (h1.below hb0)
  have H2 := Lib.hid (h2.below hb0)
  have hT0 := hT.below hb0
  have cT := tcheck_any A n c body W0 Hb.out
  have CT := Lib.hid cT
  clear hcells hW0 hb hl he h1 h2 hT cT hB0
  by_cases z1 : checkBody body = 0
  · have y1 : (((checkBody body : Nat) : Int) != 0) = false := by rw [z1]; rfl
    by_cases z2 : checkBounds L lv lb = 0
    · have y2 : (((checkBounds L lv lb : Nat) : Int) != 0) = false := by rw [z2]; rfl
      by_cases z3 : checkBounds X ev eb = 0
      · have y3 : (((checkBounds X ev eb : Nat) : Int) != 0) = false := by rw [z3]; rfl
        have hval : checkScheme ⟨lv, ev, body, lb, eb⟩ L X = if ((spotsOf body).1.all (spotOk L lv)) && ((spotsOf body).2.all (spotOk X ev)) then 0 else 1 := by
          rw [checkScheme, if_neg (by simpa using z1), if_neg (by simpa using z2), if_neg (by simpa using z3)]
          rw [show (fun p : Spot => termOk L lv.toNat p.t) = spotOk L lv from funext fun t => (spotOk_eq z2 t).symm, show (fun p : Spot => termOk X ev.toNat p.t) = spotOk X ev from funext fun t => (spotOk_eq z3 t).symm]
        rw [hval]
        clear hval
        have Z := Lib.hid (And.intro z1 (And.intro z2 z3))
        clear z1 z2 z3
        go_enter Tryz.func31, Tryz.ntmps31
        go_wp2_with fail
        rw [HW0.out]
        have g0 := Hcells.out W0 (Below.refl _ _)
        obtain ⟨_, _, g2, _, _⟩ := g0
        go_wp2_with fail
        refine CT.out.mono ?_
        rintro r w1 ⟨rfl, b1⟩
        obtain ⟨g0, g1, g2, g3, g4⟩ := Hcells.out w1 b1
        go_wp2_with fail
        refine (bcheck_any v1 L lv B m d lb w1 (H1.out.below b1) (hT0.below b1) (Hl.out.below rBound_keeps b1) hlv).mono ?_
        rintro r w2 ⟨rfl, b2⟩
        have b2 := b1.trans (b2.mono b1.size)
        obtain ⟨g0, g1, g2, g3, g4⟩ := Hcells.out w2 b2
        go_wp2_with fail
        refine (bcheck_any v2 X ev C k e eb w2 (H2.out.below b2) (hT0.below b2) (He.out.below rBound_keeps b2) hev).mono ?_
        rintro r w3 ⟨rfl, b3⟩
        have b3 := b2.trans (b3.mono b2.size)
        obtain ⟨g0, g1, g2, g3, g4⟩ := Hcells.out w3 b3
        go_wp2_with fail
        refine (spotsOf_any A n c body w3 (Hb.out.below rNode_keeps b3)).mono ?_
        rintro r w4 ⟨A1, n1, c1, A2, n2, c2, rfl, hs1, hs2, _, _, _, _, b4⟩
        have b4 := b3.trans (b4.mono b3.size)
        have Hs1 := Lib.hid hs1
        have Hs2 := Lib.hid hs2
        clear hs1 hs2
        obtain ⟨g0, g1, g2, g3, g4⟩ := Hcells.out w4 b4
        go_wp2_with fail
        refine (check1_any v1 L lv w4 (H1.out.below b4) (hT0.below b4)).mono ?_
        rintro r w5 ⟨p1, p2, rfl, q1, q2, b5'⟩
        have b5 := b4.trans (b5'.mono b4.size)
        have hs1 := Hs1.out.below rSpot_keeps b5'
        have hs2 := Hs2.out.below rSpot_keeps b5'
        have cE := every_any A1 n1 c1 (spotsOf body).1 59 #[.pointer (some ⟨p1, 0, none⟩), .pointer (some ⟨p2, 0, none⟩)] (spotOk L lv) w5 hs1 (enters_of Tryz.func59 (by kernel_rfl) rfl) (fun W t ht hu hW => check11_any v1 L lv p1 p2 t W (H1.out.below (b5.trans (hW.mono b5.size))) (hT0.below (b5.trans (hW.mono b5.size))) hlv hu ((hW.cell (World.block_lt_of_cell? _ _ q1)).trans q1) ((hW.cell (World.block_lt_of_cell? _ _ q2)).trans q2))
        have CE := Lib.hid cE
        have HS2 := Lib.hid hs2
        obtain ⟨g0, g1, g2, g3, g4⟩ := Hcells.out w5 b5
        clear cE hs1 hs2 q1 q2
        go_wp2_with fail
        refine CE.out.mono ?_
        rintro r w6 ⟨rfl, b6'⟩
        have b6 := b5.trans (b6'.mono b5.size)
        obtain ⟨g0, g1, g2, g3, g4⟩ := Hcells.out w6 b6
        cases za : (spotsOf body).1.all (spotOk L lv)
        · go_wp2_with fail
          all_goals
            go_ret
            exact ⟨rfl, hb0.trans (b6.mono hb0.size)⟩
        · go_wp2_with fail
          refine (check1_any v2 X ev w6 (H2.out.below b6) (hT0.below b6)).mono ?_
          rintro r w7 ⟨p1, p2, rfl, q1, q2, b7'⟩
          have b7 := b6.trans (b7'.mono b6.size)
          have hs2 := (HS2.out.below rSpot_keeps b6').below rSpot_keeps b7'
          have cE := every_any A2 n2 c2 (spotsOf body).2 59 #[.pointer (some ⟨p1, 0, none⟩), .pointer (some ⟨p2, 0, none⟩)] (spotOk X ev) w7 hs2 (enters_of Tryz.func59 (by kernel_rfl) rfl) (fun W t ht hu hW => check11_any v2 X ev p1 p2 t W (H2.out.below (b7.trans (hW.mono b7.size))) (hT0.below (b7.trans (hW.mono b7.size))) hev hu ((hW.cell (World.block_lt_of_cell? _ _ q1)).trans q1) ((hW.cell (World.block_lt_of_cell? _ _ q2)).trans q2))
          have CE2 := Lib.hid cE
          clear cE hs2 q1 q2
          go_wp2_with fail
          refine CE2.out.mono ?_
          rintro r w8 ⟨rfl, b8'⟩
          have b8 := b7.trans (b8'.mono b7.size)
          cases zb : (spotsOf body).2.all (spotOk X ev)
          all_goals
            go_wp2_with fail
            all_goals
              go_ret
              exact ⟨rfl, hb0.trans (b8.mono hb0.size)⟩
      · have y3 : (((checkBounds X ev eb : Nat) : Int) != 0) = true := by rw [bne_iff_ne]; omega
        have hval : checkScheme ⟨lv, ev, body, lb, eb⟩ L X = checkBounds X ev eb := by
          rw [checkScheme, if_neg (by simpa using z1), if_neg (by simpa using z2), if_pos (by simpa using z3)]
        rw [hval]
        clear hval z1 z2 z3
        go_enter Tryz.func31, Tryz.ntmps31
        go_wp2_with fail
        rw [HW0.out]
        obtain ⟨_, _, g2, _, _⟩ := Hcells.out W0 (Below.refl _ _)
        go_wp2_with fail
        refine CT.out.mono ?_
        rintro r w1 ⟨rfl, b1⟩
        obtain ⟨g0, g1, g2, g3, g4⟩ := Hcells.out w1 b1
        go_wp2_with fail
        refine (bcheck_any v1 L lv B m d lb w1 (H1.out.below b1) (hT0.below b1) (Hl.out.below rBound_keeps b1) hlv).mono ?_
        rintro r w2 ⟨rfl, b2⟩
        have b2 := b1.trans (b2.mono b1.size)
        obtain ⟨g0, g1, g2, g3, g4⟩ := Hcells.out w2 b2
        go_wp2_with fail
        refine (bcheck_any v2 X ev C k e eb w2 (H2.out.below b2) (hT0.below b2) (He.out.below rBound_keeps b2) hev).mono ?_
        rintro r w3 ⟨rfl, b3⟩
        have b3 := b2.trans (b3.mono b2.size)
        go_wp2_with fail
        go_ret
        exact ⟨rfl, hb0.trans (b3.mono hb0.size)⟩
    · have y2 : (((checkBounds L lv lb : Nat) : Int) != 0) = true := by rw [bne_iff_ne]; omega
      have hval : checkScheme ⟨lv, ev, body, lb, eb⟩ L X = checkBounds L lv lb := by
        rw [checkScheme, if_neg (by simpa using z1), if_pos (by simpa using z2)]
      rw [hval]
      clear hval z1 z2
      go_enter Tryz.func31, Tryz.ntmps31
      go_wp2_with fail
      rw [HW0.out]
      obtain ⟨_, _, g2, _, _⟩ := Hcells.out W0 (Below.refl _ _)
      go_wp2_with fail
      refine CT.out.mono ?_
      rintro r w1 ⟨rfl, b1⟩
      obtain ⟨g0, g1, g2, g3, g4⟩ := Hcells.out w1 b1
      go_wp2_with fail
      refine (bcheck_any v1 L lv B m d lb w1 (H1.out.below b1) (hT0.below b1) (Hl.out.below rBound_keeps b1) hlv).mono ?_
      rintro r w2 ⟨rfl, b2⟩
      have b2 := b1.trans (b2.mono b1.size)
      go_wp2_with fail
      go_ret
      exact ⟨rfl, hb0.trans (b2.mono hb0.size)⟩
  · have y1 : (((checkBody body : Nat) : Int) != 0) = true := by rw [bne_iff_ne]; omega
    have hval : checkScheme ⟨lv, ev, body, lb, eb⟩ L X = checkBody body := by
      rw [checkScheme, if_pos (by simpa using z1)]
    rw [hval]
    clear hval z1
    go_enter Tryz.func31, Tryz.ntmps31
    go_wp2_with fail
    rw [HW0.out]
    obtain ⟨_, _, g2, _, _⟩ := Hcells.out W0 (Below.refl _ _)
    go_wp2_with fail
    refine CT.out.mono ?_
    rintro r w1 ⟨rfl, b1⟩
    go_wp2_with fail
    go_ret
    exact ⟨rfl, hb0.trans (b1.mono hb0.size)⟩
end Go.Proofs.YtcgnbpjbpbabaaaGreatDoor
end
