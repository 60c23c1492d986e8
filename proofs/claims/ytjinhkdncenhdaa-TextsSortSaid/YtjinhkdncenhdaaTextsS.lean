/- For any texts, by how far they are moved: TextsSort answers true. -/
import Derived.Test.YtjinhkdncenhdaaTextsF
set_option linter.unusedVariables false
set_option linter.unusedSimpArgs false
namespace Go.Proofs.Ytjinhkdncenhdaa
open Go.RowKit

set_option maxHeartbeats 400000 in
theorem has_q (A : Option Addr) (n c : Nat) (l : List ByteArray) (s : ByteArray) (w : World) (h : Strs w A n l) :
    Calls Try.prog 11 #[.slice A n c, .string s] w fun e w' => e = .returned (.bool (hasB l s)) ∧ w' = w := by
  have hn := h.2.1
  go_enter Try.func11, Try.ntmps11
  go_wp2
  go_loop [5] (fun v => ∃ k : Nat, v = .int .i64 k ∧ k ≤ n ∧ hasB (l.drop k) s = hasB l s) (fun v => n - (intOf v).toNat)
  case atStart => exact ⟨0, rfl, by omega, rfl⟩
  case round =>
    obtain ⟨k, rfl, hk, hs⟩ := hrel
    have Hs := Lib.hid hs
    clear hs
    by_cases hlt : k < n
    · obtain ⟨ad, t, rfl, hsk, hc, hss⟩ := h.at_ hlt
      have hd : hasB (l.drop k) s = ((t.toList == s.toList) || hasB (l.drop (k + 1)) s) := by
        rw [List.drop_eq_getElem_cons (by have := h.1; omega), List.getElem?_eq_some_iff.1 hsk |>.2]
        rfl
      have Hd := Lib.hid hd
      clear hd
      have i2 : (k : Int) < (n : Int) := by omega
      cases hb : (t.toList == s.toList)
      · go_wp2
        refine ⟨⟨k + 1, by go_num, by omega, ?_⟩, by simp [intOf]; omega⟩
        rw [← Hs.out, Hd.out, hb, Bool.false_or]
      · go_wp2
        go_ret
        refine ⟨?_, rfl⟩
        rw [← Hs.out, Hd.out, hb, Bool.true_or]
        rfl
    · go_wp2
      go_ret
      refine ⟨?_, rfl⟩
      rw [← Hs.out, List.drop_eq_nil_of_le (by have := h.1; omega)]
      rfl

set_option maxRecDepth 100000 in
set_option maxHeartbeats 1000000 in
theorem textsSort_any (A : Option Addr) (n c : Nat) (l : List ByteArray) (a : UInt8) (w : World) (h : Strs w A n l) (hnc : n ≤ c) (hc : c * 16 ≤ 140737488351232) :
    Calls Try.prog 3 #[.slice A n c, .int .u8 a.toNat] w fun e w' => e = .returned (.bool true) ∧ Below w.heap.size w w' := by
  have cG := great_any A n c l w h
  cases hg : greatB l
  · have hln := great_len hg
    have hn : n ≤ 150 := by rw [← h.1]; exact hln
    rw [hg] at cG
    have CG := Lib.hid cG
    clear cG hg
    go_enter Try.func3, Try.ntmps3
    go_wp2_with fail
    refine CG.out.mono ?_
    rintro e w1 ⟨rfl, b1⟩
    go_wp2_with fail
    refine (sort_any A n c l w1 (h.below b1) (by omega)).mono ?_
    rintro e w2 ⟨A', m, rfl, hX, hO, b2⟩
    have b12 := bthen b1 b2
    have hmn : m ≤ n := by have := sortT_length l; have := hX.1; have := h.1; omega
    have hR := sortT_rise l
    have hmem := mem_sortT l
    have hidem := sortT_idem l
    have hcong : ∀ k, sortT (l.drop k ++ l.take k) = sortT l := fun k => sortT_congr (fun x => by
      rw [List.mem_append]
      constructor
      · rintro (h | h)
        · exact List.mem_of_mem_drop h
        · exact List.mem_of_mem_take h
      · intro hx
        rw [← List.take_append_drop k l, List.mem_append] at hx
        exact hx.symm)
    obtain ⟨x, hx⟩ : ∃ x, sortT l = x := ⟨_, rfl⟩
    rw [hx] at hX hR hmem hidem hcong
    clear hx b2 CG
    have hh := h.below b12
    have HR := Lib.hid hR
    have Hmem := Lib.hid hmem
    have Hidem := Lib.hid hidem
    have Hcong := Lib.hid hcong
    clear hR hmem hidem hcong b1
    have cO := sorted_any A' m m x w2 hX
    rw [sortedB_rise HR.out] at cO
    go_wp2_with fail
    refine cO.mono ?_
    clear cO
    rintro e w3 ⟨rfl, b3⟩
    have b13 := bthen b12 b3
    have hX3 := hX.below b3
    have hh3 := hh.below b3
    clear b12 b3 hX hh
    go_wp2_with fail
    go_loopw [6] (fun v wr => ∃ i : Nat, v = .int .i64 i ∧ i ≤ m ∧ Below w.heap.size w wr ∧ Strs wr A' m x ∧ Strs wr A n l) (fun v _ => m - (intOf v).toNat)
    case atStart => exact ⟨0, rfl, by omega, b13, hX3, hh3⟩
    case round =>
      clear b13 hX3 hh3
      obtain ⟨i, rfl, hi, bwr, hXr, hhr⟩ := hrel
      by_cases hlt : i < m
      · obtain ⟨ad, t, rfl, htk, hct, hts⟩ := hXr.at_ hlt
        have j2 : (i : Int) < (m : Int) := by omega
        have hfn := findN_at HR.out i t htk
        have hfb : findB x t = true := (findB_iff HR.out t).2 (List.mem_of_getElem? htk)
        have hhas : hasB l t = true := (hasB_iff l t).2 ((Hmem.out t).1 (List.mem_of_getElem? htk))
        have cF := find_any (some ad) m m x t wr hXr
        rw [hfn, hfb] at cF
        have Htk := Lib.hid htk
        have Hhas := Lib.hid hhas
        clear hfn hfb htk hhas
        go_wp2_with fail
        refine cF.mono ?_
        clear cF
        rintro e w4 ⟨rfl, b4⟩
        have hX4 := hXr.below b4
        have hh4 := hhr.below b4
        have hct4 := (b4.cell (World.block_lt_of_cell? wr _ hct)).trans hct
        have bw4 := bthen bwr b4
        clear bwr hXr hhr hct b4
        have cH := fun W (hW : Strs W A n l) => has_q A n c l t W hW
        rw [Hhas.out] at cH
        have CH := Lib.hid cH
        clear cH
        have n1 : (!((i : Int) == (i : Int))) = false := by simp
        by_cases h0 : 0 < i
        · obtain ⟨ad', t', e', htk', hct', hts'⟩ := hX4.at_ (k := i - 1) (by omega)
          cases e'
          have hless : Op.bytesLess t'.toList t.toList = true := by
            rw [less_iff]
            obtain ⟨_, rfl⟩ := List.getElem?_eq_some_iff.1 htk'
            obtain ⟨_, rfl⟩ := List.getElem?_eq_some_iff.1 Htk.out
            exact List.pairwise_iff_getElem.1 HR.out (i - 1) i (by omega) (by omega) (by omega)
          have Htk' := Lib.hid htk'
          clear htk'
          have i1 : (0 : Int) < (i : Int) := by omega
          have i1' : (1 : Int) ≤ (i : Int) := by omega
          have i3 : (0 : Int) ≤ (i : Int) - 1 := by omega
          have i4 : (i : Int) - 1 < (m : Int) := by omega
          have e1 : IntKind.i64.wrap ((i : Int) - 1) = (i : Int) - 1 := IntWalk.i64_in _ (by omega)
          have e2 : ((i : Int) - 1).toNat = i - 1 := by omega
          go_wp2_with fail
          go_quiet ((go_at_call 11; exact Calls.quiet_of_same (CH.out _ (hh4.below (below_drewN (Below.refl _ _) _)))))
          clear e1 e2
          go_wp2
          exact ⟨⟨i + 1, by go_num, by omega, below_drewN bw4 nq, hX4, hh4⟩, by simp [intOf]; omega⟩
        · obtain rfl : i = 0 := by omega
          have hct0 : w4.cell? ad = some (.string t) := by simpa [Addr.add] using hct4
          go_wp2_with fail
          go_quiet ((go_at_call 11; exact Calls.quiet_of_same (CH.out _ (hh4.below (below_drewN (Below.refl _ _) _)))))
          go_wp2
          exact ⟨⟨1, rfl, by omega, below_drewN bw4 nq, hX4, hh4⟩, by simp [intOf]; omega⟩
      · obtain rfl : m = i := by omega
        go_wp2_with fail
        go_loop [9] (fun v => ∃ i : Nat, v = .int .i64 i ∧ i ≤ n) (fun v => n - (intOf v).toNat)
        case atStart => exact ⟨0, rfl, by omega⟩
        case round =>
          obtain ⟨j, rfl, hj⟩ := hrel
          by_cases hjn : j < n
          · obtain ⟨ad, t, rfl, htk, hct, hts⟩ := hhr.at_ hjn
            have j2 : (j : Int) < (n : Int) := by omega
            have cH := has_q A' m m x t wr hXr
            rw [(hasB_iff x t).2 ((Hmem.out t).2 (List.mem_of_getElem? htk))] at cH
            have Htk := Lib.hid htk
            clear htk
            go_wp2_with fail
            refine cH.mono ?_
            clear cH
            rintro e w4 ⟨rfl, rfl⟩
            go_wp2
            exact ⟨⟨j + 1, by go_num, by omega⟩, by simp [intOf]; omega⟩
          · obtain rfl : n = j := by omega
            have hun := h.1
            have Hun := Lib.hid hun
            clear hun
            obtain ⟨i0, hi0, hz0, hz1, hz2⟩ := info_parts str_info
            have hone : ∀ (l : List ByteArray), ∀ u ∈ l.map Value.string, u.oneCell' = true := by
              intro l u hu
              obtain ⟨t, _, rfl⟩ := List.mem_map.1 hu
              rfl
            have Hone := Lib.hid hone
            have Hz0 := Lib.hid hz0
            have Hz1 := Lib.hid hz1
            have Hz2 := Lib.hid hz2
            have Hi0 := Lib.hid hi0
            have hR3 := strs_reads hhr
            have hls := hhr.2.2.1
            clear hone hz0 hz1 hz2 hi0
            by_cases hn0 : n = 0
            · subst hn0
              have hl0 : l = [] := List.eq_nil_of_length_eq_zero Hun.out
              have hrd : ∀ W, Below wr.heap.size wr W → Reads W wr.heap.size 1 A 0 (([] : List ByteArray).map Value.string) := fun W hW => ⟨rfl, fun h => absurd h (by omega)⟩
              have Hrd := Lib.hid hrd
              clear hrd
              go_wp2_with fail
              go_upto_region 20 with fail
              go_cut [11] (fun s11 wx => ∃ A2 c2, s11 = .slice A2 0 c2 ∧ Strs wx A2 0 [] ∧ Below wr.heap.size wr wx)
              case first =>
                go_region_law (first
                  | (refine step_append_any _ rfl (.const (.slice none 0 0)) (.tmp 90) 22 rfl wr.heap.size 9 i0 (.string ⟨#[]⟩) 1 16 Try.underlying22 Hi0.out Hz0.out Hz1.out Hz2.out rfl (by omega) (.slice none 0 0) 0 [] ?_ ⟨by simp, .inl ⟨rfl, rfl⟩⟩ wr.heap.size A 0 c (([] : List ByteArray).map Value.string) ?_ (Hrd.out _ (by exact (Below.refl _ _).drew)) (Hone.out _) ?_ ?_ ?_ ?_
                     · simp [Act.eval]
                     · simp [Act.eval, Act.put]
                     · simp only [maxLen]; omega
                     · omega
                     · simp
                     intro v1 w4 hown1 hg1 hat1
                     have hb4 : Below wr.heap.size wr w4 := (Below.refl _ wr).drew.grown hg1 (by simp) (by simp [Value.ownBlock]))
                  | (refine step_append_any _ rfl (.tmp 91) (.tmp 94) 22 rfl wr.heap.size 9 i0 (.string ⟨#[]⟩) 1 16 Try.underlying22 Hi0.out Hz0.out Hz1.out Hz2.out rfl (by omega) v1 _ _ ?_ hown1 wr.heap.size A 0 c (([] : List ByteArray).map Value.string) ?_ (Hrd.out _ hb4) (Hone.out _) ?_ ?_ hb4.size ?_
                     · simp [Act.eval, Act.put]
                     · simp [Act.eval, Act.put]
                     · simp only [maxLen]; omega
                     · omega
                     intro v2 w5 hown2 hg2 hat2
                     have hb5 : Below wr.heap.size wr w5 := hb4.grown hg2 hb4.size (fun k hk => (hown1.lt k hk).1)))
                all_goals
                  go_wp2_with fail
                  go_meet
                  obtain ⟨A2, c2, rfl, hS2⟩ := own_strs (l := []) hown2 (by omega) (by simp)
                  exact ⟨A2, c2, rfl, hS2, hb5⟩
              case rest =>
                obtain ⟨A2, c2, rfl, hS2, b4⟩ := hcut
                have hsx : sortT ([] : List ByteArray) = x := by rw [← Hcong.out 0, hl0]; rfl
                have HX := Lib.hid hsx
                clear hsx hl0
                have b15 := bthen bwr b4
                have hX5 := hXr.below b4
                go_wp2_with fail
                refine (alive_any _).mono ?_
                rintro e w6 ⟨rfl, b6⟩
                have hX6 := hX5.below b6
                have hS6 := hS2.below b6
                have b16 := bthen b15 b6
                clear b15 b6 hX5 hS2
                go_wp2_with fail
                refine (sort_any A' m m x w6 hX6 (by omega)).mono ?_
                rintro e w7 ⟨A3, m3, rfl, hS3, _, b7⟩
                rw [Hidem.out] at hS3
                have b17 := bthen b16 b7
                have hX7 := hX6.below b7
                have hS7 := hS6.below b7
                clear b16 b7 hX6 hS6
                go_wp2_with fail
                have cE := same_any A3 A' m3 m3 m m x x w7 hS3 hX7
                rw [(sameB_iff _ _).2 rfl] at cE
                refine cE.mono ?_
                clear cE hS3
                rintro e w8 ⟨rfl, b8⟩
                have b18 := bthen b17 b8
                have hX8 := hX7.below b8
                have hS8 := hS7.below b8
                clear b17 b8 hX7 hS7
                go_wp2_with fail
                refine (sort_any A2 0 c2 _ w8 hS8 (by omega)).mono ?_
                rintro e w9 ⟨A4, m4, rfl, hS4, _, b9⟩
                rw [HX.out] at hS4
                have b19 := bthen b18 b9
                have hX9 := hX8.below b9
                clear b18 b9 hX8 hS8
                go_wp2_with fail
                have cE := same_any A4 A' m4 m4 m m x x w9 hS4 hX9
                rw [(sameB_iff _ _).2 rfl] at cE
                refine cE.mono ?_
                clear cE hS4
                rintro e w10 ⟨rfl, b10⟩
                go_wp2
                go_ret
                exact ⟨rfl, bthen b19 b10⟩
            · have a1 := a.toNat_lt
              have a2 : (0 : Int) < (n : Int) := by omega
              have a3 : (0 : Int) ≤ (a.toNat : Int) := by omega
              have a4 : ((n : Int) == 0) = false := by simp; omega
              go_wp2_with fail
              obtain ⟨k, hk, hkl⟩ : ∃ k : Nat, ((a.toNat : Int) % (n : Int)) = (k : Int) ∧ k < n := by
                refine ⟨a.toNat % n, by rw [Int.natCast_emod], ?_⟩
                exact Nat.mod_lt a.toNat (by omega)
              rw [hk]
              clear hk
              have k1 : (0 : Int) ≤ (k : Int) := by omega
              have k2 : (k : Int) ≤ (n : Int) := by omega
              have k3 : (n : Int) ≤ (c : Int) := by omega
              have k4 : ¬ c = k := by omega
              have k5 : k ≤ c := by omega
              have k6 : (k : Int) ≤ (c : Int) := by omega
              have hrt : ∀ W, Below wr.heap.size wr W → Reads W wr.heap.size 1 A k ((l.take k).map Value.string) := by
                intro W hW
                have h1 := hR3.below hW
                exact ⟨by simp; have := Hun.out; omega, fun hk => by
                  obtain ⟨ad, e, hb, hc⟩ := h1.2 (by omega)
                  exact ⟨ad, e, hb, fun j u hu => hc j u (by
                    rw [List.map_take, List.getElem?_take] at hu
                    split at hu
                    · exact hu
                    · cases hu)⟩⟩
              have hrd : ∀ W, Below wr.heap.size wr W → Reads W wr.heap.size 1 (A.map (·.add k)) (n - k) ((l.drop k).map Value.string) := by
                intro W hW
                have h1 := (hR3.below hW).cut (k := k) (cap := c) (by omega) hnc
                rw [Nat.mul_one, ← List.map_drop, if_neg k4] at h1
                exact h1
              have Hrt := Lib.hid hrt
              have Hrd := Lib.hid hrd
              clear hrt hrd hR3
              go_upto_region 20 with fail
              go_cut [11] (fun s11 wx => ∃ A2 c2, s11 = .slice A2 n c2 ∧ Strs wx A2 n (l.drop k ++ l.take k) ∧ Below wr.heap.size wr wx)
              case first =>
                go_region_law (first
                  | (refine step_append_any _ rfl (.const (.slice none 0 0)) (.tmp 90) 22 rfl wr.heap.size 9 i0 (.string ⟨#[]⟩) 1 16 Try.underlying22 Hi0.out Hz0.out Hz1.out Hz2.out rfl (by omega) (.slice none 0 0) 0 [] ?_ ⟨by simp, .inl ⟨rfl, rfl⟩⟩ wr.heap.size (A.map (·.add k)) (n - k) (c - k) ((l.drop k).map Value.string) ?_ (Hrd.out _ (by exact (Below.refl _ _).drew)) (Hone.out _) ?_ ?_ ?_ ?_
                     · simp [Act.eval]
                     · simp [Act.eval, Act.put]
                     · simp only [maxLen]; omega
                     · omega
                     · simp
                     intro v1 w4 hown1 hg1 hat1
                     have hb4 : Below wr.heap.size wr w4 := (Below.refl _ wr).drew.grown hg1 (by simp) (by simp [Value.ownBlock]))
                  | (refine step_append_any _ rfl (.tmp 91) (.tmp 94) 22 rfl wr.heap.size 9 i0 (.string ⟨#[]⟩) 1 16 Try.underlying22 Hi0.out Hz0.out Hz1.out Hz2.out rfl (by omega) v1 _ _ ?_ hown1 wr.heap.size A k c ((l.take k).map Value.string) ?_ (Hrt.out _ hb4) (Hone.out _) ?_ ?_ hb4.size ?_
                     · simp [Act.eval, Act.put]
                     · simp [Act.eval, Act.put]
                     · simp only [maxLen]; omega
                     · omega
                     intro v2 w5 hown2 hg2 hat2
                     have hb5 : Below wr.heap.size wr w5 := hb4.grown hg2 hb4.size (fun k hk => (hown1.lt k hk).1)))
                all_goals
                  go_wp2_with fail
                  go_meet
                  rw [show 0 + (n - k) + k = n by omega, show ([] ++ (l.drop k).map Value.string) ++ (l.take k).map Value.string = (l.drop k ++ l.take k).map Value.string by simp] at hown2
                  obtain ⟨A2, c2, rfl, hS2⟩ := own_strs hown2 (by omega) (by
                    intro t ht
                    rcases List.mem_append.1 ht with ht | ht
                    · exact hls t (List.mem_of_mem_drop ht)
                    · exact hls t (List.mem_of_mem_take ht))
                  exact ⟨A2, c2, rfl, hS2, hb5⟩
              case rest =>
                obtain ⟨A2, c2, rfl, hS2, b4⟩ := hcut
                have hsx := Hcong.out k
                have HX := Lib.hid hsx
                clear hsx
                have b15 := bthen bwr b4
                have hX5 := hXr.below b4
                go_wp2_with fail
                refine (alive_any _).mono ?_
                rintro e w6 ⟨rfl, b6⟩
                have hX6 := hX5.below b6
                have hS6 := hS2.below b6
                have b16 := bthen b15 b6
                clear b15 b6 hX5 hS2
                go_wp2_with fail
                refine (sort_any A' m m x w6 hX6 (by omega)).mono ?_
                rintro e w7 ⟨A3, m3, rfl, hS3, _, b7⟩
                rw [Hidem.out] at hS3
                have b17 := bthen b16 b7
                have hX7 := hX6.below b7
                have hS7 := hS6.below b7
                clear b16 b7 hX6 hS6
                go_wp2_with fail
                have cE := same_any A3 A' m3 m3 m m x x w7 hS3 hX7
                rw [(sameB_iff _ _).2 rfl] at cE
                refine cE.mono ?_
                clear cE hS3
                rintro e w8 ⟨rfl, b8⟩
                have b18 := bthen b17 b8
                have hX8 := hX7.below b8
                have hS8 := hS7.below b8
                clear b17 b8 hX7 hS7
                go_wp2_with fail
                refine (sort_any A2 n c2 _ w8 hS8 (by omega)).mono ?_
                rintro e w9 ⟨A4, m4, rfl, hS4, _, b9⟩
                rw [HX.out] at hS4
                have b19 := bthen b18 b9
                have hX9 := hX8.below b9
                clear b18 b9 hX8 hS8
                go_wp2_with fail
                have cE := same_any A4 A' m4 m4 m m x x w9 hS4 hX9
                rw [(sameB_iff _ _).2 rfl] at cE
                refine cE.mono ?_
                clear cE hS4
                rintro e w10 ⟨rfl, b10⟩
                go_wp2
                go_ret
                exact ⟨rfl, bthen b19 b10⟩
  · rw [hg] at cG
    have CG := Lib.hid cG
    clear cG hg
    go_enter Try.func3, Try.ntmps3
    go_wp2_with fail
    refine CG.out.mono ?_
    rintro e w1 ⟨rfl, b1⟩
    go_wp2_with fail
    refine (alive_any _).mono ?_
    rintro e w2 ⟨rfl, b2⟩
    go_wp2
    go_ret
    exact ⟨rfl, bthen b1 b2⟩
end Go.Proofs.Ytjinhkdncenhdaa
