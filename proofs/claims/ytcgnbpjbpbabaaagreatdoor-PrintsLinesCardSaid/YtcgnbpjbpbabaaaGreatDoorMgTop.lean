/- PrintsLines: for any interface the law answers true, and what was handed in reads as it did. No condition. The row, and its card. -/
import Derived.Test.YtcgnbpjbpbabaaaGreatDoorMg27
import Derived.Test.YtcgnbpjbpbabaaaGreatDoorTie
import Derived.Test.YtcgnbpjbpbabaaaGreatDoorCards
import Derived.LaidMore
import Derived.Lay
import Derived.OpenShut
import Derived.Stop.Joined
import Derived.SevenTiedAt
set_option linter.unusedVariables false
set_option linter.unusedSimpArgs false
namespace Go.Proofs.YtcgnbpjbpbabaaaGreatDoor
open Go.ChangeShapes Go.WideShapes Go.ChangeAt Go.RowKit

theorem handles_none : ((Rows.printsLinesRow.laid.filter fun x => x.2.handleName?.isSome) = []) ∧ (Rows.printsLinesRow.laid.filter fun x => x.2.handleName?.isNone) = Rows.printsLinesRow.laid := ⟨by kernel_rfl, by kernel_rfl⟩
theorem laidH_plain {W : World} (h : laidMet Tryz.prog Rows.printsLinesRow.laid W) : laidMetH Tryz.prog Rows.printsLinesRow.laid W :=
  laidMetH_iff.2 ⟨by rw [handles_none.2]; exact h, by rw [handles_none.1]; exact fun x hx => by cases hx⟩

set_option maxRecDepth 100000 in
theorem printsLines_lifted (os : Os) (started : os.Started) (H : Type) (enc : TypeId × Value → H) :
    ReturnsInHanded {} Tryz.checked os 3 .any (fun w args => (Rows.printsLinesSpec.pre enc Tryz.prog Tryz.f3 [] false w args ∧ laidMetH Tryz.prog Rows.printsLinesRow.laid w) ∧ sizedMet enc Tryz.prog Tryz.f3 (OpenSpec.ofChange Rows.printsLinesSpec) false w args)
      (Rows.printsLinesSpec.post enc Tryz.prog Tryz.f3 false true false false) := by
  refine returnsInHanded_of_change_and (C := Tryz.checked) (X := fun w _ => laidMetH Tryz.prog Rows.printsLinesRow.laid w) (fun _ _ _ hh h => h.of_heap hh) Tryz.own started (by kernel_rfl) Tryz.func3
    (ChangeSpec.witness_shaped (enc := enc) (C := Tryz.checked) (os := os) (X := fun w _ => laidMetH Tryz.prog Rows.printsLinesRow.laid w) false (World.laidAll Tryz.prog os Rows.printsLinesRow.laid) #[.agg #[.string ⟨#[]⟩, .slice none 0 0, .slice none 0 0, .slice none 0 0, .slice none 0 0, .slice none 0 0, .slice none 0 0]] 8 (World.laidAll_os _ _ _)
      (World.shaped_of_ZipB (by kernel_rfl) (by kernel_rfl)) (by kernel_rfl) (by kernel_rfl) (by kernel_rfl)
      (laidH_plain (laidMet_laidAll _ (by kernel_rfl) (by kernel_rfl)))) ?_
  intro W base args ds gs before hval0 hW _ hsz0 hL _
  have hsz : (DataW.weightsEach Tryz.prog (Tryz.f3.params.toList ++ Rows.printsLinesSpec.plain.varTypes Tryz.prog) (ds ++ gs)).all (· ≤ reachBytes) = true := hsz0
  clear hsz0
  have hval : ∀ (j : Nat) t v, Tryz.f3.params[j]? = some t → args[j]? = some v → Value.okWide Tryz.prog W .any base t v := hval0
  have hW' := hW
  obtain ⟨p, q, hA0, hV, rfl, hfz, hnd⟩ := hW
  have hA : DataW.TrodAll enc Tryz.prog W 0 (fun _ => true) true Tryz.f3.params.toList args.toList ds p := hA0
  rw [Tryz.params3] at hA hval hsz
  obtain ⟨v0, d0, rfl, rfl, h0⟩ := trodAll_one hA
  obtain ⟨f, A1, A2, A3, A4, A5, A6, n1, c1, n2, c2, n3, c3, n4, c4, n5, c5, n6, c6, rfl, hmod, s1, s2, s3, s4, s5, s6, hse, ⟨m1, m2, m3, m4, m5, m6⟩, v1, v2, v3, v4, v5, v6⟩ := open_face (hval 0 27 v0 rfl rfl) h0 (fun k hk => by
    have := List.all_eq_true.1 hsz k (DataW.weights_mem_each (j := 0) rfl rfl k hk)
    exact of_decide_eq_true this)
  clear hA0 hval0
  obtain ⟨hT, hP⟩ := tabs_of_laid hL
  refine (law_any f A1 A2 A3 A4 A5 A6 n1 c1 n2 c2 n3 c3 n4 c4 n5 c5 n6 c6 W hmod (sl_strs.1 s1) s2 (sl_strs.1 s3) (sl_strs.1 s4) s5 s6 m1 m3 m4 (by omega) (by omega) (by omega) (by omega) (by omega) (by omega) hse hT hP).mono fun e W' ⟨he, hb⟩ => ?_
  subst he
  exact ⟨_, rfl, post_law Tryz.laidOut (by rw [Tryz.params3]; exact fun t ht => by simp at ht; subst ht; exact ⟨by kernel_rfl, of_decide_eq_true (by kernel_rfl)⟩) Tryz.underlying4 (by kernel_rfl) rfl rfl hW' hb⟩

theorem printsLines_row : Rows.PrintsLinesSaid :=
  OpenClaim.holds_of_wide 3 Tryz.f3 rfl rfl rfl rfl rfl rfl rfl ⟨rfl, rfl, rfl, rfl, rfl⟩ rfl rfl rfl rfl rfl (by kernel_rfl) Tryz.func3 (by kernel_rfl)
    (of_decide_eq_true (by kernel_rfl)) (by unfold Func.isWrapper; first | (rw [if_pos (by decide +kernel)]; kernel_rfl) | (rw [if_neg (by decide +kernel)]; exact ⟨rfl, rfl⟩))
    (fun os started H enc _ => printsLines_lifted os started H enc)

theorem printsLines_holds : Rows.PrintsLinesCardSaid :=
  Claim7.holds_tied_plain_at .later [] [.data, .data, .data, .data, .pinned] true _ false
    printsLines_row (fun _ h => by cases h) (by kernel_rfl) (fun _ h => by cases h) printsLines_row_tie rfl ⟨rfl, rfl⟩ (by kernel_rfl) rfl
    (fun f fn hf hfn => by
      obtain rfl : f = 3 := Option.some.inj ((show Tryz.prog.funcNamed "cartouche/cartouchelaw23.PrintsLines" = some 3 by kernel_rfl).symm.trans hf) |>.symm
      obtain rfl : fn = Tryz.f3 := (Option.some.inj (Tryz.func3.symm.trans hfn)).symm
      exact ⟨by kernel_rfl, fun j t ht => by
        rw [Tryz.params3] at ht
        have hm : t ∈ [27] := by simpa using Array.mem_of_getElem? ht
        have hall : ([27].all fun u => !Tryz.prog.wantsStandIn u) = true := by kernel_rfl
        exact (show Tryz.prog.wantsStandIn t = false by simpa using List.all_eq_true.1 hall t hm)⟩)
    (by kernel_rfl)
#print axioms printsLines_holds
end Go.Proofs.YtcgnbpjbpbabaaaGreatDoor
