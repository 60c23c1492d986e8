/- How an argument that is a slice of texts opens. -/
import Derived.Test.YtjinhkdncenhdaaGreatDoorLaw
import Derived.Test.YtjinhkdncenhdaaGreatDoorTextsC
set_option linter.unusedVariables false
set_option linter.unusedSimpArgs false
namespace Go.Proofs.YtjinhkdncenhdaaGreatDoor
open Go.ChangeShapes Go.WideShapes Go.ChangeAt Go.RowKit

theorem weights_all {H : Type} {P : Program} {e : TypeId} {ds : List (DataW H)} {d : DataW H} (hd : d ∈ ds) : ∀ n ∈ d.weights P e, n ∈ DataW.weightsAll P e ds := by
  intro n hn
  induction ds with
  | nil => simp at hd
  | cons a r ih =>
    simp only [DataW.weightsAll, List.mem_append]
    rcases List.mem_cons.1 hd with rfl | hd
    · exact .inl hn
    · exact .inr (ih hd)

theorem open_texts {H : Type} {enc : TypeId × Value → H} {P : Program} {w : World} {r : Reach} {b0 : Nat} {t e : TypeId} {v : Value} {d : DataW H} {ps : List MemPlace} (ht : P.underlying t = some (.slice e)) (he : P.underlying e = some .string) (hc : P.cellsOf e = 1) (hby : P.bytesOf e = 16)
    (hval : Value.okWide P w r b0 t v) (h : DataW.Trod enc P w 0 (fun _ => true) true t v d ps) (hsz : ∀ n ∈ d.weights P t, n ≤ reachBytes) :
    ∃ A n c l, v = .slice A n c ∧ Strs w A n l ∧ n ≤ c ∧ c * 16 ≤ 140737488351232 ∧ ∀ s ∈ l, s.size ≤ 140737488351232 := by
  obtain ⟨A, n, c, rfl⟩ := okWide_slice ht hval
  obtain ⟨fuel, hf⟩ := h
  rcases open_strings ht he hc hf with ⟨hcs, _⟩ | ⟨a, len, cap, ss, hcs, _, hl, hm, hlen, hx, hcell, hw⟩
  · simp [Value.cells] at hcs
    obtain ⟨rfl, rfl, rfl⟩ := hcs
    exact ⟨none, 0, 0, [], rfl, ⟨rfl, by omega, by simp, fun h => absurd h (by omega)⟩, by omega, by omega, by simp⟩
  · simp [Value.cells] at hcs
    obtain ⟨rfl, rfl, rfl⟩ := hcs
    simp only [if_true] at hlen
    simp only [Prod.mk.injEq] at hx
    obtain ⟨rfl, rfl⟩ := hx
    have hcap : c * 16 ≤ 140737488351232 := by
      have := hsz ((c : Nat) * 16) (by
        simp only [DataW.weights, ht, hby, List.mem_cons]
        left
        simp [strs]
        omega)
      simpa [reachBytes] using this
    have hstr : ∀ s ∈ ss.take n, s.size ≤ 140737488351232 := by
      intro s hs
      have := hsz s.size (by
        simp only [DataW.weights, ht, List.mem_cons, List.mem_append]
        right; left
        refine weights_all (d := .lit (.string s.data.toList)) ?_ _ (by simp [DataW.weights])
        exact List.mem_map.2 ⟨s, hs, rfl⟩)
      simpa [reachBytes] using this
    refine ⟨some a, n, c, ss.take n, rfl, ⟨by simp; omega, by omega, fun s hs => by have := hstr s hs; omega, fun _ => ⟨a, rfl, fun j hj => ?_⟩⟩, hl, hcap, hstr⟩
    have hj' : j < n := by simp at hj; omega
    rw [hcell j (by omega)]
    simp [List.getD, show j < ss.length by omega]
end Go.Proofs.YtjinhkdncenhdaaGreatDoor
