/- Small facts for walks with texts. -/
import Derived.Test.YtjinhkdncenhdaaGreatDoorTextsP
import Derived.Test.YtjinhkdncenhdaaGreatDoorWords
set_option linter.unusedVariables false
set_option linter.unusedSimpArgs false
namespace Go.Proofs.YtjinhkdncenhdaaGreatDoor
open Go.RowKit

theorem bthen {w w1 w2 : World} (h : Below w.heap.size w w1) (k : Below w1.heap.size w1 w2) : Below w.heap.size w w2 := h.trans (k.mono h.size)
theorem balloc {w w1 : World} (h : Below w.heap.size w w1) (o : Obj) : Below w.heap.size w (w1.alloc o) := h.alloc h.size o

theorem strs_new (w : World) (cur : Array Value) (e : TypeId) (l : List ByteArray) (h : cur.toList = l.map Value.string) (hl : l.length ≤ 9223372036854775807) (hs : ∀ s ∈ l, s.size ≤ 4611686018427387904) :
    Strs (w.alloc (.cells cur e)) (some ⟨w.heap.size, 0, none⟩) l.length l := by
  refine ⟨rfl, hl, hs, fun _ => ⟨_, rfl, fun j hj => ?_⟩⟩
  rw [add_lit, Nat.zero_add, World.cell?_alloc_mark, ← Array.getElem?_toList, h]
  simp [hj]
theorem strs_none (w : World) : Strs w none 0 [] := ⟨rfl, by omega, by simp, fun h => absurd h (by omega)⟩

def tx (l : List UInt8) : ByteArray := ⟨l.toArray⟩

theorem sortT_length (l : List ByteArray) : (sortT l).length ≤ l.length := by
  unfold sortT sortL
  rw [List.length_map]
  refine Nat.le_trans (compact_length _) ?_
  simp
theorem strs_reads {w : World} {A : Option Addr} {n : Nat} {l : List ByteArray} (h : Strs w A n l) : Reads w w.heap.size 1 A n (l.map Value.string) := by
  refine ⟨by simp [h.1], fun hn => ?_⟩
  obtain ⟨ad, e, hc⟩ := h.2.2.2 hn
  refine ⟨ad, e, ?_, fun j u hu => ?_⟩
  · have := World.block_lt_of_cell? w _ (hc 0 (by have := h.1; omega))
    rwa [block_of_add] at this
  · rw [List.getElem?_map] at hu
    cases hj : l[j]? with
    | none => rw [hj] at hu; cases hu
    | some s =>
      rw [hj] at hu
      cases hu
      obtain ⟨hlt, rfl⟩ := List.getElem?_eq_some_iff.1 hj
      exact hc j hlt
theorem reads_strs {w : World} {B : Nat} {A : Option Addr} {n : Nat} {l : List ByteArray} (h : Reads w B 1 A n (l.map Value.string)) (hn : n ≤ 9223372036854775807) (hs : ∀ s ∈ l, s.size ≤ 4611686018427387904) : Strs w A n l := by
  have hl : l.length = n := by simpa using h.1
  refine ⟨hl, hn, hs, fun hp => ?_⟩
  obtain ⟨ad, e, _, hc⟩ := h.2 hp
  exact ⟨ad, e, fun j hj => hc j _ (by rw [List.getElem?_map, List.getElem?_eq_getElem hj]; rfl)⟩

theorem reads_one {w : World} {b B : Nat} {s : ByteArray} (hc : w.cell? ⟨b, 0, none⟩ = some (.string s)) (hb : b < B) : Reads w B 1 (some ⟨b, 0, none⟩) 1 ([s].map Value.string) :=
  ⟨by simp, fun _ => ⟨_, rfl, hb, fun j u hu => by
    cases j with
    | zero =>
      simp at hu
      subst hu
      rw [add_lit]
      exact hc
    | succ j => simp at hu⟩⟩

theorem own_strs {w : World} {B n : Nat} {e : TypeId} {v : Value} {l : List ByteArray} (h : w.ownsRow B e 1 v n (l.map Value.string)) (hn : n ≤ 9223372036854775807) (hs : ∀ s ∈ l, s.size ≤ 4611686018427387904) :
    ∃ A c, v = .slice A n c ∧ Strs w A n l := by
  rcases h.2 with ⟨rfl, rfl⟩ | ⟨g, cap, cur, rfl, hb, hg, hc⟩
  · exact ⟨none, 0, rfl, reads_strs (Reads.of_own (c := 0) h) hn hs⟩
  · exact ⟨_, _, rfl, reads_strs (Reads.of_own h) hn hs⟩

theorem str_info : (Tryz.prog.info? 9).map (fun i => (i.zero, i.size, i.bytes)) = some (some (.string ⟨#[]⟩), 1, 16) := by kernel_rfl

end Go.Proofs.YtjinhkdncenhdaaGreatDoor
