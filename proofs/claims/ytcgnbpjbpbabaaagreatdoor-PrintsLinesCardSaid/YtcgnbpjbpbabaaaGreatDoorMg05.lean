/- Interfaces, part A: IndexFunc and ContainsFunc over texts and over lists of texts, with any function value; Contains. Interfaces, part B: most, names, base, Contains, of: what faces.Check asks of lists of texts. Rows of the call's own whose block may be greater than their capacity; what a piece of code may change. Plain lemmas. -/
import Derived.Test.YtcgnbpjbpbabaaaGreatDoorMg03
import Derived.Test.YtcgnbpjbpbabaaaGreatDoorShelf
import Derived.Test.YtcgnbpjbpbabaaaGreatDoorMg02
import Derived.ArgAppend
import Derived.Maps.AppendAt
section
set_option linter.unusedVariables false
set_option linter.unusedSimpArgs false
namespace Go.Proofs.YtcgnbpjbpbabaaaGreatDoor
open Go.RowKit

/-- the first place where it holds; -1: nowhere -/
def idxI {α : Type} (l : List α) (p : α → Bool) : Int := match l.findIdx? p with | some i => i | none => -1
theorem idxI_at {α : Type} {l : List α} {p : α → Bool} {k : Nat} {x : α} (hx : l[k]? = some x) (hp : p x = true) (h : ∀ (i : Nat) (y : α), l[i]? = some y → i < k → p y = false) : idxI l p = k := by
  have : l.findIdx? p = some k := by
    rw [List.findIdx?_eq_some_iff_getElem]
    obtain ⟨hk, rfl⟩ := List.getElem?_eq_some_iff.1 hx
    exact ⟨hk, hp, fun j hj => by rw [h j _ (List.getElem?_eq_getElem (by omega)) hj]; simp⟩
  rw [idxI, this]
theorem idxI_none {α : Type} {l : List α} {p : α → Bool} (h : ∀ (i : Nat) (y : α), l[i]? = some y → p y = false) : idxI l p = -1 := by
  have : l.findIdx? p = none := by
    rw [List.findIdx?_eq_none_iff]
    intro x hx
    obtain ⟨i, hi, rfl⟩ := List.getElem_of_mem hx
    exact h i _ (List.getElem?_eq_getElem hi)
  rw [idxI, this]
theorem idxI_ge {α : Type} (l : List α) (p : α → Bool) : decide (0 ≤ idxI l p) = l.any p := by
  unfold idxI
  cases h : l.findIdx? p with
  | none =>
    rw [List.findIdx?_eq_none_iff] at h
    rw [Bool.eq_iff_iff, List.any_eq_true, decide_eq_true_eq]
    constructor
    · intro h'; exact absurd h' (by decide)
    · rintro ⟨x, hx, hp⟩
      rw [h x hx] at hp
      cases hp
  | some i =>
    rw [List.findIdx?_eq_some_iff_getElem] at h
    obtain ⟨hk, hp, _⟩ := h
    rw [Bool.eq_iff_iff, List.any_eq_true, decide_eq_true_eq]
    exact ⟨fun _ => ⟨_, List.getElem_mem hk, hp⟩, fun _ => Int.natCast_nonneg i⟩
theorem idxI_bounds {α : Type} (l : List α) (p : α → Bool) : -1 ≤ idxI l p ∧ idxI l p < (l.length : Int) + 1 := by
  unfold idxI
  cases h : l.findIdx? p with
  | none => simp; omega
  | some i =>
    rw [List.findIdx?_eq_some_iff_getElem] at h
    obtain ⟨hk, _⟩ := h
    simp
    omega

/-- a list of texts, as a slice's value -/
def rTexts (w : World) (cs : List Value) (l : List ByteArray) : Prop := ∃ B m d, cs = [.slice B m d] ∧ Strs w B m l ∧ m ≤ d
theorem rTexts_keeps : Keeps rTexts := fun _ _ _ _ hb ⟨B, m, d, e, h, h'⟩ => ⟨B, m, d, e, h.below hb, h'⟩

set_option maxRecDepth 100000 in
set_option maxHeartbeats 400000 in
theorem indexFunc_str (A : Option Addr) (n c : Nat) (l : List ByteArray) (fid : FuncId) (caps : Array Value) (p : ByteArray → Bool) (w : World) (h : Strs w A n l) (hE : ∀ args W, (callFunc fid args).run Tryz.prog W = .ok (.enter fid args) W)
    (hF : ∀ W s, s ∈ l → Below w.heap.size w W → Calls Tryz.prog fid (#[.string s] ++ caps) W fun e W' => e = .returned (.bool (p s)) ∧ Below W.heap.size W W') :
    Calls Tryz.prog 47 #[.slice A n c, .func (.func fid) #[] caps] w fun e w' => e = .returned (.int .i64 (idxI l p)) ∧ Below w.heap.size w w' := by
  have hn := h.2.1
  have hl := h.1
  go_enter Tryz.func47, Tryz.ntmps47
  go_wp2
  go_loopw [5, 8] (fun _ v w' => ∃ k : Nat, v = .int .i64 k ∧ k ≤ n ∧ Below w.heap.size w w' ∧ (∀ (i : Nat) (y : ByteArray), l[i]? = some y → i < k → p y = false)) (fun _ v _ => n - (intOf v).toNat)
  case atStart => exact ⟨0, rfl, by omega, Below.refl _ _, fun _ _ _ _ => by omega⟩
  case round =>
    obtain ⟨k, rfl, hk, hbw, hs⟩ := hrel
    have Hs := Lib.hid hs
    have Hl := Lib.hid hl
    clear hs hl
    have hS := h.below hbw
    by_cases hlt : k < n
    · obtain ⟨ad, t, rfl, htk, hc, hts⟩ := hS.at_ hlt
      have hF1 := hF wr t (List.mem_of_getElem? htk) hbw
      have Htk := Lib.hid htk
      clear htk hF
      have i2 : (k : Int) < (n : Int) := by omega
      cases hp : p t <;> rw [hp] at hF1
      · go_wp2_with fail
        refine hF1.mono ?_
        rintro e w1 ⟨rfl, b1⟩
        go_wp2
        refine ⟨⟨k + 1, by go_num, by omega, hbw.trans (b1.mono hbw.size), fun i y hi hik => ?_⟩, by simp [intOf]; omega⟩
        by_cases hik' : i < k
        · exact Hs.out i y hi hik'
        · obtain rfl : i = k := by omega
          rw [Htk.out] at hi
          cases hi
          exact hp
      · go_wp2_with fail
        refine hF1.mono ?_
        rintro e w1 ⟨rfl, b1⟩
        go_wp2
        go_ret
        refine ⟨?_, hbw.trans (b1.mono hbw.size)⟩
        rw [idxI_at Htk.out hp Hs.out]
        rfl
    · go_wp2
      go_ret
      refine ⟨?_, hbw⟩
      rw [idxI_none (fun i y hi => Hs.out i y hi (by have := (List.getElem?_eq_some_iff.1 hi).1; have := Hl.out; omega))]
      rfl

theorem containsFunc_str (A : Option Addr) (n c : Nat) (l : List ByteArray) (fid : FuncId) (caps : Array Value) (p : ByteArray → Bool) (w : World) (h : Strs w A n l) (hE : ∀ args W, (callFunc fid args).run Tryz.prog W = .ok (.enter fid args) W)
    (hF : ∀ W s, s ∈ l → Below w.heap.size w W → Calls Tryz.prog fid (#[.string s] ++ caps) W fun e W' => e = .returned (.bool (p s)) ∧ Below W.heap.size W W') :
    Calls Tryz.prog 26 #[.slice A n c, .func (.func fid) #[] caps] w fun e w' => e = .returned (.bool (l.any p)) ∧ Below w.heap.size w w' := by
  have cI := indexFunc_str A n c l fid caps p w h hE hF
  have hg := idxI_ge l p
  have CI := Lib.hid cI
  have Hg := Lib.hid hg
  clear cI hg hF hE
  go_enter Tryz.func26, Tryz.ntmps26
  go_wp2_with fail
  refine CI.out.mono ?_
  rintro e w1 ⟨rfl, b1⟩
  go_wp2
  go_ret
  exact ⟨ret_bool Hg.out, b1⟩

set_option maxRecDepth 100000 in
set_option maxHeartbeats 400000 in
theorem indexFunc_lists (A : Option Addr) (n c : Nat) (l : List (List ByteArray)) (fid : FuncId) (caps : Array Value) (p : (List ByteArray) → Bool) (w : World) (h : Sl rTexts 1 w A n l) (hE : ∀ args W, (callFunc fid args).run Tryz.prog W = .ok (.enter fid args) W)
    (hF : ∀ W s B m d, s ∈ l → Strs W B m s → m ≤ d → Below w.heap.size w W → Calls Tryz.prog fid (#[.slice B m d] ++ caps) W fun e W' => e = .returned (.bool (p s)) ∧ Below W.heap.size W W') :
    Calls Tryz.prog 68 #[.slice A n c, .func (.func fid) #[] caps] w fun e w' => e = .returned (.int .i64 (idxI l p)) ∧ Below w.heap.size w w' := by
  have hn := h.2.1
  have hl := h.1
  go_enter Tryz.func68, Tryz.ntmps68
  go_wp2
  go_loopw [5, 8] (fun _ v w' => ∃ k : Nat, v = .int .i64 k ∧ k ≤ n ∧ Below w.heap.size w w' ∧ (∀ (i : Nat) (y : (List ByteArray)), l[i]? = some y → i < k → p y = false)) (fun _ v _ => n - (intOf v).toNat)
  case atStart => exact ⟨0, rfl, by omega, Below.refl _ _, fun _ _ _ _ => by omega⟩
  case round =>
    obtain ⟨k, rfl, hk, hbw, hs⟩ := hrel
    have Hs := Lib.hid hs
    have Hl := Lib.hid hl
    clear hs hl
    have hS := h.below rTexts_keeps hbw
    by_cases hlt : k < n
    · obtain ⟨b0, o0, t, cs, rfl, htk, ⟨B, m, d, rfl, hB, hmd⟩, _, hc0⟩ := hS.at_ hlt (by omega)
      have hc := hc0 0 _ rfl
      simp only [Nat.mul_one, Nat.add_zero] at hc
      have hF1 := hF wr t B m d (List.mem_of_getElem? htk) hB hmd hbw
      have Htk := Lib.hid htk
      clear htk hF
      have i2 : (k : Int) < (n : Int) := by omega
      cases hp : p t <;> rw [hp] at hF1
      · go_wp2_with fail
        refine hF1.mono ?_
        rintro e w1 ⟨rfl, b1⟩
        go_wp2
        refine ⟨⟨k + 1, by go_num, by omega, hbw.trans (b1.mono hbw.size), fun i y hi hik => ?_⟩, by simp [intOf]; omega⟩
        by_cases hik' : i < k
        · exact Hs.out i y hi hik'
        · obtain rfl : i = k := by omega
          rw [Htk.out] at hi
          cases hi
          exact hp
      · go_wp2_with fail
        refine hF1.mono ?_
        rintro e w1 ⟨rfl, b1⟩
        go_wp2
        go_ret
        refine ⟨?_, hbw.trans (b1.mono hbw.size)⟩
        rw [idxI_at Htk.out hp Hs.out]
        rfl
    · go_wp2
      go_ret
      refine ⟨?_, hbw⟩
      rw [idxI_none (fun i y hi => Hs.out i y hi (by have := (List.getElem?_eq_some_iff.1 hi).1; have := Hl.out; omega))]
      rfl

theorem containsFunc_lists (A : Option Addr) (n c : Nat) (l : List (List ByteArray)) (fid : FuncId) (caps : Array Value) (p : (List ByteArray) → Bool) (w : World) (h : Sl rTexts 1 w A n l) (hE : ∀ args W, (callFunc fid args).run Tryz.prog W = .ok (.enter fid args) W)
    (hF : ∀ W s B m d, s ∈ l → Strs W B m s → m ≤ d → Below w.heap.size w W → Calls Tryz.prog fid (#[.slice B m d] ++ caps) W fun e W' => e = .returned (.bool (p s)) ∧ Below W.heap.size W W') :
    Calls Tryz.prog 42 #[.slice A n c, .func (.func fid) #[] caps] w fun e w' => e = .returned (.bool (l.any p)) ∧ Below w.heap.size w w' := by
  have cI := indexFunc_lists A n c l fid caps p w h hE hF
  have hg := idxI_ge l p
  have CI := Lib.hid cI
  have Hg := Lib.hid hg
  clear cI hg hF hE
  go_enter Tryz.func42, Tryz.ntmps42
  go_wp2_with fail
  refine CI.out.mono ?_
  rintro e w1 ⟨rfl, b1⟩
  go_wp2
  go_ret
  exact ⟨ret_bool Hg.out, b1⟩

end Go.Proofs.YtcgnbpjbpbabaaaGreatDoor
end

section
set_option linter.unusedVariables false
set_option linter.unusedSimpArgs false
namespace Go.Proofs.YtcgnbpjbpbabaaaGreatDoor
open Go.RowKit

theorem enters100 : ∀ args W, (callFunc 43 args).run Tryz.prog W = .ok (.enter 43 args) W := fun _ _ => by kernel_rfl
theorem enters102 : ∀ args W, (callFunc 45 args).run Tryz.prog W = .ok (.enter 45 args) W := fun _ _ => by kernel_rfl
theorem enters42 : ∀ args W, (callFunc 27 args).run Tryz.prog W = .ok (.enter 27 args) W := fun _ _ => by kernel_rfl

theorem most1_any (B : Option Addr) (m d lim b : Nat) (hm : m ≤ 9223372036854775807) (hl : lim ≤ 1000000) (w : World) (hb : w.cell? ⟨b, 0, none⟩ = some (.int .i64 lim)) :
    Calls Tryz.prog 43 #[.slice B m d, .pointer (some ⟨b, 0, none⟩)] w fun e w' => e = .returned (.bool (decide (lim < m))) ∧ Below w.heap.size w w' := by
  go_enter Tryz.func43, Tryz.ntmps43
  go_wp2
  go_ret
  exact ⟨ret_bool (by simp), Below.refl _ _⟩

set_option maxHeartbeats 400000 in
theorem most_any (lim : Nat) (hl : lim ≤ 1000000) (A : Option Addr) (n c : Nat) (ls : List (List ByteArray)) (w : World) (h : Sl rTexts 1 w A n ls) :
    Calls Tryz.prog 24 #[.int .i64 lim, .slice A n c] w fun e w' => e = .returned (.bool (ls.any fun l => decide (lim < l.length))) ∧ Below w.heap.size w w' := by
  have cC := containsFunc_lists A n c ls 43 #[.pointer (some ⟨w.heap.size, 0, none⟩)] (fun l => decide (lim < l.length)) (w.alloc (.cells #[.int .i64 lim] 3))
    (h.below rTexts_keeps ((Below.refl _ w).alloc (Nat.le_refl _) _)) enters100 (fun W s B m d hs hS hmd hb => by
      have hc : W.cell? ⟨w.heap.size, 0, none⟩ = some (.int .i64 lim) := (hb.cell (p := ⟨w.heap.size, 0, none⟩) (by simp)).trans (World.cell?_alloc_mark _ _ _ _ _)
      have := most1_any B m d lim w.heap.size hS.2.1 hl W hc
      rw [← hS.1] at this ⊢
      exact this)
  have CC := Lib.hid cC
  clear cC
  go_enter Tryz.func24, Tryz.ntmps24
  go_wp2_with fail
  refine CC.out.mono ?_
  rintro e w1 ⟨rfl, b1⟩
  go_wp2
  go_ret
  exact ⟨rfl, ((Below.refl _ w).alloc (Nat.le_refl _) _).trans (b1.mono (by simp))⟩

theorem names1_any (s : ByteArray) (w : World) (hs : s.size ≤ 9223372036854775807) :
    Calls Tryz.prog 45 #[.string s] w fun e w' => e = .returned (.bool (!nameB s.data.toList)) ∧ Below w.heap.size w w' := by
  have cN := Lib.hid (name_any s w hs)
  go_enter Tryz.func45, Tryz.ntmps45
  go_wp2_with fail
  refine cN.out.mono ?_
  rintro e w1 ⟨rfl, b1⟩
  go_wp2
  go_ret
  exact ⟨rfl, b1⟩


set_option maxHeartbeats 1000000 in
theorem names_any (A : Option Addr) (n c : Nat) (ls : List (List ByteArray)) (w : World) (h : Sl rTexts 1 w A n ls) :
    Calls Tryz.prog 25 #[.slice A n c] w fun e w' => e = .returned (.bool (ls.all namesB)) ∧ Below w.heap.size w w' := by
  have hn := h.2.1
  have hl := h.1
  go_enter Tryz.func25, Tryz.ntmps25
  go_wp2
  go_loopw [4, 7] (fun _ v w' => ∃ k : Nat, v = .int .i64 k ∧ k ≤ n ∧ Below w.heap.size w w' ∧ (∀ (i : Nat) (y : List ByteArray), ls[i]? = some y → i < k → namesB y = true)) (fun _ v _ => n - (intOf v).toNat)
  case atStart => exact ⟨0, rfl, by omega, Below.refl _ _, fun _ _ _ _ => by omega⟩
  case round =>
    obtain ⟨k, rfl, hk, hbw, hs⟩ := hrel
    have Hs := Lib.hid hs
    have Hl := Lib.hid hl
    clear hs hl
    have hS := h.below rTexts_keeps hbw
    by_cases hlt : k < n
    · obtain ⟨b0, o0, t, cs, rfl, htk, ⟨B, m, d, rfl, hB, hmd⟩, _, hc0⟩ := hS.at_ hlt (by omega)
      have hc := hc0 0 _ rfl
      simp only [Nat.mul_one, Nat.add_zero] at hc
      clear hc0
      have Htk := Lib.hid htk
      clear htk
      have i2 : (k : Int) < (n : Int) := by omega
      have cS := sorted_any B m d t wr hB
      have hbad : namesB t = false → ls.all namesB = false := fun hf => by
        cases ha : ls.all namesB
        · rfl
        · rw [List.all_eq_true.1 ha t (List.mem_of_getElem? Htk.out)] at hf
          cases hf
      cases hso : sortedB t <;> rw [hso] at cS
      · go_wp2_with fail
        refine cS.mono ?_
        rintro e w1 ⟨rfl, b1⟩
        go_wp2
        go_ret
        refine ⟨ret_bool ?_, hbw.trans (b1.mono hbw.size)⟩
        rw [hbad (by rw [namesB, hso]; rfl)]
      · go_wp2_with fail
        refine cS.mono ?_
        rintro e w1 ⟨rfl, b1⟩
        have cC := containsFunc_str B m d t 45 #[] (fun s => !nameB s.data.toList) w1 (hB.below b1) enters102 (fun W s hs _ => names1_any s W (by have := hB.2.2.1 s hs; omega))
        cases hany : t.any (fun s => !nameB s.data.toList) <;> rw [hany] at cC
        · have CC := Lib.hid cC
          have hok : namesB t = true := by
            rw [namesB, hso, Bool.true_and, List.all_eq_true]
            intro s hs
            have := List.any_eq_false.1 hany s hs
            simpa using this
          have Hok := Lib.hid hok
          clear hok hany cC
          go_wp2_with fail
          refine CC.out.mono ?_
          rintro e w2 ⟨rfl, b2⟩
          go_wp2
          refine ⟨⟨k + 1, by go_num, by omega, (hbw.trans (b1.mono hbw.size)).trans (b2.mono (hbw.trans (b1.mono hbw.size)).size), fun i y hi hik => ?_⟩, by simp [intOf]; omega⟩
          by_cases hik' : i < k
          · exact Hs.out i y hi hik'
          · obtain rfl : i = k := by omega
            rw [Htk.out] at hi
            cases hi
            exact Hok.out
        · have CC := Lib.hid cC
          have hno : namesB t = false := by
            rw [namesB, hso, Bool.true_and]
            obtain ⟨s, hs, hp⟩ := List.any_eq_true.1 hany
            rw [List.all_eq_false]
            exact ⟨s, hs, by simpa using hp⟩
          have Hno := Lib.hid (hbad hno)
          clear hno hany cC hbad
          go_wp2_with fail
          refine CC.out.mono ?_
          rintro e w2 ⟨rfl, b2⟩
          go_wp2
          go_ret
          refine ⟨ret_bool ?_, (hbw.trans (b1.mono hbw.size)).trans (b2.mono (hbw.trans (b1.mono hbw.size)).size)⟩
          rw [Hno.out]
    · go_wp2
      go_ret
      refine ⟨ret_bool ?_, hbw⟩
      rw [eq_comm, List.all_eq_true]
      intro t ht
      obtain ⟨i, hi, rfl⟩ := List.getElem_of_mem ht
      exact Hs.out i _ (List.getElem?_eq_getElem hi) (by have := Hl.out; omega)

theorem base_any (s : ByteArray) (w : World) : Calls Tryz.prog 27 #[.string s] w fun e w' => e = .returned (.bool (baseB s)) ∧ Below w.heap.size w w' := by
  go_enter Tryz.func27, Tryz.ntmps27
  go_wp2
  all_goals
    go_ret
    exact ⟨ret_bool (by simp_all [baseB, boolS, intS, refS, textS, unitS]), Below.refl _ _⟩

set_option maxHeartbeats 400000 in
theorem index_str (A : Option Addr) (n c : Nat) (l : List ByteArray) (s : ByteArray) (w : World) (h : Strs w A n l) :
    Calls Tryz.prog 48 #[.slice A n c, .string s] w fun e w' => e = .returned (.int .i64 (idxI l fun t => s.toList == t.toList)) ∧ Below w.heap.size w w' := by
  have hn := h.2.1
  have hl := h.1
  go_enter Tryz.func48, Tryz.ntmps48
  go_wp2
  go_loopw [5, 8] (fun _ v w' => ∃ k : Nat, v = .int .i64 k ∧ k ≤ n ∧ Below w.heap.size w w' ∧ (∀ (i : Nat) (y : ByteArray), l[i]? = some y → i < k → (s.toList == y.toList) = false)) (fun _ v _ => n - (intOf v).toNat)
  case atStart => exact ⟨0, rfl, by omega, Below.refl _ _, fun _ _ _ _ => by omega⟩
  case round =>
    obtain ⟨k, rfl, hk, hbw, hs⟩ := hrel
    have Hs := Lib.hid hs
    have Hl := Lib.hid hl
    clear hs hl
    have hS := h.below hbw
    by_cases hlt : k < n
    · obtain ⟨ad, t, rfl, htk, hc, hts⟩ := hS.at_ hlt
      have Htk := Lib.hid htk
      clear htk
      have i2 : (k : Int) < (n : Int) := by omega
      cases hp : (s.toList == t.toList)
      · go_wp2
        refine ⟨⟨k + 1, by go_num, by omega, hbw, fun i y hi hik => ?_⟩, by simp [intOf]; omega⟩
        by_cases hik' : i < k
        · exact Hs.out i y hi hik'
        · obtain rfl : i = k := by omega
          rw [Htk.out] at hi
          cases hi
          exact hp
      · go_wp2
        go_ret
        refine ⟨?_, hbw⟩
        rw [idxI_at Htk.out hp Hs.out]
        rfl
    · go_wp2
      go_ret
      refine ⟨?_, hbw⟩
      rw [idxI_none (fun i y hi => Hs.out i y hi (by have := (List.getElem?_eq_some_iff.1 hi).1; have := Hl.out; omega))]
      rfl

theorem contains_str (A : Option Addr) (n c : Nat) (l : List ByteArray) (s : ByteArray) (w : World) (h : Strs w A n l) :
    Calls Tryz.prog 28 #[.slice A n c, .string s] w fun e w' => e = .returned (.bool (inB l s)) ∧ Below w.heap.size w w' := by
  have CI := Lib.hid (index_str A n c l s w h)
  have Hg := Lib.hid (idxI_ge l fun t => s.toList == t.toList)
  go_enter Tryz.func28, Tryz.ntmps28
  go_wp2_with fail
  refine CI.out.mono ?_
  rintro e w1 ⟨rfl, b1⟩
  go_wp2
  go_ret
  exact ⟨ret_bool Hg.out, b1⟩
end Go.Proofs.YtcgnbpjbpbabaaaGreatDoor
end

section
set_option linter.unusedVariables false
set_option linter.unusedSimpArgs false
namespace Go.Proofs.YtcgnbpjbpbabaaaGreatDoor
open Go.RowKit

/-- a slice value v of n elements, of size cells each: nil, or at the head of a block of its own, from block B on, that bears its capacity -/
def Row (w : World) (B : Nat) (e : TypeId) (size : Nat) (v : Value) (n : Nat) (xs : List Value) : Prop :=
  xs.length = n * size ∧ ((v = .slice none 0 0 ∧ n = 0) ∨
    ∃ g cap cur, v = .slice (some ⟨g, 0, none⟩) n cap ∧ B ≤ g ∧ Blk w g e cur ∧ n ≤ cap ∧ cap ≤ maxLen ∧ cap * size ≤ cur.size ∧ cur.toList.take (n * size) = xs)

/-- nothing but the blocks of S is another one -/
structure Chg (S : Nat → Prop) (w w' : World) : Prop where
  os : w'.os = w.os
  tape : w'.tape = w.tape
  output : w'.output = w.output
  size : w.heap.size ≤ w'.heap.size
  block : ∀ k, k < w.heap.size → ¬ S k → w'.heap[k]? = w.heap[k]?

section
variable {S S' : Nat → Prop} {w w1 w2 : World}
theorem Chg.refl (S : Nat → Prop) (w : World) : Chg S w w := ⟨rfl, rfl, rfl, Nat.le_refl _, fun _ _ _ => rfl⟩
theorem Chg.trans (h : Chg S w w1) (k : Chg S w1 w2) : Chg S w w2 :=
  ⟨k.os.trans h.os, k.tape.trans h.tape, k.output.trans h.output, Nat.le_trans h.size k.size, fun i hi hs => (k.block i (Nat.lt_of_lt_of_le hi h.size) hs).trans (h.block i hi hs)⟩
theorem Chg.mono (h : Chg S w w1) (hs : ∀ k, S k → S' k) : Chg S' w w1 := ⟨h.os, h.tape, h.output, h.size, fun k hk hn => h.block k hk (fun x => hn (hs k x))⟩
theorem Chg.of_below (S : Nat → Prop) (h : Below w.heap.size w w1) : Chg S w w1 := ⟨h.os, h.tape, h.output, h.size, fun k hk _ => h.block k hk⟩
theorem Chg.of_grown {row : Option Nat} (h : w.grownBy w1 row) (hr : ∀ k, row = some k → S k) : Chg S w w1 :=
  ⟨h.os, h.tape, h.output, h.size, fun k hk hn => h.block k hk (fun e => hn (hr k e.symm))⟩
theorem Chg.alloc (S : Nat → Prop) (w : World) (o : Obj) : Chg S w (w.alloc o) := Chg.of_below S ((Below.refl _ w).alloc (Nat.le_refl _) o)
theorem Chg.drew (S : Nat → Prop) (w : World) : Chg S w w.drew := Chg.of_below S (Below.refl _ w).drew
theorem Chg.setCell {p : Addr} (hp : S p.block) (w : World) (v : Value) : Chg S w (w.setCell p v) :=
  ⟨rfl, rfl, rfl, by simp, fun k _ hn => Below.heap_setCell w p v k (fun e => hn (e ▸ hp))⟩
theorem Chg.to_below {B : Nat} {w0 : World} (hb : Below B w0 w) (hB : B ≤ w.heap.size) (h : Chg S w w1) (hs : ∀ k, k < B → ¬ S k) : Below B w0 w1 :=
  ⟨h.os.trans hb.os, h.tape.trans hb.tape, h.output.trans hb.output, Nat.le_trans hb.size h.size, fun k hk => (h.block k (by omega) (hs k hk)).trans (hb.block k hk)⟩
theorem Chg.cell (h : Chg S w w1) {p : Addr} (hp : p.block < w.heap.size) (hn : ¬ S p.block) : w1.cell? p = w.cell? p := World.cell?_of_block (h.block _ hp hn)
theorem Chg.blk (h : Chg S w w1) {g : Nat} {t : TypeId} {cs : Array Value} (hg : Blk w g t cs) (hn : ¬ S g) : Blk w1 g t cs := (h.block g hg.lt hn).trans hg
end

section
variable {w w' : World} {B : Nat} {e : TypeId} {size n : Nat} {v : Value} {xs : List Value}
theorem Row.nil (w : World) (B : Nat) (e : TypeId) (size : Nat) : Row w B e size (.slice none 0 0) 0 [] := ⟨by simp, .inl ⟨rfl, rfl⟩⟩
theorem Row.of_own (h : w.ownsRow B e size v n xs) : Row w B e size v n xs := by
  refine ⟨h.1, ?_⟩
  rcases h.2 with ⟨rfl, rfl⟩ | ⟨g, cap, cur, rfl, hb, hg, h1, h2, h3, h4⟩
  · exact .inl ⟨rfl, rfl⟩
  · exact .inr ⟨g, cap, cur, rfl, hb, hg, h1, h2, by omega, h4⟩
theorem Row.lt (h : Row w B e size v n xs) {g : Nat} (hg : v.ownBlock = some g) : B ≤ g ∧ g < w.heap.size := by
  rcases h.2 with ⟨rfl, rfl⟩ | ⟨g', cap, cur, rfl, hb, hg', _⟩
  · simp [Value.ownBlock] at hg
  · have : g' = g := by simpa [Value.ownBlock] using hg
    subst this
    exact ⟨hb, hg'.lt⟩
theorem Row.more {B' : Nat} (h : Row w B e size v n xs) (hB : B' ≤ B) : Row w B' e size v n xs := by
  refine ⟨h.1, ?_⟩
  rcases h.2 with h | ⟨g, cap, cur, hv, hb, h⟩
  · exact .inl h
  · exact .inr ⟨g, cap, cur, hv, by omega, h⟩
theorem Row.keep (h : Row w B e size v n xs) (hk : ∀ g, v.ownBlock = some g → w'.heap[g]? = w.heap[g]?) : Row w' B e size v n xs := by
  refine ⟨h.1, ?_⟩
  rcases h.2 with h | ⟨g, cap, cur, rfl, hb, hg, h⟩
  · exact .inl h
  · exact .inr ⟨g, cap, cur, rfl, hb, (hk g rfl).trans hg, h⟩
theorem Row.chg {S : Nat → Prop} (h : Row w B e size v n xs) (hc : Chg S w w') (hn : ∀ g, v.ownBlock = some g → ¬ S g) : Row w' B e size v n xs :=
  h.keep fun g hg => hc.block g (h.lt hg).2 (hn g hg)
theorem Row.ne_blk {g : Nat} {t : TypeId} {cs : Array Value} (h : Row w B e size v n xs) (hg : Blk w g t cs) (hne : e ≠ t) : v.ownBlock ≠ some g := by
  rcases h.2 with ⟨rfl, _⟩ | ⟨g', cap, cur, rfl, _, hh, _⟩
  · simp [Value.ownBlock]
  · intro he
    have : g' = g := by simpa [Value.ownBlock] using he
    subst this
    exact Blk.ne_ hh hg hne rfl
theorem Row.reads (h : Row w B e size v n xs) : ∃ A c, v = .slice A n c ∧ n ≤ c ∧ c ≤ maxLen ∧ Reads w w.heap.size size A n xs := by
  rcases h.2 with ⟨rfl, rfl⟩ | ⟨g, cap, cur, rfl, hb, hg, h1, h2, h3, h4⟩
  · exact ⟨none, 0, rfl, by omega, by simp [maxLen], h.1, fun h => absurd h (by omega)⟩
  · refine ⟨_, cap, rfl, h1, h2, h.1, fun hn => ⟨_, rfl, hg.lt, fun j u hu => ?_⟩⟩
    have hl := h.1
    have : j < xs.length := (List.getElem?_eq_some_iff.1 hu).1
    rw [show (⟨g, 0, none⟩ : Addr).add j = ⟨g, j, none⟩ by simp [Addr.add]; intro h; omega, hg.cell]
    rw [← h4, List.getElem?_take_of_lt (by omega)] at hu
    rw [← Array.getElem?_toList]
    exact hu
/-- the cell of an element, and that it may be written -/
theorem Row.cellAt (h : Row w B e size v n xs) {k : Nat} {u : Value} (hu : xs[k]? = some u) : ∃ g cap, v = .slice (some ⟨g, 0, none⟩) n cap ∧ n ≤ cap ∧ w.cell? ⟨g, k, none⟩ = some u ∧ w.frozen? ⟨g, k, none⟩ = false := by
  have hk := (List.getElem?_eq_some_iff.1 hu).1
  rcases h.2 with ⟨rfl, rfl⟩ | ⟨g, cap, cur, rfl, hb, hg, h1, h2, h3, h4⟩
  · have := h.1; omega
  · refine ⟨g, cap, rfl, h1, ?_, hg.frozen k⟩
    have := h.1
    rw [hg.cell, ← Array.getElem?_toList, ← hu, ← h4, List.getElem?_take_of_lt (by omega)]
theorem Row.set_ {g cap k : Nat} (h : Row w B e size (.slice (some ⟨g, 0, none⟩) n cap) n xs) (hk : k < n * size) (u : Value) : Row (w.setCell ⟨g, k, none⟩ u) B e size (.slice (some ⟨g, 0, none⟩) n cap) n (xs.set k u) := by
  refine ⟨by rw [List.length_set]; exact h.1, ?_⟩
  rcases h.2 with ⟨h0, _⟩ | ⟨g', cap', cur, hv, hb, hg, h1, h2, h3, h4⟩
  · cases h0
  · injection hv with e1 _ e2
    injection e1 with e1
    injection e1 with e1
    subst e1; subst e2
    refine .inr ⟨g, cap, _, rfl, hb, hg.set_ k u, h1, h2, by simpa using h3, ?_⟩
    rw [← h4]
    simp only [Array.toList_setIfInBounds]
    rw [List.take_set]
end

section
variable {P : Program} (w : World)
theorem run_append_row (base : Nat) (t ty e : TypeId) (i : TypeInfo) (z : Value) (size bytes : Nat) (ht : P.underlying t = some (.slice e)) (hi : P.info? e = some i) (hz : i.zero = some z)
    (hsize : i.size = size) (hby : i.bytes = bytes) (hzs : z.cells.size = size) (hsz : 0 < size)
    (v : Value) (n : Nat) (xs : List Value) (hown : Row w base e size v n xs)
    (a : Addr) (m c : Nat) (news : List Value) (hl : news.length = m * size) (hnews : ∀ j u, news[j]? = some u → w.cell? (a.add j) = some u) (h1 : ∀ u ∈ news, u.oneCell' = true)
    (h63 : n + m ≤ maxLen) (hbytes : (n + m) * bytes ≤ 140737488355328) (hbase : base ≤ w.heap.size) :
    ∃ v' w', (Builtin.append_ #[t, t] ty #[v, .slice (some a) m c]).run P w = .ok v' w' ∧ Row w' base e size v' (n + m) (xs ++ news) ∧ w.grownBy w' v.ownBlock ∧
      (v'.ownBlock = v.ownBlock ∨ (∀ g, v'.ownBlock = some g → w.heap.size ≤ g) ∧ w.grownBy w' none) := by
  subst hsize
  subst hby
  have hlen : (xs ++ news).length = (n + m) * i.size := by rw [List.length_append, hown.1, hl, Nat.add_mul]
  rcases hown.2 with ⟨rfl, rfl⟩ | ⟨g, cap, cur, rfl, hbg, hg, hnc, hcm, hcs, htake⟩
  · have hx : xs = [] := List.eq_nil_of_length_eq_zero (by simpa using hown.1)
    subst hx
    obtain ⟨v', w', hr, h2, h3, _, h5⟩ := run_append_own_at (P := P) w base t ty e i z i.size i.bytes ht hi hz rfl rfl hzs hsz (.slice none 0 0) 0 [] (World.ownsRow_nil w base e i.size) a m c news hl hnews h1 h63 hbytes hbase
    refine ⟨v', w', hr, Row.of_own h2, h3, ?_⟩
    rcases h5 with h5 | h5
    · exact .inl h5
    · exact .inr ⟨fun g hg => by rw [h5] at hg; cases hg; exact Nat.le_refl _, h3⟩
  · by_cases hroom : n + m ≤ cap
    · have hfit : n * i.size + news.length ≤ cur.size := by
        rw [hl, ← Nat.add_mul]
        exact Nat.le_trans (Nat.mul_le_mul_right _ hroom) hcs
      have hr := run_append_room (P := P) w t ty e i ht hi g n cap cur hg a m c news hl hnews h1 hroom hfit
      refine ⟨_, _, hr, ⟨hlen, .inr ⟨g, cap, _, rfl, hbg, setRow_heap w g cur _ e _ hg, hroom, hcm, ?_, ?_⟩⟩, ⟨rfl, rfl, rfl, by simp, fun k _ hk => setRow_other w g k _ (fun e => hk (by simp [Value.ownBlock, e]))⟩, Or.inl rfl⟩
      · simp only [List.size_toArray, List.length_append, List.length_take, List.length_drop, Array.length_toList]
        omega
      · rw [htake, ← hlen]
        exact List.take_left
    · have holds : ∀ j u, xs[j]? = some u → w.cell? ((⟨g, 0, none⟩ : Addr).add j) = some u := by
        intro j u hu
        obtain ⟨g', cap', hv, _, hc, _⟩ := hown.cellAt hu
        injection hv with e1
        injection e1 with e1
        injection e1 with e1
        subst e1
        rw [show (⟨g, 0, none⟩ : Addr).add j = ⟨g, j, none⟩ by simp [Addr.add]; intro h; omega]
        exact hc
      obtain ⟨v', w', hr, h2, h3⟩ := run_append_arg_grows (P := P) w t ty e i z i.size i.bytes ht hi hz rfl rfl hzs hsz ⟨g, 0, none⟩ n cap xs hown.1 holds a m c news hl hnews (by omega) h63 hbytes
      refine ⟨v', w', hr, (Row.of_own h2).more hbase, ⟨h3.os, h3.tape, h3.output, h3.size, fun k hk _ => h3.block k hk (by simp)⟩, .inr ⟨fun g' hg' => ((Row.of_own h2).lt hg').1, h3⟩⟩

theorem wpList_append_row {ops : Array Oper} {rest : List Oper} {o : Oper} {a : Act} {Q : Exit → Act → World → Prop} (hgd : o.guard = none) (s x : Operand) (t : TypeId)
    (ho : o.op = .call { callee := .builtin .append, args := #[s, x], argTypes := #[t, t] })
    (base : Nat) (e : TypeId) (i : TypeInfo) (z : Value) (size bytes : Nat) (ht : P.underlying t = some (.slice e)) (hi : P.info? e = some i) (hz : i.zero = some z)
    (hsize : i.size = size) (hby : i.bytes = bytes) (hzs : z.cells.size = size) (hsz : 0 < size)
    (v : Value) (n : Nat) (xs : List Value) (hs : a.eval s = v) (hown : Row w base e size v n xs)
    (ad : Addr) (m c : Nat) (news : List Value) (hx : a.eval x = .slice (some ad) m c) (hl : news.length = m * size) (hnews : ∀ j u, news[j]? = some u → w.cell? (ad.add j) = some u) (h1 : ∀ u ∈ news, u.oneCell' = true)
    (h63 : n + m ≤ maxLen) (hbytes : (n + m) * bytes ≤ 140737488355328) (hbase : base ≤ w.heap.size)
    (h : ∀ v' w', Row w' base e size v' (n + m) (xs ++ news) → w.grownBy w' v.ownBlock → (v'.ownBlock = v.ownBlock ∨ (∀ g, v'.ownBlock = some g → w.heap.size ≤ g) ∧ w.grownBy w' none) → wpList P ops Q rest (a.put o.dst v') w') :
    wpList P ops Q (o :: rest) a w := by
  refine wpList_plain hgd fun K hK => ?_
  obtain ⟨v', w', hr, h2, h3, h4⟩ := run_append_row (P := P) w base t o.type e i z size bytes ht hi hz hsize hby hzs hsz v n xs hown ad m c news hl hnews h1 h63 hbytes hbase
  unfold Oper.wp execOp
  simp only [ho, resolve, invoke, builtin, Sem.run_bind, Sem.run_pure, Result.andThen_ok, List.map_toArray, List.map_cons, List.map_nil, hs, hx, hr]
  exact hK _ _ (h v' w' h2 h3 h4)

theorem step_append_row {ops : Array Oper} {o : Oper} {a : Act} {K : Act → World → Prop} {Q : Exit → Act → World → Prop} {E : Prop} (hgd : o.guard = none) (s x : Operand) (t : TypeId)
    (ho : o.op = .call { callee := .builtin .append, args := #[s, x], argTypes := #[t, t] })
    (base : Nat) (e : TypeId) (i : TypeInfo) (z : Value) (size bytes : Nat) (ht : P.underlying t = some (.slice e)) (hi : P.info? e = some i) (hz : i.zero = some z)
    (hsize : i.size = size) (hby : i.bytes = bytes) (hzs : z.cells.size = size) (hsz : 0 < size)
    (v : Value) (n : Nat) (xs : List Value) (hs : a.eval s = v) (hown : Row w base e size v n xs)
    (ad : Addr) (m c : Nat) (news : List Value) (hx : a.eval x = .slice (some ad) m c) (hl : news.length = m * size) (hnews : ∀ j u, news[j]? = some u → w.cell? (ad.add j) = some u) (h1 : ∀ u ∈ news, u.oneCell' = true)
    (h63 : n + m ≤ maxLen) (hbytes : (n + m) * bytes ≤ 140737488355328) (hbase : base ≤ w.heap.size)
    (h : ∀ v' w', Row w' base e size v' (n + m) (xs ++ news) → w.grownBy w' v.ownBlock → (v'.ownBlock = v.ownBlock ∨ (∀ g, v'.ownBlock = some g → w.heap.size ≤ g) ∧ w.grownBy w' none) → K (a.put o.dst v') w') :
    if Region.wanted o (yielded ops a.tmps) = true then Oper.wp P o a w K Q else E := by
  have hw : Region.wanted o (yielded ops a.tmps) = true := by simp [Region.wanted, hgd]
  rw [if_pos hw]
  obtain ⟨v', w', hr, h2, h3, h4⟩ := run_append_row (P := P) w base t o.type e i z size bytes ht hi hz hsize hby hzs hsz v n xs hown ad m c news hl hnews h1 h63 hbytes hbase
  unfold Oper.wp execOp
  simp only [ho, resolve, invoke, builtin, Sem.run_bind, Sem.run_pure, Result.andThen_ok, List.map_toArray, List.map_cons, List.map_nil, hs, hx, hr]
  exact h v' w' h2 h3 h4
end

/-- the cells of a block that was just laid -/
theorem cells_new (w : World) (cs : Array Value) (t : TypeId) : ∀ j u, cs.toList[j]? = some u → (w.alloc (.cells cs t)).cell? ((⟨w.heap.size, 0, none⟩ : Addr).add j) = some u := by
  intro j u hu
  rw [show (⟨w.heap.size, 0, none⟩ : Addr).add j = ⟨w.heap.size, j, none⟩ by simp [Addr.add]; intro h; omega, World.cell?_alloc_mark, ← Array.getElem?_toList]
  exact hu
end Go.Proofs.YtcgnbpjbpbabaaaGreatDoor
end
