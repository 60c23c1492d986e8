/- prints: node, of whatever body that may be. prints: bounds. prints: bounds, of effects. -/
import Derived.Test.YtcgnbpjbpbabaaaGreatDoorMg21
section
set_option linter.unusedVariables false
set_option linter.unusedSimpArgs false
namespace Go.Proofs.YtcgnbpjbpbabaaaGreatDoor
open Go.RowKit
theorem node_any (C : NCtx) (hO : C.Ok) : ∀ F, C.NodeC F
  | 0 => fun i m W bs h => by
    obtain ⟨h1, h2, _⟩ := h
    obtain ⟨x, _, h3, _⟩ := st_step h2
    omega
  | F + 1 => fun i m W bs h => by
    have ih := node_any C hO F
    obtain ⟨x, hx, hi, hm, h8, hst⟩ := st_step h.2.1
    have hk := mayB_kind hm
    by_cases k5 : x.kind = 5
    · exact node_fun C hO F ih i m W bs h x hx k5 (by omega) hst
    · by_cases k3 : x.kind = 3
      · exact node_tuple C hO F ih i m W bs h x hx k3 (by omega) h8 hst
      · by_cases k4 : x.kind = 4
        · exact node_ref C hO F ih i m W bs h x hx k4 (by omega) hst
        · exact node_named C hO F i m W bs h x hx k5 k3 k4
end Go.Proofs.YtcgnbpjbpbabaaaGreatDoor
end

section
set_option linter.unusedVariables false
set_option linter.unusedSimpArgs false
set_option maxRecDepth 100000
set_option maxHeartbeats 2000000
namespace Go.Proofs.YtcgnbpjbpbabaaaGreatDoor
open Go.RowKit
def barB : ByteArray := ⟨#[32, 124]⟩
def bndStep (way : Term → ByteArray) (st : List ByteArray × Bool) (x : Bound) : List ByteArray × Bool := (st.1 ++ comW st.2 (way x.a) (way x.b), true)
def bndGo (way : Term → ByteArray) (l : List Bound) : List ByteArray × Bool := l.foldl (bndStep way) ([barB], false)
def bndT (way : Term → ByteArray) (l : List Bound) : List ByteArray := (bndGo way l).1
theorem bndGo_snoc (way : Term → ByteArray) (l : List Bound) (x : Bound) : bndGo way (l ++ [x]) = bndStep way (bndGo way l) x := by simp [bndGo]
theorem comW_G {G : ByteArray → Prop} (hc : G commaB) (hs : G spB) (hl : G leB) {sm : Bool} {x y : ByteArray} (hx : G x) (hy : G y) : ∀ s ∈ comW sm x y, G s := by
  intro s h
  simp only [comW, List.mem_append, List.mem_cons, List.not_mem_nil, or_false] at h
  rcases h with h | rfl | rfl | rfl | rfl
  · cases sm
    · cases h
    · simp at h; subst h; exact hc
  · exact hs
  · exact hx
  · exact hl
  · exact hy
theorem bnd_ok {G : ByteArray → Prop} (hc : G commaB) (hs : G spB) (hl : G leB) (hb : G barB) (way : Term → ByteArray) : ∀ (l : List Bound) (st : List ByteArray × Bool), (∀ s ∈ st.1, G s) → (∀ x ∈ l, G (way x.a) ∧ G (way x.b)) →
    (l.foldl (bndStep way) st).1.length ≤ st.1.length + 5 * l.length ∧ ∀ s ∈ (l.foldl (bndStep way) st).1, G s
  | [], st, h, _ => ⟨by simp, h⟩
  | x :: r, st, h, hx => by
    have hx1 := hx x (List.mem_cons_self ..)
    have hg := comW_G hc hs hl (sm := st.2) hx1.1 hx1.2
    have h2 := bnd_ok hc hs hl hb way r (bndStep way st x) (fun s hs' => (List.mem_append.1 hs').elim (h s) (hg s)) (fun y hy => hx y (List.mem_cons_of_mem _ hy))
    have hlen : (bndStep way st x).1.length ≤ st.1.length + 5 := by
      have := comW_len st.2 (way x.a) (way x.b)
      simp only [bndStep, List.length_append]
      omega
    refine ⟨?_, h2.2⟩
    have h3 := h2.1
    rw [List.foldl_cons, List.length_cons]
    omega
theorem bndGo_ok {G : ByteArray → Prop} (hc : G commaB) (hs : G spB) (hl : G leB) (hb : G barB) (way : Term → ByteArray) (l : List Bound) (hx : ∀ x ∈ l, G (way x.a) ∧ G (way x.b)) :
    (bndGo way l).1.length ≤ 1 + 5 * l.length ∧ ∀ s ∈ (bndGo way l).1, G s := by
  have := bnd_ok hc hs hl hb way l ([barB], false) (by intro s h; simp at h; subst h; exact hb) hx
  simpa [bndGo, Nat.add_comm] using this
/-- what is read lies as it lay, whatever a writer and its commas do -/
def NCtx.ReadC (C : NCtx) (W : World) : Prop := ∀ W', TChg TC C.B W W' → Strs W' C.A1 C.n1 C.labels ∧ Strs W' C.A3 C.n3 C.effects ∧ Sl rImport 2 W' C.A5 C.n5 C.imports ∧ Sl rNode 10 W' C.A C.n C.body
theorem NCtx.ReadC.chg {C : NCtx} {W W' : World} (h : C.ReadC W) (ht : TChg TC C.B W W') : C.ReadC W' := fun W2 h2 => h W2 (ht.trans h2)
theorem NCtx.ReadC.read {C : NCtx} {W : World} (h : C.ReadC W) : C.Read W := fun W2 h2 => h W2 h2.tc

theorem bounds_lab (C : NCtx) (hO : C.Ok) (BA : Option Addr) (bn bc : Nat) (l : List Bound) (W : World) (bs : List Value) (h : WAt W C.B C.b C.f bs) (hR : C.ReadC W) (hS : ∀ W', TChg TC C.B W W' → Sl rBound 4 W' BA bn l) (hn : bn ≤ 256)
    (hok : ∀ x ∈ l, C.LabOk x.a ∧ C.LabOk x.b) (hg : ∀ x ∈ l, (C.P.lab x.a).size ≤ 5000 ∧ (C.P.lab x.b).size ≤ 5000) (hlen : bs.length + 6500000 ≤ 140737488355328) (hB : C.B ≤ W.heap.size) :
    Calls Tryz.prog 38 #[.pointer (some ⟨C.b, 0, none⟩), .slice BA bn bc, .func (.func 39) #[.pointer (some ⟨C.b, 0, none⟩)] #[]] W fun e w' => e = .returned (.tuple #[]) ∧ WAt w' C.B C.b C.f (bs ++ catV (bndT C.P.lab l)) ∧ TChg TC C.B W w' := by
  have hll := (hS W TChg.refl).1
  have cP := puts_5000 W C.B C.b C.f bs [barB] 1 rfl (by omega) (by intro s hs; simp at hs; subst hs; decide) h (by omega) hB
  have hpre : ∀ k, k ≤ bn → (bndGo C.P.lab (l.take k)).1.length ≤ 1 + 5 * k ∧ ∀ s ∈ (bndGo C.P.lab (l.take k)).1, s.size ≤ 5000 := fun k hk => by
    have := bndGo_ok (G := fun s => s.size ≤ 5000) (by decide) (by decide) (by decide) (by decide) C.P.lab (l.take k) (fun x hx => hg x (List.mem_of_mem_take hx))
    rw [List.length_take] at this
    exact ⟨by omega, this.2⟩
  have HPre := Lib.hid hpre
  have CP := Lib.hid cP
  have HS := Lib.hid hS
  have HR := Lib.hid hR
  have HOk := Lib.hid hok
  have HG := Lib.hid hg
  have HO := Lib.hid hO
  clear cP hS hR hok hg hO hpre
  go_enter Tryz.func38, Tryz.ntmps38
  go_wp2_with fail
  refine CP.out.mono ?_
  rintro e w1 ⟨rfl, hW1, hT1⟩
  have hbl := hW1.lt
  have hCB := Blk.new w1 87 #[.pointer (some ⟨C.b, 0, none⟩), .bool false]
  go_wp2_with fail
  obtain ⟨cb, hcb⟩ : ∃ cb, w1.heap.size = cb := ⟨_, rfl⟩
  rw [hcb] at hCB ⊢
  have hTa : TChg TC C.B W (w1.alloc (.cells #[.pointer (some ⟨C.b, 0, none⟩), .bool false] 87)) := hT1.tc.trans (TChg.alloc w1 _)
  have hWa := hW1.alloc (.cells #[.pointer (some ⟨C.b, 0, none⟩), .bool false] 87)
  have hBcb : C.B ≤ cb := by have := hT1.size; omega
  have i3 : (bn : Int) ≤ 256 := by omega
  go_loopw [17] (fun iv wr => ∃ (k : Nat) (ps : List ByteArray) (sm : Bool), iv = .int .i64 k ∧ k ≤ bn ∧ (ps, sm) = bndGo C.P.lab (l.take k) ∧ WAt wr C.B C.b C.f (bs ++ catV ps) ∧ Blk wr cb 87 #[.pointer (some ⟨C.b, 0, none⟩), .bool sm] ∧ TChg TC C.B W wr) (fun iv _ => bn - (intOf iv).toNat)
  case atStart => exact ⟨0, [barB], false, rfl, Nat.zero_le _, rfl, hWa, hCB, hTa⟩
  case round =>
    obtain ⟨k, ps, sm, rfl, hk, hex, hW, hC, hT⟩ := hrel
    by_cases hlt : k < bn
    · have i1 : (k : Int) < (bn : Int) := by omega
      obtain ⟨b0, o0, x, cs, rfl, hx, ⟨rfl, hxa, hxb⟩, _, hcs⟩ := (HS.out wr hT).at_ hlt (by omega)
      have hmem := List.mem_of_getElem? hx
      obtain ⟨⟨av, an⟩, ⟨bv, bn'⟩⟩ := x
      have c0 := hcs 0 _ rfl
      have c1 := hcs 1 _ rfl
      have c2 := hcs 2 _ rfl
      have c3 := hcs 3 _ rfl
      rw [Nat.add_zero] at c0
      dsimp only at c0 c1 c2 c3 hxa hxb
      obtain ⟨hp1, hp2⟩ := HPre.out k hk
      rw [← hex] at hp1 hp2
      dsimp only at hp1 hp2
      have hpl := piece_size hp2
      have hg1 := HG.out _ hmem
      have ho1 := HOk.out _ hmem
      dsimp only at hg1 ho1
      have htk : l.take (k + 1) = l.take k ++ [⟨⟨av, an⟩, ⟨bv, bn'⟩⟩] := by rw [List.take_add_one, hx]; rfl
      have hst : (ps ++ comW sm (C.P.lab ⟨av, an⟩) (C.P.lab ⟨bv, bn'⟩), true) = bndGo C.P.lab (l.take (k + 1)) := by rw [htk, bndGo_snoc, ← hex]; rfl
      have hBr := Nat.le_trans hB hT.size
      obtain ⟨W0, hW0⟩ : ∃ W0, wr.alloc (.cells #[.bool av, .int .u64 an, .bool bv, .int .u64 bn'] 39) = W0 := ⟨_, rfl⟩
      have hb0 : Below wr.heap.size wr W0 := by rw [← hW0]; exact (Below.refl _ _).alloc (Nat.le_refl _) _
      have hN0 : Blk W0 wr.heap.size 39 #[.bool av, .int .u64 an, .bool bv, .int .u64 bn'] := by rw [← hW0]; exact Blk.new wr _ _
      have hsz0 : W0.heap.size = wr.heap.size + 1 := by rw [← hW0]; simp
      have hN : ∀ W1, TChg TC C.B W0 W1 → wr.heap.size < W1.heap.size ∧ W1.cell? ⟨wr.heap.size, 0, none⟩ = some (.bool av) ∧ W1.cell? ⟨wr.heap.size, 1, none⟩ = some (.int .u64 an) ∧ W1.cell? ⟨wr.heap.size, 2, none⟩ = some (.bool bv) ∧ W1.cell? ⟨wr.heap.size, 3, none⟩ = some (.int .u64 bn') := fun W1 ht => by
        have := ht.blk hN0 (by rintro ((h | h) | h) <;> cases h)
        refine ⟨this.lt, ?_, ?_, ?_, ?_⟩ <;> rw [this.cell] <;> rfl
      have hT0 : TChg TC C.B wr W0 := TChg.below hb0
      have cLab : ∀ (tv : Bool) (tn : Nat) (s : ByteArray) W1 bs1, TChg TC C.B wr W1 → WAt W1 C.B C.b C.f bs1 → (tv = av ∧ tn = an ∧ s = C.P.lab ⟨av, an⟩ ∨ tv = bv ∧ tn = bn' ∧ s = C.P.lab ⟨bv, bn'⟩) →
          Calls Tryz.prog 39 #[.pointer (some ⟨C.b, 0, none⟩), .agg #[.bool tv, .int .u64 (tn : Nat)]] W1 fun e w' => e = .returned (.string s) ∧ Below W1.heap.size W1 w' := by
        rintro tv tn s W1 bs1 ht hw (⟨rfl, rfl, rfl⟩ | ⟨rfl, rfl, rfl⟩)
        · exact lab_at C ⟨_, _⟩ ho1.1 W1 bs1 hw ((HR.out.chg (hT.trans ht)).read)
        · exact lab_at C ⟨_, _⟩ ho1.2 W1 bs1 hw ((HR.out.chg (hT.trans ht)).read)
      have cPut : ∀ W1, TChg TC C.B wr W1 → WAt W1 C.B C.b C.f (bs ++ catV ps) → Blk W1 cb 87 #[.pointer (some ⟨C.b, 0, none⟩), .bool sm] → _ := fun W1 ht hw hc =>
        cputs_any W1 C.B C.b cb C.f (bs ++ catV ps) sm (C.P.lab ⟨av, an⟩) (C.P.lab ⟨bv, bn'⟩) hw hc hBcb (Nat.le_trans hg1.1 (by decide)) (Nat.le_trans hg1.2 (by decide)) (by
          have h1 := piece_size (comW_G (G := fun s => s.size ≤ 5000) (by decide) (by decide) (by decide) (sm := sm) hg1.1 hg1.2)
          have h2 := comW_len sm (C.P.lab ⟨av, an⟩) (C.P.lab ⟨bv, bn'⟩)
          rw [List.length_append]
          omega) (Nat.le_trans hBr ht.size)
      have CLab := Lib.hid cLab
      have CPut := Lib.hid cPut
      have HN := Lib.hid hN
      have HST := Lib.hid hst
      have HT := Lib.hid hT
      have hd0 : TChg TC C.B W0 W0.drew := Chg.drew _ W0
      obtain ⟨gl, q0, q1, q2, q3⟩ := HN.out W0 TChg.refl
      obtain ⟨gl', q0', q1', q2', q3'⟩ := HN.out W0.drew hd0
      have hda : TChg TC C.B wr W0.drew := hT0.trans (Chg.drew _ W0)
      have hWd : WAt W0.drew C.B C.b C.f (bs ++ catV ps) := hW.below hb0.drew
      have hCd : Blk W0.drew cb 87 #[.pointer (some ⟨C.b, 0, none⟩), .bool sm] := hC.below hb0.drew hC.lt
      clear cLab cPut hN hst hN0 hp1 hp2 hpl hg1 ho1 htk hcs hx hmem hex hW hC hxa hxb
      generalize C.P.lab ⟨av, an⟩ = la at *
      generalize C.P.lab ⟨bv, bn'⟩ = lb at *
      go_wp2_with fail
      go_region_held3 (fun w' => w'.cell? ⟨wr.heap.size, 0, none⟩ = some (.bool av) ∧ w'.cell? ⟨wr.heap.size, 1, none⟩ = some (.int .u64 an) ∧ w'.cell? ⟨wr.heap.size, 2, none⟩ = some (.bool bv) ∧ w'.cell? ⟨wr.heap.size, 3, none⟩ = some (.int .u64 bn'))
        (first | (refine ⟨?_, ?_, ?_, ?_⟩ <;> assumption) | go_keep)
        (first
        | (go_at_call 39
           refine (CLab.out _ _ _ _ _ (by assumption) (by assumption) (by first | exact Or.inl ⟨rfl, rfl, rfl⟩ | exact Or.inr ⟨rfl, rfl, rfl⟩)).mono ?_
           rintro rr ww ⟨rfl, hbb⟩
           have hta : TChg TC C.B wr _ := TChg.trans (by assumption) (TChg.below (T := TC) (B := C.B) hbb)
           have ht0 : TChg TC C.B W0 _ := TChg.trans (by assumption) (TChg.below (T := TC) (B := C.B) hbb)
           have hwa : WAt _ C.B C.b C.f (bs ++ catV ps) := WAt.below (by assumption) hbb
           have hca : Blk _ cb 87 #[.pointer (some ⟨C.b, 0, none⟩), .bool sm] := Blk.below (by assumption) hbb (Blk.lt (by assumption))
           obtain ⟨gl, q0, q1, q2, q3⟩ := HN.out _ ht0)
        | (go_at_call 34
           refine (CPut.out _ (by assumption) (by assumption) (by assumption)).mono ?_
           rintro rr ww ⟨rfl, hwp, hcp, htp⟩
           have ht0 : TChg TC C.B W0 _ := TChg.trans (by assumption) htp
           have hta : TChg TC C.B wr _ := TChg.trans (by assumption) htp
           obtain ⟨gl, q0, q1, q2, q3⟩ := HN.out _ ht0))
      all_goals
        go_wp2_with fail
        exact ⟨⟨k + 1, _, true, by go_num, by omega, HST.out, by rw [catV_append, ← List.append_assoc]; exact hwp, hcp, HT.out.trans hta⟩, by simp [intOf]; omega⟩
    · obtain rfl : k = bn := by omega
      have HX := Lib.hid hex
      clear hex
      go_wp2_with fail
      go_end0
      refine ⟨rfl, ?_, hT⟩
      have h1 := HX.out
      rw [List.take_of_length_le (by omega)] at h1
      rw [bndT, ← h1]
      exact hW
end Go.Proofs.YtcgnbpjbpbabaaaGreatDoor
end

section
set_option linter.unusedVariables false
set_option linter.unusedSimpArgs false
set_option maxRecDepth 100000
set_option maxHeartbeats 2000000
namespace Go.Proofs.YtcgnbpjbpbabaaaGreatDoor
open Go.RowKit

theorem bounds_eff (C : NCtx) (hO : C.Ok) (BA : Option Addr) (bn bc : Nat) (l : List Bound) (W : World) (bs : List Value) (h : WAt W C.B C.b C.f bs) (hR : C.ReadC W) (hS : ∀ W', TChg TC C.B W W' → Sl rBound 4 W' BA bn l) (hn : bn ≤ 256)
    (hok : ∀ x ∈ l, (if x.a.var then x.a.n < 64 else True) ∧ (if x.b.var then x.b.n < 64 else True)) (hg : ∀ x ∈ l, (C.P.eff x.a).size ≤ 5000 ∧ (C.P.eff x.b).size ≤ 5000) (hlen : bs.length + 6500000 ≤ 140737488355328) (hB : C.B ≤ W.heap.size) :
    Calls Tryz.prog 38 #[.pointer (some ⟨C.b, 0, none⟩), .slice BA bn bc, .func (.func 40) #[.pointer (some ⟨C.b, 0, none⟩)] #[]] W fun e w' => e = .returned (.tuple #[]) ∧ WAt w' C.B C.b C.f (bs ++ catV (bndT C.P.eff l)) ∧ TChg TC C.B W w' := by
  have hll := (hS W TChg.refl).1
  have cP := puts_5000 W C.B C.b C.f bs [barB] 1 rfl (by omega) (by intro s hs; simp at hs; subst hs; decide) h (by omega) hB
  have hpre : ∀ k, k ≤ bn → (bndGo C.P.eff (l.take k)).1.length ≤ 1 + 5 * k ∧ ∀ s ∈ (bndGo C.P.eff (l.take k)).1, s.size ≤ 5000 := fun k hk => by
    have := bndGo_ok (G := fun s => s.size ≤ 5000) (by decide) (by decide) (by decide) (by decide) C.P.eff (l.take k) (fun x hx => hg x (List.mem_of_mem_take hx))
    rw [List.length_take] at this
    exact ⟨by omega, this.2⟩
  have HPre := Lib.hid hpre
  have CP := Lib.hid cP
  have HS := Lib.hid hS
  have HR := Lib.hid hR
  have HOk := Lib.hid hok
  have HG := Lib.hid hg
  have HO := Lib.hid hO
  clear cP hS hR hok hg hO hpre
  go_enter Tryz.func38, Tryz.ntmps38
  go_wp2_with fail
  refine CP.out.mono ?_
  rintro e w1 ⟨rfl, hW1, hT1⟩
  have hbl := hW1.lt
  have hCB := Blk.new w1 87 #[.pointer (some ⟨C.b, 0, none⟩), .bool false]
  go_wp2_with fail
  obtain ⟨cb, hcb⟩ : ∃ cb, w1.heap.size = cb := ⟨_, rfl⟩
  rw [hcb] at hCB ⊢
  have hTa : TChg TC C.B W (w1.alloc (.cells #[.pointer (some ⟨C.b, 0, none⟩), .bool false] 87)) := hT1.tc.trans (TChg.alloc w1 _)
  have hWa := hW1.alloc (.cells #[.pointer (some ⟨C.b, 0, none⟩), .bool false] 87)
  have hBcb : C.B ≤ cb := by have := hT1.size; omega
  have i3 : (bn : Int) ≤ 256 := by omega
  go_loopw [17] (fun iv wr => ∃ (k : Nat) (ps : List ByteArray) (sm : Bool), iv = .int .i64 k ∧ k ≤ bn ∧ (ps, sm) = bndGo C.P.eff (l.take k) ∧ WAt wr C.B C.b C.f (bs ++ catV ps) ∧ Blk wr cb 87 #[.pointer (some ⟨C.b, 0, none⟩), .bool sm] ∧ TChg TC C.B W wr) (fun iv _ => bn - (intOf iv).toNat)
  case atStart => exact ⟨0, [barB], false, rfl, Nat.zero_le _, rfl, hWa, hCB, hTa⟩
  case round =>
    obtain ⟨k, ps, sm, rfl, hk, hex, hW, hC, hT⟩ := hrel
    by_cases hlt : k < bn
    · have i1 : (k : Int) < (bn : Int) := by omega
      obtain ⟨b0, o0, x, cs, rfl, hx, ⟨rfl, hxa, hxb⟩, _, hcs⟩ := (HS.out wr hT).at_ hlt (by omega)
      have hmem := List.mem_of_getElem? hx
      obtain ⟨⟨av, an⟩, ⟨bv, bn'⟩⟩ := x
      have c0 := hcs 0 _ rfl
      have c1 := hcs 1 _ rfl
      have c2 := hcs 2 _ rfl
      have c3 := hcs 3 _ rfl
      rw [Nat.add_zero] at c0
      dsimp only at c0 c1 c2 c3 hxa hxb
      obtain ⟨hp1, hp2⟩ := HPre.out k hk
      rw [← hex] at hp1 hp2
      dsimp only at hp1 hp2
      have hpl := piece_size hp2
      have hg1 := HG.out _ hmem
      have ho1 := HOk.out _ hmem
      dsimp only at hg1 ho1
      have htk : l.take (k + 1) = l.take k ++ [⟨⟨av, an⟩, ⟨bv, bn'⟩⟩] := by rw [List.take_add_one, hx]; rfl
      have hst : (ps ++ comW sm (C.P.eff ⟨av, an⟩) (C.P.eff ⟨bv, bn'⟩), true) = bndGo C.P.eff (l.take (k + 1)) := by rw [htk, bndGo_snoc, ← hex]; rfl
      have hBr := Nat.le_trans hB hT.size
      obtain ⟨W0, hW0⟩ : ∃ W0, wr.alloc (.cells #[.bool av, .int .u64 an, .bool bv, .int .u64 bn'] 39) = W0 := ⟨_, rfl⟩
      have hb0 : Below wr.heap.size wr W0 := by rw [← hW0]; exact (Below.refl _ _).alloc (Nat.le_refl _) _
      have hN0 : Blk W0 wr.heap.size 39 #[.bool av, .int .u64 an, .bool bv, .int .u64 bn'] := by rw [← hW0]; exact Blk.new wr _ _
      have hsz0 : W0.heap.size = wr.heap.size + 1 := by rw [← hW0]; simp
      have hN : ∀ W1, TChg TC C.B W0 W1 → wr.heap.size < W1.heap.size ∧ W1.cell? ⟨wr.heap.size, 0, none⟩ = some (.bool av) ∧ W1.cell? ⟨wr.heap.size, 1, none⟩ = some (.int .u64 an) ∧ W1.cell? ⟨wr.heap.size, 2, none⟩ = some (.bool bv) ∧ W1.cell? ⟨wr.heap.size, 3, none⟩ = some (.int .u64 bn') := fun W1 ht => by
        have := ht.blk hN0 (by rintro ((h | h) | h) <;> cases h)
        refine ⟨this.lt, ?_, ?_, ?_, ?_⟩ <;> rw [this.cell] <;> rfl
      have hT0 : TChg TC C.B wr W0 := TChg.below hb0
      have cLab : ∀ (tv : Bool) (tn : Nat) (s : ByteArray) W1 bs1, TChg TC C.B wr W1 → WAt W1 C.B C.b C.f bs1 → (tv = av ∧ tn = an ∧ s = C.P.eff ⟨av, an⟩ ∨ tv = bv ∧ tn = bn' ∧ s = C.P.eff ⟨bv, bn'⟩) →
          Calls Tryz.prog 40 #[.pointer (some ⟨C.b, 0, none⟩), .agg #[.bool tv, .int .u64 (tn : Nat)]] W1 fun e w' => e = .returned (.string s) ∧ Below W1.heap.size W1 w' := by
        rintro tv tn s W1 bs1 ht hw (⟨rfl, rfl, rfl⟩ | ⟨rfl, rfl, rfl⟩)
        · exact eff_at C HO.out ⟨_, _⟩ ho1.1 hxa W1 bs1 hw ((HR.out.chg (hT.trans ht)).read)
        · exact eff_at C HO.out ⟨_, _⟩ ho1.2 hxb W1 bs1 hw ((HR.out.chg (hT.trans ht)).read)
      have cPut : ∀ W1, TChg TC C.B wr W1 → WAt W1 C.B C.b C.f (bs ++ catV ps) → Blk W1 cb 87 #[.pointer (some ⟨C.b, 0, none⟩), .bool sm] → _ := fun W1 ht hw hc =>
        cputs_any W1 C.B C.b cb C.f (bs ++ catV ps) sm (C.P.eff ⟨av, an⟩) (C.P.eff ⟨bv, bn'⟩) hw hc hBcb (Nat.le_trans hg1.1 (by decide)) (Nat.le_trans hg1.2 (by decide)) (by
          have h1 := piece_size (comW_G (G := fun s => s.size ≤ 5000) (by decide) (by decide) (by decide) (sm := sm) hg1.1 hg1.2)
          have h2 := comW_len sm (C.P.eff ⟨av, an⟩) (C.P.eff ⟨bv, bn'⟩)
          rw [List.length_append]
          omega) (Nat.le_trans hBr ht.size)
      have CLab := Lib.hid cLab
      have CPut := Lib.hid cPut
      have HN := Lib.hid hN
      have HST := Lib.hid hst
      have HT := Lib.hid hT
      have hd0 : TChg TC C.B W0 W0.drew := Chg.drew _ W0
      obtain ⟨gl, q0, q1, q2, q3⟩ := HN.out W0 TChg.refl
      obtain ⟨gl', q0', q1', q2', q3'⟩ := HN.out W0.drew hd0
      have hda : TChg TC C.B wr W0.drew := hT0.trans (Chg.drew _ W0)
      have hWd : WAt W0.drew C.B C.b C.f (bs ++ catV ps) := hW.below hb0.drew
      have hCd : Blk W0.drew cb 87 #[.pointer (some ⟨C.b, 0, none⟩), .bool sm] := hC.below hb0.drew hC.lt
      clear cLab cPut hN hst hN0 hp1 hp2 hpl hg1 ho1 htk hcs hx hmem hex hW hC hxa hxb
      generalize C.P.eff ⟨av, an⟩ = la at *
      generalize C.P.eff ⟨bv, bn'⟩ = lb at *
      go_wp2_with fail
      go_region_held3 (fun w' => w'.cell? ⟨wr.heap.size, 0, none⟩ = some (.bool av) ∧ w'.cell? ⟨wr.heap.size, 1, none⟩ = some (.int .u64 an) ∧ w'.cell? ⟨wr.heap.size, 2, none⟩ = some (.bool bv) ∧ w'.cell? ⟨wr.heap.size, 3, none⟩ = some (.int .u64 bn'))
        (first | (refine ⟨?_, ?_, ?_, ?_⟩ <;> assumption) | go_keep)
        (first
        | (go_at_call 40
           refine (CLab.out _ _ _ _ _ (by assumption) (by assumption) (by first | exact Or.inl ⟨rfl, rfl, rfl⟩ | exact Or.inr ⟨rfl, rfl, rfl⟩)).mono ?_
           rintro rr ww ⟨rfl, hbb⟩
           have hta : TChg TC C.B wr _ := TChg.trans (by assumption) (TChg.below (T := TC) (B := C.B) hbb)
           have ht0 : TChg TC C.B W0 _ := TChg.trans (by assumption) (TChg.below (T := TC) (B := C.B) hbb)
           have hwa : WAt _ C.B C.b C.f (bs ++ catV ps) := WAt.below (by assumption) hbb
           have hca : Blk _ cb 87 #[.pointer (some ⟨C.b, 0, none⟩), .bool sm] := Blk.below (by assumption) hbb (Blk.lt (by assumption))
           obtain ⟨gl, q0, q1, q2, q3⟩ := HN.out _ ht0)
        | (go_at_call 34
           refine (CPut.out _ (by assumption) (by assumption) (by assumption)).mono ?_
           rintro rr ww ⟨rfl, hwp, hcp, htp⟩
           have ht0 : TChg TC C.B W0 _ := TChg.trans (by assumption) htp
           have hta : TChg TC C.B wr _ := TChg.trans (by assumption) htp
           obtain ⟨gl, q0, q1, q2, q3⟩ := HN.out _ ht0))
      all_goals
        go_wp2_with fail
        exact ⟨⟨k + 1, _, true, by go_num, by omega, HST.out, by rw [catV_append, ← List.append_assoc]; exact hwp, hcp, HT.out.trans hta⟩, by simp [intOf]; omega⟩
    · obtain rfl : k = bn := by omega
      have HX := Lib.hid hex
      clear hex
      go_wp2_with fail
      go_end0
      refine ⟨rfl, ?_, hT⟩
      have h1 := HX.out
      rw [List.take_of_length_le (by omega)] at h1
      rw [bndT, ← h1]
      exact hW
end Go.Proofs.YtcgnbpjbpbabaaaGreatDoor
end
