/- spots: sides, one by one. spots.all: what the walk over the body's sides builds; laws on the heap. spots.all: a spot put behind a row that a variable holds. -/
import Derived.Test.YtcgnbpjbpbabaaaGreatDoorMg12
import Derived.RangeFuncFrom
import Derived.Shelf.Abstract
import Derived.OwnWalkIn
import Derived.TacticsInMore
import Derived.LoopIn
import Derived.BigRegionIn
section
set_option linter.unusedVariables false
set_option linter.unusedSimpArgs false
set_option maxRecDepth 100000
set_option maxHeartbeats 2000000
namespace Go.Proofs.YtcgnbpjbpbabaaaGreatDoor
open Go.RowKit Go.Shelf
attribute [local go_sem] Oper.semAt_some

theorem calls_in {F : Fence} (h : Fence.wide = F) {n : Nat} {P : Program} {f : FuncId} {args : Array Value} {w : World} {R : Ending → World → Prop} (hc : Calls P f args w R) : CallsIn F n P f args w R := by
  subst h
  exact callsIn_wide.2 hc

theorem fn_wide {F : Fence} (h : Fence.wide = F) (f : Nat) : F.fn f := by
  subst h
  trivial

theorem wpListIn_append_row {F : Fence} {nF : Nat} {P : Program} {w : World} {ops : Array Oper} {rest : List Oper} {o : Oper} {a : Act} {Q : Exit → Act → World → Prop} (hgd : o.guard = none) (s x : Operand) (t : TypeId)
    (ho : o.op = .call { callee := .builtin .append, args := #[s, x], argTypes := #[t, t] })
    (base : Nat) (e : TypeId) (i : TypeInfo) (z : Value) (size bytes : Nat) (ht : P.underlying t = some (.slice e)) (hi : P.info? e = some i) (hz : i.zero = some z)
    (hsize : i.size = size) (hby : i.bytes = bytes) (hzs : z.cells.size = size) (hsz : 0 < size)
    (v : Value) (n : Nat) (xs : List Value) (hs : a.eval s = v) (hown : Row w base e size v n xs)
    (ad : Addr) (m c : Nat) (news : List Value) (hx : a.eval x = .slice (some ad) m c) (hl : news.length = m * size) (hnews : ∀ j u, news[j]? = some u → w.cell? (ad.add j) = some u) (h1 : ∀ u ∈ news, u.oneCell' = true)
    (h63 : n + m ≤ maxLen) (hbytes : (n + m) * bytes ≤ 140737488355328) (hbase : base ≤ w.heap.size)
    (h : ∀ v' w', Row w' base e size v' (n + m) (xs ++ news) → w.grownBy w' v.ownBlock → (v'.ownBlock = v.ownBlock ∨ (∀ g, v'.ownBlock = some g → w.heap.size ≤ g) ∧ w.grownBy w' none) → wpListIn F nF P ops Q rest (a.put o.dst v') w') :
    wpListIn F nF P ops Q (o :: rest) a w := by
  refine wpListIn_plain hgd fun K hK => ?_
  obtain ⟨v', w', hr, h2, h3, h4⟩ := run_append_row (P := P) w base t o.type e i z size bytes ht hi hz hsize hby hzs hsz v n xs hown ad m c news hl hnews h1 h63 hbytes hbase
  unfold Oper.wpIn
  refine ⟨by simp [Oper.about, ho, resolve, Target.leads, Sem.run_pure], ?_⟩
  rw [Oper.semAt_plain F _ _ (by rw [ho]; intro c hc'; cases hc')]
  simp [execOp, ho, resolve, invoke, builtin, hs, hx, hr, Result.andThen]
  exact hK _ _ (h v' w' h2 h3 h4)

/-- what a round of the loop keeps of what sides needs -/
def KpI (X Y : World) : Prop := X.heap.size ≤ Y.heap.size ∧ ∀ g t cs, (t = 119 ∨ t = 68) → Blk X g t cs → Blk Y g t cs
theorem KpI.trans {X Y Z : World} (h : KpI X Y) (k : KpI Y Z) : KpI X Z := ⟨Nat.le_trans h.1 k.1, fun g t cs ht hb => k.2 g t cs ht (h.2 g t cs ht hb)⟩
theorem KpI.putObj {X : World} {l : Nat} {o o' : Obj} (hl : X.heap[l]? = some o) (ho : o.isCells = false) : KpI X (X.putObj l o') :=
  ⟨by simp, fun g t cs _ hb => by
    refine (World.putObj_heap_other (fun e => ?_)).trans hb
    subst e
    rw [hb] at hl
    cases hl
    cases ho⟩
/-- what sides turns: rows of sides, and nothing else that lay -/
def ItChg (B : Nat) (X Y : World) : Prop := Chg (fun g => B ≤ g ∧ ∃ cs, Blk X g 119 cs) X Y
theorem ItChg.trans {B : Nat} {X Y Z : World} (h : ItChg B X Y) (k : ItChg B Y Z) : ItChg B X Z :=
  ⟨k.os.trans h.os, k.tape.trans h.tape, k.output.trans h.output, Nat.le_trans h.size k.size, fun i hi hs => by
    have h1 := h.block i hi hs
    exact (k.block i (Nat.lt_of_lt_of_le hi h.size) (fun ⟨hB, cs, hb⟩ => hs ⟨hB, cs, h1.symm.trans hb⟩)).trans h1⟩
theorem ItChg.below {B : Nat} {X Y : World} (h : Below X.heap.size X Y) : ItChg B X Y := Chg.of_below _ h
theorem ItChg.keeps {B' : Nat} {X Y : World} (h : ItChg B' X Y) (B : Nat) : KeepsFrom B X Y :=
  ⟨h.size, fun k o _ hk ho => (h.block k (Array.getElem?_eq_some_iff.1 hk).1 (fun ⟨_, cs, hb⟩ => by rw [hb] at hk; cases hk; cases ho)).trans hk⟩

def sidesV (l : List Nat) : List Value := l.reverse.map fun (s : Nat) => Value.int .u8 (s : Int)
theorem sidesV_cons (s : Nat) (l : List Nat) : sidesV (s :: l) = sidesV l ++ [.int .u8 (s : Int)] := by simp [sidesV]
theorem sidesV_append (a l : List Nat) : sidesV (a ++ l) = sidesV l ++ sidesV a := by simp [sidesV]
theorem sidesV_last (s : Nat) (l : List Nat) : (sidesV (s :: l))[l.length]? = some (.int .u8 (s : Int)) := by simp [sidesV]
def encS (x : Nat × Nat) : Array Value := #[.int .i64 (x.1 : Nat), .int .u8 (x.2 : Nat)]
def sideList (l : List Node) : List (Nat × Nat) := (List.range l.length).zip (sidesGo [0] l)

theorem Row.setOther {w : World} {B n c g b : Nat} {e : TypeId} {xs : List Value} (h : Row w B e 1 (.slice (some ⟨g, 0, none⟩) n c) n xs) (hne : g ≠ b) (j : Nat) (u : Value) : Row (w.setCell ⟨b, j, none⟩ u) B e 1 (.slice (some ⟨g, 0, none⟩) n c) n xs :=
  h.chg (S := fun q => q = b) (Chg.setCell (S := fun q => q = b) (p := ⟨b, j, none⟩) rfl _ _) (fun q hq e => by
    have h1 : g = q := by simpa [Value.ownBlock] using hq
    exact hne (by rw [h1, e]))
theorem Row.kpi {B : Nat} {X Y : World} {v : Value} {n : Nat} {xs : List Value} (h : Row X B 119 1 v n xs) (hk : KpI X Y) : Row Y B 119 1 v n xs := by
  refine ⟨h.1, ?_⟩
  rcases h.2 with h | ⟨g, cap, cur, rfl, hb, hg, h⟩
  · exact .inl h
  · exact .inr ⟨g, cap, cur, rfl, hb, hk.2 _ _ _ (.inl rfl) hg, h⟩
theorem side_sinfo : (Tryz.prog.info? 119).map (fun i => (i.zero, i.size, i.bytes)) = some (some (.int .u8 0), 1, 1) := by kernel_rfl

theorem sides1_gives (F : Fence) (n : Nat) (hFw : Fence.wide = F) (hf : F.fn 107) (hro : F.round = none) (hn : 1 ≤ n) (bx n₀ B : Nat) (A : Option Addr) (m c : Nat) (l : List Node) (w0 : World) (hS : Sl rNode 10 w0 A m l) (hw0 : w0.heap.size = n₀) (hck : checkBody l = 0)
    (I : List (Nat × Nat) → World → Prop) (hIit : ∀ pre X Y, I pre X → ItChg B X Y → I pre Y) (hIbox : ∀ pre X, I pre X → X.cell? ⟨bx, 0, none⟩ = some (.slice A m c)) (hIlow : ∀ pre X, I pre X → Below n₀ w0 X) :
    Gives F n Tryz.prog 107 #[.pointer (some ⟨bx, 0, none⟩)] encS (fun xs => xs <+: sideList l) B (fun xs => xs = sideList l) KpI I := by
  intro lp Bk W hBk hBW hY h0 hb0
  have hm := hS.2.1
  have Hl := Lib.hid hS.1
  obtain ⟨hlen, hpos, hgo, hmem⟩ := checkBody_mem hck
  obtain ⟨i0, hi0, hz0, hz1, hz2⟩ := info_parts side_sinfo
  have Hz0 := Lib.hid hz0
  have Hz1 := Lib.hid hz1
  have Hz2 := Lib.hid hz2
  have Hi0 := Lib.hid hi0
  have HFw := Lib.hid hFw
  clear hz0 hz1 hz2 hi0 hFw
  have hbox0 := hIbox _ _ h0
  have hbl : bx < W.heap.size := World.block_lt_of_cell? _ _ hbox0
  have z1 : (m : Int) ≤ 128 := by have := Hl.out; omega
  refine callsIn_of_wp Tryz.func107 rfl hf ?_ hro
  simp only [Tryz.ntmps107, List.size_toArray, List.length_cons, List.length_nil, Nat.reduceAdd, Nat.reduceSub, Array.replicate_succ, Array.replicate_zero, List.push_toArray, List.append_toArray, List.nil_append, List.cons_append]
  gi_wp2
  gi_loopw [3, 11] (fun v iv wr => ∃ (k : Nat) (nx : List Nat), iv = .int .i64 k ∧ k ≤ m ∧ nx = sidesAt [0] (l.take k) ∧ nx.length ≤ 1000 + 8 * k ∧ I ((sideList l).take k) wr ∧ Bk wr ∧ B ≤ wr.heap.size ∧ Row wr B 119 1 v nx.length (sidesV nx)) (fun _ iv _ => m - (intOf iv).toNat)
  case atStart =>
    have hic : ItChg B W (W.alloc (.cells #[.int .u8 0] 119)) := ItChg.below ((Below.refl _ _).alloc (Nat.le_refl _) _)
    refine ⟨0, [0], rfl, Nat.zero_le _, rfl, by simp, hIit _ _ _ h0 hic, hBk _ _ hb0 (hic.keeps B), by simp; omega, ⟨rfl, .inr ⟨W.heap.size, 1, #[.int .u8 0], rfl, hBW, Blk.new W _ _, Nat.le_refl _, by simp [maxLen], by simp, rfl⟩⟩⟩
  case round =>
    obtain ⟨k, nx, rfl, hk, hnx, hnl, hI, hB, hBr, hR⟩ := hrel
    have Hnx := Lib.hid hnx
    clear hnx hbox0 h0 hb0
    by_cases hlt : k < m
    · obtain ⟨s, r, hsr⟩ := sidesAt_cons hgo (show sumO [1] = [0].length from rfl) (show k < l.length by rw [Hl.out]; exact hlt)
      have hnxe : nx = s :: r := Hnx.out.trans hsr
      subst hnxe
      have hSr := hS.below rNode_keeps (by rw [hw0]; exact hIlow _ _ hI)
      obtain ⟨b0, o0, x, cs, rfl, hxk, ⟨rfl, hok⟩, _, hcs⟩ := hSr.at_ hlt (by omega)
      obtain ⟨kd, md, nm, ks, ⟨lv, ln⟩, ⟨pv, pn⟩, ⟨ev, en⟩⟩ := x
      have c0 := hcs 0 _ rfl
      have c1 := hcs 1 _ rfl
      have c2 := hcs 2 _ rfl
      have c3 := hcs 3 _ rfl
      have c4 := hcs 4 _ rfl
      have c5 := hcs 5 _ rfl
      have c6 := hcs 6 _ rfl
      have c7 := hcs 7 _ rfl
      have c8 := hcs 8 _ rfl
      have c9 := hcs 9 _ rfl
      simp only [Nat.add_zero] at c0
      dsimp only at c0 c1 c2 c3 c4 c5 c6 c7 c8 c9
      obtain ⟨hmay, hk8⟩ := hmem _ (List.mem_of_getElem? hxk)
      have hk0 := mayB_kids hmay
      dsimp only at hk8 hk0
      obtain ⟨kn, rfl⟩ := Int.eq_ofNat_of_zero_le hk0
      obtain ⟨g, cap, hv, hnc, hcell, hfr⟩ := hR.cellAt (sidesV_last s r)
      have hgl : g < wr.heap.size := World.block_lt_of_cell? _ _ hcell
      have Hok := Lib.hid hok
      have Hxk := Lib.hid hxk
      have Hmay := Lib.hid hmay
      have i1 : (k : Int) < (m : Int) := by omega
      simp only [List.length_cons] at hnc hnl
      have j0 : (0 : Int) < (r.length : Int) + 1 := by omega
      have j1 : (r.length : Int) + 1 ≤ 3000 := by omega
      have j2 : (0 : Int) ≤ (r.length : Int) := by omega
      have hsl : s ≤ 2 := by
        have := sidesGo_le (b := l) (nx := [0]) (by simp) s (List.mem_of_getElem? (sidesGo_at (by rw [Hl.out]; exact hlt) hsr))
        exact this
      have hsd : (sideList l)[k]? = some (k, s) := by
        rw [sideList, List.getElem?_zip_eq_some]
        exact ⟨by rw [List.getElem?_range (by rw [Hl.out]; exact hlt)], sidesGo_at (by rw [Hl.out]; exact hlt) hsr⟩
      have Hsd := Lib.hid hsd
      have hsn := sidesAt_snoc hsr hxk
      have Hsn := Lib.hid hsn
      clear hcs hok hxk hmay hsr hS hSr hsd hsn
      rw [hv] at hR ⊢
      clear hv
      have hic : ItChg B wr (wr.alloc (.cells #[.int .u8 kd, .int .i64 md, .string nm, .int .i64 (kn : Int), .bool lv, .int .u64 ln, .bool pv, .int .u64 pn, .bool ev, .int .u64 en] 68)) := ItChg.below ((Below.refl _ _).alloc (Nat.le_refl _) _)
      have htk : (sideList l).take (k + 1) = (sideList l).take k ++ [(k, s)] := by
        rw [List.take_add_one, Hsd.out]
        rfl
      have Htk := Lib.hid htk
      obtain ⟨fn, tmps, assign, body, hy, hRr⟩ := hY ((sideList l).take k) (k, s) _ (hIit _ _ _ hI hic) (hBk _ _ hB (hic.keeps B)) (by rw [← Htk.out]; exact List.take_prefix _ _)
      have hNB := Blk.new wr 68 #[.int .u8 kd, .int .i64 md, .string nm, .int .i64 (kn : Int), .bool lv, .int .u64 ln, .bool pv, .int .u64 pn, .bool ev, .int .u64 en]
      have hRa := (hR.chg (Chg.alloc (fun _ => False) wr (.cells #[.int .u8 kd, .int .i64 md, .string nm, .int .i64 (kn : Int), .bool lv, .int .u64 ln, .bool pv, .int .u64 pn, .bool ev, .int .u64 en] 68)) (fun _ _ h => h))
      rw [sidesV_cons, List.length_cons] at hRa
      have HRa := Lib.hid hRa.shorter
      have HNB := Lib.hid hNB
      have Hy := Lib.hid hRr
      simp only [encS] at hy
      clear hic htk hRr hNB hRa hR hB hI
      gi_wp2
      refine Hy.out.mono ?_
      rintro e W3 ⟨rfl, hI3, hB3, hK3⟩
      rw [← Htk.out] at hI3
      have hR3 := HRa.out.kpi hK3
      have hN3 := hK3.2 _ _ _ (.inr rfl) HNB.out
      have n0 := hN3.cell 0
      have n3 := hN3.cell 3
      simp at n0 n3
      clear hy
      have cR := repeat_side W3.heap.size s kn 1 (W3.alloc (.cells #[.int .u8 (s : Int)] 119)) (by omega) (cell_new_at _ _ _ rfl)
      rw [show (W3.alloc (.cells #[.int .u8 (s : Int)] 119)).heap.size = W3.heap.size + 1 by simp] at cR
      have CR := Lib.hid (calls_in (n := n - 1) HFw.out cR)
      have hNl := hN3.lt
      clear cR
      gi_wp2_with fail
      refine ⟨fn_wide HFw.out _, CR.out.mono ?_⟩
      rintro e W4 ⟨rfl, hB4, hb4⟩
      have hb34 : Below W3.heap.size W3 W4 := ((Below.refl _ _).alloc (Nat.le_refl _) _).trans (hb4.mono (by simp))
      have hN4 := hN3.below hb34 hNl
      have hR4 := hR3.chg (Chg.of_below (fun _ => False) hb34) (fun _ _ h => h)
      have hz4 := hb4.size
      simp only [World.size_alloc] at hz4
      have hB4l := hB4.lt
      have m0 := hN4.cell 0
      have m3 := hN4.cell 3
      simp at m0 m3
      have HI3 := Lib.hid hI3
      have HB3 := Lib.hid hB3
      have HB4 := Lib.hid hB4
      have hkl : (kidsS ⟨kd, md, nm, (kn : Int), ⟨lv, ln⟩, ⟨pv, pn⟩, ⟨ev, en⟩⟩ s).length = kn := by
        have := mayB_kidsS Hmay.out s
        simpa using this
      have Hkl := Lib.hid hkl
      have hKsz := hK3.1
      clear hI3 hB3 hK3 hN3 hR3 n0 n3 hkl hN4
      -- what the round leaves
      have hgW3 : g < W3.heap.size ∧ B ≤ W3.heap.size := by have := hKsz; simp at this; omega
      have hfin : ∀ (W5 W6 : World) (v6 : Value), Below W3.heap.size W3 W5 → Row W5 B 119 1 (.slice (some ⟨g, 0, none⟩) r.length cap) r.length (sidesV r) → W5.grownBy W6 (some g) → ItChg B W3 W6 := fun W5 W6 v6 hb hR hg =>
        (ItChg.below hb).trans (Chg.of_grown hg (fun q hq => by
          cases hq
          rcases hR.2 with ⟨h0, _⟩ | ⟨g', cap', cur, hv, _, hbk, _⟩
          · cases h0
          · injection hv with e1
            injection e1 with e1
            injection e1 with e1
            subst e1
            exact ⟨(hR.lt rfl).1, _, hbk⟩))
      have Hfin := Lib.hid hfin
      have HR4 := Lib.hid hR4
      clear hfin hR4
      by_cases k4 : kd = 4
      · subst k4
        have hk1 : kn = 1 := by
          have := Hmay.out
          simp [mayB] at this
          omega
        subst hk1
        have hks : kidsS ⟨4, md, nm, ((1 : Nat) : Int), ⟨lv, ln⟩, ⟨pv, pn⟩, ⟨ev, en⟩⟩ s = [2] := by simp [kidsS]
        have hfr := HB4.out.frozen 0
        have hcr : W4.cell? ⟨W3.heap.size + 1, 0, none⟩ = some (.int .u8 (s : Int)) := by rw [HB4.out.cell]; rfl
        obtain ⟨KS, hKS⟩ : ∃ KS, kidsS ⟨4, md, nm, ((1 : Nat) : Int), ⟨lv, ln⟩, ⟨pv, pn⟩, ⟨ev, en⟩⟩ s = KS := ⟨_, rfl⟩
        have hbk : Blk (W4.setCell ⟨W3.heap.size + 1, 0, none⟩ (.int .u8 2)) (W3.heap.size + 1) 119 (sidesV KS).toArray := by
          rw [← hKS, hks]
          exact HB4.out.set_ 0 (.int .u8 2)
        rw [hKS] at Hsn Hkl
        have Hks := Lib.hid Hkl.out
        have HBK := Lib.hid hbk
        clear hks hKS hbk
        have hNW : ∀ (j : Nat) (u : Value), (sidesV KS)[j]? = some u → (W4.setCell ⟨W3.heap.size + 1, 0, none⟩ (.int .u8 2)).cell? ((⟨W3.heap.size + 1, 0, none⟩ : Addr).add j) = some u := fun j u hu => by
          rw [add_lit', Nat.zero_add, Blk.cell HBK.out, List.getElem?_toArray]
          exact hu
        have hb5 : Below W3.heap.size W3 (W4.setCell ⟨W3.heap.size + 1, 0, none⟩ (.int .u8 2)) := hb34.setCell (p := ⟨W3.heap.size + 1, 0, none⟩) (by simp) _
        have hR5 : Row (W4.setCell ⟨W3.heap.size + 1, 0, none⟩ (.int .u8 2)) B 119 1 (.slice (some ⟨g, 0, none⟩) r.length cap) r.length (sidesV r) := HR4.out.setOther (by omega) 0 _
        have HR5 := Lib.hid hR5
        have HNW := Lib.hid hNW
        have HB5 := Lib.hid hb5
        have hsz5 : W3.heap.size + 1 < (W4.setCell ⟨W3.heap.size + 1, 0, none⟩ (.int .u8 2)).heap.size := by simpa using hB4l
        clear hR5 hNW hb5
        gi_wp2_with (
          refine wpListIn_append_row rfl (.tmp 49) (.tmp 50) 189 rfl B 119 i0 (.int .u8 0) 1 1 Tryz.underlying189 Hi0.out Hz0.out Hz1.out Hz2.out rfl (by omega) (.slice (some ⟨g, 0, none⟩) r.length cap) r.length (sidesV r) ?_ HR5.out ⟨W3.heap.size + 1, 0, none⟩ 1 1 (sidesV KS) ?_ ?_ HNW.out ?_ ?_ ?_ ?_ ?_
          · simp [Act.eval, Act.put]
          · simp [Act.eval, Act.put]
          · rw [sidesV, List.length_map, List.length_reverse, Hks.out, Nat.mul_one]
          · intro u hu; obtain ⟨q, _, rfl⟩ := List.mem_map.1 hu; rfl
          · simp only [maxLen]; omega
          · omega
          · have := HB5.out.size; omega
          intro v6 W6 hR6 hg6 hat6)
        go_roundw
        case rel =>
          have hIt := Hfin.out _ W6 v6 HB5.out HR5.out hg6
          refine ⟨k + 1, KS ++ r, by simp, by omega, Hsn.out.symm, ?_, hIit _ _ _ HI3.out hIt, hBk _ _ HB3.out (hIt.keeps B), by have := hIt.size; omega, ?_⟩
          · rw [List.length_append, Hks.out]; omega
          · rw [sidesV_append, List.length_append, Hks.out, Nat.add_comm]
            exact hR6
        case measure => simp [intOf]; omega
      · by_cases k5 : kd = 5
        · subst k5
          have hk1 : kn = 2 := by
            have := Hmay.out
            simp [mayB] at this
            omega
          subst hk1
          have hks : kidsS ⟨5, md, nm, ((2 : Nat) : Int), ⟨lv, ln⟩, ⟨pv, pn⟩, ⟨ev, en⟩⟩ s = [turnedS s, s] := by simp [kidsS]
          have hfr := HB4.out.frozen 1
          have hcr : W4.cell? ⟨W3.heap.size + 1, 1, none⟩ = some (.int .u8 (s : Int)) := by rw [HB4.out.cell]; rfl
          obtain ⟨KS, hKS⟩ : ∃ KS, kidsS ⟨5, md, nm, ((2 : Nat) : Int), ⟨lv, ln⟩, ⟨pv, pn⟩, ⟨ev, en⟩⟩ s = KS := ⟨_, rfl⟩
          have hbk : Blk (W4.setCell ⟨W3.heap.size + 1, 1, none⟩ (.int .u8 (turnedS s : Nat))) (W3.heap.size + 1) 119 (sidesV KS).toArray := by
            rw [← hKS, hks]
            exact HB4.out.set_ 1 (.int .u8 (turnedS s : Nat))
          rw [hKS] at Hsn Hkl
          have Hks := Lib.hid Hkl.out
          have HBK := Lib.hid hbk
          have cTu := calls_in (n := n - 1) HFw.out (turnedS_any s hsl W4)
          have CTu := Lib.hid cTu
          clear hks hKS hbk cTu
          have hNW : ∀ (j : Nat) (u : Value), (sidesV KS)[j]? = some u → (W4.setCell ⟨W3.heap.size + 1, 1, none⟩ (.int .u8 (turnedS s : Nat))).cell? ((⟨W3.heap.size + 1, 0, none⟩ : Addr).add j) = some u := fun j u hu => by
            rw [add_lit', Nat.zero_add, Blk.cell HBK.out, List.getElem?_toArray]
            exact hu
          have hb5 : Below W3.heap.size W3 (W4.setCell ⟨W3.heap.size + 1, 1, none⟩ (.int .u8 (turnedS s : Nat))) := hb34.setCell (p := ⟨W3.heap.size + 1, 1, none⟩) (by simp) _
          have hR5 : Row (W4.setCell ⟨W3.heap.size + 1, 1, none⟩ (.int .u8 (turnedS s : Nat))) B 119 1 (.slice (some ⟨g, 0, none⟩) r.length cap) r.length (sidesV r) := HR4.out.setOther (by omega) 1 _
          have HR5 := Lib.hid hR5
          have HNW := Lib.hid hNW
          have HB5 := Lib.hid hb5
          have hsz5 : W3.heap.size + 1 < (W4.setCell ⟨W3.heap.size + 1, 1, none⟩ (.int .u8 (turnedS s : Nat))).heap.size := by simpa using hB4l
          clear hR5 hNW hb5
          gi_wp2_with fail
          refine ⟨fn_wide HFw.out _, CTu.out.mono ?_⟩
          rintro e W4' ⟨rfl, e1⟩
          obtain rfl := e1.symm
          gi_wp2_with (
            refine wpListIn_append_row rfl (.tmp 49) (.tmp 50) 189 rfl B 119 i0 (.int .u8 0) 1 1 Tryz.underlying189 Hi0.out Hz0.out Hz1.out Hz2.out rfl (by omega) (.slice (some ⟨g, 0, none⟩) r.length cap) r.length (sidesV r) ?_ HR5.out ⟨W3.heap.size + 1, 0, none⟩ 2 2 (sidesV KS) ?_ ?_ HNW.out ?_ ?_ ?_ ?_ ?_
            · simp [Act.eval, Act.put]
            · simp [Act.eval, Act.put]
            · rw [sidesV, List.length_map, List.length_reverse, Hks.out, Nat.mul_one]
            · intro u hu; obtain ⟨q, _, rfl⟩ := List.mem_map.1 hu; rfl
            · simp only [maxLen]; omega
            · omega
            · have := HB5.out.size; omega
            intro v6 W6 hR6 hg6 hat6)
          go_roundw
          case rel =>
            have hIt := Hfin.out _ W6 v6 HB5.out HR5.out hg6
            refine ⟨k + 1, KS ++ r, by simp, by omega, Hsn.out.symm, ?_, hIit _ _ _ HI3.out hIt, hBk _ _ HB3.out (hIt.keeps B), by have := hIt.size; omega, ?_⟩
            · rw [List.length_append, Hks.out]; omega
            · rw [sidesV_append, List.length_append, Hks.out, Nat.add_comm]
              exact hR6
          case measure => simp [intOf]; omega
        · have z4 : ((kd : Int) == 4) = false := by rw [beq_eq_false_iff_ne]; omega
          have z5 : ((kd : Int) == 5) = false := by rw [beq_eq_false_iff_ne]; omega
          have hks : kidsS ⟨kd, md, nm, (kn : Int), ⟨lv, ln⟩, ⟨pv, pn⟩, ⟨ev, en⟩⟩ s = List.replicate kn s := by simp [kidsS, k4, k5]
          obtain ⟨KS, hKS⟩ : ∃ KS, kidsS ⟨kd, md, nm, (kn : Int), ⟨lv, ln⟩, ⟨pv, pn⟩, ⟨ev, en⟩⟩ s = KS := ⟨_, rfl⟩
          have hbk : Blk W4 (W3.heap.size + 1) 119 (sidesV KS).toArray := by
            rw [← hKS, hks]
            have := HB4.out
            simpa [sidesV] using this
          rw [hKS] at Hsn Hkl
          have Hks := Lib.hid Hkl.out
          have HBK := Lib.hid hbk
          clear hks hKS hbk
          have hNW : ∀ (j : Nat) (u : Value), (sidesV KS)[j]? = some u → (W4).cell? ((⟨W3.heap.size + 1, 0, none⟩ : Addr).add j) = some u := fun j u hu => by
            rw [add_lit', Nat.zero_add, Blk.cell HBK.out, List.getElem?_toArray]
            exact hu
          have hb5 : Below W3.heap.size W3 (W4) := hb34
          have hR5 : Row (W4) B 119 1 (.slice (some ⟨g, 0, none⟩) r.length cap) r.length (sidesV r) := HR4.out
          have HR5 := Lib.hid hR5
          have HNW := Lib.hid hNW
          have HB5 := Lib.hid hb5
          have hsz5 : W3.heap.size + 1 < (W4).heap.size := by simpa using hB4l
          clear hR5 hNW hb5
          gi_wp2_with (
            refine wpListIn_append_row rfl (.tmp 49) (.tmp 50) 189 rfl B 119 i0 (.int .u8 0) 1 1 Tryz.underlying189 Hi0.out Hz0.out Hz1.out Hz2.out rfl (by omega) (.slice (some ⟨g, 0, none⟩) r.length cap) r.length (sidesV r) ?_ HR5.out ⟨W3.heap.size + 1, 0, none⟩ kn kn (sidesV KS) ?_ ?_ HNW.out ?_ ?_ ?_ ?_ ?_
            · simp [Act.eval, Act.put]
            · simp [Act.eval, Act.put]
            · rw [sidesV, List.length_map, List.length_reverse, Hks.out, Nat.mul_one]
            · intro u hu; obtain ⟨q, _, rfl⟩ := List.mem_map.1 hu; rfl
            · simp only [maxLen]; omega
            · omega
            · have := HB5.out.size; omega
            intro v6 W6 hR6 hg6 hat6)
          go_roundw
          case rel =>
            have hIt := Hfin.out _ W6 v6 HB5.out HR5.out hg6
            refine ⟨k + 1, KS ++ r, by simp, by omega, Hsn.out.symm, ?_, hIit _ _ _ HI3.out hIt, hBk _ _ HB3.out (hIt.keeps B), by have := hIt.size; omega, ?_⟩
            · rw [List.length_append, Hks.out]; omega
            · rw [sidesV_append, List.length_append, Hks.out, Nat.add_comm]
              exact hR6
          case measure => simp [intOf]; omega
    · obtain rfl : k = m := by omega
      gi_wp2_with fail
      go_end0
      refine ⟨⟨_, rfl⟩, _, rfl, ?_, hB⟩
      have : (sideList l).take k = sideList l := List.take_of_length_le (by simp [sideList, Hl.out]; omega)
      rw [this] at hI
      exact hI
end Go.Proofs.YtcgnbpjbpbabaaaGreatDoor
end

section
set_option linter.unusedVariables false
set_option linter.unusedSimpArgs false
namespace Go.Proofs.YtcgnbpjbpbabaaaGreatDoor
open Go.RowKit

/-- nothing turns of what lay but blocks at or beyond B of a type with T -/
def TChg (T : TypeId → Prop) (B : Nat) (X Y : World) : Prop := Chg (fun g => B ≤ g ∧ ∃ t cs, T t ∧ Blk X g t cs) X Y
section
variable {T : TypeId → Prop} {B : Nat} {X Y Z : World}
theorem TChg.refl : TChg T B X X := Chg.refl _ X
theorem TChg.trans (h : TChg T B X Y) (k : TChg T B Y Z) : TChg T B X Z :=
  ⟨k.os.trans h.os, k.tape.trans h.tape, k.output.trans h.output, Nat.le_trans h.size k.size, fun i hi hs => by
    have h1 := h.block i hi hs
    exact (k.block i (Nat.lt_of_lt_of_le hi h.size) (fun ⟨hB, t, cs, ht, hb⟩ => hs ⟨hB, t, cs, ht, h1.symm.trans hb⟩)).trans h1⟩
theorem TChg.below (h : Below X.heap.size X Y) : TChg T B X Y := Chg.of_below _ h
theorem TChg.grown {g : Nat} {t : TypeId} {cs : Array Value} (hg : X.grownBy Y (some g)) (hb : Blk X g t cs) (ht : T t) (hB : B ≤ g) : TChg T B X Y :=
  Chg.of_grown hg (fun q hq => by cases hq; exact ⟨hB, t, cs, ht, hb⟩)
theorem TChg.set_ {g i : Nat} {t : TypeId} {cs : Array Value} (hb : Blk X g t cs) (ht : T t) (hB : B ≤ g) (u : Value) : TChg T B X (X.setCell ⟨g, i, none⟩ u) :=
  Chg.setCell (p := ⟨g, i, none⟩) ⟨hB, t, cs, ht, hb⟩ _ _
theorem TChg.keeps (h : TChg T B X Y) (B' : Nat) : KeepsFrom B' X Y :=
  ⟨h.size, fun k o _ hk ho => (h.block k (Array.getElem?_eq_some_iff.1 hk).1 (fun ⟨_, t, cs, _, hb⟩ => by rw [hb] at hk; cases hk; cases ho)).trans hk⟩
theorem TChg.blk (h : TChg T B X Y) {g : Nat} {t : TypeId} {cs : Array Value} (hb : Blk X g t cs) (ht : ¬ T t) : Blk Y g t cs :=
  Chg.blk h hb (fun ⟨_, t', cs', ht', hb'⟩ => by
    have : Obj.cells cs t (0, 0) = Obj.cells cs' t' (0, 0) := Option.some.inj (hb.symm.trans hb')
    injection this with _ e
    subst e
    exact ht ht')
theorem TChg.to_below {B0 : Nat} {w0 : World} (h : TChg T B X Y) (hb : Below B0 w0 X) (hB : B0 ≤ B) (hX : B0 ≤ X.heap.size) : Below B0 w0 Y :=
  Chg.to_below hb hX h (fun k hk ⟨h1, _⟩ => by omega)
theorem TChg.row {B' size n : Nat} {e : TypeId} {v : Value} {xs : List Value} (h : TChg T B X Y) (hr : Row X B' e size v n xs) (ht : ¬ T e) : Row Y B' e size v n xs := by
  refine ⟨hr.1, ?_⟩
  rcases hr.2 with hr | ⟨g, cap, cur, rfl, hb, hg, hr⟩
  · exact .inl hr
  · exact .inr ⟨g, cap, cur, rfl, hb, h.blk hg ht, hr⟩
theorem ItChg.tchg (h : ItChg B X Y) : TChg (· = 119) B X Y := Chg.mono h (fun _ ⟨h1, cs, h2⟩ => ⟨h1, _, cs, rfl, h2⟩)
end

/-- a block that is no cells turns, or a new one is laid: every block of cells lies on -/
theorem blk_own {W W' : World} {row : Option Nat} (hg : W.grownBy W' row) (hr : ∀ r, row = some r → ∃ o : Obj, W.heap[r]? = some o ∧ o.isCells = false) {g : Nat} {t : TypeId} {cs : Array Value} (hb : Blk W g t cs) : Blk W' g t cs :=
  hb.grown hg (fun e => by
    obtain ⟨o, ho, hc⟩ := hr g e.symm
    rw [hb] at ho
    cases ho
    cases hc)
theorem row_own {W W' : World} {row : Option Nat} (hg : W.grownBy W' row) (hr : ∀ r, row = some r → ∃ o : Obj, W.heap[r]? = some o ∧ o.isCells = false) {B size n : Nat} {e : TypeId} {v : Value} {xs : List Value} (h : Row W B e size v n xs) : Row W' B e size v n xs := by
  refine ⟨h.1, ?_⟩
  rcases h.2 with h | ⟨g, cap, cur, rfl, hb, hg', h⟩
  · exact .inl h
  · exact .inr ⟨g, cap, cur, rfl, hb, blk_own hg hr hg', h⟩

/-- a spot's cells: node, part, side, no variable, and the function that finds its term -/
def spotV (b1 b2 : Nat) (q : Nat × Nat × Nat) : List Value :=
  [.int .i64 (q.1 : Nat), .int .u8 (q.2.1 : Nat), .int .u8 (q.2.2 : Nat), .bool false, .int .u64 0, .func (.func 109) #[] #[.pointer (some ⟨b1, 0, none⟩), .pointer (some ⟨b2, 0, none⟩)]]
def LaysQ (w : World) : List (Nat × Nat × Nat) → List Value → Prop
  | [], xs => xs = []
  | q :: r, xs => ∃ b1 b2 ys, xs = spotV b1 b2 q ++ ys ∧ Blk w b1 3 #[.int .i64 (q.1 : Nat)] ∧ Blk w b2 118 #[.int .u8 (q.2.1 : Nat)] ∧ LaysQ w r ys
theorem LaysQ.keep {X Y : World} (hk : ∀ g t cs, (t = 3 ∨ t = 118) → Blk X g t cs → Blk Y g t cs) : ∀ {qs : List (Nat × Nat × Nat)} {xs : List Value}, LaysQ X qs xs → LaysQ Y qs xs
  | [], _, h => h
  | q :: r, xs, ⟨b1, b2, ys, e, h1, h2, h3⟩ => ⟨b1, b2, ys, e, hk _ _ _ (.inl rfl) h1, hk _ _ _ (.inr rfl) h2, LaysQ.keep hk h3⟩
theorem LaysQ.snoc {X : World} {b1 b2 : Nat} {q : Nat × Nat × Nat} (h1 : Blk X b1 3 #[.int .i64 (q.1 : Nat)]) (h2 : Blk X b2 118 #[.int .u8 (q.2.1 : Nat)]) : ∀ {qs : List (Nat × Nat × Nat)} {xs : List Value}, LaysQ X qs xs → LaysQ X (qs ++ [q]) (xs ++ spotV b1 b2 q)
  | [], _, h => by cases h; exact ⟨b1, b2, [], by simp, h1, h2, rfl⟩
  | p :: r, xs, ⟨c1, c2, ys, e, k1, k2, k3⟩ => ⟨c1, c2, ys ++ spotV b1 b2 q, by rw [e, List.append_assoc], k1, k2, LaysQ.snoc h1 h2 k3⟩
theorem LaysQ.length {X : World} : ∀ {qs : List (Nat × Nat × Nat)} {xs : List Value}, LaysQ X qs xs → xs.length = qs.length * 6
  | [], _, h => by cases h; rfl
  | p :: r, xs, ⟨c1, c2, ys, e, k1, k2, k3⟩ => by rw [e, List.length_append, LaysQ.length k3]; simp [spotV]; omega

/-- what the walk puts down at a side -/
def lqAt (l : List Node) (x : Nat × Nat) : List (Nat × Nat × Nat) := (x.1, 0, x.2) :: if (l[x.1]?.map (·.kind)) = some 5 then [(x.1, 1, turnedS x.2)] else []
def eqAt (l : List Node) (x : Nat × Nat) : List (Nat × Nat × Nat) := if (l[x.1]?.map (·.kind)) = some 5 then [(x.1, 2, x.2)] else []
def lqs (l : List Node) (pre : List (Nat × Nat)) : List (Nat × Nat × Nat) := pre.flatMap (lqAt l)
def eqs (l : List Node) (pre : List (Nat × Nat)) : List (Nat × Nat × Nat) := pre.flatMap (eqAt l)
theorem lqs_snoc (l : List Node) (pre : List (Nat × Nat)) (x : Nat × Nat) : lqs l (pre ++ [x]) = lqs l pre ++ lqAt l x := by simp [lqs]
theorem eqs_snoc (l : List Node) (pre : List (Nat × Nat)) (x : Nat × Nat) : eqs l (pre ++ [x]) = eqs l pre ++ eqAt l x := by simp [eqs]
theorem lqs_len (l : List Node) : ∀ pre : List (Nat × Nat), (lqs l pre).length ≤ 2 * pre.length
  | [] => Nat.le_refl _
  | x :: r => by
    have := lqs_len l r
    simp only [lqs, List.flatMap_cons, List.length_append, List.length_cons] at this ⊢
    have : (lqAt l x).length ≤ 2 := by unfold lqAt; split <;> simp
    omega
theorem eqs_len (l : List Node) : ∀ pre : List (Nat × Nat), (eqs l pre).length ≤ 2 * pre.length
  | [] => Nat.le_refl _
  | x :: r => by
    have := eqs_len l r
    simp only [eqs, List.flatMap_cons, List.length_append, List.length_cons] at this ⊢
    have : (eqAt l x).length ≤ 2 := by unfold eqAt; split <;> simp
    omega

/-- a variable of a row of spots: the block b holds a row with the spots qs -/
def VarQ (w : World) (b B : Nat) (v : Value) (qs : List (Nat × Nat × Nat)) : Prop :=
  Blk w b 147 #[v] ∧ ∃ xs, Row w B 174 6 v qs.length xs ∧ LaysQ w qs xs
/-- what stands between two rounds, n₀ being where the call began: the body, the labels, the effects -/
def AllI (w : World) (n₀ : Nat) (A : Option Addr) (m c : Nat) (ql qe : List (Nat × Nat × Nat)) (X : World) : Prop :=
  Below n₀ w X ∧ n₀ + 4 ≤ X.heap.size ∧ Blk X n₀ 40 #[.slice A m c] ∧ Blk X (n₀ + 3) 40 #[.slice A m c] ∧ ∃ vl ve, VarQ X (n₀ + 1) (n₀ + 4) vl ql ∧ VarQ X (n₀ + 2) (n₀ + 4) ve qe ∧ ∀ g, vl.ownBlock = some g → ve.ownBlock ≠ some g
/-- the types that a round's body may turn -/
def TAll (t : TypeId) : Prop := t = 147 ∨ t = 174

theorem VarQ.keep {X Y : World} {b B : Nat} {v : Value} {qs : List (Nat × Nat × Nat)} (hk : ∀ g t cs, (t = 3 ∨ t = 118 ∨ TAll t) → Blk X g t cs → Blk Y g t cs) (h : VarQ X b B v qs) : VarQ Y b B v qs := by
  obtain ⟨h1, xs, h2, h3⟩ := h
  refine ⟨hk _ _ _ (.inr (.inr (.inl rfl))) h1, xs, ⟨h2.1, ?_⟩, h3.keep (fun g t cs ht => hk g t cs (ht.elim .inl (fun e => .inr (.inl e))))⟩
  rcases h2.2 with h | ⟨g, cap, cur, rfl, hb, hg', h⟩
  · exact .inl h
  · exact .inr ⟨g, cap, cur, rfl, hb, hk _ _ _ (.inr (.inr (.inr rfl))) hg', h⟩
theorem AllI.keep {X Y w : World} {n₀ m c : Nat} {A : Option Addr} {ql qe : List (Nat × Nat × Nat)} (hb : Below n₀ w Y) (hs : X.heap.size ≤ Y.heap.size)
    (hk : ∀ g t cs, (t = 3 ∨ t = 118 ∨ t = 40 ∨ TAll t) → Blk X g t cs → Blk Y g t cs) (h : AllI w n₀ A m c ql qe X) : AllI w n₀ A m c ql qe Y := by
  obtain ⟨_, h1, h2, h2', vl, ve, h3, h4, h5⟩ := h
  have hk' : ∀ g t cs, (t = 3 ∨ t = 118 ∨ TAll t) → Blk X g t cs → Blk Y g t cs := fun g t cs ht => hk g t cs (ht.elim .inl (fun e => e.elim (fun e => .inr (.inl e)) (fun e => .inr (.inr (.inr e)))))
  exact ⟨hb, by omega, hk _ _ _ (.inr (.inr (.inl rfl))) h2, hk _ _ _ (.inr (.inr (.inl rfl))) h2', vl, ve, h3.keep hk', h4.keep hk', h5⟩
theorem AllI.own {w W W' : World} {n₀ m c B : Nat} {A : Option Addr} {ql qe : List (Nat × Nat × Nat)} {row : Option Nat} (h : AllI w n₀ A m c ql qe W) (hn : n₀ ≤ w.heap.size) (hB : n₀ ≤ B) (hg : W.grownBy W' row) (hr : ∀ r, row = some r → B ≤ r ∧ ∃ o : Obj, W.heap[r]? = some o ∧ o.isCells = false) : AllI w n₀ A m c ql qe W' :=
  h.keep (h.1.grown hg (by have := h.2.1; omega) (fun k e => Nat.le_trans hB (hr k e).1)) hg.size (fun g t cs _ hb => blk_own hg (fun r e => (hr r e).2) hb)
theorem AllI.it {w X Y : World} {n₀ m c B : Nat} {A : Option Addr} {ql qe : List (Nat × Nat × Nat)} (h : AllI w n₀ A m c ql qe X) (hB : n₀ ≤ B) (hc : ItChg B X Y) : AllI w n₀ A m c ql qe Y :=
  h.keep (hc.tchg.to_below h.1 hB (by have := h.2.1; omega)) hc.size (fun g t cs ht hb => hc.tchg.blk hb (by rintro rfl; rcases ht with h | h | h | h | h <;> cases h))
end Go.Proofs.YtcgnbpjbpbabaaaGreatDoor
end

section
set_option linter.unusedVariables false
set_option linter.unusedSimpArgs false
set_option maxRecDepth 100000
set_option maxHeartbeats 1000000
namespace Go.Proofs.YtcgnbpjbpbabaaaGreatDoor
open Go.RowKit
theorem spot_info : (Tryz.prog.info? 174).map (fun i => (i.zero, i.size, i.bytes)) = some (some (.agg #[.int .i64 0, .int .u8 0, .int .u8 0, .bool false, .int .u64 0, .nilFunc]), 6, 40) := by kernel_rfl

theorem push_any {X : World} {b B b1 b2 : Nat} {v : Value} {q : Nat × Nat × Nat} {qs : List (Nat × Nat × Nat)} (h : VarQ X b B v qs) (hB : B ≤ X.heap.size) (k1 : Blk X b1 3 #[.int .i64 (q.1 : Nat)]) (k2 : Blk X b2 118 #[.int .u8 (q.2.1 : Nat)]) (hq : qs.length ≤ 1000) :
    ∃ v' Av nv cv Y, v' = .slice Av nv cv ∧ (Builtin.append_ #[147, 147] 147 #[v, .slice (some ⟨X.heap.size, 0, none⟩) 1 1]).run Tryz.prog (X.alloc (.cells (spotV b1 b2 q).toArray 174)) = .ok v' Y ∧
      Y.cell? ⟨b, 0, none⟩ = some v ∧ Y.frozen? ⟨b, 0, none⟩ = false ∧ VarQ (Y.setCell ⟨b, 0, none⟩ v') b B v' (qs ++ [q]) ∧
      (∀ n₀, n₀ ≤ b → n₀ ≤ B → TChg TAll n₀ X (Y.setCell ⟨b, 0, none⟩ v')) ∧
      (∀ b' u rs, b' ≠ b → VarQ X b' B u rs → (∀ g, v.ownBlock = some g → u.ownBlock ≠ some g) → VarQ (Y.setCell ⟨b, 0, none⟩ v') b' B u rs ∧ ∀ g, v'.ownBlock = some g → u.ownBlock ≠ some g) := by
  obtain ⟨hb, xs, hR, hL⟩ := h
  obtain ⟨i0, hi0, hz0, hz1, hz2⟩ := info_parts spot_info
  obtain ⟨X1, hX1⟩ : ∃ X1, X.alloc (.cells (spotV b1 b2 q).toArray 174) = X1 := ⟨_, rfl⟩
  have hc1 : ∀ S, Chg S X X1 := fun S => by rw [← hX1]; exact Chg.alloc S X _
  have hs1 : X1.heap.size = X.heap.size + 1 := by rw [← hX1]; simp
  have hR1 := hR.chg (hc1 (fun _ => False)) (fun _ _ h => h)
  have hnew := cells_new X (spotV b1 b2 q).toArray 174
  rw [hX1] at hnew
  obtain ⟨v', Y, hr, h2, h3, h4⟩ := run_append_row (P := Tryz.prog) X1 B 147 147 174 i0 _ 6 40 Tryz.underlying147 hi0 hz0 hz1 hz2 rfl (by omega) v qs.length xs hR1 ⟨X.heap.size, 0, none⟩ 1 1 (spotV b1 b2 q) rfl hnew
    (by intro u hu; simp only [spotV, List.mem_cons, List.not_mem_nil, or_false] at hu; rcases hu with rfl | rfl | rfl | rfl | rfl | rfl <;> rfl) (by simp only [maxLen]; omega) (by omega) (by omega)
  rw [hX1]
  -- the block that grows is no block of a variable
  have hg : ∀ g t cs, v.ownBlock = some g → Blk X g t cs → t = 174 := fun g t cs hg hb' => by
    refine Classical.byContradiction fun hne => ?_
    exact hR.ne_blk hb' (fun e => hne e.symm) hg
  have hb1 : Blk X1 b 147 #[v] := by rw [← hX1]; exact hb.alloc _
  have hvb : v.ownBlock ≠ some b := fun e => by have := hg b _ _ e hb; cases this
  have hbY : Blk Y b 147 #[v] := hb1.grown h3 (fun e => hvb e.symm)
  have hlt : b < X.heap.size := hb.lt
  have htc : ∀ n₀, n₀ ≤ b → n₀ ≤ B → TChg TAll n₀ X (Y.setCell ⟨b, 0, none⟩ v') := fun n₀ h1 h2 => by
    have hx1 : TChg TAll n₀ X X1 := hc1 _
    refine TChg.trans hx1 (TChg.trans (Y := Y) ?_ (TChg.set_ hbY (Or.inl rfl) h1 v'))
    refine Chg.of_grown h3 (fun g e => ?_)
    rcases hR1.2 with ⟨rfl, _⟩ | ⟨g', cap, cur, rfl, h5, h6, _⟩
    · simp [Value.ownBlock] at e
    · have e' : g' = g := by simpa [Value.ownBlock] using e
      subst e'
      exact ⟨by omega, _, _, .inr rfl, h6⟩
  obtain ⟨Av, cv, ev, _⟩ := h2.reads
  refine ⟨v', Av, _, cv, Y, ev, hr, by rw [hbY.cell]; rfl, hbY.frozen 0, ?_, htc, ?_⟩
  · have hkT := htc 0 (Nat.zero_le _) (Nat.zero_le _)
    refine ⟨by have := hbY.set_ 0 v'; simpa using this, _, ?_, LaysQ.snoc (hkT.blk k1 (by rintro (h | h) <;> cases h)) (hkT.blk k2 (by rintro (h | h) <;> cases h)) (hL.keep (fun g t cs ht hb => hkT.blk hb (by rcases ht with rfl | rfl <;> rintro (h | h) <;> cases h)))⟩
    rw [List.length_append]
    refine h2.keep (fun g e => Below.heap_setCell _ _ _ _ ?_)
    intro e2
    have e2 : g = b := e2
    subst e2
    rcases h4 with h4 | ⟨h4, _⟩
    · exact hvb (h4 ▸ e)
    · have := h4 _ e; omega
  · intro b' u rs hne hv hd
    obtain ⟨hb', ys, hR', hL'⟩ := hv
    have hkT := htc 0 (Nat.zero_le _) (Nat.zero_le _)
    have hvb' : v.ownBlock ≠ some b' := fun e => by have := hg b' _ _ e hb'; cases this
    refine ⟨⟨?_, ys, ?_, hL'.keep (fun g t cs ht hb => hkT.blk hb (by rcases ht with rfl | rfl <;> rintro (h | h) <;> cases h))⟩, ?_⟩
    · have : Blk X1 b' 147 #[u] := by rw [← hX1]; exact hb'.alloc _
      exact (this.grown h3 (fun e => hvb' e.symm)).far hne v'
    · refine ((hR'.chg (hc1 (fun _ => False)) (fun _ _ h => h)).keep (w' := Y) (fun g e => h3.block g ?_ ?_)).keep (fun g e => Below.heap_setCell _ _ _ _ ?_)
      · have := (hR'.lt e).2; omega
      · intro e2; exact hd g e2.symm e
      · intro e2
        have e2 : g = b := e2
        subst e2
        exact hR'.ne_blk hb (by intro h; cases h) e
    · intro g e e'
      rcases h4 with h4 | ⟨h4, _⟩
      · exact hd g (h4 ▸ e) e'
      · have := h4 _ e
        have := (hR'.lt e').2
        omega

theorem AllI.push_l {w X : World} {n₀ m c b1 b2 : Nat} {A : Option Addr} {ql qe : List (Nat × Nat × Nat)} {q : Nat × Nat × Nat} (h : AllI w n₀ A m c ql qe X) (k1 : Blk X b1 3 #[.int .i64 (q.1 : Nat)]) (k2 : Blk X b2 118 #[.int .u8 (q.2.1 : Nat)]) (hq : ql.length ≤ 1000) :
    ∃ v v' Av nv cv Y, v' = .slice Av nv cv ∧ X.cell? ⟨n₀ + 1, 0, none⟩ = some v ∧ (Builtin.append_ #[147, 147] 147 #[v, .slice (some ⟨X.heap.size, 0, none⟩) 1 1]).run Tryz.prog (X.alloc (.cells (spotV b1 b2 q).toArray 174)) = .ok v' Y ∧
      Y.cell? ⟨n₀ + 1, 0, none⟩ = some v ∧ Y.frozen? ⟨n₀ + 1, 0, none⟩ = false ∧ AllI w n₀ A m c (ql ++ [q]) qe (Y.setCell ⟨n₀ + 1, 0, none⟩ v') ∧ TChg TAll n₀ X (Y.setCell ⟨n₀ + 1, 0, none⟩ v') := by
  obtain ⟨hb, h1, h2, h2', vl, ve, h3, h4, h5⟩ := h
  obtain ⟨v', Av, nv, cv, Y, ev, hr, hc, hf, hv, ht, ho⟩ := push_any h3 h1 k1 k2 hq
  have ht := ht n₀ (by omega) (by omega)
  obtain ⟨o1, o2⟩ := ho (n₀ + 2) ve qe (by omega) h4 h5
  exact ⟨vl, v', Av, nv, cv, Y, ev, by rw [h3.1.cell]; rfl, hr, hc, hf, ⟨ht.to_below hb (Nat.le_refl _) (by omega), Nat.le_trans h1 ht.size, ht.blk h2 (by rintro (h | h) <;> cases h), ht.blk h2' (by rintro (h | h) <;> cases h), v', ve, hv, o1, o2⟩, ht⟩
theorem AllI.push_e {w X : World} {n₀ m c b1 b2 : Nat} {A : Option Addr} {ql qe : List (Nat × Nat × Nat)} {q : Nat × Nat × Nat} (h : AllI w n₀ A m c ql qe X) (k1 : Blk X b1 3 #[.int .i64 (q.1 : Nat)]) (k2 : Blk X b2 118 #[.int .u8 (q.2.1 : Nat)]) (hq : qe.length ≤ 1000) :
    ∃ v v' Av nv cv Y, v' = .slice Av nv cv ∧ X.cell? ⟨n₀ + 2, 0, none⟩ = some v ∧ (Builtin.append_ #[147, 147] 147 #[v, .slice (some ⟨X.heap.size, 0, none⟩) 1 1]).run Tryz.prog (X.alloc (.cells (spotV b1 b2 q).toArray 174)) = .ok v' Y ∧
      Y.cell? ⟨n₀ + 2, 0, none⟩ = some v ∧ Y.frozen? ⟨n₀ + 2, 0, none⟩ = false ∧ AllI w n₀ A m c ql (qe ++ [q]) (Y.setCell ⟨n₀ + 2, 0, none⟩ v') ∧ TChg TAll n₀ X (Y.setCell ⟨n₀ + 2, 0, none⟩ v') := by
  obtain ⟨hb, h1, h2, h2', vl, ve, h3, h4, h5⟩ := h
  obtain ⟨v', Av, nv, cv, Y, ev, hr, hc, hf, hv, ht, ho⟩ := push_any h4 h1 k1 k2 hq
  have ht := ht n₀ (by omega) (by omega)
  obtain ⟨o1, o2⟩ := ho (n₀ + 1) vl ql (by omega) h3 (fun g e e' => h5 g e' e)
  exact ⟨ve, v', Av, nv, cv, Y, ev, by rw [h4.1.cell]; rfl, hr, hc, hf, ⟨ht.to_below hb (Nat.le_refl _) (by omega), Nat.le_trans h1 ht.size, ht.blk h2 (by rintro (h | h) <;> cases h), ht.blk h2' (by rintro (h | h) <;> cases h), vl, v', o1, hv, fun g e e' => o2 g e' e⟩, ht⟩
end Go.Proofs.YtcgnbpjbpbabaaaGreatDoor
end
