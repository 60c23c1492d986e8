/- sorts without values; a sort that is there. types: base, named, takes, full. types: full. IndexFunc over numbers that are open. -/
import Derived.Test.YtcgnbpjbpbabaaaGreatDoorMg09
import Derived.Test.YtcgnbpjbpbabaaaGreatDoorMg05
import Derived.Test.YtcgnbpjbpbabaaaGreatDoorMg03
import Derived.Test.YtcgnbpjbpbabaaaGreatDoorMg06
import Derived.Shelf.Strings.SlTrimAscii
import Derived.Deep.QuietTactic
import Derived.BigQuiet
section
set_option linter.unusedVariables false
set_option linter.unusedSimpArgs false
set_option maxRecDepth 100000
set_option maxHeartbeats 1000000
namespace Go.Proofs.YtcgnbpjbpbabaaaGreatDoor
open Go.RowKit

theorem has_void (a b : Nat) (w : World) : Calls Tryz.prog 172 #[.agg #[], .int .u64 (a : Nat)] w fun e w' => e = .returned (.bool false) ∧ Below w.heap.size w w' := by
  go_enter Tryz.func172, Tryz.ntmps172
  go_wp2_with fail
  go_ret
  exact ⟨rfl, by first | exact Below.refl _ _ | exact (Below.refl _ _).alloc (Nat.le_refl _) _⟩
theorem dyn_void (w : World) : Dyn w 168 (.agg #[]) .none where
  has := ⟨172, ⟨fun F W => by kernel_rfl, fun _ _ => by kernel_rfl⟩, fun W a hW ha => has_void a 0 W⟩
/-- a sort's value that is there answers -/
theorem SrtAt.dyn {w : World} {v : Value} {S : Srt} (h : SrtAt w v S) (hT : Tabs w) : (S = .none ∧ v = .nilIface) ∨ ∃ T p, v = .iface T p ∧ Dyn w T p S := by
  cases S with
  | none => exact .inl ⟨rfl, h⟩
  | lat l => obtain ⟨h0, g, e, hg⟩ := h; exact .inr ⟨_, _, e, dyn_lat hg hT⟩
  | eff n => obtain ⟨g, e, hg⟩ := h; exact .inr ⟨_, _, e, dyn_eff hg⟩
theorem there_any (v : Value) (S : Srt) (w : World) (h : SrtAt w v S) (hT : Tabs w) :
    Calls Tryz.prog 74 #[v] w fun e w' => (∃ T p, e = .returned (.iface T p) ∧ Dyn w T p S) ∧ w' = w := by
  rcases h.dyn hT with ⟨rfl, rfl⟩ | ⟨T, p, rfl, hD⟩
  · go_enter Tryz.func74, Tryz.ntmps74
    go_wp2_with fail
    go_ret
    exact ⟨⟨_, _, rfl, dyn_void w⟩, rfl⟩
  · have HD := Lib.hid hD
    clear h hD
    go_enter Tryz.func74, Tryz.ntmps74
    go_wp2_with fail
    go_ret
    exact ⟨⟨_, _, rfl, HD.out⟩, rfl⟩
end Go.Proofs.YtcgnbpjbpbabaaaGreatDoor
end

section
set_option linter.unusedVariables false
set_option linter.unusedSimpArgs false
set_option maxRecDepth 100000
set_option maxHeartbeats 1000000
namespace Go.Proofs.YtcgnbpjbpbabaaaGreatDoor
open Go.RowKit

def boolB : ByteArray := ⟨#[98, 111, 111, 108]⟩
def intB : ByteArray := ⟨#[105, 110, 116]⟩
def textB : ByteArray := ⟨#[116, 101, 120, 116]⟩
def unitB : ByteArray := ⟨#[117, 110, 105, 116]⟩

theorem strs_base (w : World) : Strs (w.alloc (.cells #[.string ⟨#[98, 111, 111, 108]⟩, .string ⟨#[105, 110, 116]⟩, .string ⟨#[116, 101, 120, 116]⟩, .string ⟨#[117, 110, 105, 116]⟩] 9)) (some ⟨w.heap.size, 0, none⟩) 4 [boolB, intB, textB, unitB] := by
  refine ⟨rfl, by omega, ?_, fun _ => ⟨_, rfl, fun j hj => ?_⟩⟩
  · intro s hs
    simp [boolB, intB, textB, unitB] at hs
    rcases hs with rfl | rfl | rfl | rfl <;> simp [ByteArray.size]
  · have hb := Blk.new w 9 #[.string ⟨#[98, 111, 111, 108]⟩, .string ⟨#[105, 110, 116]⟩, .string ⟨#[116, 101, 120, 116]⟩, .string ⟨#[117, 110, 105, 116]⟩]
    rw [add_lit', Nat.zero_add, hb.cell]
    simp at hj
    match j, hj with
    | 0, _ => rfl
    | 1, _ => rfl
    | 2, _ => rfl
    | 3, _ => rfl
theorem inB_base (s : ByteArray) : inB [boolB, intB, textB, unitB] s = baseN s := by
  have e1 : boolB.toList = boolS := by rw [Lib.toList_data]; rfl
  have e2 : intB.toList = intS := by rw [Lib.toList_data]; rfl
  have e3 : textB.toList = textS := by rw [Lib.toList_data]; rfl
  have e4 : unitB.toList = unitS := by rw [Lib.toList_data]; rfl
  simp [inB, baseN, e1, e2, e3, e4, Bool.or_assoc]
theorem typesBase_any (s : ByteArray) (w : World) :
    Calls Tryz.prog 89 #[.string s] w fun e w' => e = .returned (.bool (baseN s)) ∧ Below w.heap.size w w' := by
  have c := contains_str _ 4 4 _ s _ (strs_base w)
  rw [inB_base] at c
  have C := Lib.hid c
  clear c
  go_enter Tryz.func89, Tryz.ntmps89
  go_wp2_with fail
  refine C.out.mono ?_
  rintro e w1 ⟨rfl, b1⟩
  go_wp2_with fail
  go_ret
  exact ⟨rfl, ((Below.refl _ w).alloc (Nat.le_refl _) _).trans (b1.mono (by simp))⟩

/-- what is open, in memory of the call's own: a variable in block a, its list, the innermost one last -/
def natsV (o : List Nat) : List Value := o.reverse.map fun (k : Nat) => Value.int .i64 (k : Int)
def Stk (n₀ : Nat) (w : World) (a : Nat) (o : List Nat) : Prop := ∃ v, Blk w a 141 #[v] ∧ n₀ ≤ a ∧ Row w n₀ 3 1 v o.length (natsV o)
theorem natsV_last (k : Nat) (o : List Nat) : (natsV (k :: o))[o.length]? = some (.int .i64 (k : Int)) := by
  simp [natsV]
theorem natsV_cons (k : Nat) (o : List Nat) : natsV (k :: o) = natsV o ++ [.int .i64 (k : Int)] := by simp [natsV]
theorem natsV_set (k m : Nat) (o : List Nat) : (natsV (k :: o)).set o.length (.int .i64 (m : Int)) = natsV (m :: o) := by
  simp [natsV, List.set_append]
theorem Row.shorter {w : World} {B : Nat} {e : TypeId} {A : Option Addr} {n c : Nat} {xs : List Value} {x : Value} (h : Row w B e 1 (.slice A (n + 1) c) (n + 1) (xs ++ [x])) : Row w B e 1 (.slice A n c) n xs := by
  have hl := h.1
  simp at hl
  refine ⟨by simp; omega, ?_⟩
  rcases h.2 with ⟨h0, _⟩ | ⟨g, cap, cur, hv, hb, hg, h1, h2, h3, h4⟩
  · cases h0
  · injection hv with e1 _ e2
    subst e1
    subst e2
    refine .inr ⟨g, c, cur, rfl, hb, hg, by omega, h2, h3, ?_⟩
    have := congrArg (List.take (n * 1)) h4
    rw [List.take_take, show min (n * 1) ((n + 1) * 1) = n * 1 by omega] at this
    rw [this, List.take_append_of_le_length (by omega), List.take_of_length_le (by omega)]

/-- the length of the slice that stands in a variable -/
def lenAt (w : World) (a : Nat) : Nat := match w.cell? ⟨a, 0, none⟩ with | some (.slice _ n _) => n | _ => 0
theorem lenAt_of {w : World} {a : Nat} {A : Option Addr} {n c : Nat} (h : w.cell? ⟨a, 0, none⟩ = some (.slice A n c)) : lenAt w a = n := by rw [lenAt, h]
theorem Row.form1 {w : World} {B : Nat} {e : TypeId} {v : Value} {n : Nat} {xs : List Value} (h : Row w B e 1 v n xs) : ∃ A c, v = .slice A n c ∧ n ≤ c := by
  obtain ⟨A, c, e, hn, _⟩ := h.reads
  exact ⟨A, c, e, hn⟩
theorem Blk.cell0 {w : World} {g : Nat} {t : TypeId} {v : Value} (h : Blk w g t #[v]) : w.cell? ⟨g, 0, none⟩ = some v := by rw [h.cell]; rfl

/-- nothing but blocks of numbers, and of lists of what is open, has turned -/
def Opens (w : World) (g : Nat) : Prop := (∃ cs, Blk w g 141 cs) ∨ ∃ cs, Blk w g 3 cs
def ChgT (w w' : World) : Prop := Chg (Opens w) w w'
theorem ChgT.trans {w w1 w2 : World} (h : ChgT w w1) (k : ChgT w1 w2) : ChgT w w2 :=
  ⟨k.os.trans h.os, k.tape.trans h.tape, k.output.trans h.output, Nat.le_trans h.size k.size, fun i hi hs => by
    have h1 := h.block i hi hs
    refine (k.block i (Nat.lt_of_lt_of_le hi h.size) (fun hs' => hs ?_)).trans h1
    rcases hs' with ⟨cs, hb⟩ | ⟨cs, hb⟩
    · exact .inl ⟨cs, h1.symm.trans hb⟩
    · exact .inr ⟨cs, h1.symm.trans hb⟩⟩
theorem ChgT.below {w w' : World} (h : Below w.heap.size w w') : ChgT w w' := Chg.of_below _ h
theorem ChgT.grown {w w' : World} {n₀ n : Nat} {v : Value} {xs : List Value} (hR : Row w n₀ 3 1 v n xs) (hg : w.grownBy w' v.ownBlock) : ChgT w w' :=
  Chg.of_grown hg (fun k hk => by
    rcases hR.2 with ⟨rfl, _⟩ | ⟨g, cap, cur, rfl, _, hb, _⟩
    · simp [Value.ownBlock] at hk
    · have : g = k := by simpa [Value.ownBlock] using hk
      subst this
      exact .inr ⟨_, hb⟩)
theorem ChgT.setOpen {w : World} {a : Nat} {cs : Array Value} (hB : Blk w a 141 cs) (u : Value) : ChgT w (w.setCell ⟨a, 0, none⟩ u) := Chg.setCell (p := ⟨a, 0, none⟩) (.inl ⟨cs, hB⟩) w u
theorem ChgT.setInt {w : World} {n₀ n c g j : Nat} {xs : List Value} (hR : Row w n₀ 3 1 (.slice (some ⟨g, 0, none⟩) n c) n xs) (u : Value) : ChgT w (w.setCell ⟨g, j, none⟩ u) := Chg.setCell (p := ⟨g, j, none⟩) (by
  rcases hR.2 with ⟨h0, _⟩ | ⟨g', cap, cur, hv, _, hb, _⟩
  · cases h0
  · injection hv with e1
    injection e1 with e1
    injection e1 with e1
    subst e1
    exact .inr ⟨_, hb⟩) w u
theorem int_info : (Tryz.prog.info? 3).map (fun i => (i.zero, i.size, i.bytes)) = some (some (.int .i64 0), 1, 8) := by kernel_rfl
theorem more_any (n₀ a b : Nat) (o : List Nat) (k : Nat) (w : World) (hS : Stk n₀ w a o) (hn : n₀ ≤ w.heap.size) (ho : o.length ≤ 1000) (hk : w.cell? ⟨b, 0, none⟩ = some (.int .i64 (k : Int))) :
    Calls Tryz.prog 88 #[.pointer (some ⟨a, 0, none⟩), .slice (some ⟨b, 0, none⟩) 1 1] w fun e w' => (∃ u, e = .returned u) ∧ Stk n₀ w' a (k :: o) ∧ Below n₀ w w' ∧ ChgT w w' := by
  obtain ⟨v, hB, hna, hR⟩ := hS
  have hc0 := hB.cell0
  have hf0 := hB.frozen 0
  obtain ⟨i0, hi0, hz0, hz1, hz2⟩ := info_parts int_info
  have Hz0 := Lib.hid hz0
  have Hz1 := Lib.hid hz1
  have Hz2 := Lib.hid hz2
  have Hi0 := Lib.hid hi0
  clear hz0 hz1 hz2 hi0
  go_enter Tryz.func88, Tryz.ntmps88
  go_wp2_with (
    refine wpList_append_row2 _ rfl (.tmp 7) (.tmp 8) 141 140 rfl n₀ 3 i0 (.int .i64 0) 1 8 Tryz.underlying141 3 Tryz.underlying140 Hi0.out Hz0.out Hz1.out Hz2.out rfl (by omega) v o.length (natsV o) ?_ hR ⟨b, 0, none⟩ 1 1 [.int .i64 (k : Int)] ?_ rfl ?_ ?_ ?_ ?_ ?_ ?_
    · simp [Act.eval, Act.put]
    · simp [Act.eval, Act.put]
    · intro j u hu; cases j with | zero => (simp at hu; subst hu; exact hk) | succ j => simp at hu
    · simp [Value.oneCell']
    · simp only [maxLen]; omega
    · omega
    · exact hn
    intro v3 w3 hO3 hg3 hat3
    have hne := hR.ne_blk hB (by decide)
    have hB3 := hB.grown hg3 (Ne.symm hne)
    have hc3 := hB3.cell0
    have hf3 := hB3.frozen 0
    have ct3 : ChgT w w3 := ChgT.grown hR hg3
    have bw3 : Below n₀ w w3 := (Below.refl _ w).grown hg3 hn (fun k hk => (hR.lt hk).1)
    rw [← natsV_cons] at hO3
    obtain ⟨A3, c3, hv3, _⟩ := hO3.form1
    rw [hv3] at hO3 ⊢)
  go_end0
  refine ⟨⟨_, rfl⟩, ⟨_, hB3.set_ 0 _, hna, ?_⟩, bw3.setCell hna _, ct3.trans (ChgT.setOpen hB3 _)⟩
  exact hO3.chg (S := fun g => g = a) (Chg.setCell (S := fun g => g = a) (p := ⟨a, 0, none⟩) rfl w3 _) (fun g hg e => by subst e; exact hO3.ne_blk hB3 (by decide) hg)
theorem cell_new_at (w : World) (v : Value) (t : TypeId) {b : Nat} (hb : b = w.heap.size) : (w.alloc (.cells #[v] t)).cell? ⟨b, 0, none⟩ = some v := by subst hb; rw [World.cell?_alloc_mark]; rfl
theorem Stk.cut {n₀ a g m c nq : Nat} {r : List Nat} {w : World} (hB : Blk w a 141 #[.slice (some ⟨g, 0, none⟩) (r.length + 1) c]) (hna : n₀ ≤ a) (hR : Row w n₀ 3 1 (.slice (some ⟨g, 0, none⟩) (r.length + 1) c) (r.length + 1) (natsV (m :: r))) (hne : g ≠ a) :
    Stk n₀ ((w.drewN nq).setCell ⟨a, 0, none⟩ (.slice (some ⟨g, 0, none⟩) r.length c)) a r := by
  rw [natsV_cons] at hR
  have h1 := (hR.shorter).chg (Chg.of_below (fun _ => False) (below_drewN (Below.refl _ _) nq)) (fun _ _ h => h)
  refine ⟨_, (hB.drewN nq).set_ 0 _, hna, h1.chg (S := fun k => k = a) (Chg.setCell (S := fun k => k = a) (p := ⟨a, 0, none⟩) rfl _ _) (fun k hk e => ?_)⟩
  have : k = g := by simpa [Value.ownBlock] using hk.symm
  exact hne (by rw [← this, e])
theorem Stk.dec {n₀ a g m k c nq : Nat} {r : List Nat} {w : World} (hB : Blk w a 141 #[.slice (some ⟨g, 0, none⟩) (r.length + 1) c]) (hna : n₀ ≤ a) (hR : Row w n₀ 3 1 (.slice (some ⟨g, 0, none⟩) (r.length + 1) c) (r.length + 1) (natsV (m :: r))) (hne : g ≠ a) :
    Stk n₀ ((w.drewN nq).setCell ⟨g, r.length, none⟩ (.int .i64 (k : Int))) a (k :: r) := by
  have h1 := hR.chg (Chg.of_below (fun _ => False) (below_drewN (Below.refl _ _) nq)) (fun _ _ h => h)
  have h2 := h1.set_ (k := r.length) (by omega) (.int .i64 (k : Int))
  rw [natsV_set] at h2
  exact ⟨_, (hB.drewN nq).far (p := ⟨g, r.length, none⟩) (Ne.symm hne) _, hna, h2⟩
theorem Stk.alloc {n₀ a : Nat} {o : List Nat} {w : World} (h : Stk n₀ w a o) (x : Obj) : Stk n₀ (w.alloc x) a o := by
  obtain ⟨v, h1, h2, h3⟩ := h
  exact ⟨v, h1.alloc x, h2, h3.chg (S := fun _ => False) (Chg.alloc _ _ _) (fun _ _ h => h)⟩
theorem Stk.drewN {n₀ a : Nat} {o : List Nat} {w : World} (h : Stk n₀ w a o) (n : Nat) : Stk n₀ (w.drewN n) a o := h

theorem takes_any (n₀ a : Nat) (o : List Nat) (k : Nat) (w : World) (hS : Stk n₀ w a o) (hn : n₀ ≤ w.heap.size) (hk : k < 9223372036854775808) (ho : o.length ≤ 1000) (hle : ∀ x ∈ o, x ≤ 8) :
    Calls Tryz.prog 71 #[.pointer (some ⟨a, 0, none⟩), .int .i64 k] w fun e w' => e = .returned (.int .i64 ((takesO o k).2 : Nat)) ∧ Stk n₀ w' a (takesO o k).1 ∧ Below n₀ w w' ∧ ChgT w w' := by
  go_enter Tryz.func71, Tryz.ntmps71
  go_wp2_with fail
  go_loopw [] (fun w' => ∃ o', dropZ o' = dropZ o ∧ o'.length ≤ o.length ∧ Stk n₀ w' a o' ∧ Below n₀ w w' ∧ ChgT w w' ∧ ∃ x, x ++ o' = o) (fun w' => lenAt w' a)
  case atStart => exact ⟨o, rfl, Nat.le_refl _, hS, Below.refl _ _, ChgT.below (Below.refl _ _), [], rfl⟩
  case round =>
    obtain ⟨o', hd, hlen, ⟨v, hB, hna, hR⟩, hbw, hct, x, hx⟩ := hrel
    have Hd := Lib.hid hd
    have Hx := Lib.hid hx
    clear hd hx
    cases o' with
    | nil =>
      obtain ⟨A, c, rfl, hc⟩ := hR.form1
      have hc0 := hB.cell0
      simp only [List.length_nil] at hc0 hc
      have htk : takesO o k = ([], 0) := by rw [takesO, ← Hd.out]; rfl
      have Htk := Lib.hid htk
      clear htk
      go_wp2_with fail
      go_quiet (fail)
      go_wp2_with fail
      go_ret
      rw [Htk.out]
      exact ⟨rfl, ⟨_, hB.drewN nq, hna, hR.chg (Chg.of_below (fun _ => False) (below_drewN (Below.refl _ _) nq)) (fun _ _ h => h)⟩, below_drewN hbw nq, hct.trans (ChgT.below (below_drewN (Below.refl _ _) nq))⟩
    | cons m r =>
      obtain ⟨A, c, rfl, hc⟩ := hR.form1
      have hc0 := hB.cell0
      have hf0 := hB.frozen 0
      have hlast := natsV_last m r
      obtain ⟨g, cap, hv, hnc, hcell, hfr⟩ := hR.cellAt hlast
      injection hv with e1 e2 e3
      subst e1
      subst e3
      simp only [List.length_cons] at hc0 hc hlen hR hnc
      have Hlast := Lib.hid hlast
      have hgne : g ≠ a := fun e => hR.ne_blk hB (by decide) (by rw [e]; rfl)
      have hxle : m ≤ 8 := hle m (by rw [← Hx.out]; simp)
      have HB := Lib.hid hB
      have HR := Lib.hid hR
      clear hlast hB hR hle
      have j0 : (0 : Int) < (r.length : Int) + 1 := by omega
      have j1 : (r.length : Int) + 1 ≤ 1000 := by omega
      have j2 : (0 : Int) ≤ (r.length : Int) := by omega
      have hwn : IntKind.i64.wrap ((r.length : Int) + 1 - 1) = (r.length : Int) := by rw [show ((r.length : Int) + 1 - 1) = (r.length : Int) by omega]; exact IntWalk.i64_in _ (by omega)
      cases m with
      | zero =>
        go_wp2_with fail
        go_quiet (fail)
        go_wp2_with fail
        go_region
        go_wp2_with fail
        have hs := Stk.cut (nq := nq + 1) HB.out hna HR.out hgne
        obtain ⟨v', hB', _, hR'⟩ := hs
        refine ⟨⟨r, by rw [← Hd.out]; rfl, by omega, Stk.cut HB.out hna HR.out hgne, (below_drewN hbw (nq + 1)).setCell hna _, (hct.trans (ChgT.below (below_drewN (Below.refl _ _) (nq + 1)))).trans (ChgT.setOpen (HB.out.drewN (nq + 1)) _), x ++ [0], by rw [List.append_assoc]; exact Hx.out⟩, ?_⟩
        rw [lenAt_of hc0, lenAt_of (A := some ⟨g, 0, none⟩) (n := r.length) (c := c) (((HB.out.drewN (nq + 1)).set_ 0 _).cell0)]
        omega
      | succ m =>
        have z : (((m + 1 : Nat) : Int) == 0) = false := by rw [beq_eq_false_iff_ne]; omega
        have z' : (((m : Int) + 1) == 0) = false := by rw [beq_eq_false_iff_ne]; omega
        go_wp2_with fail
        go_quiet (fail)
        have hs : Stk n₀ (((wr.drewN nq).setCell ⟨g, r.length, none⟩ (.int .i64 (m : Int))).alloc (.cells #[.int .i64 (k : Int)] 3)) a (m :: r) := (Stk.dec HB.out hna HR.out hgne).alloc _
        have hbs : Below n₀ w (((wr.drewN nq).setCell ⟨g, r.length, none⟩ (.int .i64 (m : Int))).alloc (.cells #[.int .i64 (k : Int)] 3)) := ((below_drewN hbw nq).setCell (p := ⟨g, r.length, none⟩) (HR.out.lt rfl).1 _).alloc (by simp; have := hbw.size; omega) _
        have hsz := hbw.size
        have cM := more_any n₀ a wr.heap.size (m :: r) k (((wr.drewN nq).setCell ⟨g, r.length, none⟩ (.int .i64 (m : Int))).alloc (.cells #[.int .i64 (k : Int)] 3)) hs (by simp; omega) (by simp; omega) (cell_new_at _ _ _ (by simp))
        have htk : takesO o k = (k :: m :: r, r.length + 1) := by
          rw [takesO, ← Hd.out]
          rfl
        have Htk := Lib.hid htk
        have hcts : ChgT w (((wr.drewN nq).setCell ⟨g, r.length, none⟩ (.int .i64 (m : Int))).alloc (.cells #[.int .i64 (k : Int)] 3)) := ((hct.trans (ChgT.below (below_drewN (Below.refl _ _) nq))).trans (ChgT.setInt (w := wr.drewN nq) HR.out _)).trans (ChgT.below ((Below.refl _ _).alloc (Nat.le_refl _) _))
        have HCt := Lib.hid hcts
        have CM := Lib.hid cM
        clear cM htk hs hcts
        go_wp2_with fail
        refine CM.out.mono ?_
        rintro e w2 ⟨⟨u, rfl⟩, hS2, hb2, hct2⟩
        go_wp2_with fail
        go_ret
        rw [Htk.out]
        exact ⟨ret_int (by simp), hS2, hbs.trans hb2, HCt.out.trans hct2⟩
end Go.Proofs.YtcgnbpjbpbabaaaGreatDoor
end

section
set_option linter.unusedVariables false
set_option linter.unusedSimpArgs false
set_option maxRecDepth 100000
set_option maxHeartbeats 1000000
namespace Go.Proofs.YtcgnbpjbpbabaaaGreatDoor
open Go.RowKit

def rNat (w : World) (cs : List Value) (n : Nat) : Prop := cs = [.int .i64 (n : Nat)] ∧ n < 9223372036854775808
theorem rNat_keeps : Keeps rNat := fun _ _ _ _ _ h => h

theorem indexFunc_int (A : Option Addr) (n c : Nat) (l : List Nat) (fid : FuncId) (caps : Array Value) (p : Nat → Bool) (w : World) (h : Sl rNat 1 w A n l) (hE : ∀ args W, (callFunc fid args).run Tryz.prog W = .ok (.enter fid args) W)
    (hF : ∀ W t, t ∈ l → t < 9223372036854775808 → Below w.heap.size w W → Calls Tryz.prog fid (#[.int .i64 (t : Nat)] ++ caps) W fun e W' => e = .returned (.bool (p t)) ∧ Below W.heap.size W W') :
    Calls Tryz.prog 106 #[.slice A n c, .func (.func fid) #[] caps] w fun e w' => e = .returned (.int .i64 (idxI l p)) ∧ Below w.heap.size w w' := by
  have hn := h.2.1
  have hl := h.1
  go_enter Tryz.func106, Tryz.ntmps106
  go_wp2
  go_loopw [8] (fun v w' => ∃ k : Nat, v = .int .i64 k ∧ k ≤ n ∧ Below w.heap.size w w' ∧ (∀ (i : Nat) (y : Nat), l[i]? = some y → i < k → p y = false)) (fun v _ => n - (intOf v).toNat)
  case atStart => exact ⟨0, rfl, by omega, Below.refl _ _, fun _ _ _ _ => by omega⟩
  case round =>
    obtain ⟨k, rfl, hk, hbw, hs⟩ := hrel
    have Hs := Lib.hid hs
    have Hl := Lib.hid hl
    clear hs hl
    have hS := h.below rNat_keeps hbw
    by_cases hlt : k < n
    · obtain ⟨b0, o0, t, cs, rfl, htk, hR0, _, hc0⟩ := hS.at_ hlt (by omega)
      obtain ⟨rfl, hok⟩ := hR0
      have c0 := hc0 0 _ rfl
      simp only [Nat.mul_one, Nat.add_zero] at c0
      have hF1 := hF wr t (List.mem_of_getElem? htk) hok hbw
      have Htk := Lib.hid htk
      clear htk hF hc0
      have i2 : (k : Int) < (n : Int) := by omega
      cases hp : p t <;> rw [hp] at hF1
      · have HF := Lib.hid hF1
        clear hF1
        go_wp2_with fail
        refine HF.out.mono ?_
        rintro e w1 ⟨rfl, b1⟩
        go_wp2
        refine ⟨⟨k + 1, by go_num, by omega, hbw.trans (b1.mono hbw.size), fun i y hi hik => ?_⟩, by simp [intOf]; omega⟩
        by_cases hik' : i < k
        · exact Hs.out i y hi hik'
        · obtain rfl : i = k := by omega
          rw [Htk.out] at hi
          cases hi
          exact hp
      · have HF := Lib.hid hF1
        clear hF1
        go_wp2_with fail
        refine HF.out.mono ?_
        rintro e w1 ⟨rfl, b1⟩
        go_wp2
        go_ret
        refine ⟨?_, hbw.trans (b1.mono hbw.size)⟩
        rw [idxI_at Htk.out hp Hs.out]
        rfl
    · go_wp2
      go_ret
      refine ⟨?_, hbw⟩
      rw [idxI_none (fun i y hi => Hs.out i y hi (by have := (List.getElem?_eq_some_iff.1 hi).1; have := Hl.out; omega))]
      rfl
theorem containsFunc_int (A : Option Addr) (n c : Nat) (l : List Nat) (fid : FuncId) (caps : Array Value) (p : Nat → Bool) (w : World) (h : Sl rNat 1 w A n l) (hE : ∀ args W, (callFunc fid args).run Tryz.prog W = .ok (.enter fid args) W)
    (hF : ∀ W t, t ∈ l → t < 9223372036854775808 → Below w.heap.size w W → Calls Tryz.prog fid (#[.int .i64 (t : Nat)] ++ caps) W fun e W' => e = .returned (.bool (p t)) ∧ Below W.heap.size W W') :
    Calls Tryz.prog 91 #[.slice A n c, .func (.func fid) #[] caps] w fun e w' => e = .returned (.bool (l.any p)) ∧ Below w.heap.size w w' := by
  have cI := indexFunc_int A n c l fid caps p w h hE hF
  have hg := idxI_ge l p
  have CI := Lib.hid cI
  have Hg := Lib.hid hg
  clear cI hg hF hE
  go_enter Tryz.func91, Tryz.ntmps91
  go_wp2_with fail
  refine CI.out.mono ?_
  rintro e w1 ⟨rfl, b1⟩
  go_wp2
  go_ret
  exact ⟨ret_bool Hg.out, b1⟩
theorem full1_any (k : Nat) (w : World) : Calls Tryz.prog 92 #[.int .i64 (k : Nat)] w fun e w' => e = .returned (.bool (decide (0 < k))) ∧ Below w.heap.size w w' := by
  go_enter Tryz.func92, Tryz.ntmps92
  go_wp2_with fail
  go_ret
  exact ⟨ret_bool (by simp), Below.refl _ _⟩
theorem enters_full1 : ∀ args W, (callFunc 92 args).run Tryz.prog W = .ok (.enter 92 args) W := fun _ _ => by kernel_rfl
theorem Stk.reads {n₀ a : Nat} {o : List Nat} {w : World} (h : Stk n₀ w a o) (ho : o.length ≤ 1000) (hle : ∀ x ∈ o, x ≤ 8) : ∃ A c, w.cell? ⟨a, 0, none⟩ = some (.slice A o.length c) ∧ Sl rNat 1 w A o.length o.reverse := by
  obtain ⟨v, hB, _, hR⟩ := h
  obtain ⟨A, c, rfl, _, _, hr⟩ := hR.reads
  refine ⟨A, c, hB.cell0, by simp, by omega, fun hn => ?_⟩
  obtain ⟨ad, e, _, hc⟩ := hr.2 hn
  refine ⟨ad, e, fun j x hx => ⟨[.int .i64 (x : Nat)], ⟨rfl, ?_⟩, rfl, fun k u hu => ?_⟩⟩
  · have := hle x (by have := List.mem_of_getElem? hx; simpa using this)
    omega
  · cases k with
    | succ k => simp at hu
    | zero =>
      simp at hu
      subst hu
      rw [Nat.mul_one, Nat.add_zero]
      exact hc j _ (by rw [natsV, List.getElem?_map, hx]; rfl)
theorem full_any (A : Option Addr) (n c : Nat) (o : List Nat) (w : World) (h : Sl rNat 1 w A n o.reverse) :
    Calls Tryz.prog 73 #[.slice A n c] w fun e w' => e = .returned (.bool (fullO o)) ∧ Below w.heap.size w w' := by
  have cC := containsFunc_int A n c o.reverse 92 #[] (fun k => decide (0 < k)) w h enters_full1 (fun W t _ _ _ => full1_any t W)
  have he : (!(o.reverse.any fun k => decide (0 < k))) = fullO o := by rw [fullO, List.any_reverse]
  rw [← he]
  obtain ⟨q, hq⟩ : ∃ q, (o.reverse.any fun k => decide (0 < k)) = q := ⟨_, rfl⟩
  rw [hq] at cC ⊢
  have C := Lib.hid cC
  clear cC he hq
  go_enter Tryz.func73, Tryz.ntmps73
  go_wp2_with fail
  refine C.out.mono ?_
  rintro e w1 ⟨rfl, b1⟩
  go_wp2_with fail
  go_ret
  exact ⟨rfl, b1⟩
end Go.Proofs.YtcgnbpjbpbabaaaGreatDoor
end
