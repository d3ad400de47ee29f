/- What is asked of kids: the program's function values. Conditions: none. -/
import Derived.Test.YtkpejdkffkhekaaGreatDoorPgC
import Derived.Test.YtkpejdkffkhekaaGreatDoorPgT
import Derived.Deep.LoopGhost
set_option maxRecDepth 100000
namespace Go.Proofs.YtkpejdkffkhekaaGreatDoor
open Go.ChangeShapes Go.WideShapes Go.ChangeAt Go.RowKit
/-- A function value that stands for what is wanted. -/
def FVal (w : World) (M : Nat → Prop) (u : Value) : FV → Prop
  | .only k => ∃ b, u = .func (.func 72) #[] #[.pointer (some ⟨b, 0, none⟩)] ∧ M b ∧ w.cell? ⟨b, 0, none⟩ = some (.int .i64 k)
  | .expr => u = .func (.func 53) #[] #[]
  | .orNone => u = .func (.func 58) #[] #[]
  | .stated => u = .func (.func 56) #[] #[]
  | .blIf => u = .func (.func 57) #[] #[]
def FV.sh : Shp FV where
  size := 1
  rd w M cs x := ∃ u, cs = [u] ∧ FVal w M u x
  len := by rintro w M cs x ⟨u, rfl, _⟩; rfl
  one := by
    rintro w M cs x ⟨u, rfl, h⟩ v hv
    simp at hv
    subst hv
    cases x with
    | only k => obtain ⟨b, rfl, _⟩ := h; rfl
    | expr => subst h; rfl
    | orNone => subst h; rfl
    | stated => subst h; rfl
    | blIf => subst h; rfl
  keep := by
    rintro w w' M cs x ⟨u, rfl, h⟩ hk
    refine ⟨u, rfl, ?_⟩
    cases x with
    | only k => obtain ⟨b, rfl, hb, hc⟩ := h; exact ⟨b, rfl, hb, (hk _ hb).trans hc⟩
    | expr => exact h
    | orNone => exact h
    | stated => exact h
    | blIf => exact h
  more := by
    rintro w M M' cs x ⟨u, rfl, h⟩ hM
    refine ⟨u, rfl, ?_⟩
    cases x with
    | only k => obtain ⟨b, rfl, hb, hc⟩ := h; exact ⟨b, rfl, hM b hb, hc⟩
    | expr => exact h
    | orNone => exact h
    | stated => exact h
    | blIf => exact h
theorem info_fv : (Tryz.prog.info? 51).map (fun i => (i.zero, i.size, i.bytes)) = some (some .nilFunc, 1, 8) := by kernel_rfl
theorem expression_any (k : Int) (w : World) : Calls Tryz.prog 54 #[.int .i64 k] w fun e w' => e = .returned (.bool (isE k)) ∧ w' = w := by
  go_enter Tryz.func54, Tryz.ntmps54
  have e : isE k = (decide (21 ≤ k) && decide (k ≤ 33) && decide (k ≠ 31)) := by unfold isE; rw [Bool.eq_iff_iff]; simp [and_assoc]
  rw [e]
  clear e
  by_cases h1 : 21 ≤ k <;> by_cases h2 : k ≤ 33 <;> by_cases h3 : k = 31
  all_goals (
    go_wp2_with fail
    go_returns
    first | exact ⟨by simp [*], rfl⟩ | trace_state)
theorem only_any (k : Int) (w : World) : Calls Tryz.prog 55 #[.int .i64 k] w fun e w' => e = .returned (.func (.func 72) #[] #[.pointer (some ⟨w.heap.size, 0, none⟩)]) ∧ w' = w.alloc (.cells #[.int .i64 k] 3) := by
  have hmf : ∀ (fn : Fn) (first cap : Array Value) (w : World), (Instr.makeFunc fn first cap).run Tryz.prog w = .ok (.func fn first cap) w := fun _ _ _ _ => rfl
  go_enter Tryz.func55, Tryz.ntmps55
  go_wp2_with fail
  go_returns
  exact ⟨rfl, rfl⟩
theorem only1_any (x k : Int) (b : Nat) (w : World) (hc : w.cell? ⟨b, 0, none⟩ = some (.int .i64 k)) : Calls Tryz.prog 72 #[.int .i64 x, .pointer (some ⟨b, 0, none⟩)] w fun e w' => e = .returned (.bool (fvP (.only k) x)) ∧ w' = w := by
  go_enter Tryz.func72, Tryz.ntmps72
  go_wp2_with fail
  go_returns
  exact ⟨by congr 2, rfl⟩
theorem wants2_any (x : Int) (w : World) : Calls Tryz.prog 53 #[.int .i64 x] w fun e w' => e = .returned (.bool (fvP .expr x)) ∧ w' = w := by
  go_enter Tryz.func53, Tryz.ntmps53
  go_wp2_with fail
  refine Calls.mono (expression_any x w) ?_
  rintro e w' ⟨rfl, rfl⟩
  go_wp2_with fail
  go_returns
  exact ⟨rfl, rfl⟩
theorem orNone_any (x : Int) (w : World) : Calls Tryz.prog 58 #[.int .i64 x] w fun e w' => e = .returned (.bool (fvP .orNone x)) ∧ w' = w := by
  go_enter Tryz.func58, Tryz.ntmps58
  have e : fvP .orNone x = (isE x || decide (x = 31)) := rfl
  rw [e]
  generalize hb : isE x = b
  have hq := expression_any x w
  rw [hb] at hq
  clear hb e
  go_wp2_with fail
  refine Calls.mono hq ?_
  rintro e w' ⟨rfl, rfl⟩
  cases b <;> by_cases h3 : x = 31
  all_goals (
    go_wp2_with fail
    go_returns
    first | exact ⟨by simp [*], rfl⟩ | trace_state)
theorem stated_any (x : Int) (w : World) : Calls Tryz.prog 56 #[.int .i64 x] w fun e w' => e = .returned (.bool (fvP .stated x)) ∧ w' = w := by
  go_enter Tryz.func56, Tryz.ntmps56
  have e : fvP .stated x = (decide (5 ≤ x) && decide (x ≤ 15)) := by unfold fvP; rw [Bool.eq_iff_iff]; simp
  rw [e]
  clear e
  by_cases h1 : 5 ≤ x <;> by_cases h2 : x ≤ 15
  all_goals (
    go_wp2_with fail
    go_returns
    first | exact ⟨by simp [*], rfl⟩ | trace_state)
theorem wants3_any (x : Int) (w : World) : Calls Tryz.prog 57 #[.int .i64 x] w fun e w' => e = .returned (.bool (fvP .blIf x)) ∧ w' = w := by
  go_enter Tryz.func57, Tryz.ntmps57
  have e : fvP .blIf x = (decide (x = 5) || decide (x = 10)) := by unfold fvP; rw [Bool.eq_iff_iff]; simp
  rw [e]
  clear e
  by_cases h1 : x = 5 <;> by_cases h2 : x = 10
  all_goals (
    go_wp2_with fail
    go_returns
    first | exact ⟨by simp [*], rfl⟩ | trace_state)
/-- Below 'base' all is as it was, but for the block g. -/
structure Kx (base g : Nat) (w w' : World) : Prop where
  os : w'.os = w.os
  tape : w'.tape = w.tape
  output : w'.output = w.output
  size : w.heap.size ≤ w'.heap.size
  block : ∀ k, k < base → k ≠ g → w'.heap[k]? = w.heap[k]?
theorem Kx.refl (base g : Nat) (w : World) : Kx base g w w := ⟨rfl, rfl, rfl, Nat.le_refl _, fun _ _ _ => rfl⟩
theorem Kx.trans {base g : Nat} {a b c : World} (h : Kx base g a b) (k : Kx base g b c) : Kx base g a c :=
  ⟨k.os.trans h.os, k.tape.trans h.tape, k.output.trans h.output, Nat.le_trans h.size k.size, fun i hi h1 => (k.block i hi h1).trans (h.block i hi h1)⟩
theorem Kx.below {base g : Nat} {a b : World} (h : Below base a b) : Kx base g a b := ⟨h.os, h.tape, h.output, h.size, fun k hk _ => h.block k hk⟩
theorem Kx.set {base g : Nat} {a b : World} (h : Kx base g a b) (v : Value) (i : Nat) : Kx base g a (b.setCell ⟨g, i, none⟩ v) :=
  h.trans ⟨rfl, rfl, rfl, by simp, fun k _ hk => Below.heap_setCell _ _ _ _ (by show k ≠ g; exact hk)⟩
theorem Kx.grown {base g : Nat} {a b c : World} {row : Option Nat} (h : Kx base g a b) (hg : b.grownBy c row) (hB : base ≤ b.heap.size) (hr : ∀ k, row = some k → base ≤ k) : Kx base g a c :=
  h.trans ⟨hg.os, hg.tape, hg.output, hg.size, fun k hk _ => hg.block k (by omega) (fun e => by have := hr k e.symm; omega)⟩
theorem Kx.down {base base' g : Nat} {a b : World} (h : Kx base g a b) (hb : base' ≤ base) : Kx base' g a b := ⟨h.os, h.tape, h.output, h.size, fun k hk hg => h.block k (by omega) hg⟩
theorem FVal.to {w w' : World} {M M' : Nat → Prop} {u : Value} {x : FV} (h : FVal w M u x) (hk : ∀ b, M b → M' b ∧ w'.heap[b]? = w.heap[b]?) : FVal w' M' u x := by
  cases x with
  | only k => obtain ⟨b, rfl, hb, hc⟩ := h; exact ⟨b, rfl, (hk b hb).1, (World.cell?_of_block (hk b hb).2).trans hc⟩
  | expr => exact h
  | orNone => exact h
  | stated => exact h
  | blIf => exact h
theorem FVal.form {w : World} {M : Nat → Prop} {u : Value} {x : FV} (h : FVal w M u x) : ∃ f a b, u = .func f a b := by
  cases x with
  | only k => obtain ⟨b, rfl, _⟩ := h; exact ⟨_, _, _, rfl⟩
  | expr => exact ⟨_, _, _, h⟩
  | orNone => exact ⟨_, _, _, h⟩
  | stated => exact ⟨_, _, _, h⟩
  | blIf => exact ⟨_, _, _, h⟩
/-- The variable of a list of function values (block g): the values' boxes at E0 or behind, the row at 'base' or behind. -/
structure Wl (E0 base g : Nat) (v : Value) (T : List FV) (w : World) : Prop where
  ce : w.cell? ⟨g, 0, none⟩ = some v
  ow : Own FV.sh 51 w base (· < E0) v T
  fr : w.frozen? ⟨g, 0, none⟩ = false
  lt : g < E0
  el : E0 ≤ base
  le : base ≤ w.heap.size
theorem Wl.far {E0 base g : Nat} {v : Value} {T : List FV} {wr W w5 : World} (h : Wl E0 base g v T wr) (hb : Below wr.heap.size wr W) (hg : W.grownBy w5 v.ownBlock) : w5.cell? ⟨g, 0, none⟩ = some v ∧ w5.frozen? ⟨g, 0, none⟩ = false := by
  have hlt : g < wr.heap.size := Nat.lt_of_lt_of_le h.lt (Nat.le_trans h.el h.le)
  have hne : some g ≠ v.ownBlock := fun e => by have := (h.ow.ownlt e.symm).1; have := h.lt; have := h.el; omega
  exact ⟨(hg.cell_far ⟨g, 0, none⟩ (Nat.lt_of_lt_of_le hlt hb.size) hne).trans ((hb.cell (p := ⟨g, 0, none⟩) hlt).trans h.ce), (hg.frozen_far ⟨g, 0, none⟩ (Nat.lt_of_lt_of_le hlt hb.size) hne).trans ((hb.frozen (p := ⟨g, 0, none⟩) hlt).trans h.fr)⟩
theorem Wl.next {E0 base g : Nat} {v v5 : Value} {T T5 : List FV} {wr W w5 : World} (h : Wl E0 base g v T wr) (hb : Below wr.heap.size wr W) (hg : W.grownBy w5 v.ownBlock) (ho : Own FV.sh 51 w5 base (· < E0) v5 T5) : Wl E0 base g v5 T5 (w5.setCell ⟨g, 0, none⟩ v5) ∧ Kx base g wr (w5.setCell ⟨g, 0, none⟩ v5) := by
  obtain ⟨q1, q2⟩ := h.far hb hg
  have l1 := h.lt
  have l2 := h.el
  have l3 := h.le
  have l4 := hb.size
  have l5 := hg.size
  refine ⟨⟨World.cell?_setCell_same _ _ _ q1, ho.keep (by simp) (fun k _ hk => Below.heap_setCell _ _ _ _ (by show k ≠ g; omega)) (fun k hk hE => by have := (ho.ownlt hk).1; omega), by simpa using q2, l1, l2, by simp; omega⟩, ?_⟩
  exact ((Kx.below (hb.mono l3)).grown hg (by omega) (fun k hk => (h.ow.ownlt hk).1)).set _ _
set_option maxHeartbeats 4000000 in
theorem all_any {E0 base g nb : Nat} {v : Value} {T : List FV} {w : World} {u : Value} {fv : FV} {A : Option Addr} {n c : Nat} (h : Wl E0 base g v T w) (hu : FVal w (fun b => E0 ≤ b ∧ b < base) u fv) (hnb : nb < E0) (hng : nb ≠ g) (hn : w.cell? ⟨nb, 4, none⟩ = some (.slice A n c)) (hnn : n * 8 ≤ 140737488351232) :
    Calls Tryz.prog 52 #[u, .int .i64 0, .pointer (some ⟨g, 0, none⟩), .pointer (some ⟨nb, 0, none⟩)] w fun e w' => e = .returned (.tuple #[]) ∧ (∃ v', Wl E0 base g v' (T ++ List.replicate (n - T.length) fv) w') ∧ Kx E0 g w w' := by
  obtain ⟨j0, hj, jz0, jz1, jz2⟩ := info_parts info_fv
  obtain ⟨fn, fi, ca, rfl⟩ := hu.form
  have HW := Lib.hid h
  have HU := Lib.hid hu
  have l1 := h.lt
  have l2 := h.el
  have l3 := h.le
  clear h hu
  go_enter Tryz.func52, Tryz.ntmps52
  go_wp2_with fail
  go_loopg [] (n - T.length) (fun k wr => ∃ (i : Nat) (v' : Value), k + i = n - T.length ∧ Wl E0 base g v' (T ++ List.replicate i fv) wr ∧ Kx base g w wr)
  case atStart => exact ⟨0, v, by omega, by simpa using HW.out, Kx.refl _ _ _⟩
  case round =>
    obtain ⟨i, v', hk, hw, hkx⟩ := hrel
    have HX := Lib.hid hkx
    have HO := Lib.hid hw.ow
    have HFR := Lib.hid hw.fr
    have d0 := hw.ce
    have f0 := hw.fr
    obtain ⟨A0, c0, hv⟩ := hw.ow.form
    have e : (T ++ List.replicate i fv).length = T.length + i := by simp
    rw [e] at hv
    subst hv
    have HE := Lib.hid e
    have hle := hw.le
    have d1 : wr.cell? ⟨nb, 4, none⟩ = some (.slice A n c) := (World.cell?_of_block (a := ⟨nb, 4, none⟩) (HX.out.block nb (by omega) hng)).trans hn
    have HUR := Lib.hid (HU.out.to (w' := wr) (M' := fun b => b < wr.heap.size ∧ some b ≠ (Value.slice A0 (T.length + i) c0).ownBlock ∧ ¬ b < E0) (fun b hb => ⟨⟨by omega, fun e => by have := (HO.out.ownlt e.symm).1; omega, by omega⟩, HX.out.block b hb.2 (by omega)⟩))
    have HW2 := Lib.hid hw
    clear hkx hw e
    by_cases hlt : T.length + i < n
    · have hlti : (T.length : Int) + (i : Int) < (n : Int) := by omega
      go_wp2_with (first
        | (at_builtin; refine wpList_append_Own (S := FV.sh) rfl _ _ 64 rfl base 51 j0 _ 8 Tryz.underlying64 hj jz0 jz1 jz2 rfl (by show 0 < 1; omega) (· < E0) _ _ rfl (HO.out.below (al _)) _ _ 1 1 _ [[.func fn fi ca]] [fv] rfl (Rd.one _ _ _ 1 rfl _ (by simp)) (by simp) rfl (Shp.all1 ⟨_, rfl, HUR.out.to (fun b hb => ⟨⟨by simp; exact Nat.lt_succ_of_lt hb.1, hb.2⟩, heap_alloc_old _ _ hb.1⟩)⟩) (by rw [HE.out]; unfold maxLen; omega) (by rw [HE.out]; omega) (by simp; omega) ?_; intro A5 c5 w5 hown5 hgrow5 _; obtain ⟨g5, z5⟩ := HW2.out.far (al _) hgrow5)
        | fail "no")
      rw [HE.out] at hown5
      obtain ⟨r1, r2⟩ := HW2.out.next (al _) hgrow5 hown5
      have HR12 := Lib.hid (And.intro r1 r2)
      clear r1 r2 hown5 hgrow5
      go_roundg (gk - 1)
      case measure => omega
      case rel =>
        obtain ⟨r1, r2⟩ := HR12.out
        refine ⟨i + 1, .slice A5 (T.length + i + 1) c5, by omega, ?_, HX.out.trans r2⟩
        rw [List.replicate_succ', ← List.append_assoc]
        exact r1
    · have hi : n - T.length = i := by omega
      have hlti : ¬ ((T.length : Int) + (i : Int) < (n : Int)) := by omega
      go_wp2_with fail
      go_end0
      exact ⟨rfl, ⟨_, HW2.out⟩, HX.out.down l2⟩
end Go.Proofs.YtkpejdkffkhekaaGreatDoor
