/- The program's counter: a node with all beneath it. Conditions: none. -/
import Derived.Test.YtkpejdkffkhekaaGreatDoorPgK
set_option maxRecDepth 100000
namespace Go.Proofs.YtkpejdkffkhekaaGreatDoor
open Go.ChangeShapes Go.WideShapes Go.ChangeAt Go.RowKit
theorem Fwd.uniq {T : List ND} {n : ND} {a : Nat} : ∀ {m e e' : Nat}, Fwd T n a m e → Fwd T n a m e' → e = e'
  | 0, _, _, h, h' => h.trans h'.symm
  | m + 1, _, _, h, h' => by
    obtain ⟨k, s, x, h1, _, _, _, _, rfl⟩ := h
    obtain ⟨k', s', x', h1', _, _, _, _, rfl⟩ := h'
    rw [h1] at h1'
    injection h1' with h1'
    omega
theorem Fwd.pre {T : List ND} {n : ND} {a : Nat} : ∀ {m e : Nat}, Fwd T n a m e → ∀ i, i ≤ m → ∃ s, Fwd T n a i s
  | 0, e, h, i, hi => by obtain rfl : i = 0 := by omega
                         exact ⟨e, h⟩
  | m + 1, e, h, i, hi => by
    by_cases hm : i = m + 1
    · subst hm; exact ⟨e, h⟩
    · obtain ⟨k, s, x, h1, h2, h3, h4, h5, h6⟩ := h
      exact h4.pre i (by omega)
/-- The next step forward: what it asks. -/
theorem Fwd.step {T : List ND} {n x : ND} {a i k s : Nat} (h : Fwd T n a i s) (hk : n.kids[i]? = some (k : Int)) (hx : T[k]? = some x) : Fwd T n a (i + 1) (k + 1) ↔ (kidN n i x.kind = true ∧ startOf T k = some s) := by
  constructor
  · rintro ⟨k', s', x', h1, h2, h3, h4, h5, _⟩
    rw [hk] at h1
    injection h1 with h1
    obtain rfl : k = k' := by omega
    rw [hx] at h2
    injection h2 with h2
    subst h2
    rw [h.uniq h4]
    exact ⟨h3, h5⟩
  · rintro ⟨h1, h2⟩
    exact ⟨k, s, x, hk, hx, h1, h, h2, rfl⟩
theorem startOf_fwd {T : List ND} {n : ND} {k a : Nat} (hk : T[k]? = some n) : startOf T k = some a ↔ (cntN n = true ∧ Fwd T n a n.kids.length k) := by
  constructor
  · intro h
    obtain ⟨n', h1, h2, h3⟩ := startOf_some h
    rw [hk] at h1
    injection h1 with h1
    subst h1
    exact ⟨h2, (fwd_iff _ _).2 h3⟩
  · rintro ⟨h1, h2⟩
    exact startOf_mk hk h1 ((fwd_iff _ _).1 h2)
/-- The counter's box, and the tree. -/
structure Cn (cb : Nat) (A : Option Addr) (c : Nat) (T : List ND) (M : Nat → Prop) (nx : Nat) (w : World) : Prop where
  c0 : w.cell? ⟨cb, 0, none⟩ = some (.slice A T.length c)
  c1 : w.cell? ⟨cb, 1, none⟩ = some (.int .i64 (nx : Int))
  f1 : w.frozen? ⟨cb, 1, none⟩ = false
  rd : (Shp.slice ND.sh).rd w M [.slice A T.length c] T
  mb : ∀ b, M b → b < w.heap.size ∧ b ≠ cb
  lt : cb < w.heap.size
theorem Cn.below {cb c nx : Nat} {A : Option Addr} {T : List ND} {M : Nat → Prop} {w w' : World} (h : Cn cb A c T M nx w) (hb : Below w.heap.size w w') : Cn cb A c T M nx w' :=
  ⟨(hb.cell (p := ⟨cb, 0, none⟩) h.lt).trans h.c0, (hb.cell (p := ⟨cb, 1, none⟩) h.lt).trans h.c1, (hb.frozen (p := ⟨cb, 1, none⟩) h.lt).trans h.f1, (Shp.slice ND.sh).keep h.rd (fun _ hp => hb.cell (h.mb _ hp).1), fun b hM => ⟨Nat.lt_of_lt_of_le (h.mb b hM).1 hb.size, (h.mb b hM).2⟩, Nat.lt_of_lt_of_le h.lt hb.size⟩
theorem Cn.put {cb c nx : Nat} {A : Option Addr} {T : List ND} {M : Nat → Prop} {w : World} (h : Cn cb A c T M nx w) (nx' : Nat) : Cn cb A c T M nx' (w.setCell ⟨cb, 1, none⟩ (.int .i64 (nx' : Int))) :=
  ⟨(World.cell?_setCell_other _ _ _ _ (fun e => by injection e with _ e _; cases e)).trans h.c0, World.cell?_setCell_same _ _ _ h.c1, by simpa using h.f1, (Shp.slice ND.sh).keep h.rd (fun p hp => World.cell?_of_block (Below.heap_setCell _ _ _ _ (by show p.block ≠ cb; exact (h.mb _ hp).2))), fun b hM => ⟨by simpa using (h.mb b hM).1, (h.mb b hM).2⟩, by simpa using h.lt⟩
/-- What 'node' answers. -/
def NP (cb : Nat) (A : Option Addr) (c : Nat) (T : List ND) (M : Nat → Prop) (k nx : Nat) (w : World) (e : Ending) (w' : World) : Prop :=
  ∃ (b : Bool) (nx' : Nat), e = .returned (.bool b) ∧ Cn cb A c T M nx' w' ∧ Kx w.heap.size cb w w' ∧ (b = true ↔ startOf T k = some nx) ∧ (b = true → nx' = k + 1)
def KP (cb : Nat) (A : Option Addr) (c : Nat) (T : List ND) (M : Nat → Prop) (fv : FV) (x : ND) (k nx : Nat) (w : World) (e : Ending) (w' : World) : Prop :=
  ∃ (b : Bool) (nx' : Nat), e = .returned (.bool b) ∧ Cn cb A c T M nx' w' ∧ Kx w.heap.size cb w w' ∧ (b = true ↔ (fvP fv x.kind = true ∧ startOf T k = some nx)) ∧ (b = true → nx' = k + 1)
set_option maxHeartbeats 4000000 in
theorem kid_any {cb c nx k : Nat} {A : Option Addr} {T : List ND} {M : Nat → Prop} {w : World} {u : Value} {fv : FV} {x : ND} (h : Cn cb A c T M nx w) (hx : T[k]? = some x) (hu : FVal w (fun _ => True) u fv)
    (hn : ∀ w nx, Cn cb A c T M nx w → Calls Tryz.prog 22 #[.pointer (some ⟨cb, 0, none⟩), .int .i64 (k : Int)] w (NP cb A c T M k nx w)) :
    Calls Tryz.prog 38 #[.pointer (some ⟨cb, 0, none⟩), .int .i64 (k : Int), u] w (KP cb A c T M fv x k nx w) := by
  have HC := Lib.hid h
  have hk := (List.getElem?_eq_some_iff.1 hx).1
  obtain ⟨A', c', ess, e, hlc, hcm, _, hr, hall⟩ := h.rd
  simp at e
  obtain ⟨rfl, rfl⟩ := e
  obtain ⟨b, off, cs, x', rfl, hb, hx', hrd, hcell⟩ := Shp.elem hr hall hk rfl
  rw [hx] at hx'
  injection hx' with hx'
  subst hx'
  obtain ⟨A4, c4, rfl, q0, q3, r4, l4, m4, n4, b4⟩ := ND.elim hrd
  have e0 := hcell 0 _ rfl
  have hsz : ND.sh.size = 5 := rfl
  rw [hsz] at e0
  simp only [Nat.add_zero] at e0
  have c0 := h.c0
  have hki : (k : Int) < (T.length : Int) := by omega
  have HN := Lib.hid hn
  have HX := Lib.hid hx
  clear h hr hall hx hrd hcell hn hsz r4 q0 q3 b4
  have hk0 : ¬ (k : Int) < 0 := by omega
  have hkt : ¬ T.length ≤ k := by omega
  cases fv with
  | only q =>
    obtain ⟨bx, rfl, _, hq⟩ := hu
    go_enter Tryz.func38, Tryz.ntmps38
    go_wp2_with fail
    refine Calls.mono (only1_any _ q bx _ hq) ?_
    rintro e w1 ⟨rfl, rfl⟩
    generalize ht : fvP (.only q) x.kind = t at *
    have HT := Lib.hid ht
    clear ht
    cases t with
    | false =>
      go_wp2_with fail
      go_returns
      exact ⟨false, nx, rfl, HC.out, Kx.refl _ _ _, ⟨fun h => (by cases h), fun h => by rw [HT.out] at h; cases h.1⟩, fun h => (by cases h)⟩
    | true =>
      go_wp2_with fail
      refine Calls.mono (HN.out _ nx HC.out) ?_
      rintro e w2 ⟨r, nx', rfl, hc2, hk2, h1, h2⟩
      have HR := Lib.hid (show (r = true ↔ (fvP (.only q) x.kind = true ∧ startOf T k = some nx)) from ⟨fun h => ⟨HT.out, h1.1 h⟩, fun h => h1.2 h.2⟩)
      have HS := Lib.hid (And.intro hc2 (And.intro hk2 h2))
      clear hc2 hk2 h1 h2
      cases r
      all_goals (
        go_wp2_with fail
        go_returns
        exact ⟨_, nx', rfl, HS.out.1, HS.out.2.1, by simpa using HR.out, by first | exact fun _ => HS.out.2.2 trivial | exact fun h => (by cases h)⟩)
  | expr =>
    obtain rfl : u = .func (.func 53) #[] #[] := hu
    go_enter Tryz.func38, Tryz.ntmps38
    go_wp2_with fail
    refine Calls.mono (wants2_any _ _) ?_
    rintro e w1 ⟨rfl, rfl⟩
    generalize ht : fvP .expr x.kind = t at *
    have HT := Lib.hid ht
    clear ht
    cases t with
    | false =>
      go_wp2_with fail
      go_returns
      exact ⟨false, nx, rfl, HC.out, Kx.refl _ _ _, ⟨fun h => (by cases h), fun h => by rw [HT.out] at h; cases h.1⟩, fun h => (by cases h)⟩
    | true =>
      go_wp2_with fail
      refine Calls.mono (HN.out _ nx HC.out) ?_
      rintro e w2 ⟨r, nx', rfl, hc2, hk2, h1, h2⟩
      have HR := Lib.hid (show (r = true ↔ (fvP .expr x.kind = true ∧ startOf T k = some nx)) from ⟨fun h => ⟨HT.out, h1.1 h⟩, fun h => h1.2 h.2⟩)
      have HS := Lib.hid (And.intro hc2 (And.intro hk2 h2))
      clear hc2 hk2 h1 h2
      cases r
      all_goals (
        go_wp2_with fail
        go_returns
        exact ⟨_, nx', rfl, HS.out.1, HS.out.2.1, by simpa using HR.out, by first | exact fun _ => HS.out.2.2 trivial | exact fun h => (by cases h)⟩)
  | orNone =>
    obtain rfl : u = .func (.func 58) #[] #[] := hu
    go_enter Tryz.func38, Tryz.ntmps38
    go_wp2_with fail
    refine Calls.mono (orNone_any _ _) ?_
    rintro e w1 ⟨rfl, rfl⟩
    generalize ht : fvP .orNone x.kind = t at *
    have HT := Lib.hid ht
    clear ht
    cases t with
    | false =>
      go_wp2_with fail
      go_returns
      exact ⟨false, nx, rfl, HC.out, Kx.refl _ _ _, ⟨fun h => (by cases h), fun h => by rw [HT.out] at h; cases h.1⟩, fun h => (by cases h)⟩
    | true =>
      go_wp2_with fail
      refine Calls.mono (HN.out _ nx HC.out) ?_
      rintro e w2 ⟨r, nx', rfl, hc2, hk2, h1, h2⟩
      have HR := Lib.hid (show (r = true ↔ (fvP .orNone x.kind = true ∧ startOf T k = some nx)) from ⟨fun h => ⟨HT.out, h1.1 h⟩, fun h => h1.2 h.2⟩)
      have HS := Lib.hid (And.intro hc2 (And.intro hk2 h2))
      clear hc2 hk2 h1 h2
      cases r
      all_goals (
        go_wp2_with fail
        go_returns
        exact ⟨_, nx', rfl, HS.out.1, HS.out.2.1, by simpa using HR.out, by first | exact fun _ => HS.out.2.2 trivial | exact fun h => (by cases h)⟩)
  | stated =>
    obtain rfl : u = .func (.func 56) #[] #[] := hu
    go_enter Tryz.func38, Tryz.ntmps38
    go_wp2_with fail
    refine Calls.mono (stated_any _ _) ?_
    rintro e w1 ⟨rfl, rfl⟩
    generalize ht : fvP .stated x.kind = t at *
    have HT := Lib.hid ht
    clear ht
    cases t with
    | false =>
      go_wp2_with fail
      go_returns
      exact ⟨false, nx, rfl, HC.out, Kx.refl _ _ _, ⟨fun h => (by cases h), fun h => by rw [HT.out] at h; cases h.1⟩, fun h => (by cases h)⟩
    | true =>
      go_wp2_with fail
      refine Calls.mono (HN.out _ nx HC.out) ?_
      rintro e w2 ⟨r, nx', rfl, hc2, hk2, h1, h2⟩
      have HR := Lib.hid (show (r = true ↔ (fvP .stated x.kind = true ∧ startOf T k = some nx)) from ⟨fun h => ⟨HT.out, h1.1 h⟩, fun h => h1.2 h.2⟩)
      have HS := Lib.hid (And.intro hc2 (And.intro hk2 h2))
      clear hc2 hk2 h1 h2
      cases r
      all_goals (
        go_wp2_with fail
        go_returns
        exact ⟨_, nx', rfl, HS.out.1, HS.out.2.1, by simpa using HR.out, by first | exact fun _ => HS.out.2.2 trivial | exact fun h => (by cases h)⟩)
  | blIf =>
    obtain rfl : u = .func (.func 57) #[] #[] := hu
    go_enter Tryz.func38, Tryz.ntmps38
    go_wp2_with fail
    refine Calls.mono (wants3_any _ _) ?_
    rintro e w1 ⟨rfl, rfl⟩
    generalize ht : fvP .blIf x.kind = t at *
    have HT := Lib.hid ht
    clear ht
    cases t with
    | false =>
      go_wp2_with fail
      go_returns
      exact ⟨false, nx, rfl, HC.out, Kx.refl _ _ _, ⟨fun h => (by cases h), fun h => by rw [HT.out] at h; cases h.1⟩, fun h => (by cases h)⟩
    | true =>
      go_wp2_with fail
      refine Calls.mono (HN.out _ nx HC.out) ?_
      rintro e w2 ⟨r, nx', rfl, hc2, hk2, h1, h2⟩
      have HR := Lib.hid (show (r = true ↔ (fvP .blIf x.kind = true ∧ startOf T k = some nx)) from ⟨fun h => ⟨HT.out, h1.1 h⟩, fun h => h1.2 h.2⟩)
      have HS := Lib.hid (And.intro hc2 (And.intro hk2 h2))
      clear hc2 hk2 h1 h2
      cases r
      all_goals (
        go_wp2_with fail
        go_returns
        exact ⟨_, nx', rfl, HS.out.1, HS.out.2.1, by simpa using HR.out, by first | exact fun _ => HS.out.2.2 trivial | exact fun h => (by cases h)⟩)
end Go.Proofs.YtkpejdkffkhekaaGreatDoor
