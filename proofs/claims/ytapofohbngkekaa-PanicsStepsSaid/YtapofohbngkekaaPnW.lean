/- The player's small functions. Conditions: bounds. -/
import Derived.Test.YtapofohbngkekaaPnM
set_option maxRecDepth 100000
namespace Go.Proofs.Ytapofohbngkekaa
open Go.ChangeShapes Go.WideShapes Go.ChangeAt Go.RowKit
@[reducible] def tlV (t : TL) : Value := .agg #[.int .i64 t.kind, .int .i64 t.n, .int .i64 t.to, .int .i64 t.k, .int .i64 t.vn, .string t.s, .slice none 0 0]
/-- The box behind an append onto 'told'. -/
theorem PLc.told {w0 w w' : World} {base P m : Nat} {s : ST} {tl tl' : List TL} {fv pv tv : Value} {ds : List Value} {A : Option Addr} {c : Nat} (h : PLc w base P s tl fv pv tv ds) (hw : Below w.heap.size w w0) (hown : w'.ownsRow base 96 7 (.slice A m c) m (tlL tl')) (hm : tl'.length = m) (hg : w0.grownBy w' tv.ownBlock) (hs : base ≤ w.heap.size) :
    PLc (w'.setCell ⟨P, 6, none⟩ (.slice A m c)) base P s tl' fv pv (.slice A m c) ds ∧ Below base w (w'.setCell ⟨P, 6, none⟩ (.slice A m c)) ∧ ∀ b, b < w.heap.size → b ≠ P → tv.ownBlock ≠ some b → (w'.setCell ⟨P, 6, none⟩ (.slice A m c)).heap[b]? = w.heap[b]? := by
  have hP := h.hP
  have hbox := h.box
  have hlt := (Array.getElem?_eq_some_iff.1 hbox).1
  have htb : tv.ownBlock ≠ some P := own_neP h.tl hbox (by decide)
  have hbox0 := (hw.block P hlt).trans hbox
  have hbox' := (hg.block P (Nat.lt_of_lt_of_le hlt hw.size) (fun e => htb e.symm)).trans hbox0
  subst hm
  have hk : KT 96 w w' := fun b cs t' hb ht => by
    have hb0 := (Array.getElem?_eq_some_iff.1 hb).1
    refine (hg.block b (Nat.lt_of_lt_of_le hb0 hw.size) fun hv => ?_).trans (hw.block b hb0)
    obtain ⟨c, e1⟩ := own_ty h.tl hv.symm
    rw [hb] at e1
    injection e1 with e1
    injection e1 with _ e1
    exact ht e1
  have hne : ∀ (b : Nat) (cs : Array Value) (t' : TypeId), w.heap[b]? = some (Obj.cells cs t' (0, 0)) → t' ≠ 89 → b ≠ P := fun b cs t' hb ht e => ht (by rw [e, hbox] at hb; injection hb with hb; injection hb with _ hb; exact hb.symm)
  have hkk : ∀ (b : Nat) (cs : Array Value) (t' : TypeId), w.heap[b]? = some (Obj.cells cs t' (0, 0)) → t' ≠ 89 → t' ≠ 96 → (w'.setCell ⟨P, 6, none⟩ (.slice A tl'.length c)).heap[b]? = w.heap[b]? := fun b cs t' hb h1 h2 =>
    (Below.heap_setCell _ _ _ _ (hne b cs t' hb h1)).trans (hk b cs t' hb h2)
  refine ⟨⟨hP, heap_setN hbox' _, h.fr.stay fun b cs t hb ht => hkk b cs t hb (by rcases ht with rfl | rfl <;> decide) (by rcases ht with rfl | rfl <;> decide), own_stayT h.pn fun b cs t hb ht => hkk b cs t hb (by subst ht; decide) (by subst ht; decide), own_stay hown fun b hb => ?_⟩, ?_, fun b hb h1 h2 => ?_⟩
  · obtain ⟨c1, e1⟩ := own_ty hown hb
    refine Below.heap_setCell _ _ _ _ fun e => ?_
    have e' : b = P := e
    rw [e', hbox'] at e1
    injection e1 with e1
    injection e1 with _ e1
    exact absurd e1 (by decide)
  · exact (((hw.mono hs).grown hg (Nat.le_trans hs hw.size) (fun q hq => by
      have := h.tl.lt q hq
      exact this.1)).setCell (p := ⟨P, 6, none⟩) hP _)
  · exact ((Below.heap_setCell _ _ _ _ h1).trans (hg.block b (Nat.lt_of_lt_of_le hb hw.size) fun e => h2 e.symm)).trans (hw.block b hb)
theorem PLc.boxT {w0 w w' : World} {base P : Nat} {s : ST} {tl : List TL} {fv pv tv : Value} {ds : List Value} (h : PLc w base P s tl fv pv tv ds) (hw : Below w.heap.size w w0) (hg : w0.grownBy w' tv.ownBlock) :
    w'.heap[P]? = some (.cells #[fv, pv, .int .i64 (s.next : Int), .int .i64 (s.ser : Int), .int .i64 s.en, .int .i64 s.st, tv] 89 (0, 0)) := by
  have hlt := (Array.getElem?_eq_some_iff.1 h.box).1
  exact (hg.block P (Nat.lt_of_lt_of_le hlt hw.size) (fun e => own_neP h.tl h.box (by decide) e.symm)).trans ((hw.block P hlt).trans h.box)
set_option maxHeartbeats 2000000 in
theorem tell_keep (base P : Nat) (s : ST) (tl : List TL) (t : TL) (fv pv tv : Value) (ds : List Value) (w : World) (hc : PLc w base P s tl fv pv tv ds) (hl : tl.length ≤ 1000000) (hs : base ≤ w.heap.size) :
    Calls Try.prog 66 #[.pointer (some ⟨P, 0, none⟩), tlV t] w fun e w' => e = .returned (.tuple #[]) ∧ (∃ tv', PLc w' base P s (tl ++ [t]) fv pv tv' ds) ∧ Below base w w' ∧ ∀ b, b < w.heap.size → b ≠ P → tv.ownBlock ≠ some b → w'.heap[b]? = w.heap[b]? := by
  obtain ⟨j0, hj, jz0, jz1, jz2⟩ := info_parts info_tell
  have HC := Lib.hid hc
  have hbox := hc.box
  have hPlt := (Array.getElem?_eq_some_iff.1 hbox).1
  have hb := hc.hP
  have c6 : w.cell? ⟨P, 6, none⟩ = some tv := by rw [Lib.cell_of_heap hbox]; rfl
  have z6 : w.frozen? ⟨P, 6, none⟩ = false := Lib.frozen_of_heap hbox 6
  have HBX := Lib.hid hbox
  have HL := Lib.hid hl
  clear hc hbox hl
  go_enter Try.func66, Try.ntmps66
  go_wp2_with fail
  go_region_law (first
    | (go_must (refine step_append_flat rfl (.tmp 8) (.tmp 10) 57 rfl base 96 j0 _ 7 80 Try.underlying57 hj jz0 jz1 jz2 rfl (by omega) tv tl.length (tlL tl) rfl (own_below HC.out.tl (by first | exact ((al _).drew).alloc (by simp) _ | exact ((al _).alloc (by simp) _) | exact (((al _).drew).alloc (by simp) _).drew)) _ _ 1 1 (tlC t) rfl (Rd.one _ _ _ 7 rfl _ (by simp)) (by intro u hu; simp [tlC] at hu; rcases hu with rfl | rfl | rfl | rfl | rfl | rfl | rfl <;> rfl) (by have := HL.out; unfold maxLen; omega) (by have := HL.out; omega) (by simp; omega) ?_; intro A5 c5 w5 hown5 hgrow5; have hx5 := HC.out.boxT (by first | exact ((al _).drew).alloc (by simp) _ | exact ((al _).alloc (by simp) _) | exact (((al _).drew).alloc (by simp) _).drew) hgrow5; have z5 : w5.frozen? ⟨P, 6, none⟩ = false := Lib.frozen_of_heap hx5 6; have c5 : w5.cell? ⟨P, 6, none⟩ = some tv := (by rw [Lib.cell_of_heap hx5]; rfl)))
    | fail "no")
  all_goals (
    have hq := HC.out.told (by first | exact ((al _).drew).alloc (by simp) _ | exact ((al _).alloc (by simp) _) | exact (((al _).drew).alloc (by simp) _).drew) (tl' := tl ++ [t]) (by rw [tlL_snoc]; exact hown5) (by simp) hgrow5 hs
    go_end0
    exact ⟨rfl, ⟨_, hq.1⟩, hq.2.1, hq.2.2⟩)
theorem tell_any (base P : Nat) (s : ST) (tl : List TL) (t : TL) (w : World) (h : PL base P s tl w) (hl : tl.length ≤ 1000000) (hs : base ≤ w.heap.size) :
    Calls Try.prog 66 #[.pointer (some ⟨P, 0, none⟩), tlV t] w fun e w' => e = .returned (.tuple #[]) ∧ PL base P s (tl ++ [t]) w' ∧ Below base w w' := by
  obtain ⟨fv, pv, tv, ds, hc⟩ := h
  exact (tell_keep base P s tl t fv pv tv ds w hc hl hs).mono fun _ _ h => ⟨h.1, by obtain ⟨tv', h'⟩ := h.2.1; exact ⟨_, _, _, _, h'⟩, h.2.2.1⟩
theorem KT.trans {t : TypeId} {a b c : World} (h : KT t a b) (k : KT t b c) : KT t a c := fun i cs t' hi ht => (k i cs t' ((h i cs t' hi ht).trans hi) ht).trans (h i cs t' hi ht)
theorem KT.below {t : TypeId} {a b : World} (h : Below a.heap.size a b) : KT t a b := fun i _ _ hi _ => h.block i (Array.getElem?_eq_some_iff.1 hi).1
/-- Only the player's own box is turned, and neither the activations nor the panics. -/
theorem PLc.re {w w' : World} {base P : Nat} {s s' : ST} {tl : List TL} {fv pv tv : Value} {ds : List Value} (h : PLc w base P s tl fv pv tv ds) (hk : KT 89 w w') (hbox : w'.heap[P]? = some (.cells #[fv, pv, .int .i64 (s'.next : Int), .int .i64 (s'.ser : Int), .int .i64 s'.en, .int .i64 s'.st, tv] 89 (0, 0))) (h1 : s'.fr = s.fr) (h2 : s'.pn = s.pn) : PLc w' base P s' tl fv pv tv ds :=
  ⟨h.hP, hbox, by rw [h1]; exact h.fr.stay fun b cs t hb ht => hk b cs t hb (by rcases ht with rfl | rfl <;> decide), by rw [h2]; exact own_stayT h.pn fun b cs t hb ht => hk b cs t hb (by subst ht; decide), own_stayT h.tl fun b cs t hb ht => hk b cs t hb (by subst ht; decide)⟩
theorem PLc.below {w w' : World} {base P : Nat} {s : ST} {tl : List TL} {fv pv tv : Value} {ds : List Value} (h : PLc w base P s tl fv pv tv ds) (hb : Below w.heap.size w w') : PLc w' base P s tl fv pv tv ds :=
  h.re (KT.below hb) ((hb.block P (Array.getElem?_eq_some_iff.1 h.box).1).trans h.box) rfl rfl
theorem PLc.base_le {w : World} {base P : Nat} {s : ST} {tl : List TL} {fv pv tv : Value} {ds : List Value} (h : PLc w base P s tl fv pv tv ds) : base ≤ w.heap.size := Nat.le_trans h.hP (Nat.le_of_lt (Array.getElem?_eq_some_iff.1 h.box).1)
set_option maxHeartbeats 2000000 in
theorem over_any (base P : Nat) (s : ST) (tl : List TL) (e0 x : Int) (w : World) (h : PL base P s tl w) (hl : tl.length ≤ 1000000) :
    Calls Try.prog 72 #[.pointer (some ⟨P, 0, none⟩), .int .i64 e0, .int .i64 x] w fun e w' => e = .returned (.tuple #[]) ∧ PL base P (overS s e0 x) (tl ++ [tl3 7 e0 0]) w' ∧ Below base w w' := by
  obtain ⟨fv, pv, tv, ds, hc⟩ := h
  have HC := Lib.hid hc
  have hbox := hc.box
  have hPlt := (Array.getElem?_eq_some_iff.1 hbox).1
  have hb := hc.hP
  have c4 : w.cell? ⟨P, 4, none⟩ = some (.int .i64 s.en) := by rw [Lib.cell_of_heap hbox]; rfl
  have z4 : w.frozen? ⟨P, 4, none⟩ = false := Lib.frozen_of_heap hbox 4
  have c5 : w.cell? ⟨P, 5, none⟩ = some (.int .i64 s.st) := by rw [Lib.cell_of_heap hbox]; rfl
  have z5 : w.frozen? ⟨P, 5, none⟩ = false := Lib.frozen_of_heap hbox 5
  have HL := Lib.hid hl
  clear hc hbox hl
  go_enter Try.func72, Try.ntmps72
  go_wp2_with fail
  have h1 : PLc ((w.setCell ⟨P, 4, none⟩ (.int .i64 e0)).setCell ⟨P, 5, none⟩ (.int .i64 x)) base P (overS s e0 x) tl fv pv tv ds :=
    HC.out.re ((KT.set HC.out.box 4 _).trans (KT.set (heap_setN HC.out.box _) 5 _)) (heap_setN (heap_setN HC.out.box _) _) rfl rfl
  refine Calls.mono (tell_any base P (overS s e0 x) tl (tl3 7 e0 0) _ ⟨fv, pv, tv, ds, h1⟩ HL.out h1.base_le) ?_
  rintro e w3 ⟨rfl, h3, hb3⟩
  have HB3 := Lib.hid (((Below.refl base w).setCell hb _).setCell hb _ |>.trans hb3)
  clear hb3 h1
  go_wp2_with fail
  go_end0
  exact ⟨rfl, h3, HB3.out⟩
end Go.Proofs.Ytapofohbngkekaa
