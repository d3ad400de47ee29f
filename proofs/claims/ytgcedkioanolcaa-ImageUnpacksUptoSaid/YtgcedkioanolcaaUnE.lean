/- image's reader: 'code'. Conditions: the bytes are few. -/
import Derived.Test.YtgcedkioanolcaaUnD
import Derived.Test.YtgcedkioanolcaaCdK
import Derived.Deep.RegionLaw
set_option maxRecDepth 100000
namespace Go.Proofs.Ytgcedkioanolcaa
open Go.ChangeShapes Go.WideShapes Go.ChangeAt Go.RowKit
/-- What lies in W stays, but for the blocks a and b. -/
structure Ch (a b : Nat) (W w : World) : Prop where
  os : w.os = W.os
  tape : w.tape = W.tape
  out : w.output = W.output
  size : W.heap.size ≤ w.heap.size
  blk : ∀ k, k < W.heap.size → k ≠ a → k ≠ b → w.heap[k]? = W.heap[k]?
section
variable {a b : Nat} {W w w' : World}
theorem Ch.refl : Ch a b W W := ⟨rfl, rfl, rfl, Nat.le_refl _, fun _ _ _ _ => rfl⟩
theorem Ch.grown (h : Ch a b W w) {row : Option Nat} (hg : w.grownBy w' row) (hr : ∀ q, row = some q → q = a ∨ q = b ∨ W.heap.size ≤ q) : Ch a b W w' :=
  ⟨hg.os.trans h.os, hg.tape.trans h.tape, hg.output.trans h.out, Nat.le_trans h.size hg.size, fun k hk ha hb => (hg.block k (Nat.lt_of_lt_of_le hk h.size) (fun e => by rcases hr k e.symm with h1 | h1 | h1 <;> omega)).trans (h.blk k hk ha hb)⟩
theorem Ch.alloc (h : Ch a b W w) (o : Obj) : Ch a b W (w.alloc o) := h.grown (World.grownBy_alloc w o none) fun _ e => by cases e
end
theorem Rdr.grown {B g : Nat} {L : List Int} {bad : Bool} {w w' : World} (h : Rdr B g L bad w) {row : Option Nat} (hg : w.grownBy w' row) (hr : ∀ q, row = some q → g < q) : Rdr B g L bad w' := by
  obtain ⟨A, c, hgg, hrr, hc⟩ := h.ex
  exact ⟨h.le, h.z, h.n, A, c, (hg.block g h.lt (fun e => by have := hr g e.symm; omega)).trans hgg, hrr.grown hg (Nat.le_trans h.le (Nat.le_of_lt h.lt)) (fun q e => by have := hr q e; have := h.le; omega), hc⟩
theorem Own.grow {X : Type} {S : Shp X} {t : TypeId} {w w' : World} {base : Nat} {v : Value} {xs : List X} (h : Own S t w base (· < base) v xs) {g : Nat} (hg : w.grownBy w' (some g)) (hlt : g < base) : Own S t w' base (· < base) v xs :=
  h.keep hg.size (fun k hk hE => hg.block k hk (fun e => by injection e with e; omega)) (fun k hk hE => by have := (h.ownlt hk).1; omega)
theorem str_grow {w w' : World} {base n : Nat} {e : TypeId} {v : Value} {xs : List Value} (h : w.ownsRow base e 1 v n xs) {g : Nat} (hg : w.grownBy w' (some g)) (hlt : g < base) : w'.ownsRow base e 1 v n xs :=
  h.kept hg (by
    cases hv : v.ownBlock with
    | none => exact .inl rfl
    | some q =>
      right
      have := (h.lt q hv).1
      intro e
      injection e with e
      omega)
theorem step_append_rd {P : Program} {ops : Array Oper} {o : Oper} {a : Act} {w : World} {K : Act → World → Prop} {Q : Exit → Act → World → Prop} {E : Prop} (hgd : o.guard = none) (s x : Operand) (t : TypeId)
    (ho : o.op = .call { callee := .builtin .append, args := #[s, x], argTypes := #[t, t] })
    (base : Nat) (e : TypeId) (i : TypeInfo) (z : Value) (size bytes : Nat) (ht : P.underlying t = some (.slice e)) (hi : P.info? e = some i) (hz : i.zero = some z)
    (hsize : i.size = size) (hby : i.bytes = bytes) (hzs : z.cells.size = size) (hsz : 0 < size)
    (v : Value) (n : Nat) (xs : List Value) (hs : a.eval s = v) (hown : w.ownsRow base e size v n xs)
    (B : Nat) (A : Option Addr) (m c : Nat) (news : List Value) (hx : a.eval x = .slice A m c) (hr : Rd w B size A m news) (h1 : ∀ u ∈ news, u.oneCell' = true)
    (h63 : n + m ≤ maxLen) (hbytes : (n + m) * bytes ≤ 140737488355328) (hbase : base ≤ w.heap.size)
    (h : ∀ A' c' w', w'.ownsRow base e size (.slice A' (n + m) c') (n + m) (xs ++ news) → w.grownBy w' v.ownBlock → K (a.put o.dst (.slice A' (n + m) c')) w') : if Region.wanted o (yielded ops a.tmps) = true then Oper.wp P o a w K Q else E := by
  have hw : Region.wanted o (yielded ops a.tmps) = true := by simp [Region.wanted, hgd]
  rw [if_pos hw]
  exact wp_append_rd w s x t ho base e i z size bytes ht hi hz hsize hby hzs hsz v n xs hs hown B A m c news hx hr h1 h63 hbytes hbase fun A' c' w' h2 h3 _ => h A' c' w' h2 h3
/-- How many items are read, against the bytes. -/
theorem numS_len (L : List Int) (h : (numS false L).2.1 = false) : (numS false L).2.2.length < L.length := by
  rcases numP_is L with ⟨t, ht, e⟩ | ⟨_, e⟩
  · unfold numS
    rw [e]
    have := ht.1
    simp
    omega
  · unfold numS at h
    rw [e] at h
    cases h
theorem texS_len (L : List Int) (h : (texS false L).2.1 = false) : (texS false L).2.2.length < L.length := by
  have hb : (numS false L).2.1 = false := by
    unfold texS cntS at h
    simp only at h
    split at h
    · cases h
    · exact h
  have := numS_len L hb
  have h2 : (cntS false L).2.2 = (numS false L).2.2 := by unfold cntS; split <;> rfl
  unfold texS
  simp only
  rw [List.length_drop, h2]
  omega
theorem numS_le (L : List Int) : (numS false L).2.2.length ≤ L.length := by
  cases h : (numS false L).2.1 with
  | false => exact Nat.le_of_lt (numS_len L h)
  | true =>
    unfold numS at h ⊢
    cases hn : numP L with
    | none => simp
    | some x => rw [hn] at h; cases h
theorem cntS_short (L : List Int) : (cntS false L).2.2.length ≤ L.length := by
  have h2 : (cntS false L).2.2 = (numS false L).2.2 := by unfold cntS; split <;> rfl
  rw [h2]
  exact numS_le L
/-- What is read of a list so far, and what is still to be read. -/
def Part {α : Type} (p : Bool → List Int → α × Bool × List Int) (all : List α × Bool × List Int) (T : List α) (k : Nat) (bad : Bool) (L : List Int) : Prop :=
  all = (T ++ (runL p k bad L).1, (runL p k bad L).2)
theorem runL_succ {α : Type} (p : Bool → List Int → α × Bool × List Int) (k : Nat) (L : List Int) : runL p (k + 1) false L = ((p false L).1 :: (runL p k (p false L).2.1 (p false L).2.2).1, (runL p k (p false L).2.1 (p false L).2.2).2) := rfl
theorem Part.step {α : Type} {p : Bool → List Int → α × Bool × List Int} {all : List α × Bool × List Int} {T : List α} {k : Nat} {L : List Int} (h : Part p all T (k + 1) false L) : Part p all (T ++ [(p false L).1]) k (p false L).2.1 (p false L).2.2 := by
  unfold Part at h ⊢
  rw [h, runL_succ]
  simp
theorem Part.fin0 {α : Type} {p : Bool → List Int → α × Bool × List Int} {all : List α × Bool × List Int} {T : List α} {bad : Bool} {L : List Int} (h : Part p all T 0 bad L) : all = (T, bad, L) := by
  unfold Part at h
  rw [h]
  simp [runL]
theorem Part.finB {α : Type} {p : Bool → List Int → α × Bool × List Int} {all : List α × Bool × List Int} {T : List α} {k : Nat} {L : List Int} (h : Part p all T k true L) : all = (T, true, L) := by
  unfold Part at h
  rw [h, runL_bad]
  simp
end Go.Proofs.Ytgcedkioanolcaa
