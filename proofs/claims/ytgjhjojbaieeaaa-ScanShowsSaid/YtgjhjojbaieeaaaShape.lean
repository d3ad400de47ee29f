/- What memory holds, told as data: numbers, texts, structs, slices of anything, within a set M of blocks. Conditions: none. -/
import Derived.Test.YtgjhjojbaieeaaaBase
set_option maxRecDepth 20000
namespace Go.Proofs.Ytgjhjojbaieeaaa
open Go.ChangeShapes Go.WideShapes Go.ChangeAt Go.RowKit

/-- The slice's elements, as cells: 'size' cells each, in a block of M. -/
def RdM (w : World) (M : Nat → Prop) (size : Nat) (A : Option Addr) (n : Nat) (xs : List Value) : Prop :=
  xs.length = n * size ∧ (0 < n → ∃ b off, A = some ⟨b, off, none⟩ ∧ M b ∧ ∀ j u, xs[j]? = some u → w.cell? ⟨b, off + j, none⟩ = some u)
section
variable {w w' : World} {M M' : Nat → Prop} {size n : Nat} {A : Option Addr} {xs : List Value}
theorem rdm_iff {B : Nat} : Rd w B size A n xs ↔ RdM w (· < B) size A n xs := Iff.rfl
theorem RdM.rd {B : Nat} (h : RdM w M size A n xs) (hM : ∀ b, M b → b < B) : Rd w B size A n xs :=
  ⟨h.1, fun hn => by
    obtain ⟨b, off, e, hb, hc⟩ := h.2 hn
    exact ⟨b, off, e, hM b hb, hc⟩⟩
theorem RdM.nil : RdM w M size A 0 [] := ⟨by simp, fun h => absurd h (by omega)⟩
theorem RdM.keep (h : RdM w M size A n xs) (hk : ∀ p : Addr, M p.block → w'.cell? p = w.cell? p) : RdM w' M size A n xs :=
  ⟨h.1, fun hn => by
    obtain ⟨b, off, e, hb, hc⟩ := h.2 hn
    exact ⟨b, off, e, hb, fun j u hu => (hk ⟨b, off + j, none⟩ hb).trans (hc j u hu)⟩⟩
theorem RdM.more (h : RdM w M size A n xs) (hM : ∀ b, M b → M' b) : RdM w M' size A n xs :=
  ⟨h.1, fun hn => by
    obtain ⟨b, off, e, hb, hc⟩ := h.2 hn
    exact ⟨b, off, e, hM b hb, hc⟩⟩
end

/-- A shape: how cells read as a datum. -/
structure Shp (X : Type) where
  size : Nat
  rd : World → (Nat → Prop) → List Value → X → Prop
  len : ∀ {w M cs x}, rd w M cs x → cs.length = size
  one : ∀ {w M cs x}, rd w M cs x → ∀ u ∈ cs, u.oneCell' = true
  keep : ∀ {w w' M cs x}, rd w M cs x → (∀ p : Addr, M p.block → w'.cell? p = w.cell? p) → rd w' M cs x
  more : ∀ {w M M' cs x}, rd w M cs x → (∀ b, M b → M' b) → rd w M' cs x

def Shp.int : Shp Int where
  size := 1
  rd _ _ cs x := cs = [.int .i64 x] ∧ -9223372036854775808 ≤ x ∧ x ≤ 9223372036854775807
  len h := by rw [h.1]; rfl
  one h := by rw [h.1]; intro u hu; simp at hu; subst hu; rfl
  keep h _ := h
  more h _ := h
def Shp.bool : Shp Bool where
  size := 1
  rd _ _ cs x := cs = [.bool x]
  len h := by rw [h]; rfl
  one h := by rw [h]; intro u hu; simp at hu; subst hu; rfl
  keep h _ := h
  more h _ := h
def Shp.str : Shp ByteArray where
  size := 1
  rd _ _ cs x := cs = [.string x]
  len h := by rw [h]; rfl
  one h := by rw [h]; intro u hu; simp at hu; subst hu; rfl
  keep h _ := h
  more h _ := h
/-- Two data, one behind the other. -/
def Shp.pair {X Y : Type} (S : Shp X) (T : Shp Y) : Shp (X × Y) where
  size := S.size + T.size
  rd w M cs x := ∃ c d, cs = c ++ d ∧ S.rd w M c x.1 ∧ T.rd w M d x.2
  len := by rintro w M cs x ⟨c, d, rfl, h1, h2⟩; rw [List.length_append, S.len h1, T.len h2]
  one := by
    rintro w M cs x ⟨c, d, rfl, h1, h2⟩ u hu
    rcases List.mem_append.1 hu with hu | hu
    · exact S.one h1 u hu
    · exact T.one h2 u hu
  keep := by rintro w w' M cs x ⟨c, d, rfl, h1, h2⟩ hk; exact ⟨c, d, rfl, S.keep h1 hk, T.keep h2 hk⟩
  more := by rintro w M M' cs x ⟨c, d, rfl, h1, h2⟩ hk; exact ⟨c, d, rfl, S.more h1 hk, T.more h2 hk⟩
/-- A datum of another type that is told by this one. -/
def Shp.as {X Y : Type} (S : Shp X) (f : Y → X) : Shp Y where
  size := S.size
  rd w M cs y := S.rd w M cs (f y)
  len h := S.len h
  one h := S.one h
  keep h hk := S.keep h hk
  more h hk := S.more h hk
/-- Elements' cells, element by element. -/
def Shp.all {X : Type} (S : Shp X) (w : World) (M : Nat → Prop) (ess : List (List Value)) (xs : List X) : Prop :=
  ess.length = xs.length ∧ ∀ (i : Nat) (c : List Value) (x : X), ess[i]? = some c → xs[i]? = some x → S.rd w M c x
section
variable {X : Type} {S : Shp X} {w w' : World} {M M' : Nat → Prop} {ess : List (List Value)} {xs : List X}
theorem Shp.all.keep (h : S.all w M ess xs) (hk : ∀ p : Addr, M p.block → w'.cell? p = w.cell? p) : S.all w' M ess xs := ⟨h.1, fun i c x h1 h2 => S.keep (h.2 i c x h1 h2) hk⟩
theorem Shp.all.more (h : S.all w M ess xs) (hM : ∀ b, M b → M' b) : S.all w M' ess xs := ⟨h.1, fun i c x h1 h2 => S.more (h.2 i c x h1 h2) hM⟩
theorem Shp.all.nil : S.all w M [] [] := ⟨rfl, by simp⟩
theorem Shp.all.snoc (h : S.all w M ess xs) {c : List Value} {x : X} (hc : S.rd w M c x) : S.all w M (ess ++ [c]) (xs ++ [x]) := by
  refine ⟨by simp [h.1], fun i d y hd hy => ?_⟩
  by_cases hi : i < ess.length
  · rw [List.getElem?_append_left hi] at hd
    rw [List.getElem?_append_left (by rw [← h.1]; exact hi)] at hy
    exact h.2 i d y hd hy
  · rw [List.getElem?_append_right (by omega)] at hd
    rw [List.getElem?_append_right (by rw [← h.1]; omega)] at hy
    rw [h.1] at hd
    rcases hk : i - xs.length with _ | k
    · rw [hk] at hd hy; simp at hd hy; subst hd hy; exact hc
    · rw [hk] at hd; simp at hd
theorem Shp.all.app {ess' : List (List Value)} {xs' : List X} (h : S.all w M ess xs) (h' : S.all w M ess' xs') : S.all w M (ess ++ ess') (xs ++ xs') := by
  refine ⟨by simp [h.1, h'.1], fun i d y hd hy => ?_⟩
  by_cases hi : i < ess.length
  · rw [List.getElem?_append_left hi] at hd
    rw [List.getElem?_append_left (by rw [← h.1]; exact hi)] at hy
    exact h.2 i d y hd hy
  · rw [List.getElem?_append_right (by omega)] at hd
    rw [List.getElem?_append_right (by rw [← h.1]; omega)] at hy
    rw [h.1] at hd
    exact h'.2 _ d y hd hy
theorem Shp.all.take (h : S.all w M ess xs) (n : Nat) : S.all w M (ess.take n) (xs.take n) := by
  refine ⟨by simp [h.1], fun i c x h1 h2 => ?_⟩
  rw [List.getElem?_take] at h1 h2
  split at h1
  · rw [if_pos (by assumption)] at h2; exact h.2 i c x h1 h2
  · cases h1
theorem Shp.all.drop (h : S.all w M ess xs) (n : Nat) : S.all w M (ess.drop n) (xs.drop n) := by
  refine ⟨by simp [h.1], fun i c x h1 h2 => ?_⟩
  rw [List.getElem?_drop] at h1 h2
  exact h.2 _ c x h1 h2
theorem Shp.all.each (h : S.all w M ess xs) : ∀ c ∈ ess, c.length = S.size := by
  intro c hc
  obtain ⟨i, hi, rfl⟩ := List.getElem_of_mem hc
  have hx : i < xs.length := by rw [← h.1]; exact hi
  exact S.len (h.2 i _ xs[i] (List.getElem?_eq_getElem hi) (List.getElem?_eq_getElem hx))
theorem flatten_len {k : Nat} : ∀ {ess : List (List Value)}, (∀ c ∈ ess, c.length = k) → ess.flatten.length = ess.length * k
  | [], _ => by simp
  | c :: r, h => by
    rw [List.flatten_cons, List.length_append, flatten_len fun d hd => h d (List.mem_cons_of_mem _ hd), h c (by simp), List.length_cons, Nat.add_mul]
    omega
theorem Shp.all.flat_len (h : S.all w M ess xs) : ess.flatten.length = xs.length * S.size := by rw [flatten_len h.each, h.1]
theorem Shp.all.oneCell (h : S.all w M ess xs) : ∀ u ∈ ess.flatten, u.oneCell' = true := by
  intro u hu
  obtain ⟨c, hc, hu⟩ := List.mem_flatten.1 hu
  obtain ⟨i, hi, rfl⟩ := List.getElem_of_mem hc
  have hx : i < xs.length := by rw [← h.1]; exact hi
  exact S.one (h.2 i _ xs[i] (List.getElem?_eq_getElem hi) (List.getElem?_eq_getElem hx)) u hu
theorem flat_at {k : Nat} : ∀ {ess : List (List Value)}, (∀ c ∈ ess, c.length = k) → ∀ (i j : Nat), j < k → ess.flatten[i * k + j]? = (ess[i]?).bind (·[j]?)
  | [], _, i, j, _ => by simp
  | a :: r, h, i, j, hj => by
    have ha : a.length = k := h a (by simp)
    rw [List.flatten_cons]
    cases i with
    | zero => simp only [Nat.zero_mul, Nat.zero_add, List.getElem?_cons_zero, Option.bind_some]; rw [List.getElem?_append_left (by omega)]
    | succ i =>
      rw [List.getElem?_append_right (by rw [ha, Nat.add_mul]; omega), List.getElem?_cons_succ, ← flat_at (ess := r) (fun c hc => h c (List.mem_cons_of_mem _ hc)) i j hj, ha]
      congr 1
      rw [Nat.add_mul]; omega
theorem flat_take {k : Nat} : ∀ {ess : List (List Value)}, (∀ c ∈ ess, c.length = k) → ∀ n, (ess.take n).flatten = ess.flatten.take (n * k)
  | [], _, n => by simp
  | a :: r, h, n => by
    have ha : a.length = k := h a (by simp)
    cases n with
    | zero => simp
    | succ n =>
      rw [List.take_succ_cons, List.flatten_cons, List.flatten_cons, flat_take (ess := r) (fun c hc => h c (List.mem_cons_of_mem _ hc)) n, List.take_append, ha, List.take_of_length_le (l := a) (by rw [ha, Nat.add_mul]; omega)]
      congr 2
      rw [Nat.add_mul]; omega
end
/-- A slice of what has a shape. -/
def Shp.slice {X : Type} (S : Shp X) : Shp (List X) where
  size := 1
  rd w M cs xs := ∃ (A : Option Addr) (c : Nat) (ess : List (List Value)), cs = [.slice A xs.length c] ∧ xs.length ≤ c ∧ c ≤ maxLen ∧ (c = 0 ∨ A ≠ none) ∧ RdM w M S.size A xs.length ess.flatten ∧ S.all w M ess xs
  len := by rintro w M cs xs ⟨A, c, ess, rfl, _⟩; rfl
  one := by rintro w M cs xs ⟨A, c, ess, rfl, _⟩ u hu; simp at hu; subst hu; rfl
  keep := by rintro w w' M cs xs ⟨A, c, ess, rfl, h1, h2, h3, h4, h5⟩ hk; exact ⟨A, c, ess, rfl, h1, h2, h3, h4.keep hk, h5.keep hk⟩
  more := by rintro w M M' cs xs ⟨A, c, ess, rfl, h1, h2, h3, h4, h5⟩ hk; exact ⟨A, c, ess, rfl, h1, h2, h3, h4.more hk, h5.more hk⟩

/-- A slice of the call's own: its row is owned from 'base' on; what its elements lead to lies elsewhere, and not among the blocks that E names. -/
def Own {X : Type} (S : Shp X) (e : TypeId) (w : World) (base : Nat) (E : Nat → Prop) (v : Value) (xs : List X) : Prop :=
  ∃ (A : Option Addr) (c : Nat) (ess : List (List Value)), v = .slice A xs.length c ∧ w.ownsRow base e S.size v xs.length ess.flatten ∧ S.all w (fun b => b < w.heap.size ∧ some b ≠ v.ownBlock ∧ ¬ E b) ess xs
section
variable {X : Type} {S : Shp X} {e : TypeId} {w w' : World} {base : Nat} {E : Nat → Prop} {v : Value} {xs : List X}
theorem Own.nil : Own S e w base E (.slice none 0 0) [] := ⟨none, 0, [], rfl, World.ownsRow_nil _ _ _ _, .nil⟩
theorem own_heap {n size : Nat} {ys : List Value} (h : w.ownsRow base e size v n ys) (_ : w.heap.size ≤ w'.heap.size) (hb : ∀ k, v.ownBlock = some k → w'.heap[k]? = w.heap[k]?) : w'.ownsRow base e size v n ys := by
  obtain ⟨h1, h2⟩ := h
  refine ⟨h1, ?_⟩
  rcases h2 with h2 | ⟨g, cap, cur, rfl, hg, hh, r⟩
  · exact .inl h2
  · exact .inr ⟨g, cap, cur, rfl, hg, (hb g rfl).trans hh, r⟩
/-- What was there stays, but for the blocks that E names. -/
theorem Own.keep (h : Own S e w base E v xs) (hs : w.heap.size ≤ w'.heap.size) (hb : ∀ k, k < w.heap.size → ¬ E k → w'.heap[k]? = w.heap[k]?) (hE : ∀ k, v.ownBlock = some k → ¬ E k) : Own S e w' base E v xs := by
  obtain ⟨A, c, ess, rfl, hown, hall⟩ := h
  refine ⟨A, c, ess, rfl, own_heap hown hs (fun k hk => hb k (hown.lt k hk).2 (hE k hk)), (hall.keep fun p hp => World.cell?_of_block (hb _ hp.1 hp.2.2)).more fun b hb => ⟨Nat.lt_of_lt_of_le hb.1 hs, hb.2⟩⟩
theorem Own.below (h : Own S e w base E v xs) (hb : Below w.heap.size w w') : Own S e w' base E v xs := by
  obtain ⟨A, c, ess, rfl, hown, hall⟩ := h
  exact ⟨A, c, ess, rfl, own_heap hown hb.size (fun k hk => hb.block k (hown.lt k hk).2), (hall.keep fun p hp => hb.cell hp.1).more fun b h => ⟨Nat.lt_of_lt_of_le h.1 hb.size, h.2⟩⟩
theorem Own.read (h : Own S e w base E v xs) : (Shp.slice S).rd w (· < w.heap.size) [v] xs := by
  obtain ⟨A, c, ess, rfl, hown, hall⟩ := h
  have hr := Rd.of_own hown
  refine ⟨A, c, ess, rfl, ?_, ?_, ?_, hr, hall.more fun b hb => hb.1⟩
  · rcases hown.2 with ⟨h1, _⟩ | ⟨g, cap, cur, h1, _, _, hnc, _⟩
    · simp at h1; omega
    · simp at h1; omega
  · rcases hown.2 with ⟨h1, _⟩ | ⟨g, cap, cur, h1, _, _, _, hcm, _⟩
    · simp at h1; omega
    · simp at h1; omega
  · rcases hown.2 with ⟨h1, _⟩ | ⟨g, cap, cur, h1, _, _, _, hcm, _⟩
    · simp at h1; omega
    · simp at h1; exact .inr (by rw [h1.1]; simp)
end
end Go.Proofs.Ytgjhjojbaieeaaa
