/- 'types.Params' and 'types.Result': what they answer. Conditions: none. -/
import Derived.Test.YtmbljapjecclaabTyParts
import Derived.RegionTactic
import Derived.Deep.Onto
set_option maxRecDepth 20000
namespace Go.Proofs.Ytmbljapjecclaab
open Go.ChangeShapes Go.WideShapes Go.ChangeAt Go.RowKit
theorem resP_ne {f k p : Nat} {S : ByteArray} {l : List ByteArray} (h : resP f S k = some (l, p)) : l ≠ [] := by
  unfold resP at h
  cases hr : resAt f S k <;> rw [hr] at h <;> simp at h
  rw [← h.1]; simp
theorem pcs_ne {f p : Nat} {S : ByteArray} {l : List ByteArray} : ∀ (j : Nat) (b : Bool) (k : Nat), pcs f S j b k = some (l, p) → l ≠ [] := by
  intro j b k h
  cases j with
  | zero =>
    rw [pcs] at h
    split at h
    · exact resP_ne h
    · simp at h
  | succ j =>
    rw [pcs] at h
    split at h
    · exact resP_ne h
    · split at h
      · rw [Option.bind_eq_some_iff] at h
        obtain ⟨a, _, h⟩ := h
        rw [Option.map_eq_some_iff] at h
        obtain ⟨q, _, h⟩ := h
        injection h with h1 h2
        rw [← h1]; simp
      · split at h
        · rw [Option.bind_eq_some_iff] at h
          obtain ⟨a, _, h⟩ := h
          rw [Option.map_eq_some_iff] at h
          obtain ⟨q, _, h⟩ := h
          injection h with h1 h2
          rw [← h1]; simp
        · simp at h
theorem ptO_pos {s : ByteArray} {l : List ByteArray} (h : ptO s = some l) : 0 < l.length := by
  unfold ptO at h
  split at h
  · split at h
    · rename_i l' p hf
      split at h
      · injection h with h
        subst h
        unfold fnP at hf
        split at hf
        · exact List.length_pos_iff.2 (pcs_ne _ _ _ hf)
        · simp at hf
      · simp at h
    · simp at h
  · simp at h
/-- A row of texts that the function made: its first address, and how to read it. -/
theorem row_at {w : World} {base : Nat} {e : TypeId} {l : List ByteArray} {A : Option Addr} {c : Nat} (h : w.ownsRow base e 1 (.slice A l.length c) l.length (l.map Value.string)) (hp : 0 < l.length) : ∃ g, A = some ⟨g, 0, none⟩ ∧ g < w.heap.size ∧ l.length ≤ c ∧ c ≤ maxLen ∧ ∀ (j : Nat) (s : ByteArray), l[j]? = some s → w.cell? ⟨g, j, none⟩ = some (.string s) := by
  obtain ⟨b, off, hA, hb, hc⟩ := (Rd.of_own h).2 hp
  obtain ⟨_, h2⟩ | ⟨g, c', cur, hv, _, _, h3, h4, _⟩ := h.2
  · omega
  · injection hv with v1 v2 v3
    subst v3
    rw [v1] at hA
    injection hA with hA
    injection hA with a1 a2 a3
    subst a1
    refine ⟨g, v1, hb, h3, h4, fun j s hj => ?_⟩
    have := hc j (.string s) (by rw [List.getElem?_map, hj]; rfl)
    rw [← a2, Nat.zero_add] at this
    exact this
/-- What 'Params' leaves. -/
def PrmP (o : Option (List ByteArray)) (w : World) (e : Ending) (w' : World) : Prop :=
  (∃ l A c, o = some l ∧ e = .returned (.tuple #[.slice A (l.length - 1) c, .int .i64 0]) ∧ Rd w' w'.heap.size 1 A (l.length - 1) (l.dropLast.map Value.string) ∧ Below w.heap.size w w') ∨ (o = none ∧ e = .returned (.tuple #[.slice none 0 0, .int .i64 9]) ∧ Below w.heap.size w w')
/-- What 'Result' leaves. -/
def ResP (o : Option (List ByteArray)) (w : World) (e : Ending) (w' : World) : Prop :=
  (∃ l s, o = some l ∧ l[l.length - 1]? = some s ∧ e = .returned (.tuple #[.string s, .int .i64 0]) ∧ Below w.heap.size w w') ∨ (o = none ∧ e = .returned (.tuple #[.string ⟨#[]⟩, .int .i64 9]) ∧ Below w.heap.size w w')
theorem wrap_pred {n : Nat} (h : 0 < n) (h2 : n ≤ maxLen) : IntKind.i64.wrap ((n : Int) - 1) = ((n - 1 : Nat) : Int) := by
  rw [IntWalk.i64_in _ (by unfold maxLen at h2; omega)]
  omega
theorem typesParams_any (s : ByteArray) (w : World) (hs : s.size ≤ 140737488351232) : Calls Try.prog 17 #[.string s] w (PrmP (ptO s) w) := by
  go_enter Try.func17, Try.ntmps17
  go_wp2_with fail
  refine (parts_any s w hs).mono ?_
  rintro e w1 h1
  rcases h1 with ⟨l, A, c, p1, rfl, p3, p4⟩ | ⟨p1, rfl, p4⟩
  · have hpos := ptO_pos p1
    obtain ⟨g, hA, hg, hc, hm, hcell⟩ := row_at p3 hpos
    have hw := wrap_pred hpos (Nat.le_trans hc hm)
    subst hA
    go_wp2_with fail
    go_returns
    refine .inl ⟨l, _, c, p1, rfl, ⟨by simp, fun _ => ⟨g, 0, rfl, hg, fun j u hu => ?_⟩⟩, p4⟩
    rw [List.getElem?_map, Option.map_eq_some_iff] at hu
    obtain ⟨s', hs', rfl⟩ := hu
    rw [Nat.zero_add]
    refine hcell j s' ?_
    rw [List.getElem?_dropLast] at hs'
    split at hs'
    · exact hs'
    · simp at hs'
  · go_wp2_with fail
    go_returns
    exact .inr ⟨p1, rfl, p4⟩
theorem typesResult_any (s : ByteArray) (w : World) (hs : s.size ≤ 140737488351232) : Calls Try.prog 20 #[.string s] w (ResP (ptO s) w) := by
  go_enter Try.func20, Try.ntmps20
  go_wp2_with fail
  refine (parts_any s w hs).mono ?_
  rintro e w1 h1
  rcases h1 with ⟨l, A, c, p1, rfl, p3, p4⟩ | ⟨p1, rfl, p4⟩
  · have hpos := ptO_pos p1
    obtain ⟨g, hA, _, hc, hm, hcell⟩ := row_at p3 hpos
    have hw := wrap_pred hpos (Nat.le_trans hc hm)
    obtain ⟨x, hx⟩ : ∃ x, l[l.length - 1]? = some x := ⟨l[l.length - 1], List.getElem?_eq_getElem (by omega)⟩
    have hcx := hcell _ _ hx
    subst hA
    go_wp2_with fail
    go_returns
    exact .inl ⟨l, x, p1, hx, rfl, p4⟩
  · go_wp2_with fail
    go_returns
    exact .inr ⟨p1, rfl, p4⟩
end Go.Proofs.Ytmbljapjecclaab
