/- The laws 'TypesParams' and 'TypesResults' walked. Conditions: none. -/
import Derived.Test.YtmbljapjecclaabTyRefPrm
import Derived.Test.YtmbljapjecclaabTyLaws
set_option maxRecDepth 20000
namespace Go.Proofs.Ytmbljapjecclaab
open Go.ChangeShapes Go.WideShapes Go.ChangeAt Go.RowKit
theorem funcIntBool : ptO ⟨#[102, 117, 110, 99, 40, 105, 110, 116, 41, 98, 111, 111, 108]⟩ = some [⟨#[105, 110, 116]⟩, ⟨#[98, 111, 111, 108]⟩] := by decide +kernel
theorem pcs_len {f p : Nat} {S : ByteArray} : ∀ (j : Nat) (b : Bool) (k : Nat) (l : List ByteArray), pcs f S j b k = some (l, p) → l.length ≤ j + 1 := by
  have fin : ∀ k l, resP f S k = some (l, p) → l.length ≤ 1 := by
    intro k l h
    unfold resP at h
    cases hr : resAt f S k <;> rw [hr] at h <;> simp at h
    rw [← h.1]; simp
  intro j
  induction j with
  | zero =>
    intro b k l h
    rw [pcs] at h
    split at h
    · exact fin _ _ h
    · simp at h
  | succ j ih =>
    intro b k l h
    rw [pcs] at h
    have more : ∀ a x, (pcs f S j false a).map (fun q => (x :: q.1, q.2)) = some (l, p) → l.length ≤ j + 1 + 1 := by
      intro a x h
      rw [Option.map_eq_some_iff] at h
      obtain ⟨q, hq, h⟩ := h
      injection h with h1 h2
      subst h1 h2
      have := ih false a q.1 hq
      rw [List.length_cons]
      omega
    split at h
    · have := fin _ _ h
      omega
    · split at h
      · rw [Option.bind_eq_some_iff] at h
        obtain ⟨a, _, h⟩ := h
        exact more _ _ h
      · split at h
        · rw [Option.bind_eq_some_iff] at h
          obtain ⟨a, _, h⟩ := h
          exact more _ _ h
        · simp at h
theorem ptO_len {s : ByteArray} {l : List ByteArray} (h : ptO s = some l) : l.length ≤ 5 := pcs_len 4 true 5 l (fnP_inv (ptO_inv h).2).2
theorem walkTypesParams (v0 : Value) (w : World) (w0 : IsStr v0) : Calls Try.prog 4 #[v0] w fun e w' => e = .returned (.bool true) ∧ Below w.heap.size w w' := by
  obtain ⟨s, rfl, hs⟩ := w0
  go_enter Try.func4, Try.ntmps4
  go_wp2_with fail
  refine (typesParams_any s _ hs).mono ?_
  rintro e w1 h1
  rcases h1 with ⟨l, A, c, p1, rfl, p3, p4⟩ | ⟨p1, rfl, p4⟩
  · have HL := Lib.hid (show l.length - 1 ≤ 140737488351232 by have := ptO_len p1; omega)
    go_wp2_with fail
    refine (refParams_any s _ hs).mono ?_
    rintro e w2 h2
    rcases h2 with ⟨l', A', c', q1, rfl, q3, q4⟩ | ⟨q1, rfl, q4⟩
    · rw [p1] at q1
      injection q1 with q1
      subst q1
      have r3 := p3.below q4
      go_wp2_with fail
      refine (sameTexts_any A A' _ c c' l.dropLast HL.out _ _ _ r3 q3).mono ?_
      rintro e w3 ⟨rfl, m, rfl⟩
      go_wp2_with fail
      go_ret
      exact ⟨rfl, dr (sq p4 q4) m⟩
    · rw [p1] at q1
      cases q1
  · go_wp2_with fail
    refine (refParams_any s _ hs).mono ?_
    rintro e w2 h2
    rcases h2 with ⟨l', A', c', q1, rfl, q3, q4⟩ | ⟨q1, rfl, q4⟩
    · rw [p1] at q1
      cases q1
    · go_wp2_with fail
      refine (sameTexts_any none none 0 0 0 [] (by decide) _ 0 0 Rd.nil Rd.nil).mono ?_
      rintro e w3 ⟨rfl, m, rfl⟩
      go_wp2_with fail
      go_ret
      exact ⟨rfl, dr (sq p4 q4) m⟩
theorem walkTypesResults (v0 : Value) (w : World) (w0 : IsStr v0) : Calls Try.prog 5 #[v0] w fun e w' => e = .returned (.bool true) ∧ Below w.heap.size w w' := by
  obtain ⟨s, rfl, hs⟩ := w0
  have HB := Lib.hid funcIntBool
  go_enter Try.func5, Try.ntmps5
  go_wp2_with fail
  refine (typesResult_any s _ hs).mono ?_
  rintro e w1 h1
  rcases h1 with ⟨l, x, p1, p2, rfl, p4⟩ | ⟨p1, rfl, p4⟩
  · go_wp2_with fail
    refine (refResult_any s _ hs).mono ?_
    rintro e w2 h2
    rcases h2 with ⟨l', x', q1, q2, rfl, q4⟩ | ⟨q1, rfl, q4⟩
    · rw [p1] at q1
      injection q1 with q1
      subst q1
      rw [p2] at q2
      injection q2 with q2
      subst q2
      go_wp2_with fail
      refine (typesResult_any _ _ (by decide)).mono ?_
      rintro e w3 h3
      rcases h3 with ⟨l3, x3, r1, r2, rfl, r4⟩ | ⟨r1, _⟩
      · rw [HB.out] at r1
        injection r1 with r1
        subst r1
        injection r2 with r2
        subst r2
        go_wp2_with fail
        go_ret
        exact ⟨rfl, sq (sq p4 q4) r4⟩
      · rw [HB.out] at r1
        cases r1
    · rw [p1] at q1
      cases q1
  · go_wp2_with fail
    refine (refResult_any s _ hs).mono ?_
    rintro e w2 h2
    rcases h2 with ⟨l', x', q1, q2, rfl, q4⟩ | ⟨q1, rfl, q4⟩
    · rw [p1] at q1
      cases q1
    · go_wp2_with fail
      refine (typesResult_any _ _ (by decide)).mono ?_
      rintro e w3 h3
      rcases h3 with ⟨l3, x3, r1, r2, rfl, r4⟩ | ⟨r1, _⟩
      · rw [HB.out] at r1
        injection r1 with r1
        subst r1
        injection r2 with r2
        subst r2
        go_wp2_with fail
        go_ret
        exact ⟨rfl, sq (sq p4 q4) r4⟩
      · rw [HB.out] at r1
        cases r1
end Go.Proofs.Ytmbljapjecclaab
