/- 'Params' and 'Result' of the document: what they answer; two rows of texts side by side. Conditions: none. -/
import Derived.Test.YtmbljapjecclaabTyPieces
import Derived.Deep.QuietTactic
import Derived.BigQuiet
set_option maxRecDepth 20000
namespace Go.Proofs.Ytmbljapjecclaab
open Go.ChangeShapes Go.WideShapes Go.ChangeAt Go.RowKit
theorem refParams_any (s : ByteArray) (w : World) (hs : s.size ≤ 140737488351232) : Calls Try.prog 18 #[.string s] w (PrmP (ptO s) w) := by
  go_enter Try.func18, Try.ntmps18
  go_wp2_with fail
  refine (pieces_any s w hs).mono ?_
  rintro e w1 h1
  rcases h1 with ⟨l, A, c, p1, rfl, p3, p4⟩ | ⟨p1, rfl, p4⟩
  · have hpos := ptO_pos p1
    obtain ⟨g, hA, hg, hc, hm, hcell⟩ := row_at p3 hpos
    have hw := wrap_pred hpos (Nat.le_trans hc hm)
    subst hA
    go_wp2_with fail
    go_returns
    refine .inl ⟨l, _, c, p1, rfl, ⟨by simp, fun _ => ⟨g, 0, rfl, hg, fun j u hu => ?_⟩⟩, p4⟩
    rw [List.getElem?_map, Option.map_eq_some_iff] at hu
    obtain ⟨s', hs', rfl⟩ := hu
    rw [Nat.zero_add]
    refine hcell j s' ?_
    rw [List.getElem?_dropLast] at hs'
    split at hs'
    · exact hs'
    · simp at hs'
  · go_wp2_with fail
    go_returns
    exact .inr ⟨p1, rfl, p4⟩
theorem refResult_any (s : ByteArray) (w : World) (hs : s.size ≤ 140737488351232) : Calls Try.prog 21 #[.string s] w (ResP (ptO s) w) := by
  go_enter Try.func21, Try.ntmps21
  go_wp2_with fail
  refine (pieces_any s w hs).mono ?_
  rintro e w1 h1
  rcases h1 with ⟨l, A, c, p1, rfl, p3, p4⟩ | ⟨p1, rfl, p4⟩
  · have hpos := ptO_pos p1
    obtain ⟨g, hA, _, hc, hm, hcell⟩ := row_at p3 hpos
    have hw := wrap_pred hpos (Nat.le_trans hc hm)
    obtain ⟨x, hx⟩ : ∃ x, l[l.length - 1]? = some x := ⟨l[l.length - 1], List.getElem?_eq_getElem (by omega)⟩
    have hcx := hcell _ _ hx
    subst hA
    go_wp2_with fail
    go_returns
    exact .inl ⟨l, x, p1, hx, rfl, p4⟩
  · go_wp2_with fail
    go_returns
    exact .inr ⟨p1, rfl, p4⟩
theorem cellText {w : World} {B n : Nat} {A : Option Addr} {l : List ByteArray} (h : Rd w B 1 A n (l.map Value.string)) {k : Nat} (hk : k < n) :
    ∃ b off, A = some ⟨b, off, none⟩ ∧ w.cell? ⟨b, off + k, none⟩ = some (.string (l.getD k ⟨#[]⟩)) := by
  obtain ⟨b, off, u, e, _, hu, hc⟩ := h.at1 hk
  rw [List.getElem?_map, Option.map_eq_some_iff] at hu
  obtain ⟨z, hz1, rfl⟩ := hu
  exact ⟨b, off, e, by rw [hc]; simp [List.getD, hz1]⟩
theorem sameTexts_any (A A' : Option Addr) (n c c' : Nat) (l : List ByteArray) (hm : n ≤ 140737488351232) (w : World) (B B' : Nat) (h : Rd w B 1 A n (l.map Value.string)) (h' : Rd w B' 1 A' n (l.map Value.string)) :
    Calls Try.prog 19 #[.slice A n c, .slice A' n c'] w fun e w' => e = .returned (.bool true) ∧ ∃ m, w' = w.drewN m := by
  go_enter Try.func19, Try.ntmps19
  go_wp2_with fail
  go_loopw [5] (fun i wr => ∃ k m : Nat, k ≤ n ∧ i = .int .i64 k ∧ wr = w.drewN m) (fun i _ => n - (intOf i).toNat)
  case atStart => exact ⟨0, 0, Nat.zero_le _, rfl, rfl⟩
  case round =>
    obtain ⟨k, m, hk, rfl, rfl⟩ := hrel
    by_cases hlt : k < n
    · obtain ⟨b, off, rfl, hc1⟩ := cellText h hlt
      obtain ⟨b', off', rfl, hc2⟩ := cellText h' hlt
      generalize l.getD k ⟨#[]⟩ = p at *
      go_wp2
      go_quiet (fail)
      go_wp2
      go_roundw
      case rel => exact ⟨k + 1, _, by omega, by go_num, rfl⟩
      case measure => simp [intOf]; omega
    · have hd : decide ((k : Int) < (n : Int)) = false := decide_eq_false (by omega)
      go_wp2
      go_ret
      exact ⟨rfl, m, rfl⟩
end Go.Proofs.Ytmbljapjecclaab
