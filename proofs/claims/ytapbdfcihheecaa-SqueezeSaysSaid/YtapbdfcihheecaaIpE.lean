/- The least code. Conditions: none. -/
import Derived.Test.YtapbdfcihheecaaIpA
set_option maxRecDepth 100000
namespace Go.Proofs.Ytapbdfcihheecaa
open Go.ChangeShapes Go.WideShapes Go.ChangeAt Go.RowKit
def KL : KK := ⟨[⟨⟨#[109, 97, 105, 110]⟩, 0, 0, 0, [⟨29, -1, 0, 0, 0, 0⟩]⟩], []⟩
theorem nm_main : nmB [109, 97, 105, 110] = true := by
  rw [nm_tok (by decide)]
  decide +kernel
theorem ins_KL : insE KL ⟨⟨#[109, 97, 105, 110]⟩, 0, 0, 0, [⟨29, -1, 0, 0, 0, 0⟩]⟩ ⟨29, -1, 0, 0, 0, 0⟩ = 0 := by decide +kernel
theorem sound_KL : soundV KL = (0, 0, 0) := by
  have h1 : headV 0 ⟨⟨#[109, 97, 105, 110]⟩, 0, 0, 0, [⟨29, -1, 0, 0, 0, 0⟩]⟩ = 0 := by
    unfold headV headN
    show (if nmB [109, 97, 105, 110] = false then _ else _) = _
    rw [nm_main]
    decide +kernel
  refine sound_ok (by decide) (by decide) (fun j hj => by simp [KL] at hj) (fun j hj => ?_)
  obtain rfl : j = 0 := by simp [KL] at hj; omega
  rw [fns_last (K := KL) (k := 0) rfl h1 (fun j hj => ?_)]
  · decide +kernel
  · obtain rfl : j = 0 := by simp at hj; omega
    rw [insBad_of (x := ⟨29, -1, 0, 0, 0, 0⟩) rfl, if_pos ins_KL]
theorem KL_kr {w : World} {B g1 g2 : Nat} (h1 : ∀ j u, [Value.int .i64 29, .int .i64 (-1), .int .i64 0, .int .i64 0, .int .i64 0, .int .i64 0][j]? = some u → w.cell? ⟨g1, j, none⟩ = some u) (h2 : ∀ j u, [Value.string ⟨#[109, 97, 105, 110]⟩, .int .i64 0, .int .i64 0, .int .i64 0, .slice (some ⟨g1, 0, none⟩) 1 1][j]? = some u → w.cell? ⟨g2, j, none⟩ = some u) (hb1 : g1 < B) (hb2 : g2 < B) : KR w B (some ⟨g2, 0, none⟩) none KL := by
  refine ⟨fun k f hf => ?_, ⟨rfl, fun h => by simp [KL] at h⟩, fun s hs => by simp [KL] at hs, fun f hf => ?_, by simp [KL], by simp [KL], fun f hf => ?_⟩
  · obtain ⟨hk, he⟩ := List.getElem?_eq_some_iff.1 hf
    obtain rfl : k = 0 := by simp [KL] at hk; omega
    have e : f = ⟨⟨#[109, 97, 105, 110]⟩, 0, 0, 0, [⟨29, -1, 0, 0, 0, 0⟩]⟩ := by rw [← he]; rfl
    subst e
    refine ⟨⟨g2, 0, some ⟨g1, 0, none⟩, 1, rfl, hb2, h2 0 _ rfl, h2 1 _ rfl, h2 2 _ rfl, h2 3 _ rfl, h2 4 _ rfl, Nat.le_refl _, by decide, [[.int .i64 29, .int .i64 (-1), .int .i64 0, .int .i64 0, .int .i64 0, .int .i64 0]], ⟨rfl, fun _ => ⟨g1, 0, rfl, hb1, fun j u hu => ?_⟩⟩, ⟨rfl, fun i c x hc hx => ?_⟩⟩, by decide⟩
    · rw [Nat.zero_add]
      exact h1 j u hu
    · obtain ⟨hi, he⟩ := List.getElem?_eq_some_iff.1 hx
      obtain rfl : i = 0 := by simp at hi; omega
      simp at hc hx
      subst hc hx
      exact II.intro (v := ⟨29, -1, 0, 0, 0, 0⟩) (by decide) (by decide) (by decide) (by decide) (by decide) (by decide)
  · simp [KL] at hf
    subst hf
    decide
  · simp [KL] at hf
    subst hf
    decide
theorem least_any (w : World) : Calls Try.prog 28 #[] w fun e w' => ∃ FA fc, e = .returned (.agg #[.slice FA 1 fc, .slice none 0 0]) ∧ KR w' w'.heap.size FA none KL ∧ Below w.heap.size w w' := by
  go_enter Try.func28, Try.ntmps28
  go_wp2_with fail
  refine bodyPost_ret (v := .agg #[.slice (some ⟨w.heap.size + 2, 0, none⟩) 1 1, .slice none 0 0]) (by simp [results, Try.results28, go_sem]) rfl ?_
  refine ⟨_, _, rfl, KL_kr (g1 := w.heap.size + 1) (g2 := w.heap.size + 2) ?_ ?_ (by simp) (by simp), sq (sq (al _) (al _)) (al _)⟩
  · intro j u hu
    rw [World.cell?_alloc_lt _ _ _ (by simp), cell_of_row _ (w.heap.size + 1) j _ _ (0, 0) (by have := heap_alloc_new (w.alloc (.cells #[.slice (some ⟨w.heap.size + 1 + 1, 0, none⟩) 1 1, .slice none 0 0] 71)) (.cells #[.int .i64 29, .int .i64 (-1), .int .i64 0, .int .i64 0, .int .i64 0, .int .i64 0] 126); simpa using this)]
    simpa using hu
  · intro j u hu
    rw [cell_of_row _ (w.heap.size + 2) j _ _ (0, 0) (by have := heap_alloc_new ((w.alloc (.cells #[.slice (some ⟨w.heap.size + 1 + 1, 0, none⟩) 1 1, .slice none 0 0] 71)).alloc (.cells #[.int .i64 29, .int .i64 (-1), .int .i64 0, .int .i64 0, .int .i64 0, .int .i64 0] 126)) (.cells #[.string ⟨#[109, 97, 105, 110]⟩, .int .i64 0, .int .i64 0, .int .i64 0, .slice (some ⟨w.heap.size + 1, 0, none⟩) 1 1] 123); simpa using this)]
    simpa using hu
end Go.Proofs.Ytapbdfcihheecaa
