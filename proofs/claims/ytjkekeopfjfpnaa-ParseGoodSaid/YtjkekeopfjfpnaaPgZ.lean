/- The law: ParseGood. Conditions: none but the row's own. -/
import Derived.Test.YtjkekeopfjfpnaaPgI
set_option maxRecDepth 100000
namespace Go.Proofs.Ytjkekeopfjfpnaa
open Go.ChangeShapes Go.WideShapes Go.ChangeAt Go.RowKit
def smallT : List ND := [⟨4, ⟨#[]⟩, ⟨#[]⟩, 0, []⟩, ⟨5, ⟨#[]⟩, ⟨#[]⟩, 0, []⟩, ⟨2, ⟨#[109, 97, 105, 110]⟩, ⟨#[]⟩, 0, [0, 1]⟩, ⟨1, ⟨#[]⟩, ⟨#[]⟩, 0, [2]⟩]
theorem small_good : GoodT smallT := by
  refine ⟨by decide, ⟨by decide, ⟨⟨1, ⟨#[]⟩, ⟨#[]⟩, 0, [2]⟩, rfl, rfl⟩, by decide +kernel⟩, by decide +kernel⟩
theorem small_fits : ∀ y ∈ smallT, ND.fits y := by
  intro y hy
  unfold smallT at hy
  simp only [List.mem_cons, List.not_mem_nil, or_false] at hy
  rcases hy with rfl | rfl | rfl | rfl <;> exact ⟨by decide, by decide, by decide⟩
set_option maxHeartbeats 4000000 in
theorem lawSmall_any (w : World) : Calls Try.prog 7 #[] w fun e w' => ∃ A c, e = .returned (.slice A 4 c) ∧ (Shp.slice ND.sh).rd w' (· < w'.heap.size) [.slice A 4 c] smallT ∧ Below w.heap.size w w' := by
  go_enter Try.func7, Try.ntmps7
  go_wp2_with fail
  go_ret
  refine ⟨_, _, rfl, ?_, sq (sq (al _) (al _)) (al _)⟩
  have r1 : Rd (w.alloc (.cells #[.int .i64 0, .int .i64 1] 3)) (w.heap.size + 1) 1 (some ⟨w.heap.size, 0, none⟩) 2 [.int .i64 0, .int .i64 1] := Rd.lit w #[.int .i64 0, .int .i64 1] 3 2 1 rfl
  have r2 : Rd ((w.alloc (.cells #[.int .i64 0, .int .i64 1] 3)).alloc (.cells #[.int .i64 2] 3)) (w.heap.size + 1 + 1) 1 (some ⟨w.heap.size + 1, 0, none⟩) 1 [.int .i64 2] := by
    have := Rd.lit (w.alloc (.cells #[.int .i64 0, .int .i64 1] 3)) #[.int .i64 2] 3 1 1 rfl
    simpa using this
  have r3 := Rd.lit ((w.alloc (.cells #[.int .i64 0, .int .i64 1] 3)).alloc (.cells #[.int .i64 2] 3)) #[.int .i64 4, .string ⟨#[]⟩, .string ⟨#[]⟩, .int .i64 0, .slice none 0 0, .int .i64 5, .string ⟨#[]⟩, .string ⟨#[]⟩, .int .i64 0, .slice none 0 0, .int .i64 2, .string ⟨#[109, 97, 105, 110]⟩, .string ⟨#[]⟩, .int .i64 0, .slice (some ⟨w.heap.size, 0, none⟩) 2 2, .int .i64 1, .string ⟨#[]⟩, .string ⟨#[]⟩, .int .i64 0, .slice (some ⟨w.heap.size + 1, 0, none⟩) 1 1] 28 4 5 rfl
  have s1 := (r1.alloc (by simp) (.cells #[.int .i64 2] 3)).alloc (by simp) (.cells #[.int .i64 4, .string ⟨#[]⟩, .string ⟨#[]⟩, .int .i64 0, .slice none 0 0, .int .i64 5, .string ⟨#[]⟩, .string ⟨#[]⟩, .int .i64 0, .slice none 0 0, .int .i64 2, .string ⟨#[109, 97, 105, 110]⟩, .string ⟨#[]⟩, .int .i64 0, .slice (some ⟨w.heap.size, 0, none⟩) 2 2, .int .i64 1, .string ⟨#[]⟩, .string ⟨#[]⟩, .int .i64 0, .slice (some ⟨w.heap.size + 1, 0, none⟩) 1 1] 28)
  have s2 := r2.alloc (by simp) (.cells #[.int .i64 4, .string ⟨#[]⟩, .string ⟨#[]⟩, .int .i64 0, .slice none 0 0, .int .i64 5, .string ⟨#[]⟩, .string ⟨#[]⟩, .int .i64 0, .slice none 0 0, .int .i64 2, .string ⟨#[109, 97, 105, 110]⟩, .string ⟨#[]⟩, .int .i64 0, .slice (some ⟨w.heap.size, 0, none⟩) 2 2, .int .i64 1, .string ⟨#[]⟩, .string ⟨#[]⟩, .int .i64 0, .slice (some ⟨w.heap.size + 1, 0, none⟩) 1 1] 28)
  simp only [World.size_alloc] at r3
  have hs : (((w.alloc (.cells #[.int .i64 0, .int .i64 1] 3)).alloc (.cells #[.int .i64 2] 3)).alloc (.cells #[.int .i64 4, .string ⟨#[]⟩, .string ⟨#[]⟩, .int .i64 0, .slice none 0 0, .int .i64 5, .string ⟨#[]⟩, .string ⟨#[]⟩, .int .i64 0, .slice none 0 0, .int .i64 2, .string ⟨#[109, 97, 105, 110]⟩, .string ⟨#[]⟩, .int .i64 0, .slice (some ⟨w.heap.size, 0, none⟩) 2 2, .int .i64 1, .string ⟨#[]⟩, .string ⟨#[]⟩, .int .i64 0, .slice (some ⟨w.heap.size + 1, 0, none⟩) 1 1] 28)).heap.size = w.heap.size + 1 + 1 + 1 := by simp
  generalize (((w.alloc _).alloc _).alloc _) = w3 at *
  clear r1 r2
  rw [← hs] at r3
  have m1 := s1.more (B' := w3.heap.size) (by omega)
  have m2 := s2.more (B' := w3.heap.size) (by omega)
  refine ⟨_, _, [[.int .i64 4, .string ⟨#[]⟩, .string ⟨#[]⟩, .int .i64 0, .slice none 0 0], [.int .i64 5, .string ⟨#[]⟩, .string ⟨#[]⟩, .int .i64 0, .slice none 0 0], [.int .i64 2, .string ⟨#[109, 97, 105, 110]⟩, .string ⟨#[]⟩, .int .i64 0, .slice (some ⟨w.heap.size, 0, none⟩) 2 2], [.int .i64 1, .string ⟨#[]⟩, .string ⟨#[]⟩, .int .i64 0, .slice (some ⟨w.heap.size + 1, 0, none⟩) 1 1]], rfl, by decide, by unfold maxLen; omega, .inr (by simp), ⟨r3.1, r3.2⟩, rfl, fun i cs x h1 h2 => ?_⟩
  rcases i with _ | _ | _ | _ | i
  · injection h1 with h1
    injection h2 with h2
    subst h1 h2
    exact ND.intro (v := ⟨4, ⟨#[]⟩, ⟨#[]⟩, 0, []⟩) (by decide) (by decide) (A4 := none) RdM.nil ⟨by decide, by unfold maxLen; omega, .inl rfl⟩ (by simp)
  · injection h1 with h1
    injection h2 with h2
    subst h1 h2
    exact ND.intro (v := ⟨5, ⟨#[]⟩, ⟨#[]⟩, 0, []⟩) (by decide) (by decide) (A4 := none) RdM.nil ⟨by decide, by unfold maxLen; omega, .inl rfl⟩ (by simp)
  · injection h1 with h1
    injection h2 with h2
    subst h1 h2
    exact ND.intro (v := ⟨2, ⟨#[109, 97, 105, 110]⟩, ⟨#[]⟩, 0, [0, 1]⟩) (by decide) (by decide) ⟨m1.1, m1.2⟩ ⟨by decide, by unfold maxLen; simp, .inr (by simp)⟩ (by simp)
  · injection h1 with h1
    injection h2 with h2
    subst h1 h2
    exact ND.intro (v := ⟨1, ⟨#[]⟩, ⟨#[]⟩, 0, [2]⟩) (by decide) (by decide) ⟨m2.1, m2.2⟩ ⟨by decide, by unfold maxLen; simp, .inr (by simp)⟩ (by simp)
  · cases h2
set_option maxHeartbeats 4000000 in
theorem walkParseGood (v0 : Value) (w : World) (w0 : IsNodes w v0) : Calls Try.prog 3 #[v0] w fun e w' => e = .returned (.bool true) ∧ Below w.heap.size w w' := by
  obtain ⟨l, hrd, hft, hsz⟩ := w0
  obtain ⟨A, c, ess, e, h9⟩ := id hrd
  simp only [List.cons.injEq, and_true] at e
  subst e
  have HRD := Lib.hid hrd
  have HFT := Lib.hid hft
  obtain ⟨n, hn⟩ : ∃ n, n = l.length := ⟨_, rfl⟩
  have HN := Lib.hid hn
  have htr := tree_any l A c w hrd hft hsz
  rw [← hn] at htr ⊢
  clear hrd h9 hft hn
  go_enter Try.func3, Try.ntmps3
  go_wp2_with fail
  refine Calls.mono htr ?_
  rintro e w1 ⟨v, rfl, hr1, hb1⟩
  obtain ⟨A1, c1, ess1, e1, _⟩ := id hr1
  simp only [List.cons.injEq, and_true] at e1
  subst e1
  have HR1 := Lib.hid ((Shp.slice ND.sh).more hr1 fun b hb => hb.2)
  have HB1 := Lib.hid hb1
  clear htr hr1 hb1
  have hg1 := good_any HR1.out HFT.out
  rw [← HN.out] at hg1 ⊢
  go_wp2_with fail
  refine Calls.mono hg1 ?_
  rintro e w2 ⟨b1, rfl, h1, hb2⟩
  have H1 := Lib.hid h1
  have HB2 := Lib.hid (sq HB1.out hb2)
  clear hg1 h1 hb2
  have hg2 := refGood_any (w := w2) ((Shp.slice ND.sh).more ((Shp.slice ND.sh).keep HRD.out fun p hp => HB2.out.cell hp) fun q hq => Nat.lt_of_lt_of_le hq HB2.out.size) HFT.out
  rw [← HN.out] at hg2
  go_wp2_with fail
  refine Calls.mono hg2 ?_
  rintro e w3 ⟨b2, rfl, h2, hb3⟩
  obtain rfl : b2 = b1 := by rw [Bool.eq_iff_iff, h2, H1.out]
  have HB3 := Lib.hid (sq HB2.out hb3)
  clear hg2 h2 hb3
  go_wp2_with fail
  refine Calls.mono (lawSmall_any _) ?_
  rintro e w4 ⟨A4, c4, rfl, hr4, hb4⟩
  have HR4 := Lib.hid hr4
  have HB4 := Lib.hid (sq HB3.out hb4)
  clear hr4 hb4
  have hg4 := good_any (T := smallT) HR4.out small_fits
  rw [show smallT.length = 4 from rfl] at hg4
  go_wp2_with fail
  refine Calls.mono hg4 ?_
  rintro e w5 ⟨b5, rfl, h5, hb5⟩
  have HB5 := Lib.hid (sq HB4.out hb5)
  obtain rfl : b5 = true := h5.2 small_good
  clear hg4 h5 hb5
  go_wp2_with fail
  go_ret
  exact ⟨rfl, HB5.out⟩
end Go.Proofs.Ytjkekeopfjfpnaa
