/- The law DefersPop is true. Conditions: none. -/
import Derived.Test.YtkkehbfceabhmaaPop
import Derived.Deep.RegionHeld3
set_option maxRecDepth 20000
namespace Go.Proofs.Ytkkehbfceabhmaa
open Go.ChangeShapes Go.WideShapes Go.ChangeAt Go.RowKit
def oneCC : CC := ⟨1, 0, []⟩
@[reducible] def oneCCs : Array Value := #[.int .i64 1, .int .i64 0, .slice none 0 0]
theorem oneCC_rd (w : World) (g : Nat) (hg : g = w.heap.size) : (Shp.slice CC.sh).rd (w.alloc (.cells oneCCs 25)) (· < (w.alloc (.cells oneCCs 25)).heap.size) [.slice (some ⟨g, 0, none⟩) 1 1] ([] ++ [oneCC]) := by
  subst hg
  refine ⟨some ⟨w.heap.size, 0, none⟩, 1, [oneCCs.toList], rfl, by simp, by unfold maxLen; simp, .inr (by simp), ?_, Shp.all1 ?_⟩
  · have := Rd.one w oneCCs 25 3 rfl _ rfl
    rw [World.size_alloc]
    exact this
  · exact CC.intro (v := oneCC) (by decide) (by decide) RdM.nil ⟨Nat.le_refl 0, by unfold maxLen; simp, .inl rfl⟩ (fun z hz => by cases hz)
theorem oneCC_fits : (1 : Nat) * 40 ≤ 140737488351232 ∧ ∀ y ∈ ([] : List CC) ++ [oneCC], CC.fits y := ⟨by omega, fun y hy => by
  simp at hy
  subst hy
  unfold CC.fits oneCC
  simp⟩
set_option maxHeartbeats 2000000 in
theorem popLaw_nil (A : Option Addr) (c : Nat) (w : World) (hl : (Shp.slice CC.sh).rd w (· < w.heap.size) [.slice A 0 c] []) : Calls Try.prog 4 #[.slice A 0 c] w fun e w' => e = .returned (.bool true) ∧ Below w.heap.size w w' := by
  go_enter Try.func4, Try.ntmps4
  go_wp2_with fail
  refine (calls_any A 0 c [] _ hl ⟨by simp, by simp⟩).mono ?_
  rintro e w1 ⟨v1, rfl, hown1, hb1⟩
  obtain ⟨A1, c1, rfl⟩ := hown1.form
  simp only [List.length_nil]
  go_wp2_with fail
  refine (defersPop_nil A1 c1 _).mono ?_
  rintro e w2 ⟨rfl, hb2⟩
  have hB2 := sq hb1 hb2
  clear hown1 hb1 hb2
  go_wp2_with fail
  refine (defersPop_t _ _ 0 1 [] oneCC _ rfl rfl (oneCC_rd (w2.alloc _) _ (by simp)) oneCC_fits).mono ?_
  rintro e w5 ⟨v5, A6, c6, rfl, _, _, hb5⟩
  have d0 := hb5.cell (p := ⟨w2.heap.size, 0, none⟩) (by go_size); have d1 := hb5.cell (p := ⟨w2.heap.size, 1, none⟩) (by go_size); have d2 := hb5.cell (p := ⟨w2.heap.size, 2, none⟩) (by go_size); (try simp at d0 d1 d2)
  have hs5 := hb5.size
  simp at hs5
  have hl5 : w2.heap.size < w5.heap.size := by omega
  have hB5 := sq (sq (sq hB2 (al _)) (al _)) hb5
  clear hb5
  go_wp2_with fail
  refine (sameCall_same ⟨0, 0, []⟩ none none 0 0 _ ⟨rfl, fun h => absurd h (by simp)⟩ ⟨rfl, fun h => absurd h (by simp)⟩ (by simp)).mono ?_
  rintro e w6 ⟨rfl, hb6⟩
  go_wp2_with fail
  go_ret
  exact ⟨by rfl, sq (sq hB5 (al _)) hb6⟩
set_option maxHeartbeats 4000000 in
theorem popLaw_cons (A : Option Addr) (c m N : Nat) (l : List CC) (x : CC) (w : World) (hm : l.length = m) (hN : N = m + 1) (hl : (Shp.slice CC.sh).rd w (· < w.heap.size) [.slice A N c] (l ++ [x])) (hf : N * 40 ≤ 140737488351232 ∧ ∀ y ∈ l ++ [x], CC.fits y) : Calls Try.prog 4 #[.slice A N c] w fun e w' => e = .returned (.bool true) ∧ Below w.heap.size w w' := by
  have hlen : (l ++ [x]).length = N := by simp [hm, hN]
  have HL := Lib.hid hl
  have HI := Lib.hid (slice_init (l := l) (x := x) hm (hN ▸ hl))
  have HF := Lib.hid hf
  have HFl := Lib.hid (show (l ++ [x]).length * 40 ≤ 140737488351232 ∧ ∀ y ∈ l ++ [x], CC.fits y by rw [hlen]; exact hf)
  have HLen := Lib.hid hlen
  have hcm' : (N : Int) ≤ 9223372036854775807 := by omega
  have hNm : (N : Int) - 1 = (m : Int) := by omega
  have hN0 : (0 : Int) < (N : Int) := by omega
  have hfl : l.length * 40 ≤ 140737488355328 ∧ ∀ y ∈ l, CC.fits y := ⟨by omega, fun y hy => hf.2 y (by simp [hy])⟩
  have hfx : x.args.length * 8 ≤ 140737488355328 := by have : x.args.length * 8 ≤ 140737488351232 := hf.2 x (by simp); omega
  have HFL := Lib.hid hfl
  have hmN : m < N := by omega
  obtain ⟨_, _, ess, he, hlc, hcm, hA, hr, hall⟩ := hl
  simp at he
  obtain ⟨rfl, hN9, rfl⟩ := he
  rw [hlen] at hlc hr
  obtain ⟨b, off, cs, y, rfl, hb, hx, hrd, hcell⟩ := Shp.elem hr hall hmN hlen.symm
  obtain rfl : x = y := by
    rw [List.getElem?_append_right (by omega), hm, Nat.sub_self] at hx
    simpa using hx
  obtain ⟨A2, c2, rfl, _, _, hra, _⟩ := CC.elim hrd
  have e0 := hcell 0 _ rfl
  have e1 := hcell 1 _ rfl
  have e2 := hcell 2 _ rfl
  have hsz : CC.sh.size = 3 := rfl
  rw [hsz] at e0 e1 e2
  simp only [Nat.add_zero] at e0
  have HE := Lib.hid (show ∀ w', Below w.heap.size w w' → w'.cell? ⟨b, off + m * 3, none⟩ = some (.int .i64 x.site) ∧ w'.cell? ⟨b, off + m * 3 + 1, none⟩ = some (.int .i64 x.fn) ∧ w'.cell? ⟨b, off + m * 3 + 2, none⟩ = some (.slice A2 x.args.length c2) from fun w' hw => ⟨(hw.cell (p := ⟨b, _, none⟩) hb).trans e0, (hw.cell (p := ⟨b, _, none⟩) hb).trans e1, (hw.cell (p := ⟨b, _, none⟩) hb).trans e2⟩)
  have HR := Lib.hid (show Rd w w.heap.size 1 A2 x.args.length (x.args.map (Value.int .i64)) from hra)
  have hmc : m ≤ c := by omega
  have HNe := Lib.hid hN
  have HMe := Lib.hid hm
  clear hra hrd hcell hx hsz hr hall hA e0 e1 e2 hlen hN9 hcm hf hfl hN hm
  go_enter Try.func4, Try.ntmps4
  go_wp2_with fail
  refine (calls_any _ N c (l ++ [x]) _ HL.out HFl.out).mono ?_
  rintro e w1 ⟨v1, rfl, hown1, hb1⟩
  obtain ⟨A1, c1, rfl⟩ := hown1.form
  have hr1 := hown1.read
  rw [HLen.out] at hr1
  rw [HLen.out]
  clear hown1
  go_wp2_with fail
  refine (defersPop_t A1 c1 m N l x _ HMe.out HNe.out hr1 HF.out).mono ?_
  rintro e w2 ⟨v2, A3, c3, rfl, hown2, hx2, hb2⟩
  have hr2 := hown2.read
  obtain ⟨A4, c4, rfl⟩ := hown2.form
  have HB2 := Lib.hid (sq hb1 hb2)
  clear hr1 hown2 hb1 hb2
  have HR2 := Lib.hid hr2
  have HX2 := Lib.hid hx2
  clear hr2 hx2
  go_wp2_with fail
  refine (defersPop_t _ _ 0 1 [] oneCC _ rfl rfl (oneCC_rd (w2.alloc _) _ (by simp)) oneCC_fits).mono ?_
  rintro e w5 ⟨v5, A6, c6, rfl, _, _, hb5⟩
  have d0 := hb5.cell (p := ⟨w2.heap.size, 0, none⟩) (by go_size); have d1 := hb5.cell (p := ⟨w2.heap.size, 1, none⟩) (by go_size); have d2 := hb5.cell (p := ⟨w2.heap.size, 2, none⟩) (by go_size); (try simp at d0 d1 d2)
  have hs5 := hb5.size
  simp at hs5
  have hl5 : w2.heap.size < w5.heap.size := by omega
  have HB5 := Lib.hid (show Below w2.heap.size w2 w5 from sq (al2 (al _) _) hb5)
  clear hb5
  go_wp2_with fail
  have hg5 : w2.heap.size < (w5.alloc (.cells #[.int .i64 oneCC.site, .int .i64 oneCC.fn, .slice A6 oneCC.args.length c6] 25)).heap.size := by simp; omega
  have hI0 : (w5.alloc (.cells #[.int .i64 oneCC.site, .int .i64 oneCC.fn, .slice A6 oneCC.args.length c6] 25)).cell? ⟨w2.heap.size, 0, none⟩ = some (.int .i64 x.site) ∧ (w5.alloc (.cells #[.int .i64 oneCC.site, .int .i64 oneCC.fn, .slice A6 oneCC.args.length c6] 25)).cell? ⟨w2.heap.size, 1, none⟩ = some (.int .i64 x.fn) ∧ (w5.alloc (.cells #[.int .i64 oneCC.site, .int .i64 oneCC.fn, .slice A6 oneCC.args.length c6] 25)).cell? ⟨w2.heap.size, 2, none⟩ = some (.slice A3 x.args.length c3) := by
    rw [World.cell?_alloc_lt _ _ _ hl5, World.cell?_alloc_lt _ _ _ hl5, World.cell?_alloc_lt _ _ _ hl5]
    exact ⟨d0, d1, d2⟩
  have hB0 : Below w2.heap.size w2 (w5.alloc (.cells #[.int .i64 oneCC.site, .int .i64 oneCC.fn, .slice A6 oneCC.args.length c6] 25)) := sq HB5.out (al _)
  generalize w5.alloc (.cells #[.int .i64 oneCC.site, .int .i64 oneCC.fn, .slice A6 oneCC.args.length c6] 25) = W at *
  have HB := Lib.hid (fun w' (h : Below W.heap.size W w') => (hB0.trans (h.mono hB0.size) : Below w2.heap.size w2 w'))
  have HS := Lib.hid (show ∀ w', Below W.heap.size W w' → w'.cell? ⟨w2.heap.size, 0, none⟩ = some (.int .i64 x.site) ∧ w'.cell? ⟨w2.heap.size, 1, none⟩ = some (.int .i64 x.fn) ∧ w'.cell? ⟨w2.heap.size, 2, none⟩ = some (.slice A3 x.args.length c3) ∧ w'.cell? ⟨b, off + m * 3, none⟩ = some (.int .i64 x.site) ∧ w'.cell? ⟨b, off + m * 3 + 1, none⟩ = some (.int .i64 x.fn) ∧ w'.cell? ⟨b, off + m * 3 + 2, none⟩ = some (.slice A2 x.args.length c2) ∧ Below W.heap.size W w' from fun w' hw => ⟨(hw.cell (p := ⟨w2.heap.size, 0, none⟩) hg5).trans hI0.1, (hw.cell (p := ⟨w2.heap.size, 1, none⟩) hg5).trans hI0.2.1, (hw.cell (p := ⟨w2.heap.size, 2, none⟩) hg5).trans hI0.2.2, (HE.out w' (sq HB2.out (HB.out w' hw))).1, (HE.out w' (sq HB2.out (HB.out w' hw))).2.1, (HE.out w' (sq HB2.out (HB.out w' hw))).2.2, hw⟩)
  have HRX := Lib.hid (fun w' (h : Below W.heap.size W w') => (by
    obtain ⟨A9, c9, e9, _, _, hra9, _⟩ := CC.elim HX2.out
    simp at e9
    obtain ⟨rfl, rfl⟩ := e9
    exact RdM.more (RdM.keep hra9 fun p hp => (HB.out w' h).cell hp.2) (fun b hb => Nat.lt_of_lt_of_le hb.2 (HB.out w' h).size) : Rd w' w'.heap.size 1 A3 x.args.length (x.args.map (Value.int .i64))))
  have hbelW : Below W.heap.size W W := Below.refl _ _
  have hS := HS.out W hbelW
  have hk0 : (0 : Int) ≤ (m : Int) := by omega
  have hk1 : (m : Int) < (N : Int) := by omega
  clear hB0 hI0 d0 d1 d2 hs5 hl5
  go_region_held3 (fun w' => w'.cell? ⟨w2.heap.size, 0, none⟩ = some (.int .i64 x.site) ∧ w'.cell? ⟨w2.heap.size, 1, none⟩ = some (.int .i64 x.fn) ∧ w'.cell? ⟨w2.heap.size, 2, none⟩ = some (.slice A3 x.args.length c3) ∧ w'.cell? ⟨b, off + m * 3, none⟩ = some (.int .i64 x.site) ∧ w'.cell? ⟨b, off + m * 3 + 1, none⟩ = some (.int .i64 x.fn) ∧ w'.cell? ⟨b, off + m * 3 + 2, none⟩ = some (.slice A2 x.args.length c2) ∧ Below W.heap.size W w')
    (first | exact HS.out _ hbelW.drew | exact HS.out _ (sq (lst7 (by assumption)) (by assumption)))
    (first
      | (go_at_call 15; refine (sameCalls_v _ _ l _ (Shp.into (S := Shp.slice CC.sh) HR2.out (HB.out _ (lst7 (by assumption))) (HB.out _ (lst7 (by assumption))).size) (Shp.into (S := Shp.slice CC.sh) HI.out (sq HB2.out (HB.out _ (lst7 (by assumption)))) (sq HB2.out (HB.out _ (lst7 (by assumption)))).size) HFL.out).mono ?_; rintro e w7 ⟨rfl, hb7⟩)
      | (go_at_call 19; refine (sameCall_same x _ _ _ _ _ (HRX.out _ (lst7 (by assumption))) ((HR.out.below (sq HB2.out (HB.out _ (lst7 (by assumption))))).more (sq HB2.out (HB.out _ (lst7 (by assumption)))).size) hfx).mono ?_; rintro e w8 ⟨rfl, hb8⟩))
  go_wp2
  go_ret
  exact ⟨rfl, sq HB2.out (HB.out _ (lst7 (by assumption)))⟩
theorem walkDefersPop (v0 : Value) (w : World) (w0 : IsCalls w v0) : Calls Try.prog 4 #[v0] w fun e w' => e = .returned (.bool true) ∧ Below w.heap.size w w' := by
  obtain ⟨l, hl, hlf⟩ := w0
  obtain ⟨A, c, rfl⟩ := sl_form hl
  rcases List.eq_nil_or_concat l with rfl | ⟨l', x, rfl⟩
  · exact popLaw_nil A c w hl
  · rw [List.concat_eq_append] at *
    exact popLaw_cons A c l'.length _ l' x w rfl (by simp) hl hlf
end Go.Proofs.Ytkkehbfceabhmaa
