/- Numbers of any size: DivMod and Mod by 2^64. Conditions: none. -/
import Derived.Test.YtdpgcojgnehnpaaBigQuo
set_option maxRecDepth 20000
namespace Go.Proofs.Ytdpgcojgnehnpaa
open Go.ChangeShapes Go.WideShapes Go.ChangeAt Go.RowKit
theorem emod_tmod (x M : Int) (hM : 0 < M) : x % M = if x.tmod M < 0 then x.tmod M + M else x.tmod M := by
  have h1 := Int.mul_tdiv_add_tmod x M
  have h2 := Int.lt_tmod_of_pos x hM
  have h3 := Int.tmod_lt_of_pos x hM
  generalize x.tmod M = r at *
  generalize x.tdiv M = q at *
  subst h1
  rw [Int.mul_add_emod_self_left]
  split
  · rw [← Int.add_emod_right]; exact Int.emod_eq_of_lt (by omega) (by omega)
  · exact Int.emod_eq_of_lt (by omega) (by omega)
theorem wds_mono {a b : Nat} (h : a ≤ b) : (wds a).length ≤ (wds b).length := by
  rcases Nat.lt_or_ge (wds b).length (wds a).length with h1 | h1
  · have := wds_len_lt h1; omega
  · exact h1
theorem setN_any (g gx : Nat) (x : Int) (hne : gx ≠ g) (w : World) (hw : Wr w g) (hx : Big w w.heap.size gx x) (hl : (wds x.natAbs).length ≤ 1000000) :
    Calls Try.prog 197 #[.pointer (some ⟨g, 0, none⟩), .pointer (some ⟨gx, 0, none⟩)] w fun e w' => e = .returned (.pointer (some ⟨g, 0, none⟩)) ∧ BigN w.heap.size w' g x ∧ w.grownBy w' (some g) := by
  obtain ⟨Ax, cx, x0, x1, xr, _⟩ := hx
  have HX := Lib.hid xr
  have HZ := Lib.hid (sgz_of x)
  have HW := Lib.hid hw
  have HLg := Lib.hid hw.lt
  clear xr hw
  have hS0 : C2 gx (.bool (decide (x < 0))) (.slice Ax (wds x.natAbs).length cx) w := ⟨x0, x1⟩
  clear x0 x1
  generalize decide (x < 0) = a at *
  generalize x.natAbs = X at *
  have hId : C2 gx (.bool a) (.slice Ax (wds X).length cx) w.drew := hS0
  go_enter Try.func197, Try.ntmps197
  go_wp2_with fail
  go_region_held3 (fun w' => w'.cell? ⟨gx, 0, none⟩ = some (.bool a) ∧ w'.cell? ⟨gx, 1, none⟩ = some (.slice Ax (wds X).length cx))
    (first | exact hId | exact C2.below (by assumption) (WOk.below (by assumption)) | exact C2.grown (by assumption) (by assumption) hne)
    (first
      | (go_at_call 172; refine (twin_ok _ _ cx X rfl _ HX.out.drew hl).mono ?_; rintro e w1 ⟨A3, c3, rfl, hok⟩)
      | (go_at_call 106; refine (giveN_ok _ _ _ _ _ x w _ HZ.out (HW.out.below (WOk.below (WOk.undrew (by assumption)))) HLg.out (WOk.undrew (by assumption))).mono ?_; rintro e w3 ⟨rfl, hB3, hg3, hg4⟩))
  go_wp2
  go_ret
  exact ⟨rfl, by assumption, by assumption⟩
theorem alloc_wr (w : World) (g : Nat) (t : TypeId) (hg : g = w.heap.size) : Wr (w.alloc (.cells #[.bool false, .slice none 0 0] t)) g := by
  subst hg
  exact ⟨.bool false, .slice none 0 0, by simp, by simp, by simp, by simp⟩
set_option maxHeartbeats 1000000 in
theorem divMod_any (g gx gy gr : Nat) (x : Int) (hgr : g ≠ gr) (w : World) (hw : Wr w g) (hwr : Wr w gr) (hx : Big w w.heap.size gx x) (hy : Big w w.heap.size gy (M64 : Int)) (hl : (wds x.natAbs).length ≤ 1000) :
    Calls Try.prog 177 #[.pointer (some ⟨g, 0, none⟩), .pointer (some ⟨gx, 0, none⟩), .pointer (some ⟨gy, 0, none⟩), .pointer (some ⟨gr, 0, none⟩)] w fun e w' => e = .returned (.tuple #[.pointer (some ⟨g, 0, none⟩), .pointer (some ⟨gr, 0, none⟩)]) ∧ Big w' w'.heap.size gr (x % (M64 : Int)) ∧ Gr2 w w' g gr := by
  have hg1 := hw.lt
  have hg2 := hwr.lt
  have hgy : gy < w.heap.size := hy.wr.lt
  have HX := Lib.hid hx
  have HY := Lib.hid hy
  have HW := Lib.hid (And.intro hw hwr)
  have HL := Lib.hid hl
  have hm0 : ((M64 : Int) < 0) = False := by unfold M64; simp
  have hE := emod_tmod x (M64 : Int) (by unfold M64; decide)
  have HE := Lib.hid hE
  clear hx hy hw hwr hl hE
  go_enter Try.func177, Try.ntmps177
  go_wp2_with fail
  refine (setN_any w.heap.size gy (M64 : Int) (by omega) _ (alloc_wr w _ _ rfl) (HY.out.into (Nat.le_refl _) (al _)) (by rw [show ((M64 : Int)).natAbs = M64 from rfl, wds_M64]; decide)).mono ?_
  rintro e w1 ⟨rfl, hD1, hg1'⟩
  have hB1 : Below w.heap.size w w1 := below_gb (al _) (by simp) (Nat.le_refl _) hg1'
  have HD1 := Lib.hid hD1
  have HB1 := Lib.hid hB1
  have hs1 := hB1.size
  have hd1 : w.heap.size < w1.heap.size := hD1.1.wr.lt
  clear hD1 hB1 hg1'
  go_wp2_with fail
  refine (quoRem_any g gx gy gr x (M64 : Int) hgr w1 (HW.out.1.below HB1.out) (HW.out.2.below HB1.out) (HX.out.into (Nat.le_refl _) HB1.out) (HY.out.into (Nat.le_refl _) HB1.out) HL.out (.inr rfl)).mono ?_
  rintro e w2 ⟨rfl, hZ, hR, hG⟩
  have HZ := Lib.hid hZ
  have HR := Lib.hid hR
  have HG := Lib.hid hG
  have HD2 := Lib.hid (HD1.out.gr2 hG (by omega) (by omega) (by simp; omega) (by simp; omega))
  clear hZ hR hG
  have hr0 := HR.out.1
  obtain ⟨Ar, cr, r0, r1, _⟩ := hr0
  have HR1 := Lib.hid r1
  clear r1
  by_cases hneg : x.tmod (M64 : Int) < 0
  · rw [decide_eq_true hneg] at r0
    have HN := Lib.hid hneg
    clear hneg
    have hd0 := HD2.out.1
    obtain ⟨Ad, cd, d0, _⟩ := hd0
    rw [decide_eq_false (by rw [hm0]; exact id)] at d0
    go_wp2_with fail
    refine (newInt_any 1 (by omega) w2).mono ?_
    rintro e w3 ⟨g1, rfl, hg1n, hO, hb3⟩
    have HO := Lib.hid (And.intro hO hb3)
    have hs2 := HG.out.2.2.2.1
    have hs3 := hb3.size
    clear hO hb3
    go_wp2_with fail
    refine (intSub_any g g g1 (x.tdiv (M64 : Int)) 1 w3 (HZ.out.1.wr.below HO.out.2) (HZ.out.1.into (Nat.le_refl _) HO.out.2) HO.out.1 (by rw [Int.natAbs_tdiv]; exact Nat.le_trans (wds_mono (Nat.div_le_self _ _)) (Nat.le_trans HL.out (by omega))) (by rw [show (1 : Int).natAbs = 1 from rfl, wds_one (by omega) (by omega)]; decide)).mono ?_
    rintro e w4 ⟨rfl, hZ4, hg4⟩
    have HR3 := Lib.hid ((HR.out.below HO.out.2).grown hg4 (Ne.symm hgr) (by omega))
    have HD3 := Lib.hid ((HD2.out.below HO.out.2).grown hg4 (by omega) (by simp; omega))
    have HG4 := Lib.hid hg4
    clear hZ4 hg4
    go_wp2_with fail
    refine (intAdd_any gr gr w.heap.size (x.tmod (M64 : Int)) (M64 : Int) w4 HR3.out.1.wr HR3.out.1 HD3.out.1 (by rw [Int.natAbs_tmod]; exact Nat.le_trans (wds_mono (Nat.mod_le _ _)) (Nat.le_trans HL.out (by omega))) (by rw [show ((M64 : Int)).natAbs = M64 from rfl, wds_M64]; decide)).mono ?_
    rintro e w5 ⟨rfl, hR5, hg5⟩
    have HR5 := Lib.hid hR5
    have HG5 := Lib.hid hg5
    clear hR5 hg5
    go_wp2_with fail
    go_ret2
    refine ⟨rfl, ?_, ((((HG.out.pre HB1.out).more (gb_below (some g) HO.out.2) (.inr (.inl rfl))).more HG4.out (.inr (.inl rfl))).more HG5.out (.inr (.inr rfl)))⟩
    rw [HE.out, if_pos HN.out]
    exact HR5.out
  · rw [decide_eq_false hneg] at r0
    have HN := Lib.hid hneg
    clear hneg
    go_wp2_with fail
    go_ret2
    refine ⟨rfl, ?_, HG.out.pre HB1.out⟩
    rw [HE.out, if_neg (by have := HN.out; omega)]
    exact HR.out.1
theorem mod_any (g gx gy : Nat) (x : Int) (w : World) (hw : Wr w g) (hx : Big w w.heap.size gx x) (hy : Big w w.heap.size gy (M64 : Int)) (hl : (wds x.natAbs).length ≤ 1000) :
    Calls Try.prog 115 #[.pointer (some ⟨g, 0, none⟩), .pointer (some ⟨gx, 0, none⟩), .pointer (some ⟨gy, 0, none⟩)] w fun e w' => e = .returned (.pointer (some ⟨g, 0, none⟩)) ∧ Big w' w'.heap.size g (x % (M64 : Int)) ∧ w.grownBy w' (some g) := by
  have hg1 := hw.lt
  have HX := Lib.hid hx
  have HY := Lib.hid hy
  have HW := Lib.hid hw
  clear hx hy hw
  go_enter Try.func115, Try.ntmps115
  go_wp2_with fail
  refine (divMod_any w.heap.size gx gy g x (by omega) _ (alloc_wr w _ _ rfl) (HW.out.below (al _)) (HX.out.into (Nat.le_refl _) (al _)) (HY.out.into (Nat.le_refl _) (al _)) hl).mono ?_
  rintro e w1 ⟨rfl, hR, hG⟩
  have HR := Lib.hid hR
  have HG := Lib.hid (hG.pre (al _))
  clear hR hG
  go_wp2_with fail
  go_ret
  obtain ⟨q1, q2, q3, q4, q5⟩ := HG.out
  exact ⟨rfl, HR.out, ⟨q1, q2, q3, q4, fun k hk hne => q5 k hk (by omega) (fun e => hne (by rw [e]))⟩⟩
end Go.Proofs.Ytdpgcojgnehnpaa
