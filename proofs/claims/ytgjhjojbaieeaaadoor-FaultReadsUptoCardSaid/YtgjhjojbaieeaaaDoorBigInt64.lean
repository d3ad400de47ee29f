/- Numbers of any size: do they fit 64 bits; their 64 bits. Conditions: none. -/
import Derived.Test.YtgjhjojbaieeaaaDoorBigLen
import Derived.Test.YtgjhjojbaieeaaaDoorRd
set_option maxRecDepth 20000
namespace Go.Proofs.YtgjhjojbaieeaaaDoor
open Go.ChangeShapes Go.WideShapes Go.ChangeAt Go.RowKit
theorem isInt64_any (g : Nat) (z : Int) (w : World) (B : Nat) (h : Big w B g z) (hw9 : (wds z.natAbs).length ≤ 1000000) :
    Calls Tryd.prog 22 #[.pointer (some ⟨g, 0, none⟩)] w fun e w' => e = .returned (.bool (decide (inI z))) ∧ ∃ n, w' = w.drewN n := by
  have HBig := Lib.hid h
  obtain ⟨A, c, c0, c1, hr, hl, hA, f0, f1, hg⟩ := h
  obtain ⟨i1, i2⟩ := wl_iff z.natAbs
  have HR := Lib.hid hr
  generalize hn : (wds z.natAbs).length = n at *
  have HN := Lib.hid hn.symm
  generalize hW : wl z.natAbs = W at *
  have HW := Lib.hid hW
  clear hr hA hl hn hW
  by_cases h1 : z.natAbs < 9223372036854775808
  · have gW : decide ((W : Int) < 64) = true := decide_eq_true (by have := i1.2 h1; omega)
    have HI := Lib.hid (show decide (inI z) = true from decide_eq_true (by unfold inI; omega))
    clear i1 i2 h1
    go_enter Tryd.func22, Tryd.ntmps22
    go_wp2_with fail
    refine (length_any A n c z.natAbs HN.out w B HR.out hw9).mono ?_
    rintro e w2 ⟨rfl, rfl⟩
    rw [HW.out]
    go_wp2_with fail
    go_ret
    exact ⟨by rw [HI.out]; rfl, 0, rfl⟩
  · have gW : decide ((W : Int) < 64) = false := decide_eq_false (by have := mt i1.1; omega)
    by_cases h2 : z.natAbs < 18446744073709551616
    · have gE : ((W : Int) == 64) = true := by rw [beq_iff_eq]; have := i2.2 ⟨by omega, h2⟩; omega
      by_cases hz : z < 0
      · rw [decide_eq_true hz] at c0
        have HH := Lib.hid (And.intro h1 (And.intro h2 hz))
        clear i1 i2 h1 h2 hz
        go_enter Tryd.func22, Tryd.ntmps22
        go_wp2_with fail
        refine (length_any A n c z.natAbs HN.out w B HR.out hw9).mono ?_
        rintro e w2 ⟨rfl, rfl⟩
        rw [HW.out]
        go_wp2_with fail
        refine (tz_any g z _ B HBig.out (by have := HH.out.2.2; omega) HH.out.2.1).mono ?_
        rintro e w3 ⟨⟨k, rfl, hk, hk1, hk2⟩, m, rfl⟩
        have hkk : k = 63 ↔ z.natAbs = 9223372036854775808 := by
          have h3 := HH.out
          constructor
          · rintro rfl
            rw [show (2 : Nat) ^ 63 = 9223372036854775808 by decide] at hk1
            omega
          · intro e
            rw [e] at hk1 hk2
            rcases Nat.lt_or_ge k 63 with hlt | hge
            · exfalso
              obtain ⟨d, rfl⟩ : ∃ d, d = 62 - k := ⟨_, rfl⟩
              have e2 : 9223372036854775808 = 2 ^ k * (2 * 2 ^ (62 - k)) := by
                rw [← Nat.pow_succ', ← Nat.pow_add, show k + (62 - k).succ = 63 by omega]
              rw [e2, Nat.mul_div_cancel_left _ (Nat.two_pow_pos k)] at hk2
              omega
            · omega
        have HK := Lib.hid hkk
        clear hkk hk1 hk2
        by_cases h63 : k = 63
        · have g63 : ((k : Int) == 63) = true := by simp [h63]
          have HI := Lib.hid (show decide (inI z) = true from decide_eq_true (by
            have := HK.out.1 h63
            have := HH.out.2.2
            unfold inI; omega))
          clear h63
          go_wp2_with fail
          go_ret
          exact ⟨by rw [HI.out]; rfl, m, rfl⟩
        · have g63 : ((k : Int) == 63) = false := beq_eq_false_iff_ne.2 (by omega)
          have HI := Lib.hid (show decide (inI z) = false from decide_eq_false (by
            have h5 := mt HK.out.2 h63
            have h6 := HH.out
            unfold inI; omega))
          clear h63
          go_wp2_with fail
          go_ret
          exact ⟨by rw [HI.out]; rfl, m, rfl⟩
      · rw [decide_eq_false hz] at c0
        have HI := Lib.hid (show decide (inI z) = false from decide_eq_false (by unfold inI; omega))
        clear i1 i2 h1 h2 hz
        go_enter Tryd.func22, Tryd.ntmps22
        go_wp2_with fail
        refine (length_any A n c z.natAbs HN.out w B HR.out hw9).mono ?_
        rintro e w2 ⟨rfl, rfl⟩
        rw [HW.out]
        go_wp2_with fail
        go_ret
        exact ⟨by rw [HI.out]; rfl, 0, rfl⟩
    · have gE : ((W : Int) == 64) = false := beq_eq_false_iff_ne.2 (by have := mt i2.1; omega)
      have HI := Lib.hid (show decide (inI z) = false from decide_eq_false (by unfold inI; omega))
      clear i1 i2 h1 h2
      go_enter Tryd.func22, Tryd.ntmps22
      go_wp2_with fail
      refine (length_any A n c z.natAbs HN.out w B HR.out hw9).mono ?_
      rintro e w2 ⟨rfl, rfl⟩
      rw [HW.out]
      go_wp2_with fail
      go_ret
      exact ⟨by rw [HI.out]; rfl, 0, rfl⟩
theorem or_hi (x y : Nat) (hx : x < 4294967296) (hy : y < 4294967296) : bits .or .u64 (x : Int) ((y : Int) * 4294967296) = ((x + 4294967296 * y : Nat) : Int) := by
  have e : x ||| y * 4294967296 = x + 4294967296 * y := by
    rw [or_add (s := 32) (by simpa using hx) ⟨y, by rw [Nat.mul_comm]⟩]; omega
  have := orU x (y * 4294967296) (by omega) (by omega) (by rw [e]; omega)
  rw [e] at this
  rw [← this]
  congr 1
theorem uint64_any (g : Nat) (z : Int) (w : World) (B : Nat) (h : Big w B g z) (hz : z.natAbs < 18446744073709551616) :
    Calls Tryd.prog 34 #[.pointer (some ⟨g, 0, none⟩)] w fun e w' => e = .returned (.int .u64 (z.natAbs : Int)) ∧ ∃ n, w' = w.drewN n := by
  obtain ⟨A, c, c0, c1, hr, hl, hA, f0, f1, hg⟩ := h
  generalize z.natAbs = N at *
  by_cases h0 : N = 0
  · subst h0
    rw [wds_zero] at c1
    clear c0 hr
    go_enter Tryd.func34, Tryd.ntmps34
    go_wp2_with fail
    go_ret
    exact ⟨rfl, 0, rfl⟩
  · by_cases h1 : N < 4294967296
    · rw [wds_one h1 h0] at c1 hr
      obtain ⟨b, off, rfl, hc⟩ := cell32 hr (show 0 < 1 by omega)
      rw [Nat.add_zero] at hc
      have hc' : w.cell? ⟨b, off, none⟩ = some (.int .u32 (N : Int)) := hc
      clear c0 hr hc
      go_enter Tryd.func34, Tryd.ntmps34
      go_wp2_with fail
      go_ret
      exact ⟨rfl, 0, rfl⟩
    · have e2 : wds N = [N % 4294967296, N / 4294967296] := by
        rw [wds_pos h0, wds_one (by omega) (by omega)]
      rw [e2] at c1 hr
      obtain ⟨b, off, rfl, hc⟩ := cell32 hr (show 0 < 2 by omega)
      obtain ⟨b', off', e, hd⟩ := cell32 hr (show 1 < 2 by omega)
      injection e with e
      injection e with e e'
      subst e e'
      rw [Nat.add_zero] at hc
      obtain ⟨x, hx⟩ : ∃ x, x = N % 4294967296 := ⟨_, rfl⟩
      obtain ⟨y, hy⟩ : ∃ y, y = N / 4294967296 := ⟨_, rfl⟩
      have hc' : w.cell? ⟨b, off, none⟩ = some (.int .u32 (x : Int)) := by rw [hx]; exact hc
      have hd' : w.cell? ⟨b, off + 1, none⟩ = some (.int .u32 (y : Int)) := by rw [hy]; exact hd
      have hO := or_hi x y (by omega) (by omega)
      rw [show x + 4294967296 * y = N by omega] at hO
      have hxl : x < 4294967296 := by omega
      have hyl : y < 4294967296 := by omega
      clear c0 hr hc hd hx hy
      go_enter Tryd.func34, Tryd.ntmps34
      go_wp2_with fail
      go_ret
      exact ⟨rfl, 0, rfl⟩
theorem int64_any (g : Nat) (z : Int) (w : World) (B : Nat) (h : Big w B g z) (hz : inI z) :
    Calls Tryd.prog 23 #[.pointer (some ⟨g, 0, none⟩)] w fun e w' => e = .returned (.int .i64 z) ∧ ∃ n, w' = w.drewN n := by
  have HBig := Lib.hid h
  have HZ := Lib.hid (show z.natAbs < 18446744073709551616 by unfold inI at hz; omega)
  obtain ⟨A, c, c0, c1, hr, hl, hA, f0, f1, hg⟩ := h
  have HI := Lib.hid (show (z < 0 → RowKit.wrap64 (-RowKit.wrap64 (z.natAbs : Int)) = z) ∧ (¬ z < 0 → RowKit.wrap64 (z.natAbs : Int) = z) by
    unfold inI at hz
    refine ⟨fun hn => ?_, fun hn => ?_⟩
    · rcases Nat.lt_or_ge z.natAbs 9223372036854775808 with h | h
      · have e : RowKit.wrap64 (z.natAbs : Int) = (z.natAbs : Int) := by unfold RowKit.wrap64; omega
        rw [e]; unfold RowKit.wrap64; omega
      · obtain rfl : z = -9223372036854775808 := by omega
        decide +kernel
    · unfold RowKit.wrap64; omega)
  by_cases hn : z < 0
  · rw [decide_eq_true hn] at c0
    have HE := Lib.hid (HI.out.1 hn)
    clear hn hr hA hz
    go_enter Tryd.func23, Tryd.ntmps23
    go_wp2_with fail
    refine (uint64_any g z w B HBig.out HZ.out).mono ?_
    rintro e w2 ⟨rfl, n, rfl⟩
    generalize z.natAbs = N at *
    go_wp2_with fail
    go_ret
    exact ⟨by rw [← HE.out]; rfl, n, rfl⟩
  · rw [decide_eq_false hn] at c0
    have HE := Lib.hid (HI.out.2 hn)
    clear hn hr hA hz
    go_enter Tryd.func23, Tryd.ntmps23
    go_wp2_with fail
    refine (uint64_any g z w B HBig.out HZ.out).mono ?_
    rintro e w2 ⟨rfl, n, rfl⟩
    generalize z.natAbs = N at *
    go_wp2_with fail
    go_ret
    exact ⟨by rw [← HE.out]; rfl, n, rfl⟩
end Go.Proofs.YtgjhjojbaieeaaaDoor
