/- Numbers of any size: multiplied. Conditions: none. -/
import Derived.Test.YtgjhjojbaieeaaaDoorBigAdd
import Derived.IntWalk
set_option maxRecDepth 20000
namespace Go.Proofs.YtgjhjojbaieeaaaDoor
open Go.ChangeShapes Go.WideShapes Go.ChangeAt Go.RowKit
/-- What the outer loop of 'mul' keeps: the row r. -/
def Mu (l l2 r : List Nat) (i : Nat) : Prop := r.length = l.length + l2.length ∧ (∀ x ∈ r, x < 4294967296) ∧ wv r = wv (l.take i) * wv l2 ∧ ∀ q, i + l2.length ≤ q → r.getD q 0 = 0
/-- What the inner loop keeps. -/
def Mj (l l2 r : List Nat) (i j c : Nat) : Prop := r.length = l.length + l2.length ∧ (∀ x ∈ r, x < 4294967296) ∧ c < 4294967296 ∧ wv r + 4294967296 ^ (i + j) * c = wv (l.take i) * wv l2 + l.getD i 0 * 4294967296 ^ i * wv (l2.take j) ∧ ∀ q, i + l2.length ≤ q → r.getD q 0 = 0
theorem Mu.start (l l2 : List Nat) : Mu l l2 (List.replicate (l.length + l2.length) 0) 0 := by
  refine ⟨by simp, fun x hx => by rw [(List.mem_replicate.1 hx).2]; omega, by rw [wv_rep]; simp [wv], fun q _ => ?_⟩
  rw [List.getD, List.getElem?_replicate]
  split <;> rfl
theorem Mj.start {l l2 r : List Nat} {i : Nat} (h : Mu l l2 r i) : Mj l l2 r i 0 0 := ⟨h.1, h.2.1, by omega, by rw [h.2.2.1]; simp [wv], h.2.2.2⟩
theorem getD_set_ne {r : List Nat} {a b x : Nat} (h : a ≠ b) : (r.set a x).getD b 0 = r.getD b 0 := by
  rw [List.getD, List.getD, List.getElem?_set_ne h]
theorem mem_set {r : List Nat} {a x : Nat} (h : ∀ d ∈ r, d < 4294967296) (hx : x < 4294967296) : ∀ d ∈ r.set a x, d < 4294967296 := by
  intro d hd
  rcases List.mem_or_eq_of_mem_set hd with h1 | h1
  · exact h d h1
  · rw [h1]; exact hx
theorem Mj.step {l l2 r : List Nat} {i j c Y : Nat} (h : Mj l l2 r i j c) (hi : i < l.length) (hj : j < l2.length) (hl : ∀ d ∈ l, d < 4294967296) (hl2 : ∀ d ∈ l2, d < 4294967296) (hY : Y = c + l.getD i 0 * l2.getD j 0 + r.getD (i + j) 0) : Mj l l2 (r.set (i + j) (Y % 4294967296)) i (j + 1) (Y / 4294967296) := by
  obtain ⟨h1, h2, h3, h4, h5⟩ := h
  have hs := mul_step (r := r) (b := l2) (c := c) (i := i) (j := j) (x := l.getD i 0) (V := wv (l.take i) * wv l2) (by omega) h4
  have hf := mul_fit h3 (getD_lt hl i) (getD_lt hl2 j) (getD_lt h2 (i + j))
  rw [← hY] at hs hf
  exact ⟨by simpa using h1, mem_set h2 (Nat.mod_lt _ (by omega)), hf.2, hs, fun q hq => by rw [getD_set_ne (by omega)]; exact h5 q hq⟩
theorem Mj.done {l l2 r : List Nat} {i c : Nat} (h : Mj l l2 r i l2.length c) (hi : i < l.length) : Mu l l2 (r.set (i + l2.length) c) (i + 1) := by
  obtain ⟨h1, h2, h3, h4, h5⟩ := h
  rw [List.take_of_length_le (Nat.le_refl _)] at h4
  have hr := mul_row (r := r) (a := l) (b := l2) (c := c) (i := i) (by omega) (h5 _ (Nat.le_refl _)) h4
  exact ⟨by simpa using h1, mem_set h2 h3, hr, fun q hq => by rw [getD_set_ne (by omega)]; exact h5 q (by omega)⟩
theorem prod_cast (x y : Nat) (hx : x < 4294967296) (hy : y < 4294967296) : ∃ P : Nat, (x : Int) * (y : Int) = (P : Int) ∧ P = x * y ∧ P ≤ 18446744065119617025 :=
  ⟨x * y, by rw [Int.natCast_mul], rfl, Nat.mul_le_mul (show x ≤ 4294967295 by omega) (show y ≤ 4294967295 by omega)⟩
set_option maxHeartbeats 2000000 in
theorem mul_any (A A2 : Option Addr) (n n2 c c2 : Nat) (l l2 : List Nat) (hnl : n = l.length) (hnl2 : n2 = l2.length) (hl : ∀ d ∈ l, d < 4294967296) (hl2 : ∀ d ∈ l2, d < 4294967296) (w : World) (h : Rd w w.heap.size 1 A n (u32s l)) (h2 : Rd w w.heap.size 1 A2 n2 (u32s l2)) (hn : n ≤ 1000000) (hn2 : n2 ≤ 1000000) :
    Calls Tryd.prog 28 #[.slice A n c, .slice A2 n2 c2] w (WPost (wv l * wv l2) w) := by
  obtain ⟨i0, hi, hz0, hz1, hz2⟩ := info_parts info_u32
  have HN := Lib.hid (And.intro hnl hnl2)
  have HL := Lib.hid (And.intro hl hl2)
  have HR := Lib.hid (And.intro h h2)
  clear hnl hnl2 hl hl2 h h2
  by_cases h0 : n = 0 ∨ n2 = 0
  · have hz : wv l * wv l2 = 0 := by
      rcases h0 with h0 | h0
      · rw [List.eq_nil_of_length_eq_zero (l := l) (by have := HN.out.1; omega)]; simp [wv]
      · rw [List.eq_nil_of_length_eq_zero (l := l2) (by have := HN.out.2; omega)]; simp [wv]
    have HZ := Lib.hid hz
    clear hz
    have fin : WPost (wv l * wv l2) w (.returned (.slice none 0 0)) w := by
      rw [HZ.out]
      exact ⟨none, 0, by rw [wds_zero]; rfl, by rw [wds_zero]; exact Rd.nil, by rw [wds_zero]; simp, (fun _ _ e => by cases e), Below.refl _ _⟩
    have HFin := Lib.hid fin
    clear fin
    by_cases h00 : n = 0
    · have g0 : ((n : Int) == 0) = true := by simp [h00]
      clear h0 h00
      go_enter Tryd.func28, Tryd.ntmps28
      go_wp2_with fail
      go_ret
      exact HFin.out
    · have g0 : ((n : Int) == 0) = false := by simp; omega
      have g1 : ((n2 : Int) == 0) = true := by simp; omega
      clear h0
      go_enter Tryd.func28, Tryd.ntmps28
      go_wp2_with fail
      go_ret
      exact HFin.out
  · have g0 : ((n : Int) == 0) = false := by simp; omega
    have g1 : ((n2 : Int) == 0) = false := by simp; omega
    go_enter Tryd.func28, Tryd.ntmps28
    go_wp2_with (at_make; refine wpList_make_full _ rfl _ _ 49 rfl w.heap.size 69 i0 (.int .u32 0) 1 Tryd.underlying49 hi hz0 hz1 .i64 .i64 _ _ (n + n2) rfl rfl (by go_num) (by go_num) (by rw [hz2]; omega) (by unfold maxLen; omega) (Nat.le_refl _) ?_; intro w1 hown hgrow)
    rw [made_u32s] at hown
    go_loopw [6] (fun i wr => ∃ (k : Nat) (r : List Nat), i = .int .i64 (k : Int) ∧ k ≤ n ∧ Hid (Mu l l2 r k) ∧ wr.ownsRow w.heap.size 69 1 (.slice (some ⟨w.heap.size, 0, none⟩) (n + n2) (n + n2)) (n + n2) (u32s r) ∧ Below w.heap.size w wr) (fun i _ => n - (intOf i).toNat)
    case atStart => exact ⟨0, _, rfl, by omega, Lib.hid (HN.out.1 ▸ HN.out.2 ▸ Mu.start l l2), hown, (Below.refl _ _).grown hgrow (Nat.le_refl _) (by simp)⟩
    case round =>
      obtain ⟨k, r, rfl, hk, HM, hown1, hbel1⟩ := hrel
      clear hown hgrow
      obtain ⟨wo, rfl⟩ : ∃ wo : World, wo = wr := ⟨_, rfl⟩
      by_cases hlt : k < n
      · go_wp2_with fail
        go_loopw [7, 8] (fun c j wq => ∃ (p c' : Nat) (r : List Nat), j = .int .i64 (p : Int) ∧ c = .int .u64 (c' : Int) ∧ p ≤ n2 ∧ c' < 4294967296 ∧ Hid (Mj l l2 r k p c') ∧ wq.ownsRow w.heap.size 69 1 (.slice (some ⟨w.heap.size, 0, none⟩) (n + n2) (n + n2)) (n + n2) (u32s r) ∧ Below w.heap.size w wq) (fun _ j _ => n2 - (intOf j).toNat)
        case atStart => exact ⟨0, 0, r, rfl, rfl, by omega, by omega, Lib.hid (Mj.start HM.out), hown1, hbel1⟩
        case round =>
          obtain ⟨p, c', r2, rfl, rfl, hp, hc', HJ, hown2, hbel2⟩ := hrel
          clear hown1 hbel1 HM
          have hrl : r2.length = n + n2 := by rw [HJ.out.1, HN.out.1, HN.out.2]
          have HRL := Lib.hid hrl
          clear hrl
          by_cases hlt2 : p < n2
          · obtain ⟨b, off, rfl, hcell⟩ := cell32 (HR.out.1.below hbel2) hlt
            obtain ⟨b2, off2, rfl, hcell2⟩ := cell32 (HR.out.2.below hbel2) hlt2
            have hcl := hown2.cellAt (k + p) (by omega)
            have hfz := hown2.frozenAt (k + p)
            rw [u32s_get _ _ (by have := HRL.out; omega)] at hcl
            have hx := getD_lt HL.out.1 k
            have hy := getD_lt HL.out.2 p
            have hz := getD_lt HJ.out.2.1 (k + p)
            obtain ⟨Y, hY⟩ : ∃ Y, Y = c' + l.getD k 0 * l2.getD p 0 + r2.getD (k + p) 0 := ⟨_, rfl⟩
            have hfit := mul_fit hc' hx hy hz
            rw [← hY] at hfit
            have HS := Lib.hid (And.intro (hown2.stored (k + p) (.int .u32 ((Y : Int) % 4294967296))).1 (HJ.out.step (by have := HN.out.1; omega) (by have := HN.out.2; omega) HL.out.1 HL.out.2 hY))
            generalize l.getD k 0 = x at *
            generalize l2.getD p 0 = y at *
            generalize r2.getD (k + p) 0 = z at *
            obtain ⟨P, hP, hP2, hP3⟩ := prod_cast x y hx hy
            have hY2 := hfit.2
            rw [← hP2] at hY
            have hw1 : IntKind.u64.wrap ((x : Int) * (y : Int)) = (P : Int) := by rw [hP]; exact wrapU _ (by omega) (by omega)
            obtain ⟨Q, hQ⟩ : ∃ Q, Q = P + z := ⟨_, rfl⟩
            have hw2 : IntKind.u64.wrap ((P : Int) + (z : Int)) = (Q : Int) := by rw [wrapU _ (by omega) (by omega), hQ]; simp
            have hw3 : IntKind.u64.wrap ((c' : Int) + (Q : Int)) = (Y : Int) := by rw [wrapU _ (by omega) (by omega)]; omega
            have hw4 : IntKind.i64.wrap ((k : Int) + (p : Int)) = (k : Int) + (p : Int) := IntWalk.i64_in _ (by omega)
            have hkp : ((k : Int) + (p : Int)).toNat = k + p := by omega
            have hk1 : (0 : Int) ≤ (k : Int) := by omega
            have hk2 : (k : Int) < (n : Int) := by omega
            have hp1 : (0 : Int) ≤ (p : Int) := by omega
            have hp2 : (p : Int) < (n2 : Int) := by omega
            have hkp1 : (0 : Int) ≤ (k : Int) + (p : Int) := by omega
            have hkp2 : (k : Int) + (p : Int) < (n : Int) + (n2 : Int) := by omega
            have HYY := Lib.hid hfit.1
            clear hY hP2 hfit hP hQ
            go_wp2_with fail
            go_quiet (fail)
            clear hw1 hw2 hw3 hw4
            have hY1 := HYY.out
            go_wp2
            go_roundw
            case rel => exact ⟨p + 1, Y / 4294967296, _, by go_num, by go_num, by omega, hY2, Lib.hid HS.out.2, by have := HS.out.1; rw [show ((Y : Int) % 4294967296) = ((Y % 4294967296 : Nat) : Int) by omega, u32s_set] at this; exact this, (dr hbel2 _).setCell (Nat.le_refl _) _⟩
            case measure => simp [intOf]; omega
          · obtain rfl : p = n2 := by omega
            have hcl := hown2.cellAt (k + p) (by omega)
            have hfz := hown2.frozenAt (k + p)
            rw [u32s_get _ _ (by have := HRL.out; omega)] at hcl
            have hst := (hown2.stored (k + p) (.int .u32 (c' : Int))).1
            rw [u32s_set] at hst
            have hMu : Mu l l2 (r2.set (k + p) c') (k + 1) := by
              have := HJ.out
              rw [HN.out.2] at this ⊢
              exact this.done (by have := HN.out.1; omega)
            have HS := Lib.hid (And.intro hst hMu)
            have hcm : (c' : Int) % 4294967296 = (c' : Int) := by omega
            have hkp : ((k : Int) + (p : Int)).toNat = k + p := by omega
            clear hst hMu
            go_wp2
            go_roundw
            case rel => exact ⟨k + 1, _, by go_num, by omega, Lib.hid HS.out.2, HS.out.1, hbel2.setCell (Nat.le_refl _) _⟩
            case measure => simp [intOf]; omega
      · obtain rfl : k = n := by omega
        have hwv : wv r = wv l * wv l2 := by
          have := HM.out.2.2.1
          rwa [List.take_of_length_le (by have := HN.out.1; omega)] at this
        have HV := Lib.hid hwv
        have hrl : k + n2 = r.length := by rw [HM.out.1, HN.out.1, HN.out.2]
        have HRL := Lib.hid hrl
        clear hwv hrl
        go_wp2_with fail
        refine (trim_any (some ⟨w.heap.size, 0, none⟩) (k + n2) (k + n2) r HRL.out HM.out.2.1 _ _ (Rd.of_own hown1) (by omega) (Nat.le_refl _)).mono ?_
        rintro e w2 ⟨rfl, ⟨m, rfl⟩, hr⟩
        have HR2 := Lib.hid hr
        clear hr
        go_wp2_with fail
        go_ret
        have hlen : (wds (wv r)).length ≤ k + n2 := wds_len (by have := wv_lt HM.out.2.1; rw [← HRL.out] at this; exact this)
        rw [← HV.out]
        exact ⟨_, k + n2, rfl, HR2.out, hlen, fun b off e => by injection e with e; injection e with e; omega, dr hbel1 m⟩
end Go.Proofs.YtgjhjojbaieeaaaDoor
