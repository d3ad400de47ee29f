/- Numbers of any size: shifted to the left. Conditions: none. -/
import Derived.Test.YtdpgcojgnehnpaaBigP
import Derived.Test.YtdpgcojgnehnpaaBigMul
set_option maxRecDepth 20000
namespace Go.Proofs.Ytdpgcojgnehnpaa
open Go.ChangeShapes Go.WideShapes Go.ChangeAt Go.RowKit
theorem ofInt32 (q : Nat) (h : q < 4294967296) : (BitVec.ofInt 32 (q : Int)).toNat = q := by
  rw [BitVec.ofInt_natCast, BitVec.toNat_ofNat]; exact Nat.mod_eq_of_lt (by omega)
theorem wrap32n (q : Nat) (h : q < 4294967296) : IntKind.u32.wrap (q : Int) = q := by
  rw [IntKind.wrap_u32]; omega
theorem or32u (a b : Nat) (ha : a < 4294967296) (hb : b < 4294967296) (h : a ||| b < 4294967296) : bits .or .u32 (a : Int) (b : Int) = ((a ||| b : Nat) : Int) := by
  show IntKind.u32.wrap ((BitVec.ofInt 32 (a : Int) ||| BitVec.ofInt 32 (b : Int)).toNat : Int) = _
  rw [BitVec.toNat_or, ofInt32 a ha, ofInt32 b hb, wrap32n _ h]
theorem shl_fit (x s : Nat) (hx : x < 4294967296) (hs : s < 32) : x * 2 ^ s < 9223372036854775808 := by
  have h1 : 2 ^ s ≤ 2 ^ 31 := Nat.pow_le_pow_right (by omega) (by omega)
  have h2 : x * 2 ^ s ≤ 4294967295 * 2 ^ 31 := Nat.mul_le_mul (by omega) h1
  omega
/-- What the loop keeps. -/
def Lg (B : Nat) (W : World) (t0 : TypeId) (l : List Nat) (g n w s : Nat) (i : Value) (wr : World) : Prop :=
  ∃ (k c : Nat) (t : List Nat), i = .int .i64 (k : Int) ∧ k ≤ n ∧ Hid (Lf l s k t c) ∧
    wr.ownsRow B t0 1 (.slice (some ⟨g, 0, none⟩) (n + w + 1) (n + w + 1)) (n + w + 1) (u32s (List.replicate w 0 ++ (t ++ c :: List.replicate (n - k) 0))) ∧ Below B W wr
theorem Lg.step {B : Nat} {W wn : World} {t0 : TypeId} {l t : List Nat} {g n w s k c X lo hi : Nat} (hk : k < n) (hs : s < 32) (hl : ∀ x ∈ l, x < 4294967296) (h : Lf l s k t c) (hX : X = c ||| lo) (hlo : lo = l.getD k 0 * 2 ^ s % 4294967296) (hhi : hi = l.getD k 0 * 2 ^ s / 4294967296)
    (hown : wn.ownsRow B t0 1 (.slice (some ⟨g, 0, none⟩) (n + w + 1) (n + w + 1)) (n + w + 1) (((u32s (List.replicate w 0 ++ (t ++ c :: List.replicate (n - k) 0))).set (k + w) (.int .u32 (X : Int))).set (k + w + 1) (.int .u32 (hi : Int)))) (hb : Below B W wn) :
    Lg B W t0 l g n w s (.int .i64 ((k : Int) + 1)) wn := by
  subst hX hlo hhi
  refine ⟨k + 1, _, _, by go_num, hk, Lib.hid (h.step hs hl), ?_, hb⟩
  rw [u32s_set, u32s_set, show n - k = (n - (k + 1)) + 1 by omega, lf_set _ _ _ h.1] at hown
  exact hown
set_option maxHeartbeats 1000000 in
theorem left_any (A : Option Addr) (n c : Nat) (l : List Nat) (hnl : n = l.length) (hl : ∀ d ∈ l, d < 4294967296) (w0 : World) (h : Rd w0 w0.heap.size 1 A n (u32s l)) (hn : n ≤ 1000000) (z : Int) (w s : Nat) (hz : z / 32 = (w : Int)) (hz2 : z % 32 = (s : Int)) (hw : w ≤ 1000) :
    Calls Try.prog 111 #[.slice A n c, .int .u64 z] w0 (WPost (wv l * 2 ^ (32 * w + s)) w0) := by
  obtain ⟨i0, hi, hz0, hz1, hz3⟩ := info_parts info_u32
  have hs : s < 32 := by omega
  have HN := Lib.hid hnl
  have HL := Lib.hid hl
  have HR := Lib.hid h
  clear hnl hl h
  by_cases h0 : n = 0
  · have g0 : ((n : Int) == 0) = true := by simp [h0]
    have hv : wv l * 2 ^ (32 * w + s) = 0 := by
      rw [List.eq_nil_of_length_eq_zero (l := l) (by have := HN.out; omega)]; simp [wv]
    have HV := Lib.hid hv
    clear hv h0
    go_enter Try.func111, Try.ntmps111
    go_wp2_with fail
    go_ret
    rw [HV.out]
    exact ⟨none, 0, by rw [wds_zero]; rfl, by rw [wds_zero]; exact Rd.nil, by rw [wds_zero]; simp, (fun _ _ e => by cases e), Below.refl _ _⟩
  · have g0 : ((n : Int) == 0) = false := by simp; omega
    go_enter Try.func111, Try.ntmps111
    go_wp2_with (at_make; refine wpList_make_full _ rfl _ _ 97 rfl w0.heap.size 190 i0 (.int .u32 0) 1 Try.underlying97 hi hz0 hz1 .i64 .i64 _ _ (n + w + 1) rfl rfl (by go_num) (by go_num) (by rw [hz3]; omega) (by unfold maxLen; omega) (Nat.le_refl _) ?_; intro w1 hown hgrow)
    rw [made_u32s] at hown
    go_loopw [8] (fun i wr => Lg w0.heap.size w0 190 l w0.heap.size n w s i wr) (fun i _ => n - (intOf i).toNat)
    case atStart =>
      refine ⟨0, 0, [], rfl, by omega, Lib.hid (Lf.start l s), ?_, (Below.refl _ _).grown hgrow (Nat.le_refl _) (by simp)⟩
      have e : List.replicate (n + w + 1) 0 = List.replicate w 0 ++ ([] ++ 0 :: List.replicate (n - 0) 0) := by
        rw [List.nil_append, ← List.replicate_succ, Nat.sub_zero, List.replicate_append_replicate, show w + (n + 1) = n + w + 1 by omega]
      rw [← e]
      exact hown
    case round =>
      obtain ⟨k, c', t, rfl, hk, HT, hown2, hbel⟩ := hrel
      clear hown hgrow
      by_cases hlt : k < n
      · obtain ⟨b, off, rfl, hcell⟩ := cell32 (HR.out.below hbel) hlt
        have hx := getD_lt HL.out k
        have hlen : (u32s (List.replicate w 0 ++ (t ++ c' :: List.replicate (n - k) 0))).length = n + w + 1 := by simp [HT.out.1]; omega
        have hcl := hown2.cellAt (k + w) (by omega)
        have hfz := hown2.frozenAt (k + w)
        rw [u32s_get _ _ (by simpa using (by omega : k + w < (u32s (List.replicate w 0 ++ (t ++ c' :: List.replicate (n - k) 0))).length)), lf_get _ HT.out.1] at hcl
        have hcc : c' < 4294967296 := Nat.lt_of_lt_of_le HT.out.2.2.1 (Nat.le_trans (Nat.pow_le_pow_right (by omega) (Nat.le_of_lt hs)) (by decide))
        obtain ⟨V, hV⟩ : ∃ V, V = l.getD k 0 * 2 ^ s := ⟨_, rfl⟩
        have hVl : V < 9223372036854775808 := by rw [hV]; exact shl_fit _ _ hx hs
        obtain ⟨lo, hlo⟩ : ∃ lo, lo = V % 4294967296 := ⟨_, rfl⟩
        obtain ⟨hi', hhi⟩ : ∃ hi', hi' = V / 4294967296 := ⟨_, rfl⟩
        obtain ⟨X, hX⟩ : ∃ X, X = c' ||| lo := ⟨_, rfl⟩
        have hXl : X < 4294967296 := by
          have := (left_step hs HT.out.1 HT.out.2.2.1 (getD_lt HL.out k) HT.out.2.2.2).2.1
          rw [hX, hlo, hV]; exact this
        have hO1 : bits .or .u32 (c' : Int) (lo : Int) = (X : Int) := by rw [hX]; exact or32u _ _ hcc (by omega) (by rw [← hX]; exact hXl)
        have hO2 : bits .or .u32 0 (hi' : Int) = (hi' : Int) := by
          have := or32u 0 hi' (by omega) (by omega) (by simp; omega)
          simpa using this
        have e1 : (l.getD k 0 : Int) * 2 ^ s = (V : Int) := by rw [hV]; simp
        have e2 : (V : Int) % 4294967296 = (lo : Int) := by omega
        have e3 : (V : Int) / 4294967296 = (hi' : Int) := by omega
        have hw1 : IntKind.u64.wrap (V : Int) = (V : Int) := wrapU _ (by omega) (by omega)
        have hst := hown2.stored (k + w) (.int .u32 (X : Int))
        have hst2 := hst.1.stored (k + w + 1) (.int .u32 (hi' : Int))
        have hcl2 := hst.1.cellAt (k + w + 1) (by omega)
        have hfz2 := hst.1.frozenAt (k + w + 1)
        have HS := Lib.hid hst2.1
        have HX := Lib.hid (And.intro hX (And.intro (hlo.trans (by rw [hV])) (hhi.trans (by rw [hV]))))
        have hlo2 : lo < 4294967296 := by omega
        have hhi2 : hi' < 4294967296 := by omega
        rw [u32s_set, u32s_get _ _ (by simp [HT.out.1]; omega), getD_set_ne (by omega), lf_get2 _ HT.out.1] at hcl2
        generalize hxx : l.getD k 0 = x at *
        have HXX := Lib.hid hxx
        clear hxx
        clear hV hX hlo hhi hst hst2 hcc
        have hk1 : (0 : Int) ≤ (k : Int) := by omega
        have hk2 : (k : Int) < (n : Int) := by omega
        go_wp2
        go_roundw
        case rel => exact Lg.step hlt hs HL.out HT.out HX.out.1 (by rw [HXX.out]; exact HX.out.2.1) (by rw [HXX.out]; exact HX.out.2.2) HS.out ((hbel.setCell (Nat.le_refl _) _).setCell (Nat.le_refl _) _)
        case measure => simp [intOf]; omega
      · obtain rfl : k = n := by omega
        have hd := HT.out.done (w := w) hs HN.out
        have hT1 := HT.out.1
        rw [Nat.sub_self, List.replicate_zero] at hown2
        have HD := Lib.hid hd
        have HS := Lib.hid hown2
        have HT1 := Lib.hid hT1
        clear hd hown2 hT1
        go_wp2_with fail
        refine (trim_any (some ⟨w0.heap.size, 0, none⟩) (k + w + 1) (k + w + 1) (List.replicate w 0 ++ (t ++ [c'])) (by simp [HT1.out]; omega) HD.out.2 _ _ (Rd.of_own HS.out) (by omega) (Nat.le_refl _)).mono ?_
        rintro e w2 ⟨rfl, ⟨m, rfl⟩, hr⟩
        have HR2 := Lib.hid hr
        clear hr
        go_wp2_with fail
        go_ret
        have e9 : (List.replicate w 0 ++ (t ++ [c'])).length = k + w + 1 := by simp [HT1.out]; omega
        have h9 := wv_lt HD.out.2
        rw [e9] at h9
        have hlen := wds_len h9
        rw [← HD.out.1]
        exact ⟨_, k + w + 1, rfl, by simpa using HR2.out, hlen, fun b off e => by injection e with e; injection e with e; omega, dr hbel m⟩
end Go.Proofs.Ytdpgcojgnehnpaa
