/- Numbers of any size: shifted to the right. Conditions: none. -/
import Derived.Test.YtdpgcojgnehnpaaBigLeft
import Derived.Test.YtdpgcojgnehnpaaBigInt64
set_option maxRecDepth 20000
namespace Go.Proofs.Ytdpgcojgnehnpaa
open Go.ChangeShapes Go.WideShapes Go.ChangeAt Go.RowKit
theorem rsh_take {s k : Nat} {L : List Nat} (h : k < L.length) : (rsh s L).take (k + 1) = (rsh s L).take k ++ [(L.getD k 0 + 4294967296 * L.getD (k + 1) 0) / 2 ^ s % 4294967296] := by
  rw [List.take_add_one, List.getElem?_eq_getElem (by rw [rsh_len]; exact h), ← rsh_get h]
  simp [List.getD, List.getElem?_eq_getElem (show k < (rsh s L).length by rw [rsh_len]; exact h)]
theorem getD_drop (l : List Nat) (w k : Nat) : (l.drop w).getD k 0 = l.getD (k + w) 0 := by
  rw [List.getD, List.getD, List.getElem?_drop, Nat.add_comm]
/-- What the loop keeps: the words done, noughts. -/
def Rg (B : Nat) (W : World) (t0 : TypeId) (L : List Nat) (g n s : Nat) (i : Value) (wr : World) : Prop :=
  ∃ k : Nat, i = .int .i64 (k : Int) ∧ k ≤ n ∧ wr.ownsRow B t0 1 (.slice (some ⟨g, 0, none⟩) n n) n (u32s ((rsh s L).take k ++ List.replicate (n - k) 0)) ∧ Below B W wr
theorem Rg.step {B : Nat} {W wn : World} {t0 : TypeId} {L : List Nat} {g n s k X : Nat} (hk : k < n) (hn : n = L.length) (hX : X = (L.getD k 0 + 4294967296 * L.getD (k + 1) 0) / 2 ^ s % 4294967296)
    (hown : wn.ownsRow B t0 1 (.slice (some ⟨g, 0, none⟩) n n) n ((u32s ((rsh s L).take k ++ List.replicate (n - k) 0)).set k (.int .u32 (X : Int)))) (hb : Below B W wn) :
    Rg B W t0 L g n s (.int .i64 ((k : Int) + 1)) wn := by
  refine ⟨k + 1, by go_num, hk, ?_, hb⟩
  rw [u32s_set, show n - k = (n - (k + 1)) + 1 by omega, set_mid _ _ _ _ (by rw [List.length_take, rsh_len]; omega), hX, ← rsh_take (by omega)] at hown
  exact hown
theorem shr_fit (V s : Nat) (hV : V < 18446744073709551616) : ∃ Y X : Nat, (V : Int) / 2 ^ s = (Y : Int) ∧ IntKind.u64.wrap (Y : Int) = (Y : Int) ∧ (Y : Int) % 4294967296 = (X : Int) ∧ X = V / 2 ^ s % 4294967296 ∧ X < 4294967296 ∧ Y < 18446744073709551616 := by
  have h : V / 2 ^ s ≤ V := Nat.div_le_self _ _
  have e : (V : Int) / 2 ^ s = ((V / 2 ^ s : Nat) : Int) := by rw [Int.natCast_ediv, Int.natCast_pow]; rfl
  generalize V / 2 ^ s = Y at *
  exact ⟨Y, Y % 4294967296, e, wrapU _ (by omega) (by omega), by omega, rfl, by omega, by omega⟩
set_option maxHeartbeats 1000000 in
theorem right_any (A : Option Addr) (n c : Nat) (l : List Nat) (hnl : n = l.length) (hl : ∀ d ∈ l, d < 4294967296) (w0 : World) (h : Rd w0 w0.heap.size 1 A n (u32s l)) (hn : n ≤ 1000000) (z : Int) (w s : Nat) (hz : z / 32 = (w : Int)) (hz2 : z % 32 = (s : Int)) (hw : w ≤ 1000) :
    Calls Try.prog 113 #[.slice A n c, .int .u64 z] w0 (WPost (wv l / 2 ^ (32 * w + s)) w0) := by
  obtain ⟨i0, hi, hz0, hz1, hz3⟩ := info_parts info_u32
  have hs : s < 32 := by omega
  have hval : wv l / 2 ^ (32 * w + s) = wv (rsh s (l.drop w)) := by
    rw [rsh_val hs (fun d hd => hl d (List.mem_of_mem_drop hd)), wv_dropw hl, pow64, Nat.div_div_eq_div_mul, ← Nat.pow_add]
  have HN := Lib.hid hnl
  have HL := Lib.hid hl
  have HR := Lib.hid h
  have HV := Lib.hid hval
  clear hnl hl h hval
  by_cases h0 : n ≤ w
  · have g0 : decide ((n : Int) ≤ (w : Int)) = true := decide_eq_true (by omega)
    have hv : wv l / 2 ^ (32 * w + s) = 0 := by
      rw [HV.out, List.drop_eq_nil_of_le (by have := HN.out; omega)]; rfl
    have HV0 := Lib.hid hv
    clear hv
    go_enter Try.func113, Try.ntmps113
    go_wp2_with fail
    go_ret
    rw [HV0.out]
    exact ⟨none, 0, by rw [wds_zero]; rfl, by rw [wds_zero]; exact Rd.nil, by rw [wds_zero]; simp, (fun _ _ e => by cases e), Below.refl _ _⟩
  · obtain ⟨m, hm⟩ : ∃ m, n = m + w := ⟨n - w, by omega⟩
    have g0 : decide ((n : Int) ≤ (w : Int)) = false := decide_eq_false (by omega)
    have hwn : w < n := by omega
    have hmi : (n : Int) - (w : Int) = (m : Int) := by omega
    have HM := Lib.hid (show m = (l.drop w).length by rw [List.length_drop, ← HN.out]; omega)
    clear h0
    go_enter Try.func113, Try.ntmps113
    go_wp2_with (at_make; refine wpList_make_full _ rfl _ _ 97 rfl w0.heap.size 190 i0 (.int .u32 0) 1 Try.underlying97 hi hz0 hz1 .i64 .i64 _ _ m rfl rfl (by go_num) (by go_num) (by rw [hz3]; omega) (by unfold maxLen; omega) (Nat.le_refl _) ?_; intro w1 hown hgrow)
    rw [made_u32s] at hown
    go_loopw [8] (fun i wr => Rg w0.heap.size w0 190 (l.drop w) w0.heap.size m s i wr) (fun i _ => m - (intOf i).toNat)
    case atStart => exact ⟨0, rfl, by omega, by simpa using hown, (Below.refl _ _).grown hgrow (Nat.le_refl _) (by simp)⟩
    case round =>
      obtain ⟨k, rfl, hk, hown2, hbel⟩ := hrel
      clear hown hgrow
      by_cases hlt : k < m
      · obtain ⟨b, off, rfl, hcell⟩ := cell32 (HR.out.below hbel) (show k + w < n by omega)
        have hx := getD_lt HL.out (k + w)
        have hy := getD_lt HL.out (k + w + 1)
        have hq9 : k < ((rsh s (l.drop w)).take k ++ List.replicate (m - k) 0).length := by have := rsh_len s (l.drop w); have := HM.out; simp; omega
        have hcl := hown2.cellAt k (by omega)
        rw [u32s_get _ _ hq9] at hcl
        clear hq9
        have hfz := hown2.frozenAt k
        have hG1 := getD_drop l w k
        have hG2 := getD_drop l w (k + 1)
        rw [show k + 1 + w = k + w + 1 by omega] at hG2
        by_cases hk2 : k + w + 1 < n
        · obtain ⟨b2, off2, e2, hcell2⟩ := cell32 (HR.out.below hbel) hk2
          injection e2 with e2
          injection e2 with e2 e3
          subst e2 e3
          have hO := or_hi _ _ hx hy
          obtain ⟨V, hV⟩ : ∃ V, V = l.getD (k + w) 0 + 4294967296 * l.getD (k + w + 1) 0 := ⟨_, rfl⟩
          obtain ⟨Y, X, f1, f2, f3, f4, f5, f6⟩ := shr_fit V s (by omega)
          have HS := Lib.hid (hown2.stored k (.int .u32 (X : Int))).1
          have HX := Lib.hid (show X = ((l.drop w).getD k 0 + 4294967296 * (l.drop w).getD (k + 1) 0) / 2 ^ s % 4294967296 by rw [hG1, hG2, ← hV]; exact f4)
          rw [← hV] at hO
          have hVl : V < 18446744073709551616 := by omega
          clear hG1 hG2 f4
          generalize l.getD (k + w) 0 = x at *
          generalize l.getD (k + w + 1) 0 = y at *
          clear hV
          go_wp2
          go_roundw
          case rel => exact Rg.step hlt HM.out HX.out HS.out (hbel.setCell (Nat.le_refl _) _)
          case measure => simp [intOf]; omega
        · have hy0 : l.getD (k + w + 1) 0 = 0 := by
            rw [List.getD, List.getElem?_eq_none (by have := HN.out; omega)]; rfl
          obtain ⟨Y, X, f1, f2, f3, f4, f5, f6⟩ := shr_fit (l.getD (k + w) 0) s (by omega)
          have HS := Lib.hid (hown2.stored k (.int .u32 (X : Int))).1
          have HX := Lib.hid (show X = ((l.drop w).getD k 0 + 4294967296 * (l.drop w).getD (k + 1) 0) / 2 ^ s % 4294967296 by rw [hG1, hG2, hy0]; simpa using f4)
          clear hG1 hG2 f4 hy0 hy
          generalize l.getD (k + w) 0 = x at *
          go_wp2
          go_roundw
          case rel => exact Rg.step hlt HM.out HX.out HS.out (hbel.setCell (Nat.le_refl _) _)
          case measure => simp [intOf]; omega
      · obtain rfl : k = m := by omega
        rw [Nat.sub_self, List.replicate_zero, List.append_nil, List.take_of_length_le (by rw [rsh_len, ← HM.out]; omega)] at hown2
        have HS := Lib.hid hown2
        have HL2 := Lib.hid (show k = (rsh s (l.drop w)).length by rw [rsh_len]; exact HM.out)
        clear hown2
        go_wp2_with fail
        refine (trim_any (some ⟨w0.heap.size, 0, none⟩) k k (rsh s (l.drop w)) HL2.out (rsh_lt _ _) _ _ (Rd.of_own HS.out) (by omega) (Nat.le_refl _)).mono ?_
        rintro e w2 ⟨rfl, ⟨m', rfl⟩, hr⟩
        have HR2 := Lib.hid hr
        clear hr
        go_wp2_with fail
        go_ret
        have hlen : (wds (wv (rsh s (l.drop w)))).length ≤ k := wds_len (by have := wv_lt (rsh_lt s (l.drop w)); rwa [← HL2.out] at this)
        rw [HV.out]
        exact ⟨_, k, rfl, by simpa using HR2.out, hlen, fun b off e => by injection e with e; injection e with e; omega, dr hbel m'⟩
end Go.Proofs.Ytdpgcojgnehnpaa
