/- Numbers of any size: subtracted. Conditions: none. -/
import Derived.Test.YtdpgcojgnehnpaaBigAdd
import Derived.IntWalk
set_option maxRecDepth 20000
namespace Go.Proofs.Ytdpgcojgnehnpaa
open Go.ChangeShapes Go.WideShapes Go.ChangeAt Go.RowKit
/-- One step of subtracting. -/
theorem sub_step {t a b : List Nat} {c i Y c' : Nat} (ht : t.length = i) (h : wv (a.take i) + 4294967296 ^ i * c = wv t + wv (b.take i)) (hY : Y + b.getD i 0 + c = a.getD i 0 + 4294967296 * c') :
    wv (a.take (i + 1)) + 4294967296 ^ (i + 1) * c' = wv (t ++ [Y]) + wv (b.take (i + 1)) := by
  rw [wv_snoc, ht, wv_take_getD, wv_take_getD, Nat.pow_succ]
  generalize a.getD i 0 = x at *
  generalize b.getD i 0 = y at *
  generalize 4294967296 ^ i = p at *
  have e : p * (Y + y + c) = p * (x + 4294967296 * c') := by rw [hY]
  rw [Nat.mul_add, Nat.mul_add, Nat.mul_add, ← Nat.mul_assoc] at e
  omega
/-- What the loop of 'sub' keeps. -/
def Sb (B : Nat) (W : World) (t0 : TypeId) (l l2 : List Nat) (g n : Nat) (c i : Value) (wr : World) : Prop :=
  ∃ (k c' : Nat) (t : List Nat), i = .int .i64 (k : Int) ∧ c = .int .u64 (c' : Int) ∧ k ≤ n ∧ t.length = k ∧ c' < 2 ∧ Hid ((∀ x ∈ t, x < 4294967296) ∧ wv (l.take k) + 4294967296 ^ k * c' = wv t + wv (l2.take k)) ∧
    wr.ownsRow B t0 1 (.slice (some ⟨g, 0, none⟩) n n) n (u32s (t ++ List.replicate (n - k) 0)) ∧ Below B W wr
theorem Sb.start {W w1 : World} {t0 : TypeId} {l l2 : List Nat} {n : Nat} (hown : w1.ownsRow W.heap.size t0 1 (.slice (some ⟨W.heap.size, 0, none⟩) n n) n (u32s (List.replicate n 0))) (hg : W.grownBy w1 none) :
    Sb W.heap.size W t0 l l2 W.heap.size n (.int .u64 0) (.int .i64 0) w1 :=
  ⟨0, 0, [], rfl, rfl, by omega, rfl, by omega, Lib.hid ⟨by simp, by simp [wv]⟩, by simpa using hown, (Below.refl _ _).grown hg (Nat.le_refl _) (by simp)⟩
theorem Sb.step {B : Nat} {W wn : World} {t0 : TypeId} {l l2 t : List Nat} {g n k c' Y d : Nat} (hk : k < n) (ht : t.length = k) (hT : (∀ x ∈ t, x < 4294967296) ∧ wv (l.take k) + 4294967296 ^ k * c' = wv t + wv (l2.take k)) (hY : Y + l2.getD k 0 + c' = l.getD k 0 + 4294967296 * d) (hd : d < 2) (hYl : Y < 4294967296)
    (hown : wn.ownsRow B t0 1 (.slice (some ⟨g, 0, none⟩) n n) n ((u32s (t ++ List.replicate (n - k) 0)).set k (.int .u32 (Y : Int)))) (hb : Below B W wn) :
    Sb B W t0 l l2 g n (.int .u64 (d : Int)) (.int .i64 ((k : Int) + 1)) wn := by
  have hs := sub_step ht hT.2 hY
  refine ⟨k + 1, d, t ++ [Y], by go_num, rfl, hk, by simp [ht], hd, Lib.hid ⟨?_, hs⟩, ?_, hb⟩
  · intro x hx
    rcases List.mem_append.1 hx with h | h
    · exact hT.1 x h
    · simp at h; subst h; exact hYl
  · rw [u32s_set, show n - k = (n - (k + 1)) + 1 by omega, set_mid _ _ _ _ ht] at hown
    exact hown
/-- A word less another and less what was carried, in 64 bits. -/
theorem sub_fit (x y c : Nat) (hx : x < 4294967296) (hy : y < 4294967296) (hc : c < 2) : ∃ Z D Y d : Nat, IntKind.u64.wrap ((x : Int) - (c : Int)) = (Z : Int) ∧ IntKind.u64.wrap ((Z : Int) - (y : Int)) = (D : Int) ∧ (D : Int) % 4294967296 = (Y : Int) ∧ (D : Int) / 9223372036854775808 = (d : Int) ∧ d < 2 ∧ Y < 4294967296 ∧ Y + y + c = x + 4294967296 * d ∧ Z < 18446744073709551616 ∧ D < 18446744073709551616 := by
  rcases Nat.lt_or_ge x c with h1 | h1
  · refine ⟨18446744073709551615, 18446744073709551615 - y, 4294967295 - y, 1, ?_, ?_, by omega, by omega, by omega, by omega, by omega, by omega, by omega⟩ <;> (rw [IntKind.wrap_u64]; omega)
  · rcases Nat.lt_or_ge (x - c) y with h2 | h2
    · refine ⟨x - c, 18446744073709551616 + (x - c) - y, 4294967296 + (x - c) - y, 1, ?_, ?_, by omega, by omega, by omega, by omega, by omega, by omega, by omega⟩ <;> (rw [IntKind.wrap_u64]; omega)
    · refine ⟨x - c, x - c - y, x - c - y, 0, ?_, ?_, by omega, by omega, by omega, by omega, by omega, by omega, by omega⟩ <;> (rw [IntKind.wrap_u64]; omega)
set_option maxHeartbeats 1000000 in
theorem sub_any (A A2 : Option Addr) (n n2 c c2 : Nat) (l l2 : List Nat) (hnl : n = l.length) (hnl2 : n2 = l2.length) (hle : n2 ≤ n) (hv : wv l2 ≤ wv l) (hl : ∀ d ∈ l, d < 4294967296) (hl2 : ∀ d ∈ l2, d < 4294967296) (w : World) (h : Rd w w.heap.size 1 A n (u32s l)) (h2 : Rd w w.heap.size 1 A2 n2 (u32s l2)) (hn : n ≤ 1000000) :
    Calls Try.prog 114 #[.slice A n c, .slice A2 n2 c2] w (WPost (wv l - wv l2) w) := by
  obtain ⟨i0, hi, hz0, hz1, hz2⟩ := info_parts info_u32
  have HN := Lib.hid (And.intro hnl hnl2)
  have HL := Lib.hid (And.intro hl hl2)
  have HR := Lib.hid (And.intro h h2)
  have HV0 := Lib.hid hv
  clear hnl hnl2 hl hl2 h h2 hv
  go_enter Try.func114, Try.ntmps114
  go_wp2_with (at_make; refine wpList_make_full _ rfl _ _ 97 rfl w.heap.size 190 i0 (.int .u32 0) 1 Try.underlying97 hi hz0 hz1 .i64 .i64 _ _ n rfl rfl (by go_num) (by go_num) (by rw [hz2]; omega) (by unfold maxLen; omega) (Nat.le_refl _) ?_; intro w1 hown hgrow)
  rw [made_u32s] at hown
  go_loopw [6, 7] (fun c i wr => Sb w.heap.size w 190 l l2 w.heap.size n c i wr) (fun _ i _ => n - (intOf i).toNat)
  case atStart => exact Sb.start hown hgrow
  case round =>
    obtain ⟨k, c', t, rfl, rfl, hk, ht, hc2, hT, hown2, hbel⟩ := hrel
    clear hown hgrow
    have HT2 := Lib.hid ht
    clear ht
    by_cases hlt : k < n
    · obtain ⟨b, off, rfl, hcell⟩ := cell32 (HR.out.1.below hbel) hlt
      have hfz := hown2.frozenAt k
      have hcl := hown2.cellAt k (by omega)
      rw [u32s_get _ _ (by simp [HT2.out]; omega)] at hcl
      have hx := getD_lt HL.out.1 k
      have hy := getD_lt HL.out.2 k
      obtain ⟨Z, D, Y, d, h1, h2, h3, h4, h5, h6, h7, h8, h9⟩ := sub_fit _ _ c' hx hy hc2
      have HS := Lib.hid (And.intro (hown2.stored k (.int .u32 (Y : Int))).1 (And.intro h7 (And.intro h5 h6)))
      by_cases hk2 : k < n2
      · obtain ⟨b2, off2, rfl, hcell2⟩ := cell32 (HR.out.2.below hbel) hk2
        generalize hxx : l.getD k 0 = x at *
        generalize hyy : l2.getD k 0 = y at *
        have HXX := Lib.hid (And.intro hxx hyy)
        clear h7 hxx hyy
        go_wp2
        go_roundw
        case rel => exact Sb.step hlt HT2.out hT.out (by rw [HXX.out.1, HXX.out.2]; exact HS.out.2.1) HS.out.2.2.1 HS.out.2.2.2 HS.out.1 (hbel.setCell (Nat.le_refl _) _)
        case measure => simp [intOf]; omega
      · have hy0 : l2.getD k 0 = 0 := by
          rw [List.getD, List.getElem?_eq_none (by have := HN.out.2; omega)]; rfl
        have hDZ : (D : Int) = (Z : Int) := by
          rw [← h2, hy0, IntKind.wrap_u64]; omega
        rw [hDZ] at h3 h4
        generalize hxx : l.getD k 0 = x at *
        have HXX := Lib.hid (And.intro hxx hy0)
        clear h7 hxx hy0 h2 hDZ hy
        go_wp2
        go_roundw
        case rel => exact Sb.step hlt HT2.out hT.out (by rw [HXX.out.1]; exact HS.out.2.1) HS.out.2.2.1 HS.out.2.2.2 HS.out.1 (hbel.setCell (Nat.le_refl _) _)
        case measure => simp [intOf]; omega
    · obtain rfl : k = n := by omega
      have hv : wv t = wv l - wv l2 := by
        have e := hT.out.2
        rw [List.take_of_length_le (by have := HN.out.1; omega), List.take_of_length_le (by have := HN.out.2; omega)] at e
        have h1 := wv_lt hT.out.1
        rw [HT2.out] at h1
        have h2 := HV0.out
        generalize 4294967296 ^ k = p at *
        have h3 : c' = 0 ∨ c' = 1 := by omega
        rcases h3 with rfl | rfl
        · omega
        · omega
      rw [Nat.sub_self, List.replicate_zero, List.append_nil] at hown2
      have HS := Lib.hid hown2
      have HV := Lib.hid hv
      clear hv hown2
      go_wp2_with fail
      refine (trim_any (some ⟨w.heap.size, 0, none⟩) k k t HT2.out.symm hT.out.1 _ _ (Rd.of_own HS.out) (by omega) (Nat.le_refl _)).mono ?_
      rintro e w2 ⟨rfl, ⟨m, rfl⟩, hr⟩
      have HR2 := Lib.hid hr
      clear hr
      go_wp2_with fail
      go_ret
      have hlen : (wds (wv t)).length ≤ k := wds_len (by have := wv_lt hT.out.1; rwa [HT2.out] at this)
      rw [← HV.out]
      exact ⟨_, k, rfl, by simpa using HR2.out, hlen, fun b off e => by injection e with e; injection e with e; omega, dr hbel m⟩
end Go.Proofs.Ytdpgcojgnehnpaa
