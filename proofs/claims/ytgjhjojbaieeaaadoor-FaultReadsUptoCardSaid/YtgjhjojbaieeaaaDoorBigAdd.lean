/- Numbers of any size: added. Conditions: none. -/
import Derived.Test.YtgjhjojbaieeaaaDoorSmall
set_option maxRecDepth 20000
namespace Go.Proofs.YtgjhjojbaieeaaaDoor
open Go.ChangeShapes Go.WideShapes Go.ChangeAt Go.RowKit
/-- What the loop of 'add' keeps. -/
def Ad (B : Nat) (W : World) (t0 : TypeId) (l l2 : List Nat) (g n : Nat) (c i : Value) (wr : World) : Prop :=
  ∃ (k c' : Nat) (t : List Nat), i = .int .i64 (k : Int) ∧ c = .int .u64 (c' : Int) ∧ k ≤ n ∧ t.length = k ∧ c' < 2 ∧ Hid ((∀ x ∈ t, x < 4294967296) ∧ wv t + 4294967296 ^ k * c' = wv (l.take k) + wv (l2.take k)) ∧
    wr.ownsRow B t0 1 (.slice (some ⟨g, 0, none⟩) (n + 1) (n + 1)) (n + 1) (u32s (t ++ List.replicate (n + 1 - k) 0)) ∧ Below B W wr
theorem Ad.start {W w1 : World} {t0 : TypeId} {l l2 : List Nat} {n : Nat} (hown : w1.ownsRow W.heap.size t0 1 (.slice (some ⟨W.heap.size, 0, none⟩) (n + 1) (n + 1)) (n + 1) (u32s (List.replicate (n + 1) 0))) (hg : W.grownBy w1 none) :
    Ad W.heap.size W t0 l l2 W.heap.size n (.int .u64 0) (.int .i64 0) w1 :=
  ⟨0, 0, [], rfl, rfl, by omega, rfl, by omega, Lib.hid ⟨by simp, by simp [wv]⟩, by simpa using hown, (Below.refl _ _).grown hg (Nat.le_refl _) (by simp)⟩
theorem set_mid (t : List Nat) (m x : Nat) (k : Nat) (hk : t.length = k) : (t ++ List.replicate (m + 1) 0).set k x = t ++ [x] ++ List.replicate m 0 := by
  rw [List.replicate_succ, List.set_append_right _ _ (by omega), hk, Nat.sub_self, List.set_cons_zero]; simp
theorem Ad.step {B : Nat} {W wn : World} {t0 : TypeId} {l l2 t : List Nat} {g n k c' Y : Nat} (hk : k < n) (ht : t.length = k) (hT : (∀ x ∈ t, x < 4294967296) ∧ wv t + 4294967296 ^ k * c' = wv (l.take k) + wv (l2.take k)) (hY : Y = c' + l.getD k 0 + l2.getD k 0) (hx : l.getD k 0 < 4294967296) (hy : l2.getD k 0 < 4294967296) (hc : c' < 2)
    (hown : wn.ownsRow B t0 1 (.slice (some ⟨g, 0, none⟩) (n + 1) (n + 1)) (n + 1) ((u32s (t ++ List.replicate (n + 1 - k) 0)).set k (.int .u32 ((Y : Int) % 4294967296)))) (hb : Below B W wn) :
    Ad B W t0 l l2 g n (.int .u64 ((Y : Int) / 4294967296)) (.int .i64 ((k : Int) + 1)) wn := by
  have hs := add_step ht hT.2
  rw [← hY] at hs
  refine ⟨k + 1, Y / 4294967296, t ++ [Y % 4294967296], by go_num, by go_num, hk, by simp [ht], by omega, Lib.hid ⟨?_, hs⟩, ?_, hb⟩
  · intro x hx
    rcases List.mem_append.1 hx with h | h
    · exact hT.1 x h
    · simp at h; subst h; exact Nat.mod_lt _ (by omega)
  · have e : ((Y : Int) % 4294967296) = ((Y % 4294967296 : Nat) : Int) := by omega
    rw [e, u32s_set, show n + 1 - k = (n - k) + 1 by omega, set_mid _ _ _ _ ht] at hown
    rw [show n + 1 - (k + 1) = n - k by omega]
    exact hown
set_option maxHeartbeats 1000000 in
theorem addGe_any (A A2 : Option Addr) (n n2 c c2 : Nat) (l l2 : List Nat) (hnl : n = l.length) (hnl2 : n2 = l2.length) (hle : n2 ≤ n) (hl : ∀ d ∈ l, d < 4294967296) (hl2 : ∀ d ∈ l2, d < 4294967296) (w : World) (h : Rd w w.heap.size 1 A n (u32s l)) (h2 : Rd w w.heap.size 1 A2 n2 (u32s l2)) (hn : n ≤ 1000000) :
    Calls Tryd.prog 27 #[.slice A n c, .slice A2 n2 c2] w (WPost (wv l + wv l2) w) := by
  obtain ⟨i0, hi, hz0, hz1, hz2⟩ := info_parts info_u32
  have HN := Lib.hid (And.intro hnl hnl2)
  have HL := Lib.hid (And.intro hl hl2)
  have HR := Lib.hid (And.intro h h2)
  clear hnl hnl2 hl hl2 h h2
  have hge : decide ((n : Int) < (n2 : Int)) = false := decide_eq_false (by omega)
  go_enter Tryd.func27, Tryd.ntmps27
  go_wp2_with (at_make; refine wpList_make_full _ rfl _ _ 49 rfl w.heap.size 69 i0 (.int .u32 0) 1 Tryd.underlying49 hi hz0 hz1 .i64 .i64 _ _ (n + 1) rfl rfl (by go_num) (by go_num) (by rw [hz2]; omega) (by unfold maxLen; omega) (Nat.le_refl _) ?_; intro w1 hown hgrow)
  rw [made_u32s] at hown
  go_loopw [6, 7] (fun c i wr => Ad w.heap.size w 69 l l2 w.heap.size n c i wr) (fun _ i _ => n - (intOf i).toNat)
  case atStart => exact Ad.start hown hgrow
  case round =>
    obtain ⟨k, c', t, rfl, rfl, hk, ht, hc2, hT, hown2, hbel⟩ := hrel
    clear hown hgrow
    have HT2 := Lib.hid ht
    clear ht
    by_cases hlt : k < n
    · obtain ⟨b, off, rfl, hcell⟩ := cell32 (HR.out.1.below hbel) hlt
      have hcl := hown2.cellAt k (by omega)
      have hfz := hown2.frozenAt k
      rw [u32s_get _ _ (by simp [HT2.out]; omega)] at hcl
      have hx := getD_lt HL.out.1 k
      have hy := getD_lt HL.out.2 k
      by_cases hk2 : k < n2
      · obtain ⟨b2, off2, rfl, hcell2⟩ := cell32 (HR.out.2.below hbel) hk2
        obtain ⟨Y, hY⟩ : ∃ Y, Y = c' + l.getD k 0 + l2.getD k 0 := ⟨_, rfl⟩
        have hst := hown2.stored k (.int .u32 ((Y : Int) % 4294967296))
        have HS := Lib.hid (And.intro hst.1 hY)
        have HXY := Lib.hid (And.intro hx hy)
        generalize hxx : l.getD k 0 = x at *
        generalize hyy : l2.getD k 0 = y at *
        have HXX := Lib.hid (And.intro hxx hyy)
        have eY : (c' : Int) + (x : Int) + (y : Int) = (Y : Int) := by rw [hY]; simp
        clear hst hY hxx hyy
        go_wp2
        go_roundw
        case rel => exact Ad.step hlt HT2.out hT.out (by rw [HXX.out.1, HXX.out.2]; exact HS.out.2) (by rw [HXX.out.1]; exact HXY.out.1) (by rw [HXX.out.2]; exact HXY.out.2) hc2 HS.out.1 (hbel.setCell (Nat.le_refl _) _)
        case measure => simp [intOf]; omega
      · have hy0 : l2.getD k 0 = 0 := by
          rw [List.getD, List.getElem?_eq_none (by have := HN.out.2; omega)]; rfl
        obtain ⟨Y, hY⟩ : ∃ Y, Y = c' + l.getD k 0 := ⟨_, rfl⟩
        have hst := hown2.stored k (.int .u32 ((Y : Int) % 4294967296))
        have HS := Lib.hid (And.intro hst.1 hY)
        have HXY := Lib.hid hx
        have HY0 := Lib.hid hy0
        generalize hxx : l.getD k 0 = x at *
        have HXX := Lib.hid hxx
        have eY : (c' : Int) + (x : Int) = (Y : Int) := by rw [hY]; simp
        clear hst hY hxx hy0 hy
        go_wp2
        go_roundw
        case rel => exact Ad.step hlt HT2.out hT.out (by rw [HXX.out, HY0.out, Nat.add_zero]; exact HS.out.2) (by rw [HXX.out]; exact HXY.out) (by rw [HY0.out]; omega) hc2 HS.out.1 (hbel.setCell (Nat.le_refl _) _)
        case measure => simp [intOf]; omega
    · obtain rfl : k = n := by omega
      have hcl := hown2.cellAt k (by omega)
      have hfz := hown2.frozenAt k
      rw [u32s_get _ _ (by simp [HT2.out])] at hcl
      have hst := (hown2.stored k (.int .u32 (c' : Int))).1
      rw [u32s_set, show k + 1 - k = 0 + 1 by omega, set_mid _ _ _ _ HT2.out] at hst
      have hv : wv (t ++ [c']) = wv l + wv l2 := by
        have := hT.out.2
        rw [List.take_of_length_le (by have := HN.out.1; omega), List.take_of_length_le (by have := HN.out.2; omega)] at this
        rw [wv_snoc, HT2.out]; exact this
      simp only [List.replicate_zero, List.append_nil] at hst
      have HS := Lib.hid hst
      have HV := Lib.hid hv
      have hcm : (c' : Int) % 4294967296 = (c' : Int) := by omega
      clear hst hv
      go_wp2_with fail
      refine (trim_any (some ⟨w.heap.size, 0, none⟩) (k + 1) (k + 1) (t ++ [c']) (by simp [HT2.out]) (by intro d hd; rcases List.mem_append.1 hd with h | h; exact hT.out.1 d h; simp at h; omega) _ _ (Rd.of_own HS.out) (by omega) (Nat.le_refl _)).mono ?_
      rintro e w2 ⟨rfl, ⟨m, rfl⟩, hr⟩
      have HR2 := Lib.hid hr
      clear hr
      go_wp2_with fail
      go_ret
      have hall : ∀ d ∈ t ++ [c'], d < 4294967296 := by intro d hd; rcases List.mem_append.1 hd with h | h; exact hT.out.1 d h; simp at h; omega
      have hlen : (wds (wv (t ++ [c']))).length ≤ k + 1 := wds_len (by have := wv_lt hall; simpa [HT2.out] using this)
      rw [← HV.out]
      exact ⟨_, k + 1, rfl, by simpa using HR2.out, hlen, fun b off e => by injection e with e; injection e with e; omega, dr (hbel.setCell (Nat.le_refl _) _) m⟩
set_option maxHeartbeats 1000000 in
theorem addLt_any (A A2 : Option Addr) (n n2 c c2 : Nat) (l l2 : List Nat) (hnl : n = l.length) (hnl2 : n2 = l2.length) (hle : n2 < n) (hl : ∀ d ∈ l, d < 4294967296) (hl2 : ∀ d ∈ l2, d < 4294967296) (w : World) (h : Rd w w.heap.size 1 A n (u32s l)) (h2 : Rd w w.heap.size 1 A2 n2 (u32s l2)) (hn : n ≤ 1000000) :
    Calls Tryd.prog 27 #[.slice A2 n2 c2, .slice A n c] w (WPost (wv l + wv l2) w) := by
  obtain ⟨i0, hi, hz0, hz1, hz2⟩ := info_parts info_u32
  have HN := Lib.hid (And.intro hnl hnl2)
  have HL := Lib.hid (And.intro hl hl2)
  have HR := Lib.hid (And.intro h h2)
  clear hnl hnl2 hl hl2 h h2
  have hge : decide ((n2 : Int) < (n : Int)) = true := decide_eq_true (by omega)
  go_enter Tryd.func27, Tryd.ntmps27
  go_wp2_with (at_make; refine wpList_make_full _ rfl _ _ 49 rfl w.heap.size 69 i0 (.int .u32 0) 1 Tryd.underlying49 hi hz0 hz1 .i64 .i64 _ _ (n + 1) rfl rfl (by go_num) (by go_num) (by rw [hz2]; omega) (by unfold maxLen; omega) (Nat.le_refl _) ?_; intro w1 hown hgrow)
  rw [made_u32s] at hown
  go_loopw [6, 7] (fun c i wr => Ad w.heap.size w 69 l l2 w.heap.size n c i wr) (fun _ i _ => n - (intOf i).toNat)
  case atStart => exact Ad.start hown hgrow
  case round =>
    obtain ⟨k, c', t, rfl, rfl, hk, ht, hc2, hT, hown2, hbel⟩ := hrel
    clear hown hgrow
    have HT2 := Lib.hid ht
    clear ht
    by_cases hlt : k < n
    · obtain ⟨b, off, rfl, hcell⟩ := cell32 (HR.out.1.below hbel) hlt
      have hcl := hown2.cellAt k (by omega)
      have hfz := hown2.frozenAt k
      rw [u32s_get _ _ (by simp [HT2.out]; omega)] at hcl
      have hx := getD_lt HL.out.1 k
      have hy := getD_lt HL.out.2 k
      by_cases hk2 : k < n2
      · obtain ⟨b2, off2, rfl, hcell2⟩ := cell32 (HR.out.2.below hbel) hk2
        obtain ⟨Y, hY⟩ : ∃ Y, Y = c' + l.getD k 0 + l2.getD k 0 := ⟨_, rfl⟩
        have hst := hown2.stored k (.int .u32 ((Y : Int) % 4294967296))
        have HS := Lib.hid (And.intro hst.1 hY)
        have HXY := Lib.hid (And.intro hx hy)
        generalize hxx : l.getD k 0 = x at *
        generalize hyy : l2.getD k 0 = y at *
        have HXX := Lib.hid (And.intro hxx hyy)
        have eY : (c' : Int) + (x : Int) + (y : Int) = (Y : Int) := by rw [hY]; simp
        clear hst hY hxx hyy
        go_wp2
        go_roundw
        case rel => exact Ad.step hlt HT2.out hT.out (by rw [HXX.out.1, HXX.out.2]; exact HS.out.2) (by rw [HXX.out.1]; exact HXY.out.1) (by rw [HXX.out.2]; exact HXY.out.2) hc2 HS.out.1 (hbel.setCell (Nat.le_refl _) _)
        case measure => simp [intOf]; omega
      · have hy0 : l2.getD k 0 = 0 := by
          rw [List.getD, List.getElem?_eq_none (by have := HN.out.2; omega)]; rfl
        obtain ⟨Y, hY⟩ : ∃ Y, Y = c' + l.getD k 0 := ⟨_, rfl⟩
        have hst := hown2.stored k (.int .u32 ((Y : Int) % 4294967296))
        have HS := Lib.hid (And.intro hst.1 hY)
        have HXY := Lib.hid hx
        have HY0 := Lib.hid hy0
        generalize hxx : l.getD k 0 = x at *
        have HXX := Lib.hid hxx
        have eY : (c' : Int) + (x : Int) = (Y : Int) := by rw [hY]; simp
        clear hst hY hxx hy0 hy
        go_wp2
        go_roundw
        case rel => exact Ad.step hlt HT2.out hT.out (by rw [HXX.out, HY0.out, Nat.add_zero]; exact HS.out.2) (by rw [HXX.out]; exact HXY.out) (by rw [HY0.out]; omega) hc2 HS.out.1 (hbel.setCell (Nat.le_refl _) _)
        case measure => simp [intOf]; omega
    · obtain rfl : k = n := by omega
      have hcl := hown2.cellAt k (by omega)
      have hfz := hown2.frozenAt k
      rw [u32s_get _ _ (by simp [HT2.out])] at hcl
      have hst := (hown2.stored k (.int .u32 (c' : Int))).1
      rw [u32s_set, show k + 1 - k = 0 + 1 by omega, set_mid _ _ _ _ HT2.out] at hst
      have hv : wv (t ++ [c']) = wv l + wv l2 := by
        have := hT.out.2
        rw [List.take_of_length_le (by have := HN.out.1; omega), List.take_of_length_le (by have := HN.out.2; omega)] at this
        rw [wv_snoc, HT2.out]; exact this
      simp only [List.replicate_zero, List.append_nil] at hst
      have HS := Lib.hid hst
      have HV := Lib.hid hv
      have hcm : (c' : Int) % 4294967296 = (c' : Int) := by omega
      clear hst hv
      go_wp2_with fail
      refine (trim_any (some ⟨w.heap.size, 0, none⟩) (k + 1) (k + 1) (t ++ [c']) (by simp [HT2.out]) (by intro d hd; rcases List.mem_append.1 hd with h | h; exact hT.out.1 d h; simp at h; omega) _ _ (Rd.of_own HS.out) (by omega) (Nat.le_refl _)).mono ?_
      rintro e w2 ⟨rfl, ⟨m, rfl⟩, hr⟩
      have HR2 := Lib.hid hr
      clear hr
      go_wp2_with fail
      go_ret
      have hall : ∀ d ∈ t ++ [c'], d < 4294967296 := by intro d hd; rcases List.mem_append.1 hd with h | h; exact hT.out.1 d h; simp at h; omega
      have hlen : (wds (wv (t ++ [c']))).length ≤ k + 1 := wds_len (by have := wv_lt hall; simpa [HT2.out] using this)
      rw [← HV.out]
      exact ⟨_, k + 1, rfl, by simpa using HR2.out, hlen, fun b off e => by injection e with e; injection e with e; omega, dr (hbel.setCell (Nat.le_refl _) _) m⟩
theorem add_any (A A2 : Option Addr) (n n2 c c2 : Nat) (l l2 : List Nat) (hnl : n = l.length) (hnl2 : n2 = l2.length) (hl : ∀ d ∈ l, d < 4294967296) (hl2 : ∀ d ∈ l2, d < 4294967296) (w : World) (h : Rd w w.heap.size 1 A n (u32s l)) (h2 : Rd w w.heap.size 1 A2 n2 (u32s l2)) (hn : n ≤ 1000000) (hn2 : n2 ≤ 1000000) :
    Calls Tryd.prog 27 #[.slice A n c, .slice A2 n2 c2] w (WPost (wv l + wv l2) w) := by
  rcases Nat.lt_or_ge n n2 with hlt | hge
  · rw [Nat.add_comm]
    exact addLt_any A2 A n2 n c2 c l2 l hnl2 hnl hlt hl2 hl w h2 h hn2
  · exact addGe_any A A2 n n2 c c2 l l2 hnl hnl2 hge hl hl2 w h h2 hn
end Go.Proofs.YtgjhjojbaieeaaaDoor
