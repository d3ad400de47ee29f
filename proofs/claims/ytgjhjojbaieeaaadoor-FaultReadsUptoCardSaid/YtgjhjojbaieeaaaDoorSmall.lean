/- Numbers of any size: copied; divided by one word. Conditions: none. -/
import Derived.Test.YtgjhjojbaieeaaaDoorBig1
import Derived.Test.YtgjhjojbaieeaaaDoorRow
import Derived.Test.YtgjhjojbaieeaaaDoorBits
set_option maxRecDepth 20000
namespace Go.Proofs.YtgjhjojbaieeaaaDoor
open Go.ChangeShapes Go.WideShapes Go.ChangeAt Go.RowKit
theorem info_u32 : (Tryd.prog.info? 69).map (fun i => (i.zero, i.size, i.bytes)) = some (some (.int .u32 0), 1, 4) := by kernel_rfl
theorem made_one (v : Value) (n : Nat) : (madeCells #[v] n).toList = List.replicate n v := by
  apply List.ext_getElem <;> simp [madeCells, Nat.mod_one]
theorem made_u32s (n : Nat) : (madeCells (Value.cells (.int .u32 0)) (n * 1)).toList = u32s (List.replicate n 0) := by
  rw [show Value.cells (.int .u32 0) = #[Value.int .u32 0] from rfl, made_one, Nat.mul_one]
  simp [u32s]
/-- What the loop of 'small' keeps. -/
def Sm (B : Nat) (W : World) (t0 : TypeId) (l : List Nat) (d g : Nat) (r i : Value) (wr : World) : Prop :=
  ∃ (z : Int) (t : List Nat), i = .int .i64 z ∧ -1 ≤ z ∧ z < l.length ∧ r = .int .u64 ((wv (l.drop (z + 1).toNat) % d : Nat) : Int) ∧ (∀ x ∈ t, x < 4294967296) ∧ wv t = wv (l.drop (z + 1).toNat) / d ∧ t.length + (z + 1).toNat = l.length ∧
    wr.ownsRow B t0 1 (.slice (some ⟨g, 0, none⟩) l.length l.length) l.length (u32s (List.replicate (z + 1).toNat 0 ++ t)) ∧ Below B W wr
theorem Sm.start {W w1 : World} {t0 : TypeId} {l : List Nat} {d : Nat} {z : Int} (hz : z = (l.length : Int) - 1) (hown : w1.ownsRow W.heap.size t0 1 (.slice (some ⟨W.heap.size, 0, none⟩) l.length l.length) l.length (u32s (List.replicate l.length 0))) (hg : W.grownBy w1 none) :
    Sm W.heap.size W t0 l d W.heap.size (.int .u64 0) (.int .i64 z) w1 := by
  have e : ((l.length : Int) - 1 + 1).toNat = l.length := by omega
  subst hz
  refine ⟨_, [], rfl, by omega, by omega, ?_, by simp, ?_, by rw [e]; simp, by rw [e]; simpa using hown, (Below.refl _ _).grown hg (Nat.le_refl _) (by simp)⟩
  · rw [e]; simp [wv]
  · rw [e]; simp [wv]
theorem u32s_set (l : List Nat) (j x : Nat) : (u32s l).set j (.int .u32 (x : Int)) = u32s (l.set j x) := by simp [u32s, List.map_set]
theorem rep_set (j x : Nat) (t : List Nat) : (List.replicate (j + 1) 0 ++ t).set j x = List.replicate j 0 ++ x :: t := by
  rw [List.replicate_succ', List.append_assoc, List.set_append_right _ _ (by simp)]
  simp
theorem idiv_lt (Y d : Nat) (h : Y / d < 4294967296) : (Y : Int) / (d : Int) < 4294967296 := by rw [← Int.natCast_ediv]; omega
theorem idiv_ge (Y d : Nat) : 0 ≤ (Y : Int) / (d : Int) := by rw [← Int.natCast_ediv]; exact Int.natCast_nonneg _
theorem mod_fit (N d : Nat) (hd : 0 < d) (hd2 : d < 4294967296) : (N : Int) % (d : Int) % 4294967296 = ((N % d : Nat) : Int) := by
  have h := Nat.mod_lt N hd
  rw [← Int.natCast_emod]
  omega
theorem Sm.step {B : Nat} {W wn : World} {t0 : TypeId} {l t : List Nat} {d g j Y : Nat} (hj : j < l.length) (ht3 : t.length + (j + 1) = l.length) (ht1 : ∀ x ∈ t, x < 4294967296) (ht2 : wv t = wv (l.drop (j + 1)) / d) (hY : Y / d < 4294967296)
    (hs : wv (l.drop j) / d = Y / d + 4294967296 * (wv (l.drop (j + 1)) / d) ∧ wv (l.drop j) % d = Y % d)
    (hown : wn.ownsRow B t0 1 (.slice (some ⟨g, 0, none⟩) l.length l.length) l.length ((u32s (List.replicate (j + 1) 0 ++ t)).set j (.int .u32 ((Y : Int) / d)))) (hb : Below B W wn) :
    Sm B W t0 l d g (.int .u64 ((Y : Int) % d)) (.int .i64 ((j : Int) - 1)) wn := by
  have e : ((j : Int) - 1 + 1).toNat = j := by omega
  refine ⟨_, Y / d :: t, rfl, by omega, by omega, ?_, ?_, ?_, by simp; omega, ?_, hb⟩
  · rw [e, hs.2]; simp
  · intro x hx
    rcases List.mem_cons.1 hx with rfl | hx
    · exact hY
    · exact ht1 x hx
  · rw [e, hs.1, wv, ht2]
  · rw [e, ← rep_set, ← u32s_set]
    simpa using hown
/-- Words that the call owns. -/
theorem twin_any (A : Option Addr) (n c : Nat) (l : List Nat) (w : World) (h : Rd w w.heap.size 1 A n (u32s l)) (hn : n ≤ 1000000) :
    Calls Tryd.prog 41 #[.slice A n c] w fun e w' => ∃ A' c', e = .returned (.slice A' n c') ∧ w'.ownsRow w.heap.size 69 1 (.slice A' n c') n (u32s l) ∧ Below w.heap.size w w' := by
  obtain ⟨i0, hi, hz0, hz1, hz2⟩ := info_parts info_u32
  go_enter Tryd.func41, Tryd.ntmps41
  go_wp2_with (at_builtin; refine wpList_append_new _ rfl _ _ 49 rfl 69 i0 _ 1 4 Tryd.underlying49 hi hz0 hz1 hz2 rfl (by omega) rfl w.heap.size A n c (u32s l) rfl h (u32s_one _) (by omega) (by unfold maxLen; omega) ?_; intro A1 cp w1 hown hb)
  go_ret
  exact ⟨A1, cp, rfl, hown, hb⟩
theorem small_any (A : Option Addr) (c : Nat) (l : List Nat) (hl : ∀ d ∈ l, d < 4294967296) (d : Nat) (hd : 0 < d) (hd2 : d < 4294967296) (w : World) (h : Rd w w.heap.size 1 A l.length (u32s l)) (hn : l.length ≤ 1000000) :
    Calls Tryd.prog 42 #[.slice A l.length c, .int .u32 (d : Int)] w fun e w' => ∃ A' c', e = .returned (.tuple #[.slice A' (wds (wv l / d)).length c', .int .u32 ((wv l % d : Nat) : Int)]) ∧ Rd w' w'.heap.size 1 A' (wds (wv l / d)).length (u32s (wds (wv l / d))) ∧ (wds (wv l / d)).length ≤ c' ∧ (∀ b off, A' = some ⟨b, off, none⟩ → w.heap.size ≤ b) ∧ Below w.heap.size w w' := by
  obtain ⟨i0, hi, hz0, hz1, hz2⟩ := info_parts info_u32
  go_enter Tryd.func42, Tryd.ntmps42
  go_wp2_with (at_make; refine wpList_make_full _ rfl _ _ 49 rfl w.heap.size 69 i0 (.int .u32 0) 1 Tryd.underlying49 hi hz0 hz1 .i64 .i64 _ _ l.length rfl rfl rfl rfl (by rw [hz2]; omega) (by unfold maxLen; omega) (Nat.le_refl _) ?_; intro w1 hown hgrow)
  rw [made_u32s] at hown
  go_loopw [7, 8] (fun r i wr => Sm w.heap.size w 69 l d w.heap.size r i wr) (fun _ i _ => (intOf i + 1).toNat)
  case atStart => exact Sm.start rfl hown hgrow
  case round =>
    obtain ⟨z, t, rfl, hz1', hz2', rfl, ht1, ht2, ht3, hown2, hbel⟩ := hrel
    have HT := Lib.hid (And.intro ht1 ht2)
    clear ht1 ht2 hown hgrow
    by_cases hz : 0 ≤ z
    · obtain ⟨j, rfl⟩ := Int.eq_ofNat_of_zero_le hz
      have e1 : ((j : Int) + 1).toNat = j + 1 := by omega
      rw [e1] at ht3 hown2 HT
      have hj : j < l.length := by omega
      obtain ⟨b, off, rfl, hc⟩ := cell32 ((h.below hbel)) hj
      have hcell := hown2.cellAt j (by omega)
      have hfz := hown2.frozenAt j
      rw [u32s_get _ _ (by simp; omega)] at hcell
      rw [e1]
      have hxl := getD_lt hl j
      have hdrop := wv_drop hj
      have hRd : wv (l.drop (j + 1)) % d < d := Nat.mod_lt _ hd
      have hst := small_step (x := l.getD j 0) (X := wv (l.drop (j + 1))) hd
      have hsl := small_lt (x := l.getD j 0) hd hRd hxl
      rw [← hdrop] at hst
      generalize hR : wv (l.drop (j + 1)) % d = R at *
      generalize hx : l.getD j 0 = x at *
      obtain ⟨Y, hY⟩ : ∃ Y, R * 4294967296 + x = Y := ⟨_, rfl⟩
      have hor := or32 R x (by omega) hxl
      rw [hY] at hor hsl hst
      have hst' := hown2.stored j (.int .u32 ((Y : Int) / d))
      have HA := Lib.hid (And.intro hst hst')
      have hY2 : Y < 18446744073709551616 := by omega
      have hYi := idiv_lt Y d hsl
      have hYj := idiv_ge Y d
      have HQ := Lib.hid hsl
      clear hR hx hY hdrop hst hst' hsl
      go_wp2
      go_roundw
      case rel => exact Sm.step hj ht3 HT.out.1 HT.out.2 HQ.out HA.out.1 HA.out.2.1 (hbel.setCell (Nat.le_refl _) _)
      case measure => simp [intOf]
    · obtain rfl : z = -1 := by omega
      have e0 : (-1 + 1 : Int).toNat = 0 := rfl
      rw [e0] at ht3 hown2 HT
      rw [e0]
      simp only [List.replicate_zero, List.nil_append, List.drop_zero] at hown2 HT ⊢
      have HL := Lib.hid (show t.length = l.length by omega)
      clear ht3
      go_wp2_with fail
      refine (trim_any (some ⟨w.heap.size, 0, none⟩) l.length l.length t HL.out.symm HT.out.1 _ wr.heap.size (Rd.of_own hown2) (by omega) (Nat.le_refl _)).mono ?_
      rintro e w2 ⟨rfl, ⟨m, rfl⟩, hr⟩
      have hl2 : (wds (wv t)).length ≤ l.length := by
        have := wds_len (n := wv t) (k := t.length) (wv_lt HT.out.1)
        rw [HL.out] at this; exact this
      rw [HT.out.2] at hr hl2 ⊢
      have HR := Lib.hid hr
      clear hr
      go_wp2_with fail
      go_returns
      exact ⟨_, l.length, congrArg (fun x : Int => Ending.returned (.tuple #[.slice (some ⟨w.heap.size, 0, none⟩) (wds (wv l / d)).length l.length, .int .u32 x])) (mod_fit (wv l) d hd hd2), HR.out, hl2, fun b off e => by injection e with e; injection e with e; omega, dr hbel m⟩
end Go.Proofs.YtgjhjojbaieeaaaDoor
