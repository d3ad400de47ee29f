/- 'word.Text' is the decimal text. Conditions: none. -/
import Derived.Test.YtgjhjojbaieeaaaDoorRow
import Derived.Test.YtgjhjojbaieeaaaDoorDec
set_option maxRecDepth 20000
namespace Go.Proofs.YtgjhjojbaieeaaaDoor
open Go.ChangeShapes Go.WideShapes Go.ChangeAt Go.RowKit
def decS (n : Int) : ByteArray := strOf (decL n)
/-- What the loop keeps. -/
def Tr (B : Nat) (W : World) (t : TypeId) (g U : Nat) (x u : Value) (wr : World) : Prop :=
  ∃ (q a : Nat) (l : List Nat) (xs : List Value), x = .int .i64 (a : Int) ∧ u = .int .u64 (q : Int) ∧ q ≤ U ∧ a + l.length = 20 ∧ Tells U q l ∧ wr.ownsRow B t 1 (.slice (some ⟨g, 0, none⟩) 20 20) 20 xs ∧ xs.drop a = u8s l ∧ Below B W wr
theorem Tr.start (W : World) (t : TypeId) (U : Nat) (cs : Array Value) (hc : cs.size = 20) {u : Int} (hu : u = (U : Int)) : Tr W.heap.size W t W.heap.size U (.int .i64 20) (.int .u64 u) (W.alloc (.cells cs t)) := by
  subst hu
  refine ⟨U, 20, [], cs.toList, rfl, rfl, Nat.le_refl _, rfl, Tells.start U, World.ownsRow_lit _ _ 20 (Nat.le_refl _) (by unfold maxLen; omega) (by rw [hc]), ?_, al _⟩
  rw [List.drop_eq_nil_of_le (by simp [hc])]; rfl
theorem set_drop {xs : List Value} {a : Nat} {l : List Nat} {d : Nat} (h : xs.drop (a + 1) = u8s l) (ha : a < xs.length) : (xs.set a (.int .u8 (d : Int))).drop a = u8s (d :: l) := by
  rw [List.drop_set, if_neg (by omega), Nat.sub_self, List.drop_eq_getElem_cons ha, List.set_cons_zero, h, u8s_cons]
theorem Rd.of_drop {w : World} {B g a n m : Nat} {t : TypeId} {xs : List Value} {l : List Nat} (h : w.ownsRow B t 1 (.slice (some ⟨g, 0, none⟩) n n) n xs) (hx : xs.drop a = u8s l) (ha : a + l.length = n) (hm : a + m = n) : Rd w w.heap.size 1 (some ⟨g, a, none⟩) m (u8s l) := by
  refine ⟨by simp; omega, fun _ => ⟨g, a, rfl, (h.lt g rfl).2, fun j u hu => ?_⟩⟩
  have hl : a + j < n * 1 := by
    have := (List.getElem?_eq_some_iff.1 hu).1
    simp at this; omega
  rw [h.cellAt (a + j) hl, ← hu, ← hx, List.getElem?_drop]
theorem run_tail (z : Int) (a g : Nat) (hz : z = a) (h : a < 20) (w : World) : (Instr.sliceAt 44 (.pointer (some ⟨g, 0, none⟩)) (some (.int .i64 z)) none none).run Tryd.prog w = .ok (.slice (some ⟨g, a, none⟩) (20 - a) (20 - a)) w := by
  subst hz
  have hl : Tryd.prog.arrayLen 44 = 20 := by kernel_rfl
  have he : Tryd.prog.elem 44 = 5 := by kernel_rfl
  have hs : (sizeOf 5).run Tryd.prog w = .ok 1 w := by kernel_rfl
  rw [run_sliceAt_array_l w 44 ⟨g, 0, none⟩ (by rw [hl, he]; exact Tryd.underlying44) .i64 (a : Int) (by omega) (by rw [hl]; omega), he, hs, hl]
  simp only [Result.andThen_ok, slicedAt, Int.toNat_natCast, Nat.mul_one]
  rw [if_neg (by omega)]
  rcases Nat.eq_zero_or_pos a with rfl | h0
  · rfl
  · simp [Addr.add, Nat.ne_of_gt h0]
set_option maxHeartbeats 1000000 in
theorem wordText_any (n : Int) (hn : -9223372036854775808 ≤ n ∧ n ≤ 9223372036854775807) (w : World) : Calls Tryd.prog 12 #[.int .i64 n] w fun e w' => e = .returned (.string (decS n)) ∧ Below w.heap.size w w' := by
  have hU : n.natAbs ≤ 9223372036854775808 := by omega
  have h19 := dd_len19 hU
  have hq := Lib.hid (show (n < 0 → IntKind.u64.wrap (-IntKind.u64.wrap n) = (n.natAbs : Int)) ∧ (¬ n < 0 → IntKind.u64.wrap n = (n.natAbs : Int)) by
    rw [IntKind.wrap_u64, IntKind.wrap_u64]; omega)
  go_enter Tryd.func12, Tryd.ntmps12
  by_cases hneg : n < 0 <;>
  (go_wp2_with fail
   go_loopw [4, 5] (fun x u wr => Tr w.heap.size w 44 w.heap.size n.natAbs x u wr) (fun _ u _ => (intOf u).toNat)
   case atStart => exact Tr.start _ _ _ _ rfl (by first | exact hq.out.1 hneg | exact hq.out.2 hneg | omega)
   case round =>
    obtain ⟨q, a, l, xs, rfl, rfl, hqU, hal, HT, hown, hdrop, hbel⟩ := hrel
    have HT' := Lib.hid HT
    have HD := Lib.hid hdrop
    have hlen := HT.len
    have hp := dd_pos q
    clear HT hdrop hq
    obtain ⟨i, rfl⟩ : ∃ i, a = i + 1 + 1 := ⟨a - 2, by omega⟩
    have hxl := hown.1
    simp at hxl
    have hcell := hown.cellAt (i + 1) (by omega)
    rw [List.getElem?_eq_getElem (by omega)] at hcell
    have hfz := hown.frozenAt (i + 1)
    have hcell0 := hown.cellAt i (by omega)
    rw [List.getElem?_eq_getElem (by omega)] at hcell0
    have hfz0 := hown.frozenAt i
    have hsl := run_tail ((i : Int) + 1) (i + 1) w.heap.size (by omega) (by omega)
    have hsl0 := run_tail (i : Int) i w.heap.size rfl (by omega)
    have ed : Value.int .u8 (48 + (q : Int) % 10) = .int .u8 ((48 + q % 10 : Nat) : Int) := by go_num
    have hst := hown.stored (i + 1) (.int .u8 (48 + (q : Int) % 10))
    have hdr : (xs.set (i + 1) (.int .u8 (48 + (q : Int) % 10))).drop (i + 1) = u8s ((48 + q % 10) :: l) := by rw [ed]; exact set_drop HD.out (by omega)
    have HR := Lib.hid hdr
    have HS := Lib.hid hst
    clear ed hst hdr
    by_cases hq10 : q < 10
    · have h0 : (q : Int) / 10 = 0 := by omega
      have hk := HT'.out.done hq10
      have hx : (if n < 0 then 45 :: (48 + q % 10) :: l else (48 + q % 10) :: l) = decL n := by rw [hk]; unfold decL; rfl
      first | rw [if_pos hneg] at hx | rw [if_neg (by omega)] at hx
      have HX := Lib.hid hx
      clear hk hx
      have hst0 := HS.out.1.stored i (.int .u8 45)
      have HS0 := Lib.hid hst0
      clear hst0
      have hc1 := fun h : (48 + q % 10) :: l = decL n => run_str_u8s (P := Tryd.prog) (c := 19 - i) (Rd.of_drop (m := 19 - i) HS.out.1 (h ▸ HR.out) (by rw [← h]; simp; omega) (by omega)) 46 5 9 Tryd.underlying46 Tryd.underlying5 Tryd.underlying9
      have hc2 := fun h : 45 :: (48 + q % 10) :: l = decL n => run_str_u8s (P := Tryd.prog) (c := 20 - i) (Rd.of_drop (m := 20 - i) HS0.out.1 (h ▸ set_drop (d := 45) HR.out (by simp; omega)) (by rw [← h]; simp; omega) (by omega)) 46 5 9 Tryd.underlying46 Tryd.underlying5 Tryd.underlying9
      first | replace hc1 := hc1 HX.out | replace hc2 := hc2 HX.out
      have hn : True := trivial
      go_wp2
      all_goals
        go_ret
        refine ⟨rfl, ?_⟩
        first | exact (hbel.setCell (Nat.le_refl _) _).setCell (Nat.le_refl _) _ | exact hbel.setCell (Nat.le_refl _) _
    · have h0 : ((q : Int) / 10 == 0) = false := by simp; omega
      go_wp2
      go_roundw
      case rel => exact ⟨q / 10, i + 1, (48 + q % 10) :: l, _, by go_num, by go_num, by omega, by simp; omega, HT'.out.step hq10, HS.out.1, HR.out, hbel.setCell (Nat.le_refl _) _⟩
      case measure => simp [intOf]; omega)
end Go.Proofs.YtgjhjojbaieeaaaDoor
