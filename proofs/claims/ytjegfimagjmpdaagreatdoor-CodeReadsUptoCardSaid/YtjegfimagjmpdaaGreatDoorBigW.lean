/- The document's 'whole'. Conditions: what comes in fits. -/
import Derived.Test.YtjegfimagjmpdaaGreatDoorBigA
set_option maxRecDepth 20000
namespace Go.Proofs.YtjegfimagjmpdaaGreatDoor
open Go.ChangeShapes Go.WideShapes Go.ChangeAt Go.RowKit
theorem setInt64_any (g : Nat) (n : Int) (hn : -9223372036854775808 ≤ n ∧ n ≤ 9223372036854775807) (x y : Value) (w : World) (h0 : w.cell? ⟨g, 0, none⟩ = some x) (h1 : w.cell? ⟨g, 1, none⟩ = some y) (f0 : w.frozen? ⟨g, 0, none⟩ = false) (f1 : w.frozen? ⟨g, 1, none⟩ = false) :
    Calls Tryz.prog 85 #[.pointer (some ⟨g, 0, none⟩), .int .i64 n] w fun e w' => e = .returned (.pointer (some ⟨g, 0, none⟩)) ∧ Big w' w'.heap.size g n ∧ w.grownBy w' (some g) := by
  have hq := Lib.hid (show (n < 0 → IntKind.u64.wrap (-IntKind.u64.wrap n) = (n.natAbs : Int)) ∧ (¬ n < 0 → IntKind.u64.wrap n = (n.natAbs : Int)) by
    rw [IntKind.wrap_u64, IntKind.wrap_u64]; omega)
  go_enter Tryz.func85, Tryz.ntmps85
  have hg : g < w.heap.size := World.block_lt_of_cell? w _ h0
  by_cases hneg : n < 0 <;>
  (go_wp2_with fail
   refine (words_any _ n.natAbs (by first | exact hq.out.1 hneg | omega) (by omega) _).mono ?_
   rintro e w1 ⟨A, c, rfl, hr, hlc, hA, hb⟩
   have c0 := (kept hb).1 g 0 hg
   have c1 := (kept hb).1 g 1 hg
   have d0 := (kept hb).2 g 0 hg
   have d1 := (kept hb).2 g 1 hg
   rw [h0] at c0
   rw [h1] at c1
   rw [f0] at d0
   rw [f1] at d1
   go_wp2_with fail
   refine (give_big g _ A _ c x y w1 c0 c1 d0 d1 hr (fun b off e => by have := hA b off e; omega) hlc).mono ?_
   rintro e w2 ⟨rfl, hB, hgb⟩
   have HB := Lib.hid hB
   clear hB
   go_wp2_with fail
   go_ret
   refine ⟨rfl, ?_, gb_trans (gb_below _ hb) hgb⟩
   have h9 := HB.out
   try rw [if_pos rfl] at h9
   try rw [if_neg (by simp; omega)] at h9
   first | rw [show -(n.natAbs : Int) = n by omega] at h9 | rw [show (n.natAbs : Int) = n by omega] at h9
   exact h9)
theorem newInt_any (n : Int) (hn : -9223372036854775808 ≤ n ∧ n ≤ 9223372036854775807) (w : World) : Calls Tryz.prog 71 #[.int .i64 n] w (BigPost n w) := by
  go_enter Tryz.func71, Tryz.ntmps71
  go_wp2_with fail
  refine (setInt64_any w.heap.size n hn _ _ _ (by simp; rfl) (by simp; rfl) (by simp) (by simp)).mono ?_
  rintro e w2 ⟨rfl, hB, hgb⟩
  have HB := Lib.hid hB
  clear hB
  go_wp2_with fail
  go_ret
  exact ⟨_, rfl, Nat.le_refl _, HB.out, below_gb (al _) (by simp) (Nat.le_refl _) hgb⟩
theorem wholeBig_any (n : Int) (hn : -9223372036854775808 ≤ n ∧ n ≤ 9223372036854775807) (w : World) : Calls Tryz.prog 48 #[.int .i64 n] w (BigPost n w) := by
  go_enter Tryz.func48, Tryz.ntmps48
  go_wp2_with fail
  refine (newInt_any n hn _).mono ?_
  rintro e w2 ⟨g, rfl, hg, hB, hb⟩
  have HB := Lib.hid hB
  clear hB
  go_wp2_with fail
  go_ret
  exact ⟨g, rfl, hg, HB.out, hb⟩
end Go.Proofs.YtjegfimagjmpdaaGreatDoor
