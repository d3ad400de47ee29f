/- The document's Equal. Conditions: none. -/
import Derived.Test.YtapofohbngkekaaOpValue
import Derived.Test.YtapofohbngkekaaSameInts
set_option maxRecDepth 20000
namespace Go.Proofs.Ytapofohbngkekaa
open Go.ChangeShapes Go.WideShapes Go.ChangeAt Go.RowKit
theorem refEq_any (k n : Int) (s : ByteArray) (A : Option Addr) (len cap : Nat) (zs : List Int) (k' n' : Int) (s' : ByteArray) (A' : Option Addr) (len' cap' : Nat) (zs' : List Int) (w : World) (hx : Rd w w.heap.size 1 A len (zs.map (Value.int .i64))) (hy : Rd w w.heap.size 1 A' len' (zs'.map (Value.int .i64))) (hn : len * 8 ≤ 140737488355328) (hn' : len' * 8 ≤ 140737488355328) :
    Calls Try.prog 45 #[val k n s A len cap, val k' n' s' A' len' cap'] w fun e w' => e = .returned (.bool (k == k' && n == n' && s.toList == s'.toList && zs == zs')) ∧ Below w.heap.size w w' := by
  go_enter Try.func45, Try.ntmps45
  go_wp2_with (go_at_call 44; refine (refSameInts_any _ _ _ _ _ _ zs zs' _ _ _ ((hx.alloc (Nat.le_refl _) _).alloc (by simp) _) ((hy.alloc (Nat.le_refl _) _).alloc (by simp) _) hn hn').mono ?_; rintro e w2 ⟨rfl, m, rfl⟩)
  all_goals
    go_ret
    refine ⟨by simp_all, ?_⟩
    first | exact al2 (al _) _ | exact dr (al2 (al _) _) _
end Go.Proofs.Ytapofohbngkekaa
