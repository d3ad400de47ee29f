/- What memory holds of a heap: its three rows. Conditions: none. -/
import Derived.Test.YthogfcdgbodccaaHpW
import Derived.Test.YthogfcdgbodccaaPnM
set_option maxRecDepth 100000
namespace Go.Proofs.Ythogfcdgbodccaa
open Go.ChangeShapes Go.WideShapes Go.ChangeAt Go.RowKit
/-- The cells of a row of cells. -/
def ceL (l : List (Int × Int)) : List Value := (l.map fun c => [Value.int .i64 c.1, .int .i64 c.2]).flatten
theorem ceL_len (l : List (Int × Int)) : (ceL l).length = l.length * 2 := by
  unfold ceL
  rw [flatten_len (k := 2) fun c hc => ?_]
  · simp
  · obtain ⟨p, _, rfl⟩ := List.mem_map.1 hc; rfl
/-- The program's heap in block P: rows of cells, sizes, shapes, all of them as long as the room. -/
structure HPc (w : World) (base P room : Nat) (bs : List BK) (cells : List (Int × Int)) (shapes : List Int) (cv zv sv : Value) : Prop where
  hP : base ≤ P
  box : w.heap[P]? = some (.cells #[cv, zv, sv] 52 (0, 0))
  cel : w.ownsRow base 36 2 cv room (ceL cells)
  siz : w.ownsRow base 3 1 zv room ((szL 0 bs room).map (Value.int .i64))
  sha : w.ownsRow base 3 1 sv room (shapes.map (Value.int .i64))
  dis : ∀ b, zv.ownBlock = some b → sv.ownBlock ≠ some b
  lc : cells.length = room
  ls : shapes.length = room
  fit : FitB 0 bs room
  row : RowB cells shapes bs
/-- The heap in block P. -/
def HP (base P room : Nat) (bs : List BK) (w : World) : Prop := ∃ cells shapes cv zv sv, HPc w base P room bs cells shapes cv zv sv
end Go.Proofs.Ythogfcdgbodccaa
