/- The law's copy of a code. Conditions: the code fits what comes in. -/
import Derived.Test.YtjegfimagjmpdaaGreatDoorCdV
import Derived.Handy
set_option maxRecDepth 100000
namespace Go.Proofs.YtjegfimagjmpdaaGreatDoor
open Go.ChangeShapes Go.WideShapes Go.ChangeAt Go.RowKit
theorem info_ins : (Tryz.prog.info? 47).map (fun i => (i.zero, i.size, i.bytes)) = some (some (.agg #[.int .i64 0, .int .i64 0, .int .i64 0, .int .i64 0, .int .i64 0, .int .i64 0]), 6, 48) := by kernel_rfl
theorem info_fn : (Tryz.prog.info? 44).map (fun i => (i.zero, i.size, i.bytes)) = some (some (.agg #[.string ByteArray.empty, .int .i64 0, .int .i64 0, .int .i64 0, .slice none 0 0]), 5, 64) := by kernel_rfl
theorem str_flat : ∀ {w : World} {M : Nat → Prop} {es : List (List Value)} {T : List ByteArray}, Shp.str.all w M es T → es.flatten = T.map Value.string
  | _, _, [], [], _ => rfl
  | _, _, [], _ :: _, h => by have := h.1; simp at this
  | _, _, _ :: _, [], h => by have := h.1; simp at this
  | w, M, c :: r, x :: y, h => by
    have h0 : c = [.string x] := h.2 0 c x rfl rfl
    rw [List.flatten_cons, h0, str_flat (w := w) (M := M) (es := r) (T := y) ⟨by simpa using h.1, fun i c' x' h1 h2 => h.2 (i + 1) c' x' h1 h2⟩]
    rfl
theorem strs_oneCell (T : List ByteArray) : ∀ u ∈ T.map Value.string, u.oneCell' = true := fun u hu => by
  obtain ⟨x, _, rfl⟩ := List.mem_map.1 hu
  rfl
/-- The copy's own cells: the code's head, the result, the copy's head. -/
structure DX (FA TA : Option Addr) (nf nt fc tc g : Nat) (w : World) : Prop where
  z : g + 1 < w.heap.size
  p0 : w.cell? ⟨g, 0, none⟩ = some (.slice FA nf fc)
  p1 : w.cell? ⟨g, 1, none⟩ = some (.slice TA nt tc)
  r0 : w.cell? ⟨g + 1, 0, none⟩ = some (.slice none 0 0)
  r1 : w.cell? ⟨g + 1, 1, none⟩ = some (.slice none 0 0)
  z0 : w.frozen? ⟨g + 1, 0, none⟩ = false
  z1 : w.frozen? ⟨g + 1, 1, none⟩ = false
theorem DX.into {FA TA : Option Addr} {nf nt fc tc g B : Nat} {w w' : World} (h : DX FA TA nf nt fc tc g w) (hb : Below B w w') (hB : g + 1 < B) : DX FA TA nf nt fc tc g w' := by
  have l0 : g < B := by omega
  exact ⟨Nat.lt_of_lt_of_le h.z hb.size, (hb.cell (p := ⟨g, _, none⟩) l0).trans h.p0, (hb.cell (p := ⟨g, _, none⟩) l0).trans h.p1,
    (hb.cell (p := ⟨g + 1, _, none⟩) hB).trans h.r0, (hb.cell (p := ⟨g + 1, _, none⟩) hB).trans h.r1,
    (hb.frozen (p := ⟨g + 1, _, none⟩) hB).trans h.z0, (hb.frozen (p := ⟨g + 1, _, none⟩) hB).trans h.z1⟩
/-- The copy's head. -/
structure DD (v : Value) (TA : Option Addr) (nt tc g : Nat) (w : World) : Prop where
  z : g < w.heap.size
  d0 : w.cell? ⟨g, 0, none⟩ = some v
  d1 : w.cell? ⟨g, 1, none⟩ = some (.slice TA nt tc)
  f0 : w.frozen? ⟨g, 0, none⟩ = false
theorem DD.into {v : Value} {TA : Option Addr} {nt tc g : Nat} {w w' : World} (h : DD v TA nt tc g w) (hb : Below w.heap.size w w') : DD v TA nt tc g w' :=
  ⟨Nat.lt_of_lt_of_le h.z hb.size, (hb.cell (p := ⟨g, _, none⟩) h.z).trans h.d0, (hb.cell (p := ⟨g, _, none⟩) h.z).trans h.d1, (hb.frozen (p := ⟨g, _, none⟩) h.z).trans h.f0⟩
theorem DD.grown {v u : Value} {TA : Option Addr} {nt tc g : Nat} {w w' : World} (h : DD v TA nt tc g w) (hg : w.grownBy w' u.ownBlock) (hne : u.ownBlock ≠ some g) : DD v TA nt tc g w' := by
  have hk : w'.heap[g]? = w.heap[g]? := hg.block g h.z (fun e => hne e.symm)
  exact ⟨Nat.lt_of_lt_of_le h.z hg.size, (World.cell?_of_block (a := ⟨g, 0, none⟩) hk).trans h.d0, (World.cell?_of_block (a := ⟨g, 1, none⟩) hk).trans h.d1, (World.frozen?_of_block (a := ⟨g, 0, none⟩) hk).trans h.f0⟩
theorem DD.put {v : Value} {TA : Option Addr} {nt tc g : Nat} {w : World} (h : DD v TA nt tc g w) (v' : Value) : DD v' TA nt tc g (w.setCell ⟨g, 0, none⟩ v') :=
  ⟨by simpa using h.z, World.cell?_setCell_same _ _ _ h.d0, (World.cell?_setCell_other _ _ _ _ (fun e => by injection e with _ e _; cases e)).trans h.d1, by simpa using h.f0⟩
/-- A copy: it reads as the code. -/
def CopyPost (K : KK) (nf nt : Nat) (w : World) (e : Ending) (w' : World) : Prop :=
  ∃ FA' fc' TA' tc', e = .returned (.agg #[.slice FA' nf fc', .slice TA' nt tc']) ∧ KR w' w'.heap.size FA' TA' K ∧ Below w.heap.size w w'
end Go.Proofs.YtjegfimagjmpdaaGreatDoor
