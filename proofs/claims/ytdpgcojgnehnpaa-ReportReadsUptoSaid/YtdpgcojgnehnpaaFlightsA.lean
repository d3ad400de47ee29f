/- Panics that are made; the one that the law itself asks of. Conditions: none. -/
import Derived.Test.YtdpgcojgnehnpaaCrashP
import Derived.Test.YtdpgcojgnehnpaaOwn
import Derived.Handy
import Derived.Deep.RegionHeld
set_option maxRecDepth 20000
namespace Go.Proofs.Ytdpgcojgnehnpaa
open Go.ChangeShapes Go.WideShapes Go.ChangeAt Go.RowKit
theorem info_panic : (Try.prog.info? 132).map (fun i => (i.zero, i.size, i.bytes)) = some (some (.agg #[.int .i64 0, .int .i64 0, .int .i64 0, .string ByteArray.empty, .slice none 0 0, .bool false, .bool false]), 7, 72) := by kernel_rfl
theorem set4_below {w w3 : World} {g B : Nat} (hb : Below B w w3) (hg : B ≤ g) (hB : B ≤ w3.heap.size) (v1 v2 v3 v4 : Value) (o : Obj) : Below B w (((((w3.setCell ⟨g, 1, none⟩ v1).setCell ⟨g, 2, none⟩ v2).setCell ⟨g, 3, none⟩ v3).setCell ⟨g, 4, none⟩ v4).alloc o) :=
  ((((hb.setCell hg _).setCell hg _).setCell hg _).setCell hg _).alloc (by simpa using hB) _
theorem pp_new {w3 : World} {g base c3 : Nat} {x : PP} {A3 : Option Addr} (h : w3.ownsRow base 3 1 (.slice A3 x.v.l.length c3) x.v.l.length (x.v.l.map (Value.int .i64))) (hg : g < base) (hs : -9223372036854775808 ≤ x.ser ∧ x.ser ≤ 9223372036854775807)
    (hk : -9223372036854775808 ≤ x.v.k ∧ x.v.k ≤ 9223372036854775807) (hn : -9223372036854775808 ≤ x.v.n ∧ x.v.n ≤ 9223372036854775807) (hz : ∀ z ∈ x.v.l, -9223372036854775808 ≤ z ∧ z ≤ 9223372036854775807) (v1 v2 v3 v4 : Value) (o : Obj) :
    PP.sh.rd (((((w3.setCell ⟨g, 1, none⟩ v1).setCell ⟨g, 2, none⟩ v2).setCell ⟨g, 3, none⟩ v3).setCell ⟨g, 4, none⟩ v4).alloc o) (fun b => g ≤ b ∧ b < (((((w3.setCell ⟨g, 1, none⟩ v1).setCell ⟨g, 2, none⟩ v2).setCell ⟨g, 3, none⟩ v3).setCell ⟨g, 4, none⟩ v4).alloc o).heap.size)
      [.int .i64 x.ser, .int .i64 x.v.k, .int .i64 x.v.n, .string x.v.s, .slice A3 x.v.l.length c3, .bool x.rcv, .bool x.ab] x := by
  obtain ⟨q1, q2, q3⟩ := own_cap h
  refine PP.intro hs (VV.intro (((RdM.of_own h).keep fun p hp => ?_).more fun b hb => ⟨by omega, by simp; omega⟩) q1 q2 q3 hk hn hz)
  have hne : ∀ j, (⟨g, j, none⟩ : Addr).block ≠ p.block := fun j => by simp; omega
  rw [World.cell?_alloc_lt _ _ _ (by simp; omega), World.cell?_setCell_far _ _ _ _ (hne 4), World.cell?_setCell_far _ _ _ _ (hne 3), World.cell?_setCell_far _ _ _ _ (hne 2), World.cell?_setCell_far _ _ _ _ (hne 1)]
/-- The one panic that the law itself asks of. -/
def onePP : PP := ⟨0, ⟨1, 1, ⟨#[]⟩, []⟩, false, false⟩
@[reducible] def oneCs : Array Value := #[.int .i64 0, .int .i64 1, .int .i64 1, .string ⟨#[]⟩, .slice none 0 0, .bool false, .bool false]
theorem one_rd (w : World) : (Shp.slice PP.sh).rd (w.alloc (.cells oneCs 132)) (· < w.heap.size + 1) [.slice (some ⟨w.heap.size, 0, none⟩) 1 1] [onePP] := by
  refine ⟨some ⟨w.heap.size, 0, none⟩, 1, [oneCs.toList], rfl, by simp, by unfold maxLen; simp, .inr (by simp), ?_, Shp.all1 ?_⟩
  · exact Rd.one w oneCs 132 7 rfl _ rfl
  · refine PP.intro (p := onePP) (by decide) (VV.intro (v := onePP.v) (RdM.nil) (Nat.le_refl 0) (by unfold maxLen; simp) (.inl rfl) (by decide) (by decide) (fun z hz => by cases hz))
theorem sl_pp {w : World} {M : Nat → Prop} {v : Value} {l : List PP} (h : (Shp.slice PP.sh).rd w M [v] l) : ∃ A c, v = .slice A l.length c := by
  obtain ⟨A, c, _, e, _⟩ := h
  simp at e
  exact ⟨A, c, e⟩
theorem pp_range {w : World} {M : Nat → Prop} {cs : List Value} {l : List PP} (h : (Shp.slice PP.sh).rd w M cs l) : ∀ p ∈ l, -9223372036854775808 ≤ p.v.n ∧ p.v.n ≤ 9223372036854775807 := by
  obtain ⟨_, _, ess, _, _, _, _, _, hall⟩ := h
  intro p hp
  obtain ⟨i, hi, rfl⟩ := List.getElem_of_mem hp
  have he : i < ess.length := by rw [hall.1]; exact hi
  obtain ⟨_, _, _, _, hv⟩ := PP.elim (hall.2 i _ _ (List.getElem?_eq_getElem he) (List.getElem?_eq_getElem hi))
  obtain ⟨_, _, _, _, _, _, _, _, hn, _⟩ := VV.elim hv
  exact hn
end Go.Proofs.Ytdpgcojgnehnpaa
