/- A builder within the printer's struct: what its writers leave of it and of all else. Conditions: the lengths. -/
import Derived.Test.YtkpejdkffkhekaaGreatDoorBuild
import Derived.Test.YtkpejdkffkhekaaGreatDoorBase
import Derived.Lib.OthersKept
import Derived.Lib.AppendStr
import Derived.Handy
set_option maxRecDepth 20000
namespace Go.Proofs.YtkpejdkffkhekaaGreatDoor
open Go.ChangeShapes Go.WideShapes Go.ChangeAt Go.RowKit
theorem lies_wr : liesAt Tryz.prog Tryz.prog.depth 38 (4 / Tryz.prog.cellsOf 38) 0 36 1 = true := by kernel_rfl
/-- The printer's box: a builder that holds L, the tree, how far lines stand in. -/
def Wr (B g : Nat) (tr : Value) (d : Int) (L : List UInt8) (w : World) : Prop :=
  B ≤ g ∧ ∃ p v, w.heap[g]? = some (.cells #[p, v, tr, .int .i64 d] 38 (0, 0)) ∧ (p = .pointer none ∨ p = .pointer (some ⟨g, 0, none⟩)) ∧ w.ownsRow B 5 1 v L.length (Lib.byteCells L) ∧ v.ownBlock ≠ some g
theorem wr_put {w : World} {g : Nat} {a b c d : Value} (h : w.heap[g]? = some (.cells #[a, b, c, d] 38 (0, 0))) (k : Nat) (v : Value) : (w.setCell ⟨g, k, none⟩ v).heap[g]? = some (.cells (#[a, b, c, d].setIfInBounds k v) 38 (0, 0)) := by
  simp [World.setCell, Array.getElem?_modify, h]
theorem copyCheckW {g : Nat} {w : World} {p v tr d : Value} (hbk : w.heap[g]? = some (.cells #[p, v, tr, d] 38 (0, 0))) (hp : p = .pointer none ∨ p = .pointer (some ⟨g, 0, none⟩)) :
    Calls Tryz.prog 24 #[.pointer (some ⟨g, 0, none⟩)] w fun e w' => e = .returned (.tuple #[]) ∧ w'.heap[g]? = some (.cells #[.pointer (some ⟨g, 0, none⟩), v, tr, d] 38 (0, 0)) ∧ (w' = w ∨ w' = w.setCell ⟨g, 0, none⟩ (.pointer (some ⟨g, 0, none⟩))) := by
  have h0 : w.cell? ⟨g, 0, none⟩ = some p := by rw [Lib.cell_of_heap hbk]; rfl
  rcases hp with rfl | rfl
  · obtain ⟨j, hj, hjs⟩ := Option.map_eq_some_iff.1 info_bld
    have hsh : w.shape? g = some (38, 4) := by simp [World.shape?, hbk]
    have hfz : w.frozen? ⟨g, 0, none⟩ = false := Lib.frozen_of_heap hbk 0
    have hput := wr_put hbk 0 (.pointer (some ⟨g, 0, none⟩))
    clear hbk
    go_enter Tryz.func24, Tryz.ntmps24
    go_wp2
    rw [Lib.run_to_unsafe w ⟨g, 0, none⟩ Tryz.underlying33 Tryz.underlying68 hj (by rw [hjs]; decide) hsh (Nat.zero_lt_succ 3)]
    simp only [Result.andThen]
    rw [Oper.upon_value]
    go_wp2
    rw [run_callFunc_extern Tryz.func44 (by kernel_rfl) (by kernel_rfl) (by kernel_rfl) (e := Extern.AbiNoEscape.same) (by kernel_rfl)]
    rw [Lib.run_noEscape]
    simp only [Result.andThen]
    rw [Oper.upon_value]
    go_wp2
    rw [Lib.run_from_unsafe w ⟨g, 0, none⟩ Tryz.underlying68 Tryz.underlying33 hj hsh lies_wr]
    simp only [Result.andThen]
    rw [Oper.upon_value]
    go_wp2
    go_end0
    exact ⟨rfl, hput, .inr rfl⟩
  · refine (copyCheck_used g w h0).mono ?_
    rintro e w' ⟨rfl, rfl⟩
    exact ⟨rfl, hbk, .inl rfl⟩
theorem check_frame {B g : Nat} {w w' : World} (hB : B ≤ g) (h : w' = w ∨ w' = w.setCell ⟨g, 0, none⟩ (.pointer (some ⟨g, 0, none⟩))) : Below B w w' ∧ Kpt g w w' ∧ w'.heap.size = w.heap.size ∧ ∀ k, k ≠ g → w'.heap[k]? = w.heap[k]? := by
  rcases h with rfl | rfl
  · exact ⟨Below.refl _ _, Lib.OthersKept.refl _ _ _, rfl, fun _ _ => rfl⟩
  · exact ⟨(Below.refl B w).setCell (p := ⟨g, 0, none⟩) hB _, (Lib.OthersKept.refl _ _ w).setCell ⟨g, 0, none⟩ rfl _, by simp, fun k hk => Below.heap_setCell _ _ _ _ (by show k ≠ g; exact hk)⟩
theorem own_off {B g : Nat} {w w' : World} {v : Value} {n : Nat} {e : TypeId} {xs : List Value} (h : w.ownsRow B e 1 v n xs) (hne : v.ownBlock ≠ some g) (_ : w.heap.size ≤ w'.heap.size) (hk : ∀ k, k ≠ g → k < w.heap.size → w'.heap[k]? = w.heap[k]?) : w'.ownsRow B e 1 v n xs := by
  obtain ⟨h1, h2⟩ := h
  refine ⟨h1, ?_⟩
  rcases h2 with h2 | ⟨q, cap, cur, rfl, hq, hh, r⟩
  · exact .inl h2
  · exact .inr ⟨q, cap, cur, rfl, hq, (hk q (fun e => hne (by rw [e]; rfl)) (Array.getElem?_eq_some_iff.1 hh).1).trans hh, r⟩
theorem own_apart {w : World} {B g n : Nat} {v : Value} {xs : List Value} {cs : Array Value} {r : Nat × Nat} (h : w.ownsRow B 5 1 v n xs) (hb : w.heap[g]? = some (.cells cs 38 r)) : v.ownBlock ≠ some g := fun e => by
  obtain ⟨c, fz, hc⟩ := own_kind h g e
  rw [hb] at hc
  injection hc with hc
  injection hc with _ hc _
  exact absurd hc (by decide)
set_option maxHeartbeats 1000000 in
theorem writeByteW {B g : Nat} {tr : Value} {d : Int} {L : List UInt8} (c : UInt8) {w : World} (h : Wr B g tr d L w) (hlen : L.length + 1 ≤ 140737488355328) (hBw : B ≤ w.heap.size) :
    Calls Tryz.prog 25 #[.pointer (some ⟨g, 0, none⟩), .int .u8 (c.toNat : Int)] w fun e w' => e = .returned .nilIface ∧ Wr B g tr d (L ++ [c]) w' ∧ Below B w w' ∧ Kpt g w w' := by
  obtain ⟨i0, hi, hz0, hz1, hz2⟩ := info_parts info_byte
  obtain ⟨hB, p, v, hbk, hp, hown, hne⟩ := h
  go_enter Tryz.func25, Tryz.ntmps25
  go_wp2_with (go_at_call 24; refine (copyCheckW hbk hp).mono ?_)
  rintro e w1 ⟨rfl, hbk1, hw1⟩
  obtain ⟨hb1, hk1, hs1, hh1⟩ := check_frame hB hw1
  have hown1 := own_off hown hne (Nat.le_of_eq hs1.symm) (fun k hk _ => hh1 k hk)
  have HS1 := Lib.hid hs1
  clear hs1 hw1 hbk hown hh1 hp
  have c0 : w1.cell? ⟨g, 0, none⟩ = some (.pointer (some ⟨g, 0, none⟩)) := by rw [Lib.cell_of_heap hbk1]; rfl
  have c1 : w1.cell? ⟨g, 1, none⟩ = some v := by rw [Lib.cell_of_heap hbk1]; rfl
  go_wp2_with (at_builtin; refine wpList_append_rd _ rfl _ _ 34 rfl B 5 i0 _ 1 1 Tryz.underlying34 hi hz0 hz1 hz2 rfl (by omega) _ _ _ rfl (hown1.alloc _) _ _ 1 1 [_] rfl (Rd.lit1 _ _ _) (one1 rfl) (by unfold maxLen; omega) (by omega) (by have := hb1.size; simp; omega) ?_; intro A2 c2 w2 hown' hgrow _; have hb2 := heap_kept hbk1 hgrow hne; have d0 := Lib.cell_of_heap hb2 0; have d1 := Lib.cell_of_heap hb2 1; have f1 := Lib.frozen_of_heap hb2 1; (try simp at d0 d1))
  go_ret
  have hBs : B ≤ w1.heap.size := by have := hb1.size; omega
  have hne2 : (Value.slice A2 (L.length + 1) c2).ownBlock ≠ some g := own_apart hown' hb2
  refine ⟨rfl, ⟨hB, _, _, wr_put hb2 1 _, .inr rfl, ?_, hne2⟩, ?_, ((hk1.alloc _).grown hgrow (own_kind (hown1.alloc _))).setCell ⟨g, 1, none⟩ rfl _⟩
  · have ho : w2.ownsRow B 5 1 (.slice A2 (L.length + 1) c2) (L ++ [c]).length (Lib.byteCells (L ++ [c])) := by
      have e1 : Lib.byteCells (L ++ [c]) = Lib.byteCells L ++ [.int .u8 (c.toNat : Int)] := by simp [Lib.byteCells]
      rw [e1, List.length_append]
      exact hown'
    exact own_off ho hne2 (by simp) (fun k hk _ => Below.heap_setCell _ _ _ _ (by show k ≠ g; exact hk))
  · exact ((hb1.alloc hBs _).grown hgrow (by simp; omega) (fun k hk => (hown1.lt k hk).1)).setCell (p := ⟨g, 1, none⟩) hB _
set_option maxHeartbeats 1000000 in
theorem writeStringW {B g : Nat} {tr : Value} {d : Int} {L : List UInt8} (s : ByteArray) {w : World} (h : Wr B g tr d L w) (hlen : L.length + s.size ≤ 140737488355328) (hBw : B ≤ w.heap.size) :
    Calls Tryz.prog 13 #[.pointer (some ⟨g, 0, none⟩), .string s] w fun e w' => e = .returned (.tuple #[.int .i64 s.size, .nilIface]) ∧ Wr B g tr d (L ++ s.data.toList) w' ∧ Below B w w' ∧ Kpt g w w' := by
  obtain ⟨i0, hi, hz0, hz1, hz2⟩ := info_parts info_byte
  obtain ⟨hB, p, v, hbk, hp, hown, hne⟩ := h
  go_enter Tryz.func13, Tryz.ntmps13
  go_wp2_with (go_at_call 24; refine (copyCheckW hbk hp).mono ?_)
  rintro e w1 ⟨rfl, hbk1, hw1⟩
  obtain ⟨hb1, hk1, hs1, hh1⟩ := check_frame hB hw1
  have hown1 := own_off hown hne (Nat.le_of_eq hs1.symm) (fun k hk _ => hh1 k hk)
  have HS1 := Lib.hid hs1
  have hBs : B ≤ w1.heap.size := by omega
  clear hs1 hw1 hbk hown hh1 hp
  have c0 : w1.cell? ⟨g, 0, none⟩ = some (.pointer (some ⟨g, 0, none⟩)) := by rw [Lib.cell_of_heap hbk1]; rfl
  have c1 : w1.cell? ⟨g, 1, none⟩ = some v := by rw [Lib.cell_of_heap hbk1]; rfl
  go_wp2_with (at_builtin; refine Lib.wpList_append_own_string _ rfl _ _ 34 9 rfl B 5 i0 Tryz.underlying34 Tryz.underlying9 hi hz0 hz1 hz2 _ _ _ rfl hown1 s rfl ?c3 ?c4 ?c5 ?_)
  case c3 => unfold maxLen; omega
  case c4 => omega
  case c5 => exact hBs
  intro v' w2 hown' hgrow _
  have hlt : g < w1.heap.size := (Array.getElem?_eq_some_iff.1 hbk1).1
  have hb2 : w2.heap[g]? = some (.cells #[.pointer (some ⟨g, 0, none⟩), v, tr, .int .i64 d] 38 (0, 0)) := by
    rw [hgrow.block g hlt (fun e => hne e.symm)]
    exact hbk1
  have d0 : w2.cell? ⟨g, 0, none⟩ = some (.pointer (some ⟨g, 0, none⟩)) := by rw [Lib.cell_of_heap hb2]; rfl
  have d1 : w2.cell? ⟨g, 1, none⟩ = some v := by rw [Lib.cell_of_heap hb2]; rfl
  have f1 : w2.frozen? ⟨g, 1, none⟩ = false := Lib.frozen_of_heap hb2 1
  obtain ⟨ao, n', cap, rfl⟩ : ∃ ao n' cap, v' = .slice ao n' cap := by
    rcases hown'.2 with ⟨hv, _⟩ | ⟨g, cap, cur, hv, _⟩
    · exact ⟨_, _, _, hv⟩
    · exact ⟨_, _, _, hv⟩
  go_wp2_with fail
  go_returns
  have hne2 : (Value.slice ao n' cap).ownBlock ≠ some g := own_apart hown' hb2
  refine ⟨rfl, ⟨hB, _, _, wr_put hb2 1 _, .inr rfl, ?_, hne2⟩, ?_, (hk1.grown hgrow (own_kind hown1)).setCell ⟨g, 1, none⟩ rfl _⟩
  · have ho : w2.ownsRow B 5 1 (.slice ao n' cap) (L ++ s.data.toList).length (Lib.byteCells (L ++ s.data.toList)) := by
      have e1 : Lib.byteCells (L ++ s.data.toList) = Lib.byteCells L ++ Lib.strCells s := by simp [Lib.byteCells, Lib.strCells]
      rw [e1, List.length_append]
      exact hown'
    exact own_off ho hne2 (by simp) (fun k hk _ => Below.heap_setCell _ _ _ _ (by show k ≠ g; exact hk))
  · exact (hb1.grown hgrow (by omega) (fun k hk => (hown1.lt k hk).1)).setCell (p := ⟨g, 1, none⟩) hB _
end Go.Proofs.YtkpejdkffkhekaaGreatDoor
