/- 'flights': a copy of panics of its own memory. Conditions: the bulk. -/
import Derived.Test.YtkkehbfceabhmaaCrashP
import Derived.Test.YtkkehbfceabhmaaOwn
import Derived.Handy
import Derived.Deep.RegionHeld
set_option maxRecDepth 20000
namespace Go.Proofs.Ytkkehbfceabhmaa
open Go.ChangeShapes Go.WideShapes Go.ChangeAt Go.RowKit
theorem info_panic : (Try.prog.info? 54).map (fun i => (i.zero, i.size, i.bytes)) = some (some (.agg #[.int .i64 0, .int .i64 0, .int .i64 0, .string ByteArray.empty, .slice none 0 0, .bool false, .bool false]), 7, 72) := by kernel_rfl
theorem set4_below {w w3 : World} {g B : Nat} (hb : Below B w w3) (hg : B ≤ g) (hB : B ≤ w3.heap.size) (v1 v2 v3 v4 : Value) (o : Obj) : Below B w (((((w3.setCell ⟨g, 1, none⟩ v1).setCell ⟨g, 2, none⟩ v2).setCell ⟨g, 3, none⟩ v3).setCell ⟨g, 4, none⟩ v4).alloc o) :=
  ((((hb.setCell hg _).setCell hg _).setCell hg _).setCell hg _).alloc (by simpa using hB) _
theorem pp_new {w3 : World} {g base c3 : Nat} {x : PP} {A3 : Option Addr} (h : w3.ownsRow base 3 1 (.slice A3 x.v.l.length c3) x.v.l.length (x.v.l.map (Value.int .i64))) (hg : g < base) (hs : -9223372036854775808 ≤ x.ser ∧ x.ser ≤ 9223372036854775807)
    (hk : -9223372036854775808 ≤ x.v.k ∧ x.v.k ≤ 9223372036854775807) (hn : -9223372036854775808 ≤ x.v.n ∧ x.v.n ≤ 9223372036854775807) (hz : ∀ z ∈ x.v.l, -9223372036854775808 ≤ z ∧ z ≤ 9223372036854775807) (v1 v2 v3 v4 : Value) (o : Obj) :
    PP.sh.rd (((((w3.setCell ⟨g, 1, none⟩ v1).setCell ⟨g, 2, none⟩ v2).setCell ⟨g, 3, none⟩ v3).setCell ⟨g, 4, none⟩ v4).alloc o) (fun b => g ≤ b ∧ b < (((((w3.setCell ⟨g, 1, none⟩ v1).setCell ⟨g, 2, none⟩ v2).setCell ⟨g, 3, none⟩ v3).setCell ⟨g, 4, none⟩ v4).alloc o).heap.size)
      [.int .i64 x.ser, .int .i64 x.v.k, .int .i64 x.v.n, .string x.v.s, .slice A3 x.v.l.length c3, .bool x.rcv, .bool x.ab] x := by
  obtain ⟨q1, q2, q3⟩ := own_cap h
  refine PP.intro hs (VV.intro (((RdM.of_own h).keep fun p hp => ?_).more fun b hb => ⟨by omega, by simp; omega⟩) q1 q2 q3 hk hn hz)
  have hne : ∀ j, (⟨g, j, none⟩ : Addr).block ≠ p.block := fun j => by simp; omega
  rw [World.cell?_alloc_lt _ _ _ (by simp; omega), World.cell?_setCell_far _ _ _ _ (hne 4), World.cell?_setCell_far _ _ _ _ (hne 3), World.cell?_setCell_far _ _ _ _ (hne 2), World.cell?_setCell_far _ _ _ _ (hne 1)]
set_option maxHeartbeats 1000000 in
theorem flights_any (A : Option Addr) (n c : Nat) (l : List PP) (w : World) (h : (Shp.slice PP.sh).rd w (· < w.heap.size) [.slice A n c] l) (hb : (l.map PP.bulk).sum ≤ 1048576) :
    Calls Try.prog 32 #[.slice A n c] w fun e w' => ∃ v, e = .returned v ∧ Own PP.sh 54 w' w.heap.size (fun _ => False) v l ∧ Below w.heap.size w w' := by
  obtain ⟨j0, hj, jz0, jz1, jz2⟩ := info_parts info_panic
  have hll := len_le_sum l
  obtain ⟨_, _, ess, he, hlc, hcm, hA, hr, hall⟩ := h
  simp at he
  obtain ⟨rfl, rfl, rfl⟩ := he
  have HB := Lib.hid (fun p (hp : p ∈ l) => Nat.le_trans (bulk_le hp) hb)
  have hl2 : l.length ≤ 1048576 := by omega
  clear hb hll
  go_enter Try.func32, Try.ntmps32
  go_wp2_with fail
  go_loopw [3, 4] (fun o i wr => ∃ k : Nat, k ≤ l.length ∧ i = .int .i64 k ∧ Own PP.sh 54 wr w.heap.size (fun _ => False) o (l.take k) ∧ Below w.heap.size w wr) (fun _ i _ => l.length - (intOf i).toNat)
  case atStart => exact ⟨0, Nat.zero_le _, rfl, Own.nil, Below.refl _ _⟩
  case round =>
    obtain ⟨k, hk, rfl, hown, hbel⟩ := hrel
    by_cases hlt : k < l.length
    · obtain ⟨b, off, cs, x, rfl, hb, hx, hrd, hcell⟩ := Shp.elem hr hall hlt rfl
      obtain ⟨A2, c2, rfl, hser, hv⟩ := PP.elim hrd
      obtain ⟨A3, c3, he3, hra, hlc2, hcm2, hA2, hk3, hn3, hz3⟩ := VV.elim hv
      simp at he3
      obtain ⟨rfl, rfl⟩ := he3
      have e0 := hcell 0 _ rfl
      have e1 := hcell 1 _ rfl
      have e2 := hcell 2 _ rfl
      have e3 := hcell 3 _ rfl
      have e4 := hcell 4 _ rfl
      have e5 := hcell 5 _ rfl
      have e6 := hcell 6 _ rfl
      rw [← hbel.cell (p := ⟨b, _, none⟩) hb] at e0 e1 e2 e3 e4 e5 e6
      have hsz : PP.sh.size = 7 := rfl
      rw [hsz] at e0 e1 e2 e3 e4 e5 e6
      simp only [Nat.add_zero] at e0
      have HX := Lib.hid hx
      have hbx := HB.out x (List.mem_of_getElem? HX.out)
      clear hsz hcell hx
      have hfx : x.v.l.length * 8 ≤ 140737488355328 := by unfold VV.bulk at hbx; omega
      have HI := Lib.hid hser
      have HK := Lib.hid hk3
      have HNn := Lib.hid hn3
      have HZ := Lib.hid hz3
      have HR := Lib.hid (show Rd w w.heap.size 1 A2 x.v.l.length (x.v.l.map (Value.int .i64)) from hra)
      have HO := Lib.hid hown
      clear hser hk3 hn3 hz3 hra hrd hv hown hA2 hA hr hall hbx
      generalize hn : x.v.l.length = n at *
      have HN := Lib.hid hn
      clear hn
      go_wp2_with fail
      refine (own_any x.v.k x.v.n x.v.s A2 n c2 x.v.l _ ((HR.out.below (hbel.alloc hbel.size _)).more (Nat.le_trans hbel.size (by simp))) (by omega)).mono ?_
      rintro e w3 ⟨A3, c3, rfl, hown3, hb3⟩
      have d0 := hb3.cell (p := ⟨wr.heap.size, 0, none⟩) (by go_size); have d1 := hb3.cell (p := ⟨wr.heap.size, 1, none⟩) (by go_size); have d2 := hb3.cell (p := ⟨wr.heap.size, 2, none⟩) (by go_size); have d3 := hb3.cell (p := ⟨wr.heap.size, 3, none⟩) (by go_size); have d4 := hb3.cell (p := ⟨wr.heap.size, 4, none⟩) (by go_size); have d5 := hb3.cell (p := ⟨wr.heap.size, 5, none⟩) (by go_size); have d6 := hb3.cell (p := ⟨wr.heap.size, 6, none⟩) (by go_size); (try simp at d0 d1 d2 d3 d4 d5 d6)
      have f0 := hb3.frozen (p := ⟨wr.heap.size, 0, none⟩) (by go_size); have f1 := hb3.frozen (p := ⟨wr.heap.size, 1, none⟩) (by go_size); have f2 := hb3.frozen (p := ⟨wr.heap.size, 2, none⟩) (by go_size); have f3 := hb3.frozen (p := ⟨wr.heap.size, 3, none⟩) (by go_size); have f4 := hb3.frozen (p := ⟨wr.heap.size, 4, none⟩) (by go_size); have f5 := hb3.frozen (p := ⟨wr.heap.size, 5, none⟩) (by go_size); have f6 := hb3.frozen (p := ⟨wr.heap.size, 6, none⟩) (by go_size); (try simp at f0 f1 f2 f3 f4 f5 f6)
      have hs3 := hb3.size
      simp at hs3
      have hq3 := Lib.hid hown3
      rw [← HN.out] at hq3
      clear hown3
      have hB5 := fun v1 v2 v3 v4 o => set4_below (w := wr) (w3 := w3) (g := wr.heap.size) (sq (al _) hb3) (Nat.le_refl _) (by omega) v1 v2 v3 v4 o
      have hN5 := fun v1 v2 v3 v4 o => pp_new (g := wr.heap.size) (x := x) hq3.out (by simp) HI.out HK.out HNn.out HZ.out v1 v2 v3 v4 o
      have HB5 := Lib.hid hB5
      have HN5 := Lib.hid hN5
      clear hB5 hN5
      go_wp2_with (at_builtin; refine wpList_append_Own (S := PP.sh) rfl _ _ 49 rfl w.heap.size 54 j0 _ 72 Try.underlying49 hj jz0 jz1 jz2 rfl (by show 0 < 7; omega) (fun _ => False) _ _ rfl (HO.out.fresh (HB5.out _ _ _ _ _) (HN5.out _ _ _ _ _) (fun _ h => h.elim)).1 _ _ 1 1 _ _ [x] rfl (Rd.one _ _ _ 7 rfl _ (by simp)) (by simp [HN.out]) rfl (HO.out.fresh (HB5.out _ _ _ _ _) (HN5.out _ _ _ _ _) (fun _ h => h.elim)).2 (by rw [List.length_take]; unfold maxLen; omega) (by rw [List.length_take]; omega) (by simp; have := hbel.size; omega) ?_; intro A4 c4 w4 hown4 hgrow4 _)
      go_roundw
      case rel =>
        refine ⟨k + 1, by omega, by go_num, ?_, ?_⟩
        · have e : (List.take k l).length = k := by rw [List.length_take]; omega
          rw [e] at hown4
          rw [List.take_add_one, HX.out]
          exact hown4
        · exact hbel.grown2 HO.out (HB5.out _ _ _ _ _) hgrow4
      case measure => simp [intOf]; omega
    · have hkl : k = l.length := by omega
      subst hkl
      have HO := Lib.hid hown
      clear hown
      rw [List.take_of_length_le (Nat.le_refl _)] at HO
      go_wp2_with fail
      go_ret
      exact ⟨_, rfl, HO.out, hbel⟩
/-- The one panic that the law itself asks of. -/
def onePP : PP := ⟨0, ⟨1, 1, ⟨#[]⟩, []⟩, false, false⟩
@[reducible] def oneCs : Array Value := #[.int .i64 0, .int .i64 1, .int .i64 1, .string ⟨#[]⟩, .slice none 0 0, .bool false, .bool false]
theorem one_rd (w : World) : (Shp.slice PP.sh).rd (w.alloc (.cells oneCs 54)) (· < w.heap.size + 1) [.slice (some ⟨w.heap.size, 0, none⟩) 1 1] [onePP] := by
  refine ⟨some ⟨w.heap.size, 0, none⟩, 1, [oneCs.toList], rfl, by simp, by unfold maxLen; simp, .inr (by simp), ?_, Shp.all1 ?_⟩
  · exact Rd.one w oneCs 54 7 rfl _ rfl
  · refine PP.intro (p := onePP) (by decide) (VV.intro (v := onePP.v) (RdM.nil) (Nat.le_refl 0) (by unfold maxLen; simp) (.inl rfl) (by decide) (by decide) (fun z hz => by cases hz))
theorem sl_pp {w : World} {M : Nat → Prop} {v : Value} {l : List PP} (h : (Shp.slice PP.sh).rd w M [v] l) : ∃ A c, v = .slice A l.length c := by
  obtain ⟨A, c, _, e, _⟩ := h
  simp at e
  exact ⟨A, c, e⟩
theorem pp_range {w : World} {M : Nat → Prop} {cs : List Value} {l : List PP} (h : (Shp.slice PP.sh).rd w M cs l) : ∀ p ∈ l, -9223372036854775808 ≤ p.v.n ∧ p.v.n ≤ 9223372036854775807 := by
  obtain ⟨_, _, ess, _, _, _, _, _, hall⟩ := h
  intro p hp
  obtain ⟨i, hi, rfl⟩ := List.getElem_of_mem hp
  have he : i < ess.length := by rw [hall.1]; exact hi
  obtain ⟨_, _, _, _, hv⟩ := PP.elim (hall.2 i _ _ (List.getElem?_eq_getElem he) (List.getElem?_eq_getElem hi))
  obtain ⟨_, _, _, _, _, _, _, _, hn, _⟩ := VV.elim hv
  exact hn
end Go.Proofs.Ytkkehbfceabhmaa
