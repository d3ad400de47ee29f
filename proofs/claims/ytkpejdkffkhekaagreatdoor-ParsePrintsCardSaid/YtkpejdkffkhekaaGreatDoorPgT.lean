/- The law's copy of a tree. Conditions: the nodes fit what comes in. -/
import Derived.Test.YtkpejdkffkhekaaGreatDoorPgN
import Derived.Handy
set_option maxRecDepth 100000
namespace Go.Proofs.YtkpejdkffkhekaaGreatDoor
open Go.ChangeShapes Go.WideShapes Go.ChangeAt Go.RowKit
theorem info_nd : (Tryz.prog.info? 31).map (fun i => (i.zero, i.size, i.bytes)) = some (some (.agg #[.int .i64 0, .string ByteArray.empty, .string ByteArray.empty, .int .i64 0, .slice none 0 0]), 5, 72) := by kernel_rfl
theorem info_intP : (Tryz.prog.info? 3).map (fun i => (i.zero, i.size, i.bytes)) = some (some (.int .i64 0), 1, 8) := by kernel_rfl
theorem ints1_oneCell (T : List Int) : ∀ u ∈ T.map (Value.int .i64), u.oneCell' = true := fun u hu => by
  obtain ⟨x, _, rfl⟩ := List.mem_map.1 hu
  rfl
set_option maxHeartbeats 4000000 in
theorem tree_any (l : List ND) (A : Option Addr) (c : Nat) (w : World) (h : (Shp.slice ND.sh).rd w (· < w.heap.size) [.slice A l.length c] l) (hf : ∀ y ∈ l, ND.fits y) (hn : l.length * 72 ≤ 140737488351232) :
    Calls Tryz.prog 5 #[.slice A l.length c] w fun e w' => ∃ v, e = .returned v ∧ (Shp.slice ND.sh).rd w' (fun b => w.heap.size ≤ b ∧ b < w'.heap.size) [v] l ∧ Below w.heap.size w w' := by
  obtain ⟨i0, hi, hz0, hz1, hz2⟩ := info_parts info_intP
  obtain ⟨j0, hj, jz0, jz1, jz2⟩ := info_parts info_nd
  obtain ⟨A', c', ess, e, hlc, hcm, _, hr, hall⟩ := h
  simp at e
  obtain ⟨rfl, rfl⟩ := e
  have HR := Lib.hid hr
  have HA := Lib.hid hall
  have HF := Lib.hid hf
  clear hr hall hf
  go_enter Tryz.func5, Tryz.ntmps5
  go_wp2_with fail
  go_loopw [3, 4] (fun v i wr => ∃ (k : Nat), k ≤ l.length ∧ i = .int .i64 (k : Int) ∧ Own ND.sh 31 wr w.heap.size (· < w.heap.size) v (l.take k) ∧ Below w.heap.size w wr) (fun _ i _ => l.length - (intOf i).toNat)
  case atStart => exact ⟨0, Nat.zero_le _, rfl, Own.nil, Below.refl _ _⟩
  case round =>
    obtain ⟨k, hk, rfl, hown, hbel⟩ := hrel
    have HBE := Lib.hid hbel
    have HO := Lib.hid hown
    obtain ⟨A0, c0, hv⟩ := hown.form
    have e : (List.take k l).length = k := by rw [List.length_take]; omega
    rw [e] at hv
    subst hv
    have HE := Lib.hid e
    have hws := hbel.size
    clear hown hbel e
    by_cases hlt : k < l.length
    · obtain ⟨b, off, cs, x, rfl, hb, hx, hrd, hcell⟩ := Shp.elem HR.out HA.out hlt rfl
      obtain ⟨A4, c4, rfl, q0, q3, r4, l4, m4, n4, b4⟩ := ND.elim hrd
      have hww : ∀ o, wr.cell? ⟨b, o, none⟩ = w.cell? ⟨b, o, none⟩ := fun o => HBE.out.cell (p := ⟨b, o, none⟩) hb
      have hbr : b < wr.heap.size := by omega
      have e0 := (hww _).trans (hcell 0 _ rfl)
      have e1 := (hww _).trans (hcell 1 _ rfl)
      have e2 := (hww _).trans (hcell 2 _ rfl)
      have e3 := (hww _).trans (hcell 3 _ rfl)
      have e4 := (hww _).trans (hcell 4 _ rfl)
      have hsz : ND.sh.size = 5 := rfl
      rw [hsz] at e0 e1 e2 e3 e4
      simp only [Nat.add_zero] at e0
      have HX := Lib.hid hx
      have hfx : x.kids.length * 8 ≤ 140737488351232 := (HF.out x (List.mem_of_getElem? HX.out)).2.2
      have HQ0 := Lib.hid q0
      have HQ3 := Lib.hid q3
      have HR4 := Lib.hid r4
      have HB4 := Lib.hid b4
      have hlti : (k : Int) < (l.length : Int) := by omega
      clear hsz hcell hx hww hrd r4 q0 q3 b4 n4
      go_wp2_with (first
        | (at_builtin; refine wpList_append_new _ rfl _ _ 29 rfl 3 i0 _ 1 8 Tryz.underlying29 hi hz0 hz1 hz2 rfl (by omega) rfl w.heap.size A4 x.kids.length c4 (x.kids.map (Value.int .i64)) rfl ((HR4.out.rd (fun _ h => h)).below (HBE.out.alloc hws _)) (ints1_oneCell _) (by omega) (by unfold maxLen; omega) ?_; intro A3 c3 w3 hown3 hb3; have c0 := hb3.cell (p := ⟨wr.heap.size, 0, none⟩) (by go_size); have c1 := hb3.cell (p := ⟨wr.heap.size, 1, none⟩) (by go_size); have c2 := hb3.cell (p := ⟨wr.heap.size, 2, none⟩) (by go_size); have c3 := hb3.cell (p := ⟨wr.heap.size, 3, none⟩) (by go_size); have c4 := hb3.cell (p := ⟨wr.heap.size, 4, none⟩) (by go_size); (try simp at c0 c1 c2 c3 c4); have f0 := hb3.frozen (p := ⟨wr.heap.size, 0, none⟩) (by go_size); have f1 := hb3.frozen (p := ⟨wr.heap.size, 1, none⟩) (by go_size); have f2 := hb3.frozen (p := ⟨wr.heap.size, 2, none⟩) (by go_size); have f3 := hb3.frozen (p := ⟨wr.heap.size, 3, none⟩) (by go_size); have f4 := hb3.frozen (p := ⟨wr.heap.size, 4, none⟩) (by go_size); (try simp at f0 f1 f2 f3 f4); have hs3 := hb3.size; simp at hs3)
        | (at_builtin; refine wpList_append_Own (S := ND.sh) rfl _ _ 22 rfl w.heap.size 31 j0 _ 72 Tryz.underlying22 hj jz0 jz1 jz2 rfl (by show 0 < 5; omega) (· < w.heap.size) _ _ rfl (HO.out.fresh (((sq (al _) hb3).setCell (Nat.le_refl _) _).alloc (by simp; omega) _) (ND.intro (v := x) HQ0.out HQ3.out ((RdM.of_own hown3).put (by simp)) (own_cap hown3) HB4.out) (fun _ h => Nat.lt_of_lt_of_le h hws)).1 _ _ 1 1 _ _ [x] rfl (Rd.one _ _ _ 5 rfl _ (by simp)) (by simp) rfl (HO.out.fresh (((sq (al _) hb3).setCell (Nat.le_refl _) _).alloc (by simp; omega) _) (ND.intro (v := x) HQ0.out HQ3.out ((RdM.of_own hown3).put (by simp)) (own_cap hown3) HB4.out) (fun _ h => Nat.lt_of_lt_of_le h hws)).2 (by rw [HE.out]; unfold maxLen; omega) (by rw [HE.out]; omega) (by simp; omega) ?_; intro A5 c5 w5 hown5 hgrow5 _)
        | fail "no")
      go_roundw
      case rel =>
        refine ⟨k + 1, by omega, by go_num, ?_, ?_⟩
        · rw [HE.out] at hown5
          rw [List.take_add_one, HX.out]
          exact hown5
        · exact (HBE.out.trans ((((sq (al _) hb3).setCell (Nat.le_refl _) _).alloc (by simp; omega) _).mono hws)).grown hgrow5 (by simp; omega) (fun q hq => by have := (HO.out.ownlt hq).1; omega)
      case measure => simp [intOf]; omega
    · obtain rfl : k = l.length := by omega
      rw [List.take_of_length_le (Nat.le_refl _)] at HO
      go_wp2_with fail
      go_returns
      exact ⟨_, rfl, HO.out.readN, HBE.out⟩
end Go.Proofs.YtkpejdkffkhekaaGreatDoor
