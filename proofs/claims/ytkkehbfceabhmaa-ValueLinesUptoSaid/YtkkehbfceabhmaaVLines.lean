/- The law ValueLines is true. Conditions: the bound on the bulk. -/
import Derived.Test.YtkkehbfceabhmaaVLine
import Derived.Handy
set_option maxRecDepth 20000
namespace Go.Proofs.Ytkkehbfceabhmaa
open Go.ChangeShapes Go.WideShapes Go.ChangeAt Go.RowKit
theorem info_value : (Try.prog.info? 39).map (fun i => (i.zero, i.size, i.bytes)) = some (some (.agg #[.int .i64 0, .int .i64 0, .string ByteArray.empty, .slice none 0 0]), 4, 56) := by kernel_rfl
theorem sl_vv {w : World} {M : Nat → Prop} {v : Value} {l : List VV} (h : (Shp.slice VV.sh).rd w M [v] l) : ∃ A c, v = .slice A l.length c := by
  obtain ⟨A, c, _, e, _⟩ := h
  simp at e
  exact ⟨A, c, e⟩
theorem vv_new {w3 : World} {base c3 : Nat} {x : VV} {A3 : Option Addr} {o : Obj} (h : w3.ownsRow base 3 1 (.slice A3 x.l.length c3) x.l.length (x.l.map (Value.int .i64)))
    (hk : -9223372036854775808 ≤ x.k ∧ x.k ≤ 9223372036854775807) (hn : -9223372036854775808 ≤ x.n ∧ x.n ≤ 9223372036854775807) (hz : ∀ z ∈ x.l, -9223372036854775808 ≤ z ∧ z ≤ 9223372036854775807) :
    VV.sh.rd (w3.alloc o) (fun b => base ≤ b ∧ b < (w3.alloc o).heap.size) [.int .i64 x.k, .int .i64 x.n, .string x.s, .slice A3 x.l.length c3] x := by
  obtain ⟨q1, q2, q3⟩ := own_cap h
  exact VV.intro ((RdM.of_own h).al) q1 q2 q3 hk hn hz
set_option maxHeartbeats 2000000 in
theorem walkValueLines (v0 : Value) (w : World) (w0 : IsUVals w v0) : Calls Try.prog 9 #[v0] w fun e w' => e = .returned (.bool true) ∧ Below w.heap.size w w' := by
  obtain ⟨l, hl, hb⟩ := w0
  obtain ⟨A, c, rfl⟩ := sl_vv hl
  obtain ⟨j0, hj, jz0, jz1, jz2⟩ := info_parts info_value
  have HL := Lib.hid hl
  have hll := vlen_le l
  obtain ⟨_, _, ess, he, hlc, hcm, hA, hr, hall⟩ := hl
  simp at he
  obtain ⟨rfl, rfl⟩ := he
  have HB := Lib.hid (fun p (hp : p ∈ l) => Nat.le_trans (vbulk_le hp) hb)
  have HSum := Lib.hid hb
  have hl2 : l.length ≤ 1048576 := by omega
  clear hb hll
  go_enter Try.func9, Try.ntmps9
  go_wp2_with fail
  go_loopw [3, 4] (fun o i wr => ∃ k : Nat, k ≤ l.length ∧ i = .int .i64 k ∧ Own VV.sh 39 wr w.heap.size (fun _ => False) o (l.take k) ∧ Below w.heap.size w wr) (fun _ i _ => l.length - (intOf i).toNat)
  case atStart => exact ⟨0, Nat.zero_le _, rfl, Own.nil, Below.refl _ _⟩
  case round =>
    obtain ⟨k, hk, rfl, hown, hbel⟩ := hrel
    by_cases hlt : k < l.length
    · obtain ⟨b, off, cs, x, rfl, hb, hx, hrd, hcell⟩ := Shp.elem hr hall hlt rfl
      obtain ⟨A2, c2, rfl, hra, hlc2, hcm2, hA2, hk3, hn3, hz3⟩ := VV.elim hrd
      have e0 := hcell 0 _ rfl
      have e1 := hcell 1 _ rfl
      have e2 := hcell 2 _ rfl
      have e3 := hcell 3 _ rfl
      rw [← hbel.cell (p := ⟨b, _, none⟩) hb] at e0 e1 e2 e3
      have hsz : VV.sh.size = 4 := rfl
      rw [hsz] at e0 e1 e2 e3
      simp only [Nat.add_zero] at e0
      have HX := Lib.hid hx
      have hbx := HB.out x (List.mem_of_getElem? HX.out)
      have hfx : x.l.length * 8 ≤ 140737488355328 := by unfold VV.bulk at hbx; omega
      have HK := Lib.hid hk3
      have HNn := Lib.hid hn3
      have HZ := Lib.hid hz3
      have HR := Lib.hid (show Rd w w.heap.size 1 A2 x.l.length (x.l.map (Value.int .i64)) from hra)
      have HO := Lib.hid hown
      clear hsz hcell hx hk3 hn3 hz3 hra hrd hown hA2 hA hr hall hbx
      generalize hn : x.l.length = n at *
      have HN := Lib.hid hn
      clear hn
      go_wp2_with fail
      refine (own_any x.k x.n x.s A2 n c2 x.l _ ((HR.out.below hbel).more hbel.size) (by omega)).mono ?_
      rintro e w3 ⟨A3, c3, rfl, hown3, hb3⟩
      have hq3 := Lib.hid hown3
      rw [← HN.out] at hq3
      have hs3 := hb3.size
      clear hown3
      have HN5 := Lib.hid (fun o => vv_new (x := x) (o := o) hq3.out HK.out HNn.out HZ.out)
      have HB5 := Lib.hid (fun o => al2 hb3 o)
      go_wp2_with (at_builtin; refine wpList_append_Own (S := VV.sh) rfl _ _ 46 rfl w.heap.size 39 j0 _ 56 Try.underlying46 hj jz0 jz1 jz2 rfl (by show 0 < 4; omega) (fun _ => False) _ _ rfl (HO.out.fresh (HB5.out _) (HN5.out _) (fun _ h => h.elim)).1 _ _ 1 1 _ _ [x] rfl (Rd.one _ _ _ 4 rfl _ (by simp)) (by simp [HN.out]) rfl (HO.out.fresh (HB5.out _) (HN5.out _) (fun _ h => h.elim)).2 (by rw [List.length_take]; unfold maxLen; omega) (by rw [List.length_take]; omega) (by simp; have := hbel.size; omega) ?_; intro A4 c4 w4 hown4 hgrow4 _)
      go_roundw
      case rel =>
        refine ⟨k + 1, by omega, by go_num, ?_, ?_⟩
        · have e : (List.take k l).length = k := by rw [List.length_take]; omega
          rw [e] at hown4
          rw [List.take_add_one, HX.out]
          exact hown4
        · exact hbel.grown2 HO.out (HB5.out _) hgrow4
      case measure => simp [intOf]; omega
    · have hkl : k = l.length := by omega
      subst hkl
      have HO := Lib.hid hown
      clear hown hr hall
      rw [List.take_of_length_le (Nat.le_refl _)] at HO
      have hr1 := HO.out.read
      obtain ⟨A1, c1, rfl⟩ := sl_vv hr1
      go_wp2_with fail
      refine (valueLine_any A1 _ c1 l _ hr1 HSum.out).mono ?_
      rintro e w2 ⟨rfl, hb2⟩
      have hB2 := sq hbel hb2
      go_wp2_with fail
      refine (refLine_any A _ c l _ (Shp.into (S := Shp.slice VV.sh) HL.out hB2 hB2.size) HSum.out).mono ?_
      rintro e w3 ⟨rfl, hb3⟩
      go_wp2_with fail
      go_ret
      exact ⟨by simp, sq hB2 hb3⟩
end Go.Proofs.Ytkkehbfceabhmaa
