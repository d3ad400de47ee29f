/- Lists of deferred calls, copied and compared. Conditions: none. -/
import Derived.Test.YtkkehbfceabhmaaCC
import Derived.Test.YtkkehbfceabhmaaClone
import Derived.Test.YtkkehbfceabhmaaSameInts
import Derived.Handy
import Derived.Deep.RegionHeld3
set_option maxRecDepth 20000
namespace Go.Proofs.Ytkkehbfceabhmaa
open Go.ChangeShapes Go.WideShapes Go.ChangeAt Go.RowKit
theorem info_int : (Try.prog.info? 3).map (fun i => (i.zero, i.size, i.bytes)) = some (some (.int .i64 0), 1, 8) := by kernel_rfl
theorem info_call : (Try.prog.info? 25).map (fun i => (i.zero, i.size, i.bytes)) = some (some (.agg #[.int .i64 0, .int .i64 0, .slice none 0 0]), 3, 40) := by kernel_rfl
theorem copied_any (s f : Int) (A : Option Addr) (n c : Nat) (zs : List Int) (w : World) (h : Rd w w.heap.size 1 A n (zs.map (Value.int .i64))) (hn : n * 8 ≤ 140737488355328) :
    Calls Try.prog 48 #[.agg #[.int .i64 s, .int .i64 f, .slice A n c]] w fun e w' => ∃ A' c', e = .returned (.agg #[.int .i64 s, .int .i64 f, .slice A' n c']) ∧ w'.ownsRow w.heap.size 3 1 (.slice A' n c') n (zs.map (Value.int .i64)) ∧ Below w.heap.size w w' := by
  go_enter Try.func48, Try.ntmps48
  go_wp2_with fail
  refine (clone_any A n c zs _ (((h.alloc (Nat.le_refl _) _).alloc (by simp) _).more (by simp; omega)) hn).mono ?_
  rintro e w1 ⟨A1, cp, rfl, hown, hb⟩
  have c0 := hb.cell (p := ⟨w.heap.size, 0, none⟩) (by go_size); have c1 := hb.cell (p := ⟨w.heap.size, 1, none⟩) (by go_size); have c2 := hb.cell (p := ⟨w.heap.size, 2, none⟩) (by go_size); (try simp at c0 c1 c2)
  have f0 := hb.frozen (p := ⟨w.heap.size, 0, none⟩) (by go_size); have f1 := hb.frozen (p := ⟨w.heap.size, 1, none⟩) (by go_size); have f2 := hb.frozen (p := ⟨w.heap.size, 2, none⟩) (by go_size); (try simp at f0 f1 f2)
  have d0 := hb.cell (p := ⟨w.heap.size + 1, 0, none⟩) (by go_size); have d1 := hb.cell (p := ⟨w.heap.size + 1, 1, none⟩) (by go_size); have d2 := hb.cell (p := ⟨w.heap.size + 1, 2, none⟩) (by go_size); (try simp at d0 d1 d2)
  have g0 := hb.frozen (p := ⟨w.heap.size + 1, 0, none⟩) (by go_size); have g1 := hb.frozen (p := ⟨w.heap.size + 1, 1, none⟩) (by go_size); have g2 := hb.frozen (p := ⟨w.heap.size + 1, 2, none⟩) (by go_size); (try simp at g0 g1 g2)
  have hs := hb.size
  simp at hs
  go_wp2_with fail
  have hB : Below w.heap.size w w1 := sq (al2 (al _) _) hb
  simp only [World.size_alloc] at hown
  have hp0 : w.heap.size < w.heap.size + 1 + 1 := by omega
  have hp1 : w.heap.size + 1 < w.heap.size + 1 + 1 := by omega
  have hq0 : w.heap.size ≤ w.heap.size := Nat.le_refl _
  have hq1 : w.heap.size ≤ w.heap.size + 1 := by omega
  exact bodyPost_ret (v := .agg #[.int .i64 s, .int .i64 f, .slice A1 n cp]) (by simp [results, Try.results48, go_sem, d0, d1, d2]) rfl ⟨A1, cp, rfl,
    own_base (ownsRow_setCell_below (ownsRow_setCell_below (ownsRow_setCell_below (ownsRow_setCell_below hown hp0 _) hp1 _) hp1 _) hp1 _) (show w.heap.size ≤ w.heap.size + 1 + 1 by omega),
    (((hB.setCell hq0 _).setCell hq1 _).setCell hq1 _).setCell hq1 _⟩
theorem calls_any (A : Option Addr) (n c : Nat) (l : List CC) (w : World) (h : (Shp.slice CC.sh).rd w (· < w.heap.size) [.slice A n c] l) (hf : l.length * 40 ≤ 140737488351232 ∧ ∀ y ∈ l, CC.fits y) :
    Calls Try.prog 17 #[.slice A n c] w fun e w' => ∃ v, e = .returned v ∧ Own CC.sh 25 w' w.heap.size (· < w.heap.size) v l ∧ Below w.heap.size w w' := by
  obtain ⟨i0, hi, hz0, hz1, hz2⟩ := info_parts info_int
  obtain ⟨j0, hj, jz0, jz1, jz2⟩ := info_parts info_call
  obtain ⟨_, _, ess, he, hlc, hcm, hA, hr, hall⟩ := h
  simp at he
  obtain ⟨rfl, rfl, rfl⟩ := he
  go_enter Try.func17, Try.ntmps17
  go_wp2_with fail
  go_loopw [3, 4] (fun o i wr => ∃ k : Nat, k ≤ l.length ∧ i = .int .i64 k ∧ Own CC.sh 25 wr w.heap.size (· < w.heap.size) o (l.take k) ∧ Below w.heap.size w wr) (fun _ i _ => l.length - (intOf i).toNat)
  case atStart => exact ⟨0, Nat.zero_le _, rfl, Own.nil, Below.refl _ _⟩
  case round =>
    obtain ⟨k, hk, rfl, hown, hbel⟩ := hrel
    by_cases hlt : k < l.length
    · obtain ⟨b, off, cs, x, rfl, hb, hx, hrd, hcell⟩ := Shp.elem hr hall hlt rfl
      obtain ⟨A2, c2, rfl, ⟨hs1, hs2⟩, ⟨hf1, hf2⟩, hra, hlc2, hcm2, hA2, hz⟩ := CC.elim hrd
      have e0 := hcell 0 _ rfl
      have e1 := hcell 1 _ rfl
      have e2 := hcell 2 _ rfl
      rw [← hbel.cell (p := ⟨b, _, none⟩) hb] at e0 e1 e2
      have hsz : CC.sh.size = 3 := rfl
      rw [hsz] at e0 e1 e2
      simp only [Nat.add_zero] at e0
      have HX := Lib.hid hx
      clear hsz hcell hx
      have hfx : x.args.length * 8 ≤ 140737488351232 := hf.2 x (List.mem_of_getElem? HX.out)
      have HI := Lib.hid (And.intro hs1 hs2)
      have HJ := Lib.hid (And.intro hf1 hf2)
      have HZ := Lib.hid hz
      have HR := Lib.hid hra
      have HO := Lib.hid hown
      clear hs1 hs2 hf1 hf2 hz hra hrd hown hA2 hA hr hall
      generalize hn : x.args.length = n at *
      have HN := Lib.hid hn
      clear hn
      go_wp2_with (first
        | (at_builtin; refine wpList_append_new _ rfl _ _ 23 rfl 3 i0 _ 1 8 Try.underlying23 hi hz0 hz1 hz2 rfl (by omega) rfl w.heap.size A2 n c2 (x.args.map (Value.int .i64)) rfl ((HR.out.rd (fun _ h => h)).below (hbel.alloc hbel.size _)) (ints_oneCell _ _) (by omega) (by unfold maxLen; omega) ?_; intro A3 c3 w3 hown3 hb3; have c0 := hb3.cell (p := ⟨wr.heap.size, 0, none⟩) (by go_size); have c1 := hb3.cell (p := ⟨wr.heap.size, 1, none⟩) (by go_size); have c2 := hb3.cell (p := ⟨wr.heap.size, 2, none⟩) (by go_size); (try simp at c0 c1 c2); have f0 := hb3.frozen (p := ⟨wr.heap.size, 0, none⟩) (by go_size); have f1 := hb3.frozen (p := ⟨wr.heap.size, 1, none⟩) (by go_size); have f2 := hb3.frozen (p := ⟨wr.heap.size, 2, none⟩) (by go_size); (try simp at f0 f1 f2); have hs3 := hb3.size; simp at hs3)
        | (at_builtin; refine wpList_append_Own (S := CC.sh) rfl _ _ 22 rfl w.heap.size 25 j0 _ 40 Try.underlying22 hj jz0 jz1 jz2 rfl (by show 0 < 3; omega) (· < w.heap.size) _ _ rfl (HO.out.fresh (((sq (al _) hb3).setCell (Nat.le_refl _) _).alloc (by simp; omega) _) (CC.intro (v := x) HI.out HJ.out (HN.out ▸ (RdM.of_own hown3).put (by simp)) (HN.out ▸ own_cap hown3) HZ.out) (fun _ h => Nat.lt_of_lt_of_le h hbel.size)).1 _ _ 1 1 _ _ [x] rfl (Rd.one _ _ _ 3 rfl _ (by simp)) (by simp [HN.out]) rfl (HO.out.fresh (((sq (al _) hb3).setCell (Nat.le_refl _) _).alloc (by simp; omega) _) (CC.intro (v := x) HI.out HJ.out (HN.out ▸ (RdM.of_own hown3).put (by simp)) (HN.out ▸ own_cap hown3) HZ.out) (fun _ h => Nat.lt_of_lt_of_le h hbel.size)).2 (by rw [List.length_take]; unfold maxLen; omega) (by rw [List.length_take]; omega) (Nat.le_trans hbel.size (by simp; omega)) ?_; intro A4 c4 w4 hown4 hgrow4 _))
      go_roundw
      case rel =>
        refine ⟨k + 1, by omega, by go_num, ?_, ?_⟩
        · have e : (List.take k l).length = k := by rw [List.length_take]; omega
          rw [e] at hown4
          rw [List.take_add_one, HX.out]
          exact hown4
        · exact hbel.grown2 HO.out (((sq (al _) hb3).setCell (Nat.le_refl _) _).alloc (by simp; omega) _) hgrow4
      case measure => simp [intOf]; omega
    · have hkl : k = l.length := by omega
      subst hkl
      have HO := Lib.hid hown
      clear hown
      rw [List.take_of_length_le (Nat.le_refl _)] at HO
      go_wp2
      go_ret
      exact ⟨_, rfl, HO.out, hbel⟩
theorem defersAll_any (A : Option Addr) (n c : Nat) (l : List CC) (w : World) (h : (Shp.slice CC.sh).rd w (· < w.heap.size) [.slice A n c] l) (hf : l.length * 40 ≤ 140737488351232 ∧ ∀ y ∈ l, CC.fits y) :
    Calls Try.prog 47 #[.slice A n c] w fun e w' => ∃ v, e = .returned v ∧ Own CC.sh 25 w' w.heap.size (· < w.heap.size) v l ∧ Below w.heap.size w w' := by
  obtain ⟨j0, hj, jz0, jz1, jz2⟩ := info_parts info_call
  obtain ⟨_, _, ess, he, hlc, hcm, hA, hr, hall⟩ := h
  simp at he
  obtain ⟨rfl, rfl, rfl⟩ := he
  go_enter Try.func47, Try.ntmps47
  go_wp2_with (at_make; refine wpList_make_own _ rfl _ _ 22 rfl w.heap.size 25 j0 _ 3 Try.underlying22 hj jz0 jz1 .i64 .i64 _ (l.length + 1) rfl rfl (by go_num) (by rw [jz2]; omega) (by unfold maxLen; omega) (Nat.le_refl _) ?_; intro w1 hown1 hgrow1)
  have hb1 : Below w.heap.size w w1 := (Below.refl _ _).grown hgrow1 (Nat.le_refl _) (by simp)
  go_loopw [3, 12] (fun o i wr => ∃ k : Nat, k ≤ l.length ∧ i = .int .i64 k ∧ Own CC.sh 25 wr w.heap.size (· < w.heap.size) o (l.take k) ∧ Below w.heap.size w wr) (fun _ i _ => l.length - (intOf i).toNat)
  case atStart => exact ⟨0, Nat.zero_le _, rfl, ⟨_, _, [], rfl, hown1, Shp.all.nil⟩, hb1⟩
  case round =>
    obtain ⟨k, hk, rfl, hown, hbel⟩ := hrel
    clear hown1 hgrow1 hb1
    by_cases hlt : k < l.length
    · obtain ⟨b, off, cs, x, rfl, hb, hx, hrd, hcell⟩ := Shp.elem hr hall hlt rfl
      obtain ⟨A2, c2, rfl, ⟨hs1, hs2⟩, ⟨hf1, hf2⟩, hra, hlc2, hcm2, hA2, hz⟩ := CC.elim hrd
      have e0 := hcell 0 _ rfl
      have e1 := hcell 1 _ rfl
      have e2 := hcell 2 _ rfl
      rw [← hbel.cell (p := ⟨b, _, none⟩) hb] at e0 e1 e2
      have hsz : CC.sh.size = 3 := rfl
      rw [hsz] at e0 e1 e2
      simp only [Nat.add_zero] at e0
      have HX := Lib.hid hx
      clear hsz hcell hx
      have hfx : x.args.length * 8 ≤ 140737488351232 := hf.2 x (List.mem_of_getElem? HX.out)
      have HI := Lib.hid (And.intro hs1 hs2)
      have HJ := Lib.hid (And.intro hf1 hf2)
      have HZ := Lib.hid hz
      have HR := Lib.hid hra
      have HO := Lib.hid hown
      clear hs1 hs2 hf1 hf2 hz hra hrd hown hA2 hA hr hall
      generalize hn : x.args.length = n at *
      have HN := Lib.hid hn
      clear hn
      go_wp2_with (first
        | (go_at_call 48; refine (copied_any x.site x.fn A2 n c2 x.args _ (((HR.out.rd (fun _ h => h)).below (hbel.alloc hbel.size _)).more (Nat.le_trans hbel.size (by simp))) (by omega)).mono ?_; rintro e w3 ⟨A3, c3, rfl, hown3, hb3⟩; have hq3 := Lib.hid hown3; rw [← HN.out] at hq3)
        | (at_builtin; refine wpList_append_Own (S := CC.sh) rfl _ _ 22 rfl w.heap.size 25 j0 _ 40 Try.underlying22 hj jz0 jz1 jz2 rfl (by show 0 < 3; omega) (· < w.heap.size) _ _ rfl (HO.out.fresh (al2 (sq (al _) hb3) _) (CC.intro (v := x) HI.out HJ.out ((RdM.of_own hq3.out).al.more fun _ h => ⟨Nat.le_trans (by simp) h.1, h.2⟩) (own_cap hq3.out) HZ.out) (fun _ h => Nat.lt_of_lt_of_le h hbel.size)).1 _ _ 1 1 _ _ [x] rfl (Rd.one _ _ _ 3 rfl _ (by simp)) (by simp [HN.out]) rfl (HO.out.fresh (al2 (sq (al _) hb3) _) (CC.intro (v := x) HI.out HJ.out ((RdM.of_own hq3.out).al.more fun _ h => ⟨Nat.le_trans (by simp) h.1, h.2⟩) (own_cap hq3.out) HZ.out) (fun _ h => Nat.lt_of_lt_of_le h hbel.size)).2 (by rw [List.length_take]; unfold maxLen; omega) (by rw [List.length_take]; omega) (Nat.le_trans hbel.size (Nat.le_trans (sq (al _) hb3).size (by simp))) ?_; intro A4 c4 w4 hown4 hgrow4 _))
      go_roundw
      case rel =>
        refine ⟨k + 1, by omega, by go_num, ?_, ?_⟩
        · have e : (List.take k l).length = k := by rw [List.length_take]; omega
          rw [e] at hown4
          rw [List.take_add_one, HX.out]
          exact hown4
        · exact hbel.grown2 HO.out (al2 (sq (al _) hb3) _) hgrow4
      case measure => simp [intOf]; omega
    · have hkl : k = l.length := by omega
      subst hkl
      have HO := Lib.hid hown
      clear hown
      rw [List.take_of_length_le (Nat.le_refl _)] at HO
      go_wp2
      go_ret
      exact ⟨_, rfl, HO.out, hbel⟩
theorem defersPush_any (A : Option Addr) (n c : Nat) (l : List CC) (x : CC) (A2 : Option Addr) (c2 : Nat) (w : World) (h : (Shp.slice CC.sh).rd w (· < w.heap.size) [.slice A n c] l) (hf : l.length * 40 ≤ 140737488351232 ∧ ∀ y ∈ l, CC.fits y) (hrd : CC.sh.rd w (· < w.heap.size) [.int .i64 x.site, .int .i64 x.fn, .slice A2 x.args.length c2] x) (hfx : CC.fits x) :
    Calls Try.prog 16 #[.slice A n c, .agg #[.int .i64 x.site, .int .i64 x.fn, .slice A2 x.args.length c2]] w fun e w' => ∃ v, e = .returned v ∧ Own CC.sh 25 w' w.heap.size (· < w.heap.size) v (l ++ [x]) ∧ Below w.heap.size w w' := by
  obtain ⟨j0, hj, jz0, jz1, jz2⟩ := info_parts info_call
  obtain ⟨A9, c9, he9, hbs, hbf, hra, hlc2, hcm2, hA2, hz⟩ := CC.elim hrd
  simp at he9
  obtain ⟨rfl, rfl⟩ := he9
  have H := Lib.hid h
  have HZ := Lib.hid hz
  have HR := Lib.hid hra
  have HI := Lib.hid hbs
  have HJ := Lib.hid hbf
  have hfx' : x.args.length * 8 ≤ 140737488351232 := hfx
  clear h hrd hz hra hbs hbf hfx hA2
  generalize hnn : x.args.length = m at *
  have HN := Lib.hid hnn
  clear hnn
  go_enter Try.func16, Try.ntmps16
  go_wp2_with fail
  generalize hW : w.alloc (Obj.cells #[Value.int .i64 x.site, Value.int .i64 x.fn, Value.slice A2 m c2] 25) = W
  have hWb : Below w.heap.size w W := by rw [← hW]; exact al _
  have hg : w.heap.size < W.heap.size := by rw [← hW]; simp
  have hI : W.cell? ⟨w.heap.size, 0, none⟩ = some (.int .i64 x.site) ∧ W.cell? ⟨w.heap.size, 1, none⟩ = some (.int .i64 x.fn) ∧ W.cell? ⟨w.heap.size, 2, none⟩ = some (.slice A2 m c2) ∧ Below W.heap.size W W := by
    rw [← hW]; simp; exact Below.refl _ _
  clear hW
  have HW := Lib.hid (show ∀ w', Below W.heap.size W w' → Below w.heap.size w w' ∧ w.heap.size ≤ w'.heap.size from fun w' hb => ⟨sq hWb hb, Nat.le_trans (Nat.le_of_lt hg) hb.size⟩)
  have hId : W.drew.cell? ⟨w.heap.size, 0, none⟩ = some (.int .i64 x.site) ∧ W.drew.cell? ⟨w.heap.size, 1, none⟩ = some (.int .i64 x.fn) ∧ W.drew.cell? ⟨w.heap.size, 2, none⟩ = some (.slice A2 m c2) ∧ Below W.heap.size W W.drew :=
    ⟨hI.1, hI.2.1, hI.2.2.1, hI.2.2.2.drew⟩
  go_region_held3 (fun w' => w'.cell? ⟨w.heap.size, 0, none⟩ = some (.int .i64 x.site) ∧ w'.cell? ⟨w.heap.size, 1, none⟩ = some (.int .i64 x.fn) ∧ w'.cell? ⟨w.heap.size, 2, none⟩ = some (.slice A2 m c2) ∧ Below W.heap.size W w')
    (first | exact hId | exact held012g hg (by assumption) hown1 hgrow4 | exact held012 hg (al _) (by assumption) | exact held012 hg (by assumption) (by assumption))
    (first
      | (go_at_call 47; refine (defersAll_any A n c l _ (Shp.into (S := Shp.slice CC.sh) H.out (HW.out _ (lst4 (by assumption))).1 (HW.out _ (lst4 (by assumption))).2) hf).mono ?_; rintro e w1 ⟨v1, rfl, hown0, hb1⟩; have hw1 : w.heap.size ≤ w1.heap.size := Nat.le_trans (HW.out _ (lst4 (by assumption))).2 hb1.size; have hown1 := hown0.lessE (E' := (· < w.heap.size)) (fun b hb => Nat.lt_of_lt_of_le hb (HW.out _ (lst4 (by assumption))).2))
      | (go_at_call 48; refine (copied_any x.site x.fn A2 m c2 x.args _ (((HR.out.rd (fun _ h => h)).below (HW.out _ (lst4 (by assumption))).1).more (HW.out _ (lst4 (by assumption))).2) (by omega)).mono ?_; rintro e w3 ⟨A3, c3, rfl, hown3, hb3⟩; have hq3 := Lib.hid hown3; rw [← HN.out] at hq3)
      | (refine step_append_Own (S := CC.sh) (by rfl) _ _ 22 (by rfl) _ 25 j0 _ 40 Try.underlying22 hj jz0 jz1 jz2 rfl (by show 0 < 3; omega) (· < w.heap.size) _ _ (by rfl) (hown1.fresh (al2 hb3 _) (CC.intro (v := x) HI.out HJ.out ((RdM.of_own hq3.out).al) (own_cap hq3.out) HZ.out) (fun _ h => Nat.lt_of_lt_of_le h hw1)).1 _ _ 1 1 _ _ [x] (by rfl) (Rd.one _ _ _ 3 (by rfl) _ (by simp)) (by simp [HN.out]) rfl (hown1.fresh (al2 hb3 _) (CC.intro (v := x) HI.out HJ.out ((RdM.of_own hq3.out).al) (own_cap hq3.out) HZ.out) (fun _ h => Nat.lt_of_lt_of_le h hw1)).2 (by unfold maxLen; omega) (by omega) (Nat.le_trans hb1.size (Nat.le_trans hb3.size (by simp))) ?_; intro A4 c4 w4 hown4 hgrow4 _))
  go_wp2
  go_ret
  exact ⟨_, rfl, hown4.base (Nat.le_of_lt hg), sq hWb (lst4 (by assumption))⟩
theorem sameCall_same (x : CC) (A A' : Option Addr) (c c' : Nat) (w : World) (h : Rd w w.heap.size 1 A x.args.length (x.args.map (Value.int .i64))) (h' : Rd w w.heap.size 1 A' x.args.length (x.args.map (Value.int .i64))) (hn : x.args.length * 8 ≤ 140737488355328) :
    Calls Try.prog 19 #[.agg #[.int .i64 x.site, .int .i64 x.fn, .slice A x.args.length c], .agg #[.int .i64 x.site, .int .i64 x.fn, .slice A' x.args.length c']] w fun e w' => e = .returned (.bool true) ∧ Below w.heap.size w w' := by
  go_enter Try.func19, Try.ntmps19
  go_wp2_with fail
  refine (refSameInts_any _ _ _ _ _ _ x.args x.args _ _ _ ((h.alloc (Nat.le_refl _) _).alloc (by simp) _) ((h'.alloc (Nat.le_refl _) _).alloc (by simp) _) hn hn).mono ?_
  rintro e w1 ⟨rfl, m, rfl⟩
  go_wp2_with fail
  go_ret
  exact ⟨by simp, dr (al2 (al _) _) m⟩
theorem lst7 {a b c d e f g : Prop} (h : a ∧ b ∧ c ∧ d ∧ e ∧ f ∧ g) : g := h.2.2.2.2.2.2
theorem sameCalls_same (A A' : Option Addr) (n n' c c' : Nat) (l : List CC) (w : World) (h : (Shp.slice CC.sh).rd w (· < w.heap.size) [.slice A n c] l) (h' : (Shp.slice CC.sh).rd w (· < w.heap.size) [.slice A' n' c'] l) (hf : l.length * 40 ≤ 140737488355328 ∧ ∀ y ∈ l, CC.fits y) :
    Calls Try.prog 15 #[.slice A n c, .slice A' n' c'] w fun e w' => e = .returned (.bool true) ∧ Below w.heap.size w w' := by
  obtain ⟨_, _, ess, he, hlc, hcm, hA, hr, hall⟩ := h
  simp at he
  obtain ⟨rfl, rfl, rfl⟩ := he
  obtain ⟨_, _, ess', he', hlc', hcm', hA', hr', hall'⟩ := h'
  simp at he'
  obtain ⟨rfl, rfl, rfl⟩ := he'
  go_enter Try.func15, Try.ntmps15
  go_wp2_with fail
  go_loopw [5] (fun i wr => ∃ k : Nat, k ≤ l.length ∧ i = .int .i64 k ∧ Below w.heap.size w wr) (fun i _ => l.length - (intOf i).toNat)
  case atStart => exact ⟨0, Nat.zero_le _, rfl, Below.refl _ _⟩
  case round =>
    obtain ⟨k, hk, rfl, hbel⟩ := hrel
    by_cases hlt : k < l.length
    · obtain ⟨b, off, cs, x, rfl, hb, hx, hrd, hcell⟩ := Shp.elem hr hall hlt rfl
      obtain ⟨b', off', cs', x', rfl, hb', hx', hrd', hcell'⟩ := Shp.elem hr' hall' hlt rfl
      obtain rfl : x = x' := by rw [hx] at hx'; injection hx'
      obtain ⟨A2, c2, rfl, _, _, hra, hlc2, hcm2, hA2, hz⟩ := CC.elim hrd
      obtain ⟨A3, c3, rfl, _, _, hra', hlc3, hcm3, hA3, hz'⟩ := CC.elim hrd'
      have e0 := hcell 0 _ rfl
      have e1 := hcell 1 _ rfl
      have e2 := hcell 2 _ rfl
      have g0 := hcell' 0 _ rfl
      have g1 := hcell' 1 _ rfl
      have g2 := hcell' 2 _ rfl
      have hsz : CC.sh.size = 3 := rfl
      rw [hsz] at e0 e1 e2 g0 g1 g2
      simp only [Nat.add_zero] at e0 g0
      have HX := Lib.hid hx
      have hfx : x.args.length * 8 ≤ 140737488351232 := hf.2 x (List.mem_of_getElem? hx)
      have HS := Lib.hid (show ∀ w', Below w.heap.size w w' → w'.cell? ⟨b, off + k * 3, none⟩ = some (.int .i64 x.site) ∧ w'.cell? ⟨b, off + k * 3 + 1, none⟩ = some (.int .i64 x.fn) ∧ w'.cell? ⟨b, off + k * 3 + 2, none⟩ = some (.slice A2 x.args.length c2) ∧ w'.cell? ⟨b', off' + k * 3, none⟩ = some (.int .i64 x.site) ∧ w'.cell? ⟨b', off' + k * 3 + 1, none⟩ = some (.int .i64 x.fn) ∧ w'.cell? ⟨b', off' + k * 3 + 2, none⟩ = some (.slice A3 x.args.length c3) ∧ Below w.heap.size w w' from fun w' hw => ⟨(hw.cell (p := ⟨b, _, none⟩) hb).trans e0, (hw.cell (p := ⟨b, _, none⟩) hb).trans e1, (hw.cell (p := ⟨b, _, none⟩) hb).trans e2, (hw.cell (p := ⟨b', _, none⟩) hb').trans g0, (hw.cell (p := ⟨b', _, none⟩) hb').trans g1, (hw.cell (p := ⟨b', _, none⟩) hb').trans g2, hw⟩)
      have HR := Lib.hid (And.intro hra hra')
      have hS := HS.out wr hbel
      clear hsz hcell hcell' hx hx' hz hz' hA2 hA3 hA hA' hr hall hr' hall' hrd hrd' e0 e1 e2 g0 g1 g2 hra hra'
      have hk0 : (0 : Int) ≤ (k : Int) := by omega
      have hk1 : (k : Int) < (l.length : Int) := by omega
      go_wp2_with fail
      go_region_held3 (fun w' => w'.cell? ⟨b, off + k * 3, none⟩ = some (.int .i64 x.site) ∧ w'.cell? ⟨b, off + k * 3 + 1, none⟩ = some (.int .i64 x.fn) ∧ w'.cell? ⟨b, off + k * 3 + 2, none⟩ = some (.slice A2 x.args.length c2) ∧ w'.cell? ⟨b', off' + k * 3, none⟩ = some (.int .i64 x.site) ∧ w'.cell? ⟨b', off' + k * 3 + 1, none⟩ = some (.int .i64 x.fn) ∧ w'.cell? ⟨b', off' + k * 3 + 2, none⟩ = some (.slice A3 x.args.length c3) ∧ Below w.heap.size w w')
        (first | exact HS.out _ hbel.drew | exact HS.out _ (sq (lst7 (by assumption)) (by assumption)))
        (first
          | (go_at_call 19; refine (sameCall_same x _ _ _ _ _ ((HR.out.1.rd (fun _ h => h)).into (Nat.le_refl _) (lst7 (by assumption))) ((HR.out.2.rd (fun _ h => h)).into (Nat.le_refl _) (lst7 (by assumption))) (by omega)).mono ?_; rintro e w2 ⟨rfl, hb2⟩))
      go_wp2
      go_roundw
      case rel => exact ⟨k + 1, by omega, by go_num, lst7 (by assumption)⟩
      case measure => simp [intOf]; omega
    · go_wp2
      go_ret
      exact ⟨rfl, hbel⟩
end Go.Proofs.Ytkkehbfceabhmaa
