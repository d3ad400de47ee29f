/- 'report.Values': what it answers; the law ReportValues is true. Conditions: the bound on the bulk. -/
import Derived.Test.YtkkehbfceabhmaaShowR
import Derived.Test.YtkkehbfceabhmaaFlights
import Derived.Deep.RegionHeld3
set_option maxRecDepth 20000
namespace Go.Proofs.Ytkkehbfceabhmaa
open Go.ChangeShapes Go.WideShapes Go.ChangeAt Go.RowKit
def shows (l : List PP) : List Value := (l.map fun p => showS p.v).map Value.string
set_option maxHeartbeats 1000000 in
theorem reportValues_any (A : Option Addr) (n c : Nat) (l : List PP) (w : World) (h : (Shp.slice PP.sh).rd w (· < w.heap.size) [.slice A n c] l) (hb : (l.map PP.bulk).sum ≤ 1048576) :
    Calls Try.prog 31 #[.slice A n c] w fun e w' => ∃ A' c', e = .returned (.slice A' l.length c') ∧ w'.ownsRow w.heap.size 9 1 (.slice A' l.length c') l.length (shows l) ∧ Below w.heap.size w w' := by
  obtain ⟨i0, hi, hz0, hz1, hz2⟩ := info_parts info_str
  have hll := len_le_sum l
  obtain ⟨_, _, ess, he, hlc, hcm, hA, hr, hall⟩ := h
  simp at he
  obtain ⟨rfl, rfl, rfl⟩ := he
  have HB := Lib.hid (fun p (hp : p ∈ l) => Nat.le_trans (bulk_le hp) hb)
  have hl2 : l.length ≤ 1048576 := by omega
  clear hb hll
  generalize hN : l.length = N at *
  have HN := Lib.hid hN
  clear hN
  go_enter Try.func31, Try.ntmps31
  go_wp2_with fail
  go_loopw [3, 8] (fun lv i wr => ∃ (k : Nat) (A' : Option Addr) (c' : Nat), k ≤ N ∧ i = .int .i64 k ∧ lv = .slice A' k c' ∧ wr.ownsRow w.heap.size 9 1 (.slice A' k c') k (shows (l.take k)) ∧ Below w.heap.size w wr) (fun _ i _ => N - (intOf i).toNat)
  case atStart => exact ⟨0, none, 0, Nat.zero_le _, rfl, rfl, World.ownsRow_nil _ _ _ _, Below.refl _ _⟩
  case round =>
    obtain ⟨k, A', c', hk, rfl, rfl, hown, hbel⟩ := hrel
    by_cases hlt : k < N
    · obtain ⟨b, off, cs, x, rfl, hb, hx, hrd, hcell⟩ := Shp.elem hr hall hlt HN.out.symm
      obtain ⟨A2, c2, rfl, hser, hv⟩ := PP.elim hrd
      have e0 := hcell 0 _ rfl
      have e1 := hcell 1 _ rfl
      have e2 := hcell 2 _ rfl
      have e3 := hcell 3 _ rfl
      have e4 := hcell 4 _ rfl
      have e5 := hcell 5 _ rfl
      have e6 := hcell 6 _ rfl
      rw [← hbel.cell (p := ⟨b, _, none⟩) hb] at e0 e1 e2 e3 e4 e5 e6
      have hsz7 : PP.sh.size = 7 := rfl
      rw [hsz7] at e0 e1 e2 e3 e4 e5 e6
      simp only [Nat.add_zero] at e0
      have HX := Lib.hid hx
      have HBx := Lib.hid (HB.out x (List.mem_of_getElem? HX.out))
      have HRD := Lib.hid (fun o => Shp.into (W := wr.alloc o) (S := VV.sh) hv (below_more hbel (al _)) (by have := hbel.size; simp; omega))
      clear hsz7 hcell hx hser hrd hv hA hr hall
      go_wp2_with fail
      refine (valueShow_any x.v A2 c2 _ (HRD.out _) HBx.out).mono ?_
      rintro e w1 ⟨rfl, hb1⟩
      replace hown := own_kept (own_kept hown (al _)) hb1
      replace hbel := below_more (below_more hbel (al _)) hb1
      clear hb1 HRD e0 e1 e2 e3 e4 e5 e6
      go_wp2_with ((at_builtin; refine wpList_append_rd _ rfl _ _ 50 rfl w.heap.size 9 i0 _ 1 16 Try.underlying50 hi hz0 hz1 hz2 rfl (by omega) _ _ _ rfl (hown.alloc _) _ _ 1 1 [_] rfl (Rd.lit1 _ _ _) (one1 rfl) (by unfold maxLen; omega) (by omega) (by have := hbel.size; simp; omega) ?_; intro A1 c1 w2 hown1 hg1 hat1))
      go_roundw
      case rel =>
        refine ⟨k + 1, A1, c1, by omega, by go_num, rfl, ?_, (hbel.alloc hbel.size _).grown hg1 (by have := hbel.size; simp; omega) (fun q hq => (hown.lt q hq).1)⟩
        have e : shows (List.take (k + 1) l) = shows (List.take k l) ++ [.string (showS x.v)] := by
          unfold shows
          rw [List.take_add_one, HX.out]; simp
        rw [e]
        exact hown1
      case measure => simp [intOf]; omega
    · obtain rfl : k = N := by omega
      have ht : List.take k l = l := List.take_of_length_le (by have := HN.out; omega)
      rw [ht] at hown
      go_wp2_with fail
      go_ret
      exact ⟨A', c', rfl, hown, hbel⟩
theorem lst6 {a b c d e f : Prop} (h : a ∧ b ∧ c ∧ d ∧ e ∧ f) : f := h.2.2.2.2.2
theorem cellS {w : World} {B n : Nat} {A : Option Addr} {l : List PP} (h : Rd w B 1 A n (shows l)) {k : Nat} {p : PP} (hk : k < n) (hp : l[k]? = some p) :
    ∃ b off, A = some ⟨b, off, none⟩ ∧ b < B ∧ w.cell? ⟨b, off + k, none⟩ = some (.string (showS p.v)) := by
  obtain ⟨b, off, u, e, hb, hu, hc⟩ := h.at1 hk
  refine ⟨b, off, e, hb, ?_⟩
  rw [hc]
  unfold shows at hu
  rw [List.getElem?_map, List.getElem?_map, hp] at hu
  exact hu.symm
set_option maxHeartbeats 2000000 in
theorem walkReportValues (v0 : Value) (w : World) (w0 : IsUPanics w v0) : Calls Try.prog 10 #[v0] w fun e w' => e = .returned (.bool true) ∧ Below w.heap.size w w' := by
  obtain ⟨l, hl, hb⟩ := w0
  obtain ⟨A, c, rfl⟩ := sl_pp hl
  have HL := Lib.hid hl
  have HRg := Lib.hid (pp_range hl)
  have hll := len_le_sum l
  have hl2 : l.length ≤ 1048576 := by omega
  clear hl hll
  go_enter Try.func10, Try.ntmps10
  go_wp2_with fail
  refine (flights_any A _ c l _ HL.out hb).mono ?_
  rintro e w1 ⟨v, rfl, hown, hb1⟩
  have hr1 := hown.read
  obtain ⟨A1, c1, rfl⟩ := sl_pp hr1
  clear hown
  go_wp2_with fail
  refine (reportValues_any A1 _ c1 l _ hr1 hb).mono ?_
  rintro e w2 ⟨A2, c2, rfl, hown2, hb2⟩
  have hB2 := sq hb1 hb2
  have HB2 := Lib.hid hB2
  clear hr1 hb1 hb2 hB2
  have HO := Lib.hid (one_rd w2)
  go_wp2_with fail
  refine (reportValues_any _ _ _ [onePP] _ (Shp.into (S := Shp.slice PP.sh) HO.out (Below.refl _ _) (by simp)) (by decide)).mono ?_
  rintro e W ⟨A3, c3, rfl, _, hb3⟩
  have hBW : Below w.heap.size w W := sq (sq HB2.out (al _)) hb3
  have hrA := Rd.of_own (own_kept (own_kept hown2 (al _)) hb3)
  have hLW := Shp.into (S := Shp.slice PP.sh) HL.out hBW hBW.size
  have HB := Lib.hid (fun p (hp : p ∈ l) => Nat.le_trans (bulk_le hp) hb)
  have HBW := Lib.hid hBW
  obtain ⟨_, _, ess, he, hlc, hcm, hA, hr, hall⟩ := hLW
  simp at he
  obtain ⟨rfl, rfl⟩ := he
  clear hown2 hb3 hb hBW
  have h11 : [onePP].length = 1 := rfl
  go_wp2_with fail
  go_loopw [5] (fun i wr => ∃ k : Nat, k ≤ l.length ∧ i = .int .i64 k ∧ Below W.heap.size W wr) (fun i _ => l.length - (intOf i).toNat)
  case atStart => exact ⟨0, Nat.zero_le _, rfl, Below.refl _ _⟩
  case round =>
    obtain ⟨k, hk, rfl, hbel⟩ := hrel
    by_cases hlt : k < l.length
    · obtain ⟨b, off, cs, x, rfl, hb, hx, hrd, hcell⟩ := Shp.elem hr hall hlt rfl
      obtain ⟨A5, c5, rfl, hser, hv⟩ := PP.elim hrd
      obtain ⟨A6, c6, he6, hra, _, _, _, _, hn, hz⟩ := VV.elim hv
      simp at he6
      obtain ⟨rfl, rfl⟩ := he6
      obtain ⟨bs, os, rfl, hbs, hcs⟩ := cellS hrA hlt hx
      have hsz7 : PP.sh.size = 7 := rfl
      have e1 := hcell 1 _ rfl
      have e2 := hcell 2 _ rfl
      have e3 := hcell 3 _ rfl
      have e4 := hcell 4 _ rfl
      rw [hsz7] at e1 e2 e3 e4
      have HX := Lib.hid hx
      have hbx := HB.out x (List.mem_of_getElem? HX.out)
      have HS := Lib.hid (show ∀ w', Below W.heap.size W w' → w'.cell? ⟨b, off + k * 7 + 1, none⟩ = some (.int .i64 x.v.k) ∧ w'.cell? ⟨b, off + k * 7 + 2, none⟩ = some (.int .i64 x.v.n) ∧ w'.cell? ⟨b, off + k * 7 + 3, none⟩ = some (.string x.v.s) ∧ w'.cell? ⟨b, off + k * 7 + 4, none⟩ = some (.slice A5 x.v.l.length c5) ∧ w'.cell? ⟨bs, os + k, none⟩ = some (.string (showS x.v)) ∧ Below W.heap.size W w' from fun w' hw => ⟨(hw.cell (p := ⟨b, _, none⟩) hb).trans e1, (hw.cell (p := ⟨b, _, none⟩) hb).trans e2, (hw.cell (p := ⟨b, _, none⟩) hb).trans e3, (hw.cell (p := ⟨b, _, none⟩) hb).trans e4, (hw.cell (p := ⟨bs, _, none⟩) hbs).trans hcs, hw⟩)
      have HR := Lib.hid (show Rd W W.heap.size 1 A5 x.v.l.length (x.v.l.map (Value.int .i64)) from hra)
      have hS := HS.out wr hbel
      have HLn := Lib.hid (show x.v.l.length ≤ 1048576 by unfold VV.bulk at hbx; omega)
      have HNn := Lib.hid hn
      have HZ := Lib.hid hz
      have hne : ((showS x.v).toList != (showS x.v).toList) = false := by simp
      clear hsz7 hcell hx hrd hv hra hser hA hr hall hrA hn hz hbx e1 e2 e3 e4 hcs
      have hk0 : (0 : Int) ≤ (k : Int) := by omega
      have hk1 : (k : Int) < (l.length : Int) := by omega
      go_wp2_with fail
      go_region_held3 (fun w' => w'.cell? ⟨b, off + k * 7 + 1, none⟩ = some (.int .i64 x.v.k) ∧ w'.cell? ⟨b, off + k * 7 + 2, none⟩ = some (.int .i64 x.v.n) ∧ w'.cell? ⟨b, off + k * 7 + 3, none⟩ = some (.string x.v.s) ∧ w'.cell? ⟨b, off + k * 7 + 4, none⟩ = some (.slice A5 x.v.l.length c5) ∧ w'.cell? ⟨bs, os + k, none⟩ = some (.string (showS x.v)) ∧ Below W.heap.size W w')
        (first | exact HS.out _ hbel.drew | exact HS.out _ (sq (lst6 (by assumption)) (by assumption)))
        (first
          | (go_at_call 26; refine (refShow_t x.v.k x.v.n x.v.s A5 x.v.l c5 HNn.out _ (HR.out.into (Nat.le_refl _) (lst6 (by assumption))) HZ.out HLn.out).mono ?_; rintro e w3 ⟨rfl, hb3⟩))
      go_wp2
      go_roundw
      case rel => exact ⟨k + 1, by omega, by go_num, lst6 (by assumption)⟩
      case measure => simp [intOf]; omega
    · have hd : decide ((k : Int) < (l.length : Int)) = false := decide_eq_false (by omega)
      go_wp2_with fail
      go_ret
      exact ⟨rfl, sq HBW.out hbel⟩
end Go.Proofs.Ytkkehbfceabhmaa
