/- The document's 'Started': what it answers. Conditions: what comes in fits. -/
import Derived.Test.YtkkehbfceabhmaaPush
import Derived.Deep.QuietTactic
import Derived.BigQuiet
set_option maxRecDepth 20000
namespace Go.Proofs.Ytkkehbfceabhmaa
open Go.ChangeShapes Go.WideShapes Go.ChangeAt Go.RowKit
/-- May the k-th call stand where it stands, if bits keep the calls? -/
def siteAt (l : List CC) (k : Nat) : Int := (l.getD k ⟨0, 0, []⟩).site
def okAt (l : List CC) (k : Nat) : Prop := 0 ≤ siteAt l k ∧ siteAt l k ≤ 7 ∧ (k = 0 ∨ siteAt l (k - 1) < siteAt l k)
theorem site_of {l : List CC} {k : Nat} {x : CC} (h : l[k]? = some x) : siteAt l k = x.site := by simp [siteAt, List.getD, h]
/-- What both answer. -/
def OrdP (op : Bool) (l : List CC) (w : World) (e : Ending) (w' : World) : Prop :=
  ((op = true → ∀ k < l.length, okAt l k) ∧ ∃ v, e = .returned (.tuple #[v, .int .i64 0]) ∧ (Shp.slice CC.sh).rd w' (· < w'.heap.size) [v] l.reverse ∧ Below w.heap.size w w') ∨
  ((op = true ∧ ∃ k, k < l.length ∧ ¬ okAt l k) ∧ e = .returned (.tuple #[.slice none 0 0, .int .i64 14]) ∧ Below w.heap.size w w')
set_option maxHeartbeats 2000000 in
theorem started_any (op : Bool) (A : Option Addr) (c : Nat) (l : List CC) (w : World) (h : (Shp.slice CC.sh).rd w (· < w.heap.size) [.slice A l.length c] l) (hf : l.length * 40 ≤ 140737488351232) :
    Calls Try.prog 28 #[.bool op, .slice A l.length c] w (OrdP op l w) := by
  obtain ⟨j0, hj, jz0, jz1, jz2⟩ := info_parts info_call
  obtain ⟨_, _, ess, he, hlc, hcm, hA, hr, hall⟩ := h
  simp at he
  obtain ⟨rfl, rfl⟩ := he
  generalize hN : l.length = N at *
  have HN := Lib.hid hN
  clear hN
  go_enter Try.func28, Try.ntmps28
  go_wp2_with fail
  go_loopw [12] (fun i wr => ∃ k : Nat, k ≤ N ∧ i = .int .i64 k ∧ Hid (op = true → ∀ j < k, okAt l j) ∧ Below w.heap.size w wr) (fun i _ => N - (intOf i).toNat)
  case atStart => exact ⟨0, Nat.zero_le _, rfl, Lib.hid (fun _ j hj => by omega), Below.refl _ _⟩
  case round =>
    obtain ⟨k, hk, rfl, HK, hbel⟩ := hrel
    by_cases hlt : k < N
    · obtain ⟨b, off, cs, x, rfl, hb, hx, hrd, hcell⟩ := Shp.elem hr hall hlt HN.out.symm
      obtain ⟨A2, c2, rfl, hsr, _, hra, _⟩ := CC.elim hrd
      have e0 := hcell 0 _ rfl
      have e1 := hcell 1 _ rfl
      have e2 := hcell 2 _ rfl
      have hsz : CC.sh.size = 3 := rfl
      rw [← hbel.cell (p := ⟨b, _, none⟩) hb] at e0 e1 e2
      rw [hsz] at e0 e1 e2
      simp only [Nat.add_zero] at e0
      have HX := Lib.hid hx
      have HSite := Lib.hid (site_of HX.out)
      have hbs : b < wr.heap.size := Nat.lt_of_lt_of_le hb hbel.size
      have hk0 : (0 : Int) ≤ (k : Int) := by omega
      have hk1 : (k : Int) < (N : Int) := by omega
      cases op
      · have HK2 := Lib.hid (show false = true → ∀ j < k + 1, okAt l j from fun h => by cases h)
        clear hra hrd hcell hx hsz hr hall hA
        go_wp2_with fail
        go_quiet (fail)
        go_wp2
        go_roundw
        case rel => exact ⟨k + 1, by omega, by go_num, HK2, dr (sq hbel (al _)) _⟩
        case measure => simp [intOf]; omega
      · by_cases h1 : x.site < 0
        · have HBad := Lib.hid (show ¬ okAt l k from fun h => by have := h.1; rw [HSite.out] at this; omega)
          have d1 : decide (x.site < 0) = true := decide_eq_true h1
          clear hra hrd hcell hx hsz hr hall hA h1
          go_wp2_with fail
          go_quiet (fail)
          go_wp2
          go_returns
          exact .inr ⟨⟨rfl, k, by have := HN.out; omega, HBad.out⟩, rfl, dr (sq hbel (al _)) _⟩
        have d1 : decide (x.site < 0) = false := decide_eq_false h1
        by_cases h2 : 7 < x.site
        · have HBad := Lib.hid (show ¬ okAt l k from fun h => by have := h.2.1; rw [HSite.out] at this; omega)
          have d2 : decide (7 < x.site) = true := decide_eq_true h2
          clear hra hrd hcell hx hsz hr hall hA h1 h2
          go_wp2_with fail
          go_quiet (fail)
          go_wp2
          go_returns
          exact .inr ⟨⟨rfl, k, by have := HN.out; omega, HBad.out⟩, rfl, dr (sq hbel (al _)) _⟩
        have d2 : decide (7 < x.site) = false := decide_eq_false h2
        by_cases h3 : k = 0
        · have HK2 := Lib.hid (show true = true → ∀ j < k + 1, okAt l j from fun _ j hj => by
            obtain rfl : j = k := by omega
            exact ⟨by rw [HSite.out]; omega, by rw [HSite.out]; omega, .inl h3⟩)
          have d3 : decide (0 < k) = false := decide_eq_false (by omega)
          clear hra hrd hcell hx hsz hr hall hA h1 h2 h3
          go_wp2_with fail
          go_quiet (fail)
          go_wp2
          go_roundw
          case rel => exact ⟨k + 1, by omega, by go_num, HK2, dr (sq hbel (al _)) _⟩
          case measure => simp [intOf]; omega
        have d3 : decide (0 < k) = true := decide_eq_true (by omega)
        obtain ⟨j, hjk⟩ : ∃ j, k = j + 1 := ⟨k - 1, by omega⟩
        have hkj : (k : Int) - 1 = (j : Int) := by omega
        obtain ⟨b', off', cs', y, hbb, hb', hy, hrd', hcell'⟩ := Shp.elem hr hall (show j < N by omega) HN.out.symm
        simp at hbb
        obtain ⟨rfl, rfl⟩ := hbb
        obtain ⟨A3, c3, rfl, _, _, _, _⟩ := CC.elim hrd'
        have p0 := hcell' 0 _ rfl
        rw [← hbel.cell (p := ⟨b, _, none⟩) hb, hsz] at p0
        simp only [Nat.add_zero] at p0
        have HY := Lib.hid (show siteAt l (k - 1) = y.site by rw [show k - 1 = j by omega]; exact site_of hy)
        have hj0 : (0 : Int) ≤ (j : Int) := by omega
        have hj1 : (j : Int) < (N : Int) := by omega
        have hjN : j < N := by omega
        have HH := Lib.hid (And.intro h1 h2)
        have HK0 := Lib.hid h3
        clear hra hrd hcell hx hsz hr hall hA hcell' hrd' hy h1 h2 h3 hjk
        by_cases h4 : x.site ≤ y.site
        · have HBad := Lib.hid (show ¬ okAt l k from fun h => by
            have h5 := h.2.2
            rw [HSite.out, HY.out] at h5
            have := HK0.out
            omega)
          have d4 : decide (x.site ≤ y.site) = true := decide_eq_true h4
          clear h4
          go_wp2_with fail
          go_quiet (fail)
          go_wp2
          go_returns
          exact .inr ⟨⟨rfl, k, by have := HN.out; omega, HBad.out⟩, rfl, dr (sq hbel (al _)) _⟩
        · have HK2 := Lib.hid (show true = true → ∀ q < k + 1, okAt l q from fun _ q hq => by
            by_cases e : q = k
            · subst e
              exact ⟨by rw [HSite.out]; have := HH.out; omega, by rw [HSite.out]; have := HH.out; omega, .inr (by rw [HSite.out, HY.out]; omega)⟩
            · exact HK.out rfl q (by omega))
          have d4 : decide (x.site ≤ y.site) = false := decide_eq_false h4
          clear h4
          go_wp2_with fail
          go_quiet (fail)
          go_wp2
          go_roundw
          case rel => exact ⟨k + 1, by omega, by go_num, HK2, dr (sq hbel (al _)) _⟩
          case measure => simp [intOf]; omega
    · obtain rfl : k = N := by omega
      have hlm : (k : Int) ≤ 9223372036854775807 := by omega
      clear hlt
      go_wp2_with fail
      go_loopw [8, 9] (fun o i w9 => ∃ j : Nat, j ≤ k ∧ i = .int .i64 ((j : Int) - 1) ∧ Own CC.sh 25 w9 w.heap.size (fun _ => False) o (l.drop j).reverse ∧ Below w.heap.size w w9) (fun _ i _ => (intOf i + 1).toNat)
      case atStart =>
        refine ⟨k, Nat.le_refl _, rfl, ?_, hbel⟩
        rw [List.drop_eq_nil_of_le (by have := HN.out; omega)]
        exact Own.nil
      case round =>
        obtain ⟨j, hjk9, rfl, hown, hb9⟩ := hrel
        by_cases hpos : 0 < j
        · obtain ⟨q, hq⟩ : ∃ q, j = q + 1 := ⟨j - 1, by omega⟩
          have hqi : (j : Int) - 1 = (q : Int) := by omega
          obtain ⟨b, off, cs, x, rfl, hb, hx, hrd, hcell⟩ := Shp.elem hr hall (show q < k by omega) HN.out.symm
          obtain ⟨A2, c2, rfl, hsr, _, hra, _⟩ := CC.elim hrd
          have e0 := hcell 0 _ rfl
          have e1 := hcell 1 _ rfl
          have e2 := hcell 2 _ rfl
          have hsz : CC.sh.size = 3 := rfl
          rw [← hb9.cell (p := ⟨b, _, none⟩) hb] at e0 e1 e2
          rw [hsz] at e0 e1 e2
          simp only [Nat.add_zero] at e0
          have HX := Lib.hid hx
          have HRD := Lib.hid (fun w' (h : Below w.heap.size w w') => Shp.stay (S := CC.sh) hrd h)
          have HO := Lib.hid hown
          have HQ := Lib.hid hq
          have hq0 : (0 : Int) ≤ (q : Int) := by omega
          have hq1 : (q : Int) < (k : Int) := by omega
          have hqk : q < k := by omega
          have hsum : ((l.drop j).reverse).length + 1 ≤ k := by rw [List.length_reverse, List.length_drop, HN.out]; omega
          have hE := fun o => Own.elder (S := CC.sh) HO.out (W := wr.alloc o) (al _) (HRD.out _ (sq hb9 (al _))) (Nat.le_refl _) (by have := hb9.size; simp; omega)
          have HE := Lib.hid hE
          clear hE hra hrd hcell hx hsz hr hall hA hown hq hpos
          go_wp2_with (at_builtin; refine wpList_append_Own (S := CC.sh) rfl _ _ 22 rfl w.heap.size 25 j0 _ 40 Try.underlying22 hj jz0 jz1 jz2 rfl (by show 0 < 3; omega) (fun _ => False) _ _ rfl (HE.out _).1 _ _ 1 1 _ _ [x] rfl (Rd.one _ _ _ 3 rfl _ (by simp)) (by simp) rfl (HE.out _).2 (by unfold maxLen; omega) (by omega) (by have := hb9.size; simp; omega) ?_; intro A4 c4 w4 hown4 hgrow4 _)
          go_roundw
          case rel =>
            refine ⟨q, by omega, by go_num, ?_, hb9.grown2 HO.out (al _) hgrow4⟩
            have e : (l.drop q).reverse = (l.drop j).reverse ++ [x] := by
              rw [HQ.out, List.drop_eq_getElem_cons (show q < l.length by have := HN.out; omega), List.reverse_cons]
              have hx := HX.out
              rw [List.getElem?_eq_getElem (show q < l.length by have := HN.out; omega)] at hx
              injection hx with hx
              rw [hx]
            rw [e]
            rw [List.length_reverse, List.length_drop] at hown4
            exact hown4
          case measure => simp [intOf]; omega
        · obtain rfl : j = 0 := by omega
          have HO := Lib.hid hown
          clear hown hpos
          go_wp2_with fail
          go_returns
          refine .inl ⟨fun h q hq => HK.out h q (by have := HN.out; omega), _, rfl, ?_, hb9⟩
          have := HO.out.read
          rwa [List.drop_zero] at this
end Go.Proofs.Ytkkehbfceabhmaa
