/- The document's SamePanics, SameTells of rows that read the same. Conditions: bounds. -/
import Derived.Test.YtapofohbngkekaaPnG
import Derived.Test.YtapofohbngkekaaEqual
import Derived.StillTailTactics
set_option maxRecDepth 100000
namespace Go.Proofs.Ytapofohbngkekaa
open Go.ChangeShapes Go.WideShapes Go.ChangeAt Go.RowKit
theorem tlL_get {l : List TL} {i j : Nat} {t : TL} (h : l[i]? = some t) (hj : j < 7) : (tlL l)[i * 7 + j]? = (tlC t)[j]? := by
  unfold tlL
  rw [flat_at (fun c hc => by obtain ⟨q, _, rfl⟩ := List.mem_map.1 hc; rfl) i j hj, List.getElem?_map, h]
  rfl
set_option maxHeartbeats 4000000 in
theorem samePn_any (A A' : Option Addr) (n n' c c' : Nat) (l : List PN) (w : World) (h : Rd w w.heap.size 7 A n (pnL l)) (h' : Rd w w.heap.size 7 A' n' (pnL l)) (hn : n = l.length) (hn' : n' = l.length) (hl : l.length ≤ 1000000) :
    Calls Try.prog 43 #[.slice A n c, .slice A' n' c'] w fun e w' => e = .returned (.bool true) ∧ Below w.heap.size w w' := by
  subst hn hn'
  have HR := Lib.hid h
  have HR' := Lib.hid h'
  obtain ⟨n, hn⟩ : ∃ n, l.length = n := ⟨_, rfl⟩
  have HN := Lib.hid hn
  rw [hn] at hl ⊢
  clear h h' hn
  go_enter Try.func43, Try.ntmps43
  go_wp2_with fail
  go_loopw [13] (fun i wr => ∃ k : Nat, k ≤ n ∧ i = .int .i64 k ∧ Below w.heap.size w wr) (fun i _ => n - (intOf i).toNat)
  case atStart => exact ⟨0, Nat.zero_le _, rfl, Below.refl _ _⟩
  case round =>
    obtain ⟨k, hk, rfl, hbel⟩ := hrel
    by_cases hlt : k < n
    · obtain ⟨x, hx⟩ : ∃ x, l[k]? = some x := ⟨_, List.getElem?_eq_getElem (by rw [HN.out]; exact hlt)⟩
      obtain ⟨b, off, rfl, hb, hcell⟩ := HR.out.2 (by rw [HN.out]; omega)
      obtain ⟨b', off', rfl, hb', hcell'⟩ := HR'.out.2 (by rw [HN.out]; omega)
      have hcc : ∀ i, i < 7 → wr.cell? ⟨b, off + k * 7 + i, none⟩ = (pnC x)[i]? := fun i hi => by
        have h1 : (pnL l)[k * 7 + i]? = (pnC x)[i]? := pnL_get hx hi
        have hi2 : i < (pnC x).length := hi
        rw [List.getElem?_eq_getElem hi2] at h1 ⊢
        have := hcell (k * 7 + i) _ h1
        rw [← Nat.add_assoc] at this
        exact (hbel.cell (p := ⟨b, _, none⟩) hb).trans this
      have hcc' : ∀ i, i < 7 → wr.cell? ⟨b', off' + k * 7 + i, none⟩ = (pnC x)[i]? := fun i hi => by
        have h1 : (pnL l)[k * 7 + i]? = (pnC x)[i]? := pnL_get hx hi
        have hi2 : i < (pnC x).length := hi
        rw [List.getElem?_eq_getElem hi2] at h1 ⊢
        have := hcell' (k * 7 + i) _ h1
        rw [← Nat.add_assoc] at this
        exact (hbel.cell (p := ⟨b', _, none⟩) hb').trans this
      have e0 := hcc 0 (by omega)
      have g0 := hcc' 0 (by omega)
      have e1 := hcc 1 (by omega)
      have g1 := hcc' 1 (by omega)
      have e2 := hcc 2 (by omega)
      have g2 := hcc' 2 (by omega)
      have e3 := hcc 3 (by omega)
      have g3 := hcc' 3 (by omega)
      have e4 := hcc 4 (by omega)
      have g4 := hcc' 4 (by omega)
      have e5 := hcc 5 (by omega)
      have g5 := hcc' 5 (by omega)
      have e6 := hcc 6 (by omega)
      have g6 := hcc' 6 (by omega)
      simp only [pnC, List.getElem?_cons_zero, List.getElem?_cons_succ, Nat.add_zero] at e0 e1 e2 e3 e4 e5 e6 g0 g1 g2 g3 g4 g5 g6
      have HBel := Lib.hid hbel.drew
      have hlti : (k : Int) < (n : Int) := by omega
      have hbr : b < wr.heap.size := Nat.lt_of_lt_of_le hb hbel.size
      clear hcc hcc' hcell hcell' hx
      go_wp2_with fail
      go_still_tail 48, (by kernel_rfl)
      change wpList _ _ _ _ _ wr.drew
      clear e0 e1 e2 e3 e4 e5 e6 g0 g1 g2 g3 g4 g5 g6
      generalize wr.drew = w3 at *
      go_wp2_with fail
      refine (refEq_any x.k x.n x.s none 0 0 [] x.k x.n x.s none 0 0 [] _ ⟨rfl, fun h => absurd h (by simp)⟩ ⟨rfl, fun h => absurd h (by simp)⟩ (by omega) (by omega)).mono ?_
      rintro e w2 ⟨rfl, hb2⟩
      have hB := sq HBel.out hb2
      clear hb2
      go_wp2_with fail
      go_roundw
      case rel => exact ⟨k + 1, by omega, by go_num, hB⟩
      case measure => simp [intOf]; omega
    · go_wp2_with fail
      go_ret
      exact ⟨rfl, hbel⟩

set_option maxHeartbeats 4000000 in
theorem sameTl_any (A A' : Option Addr) (n n' c c' : Nat) (l : List TL) (w : World) (h : Rd w w.heap.size 7 A n (tlL l)) (h' : Rd w w.heap.size 7 A' n' (tlL l)) (hn : n = l.length) (hn' : n' = l.length) (hl : l.length ≤ 1000000) :
    Calls Try.prog 18 #[.slice A n c, .slice A' n' c'] w fun e w' => e = .returned (.bool true) ∧ Below w.heap.size w w' := by
  subst hn hn'
  have HR := Lib.hid h
  have HR' := Lib.hid h'
  obtain ⟨n, hn⟩ : ∃ n, l.length = n := ⟨_, rfl⟩
  have HN := Lib.hid hn
  rw [hn] at hl ⊢
  clear h h' hn
  go_enter Try.func18, Try.ntmps18
  go_wp2_with fail
  go_loopw [13] (fun i wr => ∃ k : Nat, k ≤ n ∧ i = .int .i64 k ∧ Below w.heap.size w wr) (fun i _ => n - (intOf i).toNat)
  case atStart => exact ⟨0, Nat.zero_le _, rfl, Below.refl _ _⟩
  case round =>
    obtain ⟨k, hk, rfl, hbel⟩ := hrel
    by_cases hlt : k < n
    · obtain ⟨x, hx⟩ : ∃ x, l[k]? = some x := ⟨_, List.getElem?_eq_getElem (by rw [HN.out]; exact hlt)⟩
      obtain ⟨b, off, rfl, hb, hcell⟩ := HR.out.2 (by rw [HN.out]; omega)
      obtain ⟨b', off', rfl, hb', hcell'⟩ := HR'.out.2 (by rw [HN.out]; omega)
      have hcc : ∀ i, i < 7 → wr.cell? ⟨b, off + k * 7 + i, none⟩ = (tlC x)[i]? := fun i hi => by
        have h1 : (tlL l)[k * 7 + i]? = (tlC x)[i]? := tlL_get hx hi
        have hi2 : i < (tlC x).length := hi
        rw [List.getElem?_eq_getElem hi2] at h1 ⊢
        have := hcell (k * 7 + i) _ h1
        rw [← Nat.add_assoc] at this
        exact (hbel.cell (p := ⟨b, _, none⟩) hb).trans this
      have hcc' : ∀ i, i < 7 → wr.cell? ⟨b', off' + k * 7 + i, none⟩ = (tlC x)[i]? := fun i hi => by
        have h1 : (tlL l)[k * 7 + i]? = (tlC x)[i]? := tlL_get hx hi
        have hi2 : i < (tlC x).length := hi
        rw [List.getElem?_eq_getElem hi2] at h1 ⊢
        have := hcell' (k * 7 + i) _ h1
        rw [← Nat.add_assoc] at this
        exact (hbel.cell (p := ⟨b', _, none⟩) hb').trans this
      have e0 := hcc 0 (by omega)
      have g0 := hcc' 0 (by omega)
      have e1 := hcc 1 (by omega)
      have g1 := hcc' 1 (by omega)
      have e2 := hcc 2 (by omega)
      have g2 := hcc' 2 (by omega)
      have e3 := hcc 3 (by omega)
      have g3 := hcc' 3 (by omega)
      have e4 := hcc 4 (by omega)
      have g4 := hcc' 4 (by omega)
      have e5 := hcc 5 (by omega)
      have g5 := hcc' 5 (by omega)
      have e6 := hcc 6 (by omega)
      have g6 := hcc' 6 (by omega)
      simp only [tlC, List.getElem?_cons_zero, List.getElem?_cons_succ, Nat.add_zero] at e0 e1 e2 e3 e4 e5 e6 g0 g1 g2 g3 g4 g5 g6
      have HBel := Lib.hid hbel.drew
      have hlti : (k : Int) < (n : Int) := by omega
      have hbr : b < wr.heap.size := Nat.lt_of_lt_of_le hb hbel.size
      clear hcc hcc' hcell hcell' hx
      go_wp2_with fail
      go_still_tail 48, (by kernel_rfl)
      change wpList _ _ _ _ _ wr.drew
      clear e0 e1 e2 e3 e4 e5 e6 g0 g1 g2 g3 g4 g5 g6
      generalize wr.drew = w3 at *
      go_wp2_with fail
      refine (refEq_any x.k x.vn x.s none 0 0 [] x.k x.vn x.s none 0 0 [] _ ⟨rfl, fun h => absurd h (by simp)⟩ ⟨rfl, fun h => absurd h (by simp)⟩ (by omega) (by omega)).mono ?_
      rintro e w2 ⟨rfl, hb2⟩
      have hB := sq HBel.out hb2
      clear hb2
      go_wp2_with fail
      go_roundw
      case rel => exact ⟨k + 1, by omega, by go_num, hB⟩
      case measure => simp [intOf]; omega
    · go_wp2_with fail
      go_ret
      exact ⟨rfl, hbel⟩

end Go.Proofs.Ytapofohbngkekaa
