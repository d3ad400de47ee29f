/- The document's SamePanics answers true of lists that say the same. Conditions: the bulk. -/
import Derived.Test.YtdpgcojgnehnpaaEqual
import Derived.Test.YtdpgcojgnehnpaaCrashP
import Derived.Test.YtdpgcojgnehnpaaOwn
import Derived.StillTailTactics
set_option maxRecDepth 20000
namespace Go.Proofs.Ytdpgcojgnehnpaa
open Go.ChangeShapes Go.WideShapes Go.ChangeAt Go.RowKit
set_option maxHeartbeats 4000000 in
theorem samePanics_same (A A' : Option Addr) (n n' c c' : Nat) (l : List PP) (w : World) (h : (Shp.slice PP.sh).rd w (· < w.heap.size) [.slice A n c] l) (h' : (Shp.slice PP.sh).rd w (· < w.heap.size) [.slice A' n' c'] l) (hf : (l.map PP.bulk).sum ≤ 1048576) :
    Calls Try.prog 32 #[.slice A n c, .slice A' n' c'] w fun e w' => e = .returned (.bool true) ∧ Below w.heap.size w w' := by
  have hll := len_le_sum l
  obtain ⟨_, _, ess, he, hlc, hcm, hA, hr, hall⟩ := h
  simp at he
  obtain ⟨rfl, rfl, rfl⟩ := he
  obtain ⟨_, _, ess', he', hlc', hcm', hA', hr', hall'⟩ := h'
  simp at he'
  obtain ⟨rfl, rfl, rfl⟩ := he'
  have HB := Lib.hid (fun p (hp : p ∈ l) => Nat.le_trans (bulk_le hp) hf)
  have hl2 : l.length ≤ 1048576 := by omega
  clear hf hll
  go_enter Try.func32, Try.ntmps32
  go_wp2_with fail
  go_loopw [13] (fun i wr => ∃ k : Nat, k ≤ l.length ∧ i = .int .i64 k ∧ Below w.heap.size w wr) (fun i _ => l.length - (intOf i).toNat)
  case atStart => exact ⟨0, Nat.zero_le _, rfl, Below.refl _ _⟩
  case round =>
    obtain ⟨k, hk, rfl, hbel⟩ := hrel
    by_cases hlt : k < l.length
    · obtain ⟨b, off, cs, x, rfl, hb, hx, hrd, hcell⟩ := Shp.elem hr hall hlt rfl
      obtain ⟨b', off', cs', x', rfl, hb', hx', hrd', hcell'⟩ := Shp.elem hr' hall' hlt rfl
      obtain rfl : x = x' := by rw [hx] at hx'; injection hx'
      obtain ⟨A2, c2, rfl, hser, hv⟩ := PP.elim hrd
      obtain ⟨A3, c3, rfl, _, hv'⟩ := PP.elim hrd'
      have e0 := hcell 0 _ rfl
      have e1 := hcell 1 _ rfl
      have e2 := hcell 2 _ rfl
      have e3 := hcell 3 _ rfl
      have e4 := hcell 4 _ rfl
      have e5 := hcell 5 _ rfl
      have e6 := hcell 6 _ rfl
      have g0 := hcell' 0 _ rfl
      have g1 := hcell' 1 _ rfl
      have g2 := hcell' 2 _ rfl
      have g3 := hcell' 3 _ rfl
      have g4 := hcell' 4 _ rfl
      have g5 := hcell' 5 _ rfl
      have g6 := hcell' 6 _ rfl
      rw [← hbel.cell (p := ⟨b, _, none⟩) hb] at e0 e1 e2 e3 e4 e5 e6
      rw [← hbel.cell (p := ⟨b', _, none⟩) hb'] at g0 g1 g2 g3 g4 g5 g6
      have hsz7 : PP.sh.size = 7 := rfl
      rw [hsz7] at e0 e1 e2 e3 e4 e5 e6 g0 g1 g2 g3 g4 g5 g6
      simp only [Nat.add_zero] at e0 g0
      have HBx := Lib.hid (HB.out x (List.mem_of_getElem? hx))
      clear hsz7 hcell hcell' hx hx' hrd hrd' hA hA' hr hall hr' hall'
      obtain ⟨_, _, ee, hra, _, _, _, _, _, _⟩ := VV.elim hv
      obtain ⟨_, _, ee', hra', _, _, _, _, _, _⟩ := VV.elim hv'
      simp at ee ee'
      obtain ⟨rfl, rfl⟩ := ee
      obtain ⟨rfl, rfl⟩ := ee'
      have HR := Lib.hid (And.intro hra hra')
      have hxl : x.v.l.length ≤ 1048576 := by have := HBx.out; unfold VV.bulk at this; omega
      have HBel := Lib.hid hbel.drew
      clear hv hv' hra hra' hser
      go_wp2_with fail
      go_still_tail 48, (by kernel_rfl)
      change wpList _ _ _ _ _ wr.drew
      clear e0 e1 e2 e3 e4 e5 e6 g0 g1 g2 g3 g4 g5 g6
      generalize wr.drew = w3 at *
      go_wp2_with fail
      refine (refEq_any x.v.k x.v.n x.v.s A2 _ c2 x.v.l x.v.k x.v.n x.v.s A3 _ c3 x.v.l _ ((HR.out.1.rd (fun _ h => h)).into (Nat.le_refl _) HBel.out) ((HR.out.2.rd (fun _ h => h)).into (Nat.le_refl _) HBel.out) (by omega) (by omega)).mono ?_
      rintro e w2 ⟨rfl, hb2⟩
      have hB := sq HBel.out hb2
      clear hb2
      go_wp2_with fail
      go_roundw
      case rel => exact ⟨k + 1, by omega, by go_num, hB⟩
      case measure => simp [intOf]; omega
    · go_wp2_with fail
      go_ret
      exact ⟨rfl, hbel⟩
end Go.Proofs.Ytdpgcojgnehnpaa
