/- The document's Crash: what it answers. Conditions: the bulk. -/
import Derived.Test.YtdpgcojgnehnpaaCrash
set_option maxRecDepth 20000
namespace Go.Proofs.Ytdpgcojgnehnpaa
open Go.ChangeShapes Go.WideShapes Go.ChangeAt Go.RowKit
set_option maxHeartbeats 4000000 in
theorem refCrash_any (A : Option Addr) (n c : Nat) (l : List PP) (w : World) (h : (Shp.slice PP.sh).rd w (· < w.heap.size) [.slice A n c] l) (hb : (l.map PP.bulk).sum ≤ 1048576) :
    Calls Try.prog 84 #[.slice A n c] w fun e w' => e = .returned (.string ⟨(crashB 0 l).toArray⟩) ∧ Below w.heap.size w w' := by
  have HRg := Lib.hid (pp_range h)
  have hll := len_le_sum l
  obtain ⟨_, _, ess, he, hlc, hcm, hA, hr, hall⟩ := h
  simp at he
  obtain ⟨rfl, rfl, rfl⟩ := he
  have HB := Lib.hid (fun p (hp : p ∈ l) => Nat.le_trans (bulk_le hp) hb)
  have HSum := Lib.hid hb
  have hl2 : l.length ≤ 1048576 := by omega
  clear hb hll
  go_enter Try.func84, Try.ntmps84
  go_wp2_with fail
  go_loopw [3, 8] (fun s i wr => ∃ (k : Nat) (T : ByteArray), k ≤ l.length ∧ s = .string T ∧ i = .int .i64 k ∧ T = ⟨(crashB 0 (l.take k)).toArray⟩ ∧ Below w.heap.size w wr) (fun _ i _ => l.length - (intOf i).toNat)
  case atStart =>
    exact ⟨0, _, Nat.zero_le _, rfl, rfl, rfl, Below.refl _ _⟩
  case round =>
    obtain ⟨k, T, hk, rfl, rfl, hT, hbel⟩ := hrel
    have hcl := crash_len (l.take k) 0 (fun p hp => HRg.out p (List.mem_of_mem_take hp))
    have hst := sum_take_le l k
    have hTs : T.size ≤ 45088768 := by
      rw [hT, mk_size]
      have := HSum.out
      omega
    have HT := Lib.hid hT
    clear hcl hst hT
    by_cases hlt : k < l.length
    · obtain ⟨b, off, cs, x, rfl, hb, hx, hrd, hcell⟩ := Shp.elem hr hall hlt rfl
      obtain ⟨A2, c2, rfl, hser, hv⟩ := PP.elim hrd
      have e0 := hcell 0 _ rfl
      have e1 := hcell 1 _ rfl
      have e2 := hcell 2 _ rfl
      have e3 := hcell 3 _ rfl
      have e4 := hcell 4 _ rfl
      have e5 := hcell 5 _ rfl
      have e6 := hcell 6 _ rfl
      rw [← hbel.cell (p := ⟨b, _, none⟩) hb] at e0 e1 e2 e3 e4 e5 e6
      have hsz7 : PP.sh.size = 7 := rfl
      rw [hsz7] at e0 e1 e2 e3 e4 e5 e6
      simp only [Nat.add_zero] at e0
      have HX := Lib.hid hx
      have HBx := Lib.hid (HB.out x (List.mem_of_getElem? HX.out))
      have HNn := Lib.hid (HRg.out x (List.mem_of_getElem? HX.out))
      have hts := textS_len x.v HNn.out
      have hts2 : (textS x.v).size ≤ 23068672 := by have := HBx.out; omega
      clear hsz7 hcell hx hser hrd hv hts hA hr hall
      cases hrc : x.rcv
      · rw [hrc] at e5
        by_cases h0 : k = 0
        · have h0p : ¬ 0 < k := by omega
          have H0 := Lib.hid h0
          clear h0
          go_wp2_with fail
          refine (refPanicText_any x.v A2 c2 _ HNn.out HBx.out).mono ?_
          rintro e w2 ⟨rfl, hb2⟩
          have d5 := hb2.cell (p := ⟨wr.heap.size, 5, none⟩) (by simp)
          simp at d5
          have hbW := below_more (below_more hbel (al _)) hb2
          clear hb2
          go_wp2_with fail
          refine ⟨⟨k + 1, _, by omega, rfl, by go_num, ?_, hbW⟩, by simp [intOf]; omega⟩
          rw [crashB_take HX.out, HT.out]
          apply ba_ext
          simp [lineB, hrc, H0.out]
        · have h0q : 0 < k := by omega
          go_wp2_with fail
          refine (refPanicText_any x.v A2 c2 _ HNn.out HBx.out).mono ?_
          rintro e w2 ⟨rfl, hb2⟩
          have d5 := hb2.cell (p := ⟨wr.heap.size, 5, none⟩) (by simp)
          simp at d5
          have hbW := below_more (below_more hbel (al _)) hb2
          clear hb2
          go_wp2_with fail
          refine ⟨⟨k + 1, _, by omega, rfl, by go_num, ?_, hbW⟩, by simp [intOf]; omega⟩
          rw [crashB_take HX.out, HT.out]
          apply ba_ext
          simp [lineB, hrc, h0q]
      · rw [hrc] at e5
        by_cases h0 : k = 0
        · have h0p : ¬ 0 < k := by omega
          have H0 := Lib.hid h0
          clear h0
          go_wp2_with fail
          refine (refPanicText_any x.v A2 c2 _ HNn.out HBx.out).mono ?_
          rintro e w2 ⟨rfl, hb2⟩
          have d5 := hb2.cell (p := ⟨wr.heap.size, 5, none⟩) (by simp)
          simp at d5
          have hbW := below_more (below_more hbel (al _)) hb2
          clear hb2
          go_wp2_with fail
          refine ⟨⟨k + 1, _, by omega, rfl, by go_num, ?_, hbW⟩, by simp [intOf]; omega⟩
          rw [crashB_take HX.out, HT.out]
          apply ba_ext
          simp [lineB, hrc, H0.out]
        · have h0q : 0 < k := by omega
          go_wp2_with fail
          refine (refPanicText_any x.v A2 c2 _ HNn.out HBx.out).mono ?_
          rintro e w2 ⟨rfl, hb2⟩
          have d5 := hb2.cell (p := ⟨wr.heap.size, 5, none⟩) (by simp)
          simp at d5
          have hbW := below_more (below_more hbel (al _)) hb2
          clear hb2
          go_wp2_with fail
          refine ⟨⟨k + 1, _, by omega, rfl, by go_num, ?_, hbW⟩, by simp [intOf]; omega⟩
          rw [crashB_take HX.out, HT.out]
          apply ba_ext
          simp [lineB, hrc, h0q]
    · have hkl : k = l.length := by omega
      have HE := Lib.hid (show T = ⟨(crashB 0 l).toArray⟩ by rw [HT.out, hkl, List.take_of_length_le (Nat.le_refl _)])
      clear hkl
      go_wp2_with fail
      go_ret
      exact ⟨by rw [← HE.out]; rfl, hbel⟩
theorem one_crash : (⟨(crashB 0 [onePP]).toArray⟩ : ByteArray) = ⟨#[112, 97, 110, 105, 99, 58, 32, 49, 10]⟩ := by
  have h1 : decS 1 = ⟨#[49]⟩ := by rw [decS, decL, if_neg (by omega), show Int.natAbs 1 = 1 from rfl, dd_lt (by omega)]; rfl
  have h2 : textS onePP.v = ⟨#[49]⟩ := (textS_1 rfl).trans h1
  have h3 : onePP.rcv = false := rfl
  simp [crashB, lineB, h2, h3]
end Go.Proofs.Ytdpgcojgnehnpaa
