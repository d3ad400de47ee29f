/- The cutter's 'text'. Conditions: none. -/
import Derived.Test.YtgjhjojbaieeaaaScQ
set_option maxRecDepth 20000
namespace Go.Proofs.Ytgjhjojbaieeaaa
open Go.ChangeShapes Go.WideShapes Go.ChangeAt Go.RowKit
def textR (src : ByteArray) (p : Nat) (T : List Tk) : Except Int (Nat × List Tk) :=
  if textLen (src.data.toList.drop p) = 0 then .error 4 else putR src p (textLen (src.data.toList.drop p)) T 3
theorem text_rest {src : ByteArray} {p : Nat} (hp : p < src.size) (h : src[p] = 34) : src.data.toList.drop p = 34 :: src.data.toList.drop (p + 1) := by rw [byl_drop src p hp, h]
theorem neq_c {c d : UInt8} (h : c ≠ d) : (((c.toNat : Int) != (d.toNat : Int)) = true) := by
  simp only [bne_iff_ne, ne_eq, Int.natCast_inj]
  exact fun e => h (UInt8.toNat_inj.1 e)
theorem eq_c {c d : UInt8} (h : c ≠ d) : (((c.toNat : Int) == (d.toNat : Int)) = false) := by
  simp only [beq_eq_false_iff_ne, ne_eq, Int.natCast_inj]
  exact fun e => h (UInt8.toNat_inj.1 e)
set_option maxHeartbeats 2000000 in
theorem text_any (g : Nat) (src : ByteArray) (p : Nat) (T : List Tk) (w : World) (hcu : CuS w g src p T) (hT : T.length ≤ 2000) (hsz : src.size ≤ 8000) (hp : p < src.size) (h34 : src[p] = 34) :
    Calls Try.prog 104 #[.pointer (some ⟨g, 0, none⟩)] w (MP g src p w (textR src p T)) := by
  have HC := Lib.hid hcu
  have HT := Lib.hid hT
  have HRs := Lib.hid (text_rest hp h34)
  obtain ⟨A, C, hcu⟩ := hcu
  have c0 := hcu.c0
  have c1 := hcu.c1
  have c2 := hcu.c2
  have c3 := hcu.c3
  have hgl : g < w.heap.size := World.block_lt_of_cell? w ⟨g, 0, none⟩ c0
  clear hcu hT h34
  go_enter Try.func104, Try.ntmps104
  go_wp2_with fail
  go_loop [2] (fun n => ∃ (j i : Nat), n = .int .i64 (j : Int) ∧ Hid (j = p + 1 + i) ∧ p + 1 ≤ j ∧ j ≤ src.size + 1 ∧ Hid (qAt (src.data.toList.drop (p + 1)) i)) (fun n => src.size + 2 - (intOf n).toNat)
  case atStart => exact ⟨p + 1, 0, by go_num, Lib.hid rfl, Nat.le_refl _, by omega, Lib.hid (qAt.start _)⟩
  case round =>
    obtain ⟨j, i, rfl, hj, hpj, hjs, HI⟩ := hrel
    by_cases hlt : j < src.size
    · have hg := src_get src (p + 1) i j hj.out hlt
      have HG := Lib.hid hg
      clear hg
      generalize hcc : src[j] = cc at *
      by_cases h1 : cc = 34
      · have hQ := HI.out.close (by rw [HG.out, h1])
        have hk : i < (src.data.toList.drop (p + 1)).length := by rw [drop_len]; have := hj.out; omega
        have hY := text_yes hQ hk
        rw [← HRs.out] at hY
        obtain ⟨s, hs⟩ : ∃ s, src.extract p (j + 1) = s := ⟨_, rfl⟩
        have hse : s = ⟨((src.data.toList.drop p).take (i + 2)).toArray⟩ := by rw [← hs, show j + 1 = p + (i + 2) by have := hj.out; omega]; exact ext_take src p (i + 2)
        have hsl : s.data.toList = 34 :: (src.data.toList.drop (p + 1)).take (i + 1) := by rw [hse, HRs.out]; rfl
        have hss : s.size = i + 2 := by rw [← hs, ByteArray.size_extract]; have := hj.out; omega
        have hpj2 : (p : Int) ≤ (j : Int) + 1 := by omega
        have hjs2 : (j : Int) + 1 ≤ (src.size : Int) := by omega
        have e1 : (((cc.toNat : Int)) != 34) = false := by rw [h1]; rfl
        have HSE := Lib.hid hse
        have HSL := Lib.hid hsl
        have HY := Lib.hid hY
        have hip : i + 2 ≤ 8000 := by have := hj.out; omega
        clear hse hsl hY hQ hk
        go_wp2_with fail
        go_quiet (fail)
        go_wp2_with fail
        refine (scanUnquote_any s (by omega) _).mono ?_
        rintro e w2 ⟨rfl, hb2⟩
        have HB2 := Lib.hid (sq (dr (Below.refl _ _) _) hb2)
        have d2 := (HB2.out.cell (p := ⟨g, 2, none⟩) hgl).trans c2
        have d3 := (HB2.out.cell (p := ⟨g, 3, none⟩) hgl).trans c3
        clear hb2
        cases hu : unq s.data.toList with
        | none =>
          rw [unqV_none hu]
          have HR := Lib.hid (show textR src p T = .error 4 by unfold textR; rw [HY.out.1 (by rw [← HSL.out]; exact hu), if_pos rfl])
          go_wp2_with fail
          refine (fail_any g _ _ 4 _ d2 d3).mono ?_
          rintro e w3 ⟨rfl, m, rfl⟩
          unfold stopE
          go_wp2_with fail
          rw [HR.out]
          exact ⟨rfl, rfl, dr (HB2.out.mono (Nat.le_of_lt hgl)) _⟩
        | some q =>
          rw [unqV_some hu]
          have hY2 := HY.out.2 q (by rw [← HSL.out]; exact hu)
          have HR2 := Lib.hid (show textR src p T = putR src p (i + 2) T 3 by unfold textR; rw [hY2.1, if_neg (by omega)])
          have HPl := Lib.hid (show place (src.data.toList.take (p + (i + 2))) = ((place (src.data.toList.take p)).1, (place (src.data.toList.take p)).2 + (i + 2)) from place_step (by rw [drop_len]; have := hj.out; omega) (by rw [HRs.out]; exact hY2.2))
          have hz : ((i : Int) + 2) = ((i + 2 : Nat) : Int) := by omega
          have HZ := Lib.hid hz
          clear hY2 hz
          go_wp2_with fail
          refine (putS g src p (i + 2) 3 ((src.data.toList.drop p).take (i + 2)) s _ T _ HSE.out HZ.out (HC.out.below HB2.out) HT.out hsz (by omega) hip HPl.out).mono ?_
          intro e w3 hmp
          rcases hmp.cases with ⟨rfl, x, hx, hc3, hb3⟩ | ⟨cd, hx, rfl, hb3⟩
          · have H3 := Lib.hid (And.intro hc3 hb3)
            clear hc3 hb3 hmp
            go_wp2_with fail
            go_end0
            rw [HR2.out]
            unfold putR
            rw [hx]
            exact ⟨rfl, H3.out.1, (HB2.out.mono (Nat.le_of_lt hgl)).trans H3.out.2⟩
          · unfold stopE
            go_wp2_with fail
            rw [HR2.out]
            unfold putR
            rw [hx]
            exact ⟨rfl, rfl, (HB2.out.mono (Nat.le_of_lt hgl)).trans hb3⟩
      · by_cases h2 : cc = 10
        · have HR := Lib.hid (show textR src p T = .error 4 by unfold textR; rw [HRs.out, text_no (HI.out.nl (by rw [HG.out, h2])), if_pos rfl])
          have e1 : (((cc.toNat : Int)) != 34) = true := by rw [h2]; rfl
          have e2 : (((cc.toNat : Int)) != 10) = false := by rw [h2]; rfl
          go_wp2_with fail
          refine (fail_any g _ _ 4 _ c2 c3).mono ?_
          rintro e w3 ⟨rfl, m, rfl⟩
          unfold stopE
          go_wp2_with fail
          rw [HR.out]
          exact ⟨rfl, rfl, dr (Below.refl _ _) _⟩
        · have n1 := neq_c (d := 34) h1
          have n2 := neq_c (d := 10) h2
          rw [show ((34 : UInt8).toNat : Int) = 34 from rfl] at n1
          rw [show ((10 : UInt8).toNat : Int) = 10 from rfl] at n2
          by_cases h3 : cc = 92
          · have HI2 := Lib.hid (HI.out.esc (by rw [HG.out, h3]))
            have e3 : (((cc.toNat : Int)) == 92) = true := by rw [h3]; rfl
            go_wp2
            go_round
            case rel => exact ⟨j + 2, i + 2, by go_num, Lib.hid (by have := hj.out; omega), by omega, by omega, HI2⟩
            case measure => simp [intOf]; omega
          · have HI2 := Lib.hid (HI.out.plain HG.out h1 h2 h3)
            have e3 := eq_c (d := 92) h3
            rw [show ((92 : UInt8).toNat : Int) = 92 from rfl] at e3
            go_wp2
            go_round
            case rel => exact ⟨j + 1, i + 1, by go_num, Lib.hid (by have := hj.out; omega), by omega, by omega, HI2⟩
            case measure => simp [intOf]; omega
    · have HR := Lib.hid (show textR src p T = .error 4 by unfold textR; rw [HRs.out, text_no (HI.out.over (by rw [drop_len]; have := hj.out; omega)), if_pos rfl])
      go_wp2_with fail
      refine (fail_any g _ _ 4 _ c2 c3).mono ?_
      rintro e w3 ⟨rfl, m, rfl⟩
      unfold stopE
      go_wp2_with fail
      rw [HR.out]
      exact ⟨rfl, rfl, dr (Below.refl _ _) _⟩
end Go.Proofs.Ytgjhjojbaieeaaa
