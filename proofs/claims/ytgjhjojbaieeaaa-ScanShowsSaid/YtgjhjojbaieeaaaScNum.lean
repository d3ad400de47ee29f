/- The cutter's 'number'. Conditions: none. -/
import Derived.Test.YtgjhjojbaieeaaaScName
set_option maxRecDepth 20000
namespace Go.Proofs.Ytgjhjojbaieeaaa
open Go.ChangeShapes Go.WideShapes Go.ChangeAt Go.RowKit
def numR (src : ByteArray) (p : Nat) (T : List Tk) : Except Int (Nat × List Tk) :=
  if (rd (((src.data.toList.drop p).take (alen (src.data.toList.drop p))).map UInt8.toNat)).isNone = true then .error 3 else putR src p (alen (src.data.toList.drop p)) T 2
set_option maxHeartbeats 2000000 in
theorem number_any (g : Nat) (src : ByteArray) (p : Nat) (T : List Tk) (w : World) (hcu : CuS w g src p T) (hT : T.length ≤ 2000) (hsz : src.size ≤ 8000) (hp : p < src.size) :
    Calls Try.prog 103 #[.pointer (some ⟨g, 0, none⟩)] w (MP g src p w (numR src p T)) := by
  have HC := Lib.hid hcu
  have HT := Lib.hid hT
  obtain ⟨A, C, hcu⟩ := hcu
  have c0 := hcu.c0
  have hgl : g < w.heap.size := World.block_lt_of_cell? w ⟨g, 0, none⟩ c0
  have c1 := hcu.c1
  have c2 := hcu.c2
  have c3 := hcu.c3
  clear hcu hT
  go_enter Try.func103, Try.ntmps103
  go_wp2_with fail
  go_loop [2] (fun n => ∃ (j i : Nat), n = .int .i64 (j : Int) ∧ Hid (j = p + i) ∧ p ≤ j ∧ j ≤ src.size ∧ Hid (i ≤ alen (src.data.toList.drop p))) (fun n => src.size - (intOf n).toNat)
  case atStart => exact ⟨p, 0, rfl, rfl, Nat.le_refl _, by omega, Lib.hid (Nat.zero_le _)⟩
  case round =>
    obtain ⟨j, i, rfl, hj, hpj, hjs, HI⟩ := hrel
    by_cases hlt : j < src.size
    · have hg := src_get src p i j hj.out hlt
      have HG := Lib.hid hg
      clear hg
      generalize hcc : src[j] = cc at *
      cases hL : isL cc with
      | true =>
        have HI2 := Lib.hid (tw_step (P := isA) HI.out HG.out (by unfold isA; rw [hL]; rfl))
        go_wp2_with (go_at_call 100; refine (letter_any cc _).mono ?_; rintro e w1 ⟨rfl, rfl⟩; rw [hL])
        go_round
        case rel => exact ⟨j + 1, i + 1, by go_num, Lib.hid (by have := hj.out; omega), by omega, by omega, HI2⟩
        case measure => simp [intOf]; omega
      | false =>
        cases hD : isD cc with
        | true =>
          have HI2 := Lib.hid (tw_step (P := isA) HI.out HG.out (by unfold isA; rw [hD]; simp))
          go_wp2_with (first
            | (go_at_call 100; refine (letter_any cc _).mono ?_; rintro e w1 ⟨rfl, rfl⟩; rw [hL])
            | (go_at_call 102; refine (digit_any cc _).mono ?_; rintro e w1 ⟨rfl, rfl⟩; rw [hD]))
          go_round
          case rel => exact ⟨j + 1, i + 1, by go_num, Lib.hid (by have := hj.out; omega), by omega, by omega, HI2⟩
          case measure => simp [intOf]; omega
        | false =>
          have HE := Lib.hid (show alen (src.data.toList.drop p) = i from Nat.le_antisymm (tw_stop HG.out (by unfold isA; rw [hL, hD]; rfl)) HI.out)
          go_wp2_with (first
            | (go_at_call 100; refine (letter_any cc _).mono ?_; rintro e w1 ⟨rfl, rfl⟩; rw [hL])
            | (go_at_call 102; refine (digit_any cc _).mono ?_; rintro e w1 ⟨rfl, rfl⟩; rw [hD]))
          obtain ⟨s, hs⟩ : ∃ s, src.extract p j = s := ⟨_, rfl⟩
          have hse : s = ⟨((src.data.toList.drop p).take i).toArray⟩ := by rw [← hs, hj.out]; exact ext_take src p i
          have hss : s.size = i := by rw [← hs, ByteArray.size_extract]; have := hj.out; omega
          have hpj2 : (p : Int) ≤ (j : Int) := by omega
          have hjs2 : (j : Int) ≤ (src.size : Int) := by omega
          have HSE := Lib.hid hse
          have hby : byt s = ((src.data.toList.drop p).take i).map UInt8.toNat := by rw [hse]; rfl
          have HR := Lib.hid (show numR src p T = if (rd (byt s)).isNone = true then .error 3 else putR src p i T 2 by unfold numR; rw [HE.out, hby])
          have hip : i ≤ 8000 := by have := hj.out; omega
          have HPl := Lib.hid (show place (src.data.toList.take (p + i)) = ((place (src.data.toList.take p)).1, (place (src.data.toList.take p)).2 + i) by rw [← HE.out]; exact alen_place)
          clear hse hby
          go_quiet (fail)
          go_wp2_with fail
          refine (wordRead_any s _).mono ?_
          rintro e w2 ⟨rfl, hb2⟩
          have HB2 := Lib.hid (sq (dr (Below.refl _ _) _) hb2)
          have d2 := (HB2.out.cell (p := ⟨g, 2, none⟩) hgl).trans c2
          have d3 := (HB2.out.cell (p := ⟨g, 3, none⟩) hgl).trans c3
          clear hb2
          cases hrd : rd (byt s) with
          | none =>
            rw [readV_none hrd]
            rw [hrd] at HR
            go_wp2_with fail
            refine (fail_any g _ _ 3 _ d2 d3).mono ?_
            rintro e w3 ⟨rfl, m, rfl⟩
            unfold stopE
            go_wp2_with fail
            rw [HR.out]
            exact ⟨rfl, rfl, dr (HB2.out.mono (Nat.le_of_lt hgl)) _⟩
          | some z =>
            rw [readV_some hrd]
            rw [hrd] at HR
            have HR2 := Lib.hid (show numR src p T = putR src p i T 2 by rw [HR.out]; rfl)
            clear HR
            go_wp2_with fail
            refine (putS g src p i 2 ((src.data.toList.drop p).take i) s (i : Int) T _ HSE.out rfl (HC.out.below HB2.out) HT.out hsz (by omega) hip HPl.out).mono ?_
            intro e w3 hmp
            rcases hmp.cases with ⟨rfl, x, hx, hc3, hb3⟩ | ⟨cd, hx, rfl, hb3⟩
            · have H3 := Lib.hid (And.intro hc3 hb3)
              clear hc3 hb3 hmp
              go_wp2_with fail
              go_end0
              rw [HR2.out]
              unfold putR
              rw [hx]
              exact ⟨rfl, H3.out.1, (HB2.out.mono (Nat.le_of_lt hgl)).trans H3.out.2⟩
            · unfold stopE
              go_wp2_with fail
              rw [HR2.out]
              unfold putR
              rw [hx]
              exact ⟨rfl, rfl, (HB2.out.mono (Nat.le_of_lt hgl)).trans hb3⟩
    · have HE := Lib.hid (show alen (src.data.toList.drop p) = i from Nat.le_antisymm (by have h := tw_len isA (src.data.toList.drop p); rw [drop_len] at h; unfold alen; have := hj.out; omega) HI.out)
      go_wp2_with fail
      obtain ⟨s, hs⟩ : ∃ s, src.extract p j = s := ⟨_, rfl⟩
      have hse : s = ⟨((src.data.toList.drop p).take i).toArray⟩ := by rw [← hs, hj.out]; exact ext_take src p i
      have hss : s.size = i := by rw [← hs, ByteArray.size_extract]; have := hj.out; omega
      have hpj2 : (p : Int) ≤ (j : Int) := by omega
      have hjs2 : (j : Int) ≤ (src.size : Int) := by omega
      have HSE := Lib.hid hse
      have hby : byt s = ((src.data.toList.drop p).take i).map UInt8.toNat := by rw [hse]; rfl
      have HR := Lib.hid (show numR src p T = if (rd (byt s)).isNone = true then .error 3 else putR src p i T 2 by unfold numR; rw [HE.out, hby])
      have hip : i ≤ 8000 := by have := hj.out; omega
      have HPl := Lib.hid (show place (src.data.toList.take (p + i)) = ((place (src.data.toList.take p)).1, (place (src.data.toList.take p)).2 + i) by rw [← HE.out]; exact alen_place)
      clear hse hby
      go_quiet (fail)
      go_wp2_with fail
      refine (wordRead_any s _).mono ?_
      rintro e w2 ⟨rfl, hb2⟩
      have HB2 := Lib.hid (sq (dr (Below.refl _ _) _) hb2)
      have d2 := (HB2.out.cell (p := ⟨g, 2, none⟩) hgl).trans c2
      have d3 := (HB2.out.cell (p := ⟨g, 3, none⟩) hgl).trans c3
      clear hb2
      cases hrd : rd (byt s) with
      | none =>
        rw [readV_none hrd]
        rw [hrd] at HR
        go_wp2_with fail
        refine (fail_any g _ _ 3 _ d2 d3).mono ?_
        rintro e w3 ⟨rfl, m, rfl⟩
        unfold stopE
        go_wp2_with fail
        rw [HR.out]
        exact ⟨rfl, rfl, dr (HB2.out.mono (Nat.le_of_lt hgl)) _⟩
      | some z =>
        rw [readV_some hrd]
        rw [hrd] at HR
        have HR2 := Lib.hid (show numR src p T = putR src p i T 2 by rw [HR.out]; rfl)
        clear HR
        go_wp2_with fail
        refine (putS g src p i 2 ((src.data.toList.drop p).take i) s (i : Int) T _ HSE.out rfl (HC.out.below HB2.out) HT.out hsz (by omega) hip HPl.out).mono ?_
        intro e w3 hmp
        rcases hmp.cases with ⟨rfl, x, hx, hc3, hb3⟩ | ⟨cd, hx, rfl, hb3⟩
        · have H3 := Lib.hid (And.intro hc3 hb3)
          clear hc3 hb3 hmp
          go_wp2_with fail
          go_end0
          rw [HR2.out]
          unfold putR
          rw [hx]
          exact ⟨rfl, H3.out.1, (HB2.out.mono (Nat.le_of_lt hgl)).trans H3.out.2⟩
        · unfold stopE
          go_wp2_with fail
          rw [HR2.out]
          unfold putR
          rw [hx]
          exact ⟨rfl, rfl, (HB2.out.mono (Nat.le_of_lt hgl)).trans hb3⟩
end Go.Proofs.Ytgjhjojbaieeaaa
