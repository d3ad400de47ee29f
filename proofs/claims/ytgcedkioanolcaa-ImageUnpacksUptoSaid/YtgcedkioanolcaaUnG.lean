/- 'image.Unpack', walked. Conditions: the bytes are few. -/
import Derived.Test.YtgcedkioanolcaaUnF
import Derived.Test.YtgcedkioanolcaaUnP
import Derived.Test.YtgcedkioanolcaaUnQ
set_option maxRecDepth 100000
namespace Go.Proofs.Ytgcedkioanolcaa
open Go.ChangeShapes Go.WideShapes Go.ChangeAt Go.RowKit
theorem or_low8 (y x : Nat) (h : x < 256) : y * 256 ||| x = y * 256 + x := by
  have := Nat.two_pow_add_eq_or_of_lt (i := 8) (by simpa using h) y
  rw [show (2:Nat)^8 = 256 from rfl] at this
  rw [Nat.mul_comm y, ← this]
theorem acc_or (y x : Nat) (hy : y < 36028797018963968) (hx : x < 256) : bits .or .i64 ((y : Int) * 256) (x : Int) = ((y * 256 + x : Nat) : Int) := by
  have := or_nat (y * 256) x (by omega) (by omega)
  rw [or_low8 y x (by omega)] at this
  simpa using this
set_option maxHeartbeats 4000000 in
theorem unpack_any (A : Option Addr) (n c : Nat) (L : List Int) (w : World) (h : Rd w w.heap.size 1 A n (L.map (Value.int .u8))) (hz : U8s L) (hn : n ≤ 1048576) (hl : L.length = n) (hc : n ≤ c) :
    Calls Try.prog 25 #[.slice A n c] w (UnPost (unpackV L) w) := by
  have HR := Lib.hid h
  have HZ := Lib.hid hz
  have HL := Lib.hid hl
  clear hz
  by_cases h9 : n < 9
  · have e : unpackV L = (⟨[], []⟩, 6) := by unfold unpackV; rw [if_pos (.inl (by omega))]
    rw [e]
    clear e
    have hd : decide ((n : Int) - 4 < 5) = true := by simp; omega
    go_enter Try.func25, Try.ntmps25
    go_wp2_with fail
    exact bodyPost_ret (v := .tuple #[.agg #[.slice none 0 0, .slice none 0 0], .int .i64 6]) (by simp [results, Try.results25, go_sem]) rfl ⟨none, 0, none, 0, rfl, KR.nil _ _, al _⟩
  · obtain ⟨m, rfl⟩ : ∃ m, n = m + 4 := ⟨n - 4, by omega⟩
    have hm5 : decide ((m : Int) < 5) = false := by simp; omega
    obtain ⟨hs5, hr5⟩ := slice_to (k := 5) (by omega) hc h
    rw [← List.map_take] at hr5
    have hx := run_str_rd (P := Try.prog) (c := c) (hr5.alloc (Nat.le_refl _) (.cells #[.slice none 0 0, .slice none 0 0] 72)) 68 5 9 Try.underlying68 Try.underlying5 Try.underlying9
    by_cases hh : strOfNums (L.take 5) = ⟨#[114, 111, 97, 100, 49]⟩
    · obtain ⟨A4, hs4, hr4⟩ := slice_from (k := m) (by omega) hc h
      rw [Nat.add_sub_cancel_left] at hs4 hr4
      rw [← List.map_drop] at hr4
      have HR4 := Lib.hid (hr4.alloc (Nat.le_refl _) (.cells #[.slice none 0 0, .slice none 0 0] 72))
      obtain ⟨hsm, hrm⟩ := slice_to (k := m) (by omega) hc h
      rw [← List.map_take] at hrm
      have HRM := Lib.hid (hrm.alloc (Nat.le_refl _) (.cells #[.slice none 0 0, .slice none 0 0] 72))
      obtain ⟨A5, hsb, hrb⟩ := slice_mid (a := 5) (e := m) (by omega) (by omega) hc h
      rw [← List.map_take, ← List.map_drop] at hrb
      have hsb5 : ∀ W, (Instr.slice 68 (.slice A (m + 4) c) (some (.int .i64 5)) (some (.int .i64 (m : Int))) none).run Try.prog W = .ok (.slice A5 (m - 5) (c - 5)) W := hsb
      clear hsb
      have HRB := Lib.hid hrb
      have HLT := Lib.hid (show (L.take m).length = m by rw [List.length_take]; omega)
      have HV := Lib.hid (show unpackV L = (if sumP (L.take m) ≠ (accB (by_ (L.drop m)) 4 : Int) then (⟨[], []⟩, 18)
        else if (codeS false (bodyOf L)).2.1 = true ∨ 0 < (codeS false (bodyOf L)).2.2.length then (⟨[], []⟩, 6)
        else if (soundV (codeS false (bodyOf L)).1).1 ≠ 0 then (⟨[], []⟩, 6)
        else ((codeS false (bodyOf L)).1, 0)) by
          unfold unpackV
          rw [if_neg (by rw [HL.out]; simp only [not_or, Decidable.not_not]; exact ⟨h9, hh⟩), HL.out, Nat.add_sub_cancel])
      have HBO := Lib.hid (show bodyOf L = (L.take m).drop 5 by unfold bodyOf; rw [HL.out, Nat.add_sub_cancel])
      have hb4 : ∀ j, by_ (L.drop m) j < 256 := by_lt (fun z hz => HZ.out z (List.mem_of_mem_drop hz))
      have HB4 := Lib.hid hb4
      clear hr4 hrm hrb h hl hr5 hb4
      generalize hM : L.drop m = M at *
      have HZM := Lib.hid (show U8s M by rw [← hM]; exact HZ.out.drop m)
      clear hM
      go_enter Try.func25, Try.ntmps25
      go_wp2_with fail
      go_loop [5, 27] (fun s i => ∃ k : Nat, k ≤ 4 ∧ i = .int .i64 (k : Int) ∧ s = .int .i64 ((accB (by_ M) k : Nat) : Int)) (fun _ i => 4 - (intOf i).toNat)
      case atStart => exact ⟨0, by omega, rfl, rfl⟩
      case round =>
        obtain ⟨k, hk, rfl, rfl⟩ := hrel
        have hal := accB_lt HB4.out k
        by_cases hlt : k < 4
        · obtain ⟨b, off, rfl, hcell, hb⟩ := cellAt HR4.out HZM.out hlt
          have hp : accB (by_ M) k < 36028797018963968 := by
            have : 256 ^ k ≤ 256 ^ 4 := Nat.pow_le_pow_right (by omega) (by omega)
            omega
          have hor := acc_or (accB (by_ M) k) (by_ M k) hp hb
          have HAC := Lib.hid (show accB (by_ M) (k + 1) = accB (by_ M) k * 256 + by_ M k from rfl)
          generalize accB (by_ M) k = ac at *
          generalize by_ M k = y at *
          clear hal
          go_wp2_with fail
          go_round
          case rel => exact ⟨k + 1, by omega, by go_num, by rw [HAC.out]; go_num⟩
          case measure => simp [intOf]; omega
        · obtain rfl : k = 4 := by omega
          have HSM := Lib.hid (show sumP (L.take m) = (yP (by_ (L.take m)) m : Int) * 65536 + (xOf (by_ (L.take m)) m : Int) by unfold sumP; rw [HLT.out])
          have HNL := Lib.hid (show (bodyOf L).length = m - 5 by rw [HBO.out, List.length_drop, HLT.out])
          clear hal hlt hk
          go_wp2_with fail
          refine Calls.mono (imageSum_any A m c (L.take m) _ (HRM.out.more (by simp)) (fun z hz => HZ.out z (List.mem_of_mem_take hz)) (by omega)) ?_
          rintro e w1 ⟨rfl, rfl⟩
          rw [← HSM.out]
          generalize sumP (L.take m) = sm at *
          generalize accB (by_ M) 4 = ac at *
          clear HSM HR4 HB4 HZM
          by_cases hs : sm = (ac : Int)
          · have hsb2 : (sm != (ac : Int)) = false := by simpa using hs
            rw [if_neg (by simpa using hs)] at HV
            clear hs hs4 hs5 hsm hx hh
            go_wp2_with fail
            have HRD0 := Lib.hid (show Rdr w.heap.size (w.heap.size + 1) (bodyOf L) false ((w.alloc (.cells #[.slice none 0 0, .slice none 0 0] 72)).alloc (.cells #[.slice A5 (m - 5) (c - 5), .bool false] 120)) from ⟨by omega, by rw [HBO.out]; exact U8s.drop (fun z hz => HZ.out z (List.mem_of_mem_take hz)) 5, by rw [HNL.out]; omega, A5, c - 5, by rw [HNL.out]; exact heap_at _ (by simp), by rw [HNL.out, HBO.out]; exact (HRB.out.alloc (Nat.le_refl _) _).alloc (by simp) _, by rw [HNL.out]; omega⟩)
            refine Calls.mono (rdCode_any w.heap.size (w.heap.size + 1) (bodyOf L) _ HRD0.out (by rw [HNL.out]; omega)) ?_
            rintro e w2 ⟨⟨FA, fc, TA, tc, rfl, hkr⟩, hrd, hg2⟩
            generalize codeS false (bodyOf L) = q at *
            obtain ⟨K, b, R⟩ := q
            simp only at hkr hrd HV
            have HKR := Lib.hid hkr
            have HRD := Lib.hid hrd
            obtain ⟨A6, c6, hg6, _, _⟩ := hrd.ex
            have hgl := hrd.lt
            have hgl0 : w.heap.size < w2.heap.size := by omega
            have r1 : w2.cell? ⟨w.heap.size + 1, 1, none⟩ = some (.bool b) := by rw [Lib.cell_of_heap hg6]; rfl
            have r0 : w2.cell? ⟨w.heap.size + 1, 0, none⟩ = some (.slice A6 R.length c6) := by rw [Lib.cell_of_heap hg6]; rfl
            have ht := (hg2.block w.heap.size (by simp; omega) (fun e => by injection e with e; omega)).trans ((Lib.alloc_old _ _ _ (by simp)).trans (heap_alloc_new w _))
            have HT := Lib.hid ht
            have HB2 := Lib.hid (show Below w.heap.size w w2 from ⟨hg2.os, hg2.tape, hg2.output, by have := hg2.size; simp at this; omega, fun k hk => (hg2.block k (by simp; omega) (fun e => by injection e with e; omega)).trans ((Lib.alloc_old _ _ _ (by simp; omega)).trans (Lib.alloc_old _ _ _ hk))⟩)
            have t0 : w2.cell? ⟨w.heap.size, 0, none⟩ = some (.slice none 0 0) := by rw [Lib.cell_of_heap ht]; rfl
            have t1 : w2.cell? ⟨w.heap.size, 1, none⟩ = some (.slice none 0 0) := by rw [Lib.cell_of_heap ht]; rfl
            have f0 := Lib.frozen_of_heap ht 0
            have f1 := Lib.frozen_of_heap ht 1
            clear hkr hrd hg6 hg2 ht HRB HRM HR hsb5 HRD0
            obtain ⟨nf, hnf⟩ : ∃ n, n = K.funcs.length := ⟨_, rfl⟩
            obtain ⟨nt, hnt⟩ : ∃ n, n = K.texts.length := ⟨_, rfl⟩
            rw [← hnf, ← hnt]
            have HNF := Lib.hid hnf
            have HNT := Lib.hid hnt
            clear hnf hnt
            cases b with
            | true =>
              rw [if_pos (.inl rfl)] at HV
              go_wp2_with fail
              rw [HV.out]
              exact bodyPost_ret (v := .tuple #[.agg #[.slice none 0 0, .slice none 0 0], .int .i64 6]) (by simp [results, Try.results25, go_sem, t0, t1, hgl0]) rfl ⟨none, 0, none, 0, rfl, KR.nil _ _, ((HB2.out.setCell (p := ⟨w.heap.size, 0, none⟩) (Nat.le_refl _) _).setCell (p := ⟨w.heap.size, 1, none⟩) (Nat.le_refl _) _).alloc (by simp; omega) _⟩
            | false =>
              generalize hrl : R.length = rl at *
              have HRL := Lib.hid hrl
              clear hrl
              by_cases hr : 0 < rl
              · rw [if_pos (.inr (by omega))] at HV
                go_wp2_with fail
                rw [HV.out]
                exact bodyPost_ret (v := .tuple #[.agg #[.slice none 0 0, .slice none 0 0], .int .i64 6]) (by simp [results, Try.results25, go_sem, t0, t1, hgl0]) rfl ⟨none, 0, none, 0, rfl, KR.nil _ _, ((HB2.out.setCell (p := ⟨w.heap.size, 0, none⟩) (Nat.le_refl _) _).setCell (p := ⟨w.heap.size, 1, none⟩) (Nat.le_refl _) _).alloc (by simp; omega) _⟩
              · obtain rfl : rl = 0 := by omega
                rw [if_neg (by simp)] at HV
                go_wp2_with fail
                refine Calls.mono (codeSound_any FA TA fc tc K nf nt _ HNF.out HNT.out (((HKR.out (by trivial)).into (al _)).more (by simp))) ?_
                rintro e w3 ⟨rfl, hb3⟩
                unfold fixV
                generalize soundV K = sv at *
                obtain ⟨s0, s1, s2⟩ := sv
                simp only at HV ⊢
                have HB3 := Lib.hid (sq HB2.out (sq (al _) hb3))
                have hs3 := hb3.size
                simp at hs3
                have HKR3 := Lib.hid ((((HKR.out (by trivial)).into (al (.cells #[.slice FA nf fc, .slice TA nt tc] 72))).into (hb3.mono (by simp))).more (B' := w3.heap.size) (by omega))
                have t0 : w3.cell? ⟨w.heap.size, 0, none⟩ = some (.slice none 0 0) := (hb3.cell (p := ⟨w.heap.size, 0, none⟩) (by simp; omega)).trans ((World.cell?_alloc_lt _ _ _ hgl0).trans t0)
                have t1 : w3.cell? ⟨w.heap.size, 1, none⟩ = some (.slice none 0 0) := (hb3.cell (p := ⟨w.heap.size, 1, none⟩) (by simp; omega)).trans ((World.cell?_alloc_lt _ _ _ hgl0).trans t1)
                have h3 := (hb3.block w.heap.size (by simp; omega)).trans ((Lib.alloc_old _ _ _ hgl0).trans HT.out)
                have f0 := Lib.frozen_of_heap h3 0
                have f1 := Lib.frozen_of_heap h3 1
                have h4 := (hb3.block w2.heap.size (by simp)).trans (heap_alloc_new w2 _)
                have u0 : w3.cell? ⟨w2.heap.size, 0, none⟩ = some (.slice FA nf fc) := by rw [Lib.cell_of_heap h4]; rfl
                have u1 : w3.cell? ⟨w2.heap.size, 1, none⟩ = some (.slice TA nt tc) := by rw [Lib.cell_of_heap h4]; rfl
                have hgl3 : w.heap.size < w3.heap.size := by omega
                have hgl4 : w2.heap.size < w3.heap.size := by omega
                have H3 := Lib.hid h3
                clear hb3 h3 h4 HKR
                by_cases h0 : s0 = 0
                · have b0 : (s0 != 0) = false := by simpa using h0
                  rw [if_neg (by simpa using h0)] at HV
                  clear h0
                  go_wp2_with fail
                  rw [HV.out]
                  refine bodyPost_ret (v := .tuple #[.agg #[.slice FA nf fc, .slice TA nt tc], .int .i64 0]) (by simp [results, Try.results25, go_sem, t0, t1, hgl3]) rfl ⟨FA, fc, TA, tc, by rw [HNF.out, HNT.out], ?_, ((HB3.out.setCell (p := ⟨w.heap.size, 0, none⟩) (Nat.le_refl _) _).setCell (p := ⟨w.heap.size, 1, none⟩) (Nat.le_refl _) _).alloc (by simp; omega) _⟩
                  refine ((HKR3.out.avoid (two_slices H3.out) (w' := (w3.setCell ⟨w.heap.size, 0, none⟩ (.slice FA nf fc)).setCell ⟨w.heap.size, 1, none⟩ (.slice TA nt tc)) fun p _ hne => World.cell?_of_block (by rw [Below.heap_setCell _ _ _ _ hne, Below.heap_setCell _ _ _ _ hne])).into (Below.mono (al _) (by simp))).more (by simp)
                · have b0 : (s0 != 0) = true := by simpa using h0
                  rw [if_pos h0] at HV
                  clear h0
                  go_wp2_with fail
                  rw [HV.out]
                  exact bodyPost_ret (v := .tuple #[.agg #[.slice none 0 0, .slice none 0 0], .int .i64 6]) (by simp [results, Try.results25, go_sem, t0, t1, hgl3]) rfl ⟨none, 0, none, 0, rfl, KR.nil _ _, ((HB3.out.setCell (p := ⟨w.heap.size, 0, none⟩) (Nat.le_refl _) _).setCell (p := ⟨w.heap.size, 1, none⟩) (Nat.le_refl _) _).alloc (by simp; omega) _⟩
          · have hsb2 : (sm != (ac : Int)) = true := by simpa using hs
            rw [if_pos (by simpa using hs)] at HV
            go_wp2_with fail
            rw [HV.out]
            exact bodyPost_ret (v := .tuple #[.agg #[.slice none 0 0, .slice none 0 0], .int .i64 18]) (by simp [results, Try.results25, go_sem]) rfl ⟨none, 0, none, 0, rfl, KR.nil _ _, al _⟩
    · have e : unpackV L = (⟨[], []⟩, 6) := by unfold unpackV; rw [if_pos (.inr hh)]
      rw [e]
      clear e
      have hq := str_ne_lit hh
      simp only at hq
      generalize strOfNums (L.take 5) = sz at *
      go_enter Try.func25, Try.ntmps25
      go_wp2_with fail
      exact bodyPost_ret (v := .tuple #[.agg #[.slice none 0 0, .slice none 0 0], .int .i64 6]) (by simp [results, Try.results25, go_sem]) rfl ⟨none, 0, none, 0, rfl, KR.nil _ _, al _⟩
end Go.Proofs.Ytgcedkioanolcaa
