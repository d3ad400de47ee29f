/- 'CodeShows' is true. Conditions: none. -/
import Derived.Test.YtegpaniooigbdaaCsR
import Derived.Test.YtegpaniooigbdaaIpE
import Derived.Test.YtegpaniooigbdaaCdK
import Derived.Test.YtegpaniooigbdaaCdI
set_option maxRecDepth 100000
namespace Go.Proofs.Ytegpaniooigbdaa
open Go.ChangeShapes Go.WideShapes Go.ChangeAt Go.RowKit
theorem dL_0 : dL 0 = [48] := by decide +kernel
theorem dL_1 : dL (-1) = [45, 49] := by decide +kernel
theorem show_KL : showC KL = [102, 117, 110, 99, 32, 109, 97, 105, 110, 32, 48, 32, 48, 32, 48, 10, 32, 32, 114, 101, 116, 117, 114, 110, 32, 45, 49, 32, 48, 32, 48, 32, 48, 32, 48, 10] := by
  have h : showC KL = [102, 117, 110, 99, 32] ++ [109, 97, 105, 110] ++ (32 :: dL 0 ++ (32 :: dL 0 ++ (32 :: dL 0 ++ []))) ++ [10] ++ ([32, 32] ++ wordL 29 ++ (32 :: dL (-1) ++ (32 :: dL 0 ++ (32 :: dL 0 ++ (32 :: dL 0 ++ (32 :: dL 0 ++ []))))) ++ [10] ++ []) ++ [] := rfl
  rw [h, dL_0, dL_1]
  decide +kernel
set_option maxHeartbeats 4000000 in
theorem walkCodeShows (v0 : Value) (w : World) (w0 : IsCode w v0) : Calls Try.prog 7 #[v0] w fun e w' => e = .returned (.bool true) ∧ Below w.heap.size w w' := by
  obtain ⟨K, FA, TA, fc, tc, rfl, hrd, hf⟩ := w0
  have HCP := Lib.hid (fun W (hW : Below w.heap.size w W) => copied_any K FA TA fc tc W (KK.sh.more (KK.sh.keep hrd fun p hp => hW.cell hp) fun b hb => Nat.lt_of_lt_of_le hb hW.size) hf)
  have HKR := Lib.hid (KR.of' hrd hf)
  obtain ⟨nf, hnf⟩ : ∃ n, n = K.funcs.length := ⟨_, rfl⟩
  obtain ⟨nt, hnt⟩ : ∃ n, n = K.texts.length := ⟨_, rfl⟩
  rw [← hnf, ← hnt] at HCP ⊢
  have HNF := Lib.hid hnf
  have HNT := Lib.hid hnt
  have HSF := Lib.hid (fun A' B' c' d' W hk => codeShow_any A' B' c' d' K nf nt W HNF.out HNT.out hk)
  have HSR := Lib.hid (fun W (hW : Below w.heap.size w W) => showCode_any FA TA fc tc K nf nt W HNF.out HNT.out ((HKR.out.into hW).more hW.size))
  have HSL := Lib.hid (fun A' c' W hk => codeShow_any A' none c' 0 KL 1 0 W rfl rfl hk)
  clear hnf hnt hrd hf
  rw [sound_KL] at HSL
  unfold ShowOne at HSF HSR HSL
  simp only [if_true] at HSL
  rw [show_KL] at HSL
  generalize hT : (⟨(if (soundV K).1 = 0 then showC K else []).toArray⟩ : ByteArray) = T at *
  clear hT
  generalize (soundV K).1 = sv at *
  go_enter Try.func7, Try.ntmps7
  go_wp2_with fail
  refine (HCP.out _ (al _)).mono ?_
  rintro e w1 ⟨FA', fc', TA', tc', rfl, hkr, hb1⟩
  have HB1 := Lib.hid (sq (al _) hb1)
  have HKR1 := Lib.hid hkr
  have hb := (hb1.block w.heap.size (by simp)).trans (heap_alloc_new w _)
  have HBL := Lib.hid hb
  clear hb hb1 hkr
  go_wp2_with fail
  refine (HSF.out _ _ _ _ _ HKR1.out).mono ?_
  rintro e w2 ⟨rfl, hb2⟩
  have HBL2 := Lib.hid ((hb2.block w.heap.size (Array.getElem?_eq_some_iff.1 HBL.out).1).trans HBL.out)
  have HB2 := Lib.hid (sq HB1.out hb2)
  have d0 : w2.cell? ⟨w.heap.size, 0, none⟩ = some (.slice FA nf fc) := by rw [Lib.cell_of_heap HBL2.out]; rfl
  have d1 : w2.cell? ⟨w.heap.size, 1, none⟩ = some (.slice TA nt tc) := by rw [Lib.cell_of_heap HBL2.out]; rfl
  clear hb2 HBL HB1 HKR1
  go_wp2_with fail
  refine (HSR.out _ HB2.out).mono ?_
  rintro e w3 ⟨rfl, hb3⟩
  have HB3 := Lib.hid (sq HB2.out hb3)
  clear hb3 d0 d1 HBL2
  go_wp2_with fail
  refine (least_any _).mono ?_
  rintro e w4 ⟨FA4, fc4, rfl, hk4, hb4⟩
  have HB4 := Lib.hid (sq HB3.out hb4)
  have HK4 := Lib.hid hk4
  clear hk4 hb4
  go_wp2_with fail
  refine (HSL.out _ _ _ HK4.out).mono ?_
  rintro e w5 ⟨rfl, hb5⟩
  have HB5 := Lib.hid (sq HB4.out hb5)
  clear hb5
  go_wp2_with fail
  go_ret
  exact ⟨by simp, HB5.out⟩
end Go.Proofs.Ytegpaniooigbdaa
