/- 'ImagePacks' is true. Conditions: none. -/
import Derived.Test.YtegpaniooigbdaaIpD
import Derived.Test.YtegpaniooigbdaaIpE
import Derived.Test.YtegpaniooigbdaaCdK
import Derived.Test.YtegpaniooigbdaaCdI
set_option maxRecDepth 100000
namespace Go.Proofs.Ytegpaniooigbdaa
open Go.ChangeShapes Go.WideShapes Go.ChangeAt Go.RowKit
def packZ (K : KK) : List Int := if (soundV K).1 = 0 then packB K ++ tailL (sumP (packB K)) else []
/-- What 'Pack' answers, in one. -/
def PackOne (K : KK) (s : Int) (w : World) (e : Ending) (w' : World) : Prop := ∃ A n c, e = .returned (.tuple #[.slice A n c, .int .i64 s]) ∧ Rd w' w'.heap.size 1 A n ((packZ K).map (Value.int .u8)) ∧ n ≤ 1000000000 ∧ Below w.heap.size w w'
theorem PackPost.one {K : KK} {w w' : World} {e : Ending} (h : PackPost K w e w') : PackOne K (soundV K).1 w e w' := by
  obtain ⟨h | h, hb⟩ := h
  · obtain ⟨h0, rfl⟩ := h
    refine ⟨_, _, _, rfl, ?_, by decide, hb⟩
    rw [packZ, if_neg h0]
    exact Rd.nil
  · obtain ⟨h0, A, n, c, rfl, hr, hn⟩ := h
    refine ⟨A, n, c, by rw [h0], ?_, hn, hb⟩
    rw [packZ, if_pos h0]
    exact hr
theorem packL_len {A : Option Addr} {n : Nat} {w : World} {B : Nat} (h : Rd w B 1 A n ((packZ KL).map (Value.int .u8))) : 9 < n := by
  have h1 := h.1
  rw [packZ, if_pos (by rw [sound_KL])] at h1
  simp only [List.length_map, List.length_append, packB, funcsL, midL, textsL, headL, List.length_cons, List.length_nil, tailL, numL_one] at h1
  have h2 := nbz_pos (zig (KL.funcs.length : Int))
  omega
set_option maxHeartbeats 4000000 in
theorem walkImagePacks (v0 : Value) (w : World) (w0 : IsCode w v0) : Calls Try.prog 6 #[v0] w fun e w' => e = .returned (.bool true) ∧ Below w.heap.size w w' := by
  obtain ⟨K, FA, TA, fc, tc, rfl, hrd, hf⟩ := w0
  have HCP := Lib.hid (fun W (hW : Below w.heap.size w W) => copied_any K FA TA fc tc W (KK.sh.more (KK.sh.keep hrd fun p hp => hW.cell hp) fun b hb => Nat.lt_of_lt_of_le hb hW.size) hf)
  have HKR := Lib.hid (KR.of' hrd hf)
  obtain ⟨nf, hnf⟩ : ∃ n, n = K.funcs.length := ⟨_, rfl⟩
  obtain ⟨nt, hnt⟩ : ∃ n, n = K.texts.length := ⟨_, rfl⟩
  rw [← hnf, ← hnt] at HCP ⊢
  have HNF := Lib.hid hnf
  have HNT := Lib.hid hnt
  have HSF := Lib.hid (fun A' B' c' d' W hk => (imagePack_any A' B' c' d' K nf nt W HNF.out HNT.out hk).mono fun _ _ h => h.one)
  have HSR := Lib.hid (fun W (hW : Below w.heap.size w W) => (packCode_any FA TA fc tc K nf nt W HNF.out HNT.out ((HKR.out.into hW).more hW.size)).mono fun _ _ h => h.one)
  clear hnf hnt hrd hf
  generalize (soundV K).1 = sv at *
  go_enter Try.func6, Try.ntmps6
  go_wp2_with fail
  refine (HCP.out _ (al _)).mono ?_
  rintro e w1 ⟨FA', fc', TA', tc', rfl, hkr, hb1⟩
  have HB1 := Lib.hid (sq (al _) hb1)
  have HKR1 := Lib.hid hkr
  have hb := (hb1.block w.heap.size (by simp)).trans (heap_alloc_new w _)
  have HBL := Lib.hid hb
  clear hb hb1 hkr
  go_wp2_with fail
  refine (HSF.out _ _ _ _ _ HKR1.out).mono ?_
  rintro e w2 ⟨A2, n2, c2, rfl, hr2, hn2, hb2⟩
  have HBL2 := Lib.hid ((hb2.block w.heap.size (Array.getElem?_eq_some_iff.1 HBL.out).1).trans HBL.out)
  have HB2 := Lib.hid (sq HB1.out hb2)
  have HR2 := Lib.hid hr2
  have d0 : w2.cell? ⟨w.heap.size, 0, none⟩ = some (.slice FA nf fc) := by rw [Lib.cell_of_heap HBL2.out]; rfl
  have d1 : w2.cell? ⟨w.heap.size, 1, none⟩ = some (.slice TA nt tc) := by rw [Lib.cell_of_heap HBL2.out]; rfl
  clear hr2 hb2 HBL HB1 HKR1
  go_wp2_with fail
  refine (HSR.out _ HB2.out).mono ?_
  rintro e w3 ⟨A3, n3, c3, rfl, hr3, hn3, hb3⟩
  have HB3 := Lib.hid (sq HB2.out hb3)
  have HR2 := Lib.hid ((HR2.out.below hb3).more hb3.size)
  have HR3 := Lib.hid hr3
  clear hr3 hb3 d0 d1 HBL2
  go_wp2_with fail
  refine (least_any _).mono ?_
  rintro e w4 ⟨FA4, fc4, rfl, hk4, hb4⟩
  have HB4 := Lib.hid (sq HB3.out hb4)
  have HR2 := Lib.hid ((HR2.out.below hb4).more hb4.size)
  have HR3 := Lib.hid ((HR3.out.below hb4).more hb4.size)
  have HK4 := Lib.hid hk4
  clear hk4 hb4
  go_wp2_with fail
  refine ((imagePack_any _ _ _ _ KL 1 0 _ rfl rfl HK4.out).mono fun _ _ h => h.one).mono ?_
  rintro e w5 ⟨A5, n5, c5, rfl, hr5, hn5, hb5⟩
  have hn9 : (9 : Int) < (n5 : Int) := by have := packL_len hr5; omega
  have HB5 := Lib.hid (sq HB4.out hb5)
  have hx := run_str_rd (P := Try.prog) (c := c2) (HR2.out.below hb5) 72 5 9 Try.underlying72 Try.underlying5 Try.underlying9
  have hy := run_str_rd (P := Try.prog) (c := c3) (HR3.out.below hb5) 72 5 9 Try.underlying72 Try.underlying5 Try.underlying9
  clear hr5 hb5
  generalize strOfNums (packZ K) = sz at *
  go_wp2_with fail
  go_ret
  exact ⟨by simp, HB5.out⟩
end Go.Proofs.Ytegpaniooigbdaa
