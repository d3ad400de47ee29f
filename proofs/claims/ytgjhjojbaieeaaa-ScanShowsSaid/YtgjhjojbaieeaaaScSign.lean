/- 'scan.sign'. Conditions: none. -/
import Derived.Test.YtgjhjojbaieeaaaScText
set_option maxRecDepth 20000
namespace Go.Proofs.Ytgjhjojbaieeaaa
open Go.ChangeShapes Go.WideShapes Go.ChangeAt Go.RowKit
theorem idx_iff (l : List UInt8) (c : UInt8) : (0 ≤ Lib.indexByte l c) ↔ c ∈ l := by
  induction l with
  | nil => simp [Lib.indexByte]
  | cons b l ih =>
    have hge := Lib.indexByte_ge l c
    simp only [Lib.indexByte]
    by_cases h : b = c
    · simp [h]
    · have h2 : (b == c) = false := by simp [h]
      have h3 : c ≠ b := fun e => h e.symm
      rw [h2, if_neg (by simp), List.mem_cons]
      simp only [h3, false_or]
      rw [← ih]
      split
      · rename_i h4
        simp at h4
        omega
      · rename_i h4
        simp at h4
        omega
theorem idx_sg (c : UInt8) (w : World) : Calls Try.prog 133 #[.string ⟨#[43, 45, 42, 47, 37, 38, 124, 94, 60, 62, 61, 40, 41, 123, 125, 91, 93, 44, 58, 33]⟩, .int .u8 (c.toNat : Int)] w fun e w' => (∃ z : Int, e = .returned (.int .i64 z) ∧ (0 ≤ z ↔ c ∈ sg1)) ∧ w' = w := by
  refine (Try.strings_IndexByte _ _ _).mono ?_
  rintro e w2 ⟨rfl, rfl⟩
  refine ⟨⟨_, rfl, ?_⟩, rfl⟩
  have hun : ((c.toNat : Int)).toNat.toUInt8 = c := by simp
  rw [hun]
  exact idx_iff sg1 c
theorem two_of {L : List UInt8} {s : ByteArray} (hL : s.data.toList = L) : (s.extract 0 2).toList = L.take 2 := by
  rw [ByteArray.toList_eq, extract_list, hL]; simp
theorem headD_of {s : ByteArray} (h : 0 < s.size) : s.data.toList.headD 0 = s[0] := by
  have := head_get s 0 h
  simpa using this
theorem sign_empty (s : ByteArray) (h : s.size = 0) (w : World) : Calls Try.prog 106 #[.string s] w fun e w' => e = .returned (.string ⟨(signV s.data.toList).toArray⟩) ∧ ∃ n, w' = w.drewN n := by
  obtain rfl : s = ByteArray.empty := by
    apply ByteArray.ext
    exact Array.eq_empty_of_size_eq_zero h
  go_enter Try.func106, Try.ntmps106
  go_wp2
  go_ret
  exact ⟨rfl, 0, rfl⟩
set_option maxHeartbeats 2000000 in
theorem sign_two (s : ByteArray) (h2 : 2 ≤ s.size) (hm : s.data.toList.take 2 ∈ sg2) (w : World) : Calls Try.prog 106 #[.string s] w fun e w' => e = .returned (.string ⟨(signV s.data.toList).toArray⟩) ∧ ∃ n, w' = w.drewN n := by
  have hX : s.extract 0 2 = ⟨(s.data.toList.take 2).toArray⟩ := by rw [extract_list]; simp
  have HV := Lib.hid (show signV s.data.toList = s.data.toList.take 2 by unfold signV; rw [if_pos hm])
  have h2i : 2 ≤ (s.size : Int) := by omega
  simp only [sg2, List.mem_cons, List.not_mem_nil, or_false] at hm
  rcases hm with hm | hm | hm | hm | hm | hm | hm | hm | hm
  all_goals
    rw [hm] at hX HV
    clear hm
    go_enter Try.func106, Try.ntmps106
    go_wp2
    go_ret
    exact ⟨by rw [HV.out]; rfl, 0, rfl⟩
set_option maxHeartbeats 2000000 in
theorem sign_one (s : ByteArray) (h0 : 0 < s.size) (hb : ∀ X ∈ sg2, (2 ≤ s.size → ((s.extract 0 2).toList == X) = false)) (hm : s.data.toList.take 2 ∉ sg2) (w : World) : Calls Try.prog 106 #[.string s] w fun e w' => e = .returned (.string ⟨(signV s.data.toList).toArray⟩) ∧ ∃ n, w' = w.drewN n := by
  have hX1 : s.extract 0 1 = ⟨(s.data.toList.take 1).toArray⟩ := by rw [extract_list]; simp
  have hhd := headD_of h0
  have hne : s.data.toList ≠ [] := fun e => by
    have : s.data.toList.length = 0 := by rw [e]; rfl
    have h9 : s.data.toList.length = s.size := rfl
    omega
  have hse : (s.toList == []) = false := by rw [ByteArray.toList_eq]; exact beq_eq_false_iff_ne.2 hne
  have hse2 : ¬ s.toList = [] := by rw [ByteArray.toList_eq]; exact hne
  have b0 := hb [60, 60] (by simp [sg2])
  have b1 := hb [62, 62] (by simp [sg2])
  have b2 := hb [38, 38] (by simp [sg2])
  have b3 := hb [124, 124] (by simp [sg2])
  have b4 := hb [61, 61] (by simp [sg2])
  have b5 := hb [33, 61] (by simp [sg2])
  have b6 := hb [60, 61] (by simp [sg2])
  have b7 := hb [62, 61] (by simp [sg2])
  have b8 := hb [58, 61] (by simp [sg2])
  clear hb
  by_cases h2 : 2 ≤ s.size
  · have c0 := b0 h2
    have c1 := b1 h2
    have c2 := b2 h2
    have c3 := b3 h2
    have c4 := b4 h2
    have c5 := b5 h2
    have c6 := b6 h2
    have c7 := b7 h2
    have c8 := b8 h2
    clear b0 b1 b2 b3 b4 b5 b6 b7 b8
    have h2i : 2 ≤ (s.size : Int) := by omega
    by_cases hc : (s[0]'h0) ∈ sg1
    · have HV := Lib.hid (show s.extract 0 1 = ⟨(signV s.data.toList).toArray⟩ by
        rw [hX1]; unfold signV; rw [if_neg hm, if_pos ⟨by rw [List.contains_iff_mem, hhd]; exact hc, hne⟩])
      clear hm hhd hne hX1
      generalize hcc : s[0]'h0 = c at *
      have HC := Lib.hid hc
      clear hc
      go_enter Try.func106, Try.ntmps106
      go_wp2_with (go_at_call 133; refine (idx_sg c _).mono ?_; rintro e w2 ⟨⟨z, rfl, hz⟩, rfl⟩; have hz0 := hz.2 HC.out; clear hz)
      go_ret
      exact ⟨by rw [← HV.out]; rfl, 0, rfl⟩
    · have HV := Lib.hid (show signV s.data.toList = [] by
        unfold signV; rw [if_neg hm, if_neg (by rw [List.contains_iff_mem, hhd]; exact fun h => hc h.1)])
      clear hm hhd hne hX1
      generalize hcc : s[0]'h0 = c at *
      have HC := Lib.hid hc
      clear hc
      go_enter Try.func106, Try.ntmps106
      go_wp2_with (go_at_call 133; refine (idx_sg c _).mono ?_; rintro e w2 ⟨⟨z, rfl, hz⟩, rfl⟩; have hz0 := mt hz.1 HC.out; clear hz)
      go_ret
      exact ⟨by rw [HV.out]; rfl, 0, rfl⟩
  · clear b0 b1 b2 b3 b4 b5 b6 b7 b8
    have h2i : ¬ 2 ≤ (s.size : Int) := by omega
    by_cases hc : (s[0]'h0) ∈ sg1
    · have HV := Lib.hid (show s.extract 0 1 = ⟨(signV s.data.toList).toArray⟩ by
        rw [hX1]; unfold signV; rw [if_neg hm, if_pos ⟨by rw [List.contains_iff_mem, hhd]; exact hc, hne⟩])
      clear hm hhd hne hX1
      generalize hcc : s[0]'h0 = c at *
      have HC := Lib.hid hc
      clear hc
      go_enter Try.func106, Try.ntmps106
      go_wp2_with (go_at_call 133; refine (idx_sg c _).mono ?_; rintro e w2 ⟨⟨z, rfl, hz⟩, rfl⟩; have hz0 := hz.2 HC.out; clear hz)
      go_ret
      exact ⟨by rw [← HV.out]; rfl, 0, rfl⟩
    · have HV := Lib.hid (show signV s.data.toList = [] by
        unfold signV; rw [if_neg hm, if_neg (by rw [List.contains_iff_mem, hhd]; exact fun h => hc h.1)])
      clear hm hhd hne hX1
      generalize hcc : s[0]'h0 = c at *
      have HC := Lib.hid hc
      clear hc
      go_enter Try.func106, Try.ntmps106
      go_wp2_with (go_at_call 133; refine (idx_sg c _).mono ?_; rintro e w2 ⟨⟨z, rfl, hz⟩, rfl⟩; have hz0 := mt hz.1 HC.out; clear hz)
      go_ret
      exact ⟨by rw [HV.out]; rfl, 0, rfl⟩
theorem sign_any (s : ByteArray) (w : World) : Calls Try.prog 106 #[.string s] w fun e w' => e = .returned (.string ⟨(signV s.data.toList).toArray⟩) ∧ ∃ n, w' = w.drewN n := by
  by_cases h0 : s.size = 0
  · exact sign_empty s h0 w
  · by_cases hm : s.data.toList.take 2 ∈ sg2
    · refine sign_two s ?_ hm w
      have hl : (s.data.toList.take 2).length = 2 := by
        simp only [sg2, List.mem_cons, List.not_mem_nil, or_false] at hm
        rcases hm with hm | hm | hm | hm | hm | hm | hm | hm | hm <;> (rw [hm]; rfl)
      rw [List.length_take] at hl
      have h9 : s.data.toList.length = s.size := rfl
      omega
    · refine sign_one s (by omega) (fun X hX h2 => ?_) hm w
      rw [two_of rfl, beq_eq_false_iff_ne]
      exact fun e => hm (e ▸ hX)
end Go.Proofs.Ytgjhjojbaieeaaa
