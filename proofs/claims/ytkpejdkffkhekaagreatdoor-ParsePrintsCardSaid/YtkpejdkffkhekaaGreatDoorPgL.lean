/- The program's names. Conditions: none. -/
import Derived.Test.YtkpejdkffkhekaaGreatDoorCdN
set_option maxRecDepth 100000
namespace Go.Proofs.YtkpejdkffkhekaaGreatDoor
open Go.ChangeShapes Go.WideShapes Go.ChangeAt Go.RowKit
/-- A name is short. -/
theorem one_short {L : List UInt8} (h : oneB 1 L = true) : L.length ≤ 16 := by
  unfold oneB at h
  simp only [decide_eq_true_eq] at h
  have h4 := h.2.2.2
  unfold tokR at h4
  repeat' split at h4
  all_goals (injection h4 with e1 e2; injection e2 with e2 e3)
  all_goals first
    | omega
    | (exfalso; revert e1; decide)
set_option maxHeartbeats 1000000 in
theorem pnamed_any (s : ByteArray) (w : World) : Calls Tryz.prog 39 #[.string s] w fun e w' => e = .returned (.bool (oneB 1 s.data.toList)) ∧ Below w.heap.size w w' := by
  have hsl : s.toList = s.data.toList := by rw [ByteArray.toList_eq]
  have HSL := Lib.hid hsl
  clear hsl
  by_cases h16 : 16 < (s.size : Int)
  · have HE := Lib.hid (show oneB 1 s.data.toList = false by
      cases h : oneB 1 s.data.toList with
      | false => rfl
      | true =>
        have := one_short h
        have h2 : s.data.toList.length = s.size := rfl
        omega)
    go_enter Tryz.func39, Tryz.ntmps39
    go_wp2_with fail
    go_ret
    exact ⟨by rw [HE.out]; rfl, Below.refl _ _⟩
  · go_enter Tryz.func39, Tryz.ntmps39
    go_wp2_with fail
    refine (tokensV s _).mono ?_
    rintro e w1 ⟨⟨v, a, b, cc, rfl, hv⟩, hb⟩
    have HB := Lib.hid hb
    clear hb
    rcases hv with ⟨hlong, rfl, hs⟩ | ⟨hle, R, hr, hm⟩
    · simp at hs
      obtain ⟨rfl, rfl, rfl⟩ := hs
      have HE := Lib.hid (one_long (k := 1) (L := s.data.toList) (show 8000 < s.data.toList.length from hlong))
      clear hlong
      go_wp2_with fail
      go_ret
      exact ⟨by rw [HE.out]; rfl, al2 HB.out _⟩
    · cases R with
      | bad c0 pl =>
        obtain ⟨rfl, hs⟩ := hm
        simp at hs
        obtain ⟨rfl, rfl, rfl⟩ := hs
        have HE := Lib.hid (bad_one (k := 1) hr)
        clear hr hle
        by_cases ha : a = 0
        · subst ha
          go_wp2_with fail
          go_ret
          exact ⟨by rw [HE.out]; rfl, al2 HB.out _⟩
        · have han : (a == 0) = false := by simpa using ha
          clear ha
          go_wp2_with fail
          go_ret
          exact ⟨by rw [HE.out]; rfl, al2 HB.out _⟩
      | ok T =>
        obtain ⟨A, C, rfl, hs, hrd, hl⟩ := hm
        simp at hs
        obtain ⟨rfl, rfl, rfl⟩ := hs
        have HE := Lib.hid (named_two hle hr)
        clear hr hle
        obtain ⟨n, hn⟩ : ∃ n, n = T.length := ⟨_, rfl⟩
        rw [← hn] at hrd hl HE
        rw [← hn]
        by_cases h2 : n = 2
        · have b2 : ((n : Int) == 2) = true := by simp; omega
          have hpos : 0 < n := by omega
          have hposi : (0 : Int) < (n : Int) := by omega
          rw [decide_eq_true h2] at HE
          rcases T with _ | ⟨t, _ | ⟨u, r⟩⟩
          · simp at hn; omega
          · simp at hn; omega
          · rw [Bool.true_and, List.headD_cons] at HE
            obtain ⟨bb, off, rfl, hbl, e0, e1, e2, e3⟩ := hrd.tok (i := 0) (t := t) hn rfl
            simp only [Nat.zero_mul, Nat.add_zero] at e0 e1 e2 e3
            obtain ⟨tk, ts, tl, tc⟩ := t
            simp only at e0 e1 HE
            clear hrd hl hn e2 e3 h2
            have HTS := Lib.hid (show ts.toList = ts.data.toList by rw [ByteArray.toList_eq])
            by_cases ek : tk = 1
            · have bk : (tk == 1) = true := by simpa using ek
              rw [decide_eq_true ek, Bool.true_and] at HE
              clear ek
              by_cases es : ts.data.toList = s.data.toList
              · have bs : (ts.toList == s.toList) = true := by rw [HTS.out, HSL.out, es]; exact beq_self_eq_true _
                rw [decide_eq_true es] at HE
                clear es
                go_wp2_with fail
                go_ret
                exact ⟨by rw [HE.out]; rfl, al2 HB.out _⟩
              · have bs : (ts.toList == s.toList) = false := by rw [HTS.out, HSL.out, beq_eq_false_iff_ne]; exact es
                rw [decide_eq_false es] at HE
                clear es
                go_wp2_with fail
                go_ret
                exact ⟨by rw [HE.out]; rfl, al2 HB.out _⟩
            · have bk : (tk == 1) = false := by simpa using ek
              rw [decide_eq_false ek, Bool.false_and] at HE
              clear ek
              go_wp2_with fail
              go_ret
              exact ⟨by rw [HE.out]; rfl, al2 HB.out _⟩
        · have b2 : ((n : Int) == 2) = false := by simp; omega
          rw [decide_eq_false h2, Bool.false_and] at HE
          clear hrd hl hn h2
          go_wp2_with fail
          go_ret
          exact ⟨by rw [HE.out]; rfl, al2 HB.out _⟩
end Go.Proofs.YtkpejdkffkhekaaGreatDoor
