/- 'code.named', the document's 'nameRight'; 'code.head'. Conditions: the text is at most as long as what comes in may be. -/
import Derived.Test.YtjegfimagjmpdaaGreatDoorScR
import Derived.Test.YtjegfimagjmpdaaGreatDoorCdA
import Derived.Test.YtjegfimagjmpdaaGreatDoorBase
set_option maxRecDepth 100000
namespace Go.Proofs.YtjegfimagjmpdaaGreatDoor
open Go.ChangeShapes Go.WideShapes Go.ChangeAt Go.RowKit
open Go
/-- May a function have the name? -/
def nmB (L : List UInt8) : Bool := decide (L = []) || oneB 1 L
theorem runs_last {L : List UInt8} {p : Nat} {T : List Tk} {R : Res} (h : Runs L p T R) : ∀ T', R = .ok T' → lastEnds T' = false := by
  induction h with
  | step _ _ _ ih => exact ih
  | bad => intro T' e; cases e
  | @fin p T T1 _ h2 =>
    intro T' e
    injection e with e
    subst e
    unfold semiT at h2
    split at h2
    · have := addT_pre h2
      subst this
      unfold lastEnds
      rw [List.getLast?_append]
      simp [tkAt, endsT]
    · injection h2 with h2
      subst h2
      rename_i h3
      simpa using h3
  | full => intro T' e; cases e
theorem named_two {L : List UInt8} (h8 : L.length ≤ 8000) {T : List Tk} (h : Runs L 0 [] (.ok T)) : oneB 1 L = (decide (T.length = 2) && (decide ((T.headD ⟨0, ByteArray.empty, 0, 0⟩).k = 1) && decide ((T.headD ⟨0, ByteArray.empty, 0, 0⟩).s.data.toList = L))) := by
  rw [← whole_one (k := 1) h8 h]
  have hl := runs_last h T rfl
  match T, hl with
  | [], _ => rfl
  | [t], hl =>
    rw [wholeT_cons]
    simp only [List.length_nil, List.length_cons, List.headD_cons]
    by_cases hk : t.k = 1
    · exfalso
      unfold lastEnds at hl
      simp [endsT, hk] at hl
    · simp [hk]
  | [t, u], _ =>
    rw [wholeT_cons]
    simp only [List.length_nil, List.length_cons, List.headD_cons]
    by_cases hk : t.k = 1
    · simp [hk, endsT]
      exact decide_eq_decide.2 Iff.rfl
    · simp [hk]
  | t :: u :: v :: r, _ =>
    rw [wholeT_cons]
    simp
theorem nm_ne {L : List UInt8} (h : L ≠ []) : nmB L = oneB 1 L := by
  unfold nmB
  rw [decide_eq_false h, Bool.false_or]
set_option maxHeartbeats 1000000 in
theorem named_any (s : ByteArray) (w : World) : Calls Tryz.prog 55 #[.string s] w fun e w' => e = .returned (.bool (nmB s.data.toList)) ∧ Below w.heap.size w w' := by
  have hsl : s.toList = s.data.toList := by rw [ByteArray.toList_eq]
  by_cases h0 : s.data.toList = []
  · have HE := Lib.hid (show nmB s.data.toList = true by rw [h0]; rfl)
    have ht : s.toList.isEmpty = true := by rw [hsl, h0]; rfl
    clear h0 hsl
    go_enter Tryz.func55, Tryz.ntmps55
    go_wp2_with fail
    go_ret
    exact ⟨by rw [HE.out]; rfl, Below.refl _ _⟩
  · have HN := Lib.hid (nm_ne h0)
    have ht : s.toList.isEmpty = false := by
      rw [hsl]
      cases h : s.data.toList with
      | nil => exact absurd h h0
      | cons a b => rfl
    have HSL := Lib.hid hsl
    clear h0 hsl
    go_enter Tryz.func55, Tryz.ntmps55
    go_wp2_with fail
    refine (tokensV s _).mono ?_
    rintro e w1 ⟨⟨v, a, b, cc, rfl, hv⟩, hb⟩
    have HB := Lib.hid hb
    clear hb
    rcases hv with ⟨hlong, rfl, hs⟩ | ⟨hle, R, hr, hm⟩
    · simp at hs
      obtain ⟨rfl, rfl, rfl⟩ := hs
      have HE := Lib.hid (one_long (k := 1) (L := s.data.toList) (show 8000 < s.data.toList.length from hlong))
      clear hlong
      go_wp2_with fail
      go_ret
      exact ⟨by rw [HN.out, HE.out]; rfl, al2 HB.out _⟩
    · cases R with
      | bad c0 pl =>
        obtain ⟨rfl, hs⟩ := hm
        simp at hs
        obtain ⟨rfl, rfl, rfl⟩ := hs
        have HE := Lib.hid (bad_one (k := 1) hr)
        clear hr hle
        by_cases ha : a = 0
        · subst ha
          go_wp2_with fail
          go_ret
          exact ⟨by rw [HN.out, HE.out]; rfl, al2 HB.out _⟩
        · have han : (a == 0) = false := by simpa using ha
          clear ha
          go_wp2_with fail
          go_ret
          exact ⟨by rw [HN.out, HE.out]; rfl, al2 HB.out _⟩
      | ok T =>
        obtain ⟨A, C, rfl, hs, hrd, hl⟩ := hm
        simp at hs
        obtain ⟨rfl, rfl, rfl⟩ := hs
        have HE := Lib.hid (named_two hle hr)
        clear hr hle
        obtain ⟨n, hn⟩ : ∃ n, n = T.length := ⟨_, rfl⟩
        rw [← hn] at hrd hl HE
        rw [← hn]
        by_cases h2 : n = 2
        · have b2 : ((n : Int) == 2) = true := by simp; omega
          have hpos : 0 < n := by omega
          have hposi : (0 : Int) < (n : Int) := by omega
          rw [decide_eq_true h2] at HE
          rcases T with _ | ⟨t, _ | ⟨u, r⟩⟩
          · simp at hn; omega
          · simp at hn; omega
          · rw [Bool.true_and, List.headD_cons] at HE
            obtain ⟨bb, off, rfl, hbl, e0, e1, e2, e3⟩ := hrd.tok (i := 0) (t := t) hn rfl
            simp only [Nat.zero_mul, Nat.add_zero] at e0 e1 e2 e3
            obtain ⟨tk, ts, tl, tc⟩ := t
            simp only at e0 e1 HE
            clear hrd hl hn e2 e3 h2
            have HTS := Lib.hid (show ts.toList = ts.data.toList by rw [ByteArray.toList_eq])
            by_cases ek : tk = 1
            · have bk : (tk == 1) = true := by simpa using ek
              rw [decide_eq_true ek, Bool.true_and] at HE
              clear ek
              by_cases es : ts.data.toList = s.data.toList
              · have bs : (ts.toList == s.toList) = true := by rw [HTS.out, HSL.out, es]; exact beq_self_eq_true _
                rw [decide_eq_true es] at HE
                clear es
                go_wp2_with fail
                go_ret
                exact ⟨by rw [HN.out, HE.out]; rfl, al2 HB.out _⟩
              · have bs : (ts.toList == s.toList) = false := by rw [HTS.out, HSL.out, beq_eq_false_iff_ne]; exact es
                rw [decide_eq_false es] at HE
                clear es
                go_wp2_with fail
                go_ret
                exact ⟨by rw [HN.out, HE.out]; rfl, al2 HB.out _⟩
            · have bk : (tk == 1) = false := by simpa using ek
              rw [decide_eq_false ek, Bool.false_and] at HE
              clear ek
              go_wp2_with fail
              go_ret
              exact ⟨by rw [HN.out, HE.out]; rfl, al2 HB.out _⟩
        · have b2 : ((n : Int) == 2) = false := by simp; omega
          rw [decide_eq_false h2, Bool.false_and] at HE
          clear hrd hl hn h2
          go_wp2_with fail
          go_ret
          exact ⟨by rw [HN.out, HE.out]; rfl, al2 HB.out _⟩
/-- The document's way to say it. -/
theorem nm_tok {L : List UInt8} (h : L ≠ []) : nmB L = decide (tokR L = (1, (L.length : Int), 0)) := by
  rw [nm_ne h]
  unfold oneB
  by_cases ht : tokR L = (1, (L.length : Int), 0)
  · rw [decide_eq_true ht]
    apply decide_eq_true
    have hL : isL (L.headD 0) = true := by
      cases hl : isL (L.headD 0) with
      | true => rfl
      | false =>
        exfalso
        cases hd : isD (L.headD 0) with
        | true =>
          rw [tokR_num hl hd] at ht
          split at ht <;> · injection ht with ht _; cases ht
        | false =>
          rw [tokR_else (by unfold isA; rw [hl, hd]; rfl)] at ht
          repeat' split at ht
          all_goals · injection ht with ht _; cases ht
    refine ⟨h, ?_, ?_, ht⟩
    · rw [tokR_name hL] at ht
      split at ht
      · injection ht with ht _; cases ht
      · rename_i h16
        injection ht with _ ht
        injection ht with ht _
        have : alen L = L.length := by exact_mod_cast ht
        omega
    · intro e
      cases L with
      | nil => exact absurd rfl h
      | cons x y =>
        simp at e
        rw [List.headD_cons, e.1] at hL
        revert hL
        decide
  · rw [decide_eq_false ht]
    apply decide_eq_false
    exact fun h => ht h.2.2.2
set_option maxHeartbeats 1000000 in
theorem nameRight_any (s : ByteArray) (hs : s.size ≤ 140737488351232) (w : World) : Calls Tryz.prog 46 #[.string s] w fun e w' => e = .returned (.bool (nmB s.data.toList)) ∧ Below w.heap.size w w' := by
  have hsl : s.toList = s.data.toList := by rw [ByteArray.toList_eq]
  by_cases h0 : s.data.toList = []
  · have HE := Lib.hid (show nmB s.data.toList = true by rw [h0]; rfl)
    have ht : s.toList.isEmpty = true := by rw [hsl, h0]; rfl
    clear h0 hsl
    go_enter Tryz.func46, Tryz.ntmps46
    go_wp2_with fail
    go_ret
    exact ⟨by rw [HE.out]; rfl, Below.refl _ _⟩
  · have HN := Lib.hid (nm_tok h0)
    have hpos : 0 < s.size := by
      have : s.data.toList.length = s.size := rfl
      have := List.length_pos_iff.2 h0
      omega
    have ht : s.toList.isEmpty = false := by
      rw [hsl]
      cases h : s.data.toList with
      | nil => exact absurd h h0
      | cons a b => rfl
    have HL := Lib.hid (show s.data.toList.length = s.size from rfl)
    rw [HL.out] at HN
    clear h0 hsl
    go_enter Tryz.func46, Tryz.ntmps46
    go_wp2_with fail
    refine (tokenAt_any s hpos hs _).mono ?_
    rintro e w1 ⟨rfl, hb⟩
    have HB := Lib.hid hb
    clear hb
    unfold tokV
    rcases htr : tokR s.data.toList with ⟨x, y, z⟩
    rw [htr] at HN
    simp only
    clear htr
    by_cases hz : z = 0
    · have bz : (z == 0) = true := by simpa using hz
      by_cases hx : x = 1
      · have bx : (x == 1) = true := by simpa using hx
        by_cases hy : y = (s.size : Int)
        · have bY : (y == (s.size : Int)) = true := by simpa using hy
          have HV := Lib.hid (HN.out.trans (decide_eq_true (by rw [hx, hy, hz])))
          clear hx hy hz
          go_wp2_with fail
          go_ret
          exact ⟨by rw [HV.out]; rfl, HB.out⟩
        · have bY : (y == (s.size : Int)) = false := by simpa using hy
          have HV := Lib.hid (HN.out.trans (decide_eq_false (fun e => hy (by injection e with _ e; injection e))))
          clear hx hy hz
          go_wp2_with fail
          go_ret
          exact ⟨by rw [HV.out]; rfl, HB.out⟩
      · have bx : (x == 1) = false := by simpa using hx
        have HV := Lib.hid (HN.out.trans (decide_eq_false (fun e => hx (by injection e))))
        clear hx hz
        go_wp2_with fail
        go_ret
        exact ⟨by rw [HV.out]; rfl, HB.out⟩
    · have bz : (z == 0) = false := by simpa using hz
      have HV := Lib.hid (HN.out.trans (decide_eq_false (fun e => hz (by injection e with _ e; injection e))))
      clear hz
      go_wp2_with fail
      go_ret
      exact ⟨by rw [HV.out]; rfl, HB.out⟩
end Go.Proofs.YtjegfimagjmpdaaGreatDoor
