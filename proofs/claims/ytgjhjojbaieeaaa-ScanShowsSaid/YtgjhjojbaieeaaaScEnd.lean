/- The cutter: 'put' in terms of the plain steps; 'ends', 'lineEnd'. Conditions: none. -/
import Derived.Test.YtgjhjojbaieeaaaScPut
set_option maxRecDepth 20000
namespace Go.Proofs.Ytgjhjojbaieeaaa
open Go.ChangeShapes Go.WideShapes Go.ChangeAt Go.RowKit
def CuS (w : World) (g : Nat) (src : ByteArray) (p : Nat) (T : List Tk) : Prop :=
  ∃ A C, Cu w g src (p : Int) ((place (src.data.toList.take p)).1 : Int) ((place (src.data.toList.take p)).2 : Int) (.slice A T.length C) T
/-- What a method of the cutter comes to. -/
def MP (g : Nat) (src : ByteArray) (p : Nat) (w : World) (r : Except Int (Nat × List Tk)) (e : Ending) (w' : World) : Prop :=
  match r with
  | .ok x => e = .returned (.tuple #[]) ∧ CuS w' g src x.1 x.2 ∧ Below g w w'
  | .error c => e = stopE c ((place (src.data.toList.take p)).1 : Int) ((place (src.data.toList.take p)).2 : Int) ∧ Below g w w'
theorem Cu.slice {w : World} {g : Nat} {src : ByteArray} {p l c : Int} {v : Value} {T : List Tk} (h : Cu w g src p l c v T) : ∃ A C, v = .slice A T.length C := own_form h.row
theorem pl_bound (src : ByteArray) (p : Nat) (hs : src.size ≤ 8000) : (place (src.data.toList.take p)).1 ≤ 8001 ∧ (place (src.data.toList.take p)).2 ≤ 8001 := by
  have h := place_pos (src.data.toList.take p)
  have h2 : (src.data.toList.take p).length ≤ src.size := by rw [List.length_take]; exact Nat.min_le_right _ _
  omega
theorem put_full (g : Nat) (src : ByteArray) (p l c k n : Int) (s : ByteArray) (A : Option Addr) (C : Nat) (T : List Tk) (w : World) (hcu : Cu w g src p l c (.slice A T.length C) T) (hT : T.length = 2000) :
    Calls Try.prog 105 #[.pointer (some ⟨g, 0, none⟩), .int .i64 k, .string s, .int .i64 n] w fun e w' => e = stopE 15 l c ∧ Below g w w' := by
  have h2 := hcu.c2
  have h3 := hcu.c3
  have h4 := hcu.c4
  rw [hT] at h4
  clear hcu hT
  go_enter Try.func105, Try.ntmps105
  go_wp2_with fail
  refine (fail_any g l c 15 _ h2 h3).mono ?_
  rintro e w1 ⟨rfl, n, rfl⟩
  unfold stopE
  go_wp2_with fail
  exact ⟨rfl, rfl, dr (Below.refl _ _) n⟩
/-- What comes of a token more. -/
def addR (src : ByteArray) (p n : Nat) (T : List Tk) (k : Int) (sl : List UInt8) : Except Int (Nat × List Tk) := match addT src.data.toList p T k sl with | none => .error 15 | some T' => .ok (p + n, T')
/-- 'put', by the plain step. -/
theorem putS (g : Nat) (src : ByteArray) (p n : Nat) (k : Int) (sl : List UInt8) (s : ByteArray) (z : Int) (T : List Tk) (w : World) (hs : s = ⟨sl.toArray⟩) (hz : z = (n : Int)) (hcu : CuS w g src p T) (hT : T.length ≤ 2000) (hsz : src.size ≤ 8000) (hp : p ≤ 8000) (hn : n ≤ 8000)
    (hpl : place (src.data.toList.take (p + n)) = ((place (src.data.toList.take p)).1, (place (src.data.toList.take p)).2 + n)) :
    Calls Try.prog 105 #[.pointer (some ⟨g, 0, none⟩), .int .i64 k, .string s, .int .i64 z] w (MP g src p w (addR src p n T k sl)) := by
  subst hs hz
  obtain ⟨A, C, hcu⟩ := hcu
  have hb := pl_bound src p hsz
  unfold addR addT tkAt
  by_cases h : T.length = 2000
  · rw [if_pos h]
    exact put_full g src _ _ _ k _ _ A C T w hcu h
  · rw [if_neg h]
    refine (put_any g src _ _ _ k (n : Int) _ A T.length C T w hcu rfl (by omega) (by omega) (by omega) (by omega)).mono ?_
    rintro e w' ⟨rfl, ⟨v', h1⟩, h2⟩
    obtain ⟨A', C', rfl⟩ := h1.slice
    refine ⟨rfl, ⟨A', C', ?_⟩, h2⟩
    rw [hpl]
    have e1 : ((p + n : Nat) : Int) = (p : Int) + (n : Int) := by omega
    have e2 : (((place (src.data.toList.take p)).2 + n : Nat) : Int) = ((place (src.data.toList.take p)).2 : Int) + (n : Int) := by omega
    simp only [e1, e2]
    exact h1
set_option maxHeartbeats 2000000 in
theorem ends_any (k l c : Int) (s : ByteArray) (w : World) : Calls Try.prog 108 #[.agg #[.int .i64 k, .string s, .int .i64 l, .int .i64 c]] w fun e w' => e = .returned (.bool (endsT k s.data.toList)) ∧ Below w.heap.size w w' := by
  have hsl : s.toList = s.data.toList := by rw [ByteArray.toList_eq]
  have HS := Lib.hid hsl
  clear hsl
  by_cases h1 : k = 1 ∨ k = 2 ∨ k = 3
  · have he : endsT k s.data.toList = true := by rcases h1 with rfl | rfl | rfl <;> rfl
    have HE := Lib.hid he
    clear he
    rcases h1 with rfl | rfl | rfl
    all_goals
      go_enter Try.func108, Try.ntmps108
      go_wp2_with fail
      go_ret
      exact ⟨by rw [HE.out]; rfl, al _⟩
  · have g1 : (k == 1) = false := by simp; omega
    have g2 : (k == 2) = false := by simp; omega
    have g3 : (k == 3) = false := by simp; omega
    by_cases h4 : k = 4
    · subst h4
      have he : endsT 4 s.data.toList = (decide (s.data.toList = [41]) || decide (s.data.toList = [93]) || decide (s.data.toList = [125])) := by simp [endsT]
      have HE := Lib.hid he
      clear he g1 g2 g3 h1
      go_enter Try.func108, Try.ntmps108
      go_wp2
      all_goals
        go_ret
        refine ⟨?_, al _⟩
        rw [HE.out]
        have := HS.out
        first
          | (simp_all; done)
          | (simp_all; rw [Bool.eq_iff_iff]; simp_all)
    · have g4 : (k == 4) = false := by simp [h4]
      by_cases h5 : k = 5
      · subst h5
        have he : endsT 5 s.data.toList = endW.contains s.data.toList := by simp [endsT]
        have HE := Lib.hid he
        clear he g1 g2 g3 g4 h1 h4
        go_enter Try.func108, Try.ntmps108
        go_wp2
        all_goals
          go_ret
          refine ⟨?_, al _⟩
          rw [HE.out]
          have := HS.out
          simp_all [endW]
      · have g5 : (k == 5) = false := by simp [h5]
        have he : endsT k s.data.toList = false := by simp [endsT]; omega
        have HE := Lib.hid he
        clear he
        go_enter Try.func108, Try.ntmps108
        go_wp2_with fail
        go_ret
        exact ⟨by rw [HE.out]; rfl, al _⟩
end Go.Proofs.Ytgjhjojbaieeaaa
