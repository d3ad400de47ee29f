/- The laws TypesValid, TypesFits, TypesCompares: walked. Conditions: none. -/
import Derived.Test.YtmbljapjecclaabTyNilly
set_option maxRecDepth 20000
namespace Go.Proofs.Ytmbljapjecclaab
open Go.ChangeShapes Go.WideShapes Go.ChangeAt Go.RowKit
theorem walkTypesValid (v0 : Value) (w : World) (w0 : IsStr v0) : Calls Try.prog 3 #[v0] w fun e w' => e = .returned (.bool true) ∧ Below w.heap.size w w' := by
  obtain ⟨s, rfl, hs⟩ := w0
  have ha : tyOk ⟨#[97, 110, 121]⟩ = true := by decide +kernel
  have HA := Lib.hid ha
  clear ha
  go_enter Try.func3, Try.ntmps3
  go_wp2_with fail
  refine (typesValid_any s _ hs).mono ?_
  rintro e w1 ⟨rfl, b1⟩
  go_wp2_with fail
  refine (refValid_any s _ hs).mono ?_
  rintro e w2 ⟨rfl, b2⟩
  have hE : (tyOk s == tyOk s) = true := by simp
  go_wp2_with fail
  refine (typesValid_any _ _ (by decide)).mono ?_
  rintro e w3 ⟨rfl, b3⟩
  rw [HA.out]
  go_wp2_with fail
  go_ret
  exact ⟨rfl, sq (sq b1 b2) b3⟩
theorem str_eq {a b : ByteArray} (h : (a.toList == b.toList) = true) : a = b := by
  rw [ByteArray.toList_eq, ByteArray.toList_eq, beq_iff_eq] at h
  apply ByteArray.ext
  exact Array.ext' h
/-- What Fits answers. -/
def fitsB (a b : ByteArray) : Bool := if (a.toList == [110, 105, 108]) = true then nilB b else if ((b.toList == [97, 110, 121]) && ((a.toList == [105, 110, 116]) || (a.toList == [115, 116, 114, 105, 110, 103]))) = true then true else (a.toList == b.toList) && tyOk a
theorem fitsB_nil {a b : ByteArray} (h : (a.toList == [110, 105, 108]) = true) : fitsB a b = nilB b := by unfold fitsB; rw [if_pos h]
theorem fitsB_any {a b : ByteArray} (h : (a.toList == [110, 105, 108]) = false) (h2 : ((b.toList == [97, 110, 121]) && ((a.toList == [105, 110, 116]) || (a.toList == [115, 116, 114, 105, 110, 103]))) = true) : fitsB a b = true := by unfold fitsB; rw [if_neg (by rw [h]; simp), if_pos h2]
theorem fitsB_ne {a b : ByteArray} (h : (a.toList == [110, 105, 108]) = false) (h2 : ((b.toList == [97, 110, 121]) && ((a.toList == [105, 110, 116]) || (a.toList == [115, 116, 114, 105, 110, 103]))) = false) : fitsB a b = ((a.toList == b.toList) && tyOk a) := by unfold fitsB; rw [if_neg (by rw [h]; simp), if_neg (by rw [h2]; simp)]
set_option maxHeartbeats 1000000 in
theorem fits_any (a b : ByteArray) (w : World) (ha : a.size ≤ 140737488351232) (hb : b.size ≤ 140737488351232) : Calls Try.prog 22 #[.string a, .string b] w fun e w' => e = .returned (.bool (fitsB a b)) ∧ Below w.heap.size w w' := by
  have HA := Lib.hid (And.intro ha hb)
  clear ha hb
  cases h1 : a.toList == [110, 105, 108]
  · cases h2 : b.toList == [97, 110, 121] <;> cases h3 : a.toList == [105, 110, 116] <;> cases h4 : a.toList == [115, 116, 114, 105, 110, 103]
    case true.true.false | true.true.true | true.false.true =>
      have HF := Lib.hid (fitsB_any h1 (by rw [h2, h3, h4]; rfl))
      go_enter Try.func22, Try.ntmps22
      go_wp2_with fail
      go_ret
      exact ⟨by rw [HF.out]; rfl, Below.refl _ _⟩
    all_goals
      have HF := Lib.hid (fitsB_ne h1 (by rw [h2, h3, h4]; rfl))
      cases h5 : a.toList == b.toList
      · rw [h5] at HF
        go_enter Try.func22, Try.ntmps22
        go_wp2_with fail
        go_ret
        exact ⟨by rw [HF.out]; rfl, Below.refl _ _⟩
      · have HE := Lib.hid (str_eq h5)
        rw [h5] at HF
        go_enter Try.func22, Try.ntmps22
        go_wp2_with fail
        refine (typesValid_any _ _ (by first | exact HA.out.1 | exact HA.out.2)).mono ?_
        rintro e w1 ⟨rfl, hb⟩
        go_wp2_with fail
        go_ret
        exact ⟨by rw [HF.out]; simp [HE.out], hb⟩
  · have HF := Lib.hid (fitsB_nil (b := b) h1)
    go_enter Try.func22, Try.ntmps22
    go_wp2_with fail
    refine (nilly_any b _ HA.out.2).mono ?_
    rintro e w1 ⟨rfl, hb⟩
    go_wp2_with fail
    go_ret
    exact ⟨by rw [HF.out]; rfl, hb⟩
set_option maxHeartbeats 1000000 in
theorem refFits_any (a b : ByteArray) (w : World) (ha : a.size ≤ 140737488351232) (hb : b.size ≤ 140737488351232) : Calls Try.prog 23 #[.string a, .string b] w fun e w' => e = .returned (.bool (fitsB a b)) ∧ Below w.heap.size w w' := by
  have HA := Lib.hid (And.intro ha hb)
  clear ha hb
  cases h1 : a.toList == [110, 105, 108]
  · cases h2 : b.toList == [97, 110, 121] <;> cases h3 : a.toList == [105, 110, 116] <;> cases h4 : a.toList == [115, 116, 114, 105, 110, 103]
    case true.true.false | true.true.true | true.false.true =>
      have HF := Lib.hid (fitsB_any h1 (by rw [h2, h3, h4]; rfl))
      go_enter Try.func23, Try.ntmps23
      go_wp2_with fail
      go_ret
      exact ⟨by rw [HF.out]; rfl, Below.refl _ _⟩
    all_goals
      have HF := Lib.hid (fitsB_ne h1 (by rw [h2, h3, h4]; rfl))
      cases h5 : a.toList == b.toList
      · rw [h5] at HF
        go_enter Try.func23, Try.ntmps23
        go_wp2_with fail
        refine (refValid_any _ _ (by first | exact HA.out.1 | exact HA.out.2)).mono ?_
        rintro e w1 ⟨rfl, hb⟩
        generalize hv : tyOk a = v at *
        cases v
        all_goals
          clear hv
          go_wp2_with fail
          go_ret
          exact ⟨by rw [HF.out]; rfl, hb⟩
      · have HE := Lib.hid (str_eq h5)
        rw [h5] at HF
        go_enter Try.func23, Try.ntmps23
        go_wp2_with fail
        refine (refValid_any _ _ (by first | exact HA.out.1 | exact HA.out.2)).mono ?_
        rintro e w1 ⟨rfl, hb⟩
        generalize hv : tyOk a = v at *
        cases v
        all_goals
          clear hv
          go_wp2_with fail
          go_ret
          exact ⟨by rw [HF.out]; rfl, hb⟩
  · have HF := Lib.hid (fitsB_nil (b := b) h1)
    go_enter Try.func23, Try.ntmps23
    go_wp2_with fail
    refine (mayNil_any b _ HA.out.2).mono ?_
    rintro e w1 ⟨rfl, hb⟩
    go_wp2_with fail
    go_ret
    exact ⟨by rw [HF.out]; rfl, hb⟩
theorem walkTypesFits (v0 v1 : Value) (w : World) (w0 : IsStr v0) (w1 : IsStr v1) : Calls Try.prog 6 #[v0, v1] w fun e w' => e = .returned (.bool true) ∧ Below w.heap.size w w' := by
  obtain ⟨a, rfl, ha⟩ := w0
  obtain ⟨b, rfl, hb⟩ := w1
  have HA := Lib.hid (show fitsB ⟨#[105, 110, 116]⟩ ⟨#[97, 110, 121]⟩ = true by decide +kernel)
  go_enter Try.func6, Try.ntmps6
  go_wp2_with fail
  refine (fits_any a b _ ha hb).mono ?_
  rintro e w1 ⟨rfl, b1⟩
  go_wp2_with fail
  refine (refFits_any a b _ ha hb).mono ?_
  rintro e w2 ⟨rfl, b2⟩
  have hE : (fitsB a b == fitsB a b) = true := by simp
  go_wp2_with fail
  refine (fits_any _ _ _ (by decide) (by decide)).mono ?_
  rintro e w3 ⟨rfl, b3⟩
  rw [HA.out]
  go_wp2_with fail
  go_ret
  exact ⟨rfl, sq (sq b1 b2) b3⟩
/-- What Compares answers. -/
def cmpB (a b : ByteArray) : Bool := if (a.toList == [110, 105, 108]) = true then (if (b.toList == [110, 105, 108]) = true then false else nilB b) else if (b.toList == [110, 105, 108]) = true then nilB a else (a.toList == b.toList) && (tyOk a && !nilB a)
theorem nilB_nil {a : ByteArray} (h : (a.toList == [110, 105, 108]) = true) : nilB a = false := by
  obtain rfl : a = ⟨#[110, 105, 108]⟩ := by
    rw [ByteArray.toList_eq, beq_iff_eq] at h
    apply ByteArray.ext
    exact Array.ext' h
  decide +kernel
theorem cmpB_nil {a b : ByteArray} (h : (a.toList == [110, 105, 108]) = true) : cmpB a b = nilB b := by
  unfold cmpB
  rw [if_pos h]
  split
  · rename_i h2; rw [nilB_nil h2]
  · rfl
theorem cmpB_nil' {a b : ByteArray} (h : (b.toList == [110, 105, 108]) = true) : cmpB a b = nilB a := by
  unfold cmpB
  split
  · rename_i h2; rw [nilB_nil h2]
  · rfl
theorem cmpB_ne {a b : ByteArray} (h : (a.toList == [110, 105, 108]) = false) (h2 : (b.toList == [110, 105, 108]) = false) : cmpB a b = ((a.toList == b.toList) && (tyOk a && !nilB a)) := by unfold cmpB; rw [if_neg (by rw [h]; simp), if_neg (by rw [h2]; simp)]
theorem plain_iff (a : ByteArray) : (tyOk a && !nilB a) = ((a.toList == [105, 110, 116]) || (a.toList == [98, 111, 111, 108]) || (a.toList == [115, 116, 114, 105, 110, 103])) := by
  unfold nilB
  have key : ∀ x y z v : Bool, (x = true → v = true) → (y = true → v = true) → (z = true → v = true) → (v && !(v && !x && !y && !z)) = (x || y || z) := by decide
  have mk : ∀ j, j < 6 → ∀ l, (tw j).data.toList = l → (a.toList == l) = true → tyOk a = true := by
    intro j hj l hl h
    have e : a = tw j := by
      rw [ByteArray.toList_eq, beq_iff_eq] at h
      apply ByteArray.ext
      apply Array.ext'
      rw [h, hl]
    rw [e]; exact tyOk_tw j hj
  exact key _ _ _ _ (mk 0 (by omega) _ rfl) (mk 1 (by omega) _ rfl) (mk 2 (by omega) _ rfl)
set_option maxHeartbeats 1000000 in
theorem compares_any (a b : ByteArray) (w : World) (ha : a.size ≤ 140737488351232) (hb : b.size ≤ 140737488351232) : Calls Try.prog 24 #[.string a, .string b] w fun e w' => e = .returned (.bool (cmpB a b)) ∧ Below w.heap.size w w' := by
  have HA := Lib.hid (And.intro ha hb)
  clear ha hb
  cases h2 : b.toList == [110, 105, 108]
  · cases h1 : a.toList == [110, 105, 108]
    · have HF := Lib.hid ((cmpB_ne h1 h2).trans (by rw [plain_iff]))
      cases h5 : a.toList == b.toList
      · rw [h5] at HF
        go_enter Try.func24, Try.ntmps24
        go_wp2_with fail
        go_ret
        exact ⟨by rw [HF.out]; rfl, Below.refl _ _⟩
      · rw [h5] at HF
        cases h6 : a.toList == [105, 110, 116] <;> cases h7 : a.toList == [98, 111, 111, 108] <;> cases h8 : a.toList == [115, 116, 114, 105, 110, 103] <;>
        (rw [h6, h7, h8] at HF
         go_enter Try.func24, Try.ntmps24
         go_wp2_with fail
         go_ret
         exact ⟨by rw [HF.out]; rfl, Below.refl _ _⟩)
    · have HF := Lib.hid (cmpB_nil (b := b) h1)
      go_enter Try.func24, Try.ntmps24
      go_wp2_with fail
      refine (nilly_any b _ HA.out.2).mono ?_
      rintro e w1 ⟨rfl, hb⟩
      go_wp2_with fail
      go_ret
      exact ⟨by rw [HF.out]; rfl, hb⟩
  · have HF := Lib.hid (cmpB_nil' (a := a) h2)
    go_enter Try.func24, Try.ntmps24
    go_wp2_with fail
    refine (nilly_any a _ HA.out.1).mono ?_
    rintro e w1 ⟨rfl, hb⟩
    go_wp2_with fail
    go_ret
    exact ⟨by rw [HF.out]; rfl, hb⟩
set_option maxHeartbeats 1000000 in
theorem refCompares_any (a b : ByteArray) (w : World) (ha : a.size ≤ 140737488351232) (hb : b.size ≤ 140737488351232) : Calls Try.prog 25 #[.string a, .string b] w fun e w' => e = .returned (.bool (cmpB a b)) ∧ Below w.heap.size w w' := by
  have HA := Lib.hid (And.intro ha hb)
  clear ha hb
  cases h1 : a.toList == [110, 105, 108]
  · cases h2 : b.toList == [110, 105, 108]
    · have HF := Lib.hid (cmpB_ne h1 h2)
      cases h5 : a.toList == b.toList
      · rw [h5] at HF
        go_enter Try.func25, Try.ntmps25
        go_wp2_with fail
        go_ret
        exact ⟨by rw [HF.out]; rfl, Below.refl _ _⟩
      · rw [h5] at HF
        go_enter Try.func25, Try.ntmps25
        go_wp2_with fail
        refine (refValid_any a _ HA.out.1).mono ?_
        rintro e w1 ⟨rfl, hb1⟩
        generalize hv : tyOk a = v at *
        cases v
        · clear hv
          go_wp2_with fail
          go_ret
          exact ⟨by rw [HF.out]; rfl, hb1⟩
        · clear hv
          go_wp2_with fail
          refine (mayNil_any a _ HA.out.1).mono ?_
          rintro e w2 ⟨rfl, hb2⟩
          go_wp2_with fail
          go_ret
          exact ⟨by rw [HF.out]; rfl, sq hb1 hb2⟩
    · have HF := Lib.hid (cmpB_nil' (a := a) h2)
      go_enter Try.func25, Try.ntmps25
      go_wp2_with fail
      refine (mayNil_any a _ HA.out.1).mono ?_
      rintro e w1 ⟨rfl, hb⟩
      go_wp2_with fail
      go_ret
      exact ⟨by rw [HF.out]; rfl, hb⟩
  · have HF := Lib.hid (cmpB_nil (b := b) h1)
    cases h2 : b.toList == [110, 105, 108]
    · go_enter Try.func25, Try.ntmps25
      go_wp2_with fail
      refine (mayNil_any b _ HA.out.2).mono ?_
      rintro e w1 ⟨rfl, hb⟩
      go_wp2_with fail
      go_ret
      exact ⟨by rw [HF.out]; rfl, hb⟩
    · rw [nilB_nil h2] at HF
      go_enter Try.func25, Try.ntmps25
      go_wp2_with fail
      go_ret
      exact ⟨by rw [HF.out]; rfl, Below.refl _ _⟩
theorem walkTypesCompares (v0 v1 : Value) (w : World) (w0 : IsStr v0) (w1 : IsStr v1) : Calls Try.prog 7 #[v0, v1] w fun e w' => e = .returned (.bool true) ∧ Below w.heap.size w w' := by
  obtain ⟨a, rfl, ha⟩ := w0
  obtain ⟨b, rfl, hb⟩ := w1
  have HA := Lib.hid (show cmpB ⟨#[105, 110, 116]⟩ ⟨#[105, 110, 116]⟩ = true by decide +kernel)
  go_enter Try.func7, Try.ntmps7
  go_wp2_with fail
  refine (compares_any a b _ ha hb).mono ?_
  rintro e w1 ⟨rfl, b1⟩
  go_wp2_with fail
  refine (refCompares_any a b _ ha hb).mono ?_
  rintro e w2 ⟨rfl, b2⟩
  have hE : (cmpB a b == cmpB a b) = true := by simp
  go_wp2_with fail
  refine (compares_any _ _ _ (by decide) (by decide)).mono ?_
  rintro e w3 ⟨rfl, b3⟩
  rw [HA.out]
  go_wp2_with fail
  go_ret
  exact ⟨rfl, sq (sq b1 b2) b3⟩
end Go.Proofs.Ytmbljapjecclaab
