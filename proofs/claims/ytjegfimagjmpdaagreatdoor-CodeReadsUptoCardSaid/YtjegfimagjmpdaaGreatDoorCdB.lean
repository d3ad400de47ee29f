/- '(code.judge).field'. Printed by gen_cdb.py. Conditions: the numbers' ranges. -/
import Derived.Test.YtjegfimagjmpdaaGreatDoorCdA
import Derived.Deep.QuietTactic
import Derived.BigQuiet
set_option maxRecDepth 20000
namespace Go.Proofs.YtjegfimagjmpdaaGreatDoor
open Go.ChangeShapes Go.WideShapes Go.ChangeAt Go.RowKit
/-- What a field is judged by: how many functions, texts, instructions; the function's slots and boxes; each function's boxes. -/
structure CX where
  nf : Nat
  nt : Nat
  ni : Nat
  sl : Int
  ca : Int
  caps : Nat → Int
def fieldB (X : CX) (k : UInt8) (n next : Int) : Bool :=
  if k = 115 then withinB n 0 (X.sl - 1)
  else if k = 110 then true
  else if k = 98 then withinB n 0 1
  else if k = 120 then withinB n 0 ((X.nt : Int) - 1)
  else if k = 102 then withinB n 0 ((X.nf : Int) - 1) && decide (X.caps n.toNat = 0)
  else if k = 103 then withinB n 0 ((X.nf : Int) - 1)
  else if k = 116 then withinB n 0 ((X.ni : Int) - 1)
  else if k = 111 then withinB n 1 10
  else if k = 99 then withinB n 11 16
  else if k = 107 then withinB n 0 7
  else if k = 97 then decide (0 ≤ n)
  else if k = 114 then withinB n (-1) (X.sl - 1)
  else if k = 112 then withinB n 0 4
  else if k = 80 then withinB n 0 4
  else if k = 119 then withinB n 0 (X.ca - 1)
  else if k = 91 then withinB next 0 X.sl && withinB n 0 (X.sl - next)
  else if k = 40 then withinB next 0 X.sl && withinB n 0 (X.sl - next)
  else if k = 93 then true
  else if k = 41 then true
  else decide (n = 0)
def lettersL : List UInt8 := [115, 110, 98, 120, 102, 103, 116, 111, 99, 107, 97, 114, 112, 80, 119, 91, 40, 93, 41, 45]
/-- The functions' boxes, as they stand in memory. -/
def CapsAt (w : World) (FA : Option Addr) (nf : Nat) (caps : Nat → Int) : Prop := 0 < nf → ∃ b off, FA = some ⟨b, off, none⟩ ∧ b < w.heap.size ∧ ∀ n < nf, w.cell? ⟨b, off + n * 5 + 3, none⟩ = some (.int .i64 (caps n))
theorem CapsAt.into {w w' : World} {FA : Option Addr} {nf : Nat} {caps : Nat → Int} (h : CapsAt w FA nf caps) (hb : Below w.heap.size w w') : CapsAt w' FA nf caps := fun h0 => by
  obtain ⟨b, off, e, hl, hc⟩ := h h0
  exact ⟨b, off, e, Nat.lt_of_lt_of_le hl hb.size, fun n hn => (hb.cell (p := ⟨b, _, none⟩) hl).trans (hc n hn)⟩
theorem within_ge {n lo hi : Int} (h : withinB n lo hi = true) : lo ≤ n ∧ n ≤ hi := by
  unfold withinB at h
  simpa using h
section
variable (FA TA IA : Option Addr) (fc tc ic : Nat) (nm : ByteArray) (pa : Int) (X : CX) (n next : Int) (w : World)
def judgeV : Value := .agg #[.slice FA X.nf fc, .slice TA X.nt tc, .string nm, .int .i64 pa, .int .i64 X.sl, .int .i64 X.ca, .slice IA X.ni ic]
/-- The numbers' ranges. -/
structure CXok (X : CX) : Prop where
  sl : 0 ≤ X.sl ∧ X.sl ≤ 3000
  ca : 0 ≤ X.ca ∧ X.ca ≤ 200
  nf : X.nf ≤ 140737488351232
  nt : X.nt ≤ 140737488351232
  ni : X.ni ≤ 140737488351232
theorem field_115 (hX : CXok X) (hc : CapsAt w FA X.nf X.caps) : Calls Tryz.prog 59 #[judgeV FA TA IA fc tc ic nm pa X, .int .u8 115, .int .i64 n, .int .i64 next] w fun e w' => e = .returned (.bool (fieldB X 115 n next)) ∧ Below w.heap.size w w' := by
  obtain ⟨nf, nt, ni, sl, ca, caps⟩ := X
  obtain ⟨hsl, hca, hnf, hnt, hni⟩ := hX
  simp only at hsl hca hnf hnt hni hc
  unfold judgeV
  simp only
  clear hc
  have HE := Lib.hid (show fieldB ⟨nf, nt, ni, sl, ca, caps⟩ 115 n next = withinB n 0 (sl - 1) from rfl)
  go_enter Tryz.func59, Tryz.ntmps59
  go_wp2_with fail
  refine (within_any _ _ _ _).mono ?_
  rintro e w1 ⟨rfl, rfl⟩
  generalize withinB n 0 (sl - 1) = bb at *
  go_wp2_with fail
  go_ret
  exact ⟨by rw [HE.out]; rfl, al _⟩
theorem field_98 (hX : CXok X) (hc : CapsAt w FA X.nf X.caps) : Calls Tryz.prog 59 #[judgeV FA TA IA fc tc ic nm pa X, .int .u8 98, .int .i64 n, .int .i64 next] w fun e w' => e = .returned (.bool (fieldB X 98 n next)) ∧ Below w.heap.size w w' := by
  obtain ⟨nf, nt, ni, sl, ca, caps⟩ := X
  obtain ⟨hsl, hca, hnf, hnt, hni⟩ := hX
  simp only at hsl hca hnf hnt hni hc
  unfold judgeV
  simp only
  clear hc
  have HE := Lib.hid (show fieldB ⟨nf, nt, ni, sl, ca, caps⟩ 98 n next = withinB n 0 1 from rfl)
  go_enter Tryz.func59, Tryz.ntmps59
  go_wp2_with fail
  refine (within_any _ _ _ _).mono ?_
  rintro e w1 ⟨rfl, rfl⟩
  generalize withinB n 0 1 = bb at *
  go_wp2_with fail
  go_ret
  exact ⟨by rw [HE.out]; rfl, al _⟩
theorem field_120 (hX : CXok X) (hc : CapsAt w FA X.nf X.caps) : Calls Tryz.prog 59 #[judgeV FA TA IA fc tc ic nm pa X, .int .u8 120, .int .i64 n, .int .i64 next] w fun e w' => e = .returned (.bool (fieldB X 120 n next)) ∧ Below w.heap.size w w' := by
  obtain ⟨nf, nt, ni, sl, ca, caps⟩ := X
  obtain ⟨hsl, hca, hnf, hnt, hni⟩ := hX
  simp only at hsl hca hnf hnt hni hc
  unfold judgeV
  simp only
  clear hc
  have HE := Lib.hid (show fieldB ⟨nf, nt, ni, sl, ca, caps⟩ 120 n next = withinB n 0 ((nt : Int) - 1) from rfl)
  go_enter Tryz.func59, Tryz.ntmps59
  go_wp2_with fail
  refine (within_any _ _ _ _).mono ?_
  rintro e w1 ⟨rfl, rfl⟩
  generalize withinB n 0 ((nt : Int) - 1) = bb at *
  go_wp2_with fail
  go_ret
  exact ⟨by rw [HE.out]; rfl, al _⟩
theorem field_103 (hX : CXok X) (hc : CapsAt w FA X.nf X.caps) : Calls Tryz.prog 59 #[judgeV FA TA IA fc tc ic nm pa X, .int .u8 103, .int .i64 n, .int .i64 next] w fun e w' => e = .returned (.bool (fieldB X 103 n next)) ∧ Below w.heap.size w w' := by
  obtain ⟨nf, nt, ni, sl, ca, caps⟩ := X
  obtain ⟨hsl, hca, hnf, hnt, hni⟩ := hX
  simp only at hsl hca hnf hnt hni hc
  unfold judgeV
  simp only
  clear hc
  have HE := Lib.hid (show fieldB ⟨nf, nt, ni, sl, ca, caps⟩ 103 n next = withinB n 0 ((nf : Int) - 1) from rfl)
  go_enter Tryz.func59, Tryz.ntmps59
  go_wp2_with fail
  refine (within_any _ _ _ _).mono ?_
  rintro e w1 ⟨rfl, rfl⟩
  generalize withinB n 0 ((nf : Int) - 1) = bb at *
  go_wp2_with fail
  go_ret
  exact ⟨by rw [HE.out]; rfl, al _⟩
theorem field_116 (hX : CXok X) (hc : CapsAt w FA X.nf X.caps) : Calls Tryz.prog 59 #[judgeV FA TA IA fc tc ic nm pa X, .int .u8 116, .int .i64 n, .int .i64 next] w fun e w' => e = .returned (.bool (fieldB X 116 n next)) ∧ Below w.heap.size w w' := by
  obtain ⟨nf, nt, ni, sl, ca, caps⟩ := X
  obtain ⟨hsl, hca, hnf, hnt, hni⟩ := hX
  simp only at hsl hca hnf hnt hni hc
  unfold judgeV
  simp only
  clear hc
  have HE := Lib.hid (show fieldB ⟨nf, nt, ni, sl, ca, caps⟩ 116 n next = withinB n 0 ((ni : Int) - 1) from rfl)
  go_enter Tryz.func59, Tryz.ntmps59
  go_wp2_with fail
  refine (within_any _ _ _ _).mono ?_
  rintro e w1 ⟨rfl, rfl⟩
  generalize withinB n 0 ((ni : Int) - 1) = bb at *
  go_wp2_with fail
  go_ret
  exact ⟨by rw [HE.out]; rfl, al _⟩
theorem field_111 (hX : CXok X) (hc : CapsAt w FA X.nf X.caps) : Calls Tryz.prog 59 #[judgeV FA TA IA fc tc ic nm pa X, .int .u8 111, .int .i64 n, .int .i64 next] w fun e w' => e = .returned (.bool (fieldB X 111 n next)) ∧ Below w.heap.size w w' := by
  obtain ⟨nf, nt, ni, sl, ca, caps⟩ := X
  obtain ⟨hsl, hca, hnf, hnt, hni⟩ := hX
  simp only at hsl hca hnf hnt hni hc
  unfold judgeV
  simp only
  clear hc
  have HE := Lib.hid (show fieldB ⟨nf, nt, ni, sl, ca, caps⟩ 111 n next = withinB n 1 10 from rfl)
  go_enter Tryz.func59, Tryz.ntmps59
  go_wp2_with fail
  refine (within_any _ _ _ _).mono ?_
  rintro e w1 ⟨rfl, rfl⟩
  generalize withinB n 1 10 = bb at *
  go_wp2_with fail
  go_ret
  exact ⟨by rw [HE.out]; rfl, al _⟩
theorem field_99 (hX : CXok X) (hc : CapsAt w FA X.nf X.caps) : Calls Tryz.prog 59 #[judgeV FA TA IA fc tc ic nm pa X, .int .u8 99, .int .i64 n, .int .i64 next] w fun e w' => e = .returned (.bool (fieldB X 99 n next)) ∧ Below w.heap.size w w' := by
  obtain ⟨nf, nt, ni, sl, ca, caps⟩ := X
  obtain ⟨hsl, hca, hnf, hnt, hni⟩ := hX
  simp only at hsl hca hnf hnt hni hc
  unfold judgeV
  simp only
  clear hc
  have HE := Lib.hid (show fieldB ⟨nf, nt, ni, sl, ca, caps⟩ 99 n next = withinB n 11 16 from rfl)
  go_enter Tryz.func59, Tryz.ntmps59
  go_wp2_with fail
  refine (within_any _ _ _ _).mono ?_
  rintro e w1 ⟨rfl, rfl⟩
  generalize withinB n 11 16 = bb at *
  go_wp2_with fail
  go_ret
  exact ⟨by rw [HE.out]; rfl, al _⟩
theorem field_107 (hX : CXok X) (hc : CapsAt w FA X.nf X.caps) : Calls Tryz.prog 59 #[judgeV FA TA IA fc tc ic nm pa X, .int .u8 107, .int .i64 n, .int .i64 next] w fun e w' => e = .returned (.bool (fieldB X 107 n next)) ∧ Below w.heap.size w w' := by
  obtain ⟨nf, nt, ni, sl, ca, caps⟩ := X
  obtain ⟨hsl, hca, hnf, hnt, hni⟩ := hX
  simp only at hsl hca hnf hnt hni hc
  unfold judgeV
  simp only
  clear hc
  have HE := Lib.hid (show fieldB ⟨nf, nt, ni, sl, ca, caps⟩ 107 n next = withinB n 0 7 from rfl)
  go_enter Tryz.func59, Tryz.ntmps59
  go_wp2_with fail
  refine (within_any _ _ _ _).mono ?_
  rintro e w1 ⟨rfl, rfl⟩
  generalize withinB n 0 7 = bb at *
  go_wp2_with fail
  go_ret
  exact ⟨by rw [HE.out]; rfl, al _⟩
theorem field_114 (hX : CXok X) (hc : CapsAt w FA X.nf X.caps) : Calls Tryz.prog 59 #[judgeV FA TA IA fc tc ic nm pa X, .int .u8 114, .int .i64 n, .int .i64 next] w fun e w' => e = .returned (.bool (fieldB X 114 n next)) ∧ Below w.heap.size w w' := by
  obtain ⟨nf, nt, ni, sl, ca, caps⟩ := X
  obtain ⟨hsl, hca, hnf, hnt, hni⟩ := hX
  simp only at hsl hca hnf hnt hni hc
  unfold judgeV
  simp only
  clear hc
  have HE := Lib.hid (show fieldB ⟨nf, nt, ni, sl, ca, caps⟩ 114 n next = withinB n (-1) (sl - 1) from rfl)
  go_enter Tryz.func59, Tryz.ntmps59
  go_wp2_with fail
  refine (within_any _ _ _ _).mono ?_
  rintro e w1 ⟨rfl, rfl⟩
  generalize withinB n (-1) (sl - 1) = bb at *
  go_wp2_with fail
  go_ret
  exact ⟨by rw [HE.out]; rfl, al _⟩
theorem field_112 (hX : CXok X) (hc : CapsAt w FA X.nf X.caps) : Calls Tryz.prog 59 #[judgeV FA TA IA fc tc ic nm pa X, .int .u8 112, .int .i64 n, .int .i64 next] w fun e w' => e = .returned (.bool (fieldB X 112 n next)) ∧ Below w.heap.size w w' := by
  obtain ⟨nf, nt, ni, sl, ca, caps⟩ := X
  obtain ⟨hsl, hca, hnf, hnt, hni⟩ := hX
  simp only at hsl hca hnf hnt hni hc
  unfold judgeV
  simp only
  clear hc
  have HE := Lib.hid (show fieldB ⟨nf, nt, ni, sl, ca, caps⟩ 112 n next = withinB n 0 4 from rfl)
  go_enter Tryz.func59, Tryz.ntmps59
  go_wp2_with fail
  refine (within_any _ _ _ _).mono ?_
  rintro e w1 ⟨rfl, rfl⟩
  generalize withinB n 0 4 = bb at *
  go_wp2_with fail
  go_ret
  exact ⟨by rw [HE.out]; rfl, al _⟩
theorem field_80 (hX : CXok X) (hc : CapsAt w FA X.nf X.caps) : Calls Tryz.prog 59 #[judgeV FA TA IA fc tc ic nm pa X, .int .u8 80, .int .i64 n, .int .i64 next] w fun e w' => e = .returned (.bool (fieldB X 80 n next)) ∧ Below w.heap.size w w' := by
  obtain ⟨nf, nt, ni, sl, ca, caps⟩ := X
  obtain ⟨hsl, hca, hnf, hnt, hni⟩ := hX
  simp only at hsl hca hnf hnt hni hc
  unfold judgeV
  simp only
  clear hc
  have HE := Lib.hid (show fieldB ⟨nf, nt, ni, sl, ca, caps⟩ 80 n next = withinB n 0 4 from rfl)
  go_enter Tryz.func59, Tryz.ntmps59
  go_wp2_with fail
  refine (within_any _ _ _ _).mono ?_
  rintro e w1 ⟨rfl, rfl⟩
  generalize withinB n 0 4 = bb at *
  go_wp2_with fail
  go_ret
  exact ⟨by rw [HE.out]; rfl, al _⟩
theorem field_119 (hX : CXok X) (hc : CapsAt w FA X.nf X.caps) : Calls Tryz.prog 59 #[judgeV FA TA IA fc tc ic nm pa X, .int .u8 119, .int .i64 n, .int .i64 next] w fun e w' => e = .returned (.bool (fieldB X 119 n next)) ∧ Below w.heap.size w w' := by
  obtain ⟨nf, nt, ni, sl, ca, caps⟩ := X
  obtain ⟨hsl, hca, hnf, hnt, hni⟩ := hX
  simp only at hsl hca hnf hnt hni hc
  unfold judgeV
  simp only
  clear hc
  have HE := Lib.hid (show fieldB ⟨nf, nt, ni, sl, ca, caps⟩ 119 n next = withinB n 0 (ca - 1) from rfl)
  go_enter Tryz.func59, Tryz.ntmps59
  go_wp2_with fail
  refine (within_any _ _ _ _).mono ?_
  rintro e w1 ⟨rfl, rfl⟩
  generalize withinB n 0 (ca - 1) = bb at *
  go_wp2_with fail
  go_ret
  exact ⟨by rw [HE.out]; rfl, al _⟩
theorem field_110 (hX : CXok X) (hc : CapsAt w FA X.nf X.caps) : Calls Tryz.prog 59 #[judgeV FA TA IA fc tc ic nm pa X, .int .u8 110, .int .i64 n, .int .i64 next] w fun e w' => e = .returned (.bool (fieldB X 110 n next)) ∧ Below w.heap.size w w' := by
  obtain ⟨nf, nt, ni, sl, ca, caps⟩ := X
  obtain ⟨hsl, hca, hnf, hnt, hni⟩ := hX
  simp only at hsl hca hnf hnt hni hc
  unfold judgeV
  simp only
  clear hc
  go_enter Tryz.func59, Tryz.ntmps59
  go_wp2_with fail
  go_ret
  exact ⟨rfl, al _⟩
theorem field_93 (hX : CXok X) (hc : CapsAt w FA X.nf X.caps) : Calls Tryz.prog 59 #[judgeV FA TA IA fc tc ic nm pa X, .int .u8 93, .int .i64 n, .int .i64 next] w fun e w' => e = .returned (.bool (fieldB X 93 n next)) ∧ Below w.heap.size w w' := by
  obtain ⟨nf, nt, ni, sl, ca, caps⟩ := X
  obtain ⟨hsl, hca, hnf, hnt, hni⟩ := hX
  simp only at hsl hca hnf hnt hni hc
  unfold judgeV
  simp only
  clear hc
  go_enter Tryz.func59, Tryz.ntmps59
  go_wp2_with fail
  go_ret
  exact ⟨rfl, al _⟩
theorem field_41 (hX : CXok X) (hc : CapsAt w FA X.nf X.caps) : Calls Tryz.prog 59 #[judgeV FA TA IA fc tc ic nm pa X, .int .u8 41, .int .i64 n, .int .i64 next] w fun e w' => e = .returned (.bool (fieldB X 41 n next)) ∧ Below w.heap.size w w' := by
  obtain ⟨nf, nt, ni, sl, ca, caps⟩ := X
  obtain ⟨hsl, hca, hnf, hnt, hni⟩ := hX
  simp only at hsl hca hnf hnt hni hc
  unfold judgeV
  simp only
  clear hc
  go_enter Tryz.func59, Tryz.ntmps59
  go_wp2_with fail
  go_ret
  exact ⟨rfl, al _⟩
theorem field_97 (hX : CXok X) (hc : CapsAt w FA X.nf X.caps) : Calls Tryz.prog 59 #[judgeV FA TA IA fc tc ic nm pa X, .int .u8 97, .int .i64 n, .int .i64 next] w fun e w' => e = .returned (.bool (fieldB X 97 n next)) ∧ Below w.heap.size w w' := by
  obtain ⟨nf, nt, ni, sl, ca, caps⟩ := X
  obtain ⟨hsl, hca, hnf, hnt, hni⟩ := hX
  simp only at hsl hca hnf hnt hni hc
  unfold judgeV
  simp only
  clear hc
  go_enter Tryz.func59, Tryz.ntmps59
  go_wp2_with fail
  go_ret
  exact ⟨rfl, al _⟩
theorem field_45 (hX : CXok X) (hc : CapsAt w FA X.nf X.caps) : Calls Tryz.prog 59 #[judgeV FA TA IA fc tc ic nm pa X, .int .u8 45, .int .i64 n, .int .i64 next] w fun e w' => e = .returned (.bool (fieldB X 45 n next)) ∧ Below w.heap.size w w' := by
  obtain ⟨nf, nt, ni, sl, ca, caps⟩ := X
  obtain ⟨hsl, hca, hnf, hnt, hni⟩ := hX
  simp only at hsl hca hnf hnt hni hc
  unfold judgeV
  simp only
  clear hc
  go_enter Tryz.func59, Tryz.ntmps59
  go_wp2_with fail
  go_ret
  exact ⟨rfl, al _⟩
theorem field_102 (hX : CXok X) (hc : CapsAt w FA X.nf X.caps) : Calls Tryz.prog 59 #[judgeV FA TA IA fc tc ic nm pa X, .int .u8 102, .int .i64 n, .int .i64 next] w fun e w' => e = .returned (.bool (fieldB X 102 n next)) ∧ Below w.heap.size w w' := by
  obtain ⟨nf, nt, ni, sl, ca, caps⟩ := X
  obtain ⟨hsl, hca, hnf, hnt, hni⟩ := hX
  simp only at hsl hca hnf hnt hni hc
  unfold judgeV
  simp only
  have HE := Lib.hid (show fieldB ⟨nf, nt, ni, sl, ca, caps⟩ 102 n next = (withinB n 0 ((nf : Int) - 1) && decide (caps n.toNat = 0)) from rfl)
  cases hb : withinB n 0 ((nf : Int) - 1) with
  | false =>
    rw [hb] at HE
    have HB := Lib.hid hb
    clear hb hc
    go_enter Tryz.func59, Tryz.ntmps59
    go_wp2_with fail
    refine (within_any _ _ _ _).mono ?_
    rintro e w1 ⟨rfl, rfl⟩
    rw [HB.out]
    go_wp2_with fail
    go_ret
    exact ⟨by rw [HE.out]; rfl, al _⟩
  | true =>
    rw [hb] at HE
    obtain ⟨h1, h2⟩ := within_ge hb
    obtain ⟨m, rfl⟩ : ∃ m : Nat, n = m := ⟨n.toNat, by omega⟩
    have hm : m < nf := by omega
    obtain ⟨b, off, rfl, hlt, hcell⟩ := hc (by omega)
    have hcm := hcell m hm
    rw [Int.toNat_natCast] at HE
    have HB := Lib.hid hb
    have hmi : (m : Int) < (nf : Int) := by omega
    clear hb hcell h1 h2
    generalize caps m = cm at *
    go_enter Tryz.func59, Tryz.ntmps59
    go_wp2_with fail
    refine (within_any _ _ _ _).mono ?_
    rintro e w1 ⟨rfl, rfl⟩
    rw [HB.out]
    by_cases h0 : cm = 0
    · have h0b : (cm == 0) = true := by simpa using h0
      rw [decide_eq_true h0] at HE
      clear h0
      go_wp2_with fail
      go_ret
      exact ⟨by rw [HE.out]; rfl, al _⟩
    · have h0b : (cm == 0) = false := by simpa using h0
      rw [decide_eq_false h0] at HE
      clear h0
      go_wp2_with fail
      go_ret
      exact ⟨by rw [HE.out]; rfl, al _⟩
theorem field_91 (hX : CXok X) (hc : CapsAt w FA X.nf X.caps) : Calls Tryz.prog 59 #[judgeV FA TA IA fc tc ic nm pa X, .int .u8 91, .int .i64 n, .int .i64 next] w fun e w' => e = .returned (.bool (fieldB X 91 n next)) ∧ Below w.heap.size w w' := by
  obtain ⟨nf, nt, ni, sl, ca, caps⟩ := X
  obtain ⟨hsl, hca, hnf, hnt, hni⟩ := hX
  simp only at hsl hca hnf hnt hni hc
  unfold judgeV
  simp only
  clear hc
  have HE := Lib.hid (show fieldB ⟨nf, nt, ni, sl, ca, caps⟩ 91 n next = (withinB next 0 sl && withinB n 0 (sl - next)) from rfl)
  cases hb : withinB next 0 sl with
  | false =>
    rw [hb] at HE
    have HB := Lib.hid hb
    clear hb
    go_enter Tryz.func59, Tryz.ntmps59
    go_wp2_with fail
    refine (within_any _ _ _ _).mono ?_
    rintro e w1 ⟨rfl, rfl⟩
    rw [HB.out]
    go_wp2_with fail
    go_ret
    exact ⟨by rw [HE.out]; rfl, al _⟩
  | true =>
    rw [hb] at HE
    obtain ⟨h1, h2⟩ := within_ge hb
    have HB := Lib.hid hb
    clear hb
    go_enter Tryz.func59, Tryz.ntmps59
    go_wp2_with fail
    refine (within_any _ _ _ _).mono ?_
    rintro e w1 ⟨rfl, rfl⟩
    rw [HB.out]
    go_wp2_with fail
    refine (within_any _ _ _ _).mono ?_
    rintro e w1 ⟨rfl, rfl⟩
    generalize withinB n 0 (sl - next) = bb at *
    go_wp2_with fail
    go_ret
    exact ⟨by rw [HE.out]; rfl, al _⟩
theorem field_40 (hX : CXok X) (hc : CapsAt w FA X.nf X.caps) : Calls Tryz.prog 59 #[judgeV FA TA IA fc tc ic nm pa X, .int .u8 40, .int .i64 n, .int .i64 next] w fun e w' => e = .returned (.bool (fieldB X 40 n next)) ∧ Below w.heap.size w w' := by
  obtain ⟨nf, nt, ni, sl, ca, caps⟩ := X
  obtain ⟨hsl, hca, hnf, hnt, hni⟩ := hX
  simp only at hsl hca hnf hnt hni hc
  unfold judgeV
  simp only
  clear hc
  have HE := Lib.hid (show fieldB ⟨nf, nt, ni, sl, ca, caps⟩ 40 n next = (withinB next 0 sl && withinB n 0 (sl - next)) from rfl)
  cases hb : withinB next 0 sl with
  | false =>
    rw [hb] at HE
    have HB := Lib.hid hb
    clear hb
    go_enter Tryz.func59, Tryz.ntmps59
    go_wp2_with fail
    refine (within_any _ _ _ _).mono ?_
    rintro e w1 ⟨rfl, rfl⟩
    rw [HB.out]
    go_wp2_with fail
    go_ret
    exact ⟨by rw [HE.out]; rfl, al _⟩
  | true =>
    rw [hb] at HE
    obtain ⟨h1, h2⟩ := within_ge hb
    have HB := Lib.hid hb
    clear hb
    go_enter Tryz.func59, Tryz.ntmps59
    go_wp2_with fail
    refine (within_any _ _ _ _).mono ?_
    rintro e w1 ⟨rfl, rfl⟩
    rw [HB.out]
    go_wp2_with fail
    refine (within_any _ _ _ _).mono ?_
    rintro e w1 ⟨rfl, rfl⟩
    generalize withinB n 0 (sl - next) = bb at *
    go_wp2_with fail
    go_ret
    exact ⟨by rw [HE.out]; rfl, al _⟩
end
end Go.Proofs.YtjegfimagjmpdaaGreatDoor
