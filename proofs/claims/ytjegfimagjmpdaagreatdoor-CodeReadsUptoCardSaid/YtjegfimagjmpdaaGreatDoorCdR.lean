/- The document's 'num5', 'fieldRight'. Printed by gen_cdr.py. Conditions: the numbers' ranges. -/
import Derived.Test.YtjegfimagjmpdaaGreatDoorCdP
import Derived.Deep.QuietTactic
import Derived.BigQuiet
set_option maxRecDepth 20000
namespace Go.Proofs.YtjegfimagjmpdaaGreatDoor
open Go.ChangeShapes Go.WideShapes Go.ChangeAt Go.RowKit
theorem num5_any (op a b c d e : Int) (w : World) : Calls Tryz.prog 32 #[.agg #[.int .i64 op, .int .i64 a, .int .i64 b, .int .i64 c, .int .i64 d, .int .i64 e]] w fun r w' => r = .returned (.agg #[.int .i64 a, .int .i64 b, .int .i64 c, .int .i64 d, .int .i64 e]) ∧ Below w.heap.size w w' := by
  go_enter Tryz.func32, Tryz.ntmps32
  go_wp2_with fail
  refine bodyPost_ret (v := .agg #[.int .i64 a, .int .i64 b, .int .i64 c, .int .i64 d, .int .i64 e]) (by simp [results, Tryz.results32, go_sem]) rfl ⟨rfl, ?_⟩
  exact sq (al _) (al _)
/-- Three blocks that were laid, behind a call. -/
theorem boxed3 {w w1 : World} {a b c : Array Value} {ta tb tc : TypeId} (hb : Below (((w.alloc (.cells a ta)).alloc (.cells b tb)).alloc (.cells c tc)).heap.size (((w.alloc (.cells a ta)).alloc (.cells b tb)).alloc (.cells c tc)) w1) :
    (∀ j u, a[j]? = some u → w1.cell? ⟨w.heap.size, j, none⟩ = some u) ∧ (∀ j u, b[j]? = some u → w1.cell? ⟨w.heap.size + 1, j, none⟩ = some u) ∧ (∀ j u, c[j]? = some u → w1.cell? ⟨w.heap.size + 1 + 1, j, none⟩ = some u) := by
  refine ⟨fun j u h => (hb.cell (p := ⟨w.heap.size, j, none⟩) (by simp; omega)).trans ?_, fun j u h => (hb.cell (p := ⟨w.heap.size + 1, j, none⟩) (by simp)).trans ?_, fun j u h => (hb.cell (p := ⟨w.heap.size + 1 + 1, j, none⟩) (by simp)).trans ?_⟩
  · rw [World.cell?_alloc_lt _ _ _ (by simp; omega), World.cell?_alloc_lt _ _ _ (by simp), cell_of_row (w.alloc (.cells a ta)) w.heap.size j a ta (0, 0) (heap_alloc_new w _)]
    exact h
  · rw [World.cell?_alloc_lt _ _ _ (by simp), show w.heap.size + 1 = (w.alloc (.cells a ta)).heap.size by simp, cell_of_row ((w.alloc (.cells a ta)).alloc (.cells b tb)) (w.alloc (.cells a ta)).heap.size j b tb (0, 0) (heap_alloc_new _ _)]
    exact h
  · rw [show w.heap.size + 1 + 1 = ((w.alloc (.cells a ta)).alloc (.cells b tb)).heap.size by simp, cell_of_row (((w.alloc (.cells a ta)).alloc (.cells b tb)).alloc (.cells c tc)) ((w.alloc (.cells a ta)).alloc (.cells b tb)).heap.size j c tc (0, 0) (heap_alloc_new _ _)]
    exact h
theorem within_cases (n lo hi : Int) : (lo ≤ n ∧ n ≤ hi ∧ withinB n lo hi = true) ∨ (lo ≤ n ∧ decide (n ≤ hi) = false ∧ withinB n lo hi = false) ∨ (decide (lo ≤ n) = false ∧ withinB n lo hi = false) := by
  by_cases h1 : lo ≤ n
  · by_cases h2 : n ≤ hi
    · exact .inl ⟨h1, h2, by simp [withinB, h1, h2]⟩
    · exact .inr (.inl ⟨h1, by simpa using h2, by simp [withinB, h2]⟩)
  · exact .inr (.inr ⟨by simpa using h1, by simp [withinB, h1]⟩)
section
variable (FA TA IA : Option Addr) (fc tc ic : Nat) (nm : ByteArray) (pa op a b c d e : Int) (X : CX) (n : Int) (w : World)
def codeV : Value := .agg #[.slice FA X.nf fc, .slice TA X.nt tc]
def fnV : Value := .agg #[.string nm, .int .i64 pa, .int .i64 X.sl, .int .i64 X.ca, .slice IA X.ni ic]
def insVal : Value := .agg #[.int .i64 op, .int .i64 a, .int .i64 b, .int .i64 c, .int .i64 d, .int .i64 e]

theorem fr_n (hX : CXok X) (hc : CapsAt w FA X.nf X.caps) : Calls Tryz.prog 70 #[codeV FA TA fc tc X, fnV IA ic nm pa X, insVal op a b c d e, .string ⟨#[110]⟩, .int .i64 n] w fun r w' => r = .returned (.bool (fieldR X b c d [110] n)) ∧ Below w.heap.size w w' := by
  obtain ⟨nf, nt, ni, sl, ca, caps⟩ := X
  obtain ⟨hsl, hca, hnf, hnt, hni⟩ := hX
  simp only at hsl hca hnf hnt hni hc
  unfold codeV fnV insVal
  simp only
  clear hc
  have HE := Lib.hid (show fieldR ⟨nf, nt, ni, sl, ca, caps⟩ b c d [110] n = true from rfl)
  go_enter Tryz.func70, Tryz.ntmps70
  go_wp2_with fail
  refine (num5_any _ _ _ _ _ _ _).mono ?_
  rintro r w1 ⟨rfl, hb⟩
  have HB := Lib.hid (sq (sq (sq (al _) (al _)) (al _)) hb)
  have hz : w.heap.size < w1.heap.size ∧ w.heap.size + 1 < w1.heap.size ∧ w.heap.size + 1 + 1 < w1.heap.size := by
    have := hb.size
    simp at this
    omega
  obtain ⟨z1, z2, z3⟩ := hz
  obtain ⟨k1, k2, k3⟩ := boxed3 hb
  have p0 : w1.cell? ⟨w.heap.size, 0, none⟩ = some (.slice FA nf fc) := k1 0 _ rfl
  have p1 : w1.cell? ⟨w.heap.size, 1, none⟩ = some (.slice TA nt tc) := k1 1 _ rfl
  have q0 : w1.cell? ⟨w.heap.size + 1, 0, none⟩ = some (.string nm) := k2 0 _ rfl
  have q1 : w1.cell? ⟨w.heap.size + 1, 1, none⟩ = some (.int .i64 pa) := k2 1 _ rfl
  have q2 : w1.cell? ⟨w.heap.size + 1, 2, none⟩ = some (.int .i64 sl) := k2 2 _ rfl
  have q3 : w1.cell? ⟨w.heap.size + 1, 3, none⟩ = some (.int .i64 ca) := k2 3 _ rfl
  have q4 : w1.cell? ⟨w.heap.size + 1, 4, none⟩ = some (.slice IA ni ic) := k2 4 _ rfl
  have r0 : w1.cell? ⟨w.heap.size + 1 + 1, 0, none⟩ = some (.int .i64 op) := k3 0 _ rfl
  have r1 : w1.cell? ⟨w.heap.size + 1 + 1, 1, none⟩ = some (.int .i64 a) := k3 1 _ rfl
  have r2 : w1.cell? ⟨w.heap.size + 1 + 1, 2, none⟩ = some (.int .i64 b) := k3 2 _ rfl
  have r3 : w1.cell? ⟨w.heap.size + 1 + 1, 3, none⟩ = some (.int .i64 c) := k3 3 _ rfl
  have r4 : w1.cell? ⟨w.heap.size + 1 + 1, 4, none⟩ = some (.int .i64 d) := k3 4 _ rfl
  have r5 : w1.cell? ⟨w.heap.size + 1 + 1, 5, none⟩ = some (.int .i64 e) := k3 5 _ rfl
  clear hb k1 k2 k3
  go_wp2_with fail
  go_ret
  exact ⟨by rw [HE.out]; rfl, al2 HB.out _⟩
theorem fr_any (hX : CXok X) (hc : CapsAt w FA X.nf X.caps) : Calls Tryz.prog 70 #[codeV FA TA fc tc X, fnV IA ic nm pa X, insVal op a b c d e, .string ⟨#[97, 110, 121]⟩, .int .i64 n] w fun r w' => r = .returned (.bool (fieldR X b c d [97, 110, 121] n)) ∧ Below w.heap.size w w' := by
  obtain ⟨nf, nt, ni, sl, ca, caps⟩ := X
  obtain ⟨hsl, hca, hnf, hnt, hni⟩ := hX
  simp only at hsl hca hnf hnt hni hc
  unfold codeV fnV insVal
  simp only
  clear hc
  have HE := Lib.hid (show fieldR ⟨nf, nt, ni, sl, ca, caps⟩ b c d [97, 110, 121] n = true from rfl)
  go_enter Tryz.func70, Tryz.ntmps70
  go_wp2_with fail
  refine (num5_any _ _ _ _ _ _ _).mono ?_
  rintro r w1 ⟨rfl, hb⟩
  have HB := Lib.hid (sq (sq (sq (al _) (al _)) (al _)) hb)
  have hz : w.heap.size < w1.heap.size ∧ w.heap.size + 1 < w1.heap.size ∧ w.heap.size + 1 + 1 < w1.heap.size := by
    have := hb.size
    simp at this
    omega
  obtain ⟨z1, z2, z3⟩ := hz
  obtain ⟨k1, k2, k3⟩ := boxed3 hb
  have p0 : w1.cell? ⟨w.heap.size, 0, none⟩ = some (.slice FA nf fc) := k1 0 _ rfl
  have p1 : w1.cell? ⟨w.heap.size, 1, none⟩ = some (.slice TA nt tc) := k1 1 _ rfl
  have q0 : w1.cell? ⟨w.heap.size + 1, 0, none⟩ = some (.string nm) := k2 0 _ rfl
  have q1 : w1.cell? ⟨w.heap.size + 1, 1, none⟩ = some (.int .i64 pa) := k2 1 _ rfl
  have q2 : w1.cell? ⟨w.heap.size + 1, 2, none⟩ = some (.int .i64 sl) := k2 2 _ rfl
  have q3 : w1.cell? ⟨w.heap.size + 1, 3, none⟩ = some (.int .i64 ca) := k2 3 _ rfl
  have q4 : w1.cell? ⟨w.heap.size + 1, 4, none⟩ = some (.slice IA ni ic) := k2 4 _ rfl
  have r0 : w1.cell? ⟨w.heap.size + 1 + 1, 0, none⟩ = some (.int .i64 op) := k3 0 _ rfl
  have r1 : w1.cell? ⟨w.heap.size + 1 + 1, 1, none⟩ = some (.int .i64 a) := k3 1 _ rfl
  have r2 : w1.cell? ⟨w.heap.size + 1 + 1, 2, none⟩ = some (.int .i64 b) := k3 2 _ rfl
  have r3 : w1.cell? ⟨w.heap.size + 1 + 1, 3, none⟩ = some (.int .i64 c) := k3 3 _ rfl
  have r4 : w1.cell? ⟨w.heap.size + 1 + 1, 4, none⟩ = some (.int .i64 d) := k3 4 _ rfl
  have r5 : w1.cell? ⟨w.heap.size + 1 + 1, 5, none⟩ = some (.int .i64 e) := k3 5 _ rfl
  clear hb k1 k2 k3
  go_wp2_with fail
  go_ret
  exact ⟨by rw [HE.out]; rfl, al2 HB.out _⟩
theorem fr_a (hX : CXok X) (hc : CapsAt w FA X.nf X.caps) : Calls Tryz.prog 70 #[codeV FA TA fc tc X, fnV IA ic nm pa X, insVal op a b c d e, .string ⟨#[97]⟩, .int .i64 n] w fun r w' => r = .returned (.bool (fieldR X b c d [97] n)) ∧ Below w.heap.size w w' := by
  obtain ⟨nf, nt, ni, sl, ca, caps⟩ := X
  obtain ⟨hsl, hca, hnf, hnt, hni⟩ := hX
  simp only at hsl hca hnf hnt hni hc
  unfold codeV fnV insVal
  simp only
  clear hc
  have HE := Lib.hid (show fieldR ⟨nf, nt, ni, sl, ca, caps⟩ b c d [97] n = decide (0 ≤ n) from rfl)
  go_enter Tryz.func70, Tryz.ntmps70
  go_wp2_with fail
  refine (num5_any _ _ _ _ _ _ _).mono ?_
  rintro r w1 ⟨rfl, hb⟩
  have HB := Lib.hid (sq (sq (sq (al _) (al _)) (al _)) hb)
  have hz : w.heap.size < w1.heap.size ∧ w.heap.size + 1 < w1.heap.size ∧ w.heap.size + 1 + 1 < w1.heap.size := by
    have := hb.size
    simp at this
    omega
  obtain ⟨z1, z2, z3⟩ := hz
  obtain ⟨k1, k2, k3⟩ := boxed3 hb
  have p0 : w1.cell? ⟨w.heap.size, 0, none⟩ = some (.slice FA nf fc) := k1 0 _ rfl
  have p1 : w1.cell? ⟨w.heap.size, 1, none⟩ = some (.slice TA nt tc) := k1 1 _ rfl
  have q0 : w1.cell? ⟨w.heap.size + 1, 0, none⟩ = some (.string nm) := k2 0 _ rfl
  have q1 : w1.cell? ⟨w.heap.size + 1, 1, none⟩ = some (.int .i64 pa) := k2 1 _ rfl
  have q2 : w1.cell? ⟨w.heap.size + 1, 2, none⟩ = some (.int .i64 sl) := k2 2 _ rfl
  have q3 : w1.cell? ⟨w.heap.size + 1, 3, none⟩ = some (.int .i64 ca) := k2 3 _ rfl
  have q4 : w1.cell? ⟨w.heap.size + 1, 4, none⟩ = some (.slice IA ni ic) := k2 4 _ rfl
  have r0 : w1.cell? ⟨w.heap.size + 1 + 1, 0, none⟩ = some (.int .i64 op) := k3 0 _ rfl
  have r1 : w1.cell? ⟨w.heap.size + 1 + 1, 1, none⟩ = some (.int .i64 a) := k3 1 _ rfl
  have r2 : w1.cell? ⟨w.heap.size + 1 + 1, 2, none⟩ = some (.int .i64 b) := k3 2 _ rfl
  have r3 : w1.cell? ⟨w.heap.size + 1 + 1, 3, none⟩ = some (.int .i64 c) := k3 3 _ rfl
  have r4 : w1.cell? ⟨w.heap.size + 1 + 1, 4, none⟩ = some (.int .i64 d) := k3 4 _ rfl
  have r5 : w1.cell? ⟨w.heap.size + 1 + 1, 5, none⟩ = some (.int .i64 e) := k3 5 _ rfl
  clear hb k1 k2 k3
  go_wp2_with fail
  go_ret
  exact ⟨by rw [HE.out]; rfl, al2 HB.out _⟩
theorem fr_s (hX : CXok X) (hc : CapsAt w FA X.nf X.caps) : Calls Tryz.prog 70 #[codeV FA TA fc tc X, fnV IA ic nm pa X, insVal op a b c d e, .string ⟨#[115]⟩, .int .i64 n] w fun r w' => r = .returned (.bool (fieldR X b c d [115] n)) ∧ Below w.heap.size w w' := by
  obtain ⟨nf, nt, ni, sl, ca, caps⟩ := X
  obtain ⟨hsl, hca, hnf, hnt, hni⟩ := hX
  simp only at hsl hca hnf hnt hni hc
  unfold codeV fnV insVal
  simp only
  clear hc
  have HE := Lib.hid (show fieldR ⟨nf, nt, ni, sl, ca, caps⟩ b c d [115] n = withinB n 0 (sl - 1) from rfl)
  rcases within_cases n 0 (sl - 1) with ⟨h1, h2, hw⟩ | ⟨h1, h2, hw⟩ | ⟨h1, hw⟩
  all_goals
    rw [hw] at HE
    clear hw
    go_enter Tryz.func70, Tryz.ntmps70
    go_wp2_with fail
    refine (num5_any _ _ _ _ _ _ _).mono ?_
    rintro r w1 ⟨rfl, hb⟩
    have HB := Lib.hid (sq (sq (sq (al _) (al _)) (al _)) hb)
    have hz : w.heap.size < w1.heap.size ∧ w.heap.size + 1 < w1.heap.size ∧ w.heap.size + 1 + 1 < w1.heap.size := by
      have := hb.size
      simp at this
      omega
    obtain ⟨z1, z2, z3⟩ := hz
    obtain ⟨k1, k2, k3⟩ := boxed3 hb
    have p0 : w1.cell? ⟨w.heap.size, 0, none⟩ = some (.slice FA nf fc) := k1 0 _ rfl
    have p1 : w1.cell? ⟨w.heap.size, 1, none⟩ = some (.slice TA nt tc) := k1 1 _ rfl
    have q0 : w1.cell? ⟨w.heap.size + 1, 0, none⟩ = some (.string nm) := k2 0 _ rfl
    have q1 : w1.cell? ⟨w.heap.size + 1, 1, none⟩ = some (.int .i64 pa) := k2 1 _ rfl
    have q2 : w1.cell? ⟨w.heap.size + 1, 2, none⟩ = some (.int .i64 sl) := k2 2 _ rfl
    have q3 : w1.cell? ⟨w.heap.size + 1, 3, none⟩ = some (.int .i64 ca) := k2 3 _ rfl
    have q4 : w1.cell? ⟨w.heap.size + 1, 4, none⟩ = some (.slice IA ni ic) := k2 4 _ rfl
    have r0 : w1.cell? ⟨w.heap.size + 1 + 1, 0, none⟩ = some (.int .i64 op) := k3 0 _ rfl
    have r1 : w1.cell? ⟨w.heap.size + 1 + 1, 1, none⟩ = some (.int .i64 a) := k3 1 _ rfl
    have r2 : w1.cell? ⟨w.heap.size + 1 + 1, 2, none⟩ = some (.int .i64 b) := k3 2 _ rfl
    have r3 : w1.cell? ⟨w.heap.size + 1 + 1, 3, none⟩ = some (.int .i64 c) := k3 3 _ rfl
    have r4 : w1.cell? ⟨w.heap.size + 1 + 1, 4, none⟩ = some (.int .i64 d) := k3 4 _ rfl
    have r5 : w1.cell? ⟨w.heap.size + 1 + 1, 5, none⟩ = some (.int .i64 e) := k3 5 _ rfl
    clear hb k1 k2 k3
    go_wp2_with fail
    go_ret
    exact ⟨by rw [HE.out]; rfl, al2 HB.out _⟩
theorem fr_r (hX : CXok X) (hc : CapsAt w FA X.nf X.caps) : Calls Tryz.prog 70 #[codeV FA TA fc tc X, fnV IA ic nm pa X, insVal op a b c d e, .string ⟨#[114]⟩, .int .i64 n] w fun r w' => r = .returned (.bool (fieldR X b c d [114] n)) ∧ Below w.heap.size w w' := by
  obtain ⟨nf, nt, ni, sl, ca, caps⟩ := X
  obtain ⟨hsl, hca, hnf, hnt, hni⟩ := hX
  simp only at hsl hca hnf hnt hni hc
  unfold codeV fnV insVal
  simp only
  clear hc
  have HE := Lib.hid (show fieldR ⟨nf, nt, ni, sl, ca, caps⟩ b c d [114] n = withinB n (-1) (sl - 1) from rfl)
  rcases within_cases n (-1) (sl - 1) with ⟨h1, h2, hw⟩ | ⟨h1, h2, hw⟩ | ⟨h1, hw⟩
  all_goals
    rw [hw] at HE
    clear hw
    go_enter Tryz.func70, Tryz.ntmps70
    go_wp2_with fail
    refine (num5_any _ _ _ _ _ _ _).mono ?_
    rintro r w1 ⟨rfl, hb⟩
    have HB := Lib.hid (sq (sq (sq (al _) (al _)) (al _)) hb)
    have hz : w.heap.size < w1.heap.size ∧ w.heap.size + 1 < w1.heap.size ∧ w.heap.size + 1 + 1 < w1.heap.size := by
      have := hb.size
      simp at this
      omega
    obtain ⟨z1, z2, z3⟩ := hz
    obtain ⟨k1, k2, k3⟩ := boxed3 hb
    have p0 : w1.cell? ⟨w.heap.size, 0, none⟩ = some (.slice FA nf fc) := k1 0 _ rfl
    have p1 : w1.cell? ⟨w.heap.size, 1, none⟩ = some (.slice TA nt tc) := k1 1 _ rfl
    have q0 : w1.cell? ⟨w.heap.size + 1, 0, none⟩ = some (.string nm) := k2 0 _ rfl
    have q1 : w1.cell? ⟨w.heap.size + 1, 1, none⟩ = some (.int .i64 pa) := k2 1 _ rfl
    have q2 : w1.cell? ⟨w.heap.size + 1, 2, none⟩ = some (.int .i64 sl) := k2 2 _ rfl
    have q3 : w1.cell? ⟨w.heap.size + 1, 3, none⟩ = some (.int .i64 ca) := k2 3 _ rfl
    have q4 : w1.cell? ⟨w.heap.size + 1, 4, none⟩ = some (.slice IA ni ic) := k2 4 _ rfl
    have r0 : w1.cell? ⟨w.heap.size + 1 + 1, 0, none⟩ = some (.int .i64 op) := k3 0 _ rfl
    have r1 : w1.cell? ⟨w.heap.size + 1 + 1, 1, none⟩ = some (.int .i64 a) := k3 1 _ rfl
    have r2 : w1.cell? ⟨w.heap.size + 1 + 1, 2, none⟩ = some (.int .i64 b) := k3 2 _ rfl
    have r3 : w1.cell? ⟨w.heap.size + 1 + 1, 3, none⟩ = some (.int .i64 c) := k3 3 _ rfl
    have r4 : w1.cell? ⟨w.heap.size + 1 + 1, 4, none⟩ = some (.int .i64 d) := k3 4 _ rfl
    have r5 : w1.cell? ⟨w.heap.size + 1 + 1, 5, none⟩ = some (.int .i64 e) := k3 5 _ rfl
    clear hb k1 k2 k3
    go_wp2_with fail
    go_quiet (fail)
    go_wp2_with fail
    go_ret
    exact ⟨by rw [HE.out]; rfl, dr (al2 HB.out _) _⟩
theorem fr_b (hX : CXok X) (hc : CapsAt w FA X.nf X.caps) : Calls Tryz.prog 70 #[codeV FA TA fc tc X, fnV IA ic nm pa X, insVal op a b c d e, .string ⟨#[98]⟩, .int .i64 n] w fun r w' => r = .returned (.bool (fieldR X b c d [98] n)) ∧ Below w.heap.size w w' := by
  obtain ⟨nf, nt, ni, sl, ca, caps⟩ := X
  obtain ⟨hsl, hca, hnf, hnt, hni⟩ := hX
  simp only at hsl hca hnf hnt hni hc
  unfold codeV fnV insVal
  simp only
  clear hc
  have HE := Lib.hid (show fieldR ⟨nf, nt, ni, sl, ca, caps⟩ b c d [98] n = withinB n 0 1 from rfl)
  rcases within_cases n 0 1 with ⟨h1, h2, hw⟩ | ⟨h1, h2, hw⟩ | ⟨h1, hw⟩
  all_goals
    rw [hw] at HE
    clear hw
    go_enter Tryz.func70, Tryz.ntmps70
    go_wp2_with fail
    refine (num5_any _ _ _ _ _ _ _).mono ?_
    rintro r w1 ⟨rfl, hb⟩
    have HB := Lib.hid (sq (sq (sq (al _) (al _)) (al _)) hb)
    have hz : w.heap.size < w1.heap.size ∧ w.heap.size + 1 < w1.heap.size ∧ w.heap.size + 1 + 1 < w1.heap.size := by
      have := hb.size
      simp at this
      omega
    obtain ⟨z1, z2, z3⟩ := hz
    obtain ⟨k1, k2, k3⟩ := boxed3 hb
    have p0 : w1.cell? ⟨w.heap.size, 0, none⟩ = some (.slice FA nf fc) := k1 0 _ rfl
    have p1 : w1.cell? ⟨w.heap.size, 1, none⟩ = some (.slice TA nt tc) := k1 1 _ rfl
    have q0 : w1.cell? ⟨w.heap.size + 1, 0, none⟩ = some (.string nm) := k2 0 _ rfl
    have q1 : w1.cell? ⟨w.heap.size + 1, 1, none⟩ = some (.int .i64 pa) := k2 1 _ rfl
    have q2 : w1.cell? ⟨w.heap.size + 1, 2, none⟩ = some (.int .i64 sl) := k2 2 _ rfl
    have q3 : w1.cell? ⟨w.heap.size + 1, 3, none⟩ = some (.int .i64 ca) := k2 3 _ rfl
    have q4 : w1.cell? ⟨w.heap.size + 1, 4, none⟩ = some (.slice IA ni ic) := k2 4 _ rfl
    have r0 : w1.cell? ⟨w.heap.size + 1 + 1, 0, none⟩ = some (.int .i64 op) := k3 0 _ rfl
    have r1 : w1.cell? ⟨w.heap.size + 1 + 1, 1, none⟩ = some (.int .i64 a) := k3 1 _ rfl
    have r2 : w1.cell? ⟨w.heap.size + 1 + 1, 2, none⟩ = some (.int .i64 b) := k3 2 _ rfl
    have r3 : w1.cell? ⟨w.heap.size + 1 + 1, 3, none⟩ = some (.int .i64 c) := k3 3 _ rfl
    have r4 : w1.cell? ⟨w.heap.size + 1 + 1, 4, none⟩ = some (.int .i64 d) := k3 4 _ rfl
    have r5 : w1.cell? ⟨w.heap.size + 1 + 1, 5, none⟩ = some (.int .i64 e) := k3 5 _ rfl
    clear hb k1 k2 k3
    go_wp2_with fail
    go_ret
    exact ⟨by rw [HE.out]; rfl, al2 HB.out _⟩
theorem fr_x (hX : CXok X) (hc : CapsAt w FA X.nf X.caps) : Calls Tryz.prog 70 #[codeV FA TA fc tc X, fnV IA ic nm pa X, insVal op a b c d e, .string ⟨#[120]⟩, .int .i64 n] w fun r w' => r = .returned (.bool (fieldR X b c d [120] n)) ∧ Below w.heap.size w w' := by
  obtain ⟨nf, nt, ni, sl, ca, caps⟩ := X
  obtain ⟨hsl, hca, hnf, hnt, hni⟩ := hX
  simp only at hsl hca hnf hnt hni hc
  unfold codeV fnV insVal
  simp only
  clear hc
  have HE := Lib.hid (show fieldR ⟨nf, nt, ni, sl, ca, caps⟩ b c d [120] n = withinB n 0 ((nt : Int) - 1) from rfl)
  rcases within_cases n 0 ((nt : Int) - 1) with ⟨h1, h2, hw⟩ | ⟨h1, h2, hw⟩ | ⟨h1, hw⟩
  all_goals
    rw [hw] at HE
    clear hw
    go_enter Tryz.func70, Tryz.ntmps70
    go_wp2_with fail
    refine (num5_any _ _ _ _ _ _ _).mono ?_
    rintro r w1 ⟨rfl, hb⟩
    have HB := Lib.hid (sq (sq (sq (al _) (al _)) (al _)) hb)
    have hz : w.heap.size < w1.heap.size ∧ w.heap.size + 1 < w1.heap.size ∧ w.heap.size + 1 + 1 < w1.heap.size := by
      have := hb.size
      simp at this
      omega
    obtain ⟨z1, z2, z3⟩ := hz
    obtain ⟨k1, k2, k3⟩ := boxed3 hb
    have p0 : w1.cell? ⟨w.heap.size, 0, none⟩ = some (.slice FA nf fc) := k1 0 _ rfl
    have p1 : w1.cell? ⟨w.heap.size, 1, none⟩ = some (.slice TA nt tc) := k1 1 _ rfl
    have q0 : w1.cell? ⟨w.heap.size + 1, 0, none⟩ = some (.string nm) := k2 0 _ rfl
    have q1 : w1.cell? ⟨w.heap.size + 1, 1, none⟩ = some (.int .i64 pa) := k2 1 _ rfl
    have q2 : w1.cell? ⟨w.heap.size + 1, 2, none⟩ = some (.int .i64 sl) := k2 2 _ rfl
    have q3 : w1.cell? ⟨w.heap.size + 1, 3, none⟩ = some (.int .i64 ca) := k2 3 _ rfl
    have q4 : w1.cell? ⟨w.heap.size + 1, 4, none⟩ = some (.slice IA ni ic) := k2 4 _ rfl
    have r0 : w1.cell? ⟨w.heap.size + 1 + 1, 0, none⟩ = some (.int .i64 op) := k3 0 _ rfl
    have r1 : w1.cell? ⟨w.heap.size + 1 + 1, 1, none⟩ = some (.int .i64 a) := k3 1 _ rfl
    have r2 : w1.cell? ⟨w.heap.size + 1 + 1, 2, none⟩ = some (.int .i64 b) := k3 2 _ rfl
    have r3 : w1.cell? ⟨w.heap.size + 1 + 1, 3, none⟩ = some (.int .i64 c) := k3 3 _ rfl
    have r4 : w1.cell? ⟨w.heap.size + 1 + 1, 4, none⟩ = some (.int .i64 d) := k3 4 _ rfl
    have r5 : w1.cell? ⟨w.heap.size + 1 + 1, 5, none⟩ = some (.int .i64 e) := k3 5 _ rfl
    clear hb k1 k2 k3
    go_wp2_with fail
    go_ret
    exact ⟨by rw [HE.out]; rfl, al2 HB.out _⟩
theorem fr_g (hX : CXok X) (hc : CapsAt w FA X.nf X.caps) : Calls Tryz.prog 70 #[codeV FA TA fc tc X, fnV IA ic nm pa X, insVal op a b c d e, .string ⟨#[103]⟩, .int .i64 n] w fun r w' => r = .returned (.bool (fieldR X b c d [103] n)) ∧ Below w.heap.size w w' := by
  obtain ⟨nf, nt, ni, sl, ca, caps⟩ := X
  obtain ⟨hsl, hca, hnf, hnt, hni⟩ := hX
  simp only at hsl hca hnf hnt hni hc
  unfold codeV fnV insVal
  simp only
  clear hc
  have HE := Lib.hid (show fieldR ⟨nf, nt, ni, sl, ca, caps⟩ b c d [103] n = withinB n 0 ((nf : Int) - 1) from rfl)
  rcases within_cases n 0 ((nf : Int) - 1) with ⟨h1, h2, hw⟩ | ⟨h1, h2, hw⟩ | ⟨h1, hw⟩
  all_goals
    rw [hw] at HE
    clear hw
    go_enter Tryz.func70, Tryz.ntmps70
    go_wp2_with fail
    refine (num5_any _ _ _ _ _ _ _).mono ?_
    rintro r w1 ⟨rfl, hb⟩
    have HB := Lib.hid (sq (sq (sq (al _) (al _)) (al _)) hb)
    have hz : w.heap.size < w1.heap.size ∧ w.heap.size + 1 < w1.heap.size ∧ w.heap.size + 1 + 1 < w1.heap.size := by
      have := hb.size
      simp at this
      omega
    obtain ⟨z1, z2, z3⟩ := hz
    obtain ⟨k1, k2, k3⟩ := boxed3 hb
    have p0 : w1.cell? ⟨w.heap.size, 0, none⟩ = some (.slice FA nf fc) := k1 0 _ rfl
    have p1 : w1.cell? ⟨w.heap.size, 1, none⟩ = some (.slice TA nt tc) := k1 1 _ rfl
    have q0 : w1.cell? ⟨w.heap.size + 1, 0, none⟩ = some (.string nm) := k2 0 _ rfl
    have q1 : w1.cell? ⟨w.heap.size + 1, 1, none⟩ = some (.int .i64 pa) := k2 1 _ rfl
    have q2 : w1.cell? ⟨w.heap.size + 1, 2, none⟩ = some (.int .i64 sl) := k2 2 _ rfl
    have q3 : w1.cell? ⟨w.heap.size + 1, 3, none⟩ = some (.int .i64 ca) := k2 3 _ rfl
    have q4 : w1.cell? ⟨w.heap.size + 1, 4, none⟩ = some (.slice IA ni ic) := k2 4 _ rfl
    have r0 : w1.cell? ⟨w.heap.size + 1 + 1, 0, none⟩ = some (.int .i64 op) := k3 0 _ rfl
    have r1 : w1.cell? ⟨w.heap.size + 1 + 1, 1, none⟩ = some (.int .i64 a) := k3 1 _ rfl
    have r2 : w1.cell? ⟨w.heap.size + 1 + 1, 2, none⟩ = some (.int .i64 b) := k3 2 _ rfl
    have r3 : w1.cell? ⟨w.heap.size + 1 + 1, 3, none⟩ = some (.int .i64 c) := k3 3 _ rfl
    have r4 : w1.cell? ⟨w.heap.size + 1 + 1, 4, none⟩ = some (.int .i64 d) := k3 4 _ rfl
    have r5 : w1.cell? ⟨w.heap.size + 1 + 1, 5, none⟩ = some (.int .i64 e) := k3 5 _ rfl
    clear hb k1 k2 k3
    go_wp2_with fail
    go_ret
    exact ⟨by rw [HE.out]; rfl, al2 HB.out _⟩
theorem fr_t (hX : CXok X) (hc : CapsAt w FA X.nf X.caps) : Calls Tryz.prog 70 #[codeV FA TA fc tc X, fnV IA ic nm pa X, insVal op a b c d e, .string ⟨#[116]⟩, .int .i64 n] w fun r w' => r = .returned (.bool (fieldR X b c d [116] n)) ∧ Below w.heap.size w w' := by
  obtain ⟨nf, nt, ni, sl, ca, caps⟩ := X
  obtain ⟨hsl, hca, hnf, hnt, hni⟩ := hX
  simp only at hsl hca hnf hnt hni hc
  unfold codeV fnV insVal
  simp only
  clear hc
  have HE := Lib.hid (show fieldR ⟨nf, nt, ni, sl, ca, caps⟩ b c d [116] n = withinB n 0 ((ni : Int) - 1) from rfl)
  rcases within_cases n 0 ((ni : Int) - 1) with ⟨h1, h2, hw⟩ | ⟨h1, h2, hw⟩ | ⟨h1, hw⟩
  all_goals
    rw [hw] at HE
    clear hw
    go_enter Tryz.func70, Tryz.ntmps70
    go_wp2_with fail
    refine (num5_any _ _ _ _ _ _ _).mono ?_
    rintro r w1 ⟨rfl, hb⟩
    have HB := Lib.hid (sq (sq (sq (al _) (al _)) (al _)) hb)
    have hz : w.heap.size < w1.heap.size ∧ w.heap.size + 1 < w1.heap.size ∧ w.heap.size + 1 + 1 < w1.heap.size := by
      have := hb.size
      simp at this
      omega
    obtain ⟨z1, z2, z3⟩ := hz
    obtain ⟨k1, k2, k3⟩ := boxed3 hb
    have p0 : w1.cell? ⟨w.heap.size, 0, none⟩ = some (.slice FA nf fc) := k1 0 _ rfl
    have p1 : w1.cell? ⟨w.heap.size, 1, none⟩ = some (.slice TA nt tc) := k1 1 _ rfl
    have q0 : w1.cell? ⟨w.heap.size + 1, 0, none⟩ = some (.string nm) := k2 0 _ rfl
    have q1 : w1.cell? ⟨w.heap.size + 1, 1, none⟩ = some (.int .i64 pa) := k2 1 _ rfl
    have q2 : w1.cell? ⟨w.heap.size + 1, 2, none⟩ = some (.int .i64 sl) := k2 2 _ rfl
    have q3 : w1.cell? ⟨w.heap.size + 1, 3, none⟩ = some (.int .i64 ca) := k2 3 _ rfl
    have q4 : w1.cell? ⟨w.heap.size + 1, 4, none⟩ = some (.slice IA ni ic) := k2 4 _ rfl
    have r0 : w1.cell? ⟨w.heap.size + 1 + 1, 0, none⟩ = some (.int .i64 op) := k3 0 _ rfl
    have r1 : w1.cell? ⟨w.heap.size + 1 + 1, 1, none⟩ = some (.int .i64 a) := k3 1 _ rfl
    have r2 : w1.cell? ⟨w.heap.size + 1 + 1, 2, none⟩ = some (.int .i64 b) := k3 2 _ rfl
    have r3 : w1.cell? ⟨w.heap.size + 1 + 1, 3, none⟩ = some (.int .i64 c) := k3 3 _ rfl
    have r4 : w1.cell? ⟨w.heap.size + 1 + 1, 4, none⟩ = some (.int .i64 d) := k3 4 _ rfl
    have r5 : w1.cell? ⟨w.heap.size + 1 + 1, 5, none⟩ = some (.int .i64 e) := k3 5 _ rfl
    clear hb k1 k2 k3
    go_wp2_with fail
    go_ret
    exact ⟨by rw [HE.out]; rfl, al2 HB.out _⟩
theorem fr_o (hX : CXok X) (hc : CapsAt w FA X.nf X.caps) : Calls Tryz.prog 70 #[codeV FA TA fc tc X, fnV IA ic nm pa X, insVal op a b c d e, .string ⟨#[111]⟩, .int .i64 n] w fun r w' => r = .returned (.bool (fieldR X b c d [111] n)) ∧ Below w.heap.size w w' := by
  obtain ⟨nf, nt, ni, sl, ca, caps⟩ := X
  obtain ⟨hsl, hca, hnf, hnt, hni⟩ := hX
  simp only at hsl hca hnf hnt hni hc
  unfold codeV fnV insVal
  simp only
  clear hc
  have HE := Lib.hid (show fieldR ⟨nf, nt, ni, sl, ca, caps⟩ b c d [111] n = withinB n 1 10 from rfl)
  rcases within_cases n 1 10 with ⟨h1, h2, hw⟩ | ⟨h1, h2, hw⟩ | ⟨h1, hw⟩
  all_goals
    rw [hw] at HE
    clear hw
    go_enter Tryz.func70, Tryz.ntmps70
    go_wp2_with fail
    refine (num5_any _ _ _ _ _ _ _).mono ?_
    rintro r w1 ⟨rfl, hb⟩
    have HB := Lib.hid (sq (sq (sq (al _) (al _)) (al _)) hb)
    have hz : w.heap.size < w1.heap.size ∧ w.heap.size + 1 < w1.heap.size ∧ w.heap.size + 1 + 1 < w1.heap.size := by
      have := hb.size
      simp at this
      omega
    obtain ⟨z1, z2, z3⟩ := hz
    obtain ⟨k1, k2, k3⟩ := boxed3 hb
    have p0 : w1.cell? ⟨w.heap.size, 0, none⟩ = some (.slice FA nf fc) := k1 0 _ rfl
    have p1 : w1.cell? ⟨w.heap.size, 1, none⟩ = some (.slice TA nt tc) := k1 1 _ rfl
    have q0 : w1.cell? ⟨w.heap.size + 1, 0, none⟩ = some (.string nm) := k2 0 _ rfl
    have q1 : w1.cell? ⟨w.heap.size + 1, 1, none⟩ = some (.int .i64 pa) := k2 1 _ rfl
    have q2 : w1.cell? ⟨w.heap.size + 1, 2, none⟩ = some (.int .i64 sl) := k2 2 _ rfl
    have q3 : w1.cell? ⟨w.heap.size + 1, 3, none⟩ = some (.int .i64 ca) := k2 3 _ rfl
    have q4 : w1.cell? ⟨w.heap.size + 1, 4, none⟩ = some (.slice IA ni ic) := k2 4 _ rfl
    have r0 : w1.cell? ⟨w.heap.size + 1 + 1, 0, none⟩ = some (.int .i64 op) := k3 0 _ rfl
    have r1 : w1.cell? ⟨w.heap.size + 1 + 1, 1, none⟩ = some (.int .i64 a) := k3 1 _ rfl
    have r2 : w1.cell? ⟨w.heap.size + 1 + 1, 2, none⟩ = some (.int .i64 b) := k3 2 _ rfl
    have r3 : w1.cell? ⟨w.heap.size + 1 + 1, 3, none⟩ = some (.int .i64 c) := k3 3 _ rfl
    have r4 : w1.cell? ⟨w.heap.size + 1 + 1, 4, none⟩ = some (.int .i64 d) := k3 4 _ rfl
    have r5 : w1.cell? ⟨w.heap.size + 1 + 1, 5, none⟩ = some (.int .i64 e) := k3 5 _ rfl
    clear hb k1 k2 k3
    go_wp2_with fail
    go_ret
    exact ⟨by rw [HE.out]; rfl, al2 HB.out _⟩
theorem fr_c (hX : CXok X) (hc : CapsAt w FA X.nf X.caps) : Calls Tryz.prog 70 #[codeV FA TA fc tc X, fnV IA ic nm pa X, insVal op a b c d e, .string ⟨#[99]⟩, .int .i64 n] w fun r w' => r = .returned (.bool (fieldR X b c d [99] n)) ∧ Below w.heap.size w w' := by
  obtain ⟨nf, nt, ni, sl, ca, caps⟩ := X
  obtain ⟨hsl, hca, hnf, hnt, hni⟩ := hX
  simp only at hsl hca hnf hnt hni hc
  unfold codeV fnV insVal
  simp only
  clear hc
  have HE := Lib.hid (show fieldR ⟨nf, nt, ni, sl, ca, caps⟩ b c d [99] n = withinB n 11 16 from rfl)
  rcases within_cases n 11 16 with ⟨h1, h2, hw⟩ | ⟨h1, h2, hw⟩ | ⟨h1, hw⟩
  all_goals
    rw [hw] at HE
    clear hw
    go_enter Tryz.func70, Tryz.ntmps70
    go_wp2_with fail
    refine (num5_any _ _ _ _ _ _ _).mono ?_
    rintro r w1 ⟨rfl, hb⟩
    have HB := Lib.hid (sq (sq (sq (al _) (al _)) (al _)) hb)
    have hz : w.heap.size < w1.heap.size ∧ w.heap.size + 1 < w1.heap.size ∧ w.heap.size + 1 + 1 < w1.heap.size := by
      have := hb.size
      simp at this
      omega
    obtain ⟨z1, z2, z3⟩ := hz
    obtain ⟨k1, k2, k3⟩ := boxed3 hb
    have p0 : w1.cell? ⟨w.heap.size, 0, none⟩ = some (.slice FA nf fc) := k1 0 _ rfl
    have p1 : w1.cell? ⟨w.heap.size, 1, none⟩ = some (.slice TA nt tc) := k1 1 _ rfl
    have q0 : w1.cell? ⟨w.heap.size + 1, 0, none⟩ = some (.string nm) := k2 0 _ rfl
    have q1 : w1.cell? ⟨w.heap.size + 1, 1, none⟩ = some (.int .i64 pa) := k2 1 _ rfl
    have q2 : w1.cell? ⟨w.heap.size + 1, 2, none⟩ = some (.int .i64 sl) := k2 2 _ rfl
    have q3 : w1.cell? ⟨w.heap.size + 1, 3, none⟩ = some (.int .i64 ca) := k2 3 _ rfl
    have q4 : w1.cell? ⟨w.heap.size + 1, 4, none⟩ = some (.slice IA ni ic) := k2 4 _ rfl
    have r0 : w1.cell? ⟨w.heap.size + 1 + 1, 0, none⟩ = some (.int .i64 op) := k3 0 _ rfl
    have r1 : w1.cell? ⟨w.heap.size + 1 + 1, 1, none⟩ = some (.int .i64 a) := k3 1 _ rfl
    have r2 : w1.cell? ⟨w.heap.size + 1 + 1, 2, none⟩ = some (.int .i64 b) := k3 2 _ rfl
    have r3 : w1.cell? ⟨w.heap.size + 1 + 1, 3, none⟩ = some (.int .i64 c) := k3 3 _ rfl
    have r4 : w1.cell? ⟨w.heap.size + 1 + 1, 4, none⟩ = some (.int .i64 d) := k3 4 _ rfl
    have r5 : w1.cell? ⟨w.heap.size + 1 + 1, 5, none⟩ = some (.int .i64 e) := k3 5 _ rfl
    clear hb k1 k2 k3
    go_wp2_with fail
    go_ret
    exact ⟨by rw [HE.out]; rfl, al2 HB.out _⟩
theorem fr_k (hX : CXok X) (hc : CapsAt w FA X.nf X.caps) : Calls Tryz.prog 70 #[codeV FA TA fc tc X, fnV IA ic nm pa X, insVal op a b c d e, .string ⟨#[107]⟩, .int .i64 n] w fun r w' => r = .returned (.bool (fieldR X b c d [107] n)) ∧ Below w.heap.size w w' := by
  obtain ⟨nf, nt, ni, sl, ca, caps⟩ := X
  obtain ⟨hsl, hca, hnf, hnt, hni⟩ := hX
  simp only at hsl hca hnf hnt hni hc
  unfold codeV fnV insVal
  simp only
  clear hc
  have HE := Lib.hid (show fieldR ⟨nf, nt, ni, sl, ca, caps⟩ b c d [107] n = withinB n 0 7 from rfl)
  rcases within_cases n 0 7 with ⟨h1, h2, hw⟩ | ⟨h1, h2, hw⟩ | ⟨h1, hw⟩
  all_goals
    rw [hw] at HE
    clear hw
    go_enter Tryz.func70, Tryz.ntmps70
    go_wp2_with fail
    refine (num5_any _ _ _ _ _ _ _).mono ?_
    rintro r w1 ⟨rfl, hb⟩
    have HB := Lib.hid (sq (sq (sq (al _) (al _)) (al _)) hb)
    have hz : w.heap.size < w1.heap.size ∧ w.heap.size + 1 < w1.heap.size ∧ w.heap.size + 1 + 1 < w1.heap.size := by
      have := hb.size
      simp at this
      omega
    obtain ⟨z1, z2, z3⟩ := hz
    obtain ⟨k1, k2, k3⟩ := boxed3 hb
    have p0 : w1.cell? ⟨w.heap.size, 0, none⟩ = some (.slice FA nf fc) := k1 0 _ rfl
    have p1 : w1.cell? ⟨w.heap.size, 1, none⟩ = some (.slice TA nt tc) := k1 1 _ rfl
    have q0 : w1.cell? ⟨w.heap.size + 1, 0, none⟩ = some (.string nm) := k2 0 _ rfl
    have q1 : w1.cell? ⟨w.heap.size + 1, 1, none⟩ = some (.int .i64 pa) := k2 1 _ rfl
    have q2 : w1.cell? ⟨w.heap.size + 1, 2, none⟩ = some (.int .i64 sl) := k2 2 _ rfl
    have q3 : w1.cell? ⟨w.heap.size + 1, 3, none⟩ = some (.int .i64 ca) := k2 3 _ rfl
    have q4 : w1.cell? ⟨w.heap.size + 1, 4, none⟩ = some (.slice IA ni ic) := k2 4 _ rfl
    have r0 : w1.cell? ⟨w.heap.size + 1 + 1, 0, none⟩ = some (.int .i64 op) := k3 0 _ rfl
    have r1 : w1.cell? ⟨w.heap.size + 1 + 1, 1, none⟩ = some (.int .i64 a) := k3 1 _ rfl
    have r2 : w1.cell? ⟨w.heap.size + 1 + 1, 2, none⟩ = some (.int .i64 b) := k3 2 _ rfl
    have r3 : w1.cell? ⟨w.heap.size + 1 + 1, 3, none⟩ = some (.int .i64 c) := k3 3 _ rfl
    have r4 : w1.cell? ⟨w.heap.size + 1 + 1, 4, none⟩ = some (.int .i64 d) := k3 4 _ rfl
    have r5 : w1.cell? ⟨w.heap.size + 1 + 1, 5, none⟩ = some (.int .i64 e) := k3 5 _ rfl
    clear hb k1 k2 k3
    go_wp2_with fail
    go_ret
    exact ⟨by rw [HE.out]; rfl, al2 HB.out _⟩
theorem fr_p (hX : CXok X) (hc : CapsAt w FA X.nf X.caps) : Calls Tryz.prog 70 #[codeV FA TA fc tc X, fnV IA ic nm pa X, insVal op a b c d e, .string ⟨#[112]⟩, .int .i64 n] w fun r w' => r = .returned (.bool (fieldR X b c d [112] n)) ∧ Below w.heap.size w w' := by
  obtain ⟨nf, nt, ni, sl, ca, caps⟩ := X
  obtain ⟨hsl, hca, hnf, hnt, hni⟩ := hX
  simp only at hsl hca hnf hnt hni hc
  unfold codeV fnV insVal
  simp only
  clear hc
  have HE := Lib.hid (show fieldR ⟨nf, nt, ni, sl, ca, caps⟩ b c d [112] n = withinB n 0 4 from rfl)
  rcases within_cases n 0 4 with ⟨h1, h2, hw⟩ | ⟨h1, h2, hw⟩ | ⟨h1, hw⟩
  all_goals
    rw [hw] at HE
    clear hw
    go_enter Tryz.func70, Tryz.ntmps70
    go_wp2_with fail
    refine (num5_any _ _ _ _ _ _ _).mono ?_
    rintro r w1 ⟨rfl, hb⟩
    have HB := Lib.hid (sq (sq (sq (al _) (al _)) (al _)) hb)
    have hz : w.heap.size < w1.heap.size ∧ w.heap.size + 1 < w1.heap.size ∧ w.heap.size + 1 + 1 < w1.heap.size := by
      have := hb.size
      simp at this
      omega
    obtain ⟨z1, z2, z3⟩ := hz
    obtain ⟨k1, k2, k3⟩ := boxed3 hb
    have p0 : w1.cell? ⟨w.heap.size, 0, none⟩ = some (.slice FA nf fc) := k1 0 _ rfl
    have p1 : w1.cell? ⟨w.heap.size, 1, none⟩ = some (.slice TA nt tc) := k1 1 _ rfl
    have q0 : w1.cell? ⟨w.heap.size + 1, 0, none⟩ = some (.string nm) := k2 0 _ rfl
    have q1 : w1.cell? ⟨w.heap.size + 1, 1, none⟩ = some (.int .i64 pa) := k2 1 _ rfl
    have q2 : w1.cell? ⟨w.heap.size + 1, 2, none⟩ = some (.int .i64 sl) := k2 2 _ rfl
    have q3 : w1.cell? ⟨w.heap.size + 1, 3, none⟩ = some (.int .i64 ca) := k2 3 _ rfl
    have q4 : w1.cell? ⟨w.heap.size + 1, 4, none⟩ = some (.slice IA ni ic) := k2 4 _ rfl
    have r0 : w1.cell? ⟨w.heap.size + 1 + 1, 0, none⟩ = some (.int .i64 op) := k3 0 _ rfl
    have r1 : w1.cell? ⟨w.heap.size + 1 + 1, 1, none⟩ = some (.int .i64 a) := k3 1 _ rfl
    have r2 : w1.cell? ⟨w.heap.size + 1 + 1, 2, none⟩ = some (.int .i64 b) := k3 2 _ rfl
    have r3 : w1.cell? ⟨w.heap.size + 1 + 1, 3, none⟩ = some (.int .i64 c) := k3 3 _ rfl
    have r4 : w1.cell? ⟨w.heap.size + 1 + 1, 4, none⟩ = some (.int .i64 d) := k3 4 _ rfl
    have r5 : w1.cell? ⟨w.heap.size + 1 + 1, 5, none⟩ = some (.int .i64 e) := k3 5 _ rfl
    clear hb k1 k2 k3
    go_wp2_with fail
    go_ret
    exact ⟨by rw [HE.out]; rfl, al2 HB.out _⟩
theorem fr_w (hX : CXok X) (hc : CapsAt w FA X.nf X.caps) : Calls Tryz.prog 70 #[codeV FA TA fc tc X, fnV IA ic nm pa X, insVal op a b c d e, .string ⟨#[119]⟩, .int .i64 n] w fun r w' => r = .returned (.bool (fieldR X b c d [119] n)) ∧ Below w.heap.size w w' := by
  obtain ⟨nf, nt, ni, sl, ca, caps⟩ := X
  obtain ⟨hsl, hca, hnf, hnt, hni⟩ := hX
  simp only at hsl hca hnf hnt hni hc
  unfold codeV fnV insVal
  simp only
  clear hc
  have HE := Lib.hid (show fieldR ⟨nf, nt, ni, sl, ca, caps⟩ b c d [119] n = withinB n 0 (ca - 1) from rfl)
  rcases within_cases n 0 (ca - 1) with ⟨h1, h2, hw⟩ | ⟨h1, h2, hw⟩ | ⟨h1, hw⟩
  all_goals
    rw [hw] at HE
    clear hw
    go_enter Tryz.func70, Tryz.ntmps70
    go_wp2_with fail
    refine (num5_any _ _ _ _ _ _ _).mono ?_
    rintro r w1 ⟨rfl, hb⟩
    have HB := Lib.hid (sq (sq (sq (al _) (al _)) (al _)) hb)
    have hz : w.heap.size < w1.heap.size ∧ w.heap.size + 1 < w1.heap.size ∧ w.heap.size + 1 + 1 < w1.heap.size := by
      have := hb.size
      simp at this
      omega
    obtain ⟨z1, z2, z3⟩ := hz
    obtain ⟨k1, k2, k3⟩ := boxed3 hb
    have p0 : w1.cell? ⟨w.heap.size, 0, none⟩ = some (.slice FA nf fc) := k1 0 _ rfl
    have p1 : w1.cell? ⟨w.heap.size, 1, none⟩ = some (.slice TA nt tc) := k1 1 _ rfl
    have q0 : w1.cell? ⟨w.heap.size + 1, 0, none⟩ = some (.string nm) := k2 0 _ rfl
    have q1 : w1.cell? ⟨w.heap.size + 1, 1, none⟩ = some (.int .i64 pa) := k2 1 _ rfl
    have q2 : w1.cell? ⟨w.heap.size + 1, 2, none⟩ = some (.int .i64 sl) := k2 2 _ rfl
    have q3 : w1.cell? ⟨w.heap.size + 1, 3, none⟩ = some (.int .i64 ca) := k2 3 _ rfl
    have q4 : w1.cell? ⟨w.heap.size + 1, 4, none⟩ = some (.slice IA ni ic) := k2 4 _ rfl
    have r0 : w1.cell? ⟨w.heap.size + 1 + 1, 0, none⟩ = some (.int .i64 op) := k3 0 _ rfl
    have r1 : w1.cell? ⟨w.heap.size + 1 + 1, 1, none⟩ = some (.int .i64 a) := k3 1 _ rfl
    have r2 : w1.cell? ⟨w.heap.size + 1 + 1, 2, none⟩ = some (.int .i64 b) := k3 2 _ rfl
    have r3 : w1.cell? ⟨w.heap.size + 1 + 1, 3, none⟩ = some (.int .i64 c) := k3 3 _ rfl
    have r4 : w1.cell? ⟨w.heap.size + 1 + 1, 4, none⟩ = some (.int .i64 d) := k3 4 _ rfl
    have r5 : w1.cell? ⟨w.heap.size + 1 + 1, 5, none⟩ = some (.int .i64 e) := k3 5 _ rfl
    clear hb k1 k2 k3
    go_wp2_with fail
    go_ret
    exact ⟨by rw [HE.out]; rfl, al2 HB.out _⟩
theorem fr_z (hX : CXok X) (hc : CapsAt w FA X.nf X.caps) : Calls Tryz.prog 70 #[codeV FA TA fc tc X, fnV IA ic nm pa X, insVal op a b c d e, .string ⟨#[48]⟩, .int .i64 n] w fun r w' => r = .returned (.bool (fieldR X b c d [48] n)) ∧ Below w.heap.size w w' := by
  obtain ⟨nf, nt, ni, sl, ca, caps⟩ := X
  obtain ⟨hsl, hca, hnf, hnt, hni⟩ := hX
  simp only at hsl hca hnf hnt hni hc
  unfold codeV fnV insVal
  simp only
  clear hc
  have HE := Lib.hid (show fieldR ⟨nf, nt, ni, sl, ca, caps⟩ b c d [48] n = withinB n 0 0 from rfl)
  rcases within_cases n 0 0 with ⟨h1, h2, hw⟩ | ⟨h1, h2, hw⟩ | ⟨h1, hw⟩
  all_goals
    rw [hw] at HE
    clear hw
    go_enter Tryz.func70, Tryz.ntmps70
    go_wp2_with fail
    refine (num5_any _ _ _ _ _ _ _).mono ?_
    rintro r w1 ⟨rfl, hb⟩
    have HB := Lib.hid (sq (sq (sq (al _) (al _)) (al _)) hb)
    have hz : w.heap.size < w1.heap.size ∧ w.heap.size + 1 < w1.heap.size ∧ w.heap.size + 1 + 1 < w1.heap.size := by
      have := hb.size
      simp at this
      omega
    obtain ⟨z1, z2, z3⟩ := hz
    obtain ⟨k1, k2, k3⟩ := boxed3 hb
    have p0 : w1.cell? ⟨w.heap.size, 0, none⟩ = some (.slice FA nf fc) := k1 0 _ rfl
    have p1 : w1.cell? ⟨w.heap.size, 1, none⟩ = some (.slice TA nt tc) := k1 1 _ rfl
    have q0 : w1.cell? ⟨w.heap.size + 1, 0, none⟩ = some (.string nm) := k2 0 _ rfl
    have q1 : w1.cell? ⟨w.heap.size + 1, 1, none⟩ = some (.int .i64 pa) := k2 1 _ rfl
    have q2 : w1.cell? ⟨w.heap.size + 1, 2, none⟩ = some (.int .i64 sl) := k2 2 _ rfl
    have q3 : w1.cell? ⟨w.heap.size + 1, 3, none⟩ = some (.int .i64 ca) := k2 3 _ rfl
    have q4 : w1.cell? ⟨w.heap.size + 1, 4, none⟩ = some (.slice IA ni ic) := k2 4 _ rfl
    have r0 : w1.cell? ⟨w.heap.size + 1 + 1, 0, none⟩ = some (.int .i64 op) := k3 0 _ rfl
    have r1 : w1.cell? ⟨w.heap.size + 1 + 1, 1, none⟩ = some (.int .i64 a) := k3 1 _ rfl
    have r2 : w1.cell? ⟨w.heap.size + 1 + 1, 2, none⟩ = some (.int .i64 b) := k3 2 _ rfl
    have r3 : w1.cell? ⟨w.heap.size + 1 + 1, 3, none⟩ = some (.int .i64 c) := k3 3 _ rfl
    have r4 : w1.cell? ⟨w.heap.size + 1 + 1, 4, none⟩ = some (.int .i64 d) := k3 4 _ rfl
    have r5 : w1.cell? ⟨w.heap.size + 1 + 1, 5, none⟩ = some (.int .i64 e) := k3 5 _ rfl
    clear hb k1 k2 k3
    go_wp2_with fail
    go_ret
    exact ⟨by rw [HE.out]; rfl, al2 HB.out _⟩
theorem fr_f (hX : CXok X) (hc : CapsAt w FA X.nf X.caps) : Calls Tryz.prog 70 #[codeV FA TA fc tc X, fnV IA ic nm pa X, insVal op a b c d e, .string ⟨#[102]⟩, .int .i64 n] w fun r w' => r = .returned (.bool (fieldR X b c d [102] n)) ∧ Below w.heap.size w w' := by
  obtain ⟨nf, nt, ni, sl, ca, caps⟩ := X
  obtain ⟨hsl, hca, hnf, hnt, hni⟩ := hX
  simp only at hsl hca hnf hnt hni hc
  unfold codeV fnV insVal
  simp only
  have HE := Lib.hid (show fieldR ⟨nf, nt, ni, sl, ca, caps⟩ b c d [102] n = (withinB n 0 ((nf : Int) - 1) && decide (caps n.toNat = 0)) from rfl)
  rcases within_cases n 0 ((nf : Int) - 1) with ⟨h1, h2, hw⟩ | ⟨h1, h2, hw⟩ | ⟨h1, hw⟩
  · rw [hw] at HE
    clear hw
    obtain ⟨m, rfl⟩ : ∃ m : Nat, n = m := ⟨n.toNat, by omega⟩
    have hm : m < nf := by omega
    have hmi : (m : Int) < (nf : Int) := by omega
    obtain ⟨fb, off, rfl, hlt, hcell⟩ := hc (by omega)
    have hcm := hcell m hm
    rw [Int.toNat_natCast] at HE
    have HLT := Lib.hid hlt
    clear hcell hc
    generalize caps m = cm at *
    by_cases h0 : cm = 0
    · have h0b : (cm != 0) = false := by simpa using h0
      rw [decide_eq_true h0] at HE
      clear h0
      go_enter Tryz.func70, Tryz.ntmps70
      go_wp2_with fail
      refine (num5_any _ _ _ _ _ _ _).mono ?_
      rintro r w1 ⟨rfl, hb⟩
      have HB := Lib.hid (sq (sq (sq (al _) (al _)) (al _)) hb)
      have hz : w.heap.size < w1.heap.size ∧ w.heap.size + 1 < w1.heap.size ∧ w.heap.size + 1 + 1 < w1.heap.size := by
        have := hb.size
        simp at this
        omega
      obtain ⟨z1, z2, z3⟩ := hz
      obtain ⟨k1, k2, k3⟩ := boxed3 hb
      have p0 : w1.cell? ⟨w.heap.size, 0, none⟩ = some (.slice (some ⟨fb, off, none⟩) nf fc) := k1 0 _ rfl
      have p1 : w1.cell? ⟨w.heap.size, 1, none⟩ = some (.slice TA nt tc) := k1 1 _ rfl
      have q0 : w1.cell? ⟨w.heap.size + 1, 0, none⟩ = some (.string nm) := k2 0 _ rfl
      have q1 : w1.cell? ⟨w.heap.size + 1, 1, none⟩ = some (.int .i64 pa) := k2 1 _ rfl
      have q2 : w1.cell? ⟨w.heap.size + 1, 2, none⟩ = some (.int .i64 sl) := k2 2 _ rfl
      have q3 : w1.cell? ⟨w.heap.size + 1, 3, none⟩ = some (.int .i64 ca) := k2 3 _ rfl
      have q4 : w1.cell? ⟨w.heap.size + 1, 4, none⟩ = some (.slice IA ni ic) := k2 4 _ rfl
      have r0 : w1.cell? ⟨w.heap.size + 1 + 1, 0, none⟩ = some (.int .i64 op) := k3 0 _ rfl
      have r1 : w1.cell? ⟨w.heap.size + 1 + 1, 1, none⟩ = some (.int .i64 a) := k3 1 _ rfl
      have r2 : w1.cell? ⟨w.heap.size + 1 + 1, 2, none⟩ = some (.int .i64 b) := k3 2 _ rfl
      have r3 : w1.cell? ⟨w.heap.size + 1 + 1, 3, none⟩ = some (.int .i64 c) := k3 3 _ rfl
      have r4 : w1.cell? ⟨w.heap.size + 1 + 1, 4, none⟩ = some (.int .i64 d) := k3 4 _ rfl
      have r5 : w1.cell? ⟨w.heap.size + 1 + 1, 5, none⟩ = some (.int .i64 e) := k3 5 _ rfl
      have hcm1 : w1.cell? ⟨fb, off + m * 5 + 3, none⟩ = some (.int .i64 cm) := by
        refine ((sq (sq (sq (al _) (al _)) (al _)) hb).cell (p := ⟨fb, off + m * 5 + 3, none⟩) HLT.out).trans hcm
      have z4 : fb < w1.heap.size := Nat.lt_of_lt_of_le HLT.out HB.out.size
      clear hb k1 k2 k3
      go_wp2_with fail
      go_ret
      exact ⟨by rw [HE.out]; rfl, al2 HB.out _⟩
    · have h0b : (cm != 0) = true := by simpa using h0
      rw [decide_eq_false h0] at HE
      clear h0
      go_enter Tryz.func70, Tryz.ntmps70
      go_wp2_with fail
      refine (num5_any _ _ _ _ _ _ _).mono ?_
      rintro r w1 ⟨rfl, hb⟩
      have HB := Lib.hid (sq (sq (sq (al _) (al _)) (al _)) hb)
      have hz : w.heap.size < w1.heap.size ∧ w.heap.size + 1 < w1.heap.size ∧ w.heap.size + 1 + 1 < w1.heap.size := by
        have := hb.size
        simp at this
        omega
      obtain ⟨z1, z2, z3⟩ := hz
      obtain ⟨k1, k2, k3⟩ := boxed3 hb
      have p0 : w1.cell? ⟨w.heap.size, 0, none⟩ = some (.slice (some ⟨fb, off, none⟩) nf fc) := k1 0 _ rfl
      have p1 : w1.cell? ⟨w.heap.size, 1, none⟩ = some (.slice TA nt tc) := k1 1 _ rfl
      have q0 : w1.cell? ⟨w.heap.size + 1, 0, none⟩ = some (.string nm) := k2 0 _ rfl
      have q1 : w1.cell? ⟨w.heap.size + 1, 1, none⟩ = some (.int .i64 pa) := k2 1 _ rfl
      have q2 : w1.cell? ⟨w.heap.size + 1, 2, none⟩ = some (.int .i64 sl) := k2 2 _ rfl
      have q3 : w1.cell? ⟨w.heap.size + 1, 3, none⟩ = some (.int .i64 ca) := k2 3 _ rfl
      have q4 : w1.cell? ⟨w.heap.size + 1, 4, none⟩ = some (.slice IA ni ic) := k2 4 _ rfl
      have r0 : w1.cell? ⟨w.heap.size + 1 + 1, 0, none⟩ = some (.int .i64 op) := k3 0 _ rfl
      have r1 : w1.cell? ⟨w.heap.size + 1 + 1, 1, none⟩ = some (.int .i64 a) := k3 1 _ rfl
      have r2 : w1.cell? ⟨w.heap.size + 1 + 1, 2, none⟩ = some (.int .i64 b) := k3 2 _ rfl
      have r3 : w1.cell? ⟨w.heap.size + 1 + 1, 3, none⟩ = some (.int .i64 c) := k3 3 _ rfl
      have r4 : w1.cell? ⟨w.heap.size + 1 + 1, 4, none⟩ = some (.int .i64 d) := k3 4 _ rfl
      have r5 : w1.cell? ⟨w.heap.size + 1 + 1, 5, none⟩ = some (.int .i64 e) := k3 5 _ rfl
      have hcm1 : w1.cell? ⟨fb, off + m * 5 + 3, none⟩ = some (.int .i64 cm) := by
        refine ((sq (sq (sq (al _) (al _)) (al _)) hb).cell (p := ⟨fb, off + m * 5 + 3, none⟩) HLT.out).trans hcm
      have z4 : fb < w1.heap.size := Nat.lt_of_lt_of_le HLT.out HB.out.size
      clear hb k1 k2 k3
      go_wp2_with fail
      go_ret
      exact ⟨by rw [HE.out]; rfl, al2 HB.out _⟩
  · rw [hw] at HE
    clear hw hc
    go_enter Tryz.func70, Tryz.ntmps70
    go_wp2_with fail
    refine (num5_any _ _ _ _ _ _ _).mono ?_
    rintro r w1 ⟨rfl, hb⟩
    have HB := Lib.hid (sq (sq (sq (al _) (al _)) (al _)) hb)
    have hz : w.heap.size < w1.heap.size ∧ w.heap.size + 1 < w1.heap.size ∧ w.heap.size + 1 + 1 < w1.heap.size := by
      have := hb.size
      simp at this
      omega
    obtain ⟨z1, z2, z3⟩ := hz
    obtain ⟨k1, k2, k3⟩ := boxed3 hb
    have p0 : w1.cell? ⟨w.heap.size, 0, none⟩ = some (.slice FA nf fc) := k1 0 _ rfl
    have p1 : w1.cell? ⟨w.heap.size, 1, none⟩ = some (.slice TA nt tc) := k1 1 _ rfl
    have q0 : w1.cell? ⟨w.heap.size + 1, 0, none⟩ = some (.string nm) := k2 0 _ rfl
    have q1 : w1.cell? ⟨w.heap.size + 1, 1, none⟩ = some (.int .i64 pa) := k2 1 _ rfl
    have q2 : w1.cell? ⟨w.heap.size + 1, 2, none⟩ = some (.int .i64 sl) := k2 2 _ rfl
    have q3 : w1.cell? ⟨w.heap.size + 1, 3, none⟩ = some (.int .i64 ca) := k2 3 _ rfl
    have q4 : w1.cell? ⟨w.heap.size + 1, 4, none⟩ = some (.slice IA ni ic) := k2 4 _ rfl
    have r0 : w1.cell? ⟨w.heap.size + 1 + 1, 0, none⟩ = some (.int .i64 op) := k3 0 _ rfl
    have r1 : w1.cell? ⟨w.heap.size + 1 + 1, 1, none⟩ = some (.int .i64 a) := k3 1 _ rfl
    have r2 : w1.cell? ⟨w.heap.size + 1 + 1, 2, none⟩ = some (.int .i64 b) := k3 2 _ rfl
    have r3 : w1.cell? ⟨w.heap.size + 1 + 1, 3, none⟩ = some (.int .i64 c) := k3 3 _ rfl
    have r4 : w1.cell? ⟨w.heap.size + 1 + 1, 4, none⟩ = some (.int .i64 d) := k3 4 _ rfl
    have r5 : w1.cell? ⟨w.heap.size + 1 + 1, 5, none⟩ = some (.int .i64 e) := k3 5 _ rfl
    clear hb k1 k2 k3
    go_wp2_with fail
    go_ret
    exact ⟨by rw [HE.out]; rfl, al2 HB.out _⟩
  · rw [hw] at HE
    clear hw hc
    go_enter Tryz.func70, Tryz.ntmps70
    go_wp2_with fail
    refine (num5_any _ _ _ _ _ _ _).mono ?_
    rintro r w1 ⟨rfl, hb⟩
    have HB := Lib.hid (sq (sq (sq (al _) (al _)) (al _)) hb)
    have hz : w.heap.size < w1.heap.size ∧ w.heap.size + 1 < w1.heap.size ∧ w.heap.size + 1 + 1 < w1.heap.size := by
      have := hb.size
      simp at this
      omega
    obtain ⟨z1, z2, z3⟩ := hz
    obtain ⟨k1, k2, k3⟩ := boxed3 hb
    have p0 : w1.cell? ⟨w.heap.size, 0, none⟩ = some (.slice FA nf fc) := k1 0 _ rfl
    have p1 : w1.cell? ⟨w.heap.size, 1, none⟩ = some (.slice TA nt tc) := k1 1 _ rfl
    have q0 : w1.cell? ⟨w.heap.size + 1, 0, none⟩ = some (.string nm) := k2 0 _ rfl
    have q1 : w1.cell? ⟨w.heap.size + 1, 1, none⟩ = some (.int .i64 pa) := k2 1 _ rfl
    have q2 : w1.cell? ⟨w.heap.size + 1, 2, none⟩ = some (.int .i64 sl) := k2 2 _ rfl
    have q3 : w1.cell? ⟨w.heap.size + 1, 3, none⟩ = some (.int .i64 ca) := k2 3 _ rfl
    have q4 : w1.cell? ⟨w.heap.size + 1, 4, none⟩ = some (.slice IA ni ic) := k2 4 _ rfl
    have r0 : w1.cell? ⟨w.heap.size + 1 + 1, 0, none⟩ = some (.int .i64 op) := k3 0 _ rfl
    have r1 : w1.cell? ⟨w.heap.size + 1 + 1, 1, none⟩ = some (.int .i64 a) := k3 1 _ rfl
    have r2 : w1.cell? ⟨w.heap.size + 1 + 1, 2, none⟩ = some (.int .i64 b) := k3 2 _ rfl
    have r3 : w1.cell? ⟨w.heap.size + 1 + 1, 3, none⟩ = some (.int .i64 c) := k3 3 _ rfl
    have r4 : w1.cell? ⟨w.heap.size + 1 + 1, 4, none⟩ = some (.int .i64 d) := k3 4 _ rfl
    have r5 : w1.cell? ⟨w.heap.size + 1 + 1, 5, none⟩ = some (.int .i64 e) := k3 5 _ rfl
    clear hb k1 k2 k3
    go_wp2_with fail
    go_ret
    exact ⟨by rw [HE.out]; rfl, al2 HB.out _⟩
theorem fr_b2 (hX : CXok X) (hc : CapsAt w FA X.nf X.caps) : Calls Tryz.prog 70 #[codeV FA TA fc tc X, fnV IA ic nm pa X, insVal op a b c d e, .string ⟨#[98, 97, 115, 101, 58, 50]⟩, .int .i64 n] w fun r w' => r = .returned (.bool (fieldR X b c d [98, 97, 115, 101, 58, 50] n)) ∧ Below w.heap.size w w' := by
  obtain ⟨nf, nt, ni, sl, ca, caps⟩ := X
  obtain ⟨hsl, hca, hnf, hnt, hni⟩ := hX
  simp only at hsl hca hnf hnt hni hc
  unfold codeV fnV insVal
  simp only
  clear hc
  have HE := Lib.hid (show fieldR ⟨nf, nt, ni, sl, ca, caps⟩ b c d [98, 97, 115, 101, 58, 50] n = (withinB c 0 sl && withinB n 0 (sl - c)) from rfl)
  rcases within_cases c 0 sl with ⟨g1, g2, hw⟩ | ⟨g1, g2, hw⟩ | ⟨g1, hw⟩
  · rw [hw, Bool.true_and] at HE
    clear hw
    rcases within_cases n 0 (sl - c) with ⟨h1, h2, hw⟩ | ⟨h1, h2, hw⟩ | ⟨h1, hw⟩
    all_goals
      rw [hw] at HE
      clear hw
      go_enter Tryz.func70, Tryz.ntmps70
      go_wp2_with fail
      refine (num5_any _ _ _ _ _ _ _).mono ?_
      rintro r w1 ⟨rfl, hb⟩
      have HB := Lib.hid (sq (sq (sq (al _) (al _)) (al _)) hb)
      have hz : w.heap.size < w1.heap.size ∧ w.heap.size + 1 < w1.heap.size ∧ w.heap.size + 1 + 1 < w1.heap.size := by
        have := hb.size
        simp at this
        omega
      obtain ⟨z1, z2, z3⟩ := hz
      obtain ⟨k1, k2, k3⟩ := boxed3 hb
      have p0 : w1.cell? ⟨w.heap.size, 0, none⟩ = some (.slice FA nf fc) := k1 0 _ rfl
      have p1 : w1.cell? ⟨w.heap.size, 1, none⟩ = some (.slice TA nt tc) := k1 1 _ rfl
      have q0 : w1.cell? ⟨w.heap.size + 1, 0, none⟩ = some (.string nm) := k2 0 _ rfl
      have q1 : w1.cell? ⟨w.heap.size + 1, 1, none⟩ = some (.int .i64 pa) := k2 1 _ rfl
      have q2 : w1.cell? ⟨w.heap.size + 1, 2, none⟩ = some (.int .i64 sl) := k2 2 _ rfl
      have q3 : w1.cell? ⟨w.heap.size + 1, 3, none⟩ = some (.int .i64 ca) := k2 3 _ rfl
      have q4 : w1.cell? ⟨w.heap.size + 1, 4, none⟩ = some (.slice IA ni ic) := k2 4 _ rfl
      have r0 : w1.cell? ⟨w.heap.size + 1 + 1, 0, none⟩ = some (.int .i64 op) := k3 0 _ rfl
      have r1 : w1.cell? ⟨w.heap.size + 1 + 1, 1, none⟩ = some (.int .i64 a) := k3 1 _ rfl
      have r2 : w1.cell? ⟨w.heap.size + 1 + 1, 2, none⟩ = some (.int .i64 b) := k3 2 _ rfl
      have r3 : w1.cell? ⟨w.heap.size + 1 + 1, 3, none⟩ = some (.int .i64 c) := k3 3 _ rfl
      have r4 : w1.cell? ⟨w.heap.size + 1 + 1, 4, none⟩ = some (.int .i64 d) := k3 4 _ rfl
      have r5 : w1.cell? ⟨w.heap.size + 1 + 1, 5, none⟩ = some (.int .i64 e) := k3 5 _ rfl
      clear hb k1 k2 k3
      go_wp2_with fail
      go_ret
      exact ⟨by rw [HE.out]; rfl, al2 HB.out _⟩
  · rw [hw, Bool.false_and] at HE
    have g3 : sl < c := by simp at g2; omega
    clear hw g2
    go_enter Tryz.func70, Tryz.ntmps70
    go_wp2_with fail
    refine (num5_any _ _ _ _ _ _ _).mono ?_
    rintro r w1 ⟨rfl, hb⟩
    have HB := Lib.hid (sq (sq (sq (al _) (al _)) (al _)) hb)
    have hz : w.heap.size < w1.heap.size ∧ w.heap.size + 1 < w1.heap.size ∧ w.heap.size + 1 + 1 < w1.heap.size := by
      have := hb.size
      simp at this
      omega
    obtain ⟨z1, z2, z3⟩ := hz
    obtain ⟨k1, k2, k3⟩ := boxed3 hb
    have p0 : w1.cell? ⟨w.heap.size, 0, none⟩ = some (.slice FA nf fc) := k1 0 _ rfl
    have p1 : w1.cell? ⟨w.heap.size, 1, none⟩ = some (.slice TA nt tc) := k1 1 _ rfl
    have q0 : w1.cell? ⟨w.heap.size + 1, 0, none⟩ = some (.string nm) := k2 0 _ rfl
    have q1 : w1.cell? ⟨w.heap.size + 1, 1, none⟩ = some (.int .i64 pa) := k2 1 _ rfl
    have q2 : w1.cell? ⟨w.heap.size + 1, 2, none⟩ = some (.int .i64 sl) := k2 2 _ rfl
    have q3 : w1.cell? ⟨w.heap.size + 1, 3, none⟩ = some (.int .i64 ca) := k2 3 _ rfl
    have q4 : w1.cell? ⟨w.heap.size + 1, 4, none⟩ = some (.slice IA ni ic) := k2 4 _ rfl
    have r0 : w1.cell? ⟨w.heap.size + 1 + 1, 0, none⟩ = some (.int .i64 op) := k3 0 _ rfl
    have r1 : w1.cell? ⟨w.heap.size + 1 + 1, 1, none⟩ = some (.int .i64 a) := k3 1 _ rfl
    have r2 : w1.cell? ⟨w.heap.size + 1 + 1, 2, none⟩ = some (.int .i64 b) := k3 2 _ rfl
    have r3 : w1.cell? ⟨w.heap.size + 1 + 1, 3, none⟩ = some (.int .i64 c) := k3 3 _ rfl
    have r4 : w1.cell? ⟨w.heap.size + 1 + 1, 4, none⟩ = some (.int .i64 d) := k3 4 _ rfl
    have r5 : w1.cell? ⟨w.heap.size + 1 + 1, 5, none⟩ = some (.int .i64 e) := k3 5 _ rfl
    clear hb k1 k2 k3
    go_wp2_with fail
    go_ret
    exact ⟨by rw [HE.out]; rfl, al2 HB.out _⟩
  · rw [hw, Bool.false_and] at HE
    have g3 : c < 0 := by simp at g1; omega
    clear hw g1
    go_enter Tryz.func70, Tryz.ntmps70
    go_wp2_with fail
    refine (num5_any _ _ _ _ _ _ _).mono ?_
    rintro r w1 ⟨rfl, hb⟩
    have HB := Lib.hid (sq (sq (sq (al _) (al _)) (al _)) hb)
    have hz : w.heap.size < w1.heap.size ∧ w.heap.size + 1 < w1.heap.size ∧ w.heap.size + 1 + 1 < w1.heap.size := by
      have := hb.size
      simp at this
      omega
    obtain ⟨z1, z2, z3⟩ := hz
    obtain ⟨k1, k2, k3⟩ := boxed3 hb
    have p0 : w1.cell? ⟨w.heap.size, 0, none⟩ = some (.slice FA nf fc) := k1 0 _ rfl
    have p1 : w1.cell? ⟨w.heap.size, 1, none⟩ = some (.slice TA nt tc) := k1 1 _ rfl
    have q0 : w1.cell? ⟨w.heap.size + 1, 0, none⟩ = some (.string nm) := k2 0 _ rfl
    have q1 : w1.cell? ⟨w.heap.size + 1, 1, none⟩ = some (.int .i64 pa) := k2 1 _ rfl
    have q2 : w1.cell? ⟨w.heap.size + 1, 2, none⟩ = some (.int .i64 sl) := k2 2 _ rfl
    have q3 : w1.cell? ⟨w.heap.size + 1, 3, none⟩ = some (.int .i64 ca) := k2 3 _ rfl
    have q4 : w1.cell? ⟨w.heap.size + 1, 4, none⟩ = some (.slice IA ni ic) := k2 4 _ rfl
    have r0 : w1.cell? ⟨w.heap.size + 1 + 1, 0, none⟩ = some (.int .i64 op) := k3 0 _ rfl
    have r1 : w1.cell? ⟨w.heap.size + 1 + 1, 1, none⟩ = some (.int .i64 a) := k3 1 _ rfl
    have r2 : w1.cell? ⟨w.heap.size + 1 + 1, 2, none⟩ = some (.int .i64 b) := k3 2 _ rfl
    have r3 : w1.cell? ⟨w.heap.size + 1 + 1, 3, none⟩ = some (.int .i64 c) := k3 3 _ rfl
    have r4 : w1.cell? ⟨w.heap.size + 1 + 1, 4, none⟩ = some (.int .i64 d) := k3 4 _ rfl
    have r5 : w1.cell? ⟨w.heap.size + 1 + 1, 5, none⟩ = some (.int .i64 e) := k3 5 _ rfl
    clear hb k1 k2 k3
    go_wp2_with fail
    go_ret
    exact ⟨by rw [HE.out]; rfl, al2 HB.out _⟩
theorem fr_b3 (hX : CXok X) (hc : CapsAt w FA X.nf X.caps) : Calls Tryz.prog 70 #[codeV FA TA fc tc X, fnV IA ic nm pa X, insVal op a b c d e, .string ⟨#[98, 97, 115, 101, 58, 51]⟩, .int .i64 n] w fun r w' => r = .returned (.bool (fieldR X b c d [98, 97, 115, 101, 58, 51] n)) ∧ Below w.heap.size w w' := by
  obtain ⟨nf, nt, ni, sl, ca, caps⟩ := X
  obtain ⟨hsl, hca, hnf, hnt, hni⟩ := hX
  simp only at hsl hca hnf hnt hni hc
  unfold codeV fnV insVal
  simp only
  clear hc
  have HE := Lib.hid (show fieldR ⟨nf, nt, ni, sl, ca, caps⟩ b c d [98, 97, 115, 101, 58, 51] n = (withinB d 0 sl && withinB n 0 (sl - d)) from rfl)
  rcases within_cases d 0 sl with ⟨g1, g2, hw⟩ | ⟨g1, g2, hw⟩ | ⟨g1, hw⟩
  · rw [hw, Bool.true_and] at HE
    clear hw
    rcases within_cases n 0 (sl - d) with ⟨h1, h2, hw⟩ | ⟨h1, h2, hw⟩ | ⟨h1, hw⟩
    all_goals
      rw [hw] at HE
      clear hw
      go_enter Tryz.func70, Tryz.ntmps70
      go_wp2_with fail
      refine (num5_any _ _ _ _ _ _ _).mono ?_
      rintro r w1 ⟨rfl, hb⟩
      have HB := Lib.hid (sq (sq (sq (al _) (al _)) (al _)) hb)
      have hz : w.heap.size < w1.heap.size ∧ w.heap.size + 1 < w1.heap.size ∧ w.heap.size + 1 + 1 < w1.heap.size := by
        have := hb.size
        simp at this
        omega
      obtain ⟨z1, z2, z3⟩ := hz
      obtain ⟨k1, k2, k3⟩ := boxed3 hb
      have p0 : w1.cell? ⟨w.heap.size, 0, none⟩ = some (.slice FA nf fc) := k1 0 _ rfl
      have p1 : w1.cell? ⟨w.heap.size, 1, none⟩ = some (.slice TA nt tc) := k1 1 _ rfl
      have q0 : w1.cell? ⟨w.heap.size + 1, 0, none⟩ = some (.string nm) := k2 0 _ rfl
      have q1 : w1.cell? ⟨w.heap.size + 1, 1, none⟩ = some (.int .i64 pa) := k2 1 _ rfl
      have q2 : w1.cell? ⟨w.heap.size + 1, 2, none⟩ = some (.int .i64 sl) := k2 2 _ rfl
      have q3 : w1.cell? ⟨w.heap.size + 1, 3, none⟩ = some (.int .i64 ca) := k2 3 _ rfl
      have q4 : w1.cell? ⟨w.heap.size + 1, 4, none⟩ = some (.slice IA ni ic) := k2 4 _ rfl
      have r0 : w1.cell? ⟨w.heap.size + 1 + 1, 0, none⟩ = some (.int .i64 op) := k3 0 _ rfl
      have r1 : w1.cell? ⟨w.heap.size + 1 + 1, 1, none⟩ = some (.int .i64 a) := k3 1 _ rfl
      have r2 : w1.cell? ⟨w.heap.size + 1 + 1, 2, none⟩ = some (.int .i64 b) := k3 2 _ rfl
      have r3 : w1.cell? ⟨w.heap.size + 1 + 1, 3, none⟩ = some (.int .i64 c) := k3 3 _ rfl
      have r4 : w1.cell? ⟨w.heap.size + 1 + 1, 4, none⟩ = some (.int .i64 d) := k3 4 _ rfl
      have r5 : w1.cell? ⟨w.heap.size + 1 + 1, 5, none⟩ = some (.int .i64 e) := k3 5 _ rfl
      clear hb k1 k2 k3
      go_wp2_with fail
      go_ret
      exact ⟨by rw [HE.out]; rfl, al2 HB.out _⟩
  · rw [hw, Bool.false_and] at HE
    have g3 : sl < d := by simp at g2; omega
    clear hw g2
    go_enter Tryz.func70, Tryz.ntmps70
    go_wp2_with fail
    refine (num5_any _ _ _ _ _ _ _).mono ?_
    rintro r w1 ⟨rfl, hb⟩
    have HB := Lib.hid (sq (sq (sq (al _) (al _)) (al _)) hb)
    have hz : w.heap.size < w1.heap.size ∧ w.heap.size + 1 < w1.heap.size ∧ w.heap.size + 1 + 1 < w1.heap.size := by
      have := hb.size
      simp at this
      omega
    obtain ⟨z1, z2, z3⟩ := hz
    obtain ⟨k1, k2, k3⟩ := boxed3 hb
    have p0 : w1.cell? ⟨w.heap.size, 0, none⟩ = some (.slice FA nf fc) := k1 0 _ rfl
    have p1 : w1.cell? ⟨w.heap.size, 1, none⟩ = some (.slice TA nt tc) := k1 1 _ rfl
    have q0 : w1.cell? ⟨w.heap.size + 1, 0, none⟩ = some (.string nm) := k2 0 _ rfl
    have q1 : w1.cell? ⟨w.heap.size + 1, 1, none⟩ = some (.int .i64 pa) := k2 1 _ rfl
    have q2 : w1.cell? ⟨w.heap.size + 1, 2, none⟩ = some (.int .i64 sl) := k2 2 _ rfl
    have q3 : w1.cell? ⟨w.heap.size + 1, 3, none⟩ = some (.int .i64 ca) := k2 3 _ rfl
    have q4 : w1.cell? ⟨w.heap.size + 1, 4, none⟩ = some (.slice IA ni ic) := k2 4 _ rfl
    have r0 : w1.cell? ⟨w.heap.size + 1 + 1, 0, none⟩ = some (.int .i64 op) := k3 0 _ rfl
    have r1 : w1.cell? ⟨w.heap.size + 1 + 1, 1, none⟩ = some (.int .i64 a) := k3 1 _ rfl
    have r2 : w1.cell? ⟨w.heap.size + 1 + 1, 2, none⟩ = some (.int .i64 b) := k3 2 _ rfl
    have r3 : w1.cell? ⟨w.heap.size + 1 + 1, 3, none⟩ = some (.int .i64 c) := k3 3 _ rfl
    have r4 : w1.cell? ⟨w.heap.size + 1 + 1, 4, none⟩ = some (.int .i64 d) := k3 4 _ rfl
    have r5 : w1.cell? ⟨w.heap.size + 1 + 1, 5, none⟩ = some (.int .i64 e) := k3 5 _ rfl
    clear hb k1 k2 k3
    go_wp2_with fail
    go_ret
    exact ⟨by rw [HE.out]; rfl, al2 HB.out _⟩
  · rw [hw, Bool.false_and] at HE
    have g3 : d < 0 := by simp at g1; omega
    clear hw g1
    go_enter Tryz.func70, Tryz.ntmps70
    go_wp2_with fail
    refine (num5_any _ _ _ _ _ _ _).mono ?_
    rintro r w1 ⟨rfl, hb⟩
    have HB := Lib.hid (sq (sq (sq (al _) (al _)) (al _)) hb)
    have hz : w.heap.size < w1.heap.size ∧ w.heap.size + 1 < w1.heap.size ∧ w.heap.size + 1 + 1 < w1.heap.size := by
      have := hb.size
      simp at this
      omega
    obtain ⟨z1, z2, z3⟩ := hz
    obtain ⟨k1, k2, k3⟩ := boxed3 hb
    have p0 : w1.cell? ⟨w.heap.size, 0, none⟩ = some (.slice FA nf fc) := k1 0 _ rfl
    have p1 : w1.cell? ⟨w.heap.size, 1, none⟩ = some (.slice TA nt tc) := k1 1 _ rfl
    have q0 : w1.cell? ⟨w.heap.size + 1, 0, none⟩ = some (.string nm) := k2 0 _ rfl
    have q1 : w1.cell? ⟨w.heap.size + 1, 1, none⟩ = some (.int .i64 pa) := k2 1 _ rfl
    have q2 : w1.cell? ⟨w.heap.size + 1, 2, none⟩ = some (.int .i64 sl) := k2 2 _ rfl
    have q3 : w1.cell? ⟨w.heap.size + 1, 3, none⟩ = some (.int .i64 ca) := k2 3 _ rfl
    have q4 : w1.cell? ⟨w.heap.size + 1, 4, none⟩ = some (.slice IA ni ic) := k2 4 _ rfl
    have r0 : w1.cell? ⟨w.heap.size + 1 + 1, 0, none⟩ = some (.int .i64 op) := k3 0 _ rfl
    have r1 : w1.cell? ⟨w.heap.size + 1 + 1, 1, none⟩ = some (.int .i64 a) := k3 1 _ rfl
    have r2 : w1.cell? ⟨w.heap.size + 1 + 1, 2, none⟩ = some (.int .i64 b) := k3 2 _ rfl
    have r3 : w1.cell? ⟨w.heap.size + 1 + 1, 3, none⟩ = some (.int .i64 c) := k3 3 _ rfl
    have r4 : w1.cell? ⟨w.heap.size + 1 + 1, 4, none⟩ = some (.int .i64 d) := k3 4 _ rfl
    have r5 : w1.cell? ⟨w.heap.size + 1 + 1, 5, none⟩ = some (.int .i64 e) := k3 5 _ rfl
    clear hb k1 k2 k3
    go_wp2_with fail
    go_ret
    exact ⟨by rw [HE.out]; rfl, al2 HB.out _⟩
theorem fr_cp (hX : CXok X) (hc : CapsAt w FA X.nf X.caps) : Calls Tryz.prog 70 #[codeV FA TA fc tc X, fnV IA ic nm pa X, insVal op a b c d e, .string ⟨#[99, 97, 112, 115]⟩, .int .i64 n] w fun r w' => r = .returned (.bool (fieldR X b c d [99, 97, 112, 115] n)) ∧ Below w.heap.size w w' := by
  obtain ⟨nf, nt, ni, sl, ca, caps⟩ := X
  obtain ⟨hsl, hca, hnf, hnt, hni⟩ := hX
  simp only at hsl hca hnf hnt hni hc
  unfold codeV fnV insVal
  simp only
  have HE := Lib.hid (show fieldR ⟨nf, nt, ni, sl, ca, caps⟩ b c d [99, 97, 112, 115] n = (withinB b 0 ((nf : Int) - 1) && decide (n = caps b.toNat)) from rfl)
  rcases within_cases b 0 ((nf : Int) - 1) with ⟨h1, h2, hw⟩ | ⟨h1, h2, hw⟩ | ⟨h1, hw⟩
  · rw [hw] at HE
    clear hw
    obtain ⟨m, rfl⟩ : ∃ m : Nat, b = m := ⟨b.toNat, by omega⟩
    have hm : m < nf := by omega
    have hmi : (m : Int) < (nf : Int) := by omega
    obtain ⟨fb, off, rfl, hlt, hcell⟩ := hc (by omega)
    have hcm := hcell m hm
    rw [Int.toNat_natCast] at HE
    have HLT := Lib.hid hlt
    clear hcell hc
    generalize caps m = cm at *
    by_cases h0 : n = cm
    · have h0b : (n == cm) = true := by simpa using h0
      rw [decide_eq_true h0] at HE
      clear h0
      go_enter Tryz.func70, Tryz.ntmps70
      go_wp2_with fail
      refine (num5_any _ _ _ _ _ _ _).mono ?_
      rintro r w1 ⟨rfl, hb⟩
      have HB := Lib.hid (sq (sq (sq (al _) (al _)) (al _)) hb)
      have hz : w.heap.size < w1.heap.size ∧ w.heap.size + 1 < w1.heap.size ∧ w.heap.size + 1 + 1 < w1.heap.size := by
        have := hb.size
        simp at this
        omega
      obtain ⟨z1, z2, z3⟩ := hz
      obtain ⟨k1, k2, k3⟩ := boxed3 hb
      have p0 : w1.cell? ⟨w.heap.size, 0, none⟩ = some (.slice (some ⟨fb, off, none⟩) nf fc) := k1 0 _ rfl
      have p1 : w1.cell? ⟨w.heap.size, 1, none⟩ = some (.slice TA nt tc) := k1 1 _ rfl
      have q0 : w1.cell? ⟨w.heap.size + 1, 0, none⟩ = some (.string nm) := k2 0 _ rfl
      have q1 : w1.cell? ⟨w.heap.size + 1, 1, none⟩ = some (.int .i64 pa) := k2 1 _ rfl
      have q2 : w1.cell? ⟨w.heap.size + 1, 2, none⟩ = some (.int .i64 sl) := k2 2 _ rfl
      have q3 : w1.cell? ⟨w.heap.size + 1, 3, none⟩ = some (.int .i64 ca) := k2 3 _ rfl
      have q4 : w1.cell? ⟨w.heap.size + 1, 4, none⟩ = some (.slice IA ni ic) := k2 4 _ rfl
      have r0 : w1.cell? ⟨w.heap.size + 1 + 1, 0, none⟩ = some (.int .i64 op) := k3 0 _ rfl
      have r1 : w1.cell? ⟨w.heap.size + 1 + 1, 1, none⟩ = some (.int .i64 a) := k3 1 _ rfl
      have r2 : w1.cell? ⟨w.heap.size + 1 + 1, 2, none⟩ = some (.int .i64 (m : Int)) := k3 2 _ rfl
      have r3 : w1.cell? ⟨w.heap.size + 1 + 1, 3, none⟩ = some (.int .i64 c) := k3 3 _ rfl
      have r4 : w1.cell? ⟨w.heap.size + 1 + 1, 4, none⟩ = some (.int .i64 d) := k3 4 _ rfl
      have r5 : w1.cell? ⟨w.heap.size + 1 + 1, 5, none⟩ = some (.int .i64 e) := k3 5 _ rfl
      have hcm1 : w1.cell? ⟨fb, off + m * 5 + 3, none⟩ = some (.int .i64 cm) := by
        refine ((sq (sq (sq (al _) (al _)) (al _)) hb).cell (p := ⟨fb, off + m * 5 + 3, none⟩) HLT.out).trans hcm
      have z4 : fb < w1.heap.size := Nat.lt_of_lt_of_le HLT.out HB.out.size
      clear hb k1 k2 k3
      go_wp2_with fail
      go_ret
      exact ⟨by rw [HE.out]; rfl, al2 HB.out _⟩
    · have h0b : (n == cm) = false := by simpa using h0
      rw [decide_eq_false h0] at HE
      clear h0
      go_enter Tryz.func70, Tryz.ntmps70
      go_wp2_with fail
      refine (num5_any _ _ _ _ _ _ _).mono ?_
      rintro r w1 ⟨rfl, hb⟩
      have HB := Lib.hid (sq (sq (sq (al _) (al _)) (al _)) hb)
      have hz : w.heap.size < w1.heap.size ∧ w.heap.size + 1 < w1.heap.size ∧ w.heap.size + 1 + 1 < w1.heap.size := by
        have := hb.size
        simp at this
        omega
      obtain ⟨z1, z2, z3⟩ := hz
      obtain ⟨k1, k2, k3⟩ := boxed3 hb
      have p0 : w1.cell? ⟨w.heap.size, 0, none⟩ = some (.slice (some ⟨fb, off, none⟩) nf fc) := k1 0 _ rfl
      have p1 : w1.cell? ⟨w.heap.size, 1, none⟩ = some (.slice TA nt tc) := k1 1 _ rfl
      have q0 : w1.cell? ⟨w.heap.size + 1, 0, none⟩ = some (.string nm) := k2 0 _ rfl
      have q1 : w1.cell? ⟨w.heap.size + 1, 1, none⟩ = some (.int .i64 pa) := k2 1 _ rfl
      have q2 : w1.cell? ⟨w.heap.size + 1, 2, none⟩ = some (.int .i64 sl) := k2 2 _ rfl
      have q3 : w1.cell? ⟨w.heap.size + 1, 3, none⟩ = some (.int .i64 ca) := k2 3 _ rfl
      have q4 : w1.cell? ⟨w.heap.size + 1, 4, none⟩ = some (.slice IA ni ic) := k2 4 _ rfl
      have r0 : w1.cell? ⟨w.heap.size + 1 + 1, 0, none⟩ = some (.int .i64 op) := k3 0 _ rfl
      have r1 : w1.cell? ⟨w.heap.size + 1 + 1, 1, none⟩ = some (.int .i64 a) := k3 1 _ rfl
      have r2 : w1.cell? ⟨w.heap.size + 1 + 1, 2, none⟩ = some (.int .i64 (m : Int)) := k3 2 _ rfl
      have r3 : w1.cell? ⟨w.heap.size + 1 + 1, 3, none⟩ = some (.int .i64 c) := k3 3 _ rfl
      have r4 : w1.cell? ⟨w.heap.size + 1 + 1, 4, none⟩ = some (.int .i64 d) := k3 4 _ rfl
      have r5 : w1.cell? ⟨w.heap.size + 1 + 1, 5, none⟩ = some (.int .i64 e) := k3 5 _ rfl
      have hcm1 : w1.cell? ⟨fb, off + m * 5 + 3, none⟩ = some (.int .i64 cm) := by
        refine ((sq (sq (sq (al _) (al _)) (al _)) hb).cell (p := ⟨fb, off + m * 5 + 3, none⟩) HLT.out).trans hcm
      have z4 : fb < w1.heap.size := Nat.lt_of_lt_of_le HLT.out HB.out.size
      clear hb k1 k2 k3
      go_wp2_with fail
      go_ret
      exact ⟨by rw [HE.out]; rfl, al2 HB.out _⟩
  · have h3 : decide (b < (nf : Int)) = false := by simp at h2 ⊢; omega
    rw [hw] at HE
    clear hw hc h2
    go_enter Tryz.func70, Tryz.ntmps70
    go_wp2_with fail
    refine (num5_any _ _ _ _ _ _ _).mono ?_
    rintro r w1 ⟨rfl, hb⟩
    have HB := Lib.hid (sq (sq (sq (al _) (al _)) (al _)) hb)
    have hz : w.heap.size < w1.heap.size ∧ w.heap.size + 1 < w1.heap.size ∧ w.heap.size + 1 + 1 < w1.heap.size := by
      have := hb.size
      simp at this
      omega
    obtain ⟨z1, z2, z3⟩ := hz
    obtain ⟨k1, k2, k3⟩ := boxed3 hb
    have p0 : w1.cell? ⟨w.heap.size, 0, none⟩ = some (.slice FA nf fc) := k1 0 _ rfl
    have p1 : w1.cell? ⟨w.heap.size, 1, none⟩ = some (.slice TA nt tc) := k1 1 _ rfl
    have q0 : w1.cell? ⟨w.heap.size + 1, 0, none⟩ = some (.string nm) := k2 0 _ rfl
    have q1 : w1.cell? ⟨w.heap.size + 1, 1, none⟩ = some (.int .i64 pa) := k2 1 _ rfl
    have q2 : w1.cell? ⟨w.heap.size + 1, 2, none⟩ = some (.int .i64 sl) := k2 2 _ rfl
    have q3 : w1.cell? ⟨w.heap.size + 1, 3, none⟩ = some (.int .i64 ca) := k2 3 _ rfl
    have q4 : w1.cell? ⟨w.heap.size + 1, 4, none⟩ = some (.slice IA ni ic) := k2 4 _ rfl
    have r0 : w1.cell? ⟨w.heap.size + 1 + 1, 0, none⟩ = some (.int .i64 op) := k3 0 _ rfl
    have r1 : w1.cell? ⟨w.heap.size + 1 + 1, 1, none⟩ = some (.int .i64 a) := k3 1 _ rfl
    have r2 : w1.cell? ⟨w.heap.size + 1 + 1, 2, none⟩ = some (.int .i64 b) := k3 2 _ rfl
    have r3 : w1.cell? ⟨w.heap.size + 1 + 1, 3, none⟩ = some (.int .i64 c) := k3 3 _ rfl
    have r4 : w1.cell? ⟨w.heap.size + 1 + 1, 4, none⟩ = some (.int .i64 d) := k3 4 _ rfl
    have r5 : w1.cell? ⟨w.heap.size + 1 + 1, 5, none⟩ = some (.int .i64 e) := k3 5 _ rfl
    clear hb k1 k2 k3
    go_wp2_with fail
    go_ret
    exact ⟨by rw [HE.out]; rfl, al2 HB.out _⟩
  · rw [hw] at HE
    clear hw hc
    go_enter Tryz.func70, Tryz.ntmps70
    go_wp2_with fail
    refine (num5_any _ _ _ _ _ _ _).mono ?_
    rintro r w1 ⟨rfl, hb⟩
    have HB := Lib.hid (sq (sq (sq (al _) (al _)) (al _)) hb)
    have hz : w.heap.size < w1.heap.size ∧ w.heap.size + 1 < w1.heap.size ∧ w.heap.size + 1 + 1 < w1.heap.size := by
      have := hb.size
      simp at this
      omega
    obtain ⟨z1, z2, z3⟩ := hz
    obtain ⟨k1, k2, k3⟩ := boxed3 hb
    have p0 : w1.cell? ⟨w.heap.size, 0, none⟩ = some (.slice FA nf fc) := k1 0 _ rfl
    have p1 : w1.cell? ⟨w.heap.size, 1, none⟩ = some (.slice TA nt tc) := k1 1 _ rfl
    have q0 : w1.cell? ⟨w.heap.size + 1, 0, none⟩ = some (.string nm) := k2 0 _ rfl
    have q1 : w1.cell? ⟨w.heap.size + 1, 1, none⟩ = some (.int .i64 pa) := k2 1 _ rfl
    have q2 : w1.cell? ⟨w.heap.size + 1, 2, none⟩ = some (.int .i64 sl) := k2 2 _ rfl
    have q3 : w1.cell? ⟨w.heap.size + 1, 3, none⟩ = some (.int .i64 ca) := k2 3 _ rfl
    have q4 : w1.cell? ⟨w.heap.size + 1, 4, none⟩ = some (.slice IA ni ic) := k2 4 _ rfl
    have r0 : w1.cell? ⟨w.heap.size + 1 + 1, 0, none⟩ = some (.int .i64 op) := k3 0 _ rfl
    have r1 : w1.cell? ⟨w.heap.size + 1 + 1, 1, none⟩ = some (.int .i64 a) := k3 1 _ rfl
    have r2 : w1.cell? ⟨w.heap.size + 1 + 1, 2, none⟩ = some (.int .i64 b) := k3 2 _ rfl
    have r3 : w1.cell? ⟨w.heap.size + 1 + 1, 3, none⟩ = some (.int .i64 c) := k3 3 _ rfl
    have r4 : w1.cell? ⟨w.heap.size + 1 + 1, 4, none⟩ = some (.int .i64 d) := k3 4 _ rfl
    have r5 : w1.cell? ⟨w.heap.size + 1 + 1, 5, none⟩ = some (.int .i64 e) := k3 5 _ rfl
    clear hb k1 k2 k3
    go_wp2_with fail
    go_ret
    exact ⟨by rw [HE.out]; rfl, al2 HB.out _⟩
theorem fr_all (k : List UInt8) (hk : k ∈ kindsL) (hX : CXok X) (hc : CapsAt w FA X.nf X.caps) : Calls Tryz.prog 70 #[codeV FA TA fc tc X, fnV IA ic nm pa X, insVal op a b c d e, .string ⟨k.toArray⟩, .int .i64 n] w fun r w' => r = .returned (.bool (fieldR X b c d k n)) ∧ Below w.heap.size w w' := by
  simp only [kindsL, List.mem_cons, List.not_mem_nil, or_false] at hk
  rcases hk with rfl | rfl | rfl | rfl | rfl | rfl | rfl | rfl | rfl | rfl | rfl | rfl | rfl | rfl | rfl | rfl | rfl | rfl | rfl
  · exact fr_n FA TA IA fc tc ic nm pa op a b c d e X n w hX hc
  · exact fr_any FA TA IA fc tc ic nm pa op a b c d e X n w hX hc
  · exact fr_a FA TA IA fc tc ic nm pa op a b c d e X n w hX hc
  · exact fr_s FA TA IA fc tc ic nm pa op a b c d e X n w hX hc
  · exact fr_r FA TA IA fc tc ic nm pa op a b c d e X n w hX hc
  · exact fr_b FA TA IA fc tc ic nm pa op a b c d e X n w hX hc
  · exact fr_x FA TA IA fc tc ic nm pa op a b c d e X n w hX hc
  · exact fr_f FA TA IA fc tc ic nm pa op a b c d e X n w hX hc
  · exact fr_g FA TA IA fc tc ic nm pa op a b c d e X n w hX hc
  · exact fr_t FA TA IA fc tc ic nm pa op a b c d e X n w hX hc
  · exact fr_o FA TA IA fc tc ic nm pa op a b c d e X n w hX hc
  · exact fr_c FA TA IA fc tc ic nm pa op a b c d e X n w hX hc
  · exact fr_k FA TA IA fc tc ic nm pa op a b c d e X n w hX hc
  · exact fr_p FA TA IA fc tc ic nm pa op a b c d e X n w hX hc
  · exact fr_w FA TA IA fc tc ic nm pa op a b c d e X n w hX hc
  · exact fr_b2 FA TA IA fc tc ic nm pa op a b c d e X n w hX hc
  · exact fr_b3 FA TA IA fc tc ic nm pa op a b c d e X n w hX hc
  · exact fr_cp FA TA IA fc tc ic nm pa op a b c d e X n w hX hc
  · exact fr_z FA TA IA fc tc ic nm pa op a b c d e X n w hX hc
end
end Go.Proofs.YtjegfimagjmpdaaGreatDoor
