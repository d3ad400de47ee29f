/- Rows of words that fill their block; division by 2^64, plain. Conditions: none. -/
import Derived.Test.YtdpgcojgnehnpaaBigDiv2
set_option maxRecDepth 20000
namespace Go.Proofs.Ytdpgcojgnehnpaa
open Go.ChangeShapes Go.WideShapes Go.ChangeAt Go.RowKit
/-- A block that holds just these words. -/
def Row (w : World) (g : Nat) (l : List Nat) : Prop := w.heap[g]? = some (.cells (u32s l).toArray 190 (0, 0))
theorem Row.own {w : World} {g base n : Nat} {l : List Nat} (h : Row w g l) (hb : base ≤ g) (hn : n = l.length) (hm : n ≤ 1000000) : w.ownsRow base 190 1 (.slice (some ⟨g, 0, none⟩) n n) n (u32s l) :=
  ⟨by simp [hn], .inr ⟨g, n, _, rfl, hb, h, Nat.le_refl _, by unfold maxLen; omega, by simp [hn], by rw [show ((u32s l).toArray).toList = u32s l from rfl]; exact List.take_of_length_le (by simp [hn])⟩⟩
theorem Row.of_own {w : World} {g base n : Nat} {l : List Nat} (h : w.ownsRow base 190 1 (.slice (some ⟨g, 0, none⟩) n n) n (u32s l)) : Row w g l := by
  rcases h.2 with ⟨h1, _⟩ | ⟨g', cap, cur, h1, _, hg, _, _, hs, ht⟩
  · simp at h1
  · simp at h1
    obtain ⟨rfl, rfl⟩ := h1
    unfold Row
    rw [hg, ← ht, List.take_of_length_le (by simp [hs])]
theorem Row.cell {w : World} {g k : Nat} {l : List Nat} (h : Row w g l) (hk : k < l.length) (hm : l.length ≤ 1000000) : w.cell? ⟨g, k, none⟩ = some (.int .u32 ((l.getD k 0 : Nat) : Int)) := by
  have := (h.own (Nat.zero_le g) rfl hm).cellAt k (by omega)
  rwa [u32s_get _ _ hk] at this
theorem Row.frozen {w : World} {g : Nat} {l : List Nat} (h : Row w g l) (k : Nat) (hm : l.length ≤ 1000000) : w.frozen? ⟨g, k, none⟩ = false := (h.own (Nat.zero_le g) rfl hm).frozenAt k
theorem Row.set {w : World} {g : Nat} {l : List Nat} (h : Row w g l) (k x : Nat) (hm : l.length ≤ 1000000) : Row (w.setCell ⟨g, k, none⟩ (.int .u32 (x : Int))) g (l.set k x) := by
  have := ((h.own (Nat.zero_le g) rfl hm).stored k (.int .u32 (x : Int))).1
  rw [u32s_set] at this
  exact Row.of_own this
theorem Row.other {w : World} {g : Nat} {l : List Nat} (h : Row w g l) (a : Addr) (u : Value) (hne : g ≠ a.block) : Row (w.setCell a u) g l := by
  unfold Row
  rw [Below.heap_setCell _ _ _ _ hne]
  exact h
theorem Row.below {w w' : World} {g B : Nat} {l : List Nat} (h : Row w g l) (hg : g < B) (hb : Below B w w') : Row w' g l := by
  unfold Row
  rw [hb.block g hg]
  exact h
theorem Row.drew {w : World} {g : Nat} {l : List Nat} (h : Row w g l) (n : Nat) : Row (w.drewN n) g l := h
theorem Row.lt {w : World} {g : Nat} {l : List Nat} (h : Row w g l) : g < w.heap.size := by
  rcases Nat.lt_or_ge g w.heap.size with h1 | h1
  · exact h1
  · unfold Row at h
    rw [Array.getElem?_eq_none h1] at h
    cases h
/-! ### plain -/
theorem kn_get0 {U : List Nat} {j R m : Nat} (h : j + 3 ≤ U.length) : (U.take (j + 3) ++ R :: List.replicate m 0).getD (j + 3) 0 = R := by
  rw [List.getD, List.getElem?_append_right (by rw [List.length_take]; omega), List.length_take, Nat.min_eq_left h, Nat.sub_self]
  rfl
theorem kn_get {U : List Nat} {j R m k : Nat} (h : j + 3 ≤ U.length) (hk : k < j + 3) : (U.take (j + 3) ++ R :: List.replicate m 0).getD k 0 = U.getD k 0 := by
  rw [List.getD, List.getElem?_append_left (by rw [List.length_take]; omega), List.getElem?_take_of_lt hk, ← List.getD]
theorem kn_set {U : List Nat} {j R m r : Nat} (h : j + 3 ≤ U.length) : ((U.take (j + 3) ++ R :: List.replicate m 0).set (j + 2) r).set (j + 3) 0 = U.take (j + 2) ++ r :: List.replicate (m + 1) 0 := by
  have e : U.take (j + 3) = U.take (j + 2) ++ [U.getD (j + 2) 0] := by
    rw [List.take_add_one]
    simp [List.getD, List.getElem?_eq_getElem (show j + 2 < U.length by omega)]
  have hl : (U.take (j + 2)).length = j + 2 := by rw [List.length_take]; omega
  rw [e, List.append_assoc, List.singleton_append, List.set_append_right _ _ (by omega), hl, Nat.sub_self, List.set_cons_zero, List.set_append_right _ _ (by omega), hl, show j + 3 - (j + 2) = 0 + 1 by omega, List.set_cons_succ, List.set_cons_zero, List.replicate_succ]
theorem kn_len {U : List Nat} {J R n : Nat} (h : U.length = n + 2) (hJ : J + 1 ≤ n) : (U.take (J + 2) ++ R :: List.replicate (n - 1 - J) 0).length = n + 2 := by
  simp [h]; omega
/-- What the great loop keeps: the words of the quotient that stand, and what is left above. -/
def Kn (U : List Nat) (n J : Nat) (t : List Nat) (R : Nat) : Prop :=
  t.length + J = n - 1 ∧ (∀ x ∈ t, x < 4294967296) ∧ wv t = wv (U.drop (J + 2)) / 2147483648 ∧ R = wv (U.drop (J + 2)) % 2147483648
theorem Kn.start {U : List Nat} {n : Nat} (hU : U.length = n + 2) (hn : 3 ≤ n) (h0 : U.getD (n + 1) 0 = 0) : Kn U n (n - 1) [] 0 ∧ U.take (n - 1 + 2) ++ 0 :: List.replicate (n - 1 - (n - 1)) 0 = U := by
  have hd : U.drop (n - 1 + 2) = [0] := by
    rw [show n - 1 + 2 = n + 1 by omega, List.drop_eq_getElem_cons (show n + 1 < U.length by omega), List.drop_eq_nil_of_le (by omega)]
    rw [List.getD, List.getElem?_eq_getElem (show n + 1 < U.length by omega)] at h0
    rw [show U[n + 1] = 0 from h0]
  refine ⟨⟨by simp, by simp, by rw [hd]; simp [wv], by rw [hd]; simp [wv]⟩, ?_⟩
  have := List.take_append_drop (n - 1 + 2) U
  rw [hd] at this
  simpa using this
theorem Kn.facts {U : List Nat} {n j R : Nat} {t : List Nat} (hl : ∀ d ∈ U, d < 4294967296) (hU : U.length = n + 2) (hj : j + 1 ≤ n - 1) (h : Kn U n (j + 1) t R) :
    ∃ g r, R * 4294967296 + U.getD (j + 2) 0 = g * 2147483648 + r ∧ r < 2147483648 ∧ g < 4294967296 ∧ R < 2147483648 ∧ Kn U n j (g :: t) r := by
  obtain ⟨h1, h2, h3, h4⟩ := h
  have hR : R < 2147483648 := by rw [h4]; exact Nat.mod_lt _ (by omega)
  have hx := getD_lt hl (j + 2)
  have hs := small_step (x := U.getD (j + 2) 0) (X := wv (U.drop (j + 3))) (d := 2147483648) (by omega)
  rw [show j + 1 + 2 = j + 3 by omega] at h3 h4
  rw [← wv_drop (by omega), ← h4] at hs
  have hg := small_lt (x := U.getD (j + 2) 0) (r := R) (d := 2147483648) (by omega) hR hx
  refine ⟨(R * 4294967296 + U.getD (j + 2) 0) / 2147483648, (R * 4294967296 + U.getD (j + 2) 0) % 2147483648, ?_, Nat.mod_lt _ (by omega), hg, hR, ?_, ?_, ?_, ?_⟩
  · have := Nat.div_add_mod (R * 4294967296 + U.getD (j + 2) 0) 2147483648
    omega
  · simp; omega
  · intro x hx
    rcases List.mem_cons.1 hx with rfl | hx
    · exact hg
    · exact h2 x hx
  · rw [hs.1, wv, h3]
  · rw [hs.2]
theorem Kn.done {N n R : Nat} {U t : List Nat} (hl : ∀ d ∈ U, d < 4294967296) (hU : U.length = n + 2) (hn : 3 ≤ n) (hv : wv U = N * 2 ^ 31) (h : Kn U n 0 t R) :
    wv t = N / 18446744073709551616 ∧ wv (U.take 2 ++ R :: List.replicate (n - 1) 0) / 2 ^ 31 = N % 18446744073709551616 ∧ (∀ x ∈ U.take 2 ++ R :: List.replicate (n - 1) 0, x < 4294967296) := by
  obtain ⟨h1, h2, h3, h4⟩ := h
  have hd := wv_dropw hl 2
  rw [hv, show (4294967296 : Nat) ^ 2 = 18446744073709551616 from rfl] at hd
  rw [Nat.zero_add] at h3 h4
  have hs := wv_split (l := U) (i := 2) (by omega)
  have hlt := wv_lt (l := U.take 2) (fun d hd => hl d (List.mem_of_mem_take hd))
  rw [List.length_take, Nat.min_eq_left (by omega), show (4294967296 : Nat) ^ 2 = 18446744073709551616 from rfl] at hlt
  rw [show (4294967296 : Nat) ^ 2 = 18446744073709551616 from rfl, hd, hv] at hs
  have ht : wv (U.take 2) = N * 2 ^ 31 % 18446744073709551616 := by omega
  refine ⟨by rw [h3, hd, shift_div], ?_, ?_⟩
  · rw [wv_app, List.length_take, Nat.min_eq_left (by omega), wv, wv_rep, ht, h4, hd, ← shift_mod N]
    rw [show (4294967296 : Nat) ^ 2 = 18446744073709551616 from rfl, Nat.mul_zero, Nat.add_zero]
  · intro x hx
    rcases List.mem_append.1 hx with hx | hx
    · exact hl x (List.mem_of_mem_take hx)
    · rcases List.mem_cons.1 hx with rfl | hx
      · rw [h4]; exact Nat.lt_trans (Nat.mod_lt _ (by omega)) (by omega)
      · rw [(List.mem_replicate.1 hx).2]; omega
/-- The digit's numbers. -/
theorem kn_nums {R x g r : Nat} (h : R * 4294967296 + x = g * 2147483648 + r) (hr : r < 2147483648) (hx : x < 4294967296) :
    ∃ P lo, P = g * 2147483648 ∧ lo = P % 4294967296 ∧ x = lo + r ∧ P / 4294967296 = R := by
  refine ⟨g * 2147483648, g * 2147483648 % 4294967296, rfl, rfl, ?_, ?_⟩ <;> omega
end Go.Proofs.Ytdpgcojgnehnpaa
