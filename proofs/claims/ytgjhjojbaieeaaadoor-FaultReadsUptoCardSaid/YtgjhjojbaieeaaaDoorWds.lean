/- Plain: the 32-bit words of a number; adding, multiplying, dividing by one word, shifting. Conditions: none. -/
namespace Go.Proofs.YtgjhjojbaieeaaaDoor
/-- The 32-bit words of a number, the least first, none of them a nought at the end. -/
def wds (n : Nat) : List Nat := if h : n = 0 then [] else n % 4294967296 :: wds (n / 4294967296)
decreasing_by omega
/-- The number that words tell. -/
def wv : List Nat → Nat
  | [] => 0
  | a :: r => a + 4294967296 * wv r
theorem wds_zero : wds 0 = [] := by rw [wds]; simp
theorem wds_pos {n : Nat} (h : n ≠ 0) : wds n = n % 4294967296 :: wds (n / 4294967296) := by rw [wds]; simp [h]
theorem wds_cons {a m : Nat} (ha : a < 4294967296) (h : a + 4294967296 * m ≠ 0) : wds (a + 4294967296 * m) = a :: wds m := by
  rw [wds_pos h, show (a + 4294967296 * m) % 4294967296 = a by omega, show (a + 4294967296 * m) / 4294967296 = m by omega]
theorem wds_one {a : Nat} (ha : a < 4294967296) (h : a ≠ 0) : wds a = [a] := by
  have := wds_cons (m := 0) ha (by omega)
  rw [wds_zero] at this
  simpa using this
theorem wv_wds (n : Nat) : wv (wds n) = n := by
  induction n using Nat.strongRecOn with
  | _ n ih =>
    by_cases h : n = 0
    · subst h; rw [wds_zero]; rfl
    · rw [wds_pos h, wv, ih _ (by omega)]; omega
theorem wds_lt (n : Nat) : ∀ d ∈ wds n, d < 4294967296 := by
  induction n using Nat.strongRecOn with
  | _ n ih =>
    by_cases h : n = 0
    · subst h; rw [wds_zero]; simp
    · rw [wds_pos h]
      intro d hd
      rcases List.mem_cons.1 hd with rfl | hd
      · omega
      · exact ih _ (by omega) d hd
theorem wds_nil {n : Nat} : wds n = [] ↔ n = 0 := by
  constructor
  · intro h
    rcases Nat.eq_zero_or_pos n with h0 | h0
    · exact h0
    · rw [wds_pos (by omega)] at h; cases h
  · rintro rfl; exact wds_zero
theorem wv_app (l m : List Nat) : wv (l ++ m) = wv l + 4294967296 ^ l.length * wv m := by
  induction l with
  | nil => simp [wv]
  | cons a r ih =>
    simp only [List.cons_append, wv, ih, List.length_cons, Nat.pow_succ, Nat.mul_add]
    rw [show 4294967296 ^ r.length * 4294967296 * wv m = 4294967296 * (4294967296 ^ r.length * wv m) by rw [Nat.mul_comm (4294967296 ^ r.length), Nat.mul_assoc]]
    omega
theorem wv_zeros {l : List Nat} (h : ∀ d ∈ l, d = 0) : wv l = 0 := by
  induction l with
  | nil => rfl
  | cons a r ih =>
    rw [wv, ih fun d hd => h d (List.mem_cons_of_mem _ hd), h a (by simp)]
theorem wv_rep (n : Nat) : wv (List.replicate n 0) = 0 := wv_zeros fun _ hd => (List.mem_replicate.1 hd).2
/-- What is left of words when the noughts at their end are cut off. -/
theorem wds_take {l : List Nat} : ∀ {n : Nat}, (∀ d ∈ l, d < 4294967296) → n ≤ l.length → (∀ d ∈ l.drop n, d = 0) → (∀ m, n = m + 1 → l.getD m 0 ≠ 0) → l.take n = wds (wv l) := by
  induction l with
  | nil => intro n _ _ _ _; simp [wv, wds_zero]
  | cons a r ih =>
    intro n hl hn hz hne
    have ha := hl a (by simp)
    cases n with
    | zero =>
      rw [wv_zeros (l := a :: r) (by simpa using hz), wds_zero]; rfl
    | succ m =>
      have h1 := ih (n := m) (fun d hd => hl d (List.mem_cons_of_mem _ hd)) (by simpa using hn) (by simpa using hz) (fun k hk => by subst hk; have := hne (k + 1) rfl; simpa using this)
      rw [List.take_succ_cons, h1, wv]
      by_cases h0 : a + 4294967296 * wv r = 0
      · exfalso
        have hr : wv r = 0 := by omega
        have ha0 : a = 0 := by omega
        rw [hr, wds_zero] at h1
        cases m with
        | zero => have := hne 0 rfl; simp [ha0] at this
        | succ k =>
          cases r with
          | nil => simp at hn
          | cons b s => simp at h1
      · rw [wds_cons ha h0]
theorem wv_lt {l : List Nat} (h : ∀ d ∈ l, d < 4294967296) : wv l < 4294967296 ^ l.length := by
  induction l with
  | nil => simp [wv]
  | cons a r ih =>
    have h1 := ih fun d hd => h d (List.mem_cons_of_mem _ hd)
    have h2 := h a (by simp)
    rw [wv, List.length_cons, Nat.pow_succ]
    have : wv r + 1 ≤ 4294967296 ^ r.length := h1
    have := Nat.mul_le_mul_left 4294967296 this
    rw [Nat.mul_comm (4294967296 ^ r.length)]
    omega
theorem wds_len {n k : Nat} (h : n < 4294967296 ^ k) : (wds n).length ≤ k := by
  induction k generalizing n with
  | zero => have : n = 0 := by simpa using h
            subst this; rw [wds_zero]; simp
  | succ k ih =>
    by_cases h0 : n = 0
    · subst h0; rw [wds_zero]; simp
    · rw [wds_pos h0, List.length_cons]
      have := ih (n := n / 4294967296) (by rw [Nat.div_lt_iff_lt_mul (by omega)]; rw [Nat.pow_succ] at h; exact h)
      omega
theorem wds_inj {a b : Nat} : wds a = wds b ↔ a = b := ⟨fun h => by rw [← wv_wds a, h, wv_wds], fun h => by rw [h]⟩
theorem wv_take_succ {l : List Nat} {i : Nat} (h : i < l.length) : wv (l.take (i + 1)) = wv (l.take i) + 4294967296 ^ i * l.getD i 0 := by
  rw [List.take_add_one, wv_app, List.length_take, Nat.min_eq_left (by omega), List.getElem?_eq_getElem h]
  simp [wv, List.getD, List.getElem?_eq_getElem h]
theorem wv_drop {l : List Nat} {i : Nat} (h : i < l.length) : wv (l.drop i) = l.getD i 0 + 4294967296 * wv (l.drop (i + 1)) := by
  rw [List.drop_eq_getElem_cons h, wv]
  simp [List.getD, List.getElem?_eq_getElem h]
theorem wv_split {l : List Nat} {i : Nat} (h : i ≤ l.length) : wv l = wv (l.take i) + 4294967296 ^ i * wv (l.drop i) := by
  have := wv_app (l.take i) (l.drop i)
  rwa [List.take_append_drop, List.length_take, Nat.min_eq_left h] at this
theorem getD_lt {l : List Nat} (h : ∀ d ∈ l, d < 4294967296) (i : Nat) : l.getD i 0 < 4294967296 := by
  by_cases hi : i < l.length
  · simp only [List.getD, List.getElem?_eq_getElem hi, Option.getD_some]; exact h _ (List.getElem_mem hi)
  · simp [List.getD, List.getElem?_eq_none (Nat.le_of_not_lt hi)]
theorem wv_cmp {a b : List Nat} {j : Nat} (ha : ∀ d ∈ a, d < 4294967296) (hj : j < a.length) (hj' : j < b.length) (hd : a.drop (j + 1) = b.drop (j + 1)) (h : a.getD j 0 < b.getD j 0) : wv a < wv b := by
  have e1 := wv_split (l := a) (i := j) (by omega)
  have e2 := wv_split (l := b) (i := j) (by omega)
  rw [wv_drop hj] at e1
  rw [wv_drop hj', ← hd] at e2
  have h1 : wv (a.take j) < 4294967296 ^ j := by
    have := wv_lt (l := a.take j) (fun d hd => ha d (List.mem_of_mem_take hd))
    rwa [List.length_take, Nat.min_eq_left (by omega)] at this
  generalize wv (a.drop (j + 1)) = X at e1 e2
  have h2 : 4294967296 ^ j * (a.getD j 0 + 1 + 4294967296 * X) ≤ 4294967296 ^ j * (b.getD j 0 + 4294967296 * X) := Nat.mul_le_mul_left _ (by omega)
  rw [show a.getD j 0 + 1 + 4294967296 * X = (a.getD j 0 + 4294967296 * X) + 1 by omega, Nat.mul_add, Nat.mul_one] at h2
  omega
theorem wds_ge {n : Nat} (h : n ≠ 0) : 4294967296 ^ ((wds n).length - 1) ≤ n := by
  induction n using Nat.strongRecOn with
  | _ n ih =>
    rw [wds_pos h, List.length_cons, Nat.add_sub_cancel]
    by_cases h0 : n / 4294967296 = 0
    · rw [h0, wds_zero]; simp; omega
    · have h1 := ih _ (by omega) h0
      have h2 : 0 < (wds (n / 4294967296)).length := by
        rw [List.length_pos_iff]; intro hh; exact h0 (wds_nil.1 hh)
      have h3 : (wds (n / 4294967296)).length = ((wds (n / 4294967296)).length - 1) + 1 := by omega
      rw [h3, Nat.pow_succ]
      have := Nat.mul_le_mul_right 4294967296 h1
      omega
theorem wds_len_lt {a b : Nat} (h : (wds a).length < (wds b).length) : a < b := by
  have h1 := wv_lt (wds_lt a)
  rw [wv_wds] at h1
  have hb : b ≠ 0 := by rintro rfl; rw [wds_zero] at h; simp at h
  have h2 := wds_ge hb
  exact Nat.lt_of_lt_of_le h1 (Nat.le_trans (Nat.pow_le_pow_right (by omega) (by omega)) h2)
/-- Division by one word: one step, from above. -/
theorem small_step {x X d : Nat} (hd : 0 < d) : (x + 4294967296 * X) / d = (X % d * 4294967296 + x) / d + 4294967296 * (X / d) ∧ (x + 4294967296 * X) % d = (X % d * 4294967296 + x) % d := by
  have e : x + 4294967296 * X = (X % d * 4294967296 + x) + d * (4294967296 * (X / d)) := by
    have h1 := Nat.div_add_mod X d
    have h2 : d * (4294967296 * (X / d)) = 4294967296 * (d * (X / d)) := by rw [← Nat.mul_assoc, ← Nat.mul_assoc, Nat.mul_comm d]
    rw [h2]; omega
  rw [e]
  exact ⟨by rw [Nat.add_mul_div_left _ _ hd], by rw [Nat.add_mul_mod_self_left]⟩
theorem small_lt {x r d : Nat} (hd : 0 < d) (hr : r < d) (hx : x < 4294967296) : (r * 4294967296 + x) / d < 4294967296 := by
  rw [Nat.div_lt_iff_lt_mul hd]
  have : (r + 1) * 4294967296 ≤ d * 4294967296 := Nat.mul_le_mul_right _ hr
  rw [Nat.add_mul] at this
  rw [Nat.mul_comm]
  omega
theorem wv_snoc (t : List Nat) (x : Nat) : wv (t ++ [x]) = wv t + 4294967296 ^ t.length * x := by rw [wv_app]; simp [wv]
theorem wv_take_getD {l : List Nat} (i : Nat) : wv (l.take (i + 1)) = wv (l.take i) + 4294967296 ^ i * l.getD i 0 := by
  by_cases h : i < l.length
  · exact wv_take_succ h
  · rw [List.take_of_length_le (by omega), List.take_of_length_le (by omega)]
    simp [List.getD, List.getElem?_eq_none (Nat.le_of_not_lt h)]
/-- One step of adding. -/
theorem add_step {t a b : List Nat} {c i : Nat} (ht : t.length = i) (h : wv t + 4294967296 ^ i * c = wv (a.take i) + wv (b.take i)) :
    wv (t ++ [(c + a.getD i 0 + b.getD i 0) % 4294967296]) + 4294967296 ^ (i + 1) * ((c + a.getD i 0 + b.getD i 0) / 4294967296) = wv (a.take (i + 1)) + wv (b.take (i + 1)) := by
  rw [wv_snoc, ht, wv_take_getD, wv_take_getD, Nat.pow_succ]
  generalize a.getD i 0 = x at *
  generalize b.getD i 0 = y at *
  generalize 4294967296 ^ i = p at *
  rw [Nat.mul_assoc, Nat.add_assoc (wv t), ← Nat.mul_add, Nat.mod_add_div, Nat.mul_add, Nat.mul_add]
  omega
theorem wv_set {l : List Nat} {k x : Nat} (h : k < l.length) : wv (l.set k x) + 4294967296 ^ k * l.getD k 0 = wv l + 4294967296 ^ k * x := by
  have e1 := wv_split (l := l) (i := k) (by omega)
  have e2 := wv_split (l := l.set k x) (i := k) (by simp; omega)
  rw [wv_drop h] at e1
  rw [wv_drop (by simpa using h)] at e2
  rw [List.take_set_of_le (Nat.le_refl _), List.drop_set_of_lt (by omega)] at e2
  have hx : (l.set k x).getD k 0 = x := by simp [List.getD, h]
  rw [hx] at e2
  rw [e1, e2, Nat.mul_add, Nat.mul_add]
  omega
/-- One step of a row of multiplying. -/
theorem mul_step {r b : List Nat} {c i j x V : Nat} (hk : i + j < r.length) (h : wv r + 4294967296 ^ (i + j) * c = V + x * 4294967296 ^ i * wv (b.take j)) :
    wv (r.set (i + j) ((c + x * b.getD j 0 + r.getD (i + j) 0) % 4294967296)) + 4294967296 ^ (i + (j + 1)) * ((c + x * b.getD j 0 + r.getD (i + j) 0) / 4294967296) = V + x * 4294967296 ^ i * wv (b.take (j + 1)) := by
  have hs := wv_set (l := r) (k := i + j) (x := (c + x * b.getD j 0 + r.getD (i + j) 0) % 4294967296) hk
  rw [wv_take_getD]
  generalize r.getD (i + j) 0 = y at *
  generalize b.getD j 0 = z at *
  generalize wv (r.set (i + j) ((c + x * z + y) % 4294967296)) = R' at *
  have e : 4294967296 ^ (i + (j + 1)) * ((c + x * z + y) / 4294967296) + 4294967296 ^ (i + j) * ((c + x * z + y) % 4294967296) = 4294967296 ^ (i + j) * (c + x * z + y) := by
    rw [← Nat.add_assoc, Nat.pow_succ, Nat.mul_assoc, ← Nat.mul_add, Nat.div_add_mod]
  have e2 : x * 4294967296 ^ i * (wv (b.take j) + 4294967296 ^ j * z) = x * 4294967296 ^ i * wv (b.take j) + 4294967296 ^ (i + j) * (x * z) := by
    rw [Nat.mul_add]
    congr 1
    rw [Nat.pow_add]
    ac_rfl
  rw [e2]
  rw [Nat.mul_add, Nat.mul_add] at e
  omega
theorem mul_row {r a b : List Nat} {c i : Nat} (hk : i + b.length < r.length) (h0 : r.getD (i + b.length) 0 = 0) (h : wv r + 4294967296 ^ (i + b.length) * c = wv (a.take i) * wv b + a.getD i 0 * 4294967296 ^ i * wv b) :
    wv (r.set (i + b.length) c) = wv (a.take (i + 1)) * wv b := by
  have hs := wv_set (l := r) (k := i + b.length) (x := c) hk
  rw [h0, Nat.mul_zero, Nat.add_zero] at hs
  rw [hs, h, wv_take_getD, Nat.add_mul, Nat.mul_comm (4294967296 ^ i)]
theorem mul_fit {c x y z : Nat} (hc : c < 4294967296) (hx : x < 4294967296) (hy : y < 4294967296) (hz : z < 4294967296) : c + x * y + z < 18446744073709551616 ∧ (c + x * y + z) / 4294967296 < 4294967296 := by
  have h1 : x * y ≤ 4294967295 * 4294967295 := Nat.mul_le_mul (by omega) (by omega)
  omega
theorem or_add {x c s : Nat} (hc : c < 2 ^ s) (hx : 2 ^ s ∣ x) : c ||| x = c + x := by
  obtain ⟨y, rfl⟩ := hx
  rw [Nat.add_comm, Nat.or_comm, Nat.two_pow_add_eq_or_of_lt hc]
/-- A shift to the left, word by word: one step. -/
theorem left_step {t : List Nat} {a : List Nat} {i s c : Nat} (hs : s < 32) (ht : t.length = i) (hc : c < 2 ^ s) (ha : a.getD i 0 < 4294967296) (h : wv (t ++ [c]) = wv (a.take i) * 2 ^ s) :
    wv ((t ++ [c ||| (a.getD i 0 * 2 ^ s % 4294967296)]) ++ [a.getD i 0 * 2 ^ s / 4294967296]) = wv (a.take (i + 1)) * 2 ^ s ∧ (c ||| (a.getD i 0 * 2 ^ s % 4294967296)) < 4294967296 ∧ a.getD i 0 * 2 ^ s / 4294967296 < 2 ^ s ∧ (c ||| (a.getD i 0 * 2 ^ s % 4294967296)) = c + a.getD i 0 * 2 ^ s % 4294967296 := by
  have hp : 4294967296 = 2 ^ s * 2 ^ (32 - s) := by rw [← Nat.pow_add, show s + (32 - s) = 32 by omega]
  have hd : 2 ^ s ∣ a.getD i 0 * 2 ^ s % 4294967296 := by
    rw [hp, Nat.mul_comm (a.getD i 0), Nat.mul_mod_mul_left]; exact ⟨_, rfl⟩
  have ho := or_add hc hd
  have hlt : c + a.getD i 0 * 2 ^ s % 4294967296 < 4294967296 := by
    obtain ⟨y, hy⟩ := hd
    rw [hy]
    have h1 : 2 ^ s * y < 2 ^ s * 2 ^ (32 - s) := by rw [← hp, ← hy]; exact Nat.mod_lt _ (by omega)
    have h2 : y + 1 ≤ 2 ^ (32 - s) := Nat.lt_of_mul_lt_mul_left h1
    have h3 := Nat.mul_le_mul_left (2 ^ s) h2
    rw [← hp, Nat.mul_add, Nat.mul_one] at h3
    omega
  refine ⟨?_, by rw [ho]; exact hlt, ?_, ho⟩
  · rw [ho, wv_snoc, wv_snoc, List.length_append, ht, wv_take_getD, Nat.add_mul, ← h, wv_snoc, ht]
    simp only [List.length_cons, List.length_nil, Nat.zero_add, Nat.pow_succ]
    have e := Nat.div_add_mod (a.getD i 0 * 2 ^ s) 4294967296
    generalize a.getD i 0 * 2 ^ s % 4294967296 = lo at *
    generalize a.getD i 0 * 2 ^ s / 4294967296 = hi at *
    rw [Nat.mul_assoc, Nat.mul_assoc (4294967296 ^ i) (a.getD i 0), ← e, Nat.mul_add, Nat.mul_add]
    omega
  · rw [Nat.div_lt_iff_lt_mul (by omega), Nat.mul_comm]
    exact Nat.mul_lt_mul_of_pos_left ha (Nat.two_pow_pos s)
/-- A shift to the right, word by word. -/
def rsh (s : Nat) : List Nat → List Nat
  | [] => []
  | x :: r => (x + 4294967296 * r.headD 0) / 2 ^ s % 4294967296 :: rsh s r
theorem rsh_len (s : Nat) (l : List Nat) : (rsh s l).length = l.length := by induction l with
  | nil => rfl
  | cons x r ih => simp [rsh, ih]
theorem rsh_lt (s : Nat) (l : List Nat) : ∀ d ∈ rsh s l, d < 4294967296 := by induction l with
  | nil => simp [rsh]
  | cons x r ih =>
    intro d hd
    rcases List.mem_cons.1 hd with rfl | hd
    · exact Nat.mod_lt _ (by omega)
    · exact ih d hd
theorem wv_head (l : List Nat) : ∃ q, wv l = l.headD 0 + 4294967296 * q := by
  cases l with
  | nil => exact ⟨0, rfl⟩
  | cons x r => exact ⟨wv r, rfl⟩
theorem rsh_val {s : Nat} (hs : s < 32) {l : List Nat} (hl : ∀ d ∈ l, d < 4294967296) : wv (rsh s l) = wv l / 2 ^ s := by
  induction l with
  | nil => simp [rsh, wv]
  | cons x r ih =>
    have hx := hl x (by simp)
    rw [rsh, wv, ih fun d hd => hl d (List.mem_cons_of_mem _ hd), wv]
    obtain ⟨q, hq⟩ := wv_head r
    have hp : 4294967296 = 2 ^ s * 2 ^ (32 - s) := by rw [← Nat.pow_add, show s + (32 - s) = 32 by omega]
    generalize wv r = X at *
    generalize r.headD 0 = y at *
    have hd1 : ∀ z, (x + 4294967296 * z) / 2 ^ s = x / 2 ^ s + 2 ^ (32 - s) * z := fun z => by
      rw [hp, Nat.mul_assoc, Nat.add_mul_div_left _ _ (Nat.two_pow_pos s)]
    rw [hd1, hd1]
    have hm : (x / 2 ^ s + 2 ^ (32 - s) * y) % 4294967296 = x / 2 ^ s + 2 ^ (32 - s) * (X % 2 ^ s) := by
      have hy : X % 2 ^ s = y % 2 ^ s := by rw [hq, hp, Nat.mul_assoc, Nat.add_mul_mod_self_left]
      have e1 := Nat.div_add_mod y (2 ^ s)
      rw [hy]
      have e2 : x / 2 ^ s + 2 ^ (32 - s) * y = (x / 2 ^ s + 2 ^ (32 - s) * (y % 2 ^ s)) + 4294967296 * (y / 2 ^ s) := by
        rw [hp]
        have : 2 ^ (32 - s) * y = 2 ^ (32 - s) * (2 ^ s * (y / 2 ^ s) + y % 2 ^ s) := by rw [e1]
        rw [this, Nat.mul_add, ← Nat.mul_assoc, Nat.mul_comm (2 ^ (32 - s)) (2 ^ s)]
        omega
      rw [e2, Nat.add_mul_mod_self_left]
      apply Nat.mod_eq_of_lt
      have h1 : x / 2 ^ s < 2 ^ (32 - s) := by rw [Nat.div_lt_iff_lt_mul (Nat.two_pow_pos s), Nat.mul_comm, ← hp]; exact hx
      have h2 : y % 2 ^ s + 1 ≤ 2 ^ s := Nat.mod_lt _ (Nat.two_pow_pos s)
      have h3 := Nat.mul_le_mul_left (2 ^ (32 - s)) h2
      rw [Nat.mul_add, Nat.mul_one, Nat.mul_comm (2 ^ (32 - s)) (2 ^ s), ← hp] at h3
      omega
    rw [hm]
    have e1 := Nat.div_add_mod X (2 ^ s)
    have : 2 ^ (32 - s) * X = 2 ^ (32 - s) * (2 ^ s * (X / 2 ^ s) + X % 2 ^ s) := by rw [e1]
    rw [this, Nat.mul_add, ← Nat.mul_assoc (2 ^ (32 - s)), Nat.mul_comm (2 ^ (32 - s)) (2 ^ s), ← hp]
    omega
theorem rsh_get {s : Nat} : ∀ {l : List Nat} {i : Nat}, i < l.length → (rsh s l).getD i 0 = (l.getD i 0 + 4294967296 * l.getD (i + 1) 0) / 2 ^ s % 4294967296
  | x :: r, 0, _ => by cases r <;> simp [rsh]
  | x :: r, i + 1, h => by
    have := rsh_get (s := s) (l := r) (i := i) (by simpa using h)
    simpa [rsh] using this
theorem wv_dropw {l : List Nat} (hl : ∀ d ∈ l, d < 4294967296) (w : Nat) : wv (l.drop w) = wv l / 4294967296 ^ w := by
  by_cases h : w ≤ l.length
  · have e := wv_split h
    have h1 := wv_lt (l := l.take w) (fun d hd => hl d (List.mem_of_mem_take hd))
    rw [List.length_take, Nat.min_eq_left h] at h1
    rw [e, Nat.add_mul_div_left _ _ (Nat.pow_pos (by omega)), Nat.div_eq_of_lt h1, Nat.zero_add]
  · rw [List.drop_eq_nil_of_le (by omega)]
    have h1 := wv_lt hl
    have h2 : 4294967296 ^ l.length ≤ 4294967296 ^ w := Nat.pow_le_pow_right (by omega) (by omega)
    rw [Nat.div_eq_of_lt (Nat.lt_of_lt_of_le h1 h2)]; rfl
end Go.Proofs.YtgjhjojbaieeaaaDoor
