/- 'value.Order' and the document's Order answer alike; so the law over them is true. Conditions: none. -/
import Derived.Test.YtniepfpjklccmacOpValue
import Derived.Test.YtniepfpjklccmacShelf
import Derived.Deep.RegionHeld3
import Derived.Deep.QuietTactic
import Derived.BigQuiet
set_option maxRecDepth 20000
namespace Go.Proofs.Ytniepfpjklccmac
open Go.ChangeShapes Go.WideShapes Go.ChangeAt Go.RowKit
open Go.Lib (compareBytes)
theorem cb_same {a b : List UInt8} {i : Nat} (ha : i < a.length) (hb : i < b.length) (h : a[i] = b[i]) : compareBytes (a.drop i) (b.drop i) = compareBytes (a.drop (i + 1)) (b.drop (i + 1)) := by
  rw [List.drop_eq_getElem_cons ha, List.drop_eq_getElem_cons hb, compareBytes, h]
  simp
theorem cb_lt {a b : List UInt8} {i : Nat} (ha : i < a.length) (hb : i < b.length) (h : a[i] < b[i]) : compareBytes (a.drop i) (b.drop i) = -1 := by
  rw [List.drop_eq_getElem_cons ha, List.drop_eq_getElem_cons hb, compareBytes, if_pos h]
theorem cb_gt {a b : List UInt8} {i : Nat} (ha : i < a.length) (hb : i < b.length) (h : b[i] < a[i]) : compareBytes (a.drop i) (b.drop i) = 1 := by
  rw [List.drop_eq_getElem_cons ha, List.drop_eq_getElem_cons hb, compareBytes, if_neg (by intro h2; exact absurd (UInt8.lt_trans h h2) (UInt8.lt_irrefl _)), if_pos h]
theorem cb_end {a b : List UInt8} {i : Nat} (ha : i ≤ a.length) (hb : i ≤ b.length) (h : i = a.length ∨ i = b.length) : (compareBytes (a.drop i) (b.drop i) == -1) = decide (a.length < b.length) := by
  rcases h with h | h
  · rw [List.drop_eq_nil_of_le (show a.length ≤ i by omega)]
    by_cases hl : i < b.length
    · rw [List.drop_eq_getElem_cons hl, compareBytes]; simp; omega
    · rw [List.drop_eq_nil_of_le (show b.length ≤ i by omega), compareBytes]; simp; omega
  · rw [List.drop_eq_nil_of_le (show b.length ≤ i by omega)]
    by_cases hl : i < a.length
    · rw [List.drop_eq_getElem_cons hl, compareBytes]; simp; omega
    · rw [List.drop_eq_nil_of_le (show a.length ≤ i by omega), compareBytes]; simp; omega
theorem cb_flip : ∀ (a b : List UInt8), compareBytes b a = - compareBytes a b
  | [], [] => rfl
  | [], _ :: _ => rfl
  | _ :: _, [] => rfl
  | a :: x, b :: y => by
    rw [compareBytes, compareBytes, cb_flip x y]
    by_cases h1 : a < b
    · rw [if_neg (fun h2 => absurd (UInt8.lt_trans h1 h2) (UInt8.lt_irrefl _)), if_pos h1, if_pos h1]; rfl
    · by_cases h2 : b < a
      · rw [if_pos h2, if_neg h1, if_pos h2]
      · rw [if_neg h2, if_neg h1, if_neg h1, if_neg h2]
theorem cb_range : ∀ (a b : List UInt8), compareBytes a b = -1 ∨ compareBytes a b = 0 ∨ compareBytes a b = 1
  | [], [] => .inr (.inl rfl)
  | [], _ :: _ => .inl rfl
  | _ :: _, [] => .inr (.inr rfl)
  | a :: x, b :: y => by
    rw [compareBytes]
    by_cases h1 : a < b
    · rw [if_pos h1]; exact .inl rfl
    · rw [if_neg h1]
      by_cases h2 : b < a
      · rw [if_pos h2]; exact .inr (.inr rfl)
      · rw [if_neg h2]; exact cb_range x y
theorem refLess_any (s t : ByteArray) (hs : s.size ≤ 140737488351232) (_ : t.size ≤ 140737488351232) (w : World) : Calls Try.prog 53 #[.string s, .string t] w fun e w' => e = .returned (.bool (compareBytes s.data.toList t.data.toList == -1)) ∧ ∃ m, w' = w.drewN m := by
  go_enter Try.func53, Try.ntmps53
  go_wp2
  go_loopw [5] (fun i wr => ∃ k m : Nat, k ≤ s.size ∧ k ≤ t.size ∧ i = .int .i64 k ∧ Hid (compareBytes s.data.toList t.data.toList = compareBytes (s.data.toList.drop k) (t.data.toList.drop k)) ∧ wr = w.drewN m) (fun i _ => s.size - (intOf i).toNat)
  case atStart => exact ⟨0, 0, Nat.zero_le _, Nat.zero_le _, rfl, Lib.hid rfl, rfl⟩
  case round =>
    obtain ⟨k, m, hk1, hk2, rfl, HC, rfl⟩ := hrel
    by_cases hlt : k < s.size ∧ k < t.size
    · obtain ⟨h1, h2⟩ := hlt
      go_wp2
      try go_quiet (fail)
      go_wp2
      · try go_quiet (fail)
        go_wp2
        go_ret
        have hne : ¬ s[k] = t[k] := by
          intro h; have h9 : ((s[k].toNat : Int) != t[k].toNat) = true := by assumption
          rw [h] at h9; simp at h9
        refine ⟨?_, _, by rw [World.drewN_drewN, World.drewN_drewN]⟩
        rw [HC.out]
        by_cases hl : s[k] < t[k]
        · rw [cb_lt (by simpa using h1) (by simpa using h2) hl]; rw [UInt8.lt_iff_toNat_lt] at hl; simp [hl]
        · have hl2 : t[k] < s[k] := by
            rw [UInt8.lt_iff_toNat_lt] at hl ⊢
            rw [← UInt8.toNat_inj] at hne
            omega
          rw [cb_gt (by simpa using h1) (by simpa using h2) hl2]; rw [UInt8.lt_iff_toNat_lt] at hl; simp [hl]
      · have heq : s[k] = t[k] := by
          have h9 : ((s[k].toNat : Int) != t[k].toNat) = false := by assumption
          simp at h9
          rw [← UInt8.toNat_inj]; exact_mod_cast h9
        go_roundw
        case rel => exact ⟨k + 1, _, by omega, by omega, by go_num, Lib.hid (by rw [HC.out]; exact cb_same (by simpa using h1) (by simpa using h2) heq), rfl⟩
        case measure => simp [intOf]; omega
    · have HE := Lib.hid (cb_end (a := s.data.toList) (b := t.data.toList) (i := k) (by simpa using hk1) (by simpa using hk2) (by simp; omega))
      go_wp2
      all_goals
        go_ret
        refine ⟨?_, _, rfl⟩
        rw [HC.out, HE.out]
        simp
def ordV (k n : Int) (s : ByteArray) (k' n' : Int) (s' : ByteArray) : Int × Int :=
  if (k != k') = true then (0, 9) else if (k == 3) = true then (compareBytes s.data.toList s'.data.toList, 0) else if (k != 1) = true then (0, 13) else if n < n' then (-1, 0) else if n' < n then (1, 0) else (0, 0)
theorem valueOrder_any (k n : Int) (s : ByteArray) (A : Option Addr) (len cap : Nat) (k' n' : Int) (s' : ByteArray) (A' : Option Addr) (len' cap' : Nat) (w : World) :
    Calls Try.prog 15 #[val k n s A len cap, val k' n' s' A' len' cap'] w fun e w' => e = .returned (.tuple #[.int .i64 (ordV k n s k' n' s').1, .int .i64 (ordV k n s k' n' s').2]) ∧ Below w.heap.size w w' := by
  go_enter Try.func15, Try.ntmps15
  go_wp2_with (go_at_call 52; refine (Try.strings_Compare _ _ _).mono ?_; rintro e w2 ⟨rfl, rfl⟩)
  all_goals
    go_returns
    refine ⟨?_, al2 (al _) _⟩
    unfold ordV
    simp_all
    try rw [if_neg (show ¬ n < n' by omega)]
    try rw [if_neg (show ¬ n' < n by omega)]
    try exact ⟨rfl, rfl⟩
theorem quiet_of2 {P : Program} {f : FuncId} {args : Array Value} {w : World} {q n : Nat} {v : Value}
    (h : Calls P f args (w.drewN (q + n)) fun e w' => e = .returned v ∧ ∃ m, w' = (w.drewN (q + n)).drewN m) : Calls P f args (w.drewN (q + n)) fun e w'' => e = .returned v ∧ ∃ m, w'' = w.drewN (q + m) :=
  h.mono fun _ _ ⟨he, m, hm⟩ => ⟨he, n + m, by rw [hm, World.drewN_drewN, Nat.add_assoc]⟩
theorem refOrder_any (k n : Int) (s : ByteArray) (A : Option Addr) (len cap : Nat) (k' n' : Int) (s' : ByteArray) (A' : Option Addr) (len' cap' : Nat) (hs : s.size ≤ 140737488351232) (hs' : s'.size ≤ 140737488351232) (w : World) :
    Calls Try.prog 17 #[val k n s A len cap, val k' n' s' A' len' cap'] w fun e w' => e = .returned (.tuple #[.int .i64 (ordV k n s k' n' s').1, .int .i64 (ordV k n s k' n' s').2]) ∧ Below w.heap.size w w' := by
  go_enter Try.func17, Try.ntmps17
  by_cases hk : k = k'
  · subst hk
    by_cases hk3 : k = 3
    · subst hk3
      go_wp2_with fail
      go_quiet (fail)
      go_wp2_with fail
      go_quiet (exact quiet_of2 (refLess_any _ _ (by with_reducible assumption) (by with_reducible assumption) _))
      have HR := Lib.hid (cb_range s.data.toList s'.data.toList)
      have HF := Lib.hid (cb_flip s.data.toList s'.data.toList)
      have HV := Lib.hid (show ordV 3 n s 3 n' s' = (compareBytes s.data.toList s'.data.toList, 0) by unfold ordV; simp)
      go_wp2_with fail
      all_goals
        go_returns
        refine ⟨?_, dr (dr (al2 (al _) _) _) _⟩
        rw [HV.out]
        have hF := HF.out
        rcases HR.out with h | h | h <;> rw [h] at hF <;> simp_all
    · go_wp2_with fail
      go_quiet (fail)
      go_wp2_with fail
      all_goals
        go_returns
        refine ⟨?_, dr (al2 (al _) _) _⟩
        unfold ordV
        simp_all
        try rw [if_neg (show ¬ n < n' by omega)]
        try rw [if_neg (show ¬ n' < n by omega)]
        try exact ⟨rfl, rfl⟩
  · go_wp2_with fail
    go_returns
    refine ⟨?_, al2 (al _) _⟩
    unfold ordV
    simp_all
/-- The cells of the law's own copies of two Values. -/
theorem held_two {W w1 w2 : World} {g : Nat} {x0 x1 x2 x3 y0 y1 y2 y3 : Value} (hg : g + 1 < W.heap.size) (hb : Below w1.heap.size w1 w2) (h : w1.cell? ⟨g, 0, none⟩ = some x0 ∧ w1.cell? ⟨g, 1, none⟩ = some x1 ∧ w1.cell? ⟨g, 2, none⟩ = some x2 ∧ w1.cell? ⟨g, 3, none⟩ = some x3 ∧ w1.cell? ⟨g + 1, 0, none⟩ = some y0 ∧ w1.cell? ⟨g + 1, 1, none⟩ = some y1 ∧ w1.cell? ⟨g + 1, 2, none⟩ = some y2 ∧ w1.cell? ⟨g + 1, 3, none⟩ = some y3 ∧ Below W.heap.size W w1) :
    w2.cell? ⟨g, 0, none⟩ = some x0 ∧ w2.cell? ⟨g, 1, none⟩ = some x1 ∧ w2.cell? ⟨g, 2, none⟩ = some x2 ∧ w2.cell? ⟨g, 3, none⟩ = some x3 ∧ w2.cell? ⟨g + 1, 0, none⟩ = some y0 ∧ w2.cell? ⟨g + 1, 1, none⟩ = some y1 ∧ w2.cell? ⟨g + 1, 2, none⟩ = some y2 ∧ w2.cell? ⟨g + 1, 3, none⟩ = some y3 ∧ Below W.heap.size W w2 := by
  obtain ⟨k1, _⟩ := kept hb
  obtain ⟨a, b, c, d, a', b', c', d', e⟩ := h
  have hg1 : g + 1 < w1.heap.size := Nat.lt_of_lt_of_le hg e.size
  have hg0 : g < w1.heap.size := by omega
  exact ⟨by rw [k1 _ _ hg0]; exact a, by rw [k1 _ _ hg0]; exact b, by rw [k1 _ _ hg0]; exact c, by rw [k1 _ _ hg0]; exact d, by rw [k1 _ _ hg1]; exact a', by rw [k1 _ _ hg1]; exact b', by rw [k1 _ _ hg1]; exact c', by rw [k1 _ _ hg1]; exact d', sq e hb⟩
theorem last9 {a b c d a' b' c' d' e : Prop} (h : a ∧ b ∧ c ∧ d ∧ a' ∧ b' ∧ c' ∧ d' ∧ e) : e := h.2.2.2.2.2.2.2.2

theorem walkValueOrders (v0 v1 : Value) (w : World) (w0 : IsValue w v0) (w1 : IsValue w v1) : Calls Try.prog 3 #[v0, v1] w fun e w' => e = .returned (.bool true) ∧ Below w.heap.size w w' := by
  obtain ⟨k, n, s, A, len, cap, zs, rfl, _, _, hs, hr, hlc, hcb, _⟩ := w0
  obtain ⟨k', n', s', A', len', cap', zs', rfl, _, _, hs', hr', hlc', hcb', _⟩ := w1
  go_enter Try.func3, Try.ntmps3
  go_wp2_with fail
  generalize hW : (w.alloc (Obj.cells #[Value.int .i64 k, Value.int .i64 n, Value.string s, Value.slice A len cap] 24)).alloc (Obj.cells #[Value.int .i64 k', Value.int .i64 n', Value.string s', Value.slice A' len' cap'] 24) = W
  have hWb : Below w.heap.size w W := by rw [← hW]; exact al2 (al _) _
  have hWb' : Below w.heap.size w W := hWb
  have hWs : W.heap.size = w.heap.size + 1 + 1 := by rw [← hW]; simp
  have hg : w.heap.size + 1 < W.heap.size := by omega
  have hrW := hr.below hWb
  have hrW' := hr'.below hWb
  have hI : W.cell? ⟨w.heap.size, 0, none⟩ = some (.int .i64 k) ∧ W.cell? ⟨w.heap.size, 1, none⟩ = some (.int .i64 n) ∧ W.cell? ⟨w.heap.size, 2, none⟩ = some (.string s) ∧ W.cell? ⟨w.heap.size, 3, none⟩ = some (.slice A len cap) ∧ W.cell? ⟨w.heap.size + 1, 0, none⟩ = some (.int .i64 k') ∧ W.cell? ⟨w.heap.size + 1, 1, none⟩ = some (.int .i64 n') ∧ W.cell? ⟨w.heap.size + 1, 2, none⟩ = some (.string s') ∧ W.cell? ⟨w.heap.size + 1, 3, none⟩ = some (.slice A' len' cap') ∧ Below W.heap.size W W := by
    rw [← hW]; simp; exact Below.refl _ _
  clear hW hWs
  have hId : W.drew.cell? ⟨w.heap.size, 0, none⟩ = some (.int .i64 k) ∧ W.drew.cell? ⟨w.heap.size, 1, none⟩ = some (.int .i64 n) ∧ W.drew.cell? ⟨w.heap.size, 2, none⟩ = some (.string s) ∧ W.drew.cell? ⟨w.heap.size, 3, none⟩ = some (.slice A len cap) ∧ W.drew.cell? ⟨w.heap.size + 1, 0, none⟩ = some (.int .i64 k') ∧ W.drew.cell? ⟨w.heap.size + 1, 1, none⟩ = some (.int .i64 n') ∧ W.drew.cell? ⟨w.heap.size + 1, 2, none⟩ = some (.string s') ∧ W.drew.cell? ⟨w.heap.size + 1, 3, none⟩ = some (.slice A' len' cap') ∧ Below W.heap.size W W.drew :=
    ⟨hI.1, hI.2.1, hI.2.2.1, hI.2.2.2.1, hI.2.2.2.2.1, hI.2.2.2.2.2.1, hI.2.2.2.2.2.2.1, hI.2.2.2.2.2.2.2.1, hI.2.2.2.2.2.2.2.2.drew⟩
  go_region_held3 (fun w' => w'.cell? ⟨w.heap.size, 0, none⟩ = some (.int .i64 k) ∧ w'.cell? ⟨w.heap.size, 1, none⟩ = some (.int .i64 n) ∧ w'.cell? ⟨w.heap.size, 2, none⟩ = some (.string s) ∧ w'.cell? ⟨w.heap.size, 3, none⟩ = some (.slice A len cap) ∧ w'.cell? ⟨w.heap.size + 1, 0, none⟩ = some (.int .i64 k') ∧ w'.cell? ⟨w.heap.size + 1, 1, none⟩ = some (.int .i64 n') ∧ w'.cell? ⟨w.heap.size + 1, 2, none⟩ = some (.string s') ∧ w'.cell? ⟨w.heap.size + 1, 3, none⟩ = some (.slice A' len' cap') ∧ Below W.heap.size W w')
    (first | exact hId | exact held_two hg (by assumption) (by assumption))
    (first
      | (go_at_call 16; refine (own_any k n s A len cap zs _ (hrW.into (by omega) (last9 (by assumption))) (by omega)).mono ?_; rintro e w1 ⟨A1, c1, rfl, hown, hb⟩)
      | (go_at_call 16; refine (own_any k' n' s' A' len' cap' zs' _ (hrW'.into (by omega) (last9 (by assumption))) (by omega)).mono ?_; rintro e w1 ⟨A1, c1, rfl, hown, hb⟩)
      | (go_at_call 15; refine (valueOrder_any _ _ _ _ _ _ _ _ _ _ _ _ _).mono ?_; rintro e w2 ⟨rfl, b2⟩))
  have hH : w2.cell? ⟨w.heap.size, 0, none⟩ = some (.int .i64 k) ∧ w2.cell? ⟨w.heap.size, 1, none⟩ = some (.int .i64 n) ∧ w2.cell? ⟨w.heap.size, 2, none⟩ = some (.string s) ∧ w2.cell? ⟨w.heap.size, 3, none⟩ = some (.slice A len cap) ∧ w2.cell? ⟨w.heap.size + 1, 0, none⟩ = some (.int .i64 k') ∧ w2.cell? ⟨w.heap.size + 1, 1, none⟩ = some (.int .i64 n') ∧ w2.cell? ⟨w.heap.size + 1, 2, none⟩ = some (.string s') ∧ w2.cell? ⟨w.heap.size + 1, 3, none⟩ = some (.slice A' len' cap') ∧ Below W.heap.size W w2 := by assumption
  clear hI hId
  obtain ⟨p0, p1, p2, p3, q0, q1, q2, q3, hB2⟩ := hH
  go_wp2_with fail
  refine (refOrder_any _ _ _ _ _ _ _ _ _ _ _ _ hs hs' _).mono ?_
  rintro e w3 ⟨rfl, b3⟩
  go_wp2_with (go_at_call 15; refine (valueOrder_any 1 0 _ none 0 0 1 1 _ none 0 0 _).mono ?_; rintro e w4 ⟨rfl, b4⟩)
  go_ret
  exact ⟨by simp [ordV], sq (sq (sq hWb' hB2) b3) b4⟩
end Go.Proofs.Ytniepfpjklccmac
