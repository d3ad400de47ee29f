/- Tokens compared; the law of 'scan.Tokens'. Conditions: none. -/
import Derived.Test.YtgjhjojbaieeaaaScRefT
import Derived.Test.YtgjhjojbaieeaaaOpen
set_option maxRecDepth 20000
namespace Go.Proofs.Ytgjhjojbaieeaaa
open Go.ChangeShapes Go.WideShapes Go.ChangeAt Go.RowKit
theorem tkC_get {T : List Tk} {i : Nat} {t : Tk} (h : T[i]? = some t) : (tkC T)[i * 4]? = some (.int .i64 t.k) ∧ (tkC T)[i * 4 + 1]? = some (.string t.s) ∧ (tkC T)[i * 4 + 2]? = some (.int .i64 t.l) ∧ (tkC T)[i * 4 + 3]? = some (.int .i64 t.c) := by
  obtain ⟨hi, he⟩ := List.getElem?_eq_some_iff.1 h
  have e : T = T.take i ++ (t :: T.drop (i + 1)) := by
    rw [← he, ← List.drop_eq_getElem_cons hi, List.take_append_drop]
  have hl : (tkC (T.take i)).length = i * 4 := by rw [tkC_len, List.length_take, Nat.min_eq_left (by omega)]
  have e2 : tkC T = tkC (T.take i) ++ ([.int .i64 t.k, .string t.s, .int .i64 t.l, .int .i64 t.c] ++ tkC (T.drop (i + 1))) := by
    conv => lhs; rw [e]
    unfold tkC
    rw [List.flatMap_append, List.flatMap_cons]
  rw [e2]
  refine ⟨?_, ?_, ?_, ?_⟩
  all_goals
    rw [List.getElem?_append_right (by omega), hl]
    simp
/-- The cells of token i. -/
theorem Rd.tok {w : World} {B n : Nat} {A : Option Addr} {T : List Tk} {i : Nat} {t : Tk} (h : Rd w B 4 A n (tkC T)) (hn : n = T.length) (ht : T[i]? = some t) :
    ∃ b off, A = some ⟨b, off, none⟩ ∧ b < B ∧ w.cell? ⟨b, off + i * 4, none⟩ = some (.int .i64 t.k) ∧ w.cell? ⟨b, off + i * 4 + 1, none⟩ = some (.string t.s) ∧ w.cell? ⟨b, off + i * 4 + 2, none⟩ = some (.int .i64 t.l) ∧ w.cell? ⟨b, off + i * 4 + 3, none⟩ = some (.int .i64 t.c) := by
  obtain ⟨hi, _⟩ := List.getElem?_eq_some_iff.1 ht
  obtain ⟨b, off, e, hb, hc⟩ := h.2 (by omega)
  obtain ⟨g0, g1, g2, g3⟩ := tkC_get ht
  exact ⟨b, off, e, hb, hc _ _ g0, hc _ _ g1, hc _ _ g2, hc _ _ g3⟩
set_option maxHeartbeats 1000000 in
theorem sameTokens_same (A B : Option Addr) (n C D : Nat) (T : List Tk) (w : World) (hn : n = T.length) (hN : n ≤ 2000) (ha : Rd w w.heap.size 4 A n (tkC T)) (hb : Rd w w.heap.size 4 B n (tkC T)) :
    Calls Try.prog 28 #[.slice A n C, .slice B n D] w fun e w' => e = .returned (.bool true) ∧ Below w.heap.size w w' := by
  have HN := Lib.hid hn
  clear hn
  go_enter Try.func28, Try.ntmps28
  go_wp2_with fail
  go_loopw [5] (fun i wr => ∃ k : Nat, i = .int .i64 (k : Int) ∧ k ≤ n ∧ Below w.heap.size w wr) (fun i _ => n - (intOf i).toNat)
  case atStart => exact ⟨0, rfl, Nat.zero_le _, Below.refl _ _⟩
  case round =>
    obtain ⟨k, rfl, hk, hbel⟩ := hrel
    by_cases hlt : k < n
    · have hki : (k : Int) < (n : Int) := by omega
      obtain ⟨t, ht⟩ : ∃ t, T[k]? = some t := by
        have := HN.out
        exact ⟨T[k], List.getElem?_eq_getElem (by omega)⟩
      obtain ⟨b, off, rfl, hbl, e0, e1, e2, e3⟩ := ha.tok HN.out ht
      obtain ⟨b', off', rfl, hbl', e0', e1', e2', e3'⟩ := hb.tok HN.out ht
      rw [← hbel.cell (p := ⟨b, _, none⟩) hbl] at e0 e1 e2 e3
      rw [← hbel.cell (p := ⟨b', _, none⟩) hbl'] at e0' e1' e2' e3'
      have HB := Lib.hid hbel
      clear hbel hbl hbl' ht
      obtain ⟨tk, ts, tl, tc⟩ := t
      simp only at e0 e1 e2 e3 e0' e1' e2' e3'
      go_wp2_with fail
      go_quiet (fail)
      go_wp2_with fail
      exact ⟨⟨k + 1, by go_num, by omega, dr HB.out _⟩, by simp [intOf]; omega⟩
    · go_wp2_with fail
      go_ret
      exact ⟨rfl, hbel⟩
/-- What both answer. -/
def TV (src : ByteArray) (v : Value) (s : Value) (w' : World) : Prop :=
  (8000 < src.size ∧ v = .slice none 0 0 ∧ s = .agg #[.int .i64 1, .int .i64 0, .int .i64 0]) ∨
  (src.size ≤ 8000 ∧ ∃ R, Runs src.data.toList 0 [] R ∧ match R with
  | .ok T => ∃ A C, v = .slice A T.length C ∧ s = .agg #[.int .i64 0, .int .i64 0, .int .i64 0] ∧ Rd w' w'.heap.size 4 A T.length (tkC T) ∧ T.length ≤ 2000
  | .bad c p => v = .slice none 0 0 ∧ s = .agg #[.int .i64 c, .int .i64 (p.1 : Int), .int .i64 (p.2 : Int)])
theorem TV.of {src : ByteArray} {e : Ending} {w' : World} (hs : src.size ≤ 8000) (h : TP src e w') : ∃ v a b c, e = .returned (.tuple #[v, .agg #[.int .i64 a, .int .i64 b, .int .i64 c]]) ∧ TV src v (.agg #[.int .i64 a, .int .i64 b, .int .i64 c]) w' := by
  obtain ⟨R, hr, h⟩ := h
  cases R with
  | ok T =>
    obtain ⟨A, C, rfl, h2, h3⟩ := h
    exact ⟨_, _, _, _, rfl, .inr ⟨hs, _, hr, A, C, rfl, rfl, h2, h3⟩⟩
  | bad c p => exact ⟨_, _, _, _, h, .inr ⟨hs, _, hr, rfl, rfl⟩⟩
theorem tokensV (src : ByteArray) (w : World) : Calls Try.prog 26 #[.string src] w fun e w' => (∃ v a b c, e = .returned (.tuple #[v, .agg #[.int .i64 a, .int .i64 b, .int .i64 c]]) ∧ TV src v (.agg #[.int .i64 a, .int .i64 b, .int .i64 c]) w') ∧ Below w.heap.size w w' := by
  by_cases h : 8000 < src.size
  · exact (tokens_long src w h).mono fun e w' ⟨he, hb⟩ => ⟨⟨_, _, _, _, he, .inl ⟨h, rfl, rfl⟩⟩, hb⟩
  · exact (tokens_any src w (by omega)).mono fun e w' ⟨he, hb⟩ => ⟨TV.of (by omega) he, hb⟩
theorem refTokensV (src : ByteArray) (w : World) : Calls Try.prog 27 #[.string src] w fun e w' => (∃ v a b c, e = .returned (.tuple #[v, .agg #[.int .i64 a, .int .i64 b, .int .i64 c]]) ∧ TV src v (.agg #[.int .i64 a, .int .i64 b, .int .i64 c]) w') ∧ Below w.heap.size w w' := by
  by_cases h : 8000 < src.size
  · exact (refTokens_long src w h).mono fun e w' ⟨he, hb⟩ => ⟨⟨_, _, _, _, he, .inl ⟨h, rfl, rfl⟩⟩, hb⟩
  · exact (refTokens_any src w (by omega)).mono fun e w' ⟨he, hb⟩ => ⟨TV.of (by omega) he, hb⟩
/-- Both answers are alike. -/
theorem TV.both {src : ByteArray} {v s v' s' : Value} {w w' w2 : World} (h : TV src v s w) (h' : TV src v' s' w') (hb : Below w.heap.size w w2) (hb' : Below w'.heap.size w' w2) :
    s = s' ∧ ∃ A B n C D T, v = .slice A n C ∧ v' = .slice B n D ∧ n = List.length T ∧ n ≤ 2000 ∧ Rd w2 w2.heap.size 4 A n (tkC T) ∧ Rd w2 w2.heap.size 4 B n (tkC T) := by
  have hnil : ∀ (W : World), Rd W W.heap.size 4 none 0 (tkC []) := fun W => ⟨by simp [tkC], fun h => absurd h (by omega)⟩
  rcases h with ⟨h, rfl, rfl⟩ | ⟨h, R, hr, hm⟩
  · rcases h' with ⟨h', rfl, rfl⟩ | ⟨h', _⟩
    · exact ⟨rfl, none, none, 0, 0, 0, [], rfl, rfl, rfl, by omega, hnil _, hnil _⟩
    · omega
  · rcases h' with ⟨h', rfl, rfl⟩ | ⟨h', R', hr', hm'⟩
    · omega
    · have := hr.same hr'
      subst this
      cases R with
      | ok T =>
        obtain ⟨A, C, rfl, rfl, r1, hl⟩ := hm
        obtain ⟨B, D, rfl, rfl, r2, _⟩ := hm'
        exact ⟨rfl, A, B, T.length, C, D, T, rfl, rfl, rfl, hl, (r1.below hb).more hb.size, (r2.below hb').more hb'.size⟩
      | bad c p =>
        obtain ⟨rfl, rfl⟩ := hm
        obtain ⟨rfl, rfl⟩ := hm'
        exact ⟨rfl, none, none, 0, 0, 0, [], rfl, rfl, rfl, by omega, hnil _, hnil _⟩
set_option maxHeartbeats 1000000 in
theorem walkScanTokens (v0 : Value) (w : World) (w0 : IsStr v0) : Calls Try.prog 6 #[v0] w fun e w' => e = .returned (.bool true) ∧ Below w.heap.size w w' := by
  obtain ⟨src, rfl, _⟩ := w0
  go_enter Try.func6, Try.ntmps6
  go_wp2_with fail
  refine (tokensV src _).mono ?_
  rintro e w1 ⟨⟨v, a, b, c, rfl, hv⟩, hb1⟩
  have HV := Lib.hid hv
  have HB := Lib.hid hb1
  clear hv hb1
  go_wp2_with fail
  refine (refTokensV src _).mono ?_
  rintro e w2 ⟨⟨v', a', b', c', rfl, hv'⟩, hb2⟩
  have d0 : w2.cell? ⟨w1.heap.size, 0, none⟩ = some (.int .i64 a) := (hb2.cell (p := ⟨w1.heap.size, 0, none⟩) (by simp)).trans (by simp [go_sem])
  have d1 : w2.cell? ⟨w1.heap.size, 1, none⟩ = some (.int .i64 b) := (hb2.cell (p := ⟨w1.heap.size, 1, none⟩) (by simp)).trans (by simp [go_sem])
  have d2 : w2.cell? ⟨w1.heap.size, 2, none⟩ = some (.int .i64 c) := (hb2.cell (p := ⟨w1.heap.size, 2, none⟩) (by simp)).trans (by simp [go_sem])
  have hb12 : Below w1.heap.size w1 w2 := sq (al _) hb2
  obtain ⟨hs, A, B, n, C, D, T, rfl, rfl, hn, hN, hA, hB⟩ := HV.out.both hv' (sq hb12 (al (.cells #[.int .i64 a', .int .i64 b', .int .i64 c'] 70))) (al _)
  injection hs with hs
  simp at hs
  obtain ⟨rfl, rfl, rfl⟩ := hs
  have HS := Lib.hid (sameTokens_same A B n C D T _ hn hN hA hB)
  have HB2 := Lib.hid (sq HB.out hb12)
  have hlt : w1.heap.size < w2.heap.size := by have := hb2.size; simp at this; omega
  generalize hg1 : w1.heap.size = g1 at *
  clear hb2 hb12 hv' hn hN hA hB
  go_wp2_with fail
  refine HS.out.mono ?_
  rintro e w5 ⟨rfl, hb5⟩
  go_wp2_with fail
  go_ret
  exact ⟨rfl, sq (sq HB2.out (al _)) hb5⟩
end Go.Proofs.Ytgjhjojbaieeaaa
