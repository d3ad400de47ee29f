/- The cutter's 'lineEnd'. Conditions: none. -/
import Derived.Test.YtgjhjojbaieeaaaScEnd
set_option maxRecDepth 20000
namespace Go.Proofs.Ytgjhjojbaieeaaa
open Go.ChangeShapes Go.WideShapes Go.ChangeAt Go.RowKit
theorem snoc_cases (T : List Tk) : T = [] ∨ ∃ T0 t, T = T0 ++ [t] := by
  rcases List.eq_nil_or_concat T with h | ⟨T0, t, h⟩
  · exact .inl h
  · exact .inr ⟨T0, t, by simpa using h⟩
theorem CuS.below {w w' : World} {g : Nat} {src : ByteArray} {p : Nat} {T : List Tk} (h : CuS w g src p T) (hb : Below w.heap.size w w') : CuS w' g src p T := by
  obtain ⟨A, C, h⟩ := h
  have hg : g < w.heap.size := World.block_lt_of_cell? w ⟨g, 0, none⟩ h.c0
  refine ⟨A, C, (hb.cell (p := ⟨g, 0, none⟩) hg).trans h.c0, (hb.cell (p := ⟨g, 1, none⟩) hg).trans h.c1, (hb.cell (p := ⟨g, 2, none⟩) hg).trans h.c2, (hb.cell (p := ⟨g, 3, none⟩) hg).trans h.c3, (hb.cell (p := ⟨g, 4, none⟩) hg).trans h.c4, fun k => (hb.frozen (p := ⟨g, k, none⟩) hg).trans (h.fz k), ?_⟩
  have hr := h.row
  refine ⟨hr.1, ?_⟩
  rcases hr.2 with h2 | ⟨q, cap, cur, e, hq, hh, r⟩
  · exact .inl h2
  · refine .inr ⟨q, cap, cur, e, hq, ?_, r⟩
    rw [hb.block q ?_]
    · exact hh
    · rcases Nat.lt_or_ge q w.heap.size with h5 | h5
      · exact h5
      · rw [Array.getElem?_eq_none h5] at hh; cases hh
/-- The last token's cells. -/
theorem Cu.last {w : World} {g : Nat} {src : ByteArray} {p l c : Int} {A : Option Addr} {C : Nat} {T0 : List Tk} {t : Tk} (h : Cu w g src p l c (.slice A (T0.length + 1) C) (T0 ++ [t])) :
    ∃ b, A = some ⟨b, 0, none⟩ ∧ w.cell? ⟨b, T0.length * 4, none⟩ = some (.int .i64 t.k) ∧ w.cell? ⟨b, T0.length * 4 + 1, none⟩ = some (.string t.s) ∧ w.cell? ⟨b, T0.length * 4 + 2, none⟩ = some (.int .i64 t.l) ∧ w.cell? ⟨b, T0.length * 4 + 3, none⟩ = some (.int .i64 t.c) := by
  have hr := Rd.of_own (by simpa using h.row : w.ownsRow (g + 1) 78 4 (.slice A (T0.length + 1) C) (T0.length + 1) (tkC (T0 ++ [t])))
  obtain ⟨b, off, e, _, hc⟩ := hr.2 (by omega)
  have h0 : off = 0 := by
    rcases h.row.2 with ⟨h1, _⟩ | ⟨q, cap, cur, h1, _⟩
    · simp at h1
    · simp at h1
      rw [e] at h1
      simp at h1
      exact h1.1.2
  subst h0
  refine ⟨b, e, ?_, ?_, ?_, ?_⟩
  · have := hc (T0.length * 4) (.int .i64 t.k) (by rw [show T0 ++ [t] = T0 ++ [⟨t.k, t.s, t.l, t.c⟩] from rfl, tkC_snoc, List.getElem?_append_right (by rw [tkC_len]; omega), tkC_len]; simp)
    simpa using this
  · have := hc (T0.length * 4 + 1) (.string t.s) (by rw [show T0 ++ [t] = T0 ++ [⟨t.k, t.s, t.l, t.c⟩] from rfl, tkC_snoc, List.getElem?_append_right (by rw [tkC_len]; omega), tkC_len, Nat.add_sub_cancel_left]; rfl)
    simpa using this
  · have := hc (T0.length * 4 + 2) (.int .i64 t.l) (by rw [show T0 ++ [t] = T0 ++ [⟨t.k, t.s, t.l, t.c⟩] from rfl, tkC_snoc, List.getElem?_append_right (by rw [tkC_len]; omega), tkC_len, Nat.add_sub_cancel_left]; rfl)
    simpa using this
  · have := hc (T0.length * 4 + 3) (.int .i64 t.c) (by rw [show T0 ++ [t] = T0 ++ [⟨t.k, t.s, t.l, t.c⟩] from rfl, tkC_snoc, List.getElem?_append_right (by rw [tkC_len]; omega), tkC_len, Nat.add_sub_cancel_left]; rfl)
    simpa using this
theorem lastEnds_snoc (T0 : List Tk) (t : Tk) : lastEnds (T0 ++ [t]) = endsT t.k t.s.data.toList := by unfold lastEnds; rw [List.getLast?_concat]
def semiR (src : ByteArray) (p q : Nat) (T : List Tk) : Except Int (Nat × List Tk) := match semiT src.data.toList p T with | none => .error 15 | some T' => .ok (q, T')
theorem lineEnd_any (g : Nat) (src : ByteArray) (p : Nat) (T : List Tk) (w : World) (hcu : CuS w g src p T) (hT : T.length ≤ 2000) (hsz : src.size ≤ 8000) (hp : p ≤ 8000) :
    Calls Try.prog 62 #[.pointer (some ⟨g, 0, none⟩)] w (MP g src p w (semiR src p p T)) := by
  have HC := Lib.hid hcu
  obtain ⟨A, C, hcu⟩ := hcu
  have hgl : g < w.heap.size := World.block_lt_of_cell? w ⟨g, 0, none⟩ hcu.c0
  rcases snoc_cases T with rfl | ⟨T0, t, rfl⟩
  · have h4 := hcu.c4
    clear hcu
    go_enter Try.func62, Try.ntmps62
    go_wp2_with fail
    go_end0
    exact ⟨rfl, HC.out, Below.refl _ _⟩
  · rw [List.length_append, List.length_singleton] at hcu
    obtain ⟨b, rfl, e0, e1, e2, e3⟩ := hcu.last
    have h4 := hcu.c4
    have hl : T0.length + 1 ≤ 2000 := by simpa using hT
    have HE := Lib.hid (lastEnds_snoc T0 t)
    have HT := Lib.hid hT
    clear hcu hT
    generalize T0.length = m at *
    obtain ⟨tk, ts, tl, tc⟩ := t
    simp only at e0 e1 e2 e3 HE
    go_enter Try.func62, Try.ntmps62
    go_wp2_with fail
    refine (ends_any tk tl tc ts w).mono ?_
    rintro e w1 ⟨rfl, hb1⟩
    have HB := Lib.hid hb1
    have HC1 := Lib.hid (HC.out.below hb1)
    clear hb1
    generalize hT0 : T0 ++ [(⟨tk, ts, tl, tc⟩ : Tk)] = T at *
    clear hT0
    cases he : endsT tk ts.data.toList with
    | false =>
      rw [he] at HE
      have HS := Lib.hid (show semiR src p p T = .ok (p, T) by unfold semiR semiT; rw [HE.out]; rfl)
      go_wp2_with fail
      go_end0
      rw [HS.out]
      exact ⟨rfl, HC1.out, HB.out.mono (Nat.le_of_lt hgl)⟩
    | true =>
      rw [he] at HE
      have hput := putS g src p 0 6 [59] ⟨#[59]⟩ 0 T w1 rfl rfl HC1.out HT.out hsz hp (by omega) rfl
      unfold addR at hput
      cases ha : addT src.data.toList p T 6 [59] with
      | none =>
        rw [ha] at hput
        have HS := Lib.hid (show semiR src p p T = .error 15 by unfold semiR semiT; rw [HE.out, if_pos rfl, ha])
        have HP := Lib.hid hput
        clear hput
        go_wp2_with fail
        refine HP.out.mono ?_
        rintro e w2 ⟨rfl, hb2⟩
        unfold stopE
        go_wp2_with fail
        rw [HS.out]
        exact ⟨rfl, rfl, (HB.out.mono (Nat.le_of_lt hgl)).trans hb2⟩
      | some T' =>
        rw [ha] at hput
        have HS := Lib.hid (show semiR src p p T = .ok (p, T') by unfold semiR semiT; rw [HE.out, if_pos rfl, ha])
        have HP := Lib.hid hput
        clear hput
        go_wp2_with fail
        refine HP.out.mono ?_
        rintro e w2 ⟨rfl, hc2, hb2⟩
        have HC2 := Lib.hid hc2
        clear hc2
        go_wp2_with fail
        go_end0
        rw [HS.out]
        exact ⟨rfl, HC2.out, (HB.out.mono (Nat.le_of_lt hgl)).trans hb2⟩
open Go
theorem tw_step {P : UInt8 → Bool} : ∀ {l : List UInt8} {i : Nat} {x : UInt8}, i ≤ (l.takeWhile P).length → l[i]? = some x → P x = true → i + 1 ≤ (l.takeWhile P).length
  | [], i, x, _, hx, _ => by simp at hx
  | a :: l, 0, x, h, hx, hp => by
    simp at hx
    subst hx
    rw [List.takeWhile_cons_of_pos hp]
    simp
  | a :: l, i + 1, x, h, hx, hp => by
    rw [List.takeWhile_cons] at h ⊢
    split at h
    · rename_i ha
      rw [if_pos ha]
      simp at h ⊢
      exact tw_step h (by simpa using hx) hp
    · simp at h
theorem tw_stop {P : UInt8 → Bool} : ∀ {l : List UInt8} {i : Nat} {x : UInt8}, l[i]? = some x → P x = false → (l.takeWhile P).length ≤ i
  | [], i, x, hx, _ => by simp at hx
  | a :: l, 0, x, hx, hp => by
    simp at hx
    subst hx
    rw [List.takeWhile_cons_of_neg (by simp [hp])]
    simp
  | a :: l, i + 1, x, hx, hp => by
    rw [List.takeWhile_cons]
    split
    · simp
      exact tw_stop (by simpa using hx) hp
    · simp
theorem tw_len (P : UInt8 → Bool) (l : List UInt8) : (l.takeWhile P).length ≤ l.length := (List.takeWhile_sublist P).length_le
theorem tw_take (P : UInt8 → Bool) : ∀ l : List UInt8, l.take (l.takeWhile P).length = l.takeWhile P
  | [] => rfl
  | a :: l => by
    rw [List.takeWhile_cons]
    split
    · simp [tw_take P l]
    · simp
theorem tw_all {P : UInt8 → Bool} {l : List UInt8} : ∀ x ∈ l.takeWhile P, P x = true := fun x hx => List.all_eq_true.1 List.all_takeWhile x hx
theorem isA_nl {c : UInt8} (h : isA c = true) : c ≠ 10 := by
  rintro rfl
  revert h
  decide
theorem alen_place {L : List UInt8} {p : Nat} : place (L.take (p + alen (L.drop p))) = ((place (L.take p)).1, (place (L.take p)).2 + alen (L.drop p)) :=
  place_step (tw_len _ _) fun c hc => by
    unfold alen at hc
    rw [tw_take] at hc
    exact isA_nl (tw_all c hc)
theorem src_get (s : ByteArray) (p i j : Nat) (hj : j = p + i) (h : j < s.size) : (s.data.toList.drop p)[i]? = some s[j] := by
  subst hj
  rw [List.getElem?_drop]
  exact byl_get s (p + i) h
theorem ext_take (s : ByteArray) (p n : Nat) : s.extract p (p + n) = ⟨((s.data.toList.drop p).take n).toArray⟩ := by
  rw [extract_list, List.drop_take, Nat.add_sub_cancel_left]
theorem drop_len (s : ByteArray) (p : Nat) : (s.data.toList.drop p).length = s.size - p := by rw [List.length_drop]; rfl
theorem head_get (s : ByteArray) (p : Nat) (h : p < s.size) : (s.data.toList.drop p).headD 0 = s[p] := by
  rw [byl_drop s p h]; rfl
end Go.Proofs.Ytgjhjojbaieeaaa
