/- Numbers of any size: read from their text. Conditions: none. -/
import Derived.Test.YtgjhjojbaieeaaaDoorBigMul
import Derived.Test.YtgjhjojbaieeaaaDoorRd
import Derived.Test.YtgjhjojbaieeaaaDoorB8
set_option maxRecDepth 20000
namespace Go.Proofs.YtgjhjojbaieeaaaDoor
open Go.ChangeShapes Go.WideShapes Go.ChangeAt Go.RowKit
theorem dval_aux : ∀ (l : List Nat) (a n : Nat), digs l = true → a < 10 ^ n → l.foldl (fun a d => a * 10 + (d - 48)) a < 10 ^ (n + l.length)
  | [], a, n, _, h => by simpa using h
  | d :: l, a, n, h, ha => by
    unfold digs at h
    rw [List.all_cons, Bool.and_eq_true] at h
    have h2 := h.1
    simp at h2
    have := dval_aux l (a * 10 + (d - 48)) (n + 1) h.2 (by rw [Nat.pow_succ]; omega)
    rw [List.foldl_cons, List.length_cons, show n + (l.length + 1) = n + 1 + l.length by omega]
    exact this
theorem dval_lt (l : List Nat) (h : digs l = true) : dval l < 10 ^ l.length := by
  have := dval_aux l 0 0 h (by decide)
  rw [Nat.zero_add] at this
  exact this
/-- What SetString leaves. -/
def SP (g : Nat) (s : ByteArray) (w : World) (e : Ending) (w' : World) : Prop :=
  (∃ z, parse (byt s) = some z ∧ e = .returned (.tuple #[.pointer (some ⟨g, 0, none⟩), .bool true]) ∧ Big w' w'.heap.size g z ∧ w.grownBy w' (some g)) ∨ (parse (byt s) = none ∧ e = .returned (.tuple #[.pointer none, .bool false]) ∧ w.grownBy w' (some g))
theorem SP.no {g : Nat} {s : ByteArray} {w w' : World} (h : parse (byt s) = none) (hb : Below w.heap.size w w') : SP g s w (.returned (.tuple #[.pointer none, .bool false])) w' := .inr ⟨h, rfl, gb_below _ hb⟩
theorem SP.yes {g : Nat} {s : ByteArray} {w w' : World} {z : Int} (h : parse (byt s) = some z) (hB : Big w' w'.heap.size g z) (hg : w.grownBy w' (some g)) : SP g s w (.returned (.tuple #[.pointer (some ⟨g, 0, none⟩), .bool true])) w' := .inl ⟨z, h, rfl, hB, hg⟩
theorem parse_bad {s T : ByteArray} {b : Bool} (hS : sgn (byt s) = (b, byt T)) {k : Nat} (hk : k < T.size) (hd : ¬ (48 ≤ T[k].toNat ∧ T[k].toNat ≤ 57)) : parse (byt s) = none := by
  unfold parse
  rw [hS, if_neg]
  rintro ⟨_, h⟩
  exact hd (digs_take (byt_get T k hk) h)
theorem parse_ok {s T : ByteArray} {b : Bool} (hS : sgn (byt s) = (b, byt T)) (h0 : 0 < T.size) (hd : digs (byt T) = true) {V : Nat} (hV : dval (byt T) = V) : parse (byt s) = some (if b = true then -(V : Int) else (V : Int)) := by
  unfold parse
  rw [hS, if_pos ⟨by intro e; have := byt_len T; simp only at e; rw [e] at this; simp at this; omega, hd⟩, hV]
theorem parse_empty {s T : ByteArray} {b : Bool} (hS : sgn (byt s) = (b, byt T)) (h0 : T.size = 0) : parse (byt s) = none := by
  unfold parse
  rw [hS, if_neg]
  rintro ⟨h, _⟩
  exact h (List.eq_nil_of_length_eq_zero (by rw [byt_len]; exact h0))
set_option maxHeartbeats 1000000 in
theorem setStr_plain (g : Nat) (s : ByteArray) (x y : Value) (w : World) (h0 : w.cell? ⟨g, 0, none⟩ = some x) (h1 : w.cell? ⟨g, 1, none⟩ = some y) (f0 : w.frozen? ⟨g, 0, none⟩ = false) (f1 : w.frozen? ⟨g, 1, none⟩ = false) (hs : s.size ≤ 20) (hz : 0 < s.size) (hc1 : s[0] ≠ 45) (hc2 : s[0] ≠ 43) (hS : sgn (byt s) = (false, byt s)) : Calls Tryd.prog 20 #[.pointer (some ⟨g, 0, none⟩), .string s, .int .i64 10] w (SP g s w) := by
  have hSg := Lib.hid hS
  have g1 : ((s[0].toNat : Int) == 45) = false := by have := u8_ne hc1; simp at this ⊢; omega
  have g2 : ((s[0].toNat : Int) == 43) = false := by have := u8_ne hc2; simp at this ⊢; omega
  have gz : decide ((0 : Int) < (s.size : Int)) = true := decide_eq_true (by omega)
  have gz0 : ((s.size : Int) == 0) = false := beq_eq_false_iff_ne.2 (by omega)
  have HG := Lib.hid (And.intro h0 (And.intro h1 (And.intro f0 f1)))
  clear hc1 hc2 h0 h1 f0 f1 hS
  go_enter Tryd.func20, Tryd.ntmps20
  go_wp2_with fail
  go_loopw [9, 10] (fun r i wr => ∃ (k : Nat) (A : Option Addr) (c : Nat), i = .int .i64 (k : Int) ∧ k ≤ s.size ∧ Hid (digs ((byt s).take k) = true) ∧ r = .slice A (wds (dval ((byt s).take k))).length c ∧ (wds (dval ((byt s).take k))).length ≤ c ∧ Rd wr wr.heap.size 1 A (wds (dval ((byt s).take k))).length (u32s (wds (dval ((byt s).take k)))) ∧ (∀ b off, A = some ⟨b, off, none⟩ → w.heap.size ≤ b) ∧ Below w.heap.size w wr) (fun _ i _ => s.size - (intOf i).toNat)
  case atStart => exact ⟨0, none, 0, rfl, by omega, Lib.hid rfl, by simp [dval, wds_zero], by simp [dval, wds_zero], by simp [dval, wds_zero]; exact Rd.nil, (fun _ _ e => by cases e), Below.refl _ _⟩
  case round =>
    obtain ⟨k, A, c, rfl, hk, HD, rfl, hlc, hr, hA, hbel⟩ := hrel
    have hv20 := dval_lt ((byt s).take k) HD.out
    have hkl : ((byt s).take k).length = k := by rw [List.length_take, byt_len]; omega
    rw [hkl] at hv20
    have hv96 := Nat.lt_of_lt_of_le hv20 (Nat.le_trans (Nat.pow_le_pow_right (show 0 < 10 by omega) (show k ≤ 20 by omega)) (show 10 ^ 20 ≤ 79228162514264337593543950336 by decide))
    have HR := Lib.hid (And.intro hr hA)
    clear hr hA hkl hv20
    by_cases hlt : k < s.size
    · by_cases hdg : 48 ≤ s[k].toNat ∧ s[k].toNat ≤ 57
      · have g1 : decide ((48 : Int) ≤ (s[k].toNat : Int)) = true := decide_eq_true (by omega)
        have g2 : decide ((s[k].toNat : Int) ≤ 57) = true := decide_eq_true (by omega)
        have hlo : (48 : Int) ≤ (s[k].toNat : Int) := by omega
        have hhi : (s[k].toNat : Int) ≤ 57 := by omega
        have hd := byt_get s k hlt
        have hsn : (byt s).take (k + 1) = (byt s).take k ++ [s[k].toNat] := by rw [List.take_add_one, hd]; rfl
        have HS := Lib.hid (show dval ((byt s).take (k + 1)) = dval ((byt s).take k) * 10 + (s[k].toNat - 48) by rw [hsn, dval_snoc])
        have HD2 := Lib.hid (show digs ((byt s).take (k + 1)) = true by rw [hsn]; exact digs_snoc HD.out hdg)
        generalize dval ((byt s).take k) = V at *
        have hlenV := wds_len (n := V) (k := 3) (by rw [show (4294967296 : Nat) ^ 3 = 79228162514264337593543950336 by decide]; exact hv96)
        obtain ⟨D, hD⟩ : ∃ D, D = s[k].toNat - 48 := ⟨_, rfl⟩
        have hDl : D < 10 := by omega
        have hDe := Lib.hid (show (s[k].toNat : Int) - 48 = (D : Int) by omega)
        rw [← hD] at HS
        have hge : decide ((10 : Int) ≤ (s[k].toNat : Int) - 48) = false := decide_eq_false (by omega)
        have hv4 : V * 10 < 4294967296 ^ 4 := by
          rw [show (4294967296 : Nat) ^ 4 = 340282366920938463463374607431768211456 by decide]; omega
        have hlm := wds_len hv4
        clear hD hd hsn hdg hv96 hv4
        go_wp2_with fail
        refine (words_any 10 10 rfl (by omega) _).mono ?_
        rintro e w2 ⟨A2, c2, rfl, hr2, hl2, hA2, hb2⟩
        have H2 := Lib.hid (And.intro hr2 hA2)
        have HB2 := Lib.hid (sq hbel hb2)
        have HR2 := Lib.hid (HR.out.1.into (Nat.le_refl _) hb2)
        have h10 := wds_len (n := 10) (k := 1) (by omega)
        clear hr2 hA2 hb2
        go_wp2_with fail
        refine (mul_any A A2 _ _ c c2 (wds V) (wds 10) rfl rfl (wds_lt _) (wds_lt _) _ HR2.out H2.out.1 (by omega) (by omega)).mono ?_
        rintro e w3 ⟨A3, c3, rfl, hr3, hl3, hA3, hb3⟩
        rw [wv_wds, wv_wds] at hr3 hl3 ⊢
        have H3 := Lib.hid (And.intro hr3 hA3)
        have HB3 := Lib.hid (sq HB2.out hb3)
        clear hr3 hA3 hb3
        go_wp2_with fail
        refine (words_any _ D hDe.out (by omega) _).mono ?_
        rintro e w4 ⟨A4, c4, rfl, hr4, hl4, hA4, hb4⟩
        have H4 := Lib.hid (And.intro hr4 hA4)
        have HB4 := Lib.hid (sq HB3.out hb4)
        have HR4 := Lib.hid (H3.out.1.into (Nat.le_refl _) hb4)
        have hld := wds_len (n := D) (k := 1) (by omega)
        clear hr4 hA4 hb4
        go_wp2_with fail
        refine (add_any A3 A4 _ _ c3 c4 (wds (V * 10)) (wds D) rfl rfl (wds_lt _) (wds_lt _) _ HR4.out H4.out.1 (by omega) (by omega)).mono ?_
        rintro e w5 ⟨A5, c5, rfl, hr5, hl5, hA5, hb5⟩
        rw [wv_wds, wv_wds, ← HS.out] at hr5 hl5 ⊢
        have H5 := Lib.hid (And.intro hr5 hA5)
        have HB5 := Lib.hid (sq HB4.out hb5)
        clear hr5 hA5 hb5
        go_wp2_with fail
        go_roundw
        case rel => exact ⟨k + 1, A5, c5, by go_num, by omega, HD2, rfl, hl5, H5.out.1, fun b off e => Nat.le_trans HB4.out.size (H5.out.2 b off e), HB5.out⟩
        case measure => simp [intOf]; omega
      · have HF := Lib.hid (show parse (byt s) = none from parse_bad hSg.out hlt hdg)
        have hdg2 : s[k].toNat < 48 ∨ 57 < s[k].toNat := by omega
        clear hdg
        rcases hdg2 with hdg | hdg
        · have g1 : decide ((48 : Int) ≤ (s[k].toNat : Int)) = false := decide_eq_false (by omega)
          have g3 : decide ((97 : Int) ≤ (s[k].toNat : Int)) = false := decide_eq_false (by omega)
          have g5 : decide ((65 : Int) ≤ (s[k].toNat : Int)) = false := decide_eq_false (by omega)
          go_wp2_with fail
          go_returns
          exact SP.no HF.out hbel
        · have g1 : decide ((48 : Int) ≤ (s[k].toNat : Int)) = true := decide_eq_true (by omega)
          have g2 : decide ((s[k].toNat : Int) ≤ 57) = false := decide_eq_false (by omega)
          go_wp2_with fail
          all_goals
            go_returns
            exact SP.no HF.out hbel
    · have HTT := Lib.hid (show (byt s).take k = byt s from List.take_of_length_le (by rw [byt_len]; omega))
      rw [HTT.out] at HR HD hlc ⊢
      generalize hV : dval (byt s) = V at *
      have HF := Lib.hid (show parse (byt s) = some (if false = true then -(V : Int) else (V : Int)) from parse_ok hSg.out (by omega) HD.out hV)
      obtain ⟨e0, e1, e2, e3⟩ := HG.out
      have hg : g < w.heap.size := World.block_lt_of_cell? w _ e0
      have k0 := (hbel.cell (p := ⟨g, 0, none⟩) hg).trans e0
      have k1 := (hbel.cell (p := ⟨g, 1, none⟩) hg).trans e1
      have k2 := (hbel.frozen (p := ⟨g, 0, none⟩) hg).trans e2
      have k3 := (hbel.frozen (p := ⟨g, 1, none⟩) hg).trans e3
      have HK := Lib.hid (And.intro k0 (And.intro k1 (And.intro k2 k3)))
      clear e0 e1 e2 e3 k0 k1 k2 k3 hV
      go_wp2_with fail
      refine (give_big g false A V c x y wr HK.out.1 HK.out.2.1 HK.out.2.2.1 HK.out.2.2.2 HR.out.1 (fun b off e => by have := HR.out.2 b off e; omega) hlc).mono ?_
      rintro e w2 ⟨rfl, hB, hgb⟩
      have HB := Lib.hid hB
      clear hB
      go_wp2_with fail
      go_returns
      exact SP.yes HF.out HB.out (gb_trans (gb_below _ hbel) hgb)
set_option maxHeartbeats 1000000 in
theorem setStr_minus (g : Nat) (s T : ByteArray) (x y : Value) (w : World) (h0 : w.cell? ⟨g, 0, none⟩ = some x) (h1 : w.cell? ⟨g, 1, none⟩ = some y) (f0 : w.frozen? ⟨g, 0, none⟩ = false) (f1 : w.frozen? ⟨g, 1, none⟩ = false) (hs : s.size ≤ 20) (hz : 0 < s.size) (hc : s[0] = 45) (hT : s.extract 1 s.size = T) (hS : sgn (byt s) = (true, byt T)) : Calls Tryd.prog 20 #[.pointer (some ⟨g, 0, none⟩), .string s, .int .i64 10] w (SP g s w) := by
  have hSg := Lib.hid hS
  have g1 : ((s[0].toNat : Int) == 45) = true := by rw [hc]; rfl
  have gz : decide ((0 : Int) < (s.size : Int)) = true := decide_eq_true (by omega)
  have h1s : (1 : Int) ≤ (s.size : Int) := by omega
  have hTs : T.size ≤ 20 := by rw [← hT, ByteArray.size_extract]; omega
  have HG := Lib.hid (And.intro h0 (And.intro h1 (And.intro f0 f1)))
  clear hc h0 h1 f0 f1 hS
  by_cases hT0 : T.size = 0
  · have HF := Lib.hid (parse_empty hSg.out hT0)
    have gz0 : ((T.size : Int) == 0) = true := by simp [hT0]
    clear hT0
    go_enter Tryd.func20, Tryd.ntmps20
    go_wp2_with fail
    go_returns
    exact SP.no HF.out (Below.refl _ _)
  · have gz0 : ((T.size : Int) == 0) = false := beq_eq_false_iff_ne.2 (by omega)
    go_enter Tryd.func20, Tryd.ntmps20
    go_wp2_with fail
    clear hT
    go_loopw [9, 10] (fun r i wr => ∃ (k : Nat) (A : Option Addr) (c : Nat), i = .int .i64 (k : Int) ∧ k ≤ T.size ∧ Hid (digs ((byt T).take k) = true) ∧ r = .slice A (wds (dval ((byt T).take k))).length c ∧ (wds (dval ((byt T).take k))).length ≤ c ∧ Rd wr wr.heap.size 1 A (wds (dval ((byt T).take k))).length (u32s (wds (dval ((byt T).take k)))) ∧ (∀ b off, A = some ⟨b, off, none⟩ → w.heap.size ≤ b) ∧ Below w.heap.size w wr) (fun _ i _ => T.size - (intOf i).toNat)
    case atStart => exact ⟨0, none, 0, rfl, by omega, Lib.hid rfl, by simp [dval, wds_zero], by simp [dval, wds_zero], by simp [dval, wds_zero]; exact Rd.nil, (fun _ _ e => by cases e), Below.refl _ _⟩
    case round =>
      obtain ⟨k, A, c, rfl, hk, HD, rfl, hlc, hr, hA, hbel⟩ := hrel
      have hv20 := dval_lt ((byt T).take k) HD.out
      have hkl : ((byt T).take k).length = k := by rw [List.length_take, byt_len]; omega
      rw [hkl] at hv20
      have hv96 := Nat.lt_of_lt_of_le hv20 (Nat.le_trans (Nat.pow_le_pow_right (show 0 < 10 by omega) (show k ≤ 20 by omega)) (show 10 ^ 20 ≤ 79228162514264337593543950336 by decide))
      have HR := Lib.hid (And.intro hr hA)
      clear hr hA hkl hv20
      by_cases hlt : k < T.size
      · by_cases hdg : 48 ≤ T[k].toNat ∧ T[k].toNat ≤ 57
        · have g1 : decide ((48 : Int) ≤ (T[k].toNat : Int)) = true := decide_eq_true (by omega)
          have g2 : decide ((T[k].toNat : Int) ≤ 57) = true := decide_eq_true (by omega)
          have hlo : (48 : Int) ≤ (T[k].toNat : Int) := by omega
          have hhi : (T[k].toNat : Int) ≤ 57 := by omega
          have hd := byt_get T k hlt
          have hsn : (byt T).take (k + 1) = (byt T).take k ++ [T[k].toNat] := by rw [List.take_add_one, hd]; rfl
          have HS := Lib.hid (show dval ((byt T).take (k + 1)) = dval ((byt T).take k) * 10 + (T[k].toNat - 48) by rw [hsn, dval_snoc])
          have HD2 := Lib.hid (show digs ((byt T).take (k + 1)) = true by rw [hsn]; exact digs_snoc HD.out hdg)
          generalize dval ((byt T).take k) = V at *
          have hlenV := wds_len (n := V) (k := 3) (by rw [show (4294967296 : Nat) ^ 3 = 79228162514264337593543950336 by decide]; exact hv96)
          obtain ⟨D, hD⟩ : ∃ D, D = T[k].toNat - 48 := ⟨_, rfl⟩
          have hDl : D < 10 := by omega
          have hDe := Lib.hid (show (T[k].toNat : Int) - 48 = (D : Int) by omega)
          rw [← hD] at HS
          have hge : decide ((10 : Int) ≤ (T[k].toNat : Int) - 48) = false := decide_eq_false (by omega)
          have hv4 : V * 10 < 4294967296 ^ 4 := by
            rw [show (4294967296 : Nat) ^ 4 = 340282366920938463463374607431768211456 by decide]; omega
          have hlm := wds_len hv4
          clear hD hd hsn hdg hv96 hv4
          go_wp2_with fail
          refine (words_any 10 10 rfl (by omega) _).mono ?_
          rintro e w2 ⟨A2, c2, rfl, hr2, hl2, hA2, hb2⟩
          have H2 := Lib.hid (And.intro hr2 hA2)
          have HB2 := Lib.hid (sq hbel hb2)
          have HR2 := Lib.hid (HR.out.1.into (Nat.le_refl _) hb2)
          have h10 := wds_len (n := 10) (k := 1) (by omega)
          clear hr2 hA2 hb2
          go_wp2_with fail
          refine (mul_any A A2 _ _ c c2 (wds V) (wds 10) rfl rfl (wds_lt _) (wds_lt _) _ HR2.out H2.out.1 (by omega) (by omega)).mono ?_
          rintro e w3 ⟨A3, c3, rfl, hr3, hl3, hA3, hb3⟩
          rw [wv_wds, wv_wds] at hr3 hl3 ⊢
          have H3 := Lib.hid (And.intro hr3 hA3)
          have HB3 := Lib.hid (sq HB2.out hb3)
          clear hr3 hA3 hb3
          go_wp2_with fail
          refine (words_any _ D hDe.out (by omega) _).mono ?_
          rintro e w4 ⟨A4, c4, rfl, hr4, hl4, hA4, hb4⟩
          have H4 := Lib.hid (And.intro hr4 hA4)
          have HB4 := Lib.hid (sq HB3.out hb4)
          have HR4 := Lib.hid (H3.out.1.into (Nat.le_refl _) hb4)
          have hld := wds_len (n := D) (k := 1) (by omega)
          clear hr4 hA4 hb4
          go_wp2_with fail
          refine (add_any A3 A4 _ _ c3 c4 (wds (V * 10)) (wds D) rfl rfl (wds_lt _) (wds_lt _) _ HR4.out H4.out.1 (by omega) (by omega)).mono ?_
          rintro e w5 ⟨A5, c5, rfl, hr5, hl5, hA5, hb5⟩
          rw [wv_wds, wv_wds, ← HS.out] at hr5 hl5 ⊢
          have H5 := Lib.hid (And.intro hr5 hA5)
          have HB5 := Lib.hid (sq HB4.out hb5)
          clear hr5 hA5 hb5
          go_wp2_with fail
          go_roundw
          case rel => exact ⟨k + 1, A5, c5, by go_num, by omega, HD2, rfl, hl5, H5.out.1, fun b off e => Nat.le_trans HB4.out.size (H5.out.2 b off e), HB5.out⟩
          case measure => simp [intOf]; omega
        · have HF := Lib.hid (show parse (byt s) = none from parse_bad hSg.out hlt hdg)
          have hdg2 : T[k].toNat < 48 ∨ 57 < T[k].toNat := by omega
          clear hdg
          rcases hdg2 with hdg | hdg
          · have g1 : decide ((48 : Int) ≤ (T[k].toNat : Int)) = false := decide_eq_false (by omega)
            have g3 : decide ((97 : Int) ≤ (T[k].toNat : Int)) = false := decide_eq_false (by omega)
            have g5 : decide ((65 : Int) ≤ (T[k].toNat : Int)) = false := decide_eq_false (by omega)
            go_wp2_with fail
            go_returns
            exact SP.no HF.out hbel
          · have g1 : decide ((48 : Int) ≤ (T[k].toNat : Int)) = true := decide_eq_true (by omega)
            have g2 : decide ((T[k].toNat : Int) ≤ 57) = false := decide_eq_false (by omega)
            go_wp2_with fail
            all_goals
              go_returns
              exact SP.no HF.out hbel
      · have HTT := Lib.hid (show (byt T).take k = byt T from List.take_of_length_le (by rw [byt_len]; omega))
        rw [HTT.out] at HR HD hlc ⊢
        generalize hV : dval (byt T) = V at *
        have HF := Lib.hid (show parse (byt s) = some (if true = true then -(V : Int) else (V : Int)) from parse_ok hSg.out (by omega) HD.out hV)
        obtain ⟨e0, e1, e2, e3⟩ := HG.out
        have hg : g < w.heap.size := World.block_lt_of_cell? w _ e0
        have k0 := (hbel.cell (p := ⟨g, 0, none⟩) hg).trans e0
        have k1 := (hbel.cell (p := ⟨g, 1, none⟩) hg).trans e1
        have k2 := (hbel.frozen (p := ⟨g, 0, none⟩) hg).trans e2
        have k3 := (hbel.frozen (p := ⟨g, 1, none⟩) hg).trans e3
        have HK := Lib.hid (And.intro k0 (And.intro k1 (And.intro k2 k3)))
        clear e0 e1 e2 e3 k0 k1 k2 k3 hV
        go_wp2_with fail
        refine (give_big g true A V c x y wr HK.out.1 HK.out.2.1 HK.out.2.2.1 HK.out.2.2.2 HR.out.1 (fun b off e => by have := HR.out.2 b off e; omega) hlc).mono ?_
        rintro e w2 ⟨rfl, hB, hgb⟩
        have HB := Lib.hid hB
        clear hB
        go_wp2_with fail
        go_returns
        exact SP.yes HF.out HB.out (gb_trans (gb_below _ hbel) hgb)
set_option maxHeartbeats 1000000 in
theorem setStr_plus (g : Nat) (s T : ByteArray) (x y : Value) (w : World) (h0 : w.cell? ⟨g, 0, none⟩ = some x) (h1 : w.cell? ⟨g, 1, none⟩ = some y) (f0 : w.frozen? ⟨g, 0, none⟩ = false) (f1 : w.frozen? ⟨g, 1, none⟩ = false) (hs : s.size ≤ 20) (hz : 0 < s.size) (hc : s[0] = 43) (hT : s.extract 1 s.size = T) (hS : sgn (byt s) = (false, byt T)) : Calls Tryd.prog 20 #[.pointer (some ⟨g, 0, none⟩), .string s, .int .i64 10] w (SP g s w) := by
  have hSg := Lib.hid hS
  have g1 : ((s[0].toNat : Int) == 45) = false := by rw [hc]; rfl
  have g2 : ((s[0].toNat : Int) == 43) = true := by rw [hc]; rfl
  have gz : decide ((0 : Int) < (s.size : Int)) = true := decide_eq_true (by omega)
  have h1s : (1 : Int) ≤ (s.size : Int) := by omega
  have hTs : T.size ≤ 20 := by rw [← hT, ByteArray.size_extract]; omega
  have HG := Lib.hid (And.intro h0 (And.intro h1 (And.intro f0 f1)))
  clear hc h0 h1 f0 f1 hS
  by_cases hT0 : T.size = 0
  · have HF := Lib.hid (parse_empty hSg.out hT0)
    have gz0 : ((T.size : Int) == 0) = true := by simp [hT0]
    clear hT0
    go_enter Tryd.func20, Tryd.ntmps20
    go_wp2_with fail
    go_returns
    exact SP.no HF.out (Below.refl _ _)
  · have gz0 : ((T.size : Int) == 0) = false := beq_eq_false_iff_ne.2 (by omega)
    go_enter Tryd.func20, Tryd.ntmps20
    go_wp2_with fail
    clear hT
    go_loopw [9, 10] (fun r i wr => ∃ (k : Nat) (A : Option Addr) (c : Nat), i = .int .i64 (k : Int) ∧ k ≤ T.size ∧ Hid (digs ((byt T).take k) = true) ∧ r = .slice A (wds (dval ((byt T).take k))).length c ∧ (wds (dval ((byt T).take k))).length ≤ c ∧ Rd wr wr.heap.size 1 A (wds (dval ((byt T).take k))).length (u32s (wds (dval ((byt T).take k)))) ∧ (∀ b off, A = some ⟨b, off, none⟩ → w.heap.size ≤ b) ∧ Below w.heap.size w wr) (fun _ i _ => T.size - (intOf i).toNat)
    case atStart => exact ⟨0, none, 0, rfl, by omega, Lib.hid rfl, by simp [dval, wds_zero], by simp [dval, wds_zero], by simp [dval, wds_zero]; exact Rd.nil, (fun _ _ e => by cases e), Below.refl _ _⟩
    case round =>
      obtain ⟨k, A, c, rfl, hk, HD, rfl, hlc, hr, hA, hbel⟩ := hrel
      have hv20 := dval_lt ((byt T).take k) HD.out
      have hkl : ((byt T).take k).length = k := by rw [List.length_take, byt_len]; omega
      rw [hkl] at hv20
      have hv96 := Nat.lt_of_lt_of_le hv20 (Nat.le_trans (Nat.pow_le_pow_right (show 0 < 10 by omega) (show k ≤ 20 by omega)) (show 10 ^ 20 ≤ 79228162514264337593543950336 by decide))
      have HR := Lib.hid (And.intro hr hA)
      clear hr hA hkl hv20
      by_cases hlt : k < T.size
      · by_cases hdg : 48 ≤ T[k].toNat ∧ T[k].toNat ≤ 57
        · have g1 : decide ((48 : Int) ≤ (T[k].toNat : Int)) = true := decide_eq_true (by omega)
          have g2 : decide ((T[k].toNat : Int) ≤ 57) = true := decide_eq_true (by omega)
          have hlo : (48 : Int) ≤ (T[k].toNat : Int) := by omega
          have hhi : (T[k].toNat : Int) ≤ 57 := by omega
          have hd := byt_get T k hlt
          have hsn : (byt T).take (k + 1) = (byt T).take k ++ [T[k].toNat] := by rw [List.take_add_one, hd]; rfl
          have HS := Lib.hid (show dval ((byt T).take (k + 1)) = dval ((byt T).take k) * 10 + (T[k].toNat - 48) by rw [hsn, dval_snoc])
          have HD2 := Lib.hid (show digs ((byt T).take (k + 1)) = true by rw [hsn]; exact digs_snoc HD.out hdg)
          generalize dval ((byt T).take k) = V at *
          have hlenV := wds_len (n := V) (k := 3) (by rw [show (4294967296 : Nat) ^ 3 = 79228162514264337593543950336 by decide]; exact hv96)
          obtain ⟨D, hD⟩ : ∃ D, D = T[k].toNat - 48 := ⟨_, rfl⟩
          have hDl : D < 10 := by omega
          have hDe := Lib.hid (show (T[k].toNat : Int) - 48 = (D : Int) by omega)
          rw [← hD] at HS
          have hge : decide ((10 : Int) ≤ (T[k].toNat : Int) - 48) = false := decide_eq_false (by omega)
          have hv4 : V * 10 < 4294967296 ^ 4 := by
            rw [show (4294967296 : Nat) ^ 4 = 340282366920938463463374607431768211456 by decide]; omega
          have hlm := wds_len hv4
          clear hD hd hsn hdg hv96 hv4
          go_wp2_with fail
          refine (words_any 10 10 rfl (by omega) _).mono ?_
          rintro e w2 ⟨A2, c2, rfl, hr2, hl2, hA2, hb2⟩
          have H2 := Lib.hid (And.intro hr2 hA2)
          have HB2 := Lib.hid (sq hbel hb2)
          have HR2 := Lib.hid (HR.out.1.into (Nat.le_refl _) hb2)
          have h10 := wds_len (n := 10) (k := 1) (by omega)
          clear hr2 hA2 hb2
          go_wp2_with fail
          refine (mul_any A A2 _ _ c c2 (wds V) (wds 10) rfl rfl (wds_lt _) (wds_lt _) _ HR2.out H2.out.1 (by omega) (by omega)).mono ?_
          rintro e w3 ⟨A3, c3, rfl, hr3, hl3, hA3, hb3⟩
          rw [wv_wds, wv_wds] at hr3 hl3 ⊢
          have H3 := Lib.hid (And.intro hr3 hA3)
          have HB3 := Lib.hid (sq HB2.out hb3)
          clear hr3 hA3 hb3
          go_wp2_with fail
          refine (words_any _ D hDe.out (by omega) _).mono ?_
          rintro e w4 ⟨A4, c4, rfl, hr4, hl4, hA4, hb4⟩
          have H4 := Lib.hid (And.intro hr4 hA4)
          have HB4 := Lib.hid (sq HB3.out hb4)
          have HR4 := Lib.hid (H3.out.1.into (Nat.le_refl _) hb4)
          have hld := wds_len (n := D) (k := 1) (by omega)
          clear hr4 hA4 hb4
          go_wp2_with fail
          refine (add_any A3 A4 _ _ c3 c4 (wds (V * 10)) (wds D) rfl rfl (wds_lt _) (wds_lt _) _ HR4.out H4.out.1 (by omega) (by omega)).mono ?_
          rintro e w5 ⟨A5, c5, rfl, hr5, hl5, hA5, hb5⟩
          rw [wv_wds, wv_wds, ← HS.out] at hr5 hl5 ⊢
          have H5 := Lib.hid (And.intro hr5 hA5)
          have HB5 := Lib.hid (sq HB4.out hb5)
          clear hr5 hA5 hb5
          go_wp2_with fail
          go_roundw
          case rel => exact ⟨k + 1, A5, c5, by go_num, by omega, HD2, rfl, hl5, H5.out.1, fun b off e => Nat.le_trans HB4.out.size (H5.out.2 b off e), HB5.out⟩
          case measure => simp [intOf]; omega
        · have HF := Lib.hid (show parse (byt s) = none from parse_bad hSg.out hlt hdg)
          have hdg2 : T[k].toNat < 48 ∨ 57 < T[k].toNat := by omega
          clear hdg
          rcases hdg2 with hdg | hdg
          · have g1 : decide ((48 : Int) ≤ (T[k].toNat : Int)) = false := decide_eq_false (by omega)
            have g3 : decide ((97 : Int) ≤ (T[k].toNat : Int)) = false := decide_eq_false (by omega)
            have g5 : decide ((65 : Int) ≤ (T[k].toNat : Int)) = false := decide_eq_false (by omega)
            go_wp2_with fail
            go_returns
            exact SP.no HF.out hbel
          · have g1 : decide ((48 : Int) ≤ (T[k].toNat : Int)) = true := decide_eq_true (by omega)
            have g2 : decide ((T[k].toNat : Int) ≤ 57) = false := decide_eq_false (by omega)
            go_wp2_with fail
            all_goals
              go_returns
              exact SP.no HF.out hbel
      · have HTT := Lib.hid (show (byt T).take k = byt T from List.take_of_length_le (by rw [byt_len]; omega))
        rw [HTT.out] at HR HD hlc ⊢
        generalize hV : dval (byt T) = V at *
        have HF := Lib.hid (show parse (byt s) = some (if false = true then -(V : Int) else (V : Int)) from parse_ok hSg.out (by omega) HD.out hV)
        obtain ⟨e0, e1, e2, e3⟩ := HG.out
        have hg : g < w.heap.size := World.block_lt_of_cell? w _ e0
        have k0 := (hbel.cell (p := ⟨g, 0, none⟩) hg).trans e0
        have k1 := (hbel.cell (p := ⟨g, 1, none⟩) hg).trans e1
        have k2 := (hbel.frozen (p := ⟨g, 0, none⟩) hg).trans e2
        have k3 := (hbel.frozen (p := ⟨g, 1, none⟩) hg).trans e3
        have HK := Lib.hid (And.intro k0 (And.intro k1 (And.intro k2 k3)))
        clear e0 e1 e2 e3 k0 k1 k2 k3 hV
        go_wp2_with fail
        refine (give_big g false A V c x y wr HK.out.1 HK.out.2.1 HK.out.2.2.1 HK.out.2.2.2 HR.out.1 (fun b off e => by have := HR.out.2 b off e; omega) hlc).mono ?_
        rintro e w2 ⟨rfl, hB, hgb⟩
        have HB := Lib.hid hB
        clear hB
        go_wp2_with fail
        go_returns
        exact SP.yes HF.out HB.out (gb_trans (gb_below _ hbel) hgb)
end Go.Proofs.YtgjhjojbaieeaaaDoor
