/- 'scan.Unquote' and the document's textAt, Unquote. Conditions: none. -/
import Derived.Test.YtgjhjojbaieeaaaB8
import Derived.Test.YtgjhjojbaieeaaaQu
import Derived.Test.YtgjhjojbaieeaaaShelf
set_option maxRecDepth 20000
namespace Go.Proofs.Ytgjhjojbaieeaaa
open Go.ChangeShapes Go.WideShapes Go.ChangeAt Go.RowKit
/-- What Unquote answers. -/
def unqV (s : ByteArray) : Value := match unq s.data.toList with | none => .tuple #[.string ⟨#[]⟩, .int .i64 4] | some q => .tuple #[.string ⟨q.toArray⟩, .int .i64 0]
theorem unqV_none {s : ByteArray} (h : unq s.data.toList = none) : unqV s = .tuple #[.string ⟨#[]⟩, .int .i64 4] := by unfold unqV; rw [h]
theorem unqV_some {s : ByteArray} {q : List UInt8} (h : unq s.data.toList = some q) : unqV s = .tuple #[.string ⟨q.toArray⟩, .int .i64 0] := by unfold unqV; rw [h]
theorem unq_first {s : ByteArray} (h0 : 0 < s.size) (h : s[0] ≠ 34) : unq s.data.toList = none := by
  have := byl_drop s 0 h0
  rw [List.drop_zero] at this
  rw [this, unq, if_neg h]
theorem unq_short {s : ByteArray} (h : s.size < 2) : unq s.data.toList = none := by
  have hl : s.data.toList.length < 2 := h
  match he : s.data.toList, hl with
  | [], _ => rfl
  | [c], _ => rw [unq]; split <;> rfl
theorem unq_last {s : ByteArray} (h : 2 ≤ s.size) (hc : s[s.size - 1] ≠ 34) : unq s.data.toList = none := by
  have h0 := byl_drop s 0 (by omega)
  rw [List.drop_zero] at h0
  rw [h0, unq]
  split
  · cases hd : dec (s.data.toList.drop (0 + 1)) with
    | none => rfl
    | some p =>
      obtain ⟨m, t⟩ := p
      cases t with
      | nil =>
        exfalso
        obtain ⟨a, ha⟩ := dec_last _ _ (Nat.le_refl _) m hd
        have e1 := byl_get s (s.size - 1) (by omega)
        have e2 : s.data.toList = s[0] :: (a ++ [34]) := by rw [← ha]; exact h0
        have e3 : s.size = a.length + 2 := by
          have : s.data.toList.length = s.size := rfl
          rw [← this, e2]; simp
        rw [e2] at e1
        have e4 : (s[0] :: (a ++ [34]))[a.length + 1]? = some s[s.size - 1] := by rw [← e1]; congr 1; omega
        simp at e4
        exact hc e4.symm
      | cons _ _ => rfl
  · rfl
/-- The bytes between the quotes. -/
theorem unq_in {s : ByteArray} (h : 2 ≤ s.size) (h0 : s[0] = 34) (h1 : s[s.size - 1] = 34) : unq s.data.toList = (decAll (s.extract 1 (s.size - 1)).data.toList).bind fun m => if 200 < m.length then none else some m := by
  have e0 := byl_drop s 0 (by omega)
  rw [List.drop_zero] at e0
  have e1 := byl_drop s (s.size - 1) (by omega)
  have e2 : s.data.toList.drop (s.size - 1 + 1) = [] := List.drop_eq_nil_of_le (show s.data.toList.length ≤ _ by show s.size ≤ _; omega)
  have e3 : s.data.toList.drop 1 = (s.extract 1 (s.size - 1)).data.toList ++ [34] := by
    have hl : (s.data.toList.take (s.size - 1)).length = s.size - 1 := by rw [List.length_take]; show min _ s.size = _; omega
    have hL : s.data.toList = s.data.toList.take (s.size - 1) ++ [34] := by
      conv => lhs; rw [← List.take_append_drop (s.size - 1) s.data.toList, e1, e2, h1]
    rw [ext_list]
    conv => lhs; rw [hL]
    rw [List.drop_append_of_le_length (by omega)]
  rw [e0, unq, if_pos h0]
  show (match dec (s.data.toList.drop 1) with | some (m, []) => _ | _ => none) = _
  rw [e3]
  have key := dec_in _ (s.extract 1 (s.size - 1)).data.toList (Nat.le_refl _)
  cases hd : decAll (s.extract 1 (s.size - 1)).data.toList with
  | some m =>
    rw [(key m).2 hd]
    rfl
  | none =>
    cases hx : dec ((s.extract 1 (s.size - 1)).data.toList ++ [34]) with
    | none => rfl
    | some p =>
      obtain ⟨m, t⟩ := p
      cases t with
      | nil => rw [(key m).1 hx] at hd; cases hd
      | cons _ _ => rfl
/-- What is gathered, ahead of what is still to be read. -/
def aheadA (q : List UInt8) (p : Option (List UInt8)) : Option (List UInt8) := p.map (q ++ ·)
theorem aheadA_nil (p : Option (List UInt8)) : aheadA [] p = p := by cases p <;> simp [aheadA]
theorem decA_plain {s : ByteArray} {k : Nat} (hk : k < s.size) (h1 : s[k] ≠ 34) (h2 : s[k] ≠ 92) (h3 : okB s[k] = true) (q : List UInt8) : aheadA q (decAll (s.data.toList.drop k)) = aheadA (q ++ [s[k]]) (decAll (s.data.toList.drop (k + 1))) := by
  rw [byl_drop s k hk]
  cases h : s.data.toList.drop (k + 1) with
  | nil => simp [decAll, h1, h2, h3, aheadA]
  | cons e r =>
    rw [decAll, if_neg h1, if_neg h2, if_pos h3]
    cases decAll (e :: r) <;> simp [aheadA]
theorem decA_bad {s : ByteArray} {k : Nat} (hk : k < s.size) (h : s[k] = 34 ∨ (s[k] ≠ 92 ∧ okB s[k] = false)) (q : List UInt8) : aheadA q (decAll (s.data.toList.drop k)) = none := by
  rw [byl_drop s k hk]
  cases s.data.toList.drop (k + 1) with
  | nil =>
    rcases h with h | ⟨h, h'⟩
    · simp [decAll, h, aheadA]
    · by_cases h1 : s[k] = 34 <;> simp [decAll, h, h', h1, aheadA]
  | cons e r =>
    rcases h with h | ⟨h, h'⟩
    · rw [decAll, if_pos h]; rfl
    · by_cases h1 : s[k] = 34
      · rw [decAll, if_pos h1]; rfl
      · rw [decAll, if_neg h1, if_neg h, if_neg (by rw [h']; simp)]; rfl
theorem decA_end {s : ByteArray} {k : Nat} (hk : k < s.size) (hk2 : s.size ≤ k + 1) (h : s[k] = 92) (q : List UInt8) : aheadA q (decAll (s.data.toList.drop k)) = none := by
  rw [byl_drop s k hk, List.drop_eq_nil_of_le (show s.data.toList.length ≤ _ from hk2), h]
  rfl
theorem decA_esc {s : ByteArray} {k : Nat} (hk : k + 1 < s.size) (h : s[k] = 92) (q : List UInt8) : aheadA q (decAll (s.data.toList.drop k)) = (escOf s[k + 1]).bind fun x => aheadA (q ++ [x]) (decAll (s.data.toList.drop (k + 1 + 1))) := by
  rw [byl_drop s k (by omega), byl_drop s (k + 1) hk, decAll, if_neg (by rw [h]; decide), if_pos h]
  cases escOf s[k + 1] with
  | none => rfl
  | some x => cases decAll (s.data.toList.drop (k + 1 + 1)) <;> simp [aheadA]
theorem decA_done {s : ByteArray} {k : Nat} (hk : s.size ≤ k) (q : List UInt8) : aheadA q (decAll (s.data.toList.drop k)) = some q := by
  rw [List.drop_eq_nil_of_le (show s.data.toList.length ≤ k from hk)]; simp [decAll, aheadA]
theorem ix_esc {e : UInt8} : (e = 110 → Lib.indexByte [110, 116, 34, 92] e = 0) ∧ (e = 116 → Lib.indexByte [110, 116, 34, 92] e = 1) ∧ (e = 34 → Lib.indexByte [110, 116, 34, 92] e = 2) ∧ (e = 92 → Lib.indexByte [110, 116, 34, 92] e = 3) ∧ (e ≠ 110 → e ≠ 116 → e ≠ 34 → e ≠ 92 → Lib.indexByte [110, 116, 34, 92] e = -1) := by
  refine ⟨?_, ?_, ?_, ?_, ?_⟩
  · rintro rfl; decide +kernel
  · rintro rfl; decide +kernel
  · rintro rfl; decide +kernel
  · rintro rfl; decide +kernel
  · intro h1 h2 h3 h4
    have : ∀ x : UInt8, e ≠ x → (x == e) = false := fun x h => by rw [beq_eq_false_iff_ne]; exact fun q => h q.symm
    simp [Lib.indexByte, this _ h1, this _ h2, this _ h3, this _ h4]
theorem esc_cases (e : UInt8) : e = 110 ∨ e = 116 ∨ e = 34 ∨ e = 92 ∨ (e ≠ 110 ∧ e ≠ 116 ∧ e ≠ 34 ∧ e ≠ 92) := by
  by_cases h1 : e = 110
  · exact .inl h1
  by_cases h2 : e = 116
  · exact .inr (.inl h2)
  by_cases h3 : e = 34
  · exact .inr (.inr (.inl h3))
  by_cases h4 : e = 92
  · exact .inr (.inr (.inr (.inl h4)))
  exact .inr (.inr (.inr (.inr ⟨h1, h2, h3, h4⟩)))
theorem okB_iff (c : UInt8) : okB c = true ↔ 32 ≤ c.toNat ∧ c.toNat ≤ 126 := by unfold okB; simp
theorem unqV_of {s : ByteArray} {X : ByteArray} {q : List UInt8} (hU : unq s.data.toList = (decAll X.data.toList).bind fun m => if 200 < m.length then none else some m) (h : decAll X.data.toList = some q) : (200 < q.length → unqV s = .tuple #[.string ⟨#[]⟩, .int .i64 4]) ∧ (¬ 200 < q.length → unqV s = .tuple #[.string ⟨q.toArray⟩, .int .i64 0]) := by
  rw [h] at hU
  refine ⟨fun hl => unqV_none (by rw [hU, Option.bind_some, if_pos hl]), fun hl => unqV_some (by rw [hU, Option.bind_some, if_neg hl])⟩
theorem unqV_not {s : ByteArray} {X : ByteArray} (hU : unq s.data.toList = (decAll X.data.toList).bind fun m => if 200 < m.length then none else some m) (h : decAll X.data.toList = none) : unqV s = .tuple #[.string ⟨#[]⟩, .int .i64 4] := unqV_none (by rw [hU, h]; rfl)
set_option maxHeartbeats 2000000 in
theorem scanUnquote_any (s : ByteArray) (hs : s.size ≤ 140737488351232) (w : World) : Calls Try.prog 132 #[.string s] w fun e w' => e = .returned (unqV s) ∧ Below w.heap.size w w' := by
  obtain ⟨i0, hi, hz0, hz1, hz2⟩ := info_parts info_u8
  by_cases h2 : s.size < 2
  · have HF := Lib.hid (unqV_none (unq_short h2))
    have hd : decide ((s.size : Int) < 2) = true := decide_eq_true (by omega)
    go_enter Try.func132, Try.ntmps132
    go_wp2_with fail
    go_returns
    exact ⟨by rw [HF.out]; rfl, Below.refl _ _⟩
  · have hd : decide ((s.size : Int) < 2) = false := decide_eq_false (by omega)
    have h20 : 0 < s.size := by omega
    by_cases h0 : s[0] = 34
    · have g0 : ((s[0].toNat : Int) != 34) = false := by rw [h0]; rfl
      have hn : ((s.size : Int) - 1).toNat = s.size - 1 := by omega
      have hb1 : (0 : Int) ≤ (s.size : Int) - 1 := by omega
      by_cases h1 : s[s.size - 1] = 34
      · have gl : ((s[s.size - 1].toNat : Int) != 34) = false := by rw [h1]; rfl
        have HU := Lib.hid (unq_in (by omega) h0 h1)
        clear h1 h0 hd
        have hd : decide ((s.size : Int) < 2) = false := decide_eq_false (by omega)
        go_enter Try.func132, Try.ntmps132
        go_wp2_with fail
        generalize hX : s.extract 1 (s.size - 1) = X at *
        have hXs : X.size ≤ 140737488351232 := by rw [← hX, ByteArray.size_extract]; omega
        clear hX
        go_loopw [4, 6] (fun out i wr => ∃ (k : Nat) (q : List UInt8) (A : Option Addr) (c : Nat), i = .int .i64 (k : Int) ∧ k ≤ X.size ∧ out = .slice A q.length c ∧ wr.ownsRow w.heap.size 5 1 out q.length (b8 q) ∧ q.length ≤ k ∧ Hid (aheadA q (decAll (X.data.toList.drop k)) = decAll X.data.toList) ∧ Below w.heap.size w wr) (fun _ i _ => X.size - (intOf i).toNat)
        case atStart => exact ⟨0, [], none, 0, rfl, Nat.zero_le _, rfl, World.ownsRow_nil _ _ _ _, Nat.le_refl _, Lib.hid (by rw [aheadA_nil, List.drop_zero]), Below.refl _ _⟩
        case round =>
          obtain ⟨k, q, A, c, rfl, hk, rfl, hown, hqk, hI, hbel⟩ := hrel
          by_cases hlt : k < X.size
          · by_cases hc34 : X[k] = 34
            · have g1 : ((X[k].toNat : Int) == 34) = true := by rw [hc34]; rfl
              have HF := Lib.hid (unqV_not HU.out (hI.out.symm.trans (decA_bad hlt (.inl hc34) q)))
              clear hc34
              go_wp2_with fail
              go_returns
              exact ⟨by rw [HF.out]; rfl, hbel⟩
            · have g1 : ((X[k].toNat : Int) == 34) = false := by have := u8_ne hc34; simp at this ⊢; omega
              by_cases hok : okB X[k] = true
              · have ho := (okB_iff _).1 hok
                have g2 : decide ((X[k].toNat : Int) < 32) = false := decide_eq_false (by omega)
                have g3 : decide ((126 : Int) < (X[k].toNat : Int)) = false := decide_eq_false (by omega)
                clear ho
                by_cases hc92 : X[k] = 92
                · have g4 : ((X[k].toNat : Int) == 92) = true := by rw [hc92]; rfl
                  clear hok hc34
                  by_cases hk1 : k + 1 < X.size
                  · rcases esc_cases X[k + 1] with he | he | he | he | ⟨he1, he2, he3, he4⟩
                    · have gx := ix_esc.1 he
                      have hix : ∀ W : World, (Instr.index 208 (.agg #[.int .u8 10, .int .u8 9, .int .u8 34, .int .u8 92]) (.int .i64 0)).run Try.prog W = .ok (.int .u8 10) W := fun W => by kernel_rfl
                      have HE := Lib.hid (hI.out.symm.trans (decA_esc hk1 hc92 q))
                      have HX2 := Lib.hid (show escOf X[k + 1] = some 10 by rw [he]; decide)
                      clear he hc92
                      go_wp2_with (first | (go_at_call 133; refine (Try.strings_IndexByte _ _ _).mono ?_; rintro e w2 ⟨rfl, rfl⟩) | (at_builtin; refine wpList_append_rd _ rfl _ _ 136 rfl w.heap.size 5 i0 _ 1 1 Try.underlying136 hi hz0 hz1 hz2 rfl (by omega) _ _ _ rfl (hown.alloc _) _ _ 1 1 [_] rfl (Rd.lit1 _ _ _) (one1 rfl) (by unfold maxLen; omega) (by omega) (Nat.le_trans hbel.size (by simp)) ?_; intro A1 c1 w1 hown1 hgrow1 _))
                      go_roundw
                      case rel => exact ⟨k + 1 + 1, q ++ [10], A1, c1, by go_num, by omega, by simp, by rw [b8_app, List.length_append]; exact hown1, by simp; omega, Lib.hid (by have := HE.out; rw [HX2.out] at this; exact this.symm), below_grown (hbel.alloc hbel.size _) (Nat.le_trans hbel.size (by simp)) (hown.alloc _) (Nat.le_refl _) hgrow1⟩
                      case measure => simp [intOf]; omega
                    · have gx := ix_esc.2.1 he
                      have hix : ∀ W : World, (Instr.index 208 (.agg #[.int .u8 10, .int .u8 9, .int .u8 34, .int .u8 92]) (.int .i64 1)).run Try.prog W = .ok (.int .u8 9) W := fun W => by kernel_rfl
                      have HE := Lib.hid (hI.out.symm.trans (decA_esc hk1 hc92 q))
                      have HX2 := Lib.hid (show escOf X[k + 1] = some 9 by rw [he]; decide)
                      clear he hc92
                      go_wp2_with (first | (go_at_call 133; refine (Try.strings_IndexByte _ _ _).mono ?_; rintro e w2 ⟨rfl, rfl⟩) | (at_builtin; refine wpList_append_rd _ rfl _ _ 136 rfl w.heap.size 5 i0 _ 1 1 Try.underlying136 hi hz0 hz1 hz2 rfl (by omega) _ _ _ rfl (hown.alloc _) _ _ 1 1 [_] rfl (Rd.lit1 _ _ _) (one1 rfl) (by unfold maxLen; omega) (by omega) (Nat.le_trans hbel.size (by simp)) ?_; intro A1 c1 w1 hown1 hgrow1 _))
                      go_roundw
                      case rel => exact ⟨k + 1 + 1, q ++ [9], A1, c1, by go_num, by omega, by simp, by rw [b8_app, List.length_append]; exact hown1, by simp; omega, Lib.hid (by have := HE.out; rw [HX2.out] at this; exact this.symm), below_grown (hbel.alloc hbel.size _) (Nat.le_trans hbel.size (by simp)) (hown.alloc _) (Nat.le_refl _) hgrow1⟩
                      case measure => simp [intOf]; omega
                    · have gx := ix_esc.2.2.1 he
                      have hix : ∀ W : World, (Instr.index 208 (.agg #[.int .u8 10, .int .u8 9, .int .u8 34, .int .u8 92]) (.int .i64 2)).run Try.prog W = .ok (.int .u8 34) W := fun W => by kernel_rfl
                      have HE := Lib.hid (hI.out.symm.trans (decA_esc hk1 hc92 q))
                      have HX2 := Lib.hid (show escOf X[k + 1] = some 34 by rw [he]; decide)
                      clear he hc92
                      go_wp2_with (first | (go_at_call 133; refine (Try.strings_IndexByte _ _ _).mono ?_; rintro e w2 ⟨rfl, rfl⟩) | (at_builtin; refine wpList_append_rd _ rfl _ _ 136 rfl w.heap.size 5 i0 _ 1 1 Try.underlying136 hi hz0 hz1 hz2 rfl (by omega) _ _ _ rfl (hown.alloc _) _ _ 1 1 [_] rfl (Rd.lit1 _ _ _) (one1 rfl) (by unfold maxLen; omega) (by omega) (Nat.le_trans hbel.size (by simp)) ?_; intro A1 c1 w1 hown1 hgrow1 _))
                      go_roundw
                      case rel => exact ⟨k + 1 + 1, q ++ [34], A1, c1, by go_num, by omega, by simp, by rw [b8_app, List.length_append]; exact hown1, by simp; omega, Lib.hid (by have := HE.out; rw [HX2.out] at this; exact this.symm), below_grown (hbel.alloc hbel.size _) (Nat.le_trans hbel.size (by simp)) (hown.alloc _) (Nat.le_refl _) hgrow1⟩
                      case measure => simp [intOf]; omega
                    · have gx := ix_esc.2.2.2.1 he
                      have hix : ∀ W : World, (Instr.index 208 (.agg #[.int .u8 10, .int .u8 9, .int .u8 34, .int .u8 92]) (.int .i64 3)).run Try.prog W = .ok (.int .u8 92) W := fun W => by kernel_rfl
                      have HE := Lib.hid (hI.out.symm.trans (decA_esc hk1 hc92 q))
                      have HX2 := Lib.hid (show escOf X[k + 1] = some 92 by rw [he]; decide)
                      clear he hc92
                      go_wp2_with (first | (go_at_call 133; refine (Try.strings_IndexByte _ _ _).mono ?_; rintro e w2 ⟨rfl, rfl⟩) | (at_builtin; refine wpList_append_rd _ rfl _ _ 136 rfl w.heap.size 5 i0 _ 1 1 Try.underlying136 hi hz0 hz1 hz2 rfl (by omega) _ _ _ rfl (hown.alloc _) _ _ 1 1 [_] rfl (Rd.lit1 _ _ _) (one1 rfl) (by unfold maxLen; omega) (by omega) (Nat.le_trans hbel.size (by simp)) ?_; intro A1 c1 w1 hown1 hgrow1 _))
                      go_roundw
                      case rel => exact ⟨k + 1 + 1, q ++ [92], A1, c1, by go_num, by omega, by simp, by rw [b8_app, List.length_append]; exact hown1, by simp; omega, Lib.hid (by have := HE.out; rw [HX2.out] at this; exact this.symm), below_grown (hbel.alloc hbel.size _) (Nat.le_trans hbel.size (by simp)) (hown.alloc _) (Nat.le_refl _) hgrow1⟩
                      case measure => simp [intOf]; omega
                    · have gx := (ix_esc (e := X[k + 1])).2.2.2.2 he1 he2 he3 he4
                      have HF := Lib.hid (unqV_not HU.out (hI.out.symm.trans ((decA_esc hk1 hc92 q).trans (by unfold escOf; rw [if_neg he1, if_neg he2, if_neg he3, if_neg he4]; rfl))))
                      clear he1 he2 he3 he4 hc92
                      go_wp2_with (first | (go_at_call 133; refine (Try.strings_IndexByte _ _ _).mono ?_; rintro e w2 ⟨rfl, rfl⟩))
                      go_returns
                      exact ⟨by rw [HF.out]; rfl, hbel⟩
                  · have HF := Lib.hid (unqV_not HU.out (hI.out.symm.trans (decA_end hlt (by omega) hc92 q)))
                    clear hc92
                    go_wp2_with fail
                    go_returns
                    exact ⟨by rw [HF.out]; rfl, hbel⟩
                · have g4 : ((X[k].toNat : Int) == 92) = false := by have := u8_ne hc92; simp at this ⊢; omega
                  have HE := Lib.hid (hI.out.symm.trans (decA_plain hlt hc34 hc92 hok q))
                  clear hc34 hc92 hok
                  go_wp2_with (at_builtin; refine wpList_append_rd _ rfl _ _ 136 rfl w.heap.size 5 i0 _ 1 1 Try.underlying136 hi hz0 hz1 hz2 rfl (by omega) _ _ _ rfl (hown.alloc _) _ _ 1 1 [_] rfl (Rd.lit1 _ _ _) (one1 rfl) (by unfold maxLen; omega) (by omega) (Nat.le_trans hbel.size (by simp)) ?_; intro A1 c1 w1 hown1 hgrow1 _)
                  go_roundw
                  case rel => exact ⟨k + 1, q ++ [X[k]], A1, c1, by go_num, by omega, by simp, by rw [b8_app, List.length_append]; exact hown1, by simp; omega, Lib.hid HE.out.symm, below_grown (hbel.alloc hbel.size _) (Nat.le_trans hbel.size (by simp)) (hown.alloc _) (Nat.le_refl _) hgrow1⟩
                  case measure => simp [intOf]; omega
              · have HF := Lib.hid (unqV_not HU.out (hI.out.symm.trans (decA_bad hlt (.inr ⟨fun h => hok (by rw [h]; decide), by simpa using hok⟩) q)))
                have ho : X[k].toNat < 32 ∨ 126 < X[k].toNat := by
                  have := mt (okB_iff _).2 hok; omega
                clear hok hc34
                rcases ho with ho | ho
                · have g2 : decide ((X[k].toNat : Int) < 32) = true := decide_eq_true (by omega)
                  go_wp2_with fail
                  go_returns
                  exact ⟨by rw [HF.out]; rfl, hbel⟩
                · have g2 : decide ((X[k].toNat : Int) < 32) = false := decide_eq_false (by omega)
                  have g3 : decide ((126 : Int) < (X[k].toNat : Int)) = true := decide_eq_true (by omega)
                  go_wp2_with fail
                  go_returns
                  exact ⟨by rw [HF.out]; rfl, hbel⟩
          · have HD := Lib.hid (unqV_of HU.out (hI.out.symm.trans (decA_done (by omega) q)))
            have hx := run_str_b8 (P := Try.prog) (c := c) (Rd.of_own hown) 136 5 9 Try.underlying136 Try.underlying5 Try.underlying9
            by_cases hl2 : 200 < q.length
            · have HF := Lib.hid (HD.out.1 hl2)
              go_wp2_with fail
              go_returns
              exact ⟨by rw [HF.out]; rfl, hbel⟩
            · have HF := Lib.hid (HD.out.2 hl2)
              go_wp2_with (simp only [hx])
              go_returns
              exact ⟨by rw [HF.out]; rfl, hbel⟩
      · have gl : ((s[s.size - 1].toNat : Int) != 34) = true := by have := u8_ne h1; simp at this ⊢; omega
        have HF := Lib.hid (unqV_none (unq_last (by omega) h1))
        clear h1 h0
        go_enter Try.func132, Try.ntmps132
        go_wp2_with fail
        go_returns
        exact ⟨by rw [HF.out]; rfl, Below.refl _ _⟩
    · have g0 : ((s[0].toNat : Int) != 34) = true := by have := u8_ne h0; simp at this ⊢; omega
      have HF := Lib.hid (unqV_none (unq_first h20 h0))
      clear h0
      go_enter Try.func132, Try.ntmps132
      go_wp2_with fail
      go_returns
      exact ⟨by rw [HF.out]; rfl, Below.refl _ _⟩
end Go.Proofs.Ytgjhjojbaieeaaa
