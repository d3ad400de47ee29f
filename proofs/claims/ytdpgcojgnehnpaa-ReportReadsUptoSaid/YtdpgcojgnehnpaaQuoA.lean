/- 'scan.Quote': what it answers. Conditions: none. -/
import Derived.Test.YtdpgcojgnehnpaaB8
import Derived.Test.YtdpgcojgnehnpaaQu
set_option maxRecDepth 20000
namespace Go.Proofs.Ytdpgcojgnehnpaa
open Go.ChangeShapes Go.WideShapes Go.ChangeAt Go.RowKit
/-- What Quote answers. -/
def quoV (s : ByteArray) : Value := if 200 < s.size then .tuple #[.string ⟨#[]⟩, .int .i64 1] else match quoL s.data.toList with | none => .tuple #[.string ⟨#[]⟩, .int .i64 4] | some q => .tuple #[.string ⟨(34 :: q ++ [34]).toArray⟩, .int .i64 0]
theorem quoV_long {s : ByteArray} (h : 200 < s.size) : quoV s = .tuple #[.string ⟨#[]⟩, .int .i64 1] := by unfold quoV; rw [if_pos h]
theorem quoV_some {s : ByteArray} (h : ¬ 200 < s.size) {q : List UInt8} (hq : quoL s.data.toList = some q) : quoV s = .tuple #[.string ⟨(34 :: q ++ [34]).toArray⟩, .int .i64 0] := by unfold quoV; rw [if_neg h, hq]
theorem quoV_none {s : ByteArray} (h : ¬ 200 < s.size) {k : Nat} (hk : k < s.size) (hc : quoC s[k] = none) : quoV s = .tuple #[.string ⟨#[]⟩, .int .i64 4] := by
  unfold quoV
  have : quoL s.data.toList = none := by
    rw [← List.take_append_drop k s.data.toList, quoL_app, byl_drop s k hk]
    simp only [quoL, hc]
    cases quoL (s.data.toList.take k) <;> simp
  rw [if_neg h, this]
theorem quo_step {s : ByteArray} {k : Nat} (hk : k < s.size) {q a : List UInt8} (h : quoL (s.data.toList.take k) = some q) (hc : quoC s[k] = some a) : quoL (s.data.toList.take (k + 1)) = some (q ++ a) := by
  rw [byl_take s k hk, quoL_snoc, h, hc]; rfl
theorem quo_end {s : ByteArray} {k : Nat} (hk : s.size ≤ k) {q : List UInt8} (h : quoL (s.data.toList.take k) = some q) : quoL s.data.toList = some q := by
  rw [List.take_of_length_le (by simpa using hk)] at h; exact h
theorem quo_len {s : ByteArray} {k : Nat} (hk : k ≤ 200) {q : List UInt8} (h : quoL (s.data.toList.take k) = some q) : q.length ≤ 400 := by
  have := quoL_len h
  rw [List.length_take] at this
  omega
theorem quoC_q {c : UInt8} (h : c = 34 ∨ c = 92) : quoC c = some [92, c] := by unfold quoC; rw [if_pos h]
theorem quoC_n : quoC 10 = some [92, 110] := by decide
theorem quoC_t : quoC 9 = some [92, 116] := by decide
theorem quoC_ok {c : UInt8} (h1 : c ≠ 34) (h2 : c ≠ 92) (h : 32 ≤ c.toNat) (h' : c.toNat ≤ 126) : quoC c = some [c] := by
  unfold quoC
  rw [if_neg (by simp [h1, h2]), if_neg (by rintro rfl; simp at h), if_neg (by rintro rfl; simp at h), if_pos (by simp [okB, h, h'])]
theorem quoC_no {c : UInt8} (h1 : c ≠ 34) (h2 : c ≠ 92) (h3 : c ≠ 10) (h4 : c ≠ 9) (h : ¬ (32 ≤ c.toNat ∧ c.toNat ≤ 126)) : quoC c = none := by
  unfold quoC
  rw [if_neg (by simp [h1, h2]), if_neg h3, if_neg h4, if_neg (by simpa [okB] using h)]
/-- A byte is one of these. -/
theorem byte_cases (c : UInt8) : c = 34 ∨ c = 92 ∨ c = 10 ∨ c = 9 ∨ (c ≠ 34 ∧ c ≠ 92 ∧ c ≠ 10 ∧ c ≠ 9 ∧ 32 ≤ c.toNat ∧ c.toNat ≤ 126) ∨ (c ≠ 34 ∧ c ≠ 92 ∧ c ≠ 10 ∧ c ≠ 9 ∧ c.toNat < 32) ∨ (c ≠ 34 ∧ c ≠ 92 ∧ c ≠ 10 ∧ c ≠ 9 ∧ 126 < c.toNat) := by
  by_cases h1 : c = 34
  · exact .inl h1
  by_cases h2 : c = 92
  · exact .inr (.inl h2)
  by_cases h3 : c = 10
  · exact .inr (.inr (.inl h3))
  by_cases h4 : c = 9
  · exact .inr (.inr (.inr (.inl h4)))
  by_cases h5 : c.toNat < 32
  · exact .inr (.inr (.inr (.inr (.inr (.inl ⟨h1, h2, h3, h4, h5⟩)))))
  by_cases h6 : 126 < c.toNat
  · exact .inr (.inr (.inr (.inr (.inr (.inr ⟨h1, h2, h3, h4, h6⟩)))))
  · exact .inr (.inr (.inr (.inr (.inl ⟨h1, h2, h3, h4, by omega, by omega⟩))))
/-- What the loop keeps. -/
def Qr (B : Nat) (W : World) (s : ByteArray) (out i : Value) (wr : World) : Prop :=
  ∃ (k : Nat) (q : List UInt8) (A : Option Addr) (c : Nat), i = .int .i64 (k : Int) ∧ k ≤ s.size ∧ quoL (s.data.toList.take k) = some q ∧ out = .slice A (1 + q.length) c ∧ wr.ownsRow B 5 1 out (1 + q.length) (b8 (34 :: q)) ∧ Below B W wr
theorem Qr.step {B : Nat} {W wr w1 : World} {s : ByteArray} {k : Nat} {q a : List UInt8} {A A1 : Option Addr} {c c1 m : Nat} {o : Obj} (hk : k < s.size) (hq : quoL (s.data.toList.take k) = some q) (hc : quoC s[k] = some a) (hown : wr.ownsRow B 5 1 (.slice A (1 + q.length) c) (1 + q.length) (b8 (34 :: q))) (hb : Below B W wr) (hB : B ≤ wr.heap.size) (hm : m = a.length)
    (hown1 : w1.ownsRow B 5 1 (.slice A1 (1 + q.length + m) c1) (1 + q.length + m) (b8 (34 :: q) ++ b8 a)) (hg : (wr.alloc o).grownBy w1 (Value.slice A (1 + q.length) c).ownBlock) :
    Qr B W s (.slice A1 (1 + q.length + m) c1) (.int .i64 ((k : Int) + 1)) w1 := by
  subst hm
  refine ⟨k + 1, q ++ a, A1, c1, by go_num, hk, quo_step hk hq hc, by rw [List.length_append, Nat.add_assoc], ?_, below_grown (hb.alloc hB _) (Nat.le_trans hB (by simp)) (hown.alloc _) (Nat.le_refl _) hg⟩
  rw [List.length_append, ← Nat.add_assoc, ← List.cons_append, b8_app]
  exact hown1
set_option maxHeartbeats 1000000 in
theorem scanQuote_any (s : ByteArray) (hs : s.size ≤ 140737488351232) (w : World) : Calls Try.prog 99 #[.string s] w fun e w' => e = .returned (quoV s) ∧ Below w.heap.size w w' := by
  obtain ⟨i0, hi, hz0, hz1, hz2⟩ := info_parts info_u8
  by_cases hlong : 200 < s.size
  · have HL := Lib.hid (quoV_long hlong)
    go_enter Try.func99, Try.ntmps99
    go_wp2_with fail
    go_returns
    exact ⟨by rw [HL.out]; rfl, Below.refl _ _⟩
  · go_enter Try.func99, Try.ntmps99
    go_wp2_with fail
    go_loopw [4, 5] (fun out i wr => Qr w.heap.size w s out i wr) (fun _ i _ => s.size - (intOf i).toNat)
    case atStart =>
      refine ⟨0, [], _, _, rfl, Nat.zero_le _, rfl, rfl, ?_, al _⟩
      exact World.ownsRow_lit _ _ 1 (Nat.le_refl _) (by unfold maxLen; omega) rfl
    case round =>
      obtain ⟨k, q, A, c, rfl, hk, hq, rfl, hown, hbel⟩ := hrel
      have hql := quo_len (s := s) (k := k) (by omega) hq
      have HQ := Lib.hid hq
      clear hq
      by_cases hlt : k < s.size
      · rcases byte_cases s[k] with hc | hc | hc | hc | ⟨h1, h2, h3, h4, h5, h6⟩ | ⟨h1, h2, h3, h4, h5⟩ | ⟨h1, h2, h3, h4, h5⟩
        · have hT : s[k].toNat = 34 := by rw [hc]; rfl
          have hC := Lib.hid hc
          clear hc
          go_wp2_with (at_builtin; refine wpList_append_rd _ rfl _ _ 162 rfl w.heap.size 5 i0 _ 1 1 Try.underlying162 hi hz0 hz1 hz2 rfl (by omega) _ _ _ rfl (hown.alloc _) _ _ 2 2 _ rfl (Rd.lit _ _ _ 2 1 rfl) (by intro u hu; simp at hu; rcases hu with rfl | rfl <;> rfl) (by unfold maxLen; omega) (by omega) (Nat.le_trans hbel.size (by simp)) ?_; intro A1 c1 w1 hown1 hgrow1 _)
          go_roundw
          case rel => exact Qr.step (a := [92, 34]) hlt HQ.out (by have := hC.out; rw [quoC_q (.inl this), this]) hown hbel hbel.size rfl hown1 hgrow1
          case measure => simp [intOf]; omega
        · have hT : s[k].toNat = 92 := by rw [hc]; rfl
          have hC := Lib.hid hc
          clear hc
          go_wp2_with (at_builtin; refine wpList_append_rd _ rfl _ _ 162 rfl w.heap.size 5 i0 _ 1 1 Try.underlying162 hi hz0 hz1 hz2 rfl (by omega) _ _ _ rfl (hown.alloc _) _ _ 2 2 _ rfl (Rd.lit _ _ _ 2 1 rfl) (by intro u hu; simp at hu; rcases hu with rfl | rfl <;> rfl) (by unfold maxLen; omega) (by omega) (Nat.le_trans hbel.size (by simp)) ?_; intro A1 c1 w1 hown1 hgrow1 _)
          go_roundw
          case rel => exact Qr.step (a := [92, 92]) hlt HQ.out (by have := hC.out; rw [quoC_q (.inr this), this]) hown hbel hbel.size rfl hown1 hgrow1
          case measure => simp [intOf]; omega
        · have hT : s[k].toNat = 10 := by rw [hc]; rfl
          have hC := Lib.hid hc
          clear hc
          go_wp2_with (at_builtin; refine wpList_append_rd _ rfl _ _ 162 rfl w.heap.size 5 i0 _ 1 1 Try.underlying162 hi hz0 hz1 hz2 rfl (by omega) _ _ _ rfl (hown.alloc _) _ _ 2 2 _ rfl (Rd.lit _ _ _ 2 1 rfl) (by intro u hu; simp at hu; rcases hu with rfl | rfl <;> rfl) (by unfold maxLen; omega) (by omega) (Nat.le_trans hbel.size (by simp)) ?_; intro A1 c1 w1 hown1 hgrow1 _)
          go_roundw
          case rel => exact Qr.step (a := [92, 110]) hlt HQ.out (by have := hC.out; rw [this]; exact quoC_n) hown hbel hbel.size rfl hown1 hgrow1
          case measure => simp [intOf]; omega
        · have hT : s[k].toNat = 9 := by rw [hc]; rfl
          have hC := Lib.hid hc
          clear hc
          go_wp2_with (at_builtin; refine wpList_append_rd _ rfl _ _ 162 rfl w.heap.size 5 i0 _ 1 1 Try.underlying162 hi hz0 hz1 hz2 rfl (by omega) _ _ _ rfl (hown.alloc _) _ _ 2 2 _ rfl (Rd.lit _ _ _ 2 1 rfl) (by intro u hu; simp at hu; rcases hu with rfl | rfl <;> rfl) (by unfold maxLen; omega) (by omega) (Nat.le_trans hbel.size (by simp)) ?_; intro A1 c1 w1 hown1 hgrow1 _)
          go_roundw
          case rel => exact Qr.step (a := [92, 116]) hlt HQ.out (by have := hC.out; rw [this]; exact quoC_t) hown hbel hbel.size rfl hown1 hgrow1
          case measure => simp [intOf]; omega
        · have g1 : ((s[k].toNat : Int) == 34) = false := by have := u8_ne h1; simp at this ⊢; omega
          have g2 : ((s[k].toNat : Int) == 92) = false := by have := u8_ne h2; simp at this ⊢; omega
          have g3 : ((s[k].toNat : Int) == 10) = false := by have := u8_ne h3; simp at this ⊢; omega
          have g4 : ((s[k].toNat : Int) == 9) = false := by have := u8_ne h4; simp at this ⊢; omega
          have HC := Lib.hid (quoC_ok h1 h2 h5 h6)
          clear h1 h2 h3 h4
          go_wp2_with (at_builtin; refine wpList_append_rd _ rfl _ _ 162 rfl w.heap.size 5 i0 _ 1 1 Try.underlying162 hi hz0 hz1 hz2 rfl (by omega) _ _ _ rfl (hown.alloc _) _ _ 1 1 [_] rfl (Rd.lit1 _ _ _) (one1 rfl) (by unfold maxLen; omega) (by omega) (Nat.le_trans hbel.size (by simp)) ?_; intro A1 c1 w1 hown1 hgrow1 _)
          go_roundw
          case rel => exact Qr.step (a := [s[k]]) hlt HQ.out HC.out hown hbel hbel.size rfl hown1 hgrow1
          case measure => simp [intOf]; omega
        · have g1 : ((s[k].toNat : Int) == 34) = false := by have := u8_ne h1; simp at this ⊢; omega
          have g2 : ((s[k].toNat : Int) == 92) = false := by have := u8_ne h2; simp at this ⊢; omega
          have g3 : ((s[k].toNat : Int) == 10) = false := by have := u8_ne h3; simp at this ⊢; omega
          have g4 : ((s[k].toNat : Int) == 9) = false := by have := u8_ne h4; simp at this ⊢; omega
          have HC := Lib.hid (quoV_none hlong hlt (quoC_no h1 h2 h3 h4 (by omega)))
          clear h1 h2 h3 h4
          go_wp2_with fail
          go_returns
          exact ⟨by rw [HC.out]; rfl, hbel⟩
        · have g1 : ((s[k].toNat : Int) == 34) = false := by have := u8_ne h1; simp at this ⊢; omega
          have g2 : ((s[k].toNat : Int) == 92) = false := by have := u8_ne h2; simp at this ⊢; omega
          have g3 : ((s[k].toNat : Int) == 10) = false := by have := u8_ne h3; simp at this ⊢; omega
          have g4 : ((s[k].toNat : Int) == 9) = false := by have := u8_ne h4; simp at this ⊢; omega
          have HC := Lib.hid (quoV_none hlong hlt (quoC_no h1 h2 h3 h4 (by omega)))
          clear h1 h2 h3 h4
          go_wp2_with fail
          go_returns
          exact ⟨by rw [HC.out]; rfl, hbel⟩
      · have HE := Lib.hid (quoV_some hlong (quo_end (by omega) HQ.out))
        go_wp2_with (at_builtin; refine wpList_append_rd _ rfl _ _ 162 rfl w.heap.size 5 i0 _ 1 1 Try.underlying162 hi hz0 hz1 hz2 rfl (by omega) _ _ _ rfl (hown.alloc _) _ _ 1 1 [_] rfl (Rd.lit1 _ _ _) (one1 rfl) (by unfold maxLen; omega) (by omega) (Nat.le_trans hbel.size (by simp)) ?_; intro A1 c1 w1 hown1 hgrow1 _)
        have hx := run_str_b8 (P := Try.prog) (c := c1) (l := 34 :: q ++ [34]) (by rw [b8_app]; exact Rd.of_own hown1) 162 5 9 Try.underlying162 Try.underlying5 Try.underlying9
        go_wp2_with (simp only [hx])
        go_returns
        exact ⟨by rw [HE.out]; rfl, below_grown (hbel.alloc hbel.size _) (Nat.le_trans hbel.size (by simp)) (hown.alloc _) (Nat.le_refl _) hgrow1⟩
end Go.Proofs.Ytdpgcojgnehnpaa
