/- The document's 'PanicText': what it answers. Conditions: the value's bulk. -/
import Derived.Test.YtdpgcojgnehnpaaRTx
import Derived.Test.YtdpgcojgnehnpaaDecimal
import Derived.Laws.IdiomStrings
set_option maxRecDepth 20000
namespace Go.Proofs.Ytdpgcojgnehnpaa
open Go.ChangeShapes Go.WideShapes Go.ChangeAt Go.RowKit
/-- Block g begins with these bytes, and they may be written. -/
def BR (w : World) (g : Nat) (l : List UInt8) : Prop := g < w.heap.size ∧ ∀ (j : Nat) (c : UInt8), l[j]? = some c → w.cell? ⟨g, j, none⟩ = some (.int .u8 (c.toNat : Int)) ∧ w.frozen? ⟨g, j, none⟩ = false
theorem BR.set {w : World} {g k : Nat} {l l' : List UInt8} {z : Int} (h : BR w g l) (hk : k < l.length) (hl : ∀ j, j ≠ k → l'[j]? = l[j]?) (hz : ∀ c, l'[k]? = some c → z = (c.toNat : Int)) : BR (w.setCell ⟨g, k, none⟩ (.int .u8 z)) g l' := by
  refine ⟨by simpa using h.1, fun j c hj => ⟨?_, ?_⟩⟩
  · by_cases e : j = k
    · subst e
      rw [World.cell?_setCell_same (w := w) (h := (h.2 j _ (List.getElem?_eq_getElem hk)).1), hz c hj]
    · rw [World.cell?_setCell_other _ _ _ _ (by intro e'; injection e' with _ e'; exact e e'.symm)]
      rw [hl j e] at hj
      exact (h.2 j c hj).1
  · rw [World.frozen?_setCell]
    by_cases e : j = k
    · subst e
      exact (h.2 j _ (List.getElem?_eq_getElem hk)).2
    · rw [hl j e] at hj
      exact (h.2 j c hj).2
theorem BR.rd {w : World} {g : Nat} {l : List UInt8} {n : Nat} (h : BR w g l) (hn : n = l.length) : Rd w w.heap.size 1 (some ⟨g, 0, none⟩) n (b8 l) := by
  subst hn
  refine ⟨by simp, fun _ => ⟨g, 0, rfl, h.1, fun j u hu => ?_⟩⟩
  rw [b8, List.getElem?_map, Option.map_eq_some_iff] at hu
  obtain ⟨c, hc, rfl⟩ := hu
  rw [Nat.zero_add]
  exact (h.2 j c hc).1
theorem BR.new (w : World) (s : ByteArray) (cap : Nat) (e : TypeId) : BR (w.alloc (.cells (bytesRow s cap) e ((bytesRow s cap).size, (bytesRow s cap).size + 1))) w.heap.size s.data.toList := by
  refine ⟨by simp, fun j c hj => ?_⟩
  have hjl : j < s.data.size := by have := (List.getElem?_eq_some_iff.1 hj).1; simpa using this
  have hc : s.data[j] = c := by
    rw [Array.getElem?_toList, Array.getElem?_eq_getElem hjl] at hj
    injection hj
  refine ⟨?_, ?_⟩
  · rw [World.cell?_alloc_mark, bytesRow_at s cap j hjl, hc]
  · rw [World.frozen?_alloc_mark]
    have : j < (bytesRow s cap).size := by
      have h2 : s.data.size ≤ (bytesRow s cap).size := by unfold bytesRow; rw [Array.size_append, Array.size_map]; omega
      omega
    simp; omega
/-- The bytes, mended up to k. -/
def mixL (L : List UInt8) (k : Nat) : List UInt8 := (L.take k).map (mendC []) ++ L.drop k
theorem mixL_len (L : List UInt8) (k : Nat) : (mixL L k).length = L.length := by unfold mixL; simp; omega
theorem mixL_at (L : List UInt8) {k : Nat} (hk : k < L.length) : (mixL L k)[k]? = some L[k] := by
  unfold mixL
  rw [List.getElem?_append_right (by simp; omega), List.length_map, List.length_take, Nat.min_eq_left (by omega), Nat.sub_self, List.getElem?_drop, Nat.add_zero, List.getElem?_eq_getElem hk]
theorem mixL_next (L : List UInt8) {k : Nat} (hk : k < L.length) : mixL L (k + 1) = (mixL L k).set k (mendC [] L[k]) := by
  unfold mixL
  rw [List.set_append_right _ _ (by simp; omega), List.length_map, List.length_take, Nat.min_eq_left (by omega), Nat.sub_self, List.drop_eq_getElem_cons hk, List.set_cons_zero, List.take_succ_eq_append_getElem hk, List.map_append, List.append_assoc]
  rfl
theorem mixL_zero (L : List UInt8) : mixL L 0 = L := by simp [mixL]
theorem mixL_end (L : List UInt8) : mixL L L.length = L.map (mendC []) := by simp [mixL]
set_option maxHeartbeats 1000000 in
theorem refPanicText_err (n : Int) (s : ByteArray) (A : Option Addr) (len c : Nat) (hs : s.size ≤ 1048576) (w : World) :
    Calls Try.prog 147 #[val 5 n s A len c] w fun e w' => e = .returned (.string ⟨(s.data.toList.map (mendC [])).toArray⟩) ∧ Below w.heap.size w w' := by
  have hcv := fun w s => run_bytes_of_string (P := Try.prog) w 9 162 5 s Try.underlying9 Try.underlying162 Try.underlying5
  generalize hL : s.data.toList = L
  have HLs : L.length = s.size := by rw [← hL]; simp
  have HL := Lib.hid hL
  have HS := Lib.hid HLs
  clear hL HLs
  go_enter Try.func147, Try.ntmps147
  go_wp2_with fail
  generalize grownCap _ _ _ _ = cap
  go_loopw [22] (fun i wr => ∃ k : Nat, i = .int .i64 (k : Int) ∧ k ≤ s.size ∧ BR wr (w.heap.size + 1) (mixL L k) ∧ Below w.heap.size w wr) (fun i _ => s.size - (intOf i).toNat)
  case atStart =>
    refine ⟨0, rfl, Nat.zero_le _, ?_, (((al _).drew).alloc (by simp) _)⟩
    rw [mixL_zero, ← HL.out]
    have := BR.new (w.alloc (.cells #[.int .i64 5, .int .i64 n, .string s, .slice A len c] 52)) s cap 5
    simp only [World.size_alloc] at this
    exact ⟨by simp, fun j c hj => this.2 j c hj⟩
  case round =>
    obtain ⟨k, rfl, hk, hbr, hbel⟩ := hrel
    by_cases hlt : k < s.size
    · have hkl : k < L.length := by have := HS.out; omega
      obtain ⟨hc, hf⟩ := hbr.2 k _ (mixL_at L hkl)
      by_cases hok : 32 ≤ L[k].toNat ∧ L[k].toNat ≤ 126
      · obtain ⟨h5, h6⟩ := hok
        have h5' : (32 : Int) ≤ (L[k].toNat : Int) := by omega
        have h6' : (L[k].toNat : Int) ≤ (126 : Int) := by omega
        have HC := Lib.hid (mend_ok (a := []) h5 h6)
        go_wp2_with fail
        refine ⟨⟨k + 1, by go_num, hlt, ?_, hbel⟩, by simp [intOf]; omega⟩
        rw [mixL_next L hkl, HC.out]
        have e : (mixL L k).set k L[k] = mixL L k := by
          apply List.ext_getElem?
          intro j
          rw [List.getElem?_set]
          by_cases hj : k = j
          · subst hj
            rw [if_pos rfl, if_pos (by rw [mixL_len]; exact hkl), mixL_at L hkl]
          · rw [if_neg hj]
        rw [e]
        exact hbr
      · have HC := Lib.hid (mend_no (a := []) hok (by simp))
        have HN := Lib.hid (mixL_next L hkl)
        have hset := fun z (hz : z = 63) => Lib.hid (hbr.set (k := k) (l' := mixL L (k + 1)) (z := z) (by rw [mixL_len]; exact hkl) (fun j hj => by rw [HN.out, List.getElem?_set_ne (fun e => hj e.symm)]) (fun c hc => by
          rw [HN.out, List.getElem?_set_self (by rw [mixL_len]; exact hkl)] at hc
          injection hc with hc
          rw [← hc, HC.out, hz]
          rfl))
        rcases Nat.lt_or_ge L[k].toNat 32 with h32 | h32
        · have h5' : (L[k].toNat : Int) < (32 : Int) := by omega
          clear hok
          go_wp2_with fail
          exact ⟨⟨k + 1, by go_num, hlt, (hset 63 rfl).out, hbel.setCell (Nat.le_succ _) _⟩, by simp [intOf]; omega⟩
        · have h5' : (126 : Int) < (L[k].toNat : Int) := by omega
          clear hok
          go_wp2_with fail
          exact ⟨⟨k + 1, by go_num, hlt, (hset 63 rfl).out, hbel.setCell (Nat.le_succ _) _⟩, by simp [intOf]; omega⟩
    · have hkL : k = L.length := by have := HS.out; omega
      have hx := run_str_b8 (P := Try.prog) (c := cap) (hbr.rd (n := s.size) (by rw [mixL_len]; exact HS.out.symm)) 162 5 9 Try.underlying162 Try.underlying5 Try.underlying9
      have HE := Lib.hid (show mixL L k = L.map (mendC []) by rw [hkL, mixL_end])
      clear hkL
      go_wp2_with fail
      go_ret
      exact ⟨by rw [← HE.out]; rfl, hbel⟩
/-- What the loop of the quoted text keeps. -/
def Pt (B : Nat) (W : World) (s : ByteArray) (out i : Value) (wr : World) : Prop :=
  ∃ (k m : Nat) (A : Option Addr) (c : Nat), i = .int .i64 (k : Int) ∧ k ≤ s.size ∧ m = 1 + ((s.data.toList.take k).flatMap qT).length ∧ out = .slice A m c ∧ wr.ownsRow B 5 1 out m (b8 (34 :: (s.data.toList.take k).flatMap qT)) ∧ Below B W wr
theorem Pt.step {B : Nat} {W wr w1 : World} {s : ByteArray} {k n m : Nat} {a : List UInt8} {A A1 : Option Addr} {c c1 : Nat} {o : Obj} (hk : k < s.size) (hm : m = 1 + ((s.data.toList.take k).flatMap qT).length) (hc : qT s[k] = a) (hown : wr.ownsRow B 5 1 (.slice A m c) m (b8 (34 :: (s.data.toList.take k).flatMap qT))) (hb : Below B W wr) (hB : B ≤ wr.heap.size) (hn : n = a.length)
    (hown1 : w1.ownsRow B 5 1 (.slice A1 (m + n) c1) (m + n) (b8 (34 :: (s.data.toList.take k).flatMap qT) ++ b8 a)) (hg : (wr.alloc o).grownBy w1 (Value.slice A m c).ownBlock) :
    Pt B W s (.slice A1 (m + n) c1) (.int .i64 ((k : Int) + 1)) w1 := by
  subst hn hc
  have e : (s.data.toList.take (k + 1)).flatMap qT = (s.data.toList.take k).flatMap qT ++ qT s[k] := by rw [byl_take s k hk, List.flatMap_append]; simp
  refine ⟨k + 1, m + (qT s[k]).length, A1, c1, by go_num, hk, by rw [e, List.length_append, hm, Nat.add_assoc], rfl, ?_, below_grown (hb.alloc hB _) (Nat.le_trans hB (by simp)) (hown.alloc _) (Nat.le_refl _) hg⟩
  rw [e, ← List.cons_append, b8_app]
  exact hown1
set_option maxHeartbeats 1000000 in
theorem refPanicText_str (n : Int) (s : ByteArray) (A : Option Addr) (len c : Nat) (hs : s.size ≤ 1048576) (w : World) :
    Calls Try.prog 147 #[val 3 n s A len c] w fun e w' => e = .returned (.string (inQ s.data.toList)) ∧ Below w.heap.size w w' := by
  obtain ⟨i0, hi, hz0, hz1, hz2⟩ := info_parts info_u8
  go_enter Try.func147, Try.ntmps147
  go_wp2_with fail
  go_loopw [5, 6] (fun out i wr => Pt (w.heap.size + 1) (w.alloc (.cells #[.int .i64 3, .int .i64 n, .string s, .slice A len c] 52)) s out i wr) (fun _ i _ => s.size - (intOf i).toNat)
  case atStart =>
    refine ⟨0, 1, _, _, rfl, Nat.zero_le _, rfl, rfl, ?_, ?_⟩
    · have h := World.ownsRow_lit (size := 1) (base := w.heap.size + 1) (e := 5) (w.alloc (.cells #[.int .i64 3, .int .i64 n, .string s, .slice A len c] 52)) #[.int .u8 34] 1 (Nat.le_of_eq (World.size_alloc _ _).symm) (by unfold maxLen; omega) rfl
      rw [World.size_alloc] at h
      exact h
    · exact (Below.refl _ _).alloc (Nat.le_of_eq (World.size_alloc _ _).symm) _
  case round =>
    obtain ⟨k, m, A1, c1, rfl, hk, hm, rfl, hown, hbel⟩ := hrel
    have hc2 : wr.cell? ⟨w.heap.size, 2, none⟩ = some (.string s) := (hbel.cell (p := ⟨w.heap.size, 2, none⟩) (Nat.lt_succ_self _)).trans (by simp)
    have hsz := hbel.size
    rw [World.size_alloc] at hsz
    have hml := qT_all_len (s.data.toList.take k)
    rw [List.length_take] at hml
    have hm2 : m ≤ 2097153 := by omega
    have HM := Lib.hid hm
    clear hml hm
    by_cases hlt : k < s.size
    · rcases byte_cases s[k] with hc | hc | hc | hc | ⟨h1, h2, h3, h4, h5, h6⟩ | ⟨h1, h2, h3, h4, h5⟩ | ⟨h1, h2, h3, h4, h5⟩
      · have hT : s[k].toNat = 34 := by rw [hc]; rfl
        have HC := Lib.hid (show qT s[k] = [92, 34] by rw [hc]; rfl)
        clear hc
        go_wp2_with (at_builtin; refine wpList_append_rd _ rfl _ _ 162 rfl (w.heap.size + 1) 5 i0 _ 1 1 Try.underlying162 hi hz0 hz1 hz2 rfl (by omega) _ _ _ rfl (hown.alloc _) _ _ 2 2 _ rfl (Rd.lit _ _ _ 2 1 rfl) (by intro u hu; simp at hu; rcases hu with rfl | rfl <;> rfl) (by unfold maxLen; omega) (by omega) (Nat.le_trans hsz (by simp)) ?_; intro A1 c1 w1 hown1 hgrow1 _)
        go_roundw
        case rel => exact Pt.step hlt HM.out HC.out hown hbel hsz rfl hown1 hgrow1
        case measure => simp [intOf]; omega
      · have hT : s[k].toNat = 92 := by rw [hc]; rfl
        have HC := Lib.hid (show qT s[k] = [92, 92] by rw [hc]; rfl)
        clear hc
        go_wp2_with (at_builtin; refine wpList_append_rd _ rfl _ _ 162 rfl (w.heap.size + 1) 5 i0 _ 1 1 Try.underlying162 hi hz0 hz1 hz2 rfl (by omega) _ _ _ rfl (hown.alloc _) _ _ 2 2 _ rfl (Rd.lit _ _ _ 2 1 rfl) (by intro u hu; simp at hu; rcases hu with rfl | rfl <;> rfl) (by unfold maxLen; omega) (by omega) (Nat.le_trans hsz (by simp)) ?_; intro A1 c1 w1 hown1 hgrow1 _)
        go_roundw
        case rel => exact Pt.step hlt HM.out HC.out hown hbel hsz rfl hown1 hgrow1
        case measure => simp [intOf]; omega
      · have hT : s[k].toNat = 10 := by rw [hc]; rfl
        have HC := Lib.hid (show qT s[k] = [92, 110] by rw [hc]; rfl)
        clear hc
        go_wp2_with (at_builtin; refine wpList_append_rd _ rfl _ _ 162 rfl (w.heap.size + 1) 5 i0 _ 1 1 Try.underlying162 hi hz0 hz1 hz2 rfl (by omega) _ _ _ rfl (hown.alloc _) _ _ 2 2 _ rfl (Rd.lit _ _ _ 2 1 rfl) (by intro u hu; simp at hu; rcases hu with rfl | rfl <;> rfl) (by unfold maxLen; omega) (by omega) (Nat.le_trans hsz (by simp)) ?_; intro A1 c1 w1 hown1 hgrow1 _)
        go_roundw
        case rel => exact Pt.step hlt HM.out HC.out hown hbel hsz rfl hown1 hgrow1
        case measure => simp [intOf]; omega
      · have hT : s[k].toNat = 9 := by rw [hc]; rfl
        have HC := Lib.hid (show qT s[k] = [92, 116] by rw [hc]; rfl)
        clear hc
        go_wp2_with (at_builtin; refine wpList_append_rd _ rfl _ _ 162 rfl (w.heap.size + 1) 5 i0 _ 1 1 Try.underlying162 hi hz0 hz1 hz2 rfl (by omega) _ _ _ rfl (hown.alloc _) _ _ 2 2 _ rfl (Rd.lit _ _ _ 2 1 rfl) (by intro u hu; simp at hu; rcases hu with rfl | rfl <;> rfl) (by unfold maxLen; omega) (by omega) (Nat.le_trans hsz (by simp)) ?_; intro A1 c1 w1 hown1 hgrow1 _)
        go_roundw
        case rel => exact Pt.step hlt HM.out HC.out hown hbel hsz rfl hown1 hgrow1
        case measure => simp [intOf]; omega
      · have g1 : ((s[k].toNat : Int) == 34) = false := by have := u8_ne h1; simp at this ⊢; omega
        have g2 : ((s[k].toNat : Int) == 92) = false := by have := u8_ne h2; simp at this ⊢; omega
        have g3 : ((s[k].toNat : Int) == 10) = false := by have := u8_ne h3; simp at this ⊢; omega
        have g4 : ((s[k].toNat : Int) == 9) = false := by have := u8_ne h4; simp at this ⊢; omega
        have HC := Lib.hid (qT_ok h1 h2 h5 h6)
        have h5' : (32 : Int) ≤ (s[k].toNat : Int) := by omega
        have h6' : (s[k].toNat : Int) ≤ (126 : Int) := by omega
        clear h1 h2 h3 h4
        go_wp2_with (at_builtin; refine wpList_append_rd _ rfl _ _ 162 rfl (w.heap.size + 1) 5 i0 _ 1 1 Try.underlying162 hi hz0 hz1 hz2 rfl (by omega) _ _ _ rfl (hown.alloc _) _ _ 1 1 [_] rfl (Rd.lit1 _ _ _) (one1 rfl) (by unfold maxLen; omega) (by omega) (Nat.le_trans hsz (by simp)) ?_; intro A1 c1 w1 hown1 hgrow1 _)
        go_roundw
        case rel => exact Pt.step (a := [s[k]]) hlt HM.out HC.out hown hbel hsz rfl hown1 hgrow1
        case measure => simp [intOf]; omega
      · have g1 : ((s[k].toNat : Int) == 34) = false := by have := u8_ne h1; simp at this ⊢; omega
        have g2 : ((s[k].toNat : Int) == 92) = false := by have := u8_ne h2; simp at this ⊢; omega
        have g3 : ((s[k].toNat : Int) == 10) = false := by have := u8_ne h3; simp at this ⊢; omega
        have g4 : ((s[k].toNat : Int) == 9) = false := by have := u8_ne h4; simp at this ⊢; omega
        have HC := Lib.hid (qT_no h1 h2 h3 h4 (by omega))
        have h5' : (s[k].toNat : Int) < (32 : Int) := by omega
        clear h1 h2 h3 h4
        go_wp2_with (at_builtin; refine wpList_append_rd _ rfl _ _ 162 rfl (w.heap.size + 1) 5 i0 _ 1 1 Try.underlying162 hi hz0 hz1 hz2 rfl (by omega) _ _ _ rfl (hown.alloc _) _ _ 1 1 [_] rfl (Rd.lit1 _ _ _) (one1 rfl) (by unfold maxLen; omega) (by omega) (Nat.le_trans hsz (by simp)) ?_; intro A1 c1 w1 hown1 hgrow1 _)
        go_roundw
        case rel => exact Pt.step (a := [63]) hlt HM.out HC.out hown hbel hsz rfl hown1 hgrow1
        case measure => simp [intOf]; omega
      · have g1 : ((s[k].toNat : Int) == 34) = false := by have := u8_ne h1; simp at this ⊢; omega
        have g2 : ((s[k].toNat : Int) == 92) = false := by have := u8_ne h2; simp at this ⊢; omega
        have g3 : ((s[k].toNat : Int) == 10) = false := by have := u8_ne h3; simp at this ⊢; omega
        have g4 : ((s[k].toNat : Int) == 9) = false := by have := u8_ne h4; simp at this ⊢; omega
        have HC := Lib.hid (qT_no h1 h2 h3 h4 (by omega))
        have h5' : (126 : Int) < (s[k].toNat : Int) := by omega
        clear h1 h2 h3 h4
        go_wp2_with (at_builtin; refine wpList_append_rd _ rfl _ _ 162 rfl (w.heap.size + 1) 5 i0 _ 1 1 Try.underlying162 hi hz0 hz1 hz2 rfl (by omega) _ _ _ rfl (hown.alloc _) _ _ 1 1 [_] rfl (Rd.lit1 _ _ _) (one1 rfl) (by unfold maxLen; omega) (by omega) (Nat.le_trans hsz (by simp)) ?_; intro A1 c1 w1 hown1 hgrow1 _)
        go_roundw
        case rel => exact Pt.step (a := [63]) hlt HM.out HC.out hown hbel hsz rfl hown1 hgrow1
        case measure => simp [intOf]; omega
    · have hks : k = s.size := by omega
      have hl : s.data.toList.take k = s.data.toList := List.take_of_length_le (by simp; omega)
      rw [hl] at hown
      clear hks hl
      go_wp2_with (at_builtin; refine wpList_append_rd _ rfl _ _ 162 rfl (w.heap.size + 1) 5 i0 _ 1 1 Try.underlying162 hi hz0 hz1 hz2 rfl (by omega) _ _ _ rfl (hown.alloc _) _ _ 1 1 [_] rfl (Rd.lit1 _ _ _) (one1 rfl) (by unfold maxLen; omega) (by omega) (Nat.le_trans hsz (by simp)) ?_; intro A1 c1 w1 hown1 hgrow1 _)
      have hx := run_str_b8 (P := Try.prog) (c := c1) (l := 34 :: s.data.toList.flatMap qT ++ [34]) (by rw [b8_app]; exact Rd.of_own hown1) 162 5 9 Try.underlying162 Try.underlying5 Try.underlying9
      go_wp2_with (simp only [hx])
      go_ret
      exact ⟨rfl, (al _).trans ((below_grown (hbel.alloc hsz _) (Nat.le_trans hsz (by simp)) (hown.alloc _) (Nat.le_refl _) hgrow1).mono (Nat.le_succ _))⟩
theorem refPanicText_any (x : VV) (A : Option Addr) (c : Nat) (w : World) (hn : -9223372036854775808 ≤ x.n ∧ x.n ≤ 9223372036854775807) (hb : x.bulk ≤ 1048576) :
    Calls Try.prog 147 #[val x.k x.n x.s A x.l.length c] w fun e w' => e = .returned (.string (textS x)) ∧ Below w.heap.size w w' := by
  unfold VV.bulk at hb
  by_cases h1 : x.k = 1
  · have HS := Lib.hid (textS_1 h1)
    rw [h1]
    clear h1
    go_enter Try.func147, Try.ntmps147
    go_wp2_with fail
    refine (refDecimal_any _ hn _).mono ?_
    rintro e w1 ⟨rfl, hb1⟩
    go_wp2_with fail
    go_ret
    exact ⟨by rw [HS.out]; rfl, sq (al _) hb1⟩
  by_cases h3 : x.k = 3
  · rw [textS_3 h3, h3]
    exact refPanicText_str _ _ _ _ _ (by omega) w
  by_cases h5 : x.k = 5
  · rw [textS_5 h5, h5]
    exact refPanicText_err _ _ _ _ _ (by omega) w
  have g1 := no_test h1
  have g3 := no_test h3
  have g5 := no_test h5
  have HS := Lib.hid (textS_no h1 h3 h5)
  clear h1 h3 h5
  go_enter Try.func147, Try.ntmps147
  go_wp2_with fail
  go_ret
  exact ⟨by rw [HS.out]; rfl, al _⟩
end Go.Proofs.Ytdpgcojgnehnpaa
