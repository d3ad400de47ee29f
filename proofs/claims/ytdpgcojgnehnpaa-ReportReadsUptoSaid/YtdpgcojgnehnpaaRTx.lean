/- 'report.Text': what it answers. Conditions: the value's bulk. -/
import Derived.Test.YtdpgcojgnehnpaaTextP
import Derived.Test.YtdpgcojgnehnpaaShelf
import Derived.Test.YtdpgcojgnehnpaaCut
import Derived.Test.YtdpgcojgnehnpaaOpValue
set_option maxRecDepth 20000
namespace Go.Proofs.Ytdpgcojgnehnpaa
open Go.ChangeShapes Go.WideShapes Go.ChangeAt Go.RowKit
theorem indexByte_no : ∀ {l : List UInt8} {c : UInt8}, c ∉ l → Lib.indexByte l c = -1
  | [], _, _ => rfl
  | b :: l, c, h => by
    have h1 : (b == c) = false := by simp; rintro rfl; simp at h
    have h2 := indexByte_no (l := l) (c := c) (fun hm => h (List.mem_cons_of_mem _ hm))
    simp [Lib.indexByte, h1, h2]
theorem indexByte_in : ∀ {l : List UInt8} {c : UInt8}, c ∈ l → 0 ≤ Lib.indexByte l c
  | b :: l, c, h => by
    by_cases h1 : b = c
    · simp [Lib.indexByte, h1]
    · have h2 : c ∈ l := by rcases List.mem_cons.1 h with rfl | h; exact absurd rfl h1; exact h
      have h3 := indexByte_in h2
      have h4 : (b == c) = false := by simp [h1]
      simp only [Lib.indexByte, h4, Bool.false_eq_true, if_false]
      split <;> simp_all <;> omega
theorem u8_back (c : UInt8) : ((c.toNat : Int)).toNat.toUInt8 = c := by simp
/-- What the loop of 'mended' keeps. -/
def Md (B : Nat) (W : World) (s : ByteArray) (al : List UInt8) (out i : Value) (wr : World) : Prop :=
  ∃ (k : Nat) (A : Option Addr) (c : Nat), i = .int .i64 (k : Int) ∧ k ≤ s.size ∧ out = .slice A k c ∧ wr.ownsRow B 5 1 out k (b8 ((s.data.toList.take k).map (mendC al))) ∧ Below B W wr
theorem Md.step {B : Nat} {W wr w1 : World} {s : ByteArray} {al : List UInt8} {k : Nat} {A A1 : Option Addr} {c c1 : Nat} {o : Obj} {z : Int} (hk : k < s.size) (hz : z = (mendC al s[k]).toNat) (hown : wr.ownsRow B 5 1 (.slice A k c) k (b8 ((s.data.toList.take k).map (mendC al)))) (hb : Below B W wr) (hB : B ≤ wr.heap.size)
    (hown1 : w1.ownsRow B 5 1 (.slice A1 (k + 1) c1) (k + 1) (b8 ((s.data.toList.take k).map (mendC al)) ++ [.int .u8 z])) (hg : (wr.alloc o).grownBy w1 (Value.slice A k c).ownBlock) :
    Md B W s al (.slice A1 (k + 1) c1) (.int .i64 ((k : Int) + 1)) w1 := by
  subst hz
  refine ⟨k + 1, A1, c1, by go_num, hk, rfl, ?_, below_grown (hb.alloc hB _) (Nat.le_trans hB (by simp)) (hown.alloc _) (Nat.le_refl _) hg⟩
  rw [byl_take s k hk, List.map_append, b8_app]
  exact hown1
set_option maxHeartbeats 1000000 in
theorem mended_any (s al : ByteArray) (hs : s.size ≤ 140737488351232) (w : World) : Calls Try.prog 203 #[.string s, .string al] w fun e w' => ∃ A c, e = .returned (.slice A s.size c) ∧ w'.ownsRow w.heap.size 5 1 (.slice A s.size c) s.size (b8 (s.data.toList.map (mendC al.data.toList))) ∧ Below w.heap.size w w' := by
  obtain ⟨i0, hi, hz0, hz1, hz2⟩ := info_parts info_u8
  go_enter Try.func203, Try.ntmps203
  go_wp2_with fail
  go_loopw [5, 6] (fun out i wr => Md w.heap.size w s al.data.toList out i wr) (fun _ i _ => s.size - (intOf i).toNat)
  case atStart => exact ⟨0, none, 0, rfl, Nat.zero_le _, rfl, World.ownsRow_nil _ _ _ _, Below.refl _ _⟩
  case round =>
    obtain ⟨k, A, c, rfl, hk, rfl, hown, hbel⟩ := hrel
    by_cases hlt : k < s.size
    · by_cases hok : 32 ≤ s[k].toNat ∧ s[k].toNat ≤ 126
      · obtain ⟨h5, h6⟩ := hok
        have h5' : (32 : Int) ≤ (s[k].toNat : Int) := by omega
        have h6' : (s[k].toNat : Int) ≤ (126 : Int) := by omega
        have HC := Lib.hid (mend_ok (a := al.data.toList) h5 h6)
        go_wp2_with (at_builtin; refine wpList_append_rd _ rfl _ _ 162 rfl w.heap.size 5 i0 _ 1 1 Try.underlying162 hi hz0 hz1 hz2 rfl (by omega) _ _ _ rfl (hown.alloc _) _ _ 1 1 [_] rfl (Rd.lit1 _ _ _) (one1 rfl) (by unfold maxLen; omega) (by omega) (Nat.le_trans hbel.size (by simp)) ?_; intro A1 c1 w1 hown1 hgrow1 _)
        go_roundw
        case rel => exact Md.step hlt (by rw [HC.out]) hown hbel hbel.size hown1 hgrow1
        case measure => simp [intOf]; omega
      · by_cases hin : s[k] ∈ al.data.toList
        · have HI := indexByte_in hin
          have HC := Lib.hid (mend_in hin)
          have HB := u8_back s[k]
          rcases Nat.lt_or_ge s[k].toNat 32 with h32 | h32
          · have h5' : (s[k].toNat : Int) < (32 : Int) := by omega
            clear hin hok
            go_wp2_with (first
              | (go_at_call 189; refine (Try.strings_IndexByte _ _ _).mono ?_; rintro e w1 ⟨rfl, rfl⟩; rw [HB])
              | (at_builtin; refine wpList_append_rd _ rfl _ _ 162 rfl w.heap.size 5 i0 _ 1 1 Try.underlying162 hi hz0 hz1 hz2 rfl (by omega) _ _ _ rfl (hown.alloc _) _ _ 1 1 [_] rfl (Rd.lit1 _ _ _) (one1 rfl) (by unfold maxLen; omega) (by omega) (Nat.le_trans hbel.size (by simp)) ?_; intro A1 c1 w1 hown1 hgrow1 _))
            go_roundw
            case rel => exact Md.step hlt (by rw [HC.out]) hown hbel hbel.size hown1 hgrow1
            case measure => simp [intOf]; omega
          · have h5' : (126 : Int) < (s[k].toNat : Int) := by omega
            clear hin hok
            go_wp2_with (first
              | (go_at_call 189; refine (Try.strings_IndexByte _ _ _).mono ?_; rintro e w1 ⟨rfl, rfl⟩; rw [HB])
              | (at_builtin; refine wpList_append_rd _ rfl _ _ 162 rfl w.heap.size 5 i0 _ 1 1 Try.underlying162 hi hz0 hz1 hz2 rfl (by omega) _ _ _ rfl (hown.alloc _) _ _ 1 1 [_] rfl (Rd.lit1 _ _ _) (one1 rfl) (by unfold maxLen; omega) (by omega) (Nat.le_trans hbel.size (by simp)) ?_; intro A1 c1 w1 hown1 hgrow1 _))
            go_roundw
            case rel => exact Md.step hlt (by rw [HC.out]) hown hbel hbel.size hown1 hgrow1
            case measure => simp [intOf]; omega
        · have HI := indexByte_no hin
          have HC := Lib.hid (mend_no hok hin)
          have HB := u8_back s[k]
          rcases Nat.lt_or_ge s[k].toNat 32 with h32 | h32
          · have h5' : (s[k].toNat : Int) < (32 : Int) := by omega
            clear hin hok
            go_wp2_with (first
              | (go_at_call 189; refine (Try.strings_IndexByte _ _ _).mono ?_; rintro e w1 ⟨rfl, rfl⟩; rw [HB, HI])
              | (at_builtin; refine wpList_append_rd _ rfl _ _ 162 rfl w.heap.size 5 i0 _ 1 1 Try.underlying162 hi hz0 hz1 hz2 rfl (by omega) _ _ _ rfl (hown.alloc _) _ _ 1 1 [_] rfl (Rd.lit1 _ _ _) (one1 rfl) (by unfold maxLen; omega) (by omega) (Nat.le_trans hbel.size (by simp)) ?_; intro A1 c1 w1 hown1 hgrow1 _))
            go_roundw
            case rel => exact Md.step hlt (by rw [HC.out]; rfl) hown hbel hbel.size hown1 hgrow1
            case measure => simp [intOf]; omega
          · have h5' : (126 : Int) < (s[k].toNat : Int) := by omega
            clear hin hok
            go_wp2_with (first
              | (go_at_call 189; refine (Try.strings_IndexByte _ _ _).mono ?_; rintro e w1 ⟨rfl, rfl⟩; rw [HB, HI])
              | (at_builtin; refine wpList_append_rd _ rfl _ _ 162 rfl w.heap.size 5 i0 _ 1 1 Try.underlying162 hi hz0 hz1 hz2 rfl (by omega) _ _ _ rfl (hown.alloc _) _ _ 1 1 [_] rfl (Rd.lit1 _ _ _) (one1 rfl) (by unfold maxLen; omega) (by omega) (Nat.le_trans hbel.size (by simp)) ?_; intro A1 c1 w1 hown1 hgrow1 _))
            go_roundw
            case rel => exact Md.step hlt (by rw [HC.out]; rfl) hown hbel hbel.size hown1 hgrow1
            case measure => simp [intOf]; omega
    · have hks : k = s.size := by omega
      subst hks
      rw [List.take_of_length_le (by simp)] at hown
      go_wp2_with fail
      go_ret
      exact ⟨A, c, rfl, hown, hbel⟩
theorem mend_any (s al : ByteArray) (hs : s.size ≤ 140737488351232) (w : World) : Calls Try.prog 191 #[.string s, .string al] w fun e w' => e = .returned (.string ⟨(s.data.toList.map (mendC al.data.toList)).toArray⟩) ∧ Below w.heap.size w w' := by
  go_enter Try.func191, Try.ntmps191
  go_wp2_with fail
  refine (mended_any s al hs _).mono ?_
  rintro e w1 ⟨A, c, rfl, hown, hb⟩
  have hx := run_str_b8 (P := Try.prog) (c := c) (Rd.of_own hown) 162 5 9 Try.underlying162 Try.underlying5 Try.underlying9
  go_wp2_with fail
  go_ret
  exact ⟨rfl, hb⟩

def strLen : Value → Nat | .string s => s.size | _ => 0
def Qd (L : List UInt8) (s out : Value) : Prop :=
  ∃ (k : Nat) (T O : ByteArray), k ≤ L.length ∧ s = .string T ∧ T = ⟨((L.drop k).map (mendC [10, 9])).toArray⟩ ∧ out = .string O ∧ O = ⟨(34 :: (L.take k).flatMap qT).toArray⟩
theorem mk_size (l : List UInt8) : (ByteArray.mk l.toArray).size = l.length := by show l.toArray.size = _; simp
theorem ba_ext {a b : ByteArray} (h : a.data.toList = b.data.toList) : a = b := ByteArray.ext (Array.ext' h)
theorem quo_chunk (l : List UInt8) (h : l.length ≤ 200) : quoV ⟨(l.map (mendC [10, 9])).toArray⟩ = .tuple #[.string ⟨(34 :: l.flatMap qT ++ [34]).toArray⟩, .int .i64 0] :=
  quoV_some (by rw [mk_size]; simp; omega) (by simpa using quoL_mend l)
set_option maxHeartbeats 1000000 in
theorem quoted_any (s : ByteArray) (hs : s.size ≤ 1048576) (w : World) : Calls Try.prog 190 #[.string s] w fun e w' => e = .returned (.string (inQ s.data.toList)) ∧ Below w.heap.size w w' := by
  generalize hL : s.data.toList = L
  have HLs : L.length = s.size := by rw [← hL]; simp
  have HL := Lib.hid hL
  clear hL
  go_enter Try.func190, Try.ntmps190
  go_wp2_with fail
  refine (mend_any s ⟨#[10, 9]⟩ (by omega) _).mono ?_
  rintro e w1 ⟨rfl, hb⟩
  rw [HL.out]
  go_wp2_with fail
  go_loopw [0, 3] (fun t out wr => Qd L t out ∧ Below w.heap.size w wr) (fun t _ _ => strLen t)
  case atStart => exact ⟨⟨0, _, _, Nat.zero_le _, rfl, rfl, rfl, rfl⟩, hb⟩
  case round =>
    obtain ⟨⟨k, T, O, hk, rfl, hT, rfl, hO⟩, hbel⟩ := hrel
    obtain ⟨N, hN⟩ : ∃ N, N + k = L.length := ⟨L.length - k, by omega⟩
    have hTs : T.size = N := by rw [hT, mk_size]; simp; omega
    have hOs : O.size ≤ 2097153 := by
      rw [hO, mk_size]
      have := qT_all_len (L.take k)
      rw [List.length_take] at this
      simp only [List.length_cons]
      omega
    have HT := Lib.hid hT
    have HO := Lib.hid hO
    have HS := Lib.hid HLs
    have hN2 : N ≤ 1048576 := by omega
    clear hT hO hb HLs
    rcases Nat.eq_zero_or_pos N with h0 | hpos
    · have he : T.toList.isEmpty = true := by
        rw [List.isEmpty_iff_length_eq_zero, ByteArray.toList_eq]
        have : T.data.toList.length = T.size := by simp
        omega
      have HE := Lib.hid (show O ++ ⟨#[34]⟩ = inQ L by
        rw [HO.out, List.take_of_length_le (by omega)]
        exact mk_app' (34 :: L.flatMap qT) [34])
      go_wp2_with fail
      go_ret
      exact ⟨by rw [← HE.out]; rfl, hbel⟩
    · have he : T.toList.isEmpty = false := by
        rw [← Bool.not_eq_true, List.isEmpty_iff_length_eq_zero, ByteArray.toList_eq]
        have : T.data.toList.length = T.size := by simp
        omega
      obtain ⟨m, hm, hm1, hm2, hm3⟩ : ∃ m : Nat, min (N : Int) 200 = (m : Int) ∧ m ≤ N ∧ m ≤ 200 ∧ 0 < m := ⟨min N 200, by omega, by omega, by omega, by omega⟩
      have hX : T.extract 0 m = ⟨(((L.drop k).take m).map (mendC [10, 9])).toArray⟩ := by
        rw [extract_list, HT.out, List.map_take]
        simp
      have hR : T.extract m N = ⟨((L.drop (k + m)).map (mendC [10, 9])).toArray⟩ := by
        rw [extract_list, HT.out]
        rw [List.take_of_length_le (by simp; omega)]
        simp [List.drop_drop]
      have hQ := quo_chunk ((L.drop k).take m) (by rw [List.length_take]; omega)
      rw [← hX] at hQ
      have hXs : (T.extract 0 m).size = m := by rw [hX, mk_size]; simp; omega
      have hXl : (L.take (k + m)).flatMap qT = (L.take k).flatMap qT ++ ((L.drop k).take m).flatMap qT := by rw [List.take_add, List.flatMap_append]
      have hfl := qT_all_len ((L.drop k).take m)
      rw [List.length_take] at hfl
      generalize ((L.drop k).take m).flatMap qT = F at *
      have hQs : (⟨(34 :: F ++ [34]).toArray⟩ : ByteArray).size = F.length + 2 := by rw [mk_size]; simp
      have hQe : (⟨(34 :: F ++ [34]).toArray⟩ : ByteArray).extract 1 (F.length + 1) = ⟨F.toArray⟩ := by
        rw [extract_list]
        simp
      generalize (⟨(34 :: F ++ [34]).toArray⟩ : ByteArray) = Q at *
      have HX := Lib.hid hXl
      have HR := Lib.hid hR
      have HQ := Lib.hid hQ
      have hfl2 : F.length ≤ 400 := by omega
      clear hXl hR hQ hX hfl
      go_wp2_with fail
      refine (scanQuote_any _ (by rw [hXs]; omega) _).mono ?_
      rintro e w2 ⟨rfl, hb2⟩
      rw [HQ.out]
      go_wp2_with fail
      refine ⟨⟨⟨k + m, _, _, by omega, rfl, HR.out, rfl, by rw [HO.out, mk_app', HX.out]; rfl⟩, below_more hbel hb2⟩, ?_⟩
      show (T.extract m N).size < T.size
      rw [HR.out, mk_size, hTs]
      simp
      omega
theorem textS_1 {x : VV} (h : x.k = 1) : textS x = decS x.n := by unfold textS; rw [if_pos h]
theorem textS_3 {x : VV} (h : x.k = 3) : textS x = inQ x.s.data.toList := by unfold textS; rw [if_neg (by omega), if_pos h]
theorem textS_5 {x : VV} (h : x.k = 5) : textS x = ⟨(x.s.data.toList.map (mendC [])).toArray⟩ := by unfold textS; rw [if_neg (by omega), if_neg (by omega), if_pos h]
theorem textS_no {x : VV} (h1 : x.k ≠ 1) (h3 : x.k ≠ 3) (h5 : x.k ≠ 5) : textS x = ⟨#[63]⟩ := by unfold textS; rw [if_neg h1, if_neg h3, if_neg h5]
theorem no_test {a b : Int} (h : a ≠ b) : (a == b) = false := by simp [h]
theorem reportText_any (x : VV) (A : Option Addr) (c : Nat) (w : World) (hn : -9223372036854775808 ≤ x.n ∧ x.n ≤ 9223372036854775807) (hb : x.bulk ≤ 1048576) :
    Calls Try.prog 142 #[val x.k x.n x.s A x.l.length c] w fun e w' => e = .returned (.string (textS x)) ∧ Below w.heap.size w w' := by
  unfold VV.bulk at hb
  by_cases h1 : x.k = 1
  · have HS := Lib.hid (textS_1 h1)
    rw [h1]
    clear h1
    go_enter Try.func142, Try.ntmps142
    go_wp2_with fail
    refine (wordText_any _ hn _).mono ?_
    rintro e w1 ⟨rfl, hb1⟩
    go_wp2_with fail
    go_ret
    exact ⟨by rw [HS.out]; rfl, sq (al _) hb1⟩
  have g1 := no_test h1
  by_cases h3 : x.k = 3
  · have HS := Lib.hid (textS_3 h3)
    rw [h3]
    clear h3 g1 h1
    go_enter Try.func142, Try.ntmps142
    go_wp2_with fail
    refine (quoted_any _ (by omega) _).mono ?_
    rintro e w1 ⟨rfl, hb1⟩
    go_wp2_with fail
    go_ret
    exact ⟨by rw [HS.out]; rfl, sq (al _) hb1⟩
  have g3 := no_test h3
  by_cases h5 : x.k = 5
  · have HS := Lib.hid (textS_5 h5)
    rw [h5]
    clear h5 g1 g3 h1 h3
    go_enter Try.func142, Try.ntmps142
    go_wp2_with fail
    refine (mend_any _ ⟨#[]⟩ (by omega) _).mono ?_
    rintro e w1 ⟨rfl, hb1⟩
    go_wp2_with fail
    go_ret
    exact ⟨by rw [HS.out]; rfl, sq (al _) hb1⟩
  have g5 := no_test h5
  have HS := Lib.hid (textS_no h1 h3 h5)
  clear h1 h3 h5
  go_enter Try.func142, Try.ntmps142
  go_wp2_with fail
  go_ret
  exact ⟨by rw [HS.out]; rfl, al _⟩
end Go.Proofs.Ytdpgcojgnehnpaa
