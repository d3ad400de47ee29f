/- 'value.Show': what it answers. Conditions: the value's bulk. -/
import Derived.Test.YtkkehbfceabhmaaShowP
import Derived.Test.YtkkehbfceabhmaaShelf
import Derived.Test.YtkkehbfceabhmaaCut
import Derived.Test.YtkkehbfceabhmaaOpValue
import Derived.Test.YtkkehbfceabhmaaOwn
set_option maxRecDepth 20000
namespace Go.Proofs.Ytkkehbfceabhmaa
open Go.ChangeShapes Go.WideShapes Go.ChangeAt Go.RowKit
theorem join_texts (l : List Int) : (Lib.join ((l.map decS).map (·.data.toList)) (⟨#[32]⟩ : ByteArray).data.toList) = numsB l := by
  unfold numsB dB
  rw [List.map_map]; rfl
theorem cellI {w : World} {B n : Nat} {A : Option Addr} {zs : List Int} (h : Rd w B 1 A n (zs.map (Value.int .i64))) {k : Nat} (hk : k < n) :
    ∃ b off, A = some ⟨b, off, none⟩ ∧ b < B ∧ w.cell? ⟨b, off + k, none⟩ = some (.int .i64 (zs.getD k 0)) := by
  obtain ⟨b, off, u, e, hb, hu, hc⟩ := h.at1 hk
  rw [List.getElem?_map, Option.map_eq_some_iff] at hu
  obtain ⟨z, hz1, rfl⟩ := hu
  exact ⟨b, off, e, hb, by rw [hc]; simp [List.getD, hz1]⟩
set_option maxHeartbeats 1000000 in
theorem valueShow_list (n : Int) (s : ByteArray) (l : List Int) (A : Option Addr) (c : Nat) (w : World) (h : Rd w w.heap.size 1 A l.length (l.map (Value.int .i64))) (hz : ∀ z ∈ l, -9223372036854775808 ≤ z ∧ z ≤ 9223372036854775807) (hb : l.length ≤ 1048576) :
    Calls Try.prog 25 #[val 6 n s A l.length c] w fun e w' => e = .returned (.string ⟨(91 :: numsB l ++ [93]).toArray⟩) ∧ Below w.heap.size w w' := by
  obtain ⟨i0, hi, hz0, hz1, hz2⟩ := info_parts info_str
  have HZ := Lib.hid hz
  clear hz
  generalize hN : l.length = N at *
  have HN := Lib.hid hN
  clear hN
  go_enter Try.func25, Try.ntmps25
  go_wp2_with fail
  go_loopw [3, 30] (fun lv i wr => ∃ (k : Nat) (A' : Option Addr) (c' : Nat), k ≤ N ∧ i = .int .i64 k ∧ lv = .slice A' k c' ∧ wr.ownsRow w.heap.size 9 1 (.slice A' k c') k (((l.take k).map decS).map Value.string) ∧ Below w.heap.size w wr) (fun _ i _ => N - (intOf i).toNat)
  case atStart => exact ⟨0, none, 0, Nat.zero_le _, rfl, rfl, World.ownsRow_nil _ _ _ _, al _⟩
  case round =>
    obtain ⟨k, A', c', hk, rfl, rfl, hown, hbel⟩ := hrel
    by_cases hlt : k < N
    · obtain ⟨b, off, rfl, hb', hc1⟩ := cellI h hlt
      have hc2 := (hbel.cell (p := ⟨b, off + k, none⟩) hb').trans hc1
      have hzk := HZ.out (l.getD k 0) (by
        rw [List.getD_eq_getElem?_getD, List.getElem?_eq_getElem (by have := HN.out; omega)]
        exact List.getElem_mem _)
      have hg := Lib.hid (show l[k]? = some (l.getD k 0) by rw [List.getD_eq_getElem?_getD, List.getElem?_eq_getElem (by have := HN.out; omega)]; rfl)
      generalize l.getD k 0 = z at *
      have HZk := Lib.hid hzk
      clear hzk hc1
      go_wp2_with fail
      refine (wordText_any z HZk.out _).mono ?_
      rintro e w1 ⟨rfl, hb1⟩
      replace hown := own_kept hown hb1
      replace hbel := below_more hbel hb1
      clear hb1
      go_wp2_with ((at_builtin; refine wpList_append_rd _ rfl _ _ 50 rfl w.heap.size 9 i0 _ 1 16 Try.underlying50 hi hz0 hz1 hz2 rfl (by omega) _ _ _ rfl (hown.alloc _) _ _ 1 1 [_] rfl (Rd.lit1 _ _ _) (one1 rfl) (by unfold maxLen; omega) (by omega) (by have := hbel.size; simp; omega) ?_; intro A1 c1 w2 hown1 hg1 hat1))
      go_roundw
      case rel =>
        refine ⟨k + 1, A1, c1, by omega, by go_num, rfl, ?_, (hbel.alloc hbel.size _).grown hg1 (by have := hbel.size; simp; omega) (fun q hq => (hown.lt q hq).1)⟩
        have e : ((List.take (k + 1) l).map decS).map Value.string = ((List.take k l).map decS).map Value.string ++ [.string (decS z)] := by
          rw [List.take_add_one, hg.out]; simp
        rw [e]
        exact hown1
      case measure => simp [intOf]; omega
    · obtain rfl : k = N := by omega
      have ht : List.take k l = l := List.take_of_length_le (by have := HN.out; omega)
      rw [ht] at hown
      have hnl := numsB_len l HZ.out
      have HJ := Lib.hid (join_texts l)
      have hlx : (l.map decS).length = k := by rw [List.length_map]; exact HN.out
      have HE := Lib.hid (show (⟨#[91]⟩ ++ ⟨(numsB l).toArray⟩ ++ ⟨#[93]⟩ : ByteArray) = ⟨(91 :: (numsB l ++ [93])).toArray⟩ from (congrArg (· ++ _) (mk_app' [91] (numsB l))).trans (mk_app' (91 :: numsB l) [93]))
      have hsz : (⟨(numsB l).toArray⟩ : ByteArray).size ≤ 21 * l.length := by show (numsB l).toArray.size ≤ _; simpa using hnl
      have hll : l.length ≤ 1048576 := by have := HN.out; omega
      rcases Nat.eq_zero_or_pos k with rfl | hpos
      · have hl0 : l = [] := List.eq_nil_of_length_eq_zero HN.out
        subst hl0
        go_wp2_with fail
        refine (Try.strings_Join_none _ _ _ _).mono ?_
        rintro e w1 ⟨rfl, rfl⟩
        go_wp2_with fail
        go_ret
        exact ⟨rfl, hbel⟩
      · obtain ⟨hkc, _, _⟩ := own_cap hown
        obtain ⟨bk, o, rfl, hbk, hcells⟩ := (Rd.of_own hown).2 hpos
        have hcells' : ∀ (j : Nat) x, (l.map decS)[j]? = some x → wr.cell? ⟨bk, o + j, none⟩ = some (.string x) := fun j x hj => hcells j _ (by rw [List.getElem?_map, hj]; rfl)
        have hj1 : (Lib.join ((l.map decS).map (·.data.toList)) (⟨#[32]⟩ : ByteArray).data.toList).length ≤ 140737488355328 := by rw [HJ.out]; omega
        have hjoin := Lib.hid (fun w' (hc : ∀ (j : Nat) x, (l.map decS)[j]? = some x → w'.cell? ⟨bk, o + j, none⟩ = some (.string x)) (hb : bk < w'.heap.size) => Try.strings_Join bk o c' (l.map decS) ⟨#[32]⟩ w' hc hb (by omega) (by omega) hj1)
        rw [hlx, HJ.out] at hjoin
        clear hj1 hcells
        go_wp2_with fail
        refine (hjoin.out _ hcells' hbk).mono ?_
        rintro e w1 ⟨rfl, hb1⟩
        go_wp2_with fail
        go_ret
        exact ⟨by rw [← HE.out]; rfl, below_more hbel hb1⟩
theorem showS_other {x : VV} (h1 : x.k ≠ 1) (h2 : x.k ≠ 2) (h3 : x.k ≠ 3) (h4 : x.k ≠ 4) (h5 : x.k ≠ 5) (h6 : x.k ≠ 6) (h7 : x.k ≠ 7) (h8 : x.k ≠ 8) : showS x = ⟨#[]⟩ := by
  unfold showS
  rw [if_neg h1, if_neg h2, if_neg (by simp [h3, h5]), if_neg h4, if_neg h6, if_neg h7, if_neg h8]
theorem ne_test {a b : Int} (h : a ≠ b) : (a == b) = false := by simp [h]
set_option maxHeartbeats 1000000 in
theorem valueShow_rd (x : VV) (A : Option Addr) (c : Nat) (w : World) (hr : Rd w w.heap.size 1 A x.l.length (x.l.map (Value.int .i64))) (hn : -9223372036854775808 ≤ x.n ∧ x.n ≤ 9223372036854775807) (hz : ∀ z ∈ x.l, -9223372036854775808 ≤ z ∧ z ≤ 9223372036854775807) (hb : x.bulk ≤ 1048576) :
    Calls Try.prog 25 #[val x.k x.n x.s A x.l.length c] w fun e w' => e = .returned (.string (showS x)) ∧ Below w.heap.size w w' := by
  unfold VV.bulk at hb
  obtain ⟨k, n, s, l⟩ := x
  simp only at hr hn hz hb
  show Calls Try.prog 25 #[val k n s A l.length c] w fun e w' => e = .returned (.string (showS ⟨k, n, s, l⟩)) ∧ Below w.heap.size w w'
  by_cases h6 : k = 6
  · subst h6
    exact valueShow_list n s l A c w hr hz (by omega)
  have g6 := ne_test h6
  by_cases h1 : k = 1
  · subst h1
    have HS := Lib.hid (show showS ⟨1, n, s, l⟩ = decS n from rfl)
    go_enter Try.func25, Try.ntmps25
    go_wp2_with fail
    refine (wordText_any n hn _).mono ?_
    rintro e w1 ⟨rfl, hb1⟩
    go_wp2_with fail
    go_ret
    exact ⟨by rw [HS.out]; rfl, sq (al _) hb1⟩
  have g1 := ne_test h1
  by_cases h2 : k = 2
  · subst h2
    by_cases h0 : n = 0
    · have HS := Lib.hid (show showS ⟨2, n, s, l⟩ = ⟨#[102, 97, 108, 115, 101]⟩ by subst h0; rfl)
      go_enter Try.func25, Try.ntmps25
      go_wp2_with fail
      go_ret
      exact ⟨by rw [HS.out]; rfl, al _⟩
    · have HS := Lib.hid (show showS ⟨2, n, s, l⟩ = ⟨#[116, 114, 117, 101]⟩ by simp [showS, h0])
      go_enter Try.func25, Try.ntmps25
      go_wp2_with fail
      go_ret
      exact ⟨by rw [HS.out]; rfl, al _⟩
  have g2 := ne_test h2
  by_cases h3 : k = 3
  · subst h3
    have HS := Lib.hid (show showS ⟨3, n, s, l⟩ = s from rfl)
    go_enter Try.func25, Try.ntmps25
    go_wp2_with fail
    go_ret
    exact ⟨by rw [HS.out]; rfl, al _⟩
  have g3 := ne_test h3
  by_cases h5 : k = 5
  · subst h5
    have HS := Lib.hid (show showS ⟨5, n, s, l⟩ = s from rfl)
    go_enter Try.func25, Try.ntmps25
    go_wp2_with fail
    go_ret
    exact ⟨by rw [HS.out]; rfl, al _⟩
  have g5 := ne_test h5
  by_cases h4 : k = 4
  · subst h4
    have HS := Lib.hid (show showS ⟨4, n, s, l⟩ = ⟨#[110, 105, 108]⟩ from rfl)
    go_enter Try.func25, Try.ntmps25
    go_wp2_with fail
    go_ret
    exact ⟨by rw [HS.out]; rfl, al _⟩
  have g4 := ne_test h4
  by_cases h7 : k = 7
  · subst h7
    have HS := Lib.hid (show showS ⟨7, n, s, l⟩ = ⟨#[112, 111, 105, 110, 116, 101, 114]⟩ from rfl)
    go_enter Try.func25, Try.ntmps25
    go_wp2_with fail
    go_ret
    exact ⟨by rw [HS.out]; rfl, al _⟩
  have g7 := ne_test h7
  by_cases h8 : k = 8
  · subst h8
    have HS := Lib.hid (show showS ⟨8, n, s, l⟩ = ⟨#[102, 117, 110, 99]⟩ from rfl)
    go_enter Try.func25, Try.ntmps25
    go_wp2_with fail
    go_ret
    exact ⟨by rw [HS.out]; rfl, al _⟩
  have g8 := ne_test h8
  have HS := Lib.hid (showS_other (x := ⟨k, n, s, l⟩) h1 h2 h3 h4 h5 h6 h7 h8)
  clear h1 h2 h3 h4 h5 h6 h7 h8
  go_enter Try.func25, Try.ntmps25
  go_wp2_with fail
  go_ret
  exact ⟨by rw [HS.out]; rfl, al _⟩
theorem valueShow_any (x : VV) (A : Option Addr) (c : Nat) (w : World) (h : VV.sh.rd w (· < w.heap.size) [.int .i64 x.k, .int .i64 x.n, .string x.s, .slice A x.l.length c] x) (hb : x.bulk ≤ 1048576) :
    Calls Try.prog 25 #[val x.k x.n x.s A x.l.length c] w fun e w' => e = .returned (.string (showS x)) ∧ Below w.heap.size w w' := by
  obtain ⟨A', c', he, hr, _, _, _, _, hn, hz⟩ := VV.elim h
  simp at he
  obtain ⟨rfl, rfl⟩ := he
  exact valueShow_rd x A c w hr hn hz hb
end Go.Proofs.Ytkkehbfceabhmaa
