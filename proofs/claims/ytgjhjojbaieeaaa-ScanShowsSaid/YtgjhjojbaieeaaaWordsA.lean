/- 'scan.Word' and the document's Reserved answer alike. Conditions: none. -/
import Derived.Test.YtgjhjojbaieeaaaCut
namespace Go.Proofs.Ytgjhjojbaieeaaa
open Go.ChangeShapes Go.WideShapes Go.ChangeAt Go.RowKit

def words : List (List UInt8) := [[102, 117, 110, 99], [118, 97, 114], [105, 102], [101, 108, 115, 101], [102, 111, 114], [98, 114, 101, 97, 107], [99, 111, 110, 116, 105, 110, 117, 101], [114, 101, 116, 117, 114, 110], [100, 101, 102, 101, 114], [116, 114, 117, 101], [102, 97, 108, 115, 101], [110, 105, 108], [105, 110, 116], [98, 111, 111, 108], [115, 116, 114, 105, 110, 103], [97, 110, 121]]
theorem words_cut : cutG 32 (ByteArray.mk #[102, 117, 110, 99, 32, 118, 97, 114, 32, 105, 102, 32, 101, 108, 115, 101, 32, 102, 111, 114, 32, 98, 114, 101, 97, 107, 32, 99, 111, 110, 116, 105, 110, 117, 101, 32, 114, 101, 116, 117, 114, 110, 32, 100, 101, 102, 101, 114, 32, 116, 114, 117, 101, 32, 102, 97, 108, 115, 101, 32, 110, 105, 108, 32, 105, 110, 116, 32, 98, 111, 111, 108, 32, 115, 116, 114, 105, 110, 103, 32, 97, 110, 121]).data.toList [] = words := by decide +kernel

theorem cutAt_words (w : World) : Calls Try.prog 109 #[.string ⟨#[102, 117, 110, 99, 32, 118, 97, 114, 32, 105, 102, 32, 101, 108, 115, 101, 32, 102, 111, 114, 32, 98, 114, 101, 97, 107, 32, 99, 111, 110, 116, 105, 110, 117, 101, 32, 114, 101, 116, 117, 114, 110, 32, 100, 101, 102, 101, 114, 32, 116, 114, 117, 101, 32, 102, 97, 108, 115, 101, 32, 110, 105, 108, 32, 105, 110, 116, 32, 98, 111, 111, 108, 32, 115, 116, 114, 105, 110, 103, 32, 97, 110, 121]⟩, .int .u8 32] w fun e w' => ∃ g c, e = .returned (.slice (some ⟨g, 0, none⟩) 16 c) ∧ Rd w' w'.heap.size 1 (some ⟨g, 0, none⟩) 16 (strs words) ∧ Below w.heap.size w w' := by
  have h := cutAt_any ⟨#[102, 117, 110, 99, 32, 118, 97, 114, 32, 105, 102, 32, 101, 108, 115, 101, 32, 102, 111, 114, 32, 98, 114, 101, 97, 107, 32, 99, 111, 110, 116, 105, 110, 117, 101, 32, 114, 101, 116, 117, 114, 110, 32, 100, 101, 102, 101, 114, 32, 116, 114, 117, 101, 32, 102, 97, 108, 115, 101, 32, 110, 105, 108, 32, 105, 110, 116, 32, 98, 111, 111, 108, 32, 115, 116, 114, 105, 110, 103, 32, 97, 110, 121]⟩ 32 32 rfl (by decide +kernel) w
  rw [words_cut] at h
  refine h.mono ?_
  rintro e w' ⟨A, c, rfl, hown, hb⟩
  obtain ⟨g, cap, hv, _⟩ := hown.form (by decide)
  injection hv with hA _ hc
  subst hA hc
  exact ⟨g, _, rfl, Rd.of_own hown, hb⟩

def wordB (l : List UInt8) : Bool := words.any fun x => l == x
theorem words_len : words.length = 16 := rfl
theorem any_take {l : List UInt8} {k : Nat} (W : List (List UInt8)) (hk : k < W.length) (h : (W.take k).any (fun x => l == x) = false) (h2 : (l == W[k]) = false) : (W.take (k + 1)).any (fun x => l == x) = false := by
  rw [List.take_succ_eq_append_getElem hk, List.any_append, h]
  simp [h2]
theorem any_yes {l : List UInt8} {k : Nat} (W : List (List UInt8)) (hk : k < W.length) (h2 : (l == W[k]) = true) : W.any (fun x => l == x) = true :=
  List.any_eq_true.2 ⟨W[k], List.getElem_mem hk, h2⟩
theorem toList_mk (l : List UInt8) : (ByteArray.mk l.toArray).toList = l := by rw [ByteArray.toList_eq]
set_option maxHeartbeats 400000 in
theorem refReserved_any (s : ByteArray) (w : World) : Calls Try.prog 112 #[.string s] w fun e w' => e = .returned (.bool (wordB s.toList)) ∧ Below w.heap.size w w' := by
  go_enter Try.func112, Try.ntmps112
  go_wp2_with fail
  refine (cutAt_words _).mono ?_
  rintro e w1 ⟨g, c, rfl, hr, hb⟩
  go_wp2_with fail
  go_loop [7] (fun i => ∃ k : Nat, k ≤ 16 ∧ i = .int .i64 k ∧ Hid ((words.take k).any (fun x => s.toList == x) = false)) (fun i => 16 - (intOf i).toNat)
  case atStart => exact ⟨0, by omega, rfl, rfl⟩
  case round =>
    obtain ⟨k, hk, rfl, hn⟩ := hrel
    by_cases hlt : k < 16
    · have hw : k < words.length := by rw [words_len]; exact hlt
      obtain ⟨b, off, u, hA, _, hu, hc⟩ := hr.at1 hlt
      have hu' := strs_get hw hu
      injection hA with hA
      injection hA with hA1 hA2
      subst hA1 hA2 hu'
      clear hu
      rw [Nat.zero_add] at hc
      by_cases ht : (s.toList == words[k]) = true
      · have HT : (words[k] == s.toList) = true := by rw [beq_iff_eq]; exact (beq_iff_eq.1 ht).symm
        have HY := Lib.hid (any_yes words hw ht)
        clear ht
        go_wp2
        go_ret
        exact ⟨by unfold wordB; rw [HY.out]; rfl, hb⟩
      · have ht' : (s.toList == words[k]) = false := by simpa using ht
        have HT : (words[k] == s.toList) = false := by
          rw [beq_eq_false_iff_ne] at ht' ⊢; exact fun e => ht' e.symm
        have HY := Lib.hid (any_take words hw hn.out ht')
        clear ht ht'
        go_wp2
        go_round
        case rel => exact ⟨k + 1, by omega, by go_num, HY⟩
        case measure => simp [intOf]; omega
    · go_wp2
      go_ret
      have e : k = 16 := by omega
      subst e
      exact ⟨by unfold wordB; rw [← hn.out]; rfl, hb⟩
set_option maxHeartbeats 800000 in
theorem scanWord_any (s : ByteArray) (w : World) : Calls Try.prog 130 #[.string s] w fun e w' => e = .returned (.bool (wordB s.toList)) ∧ w' = w := by
  go_enter Try.func130, Try.ntmps130
  go_wp2
  all_goals
    go_ret
    refine ⟨?_, rfl⟩
    simp_all [wordB, words]
end Go.Proofs.Ytgjhjojbaieeaaa
