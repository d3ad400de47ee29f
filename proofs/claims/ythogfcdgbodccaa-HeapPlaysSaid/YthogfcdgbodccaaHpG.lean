/- The heap's 'find': the first free place. Conditions: none. -/
import Derived.Test.YthogfcdgbodccaaHpF
set_option maxRecDepth 100000
namespace Go.Proofs.Ythogfcdgbodccaa
open Go.ChangeShapes Go.WideShapes Go.ChangeAt Go.RowKit
def findV : Option Nat → Value
  | some k => .tuple #[.int .i64 (k : Int), .bool true]
  | none => .tuple #[.int .i64 0, .bool false]
set_option maxHeartbeats 2000000 in
theorem find_any {w : World} {base P room : Nat} {bs : List BK} {cells : List (Int × Int)} {shapes : List Int} {cv zv sv : Value} (h : HPc w base P room bs cells shapes cv zv sv) (n : Nat) (h0 : 0 < n) (h63 : room < 9223372036854775000) :
    Calls Try.prog 34 #[.pointer (some ⟨P, 0, none⟩), .int .i64 (n : Int)] w fun e w' => e = .returned (findV (fndB 0 bs room n)) ∧ w' = w := by
  obtain ⟨A0, n0, e0⟩ := own_form h.cel
  obtain ⟨A1, n1, e1⟩ := own_form h.siz
  obtain ⟨d0, d1, _⟩ := h.cell0
  have HS := Lib.hid (show ∀ a, a < room → ∃ Z, A1 = some ⟨Z, 0, none⟩ ∧ w.cell? ⟨Z, a, none⟩ = some (.int .i64 (match blkAt bs a with | some b => ((b.cells.length + 1 : Nat) : Int) | none => 0)) ∧ (szL 0 bs room)[a]? = some (match blkAt bs a with | some b => ((b.cells.length + 1 : Nat) : Int) | none => 0) from fun a ha => by
    obtain ⟨Z, n2, e2, hc⟩ := h.size ha
    rw [e1] at e2
    injection e2 with e2 _ _
    have hs := szL_at h.fit (Nat.zero_le a) ha
    exact ⟨Z, e2, hc, hs⟩)
  rw [e0] at d0
  rw [e1] at d1
  have HFT := Lib.hid h.fit
  have HN := Lib.hid h0
  clear h e0 e1 h0
  go_enter Try.func34, Try.ntmps34
  go_wp2_with fail
  go_loopw [6, 7] (fun f v wr => ∃ (fr k : Nat) (post : List BK), f = .int .i64 (fr : Int) ∧ v = .int .i64 (k : Int) ∧ Hid (FI n bs room fr k post) ∧ Hid (fr ≤ k) ∧ Hid (k ≤ room) ∧ wr = w) (fun _ v _ => room - (intOf v).toNat)
  case atStart => exact ⟨0, 0, bs, rfl, rfl, Lib.hid (FI.start HN.out HFT.out), Lib.hid (Nat.le_refl _), Lib.hid (Nat.zero_le _), rfl⟩
  case round =>
    obtain ⟨fr, k, post, rfl, rfl, HF, HFK, HK, rfl⟩ := hrel
    by_cases hlt : (k : Int) < (room : Int)
    · obtain ⟨Z, rfl, c2, hz⟩ := HS.out k (by omega)
      have HZ := Lib.hid hz
      clear hz
      cases hv : blkAt bs k with
      | none =>
        rw [hv] at c2 HZ
        simp only at c2 HZ
        have HV := Lib.hid hv
        clear hv
        have hw1 : IntKind.i64.wrap ((k : Int) + 1) = (k : Int) + 1 := IntWalk.i64_in _ (by omega)
        have hw2 : IntKind.i64.wrap ((k : Int) + 1 - (fr : Int)) = (k : Int) + 1 - (fr : Int) := IntWalk.i64_in _ (by have := HFK.out; omega)
        obtain ⟨q1, q2⟩ := HF.out.free (by omega) HZ.out
        by_cases hn : (k : Int) + 1 - (fr : Int) = (n : Int)
        · have HQ := Lib.hid (q2 (by have := HFK.out; omega))
          clear q1 q2
          go_wp2_with fail
          go_returns
          rw [HQ.out]
          exact ⟨rfl, rfl⟩
        · have HQ := Lib.hid (q1 (by have := HFK.out; omega))
          clear q1 q2
          go_wp2_with fail
          refine ⟨⟨fr, k + 1, post, rfl, by simp, HQ, Lib.hid (by have := HFK.out; omega), Lib.hid (by omega), trivial⟩, by simp [intOf]; omega⟩
      | some b =>
        rw [hv] at c2 HZ
        simp only at c2 HZ
        obtain ⟨b', cs, _, hat, hbl, hfi⟩ := HF.out.blk HN.out HZ.out (by omega)
        rw [hbl] at c2
        have hfin := hfi.top
        have h3 : b'.fin = b'.at_ + 1 + b'.cells.length := rfl
        have hw1 : IntKind.i64.wrap ((k : Int) + ((b'.cells.length + 1 : Nat) : Int)) = ((b'.fin : Nat) : Int) := by rw [show (k : Int) + ((b'.cells.length + 1 : Nat) : Int) = ((b'.fin : Nat) : Int) by omega]; exact IntWalk.i64_in _ (by omega)
        have hp : (0 : Int) < ((b'.cells.length + 1 : Nat) : Int) := by omega
        have HQ := Lib.hid hfi
        have HM := Lib.hid (show k < b'.fin ∧ b'.fin ≤ room by omega)
        clear hfi hat hbl hv h3 hfin HZ
        generalize ((b'.cells.length + 1 : Nat) : Int) = v at *
        generalize b'.fin = q at *
        go_wp2_with fail
        refine ⟨⟨q, q, cs, rfl, rfl, HQ, Lib.hid (Nat.le_refl _), Lib.hid HM.out.2, trivial⟩, by have := HM.out; simp [intOf]; omega⟩
    · have HQ := Lib.hid (HF.out.stop (by omega))
      go_wp2_with fail
      go_returns
      rw [HQ.out]
      exact ⟨rfl, rfl⟩
end Go.Proofs.Ythogfcdgbodccaa
