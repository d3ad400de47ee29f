/- Lists of numbers, compared. Conditions: none. -/
import Derived.Test.YtapofohbngkekaaBase
import Derived.Deep.QuietTactic
import Derived.BigQuiet
set_option maxRecDepth 20000
namespace Go.Proofs.Ytapofohbngkekaa
open Go.ChangeShapes Go.WideShapes Go.ChangeAt Go.RowKit
/-- A cell of a list of numbers. -/
theorem cellInt {w : World} {B n : Nat} {A : Option Addr} {zs : List Int} (h : Rd w B 1 A n (zs.map (Value.int .i64))) {k : Nat} (hk : k < n) :
    ∃ b off, A = some ⟨b, off, none⟩ ∧ w.cell? ⟨b, off + k, none⟩ = some (.int .i64 (zs.getD k 0)) := by
  obtain ⟨b, off, u, e, _, hu, hc⟩ := h.at1 hk
  rw [List.getElem?_map, Option.map_eq_some_iff] at hu
  obtain ⟨z, hz1, rfl⟩ := hu
  exact ⟨b, off, e, by rw [hc]; simp [List.getD, hz1]⟩
theorem take_more {x y : List Int} {k n : Nat} (hx : x.length = n) (hy : y.length = n) (hk : k < n) (h : x.take k = y.take k) (he : x.getD k 0 = y.getD k 0) : x.take (k + 1) = y.take (k + 1) := by
  have h1 : k < x.length := by omega
  have h2 : k < y.length := by omega
  simp [List.getD, List.getElem?_eq_getElem h1, List.getElem?_eq_getElem h2] at he
  rw [List.take_add_one, List.take_add_one, h, List.getElem?_eq_getElem h1, List.getElem?_eq_getElem h2, he]
theorem take_ne {x y : List Int} {k : Nat} (he : x.getD k 0 ≠ y.getD k 0) : (x == y) = false := by
  rw [beq_eq_false_iff_ne]; intro h; rw [h] at he; exact he rfl
theorem refSameInts_any (A A' : Option Addr) (n n' c c' : Nat) (x y : List Int) (w : World) (B B' : Nat) (hx : Rd w B 1 A n (x.map (Value.int .i64))) (hy : Rd w B' 1 A' n' (y.map (Value.int .i64))) (hn : n * 8 ≤ 140737488355328) (hn' : n' * 8 ≤ 140737488355328) :
    Calls Try.prog 44 #[.slice A n c, .slice A' n' c'] w fun e w' => e = .returned (.bool (x == y)) ∧ ∃ m, w' = w.drewN m := by
  have hlx : x.length = n := by have := hx.1; simpa using this
  have hly : y.length = n' := by have := hy.1; simpa using this
  have HX := Lib.hid hlx
  have HY := Lib.hid hly
  go_enter Try.func44, Try.ntmps44
  by_cases hne : n = n'
  · subst hne
    clear hlx hly
    go_wp2_with fail
    go_loopw [13] (fun i wr => ∃ k m : Nat, k ≤ n ∧ i = .int .i64 k ∧ Hid (x.take k = y.take k) ∧ wr = w.drewN m) (fun i _ => n - (intOf i).toNat)
    case atStart => exact ⟨0, 0, Nat.zero_le _, rfl, Lib.hid rfl, rfl⟩
    case round =>
      obtain ⟨k, m, hk, rfl, HT, rfl⟩ := hrel
      by_cases hlt : k < n
      · obtain ⟨b, off, rfl, hc1⟩ := cellInt hx hlt
        obtain ⟨b', off', rfl, hc2⟩ := cellInt hy hlt
        have HM := Lib.hid (take_more HX.out HY.out hlt HT.out)
        have HF := Lib.hid (take_ne (x := x) (y := y) (k := k))
        generalize x.getD k 0 = p at *
        generalize y.getD k 0 = q at *
        by_cases he : p = q
        · subst he
          go_wp2
          go_quiet (fail)
          go_wp2
          go_roundw
          case rel => exact ⟨k + 1, _, by omega, by go_num, Lib.hid (by first | exact HM.out rfl | exact HM.out trivial), rfl⟩
          case measure => simp [intOf]; omega
        · have hb : (p != q) = true := by simp [he]
          have HN := Lib.hid (HF.out he)
          clear he
          go_wp2
          go_quiet (fail)
          go_wp2
          go_ret
          exact ⟨by rw [HN.out]; rfl, _, by rw [World.drewN_drewN]⟩
      · have HE := Lib.hid (show (x == y) = true by
          have h := HT.out
          have hk' : k = n := by omega
          rw [List.take_of_length_le (by rw [HX.out]; omega), List.take_of_length_le (by rw [HY.out]; omega)] at h
          rw [h]; simp)
        go_wp2
        go_ret
        exact ⟨by rw [HE.out]; rfl, _, rfl⟩
  · have HN := Lib.hid (show (x == y) = false by rw [beq_eq_false_iff_ne]; intro h; rw [h] at hlx; omega)
    clear hlx hly
    go_wp2_with fail
    go_ret
    exact ⟨by rw [HN.out]; rfl, 0, rfl⟩
end Go.Proofs.Ytapofohbngkekaa
