/- The law ValueShows is true. Conditions: the bound on the bulk. -/
import Derived.Test.YtkkehbfceabhmaaShowR
import Derived.Test.YtkkehbfceabhmaaUp
import Derived.Deep.RegionHeld3
set_option maxRecDepth 20000
namespace Go.Proofs.Ytkkehbfceabhmaa
open Go.ChangeShapes Go.WideShapes Go.ChangeAt Go.RowKit
theorem eq_self (T : ByteArray) (w : World) : Sem.run Try.prog (binOp BinOp.eql 9 (.string T) (.string T)) w = .ok (.bool true) w := by
  have hu := Try.underlying9
  go_simp
theorem showG (k n : Int) (s : ByteArray) (A : Option Addr) (len cap : Nat) (l : List Int) (w : World) (hr : Rd w w.heap.size 1 A len (l.map (Value.int .i64))) (hn : -9223372036854775808 ≤ n ∧ n ≤ 9223372036854775807) (hz : ∀ z ∈ l, -9223372036854775808 ≤ z ∧ z ≤ 9223372036854775807) (hb : s.size + len + 1 ≤ 1048576) :
    Calls Try.prog 25 #[.agg #[.int .i64 k, .int .i64 n, .string s, .slice A len cap]] w fun e w' => e = .returned (.string (showS ⟨k, n, s, l⟩)) ∧ Below w.heap.size w w' := by
  have hl : l.length = len := by have := hr.1; simpa using this
  subst hl
  exact valueShow_rd ⟨k, n, s, l⟩ A cap w hr hn hz hb
theorem rd_none (w : World) (B : Nat) : Rd w B 1 none 0 (([] : List Int).map (Value.int .i64)) := ⟨rfl, fun h => absurd h (by simp)⟩
set_option maxHeartbeats 4000000 in
theorem walkValueShows (v0 : Value) (w : World) (w0 : IsUVal w v0) : Calls Try.prog 7 #[v0] w fun e w' => e = .returned (.bool true) ∧ Below w.heap.size w w' := by
  obtain ⟨x, A, c, rfl, hrd, hb⟩ := w0
  obtain ⟨A', c', he, hr, hlc, hcm, hA, hk, hn, hz⟩ := VV.elim hrd
  simp at he
  obtain ⟨rfl, rfl⟩ := he
  clear hrd hA
  have hll : x.l.length * 8 ≤ 140737488355328 := by unfold VV.bulk at hb; omega
  have HL := Lib.hid (show x.l.length ≤ 1048576 by unfold VV.bulk at hb; omega)
  have H2 := fun (A : Option Addr) (c : Nat) (w : World) (hr : Rd w w.heap.size 1 A x.l.length (x.l.map (Value.int .i64))) => refShow_t x.k x.n x.s A x.l c hn w hr hz HL.out
  have hbs : x.s.size + x.l.length + 1 ≤ 1048576 := hb
  clear hk hb HL
  obtain ⟨k, n, s, l⟩ := x
  simp only at hr hll H2 hn hz hbs
  generalize hlen : l.length = len at *
  have H2 := Lib.hid H2
  have HN := Lib.hid hn
  have HZ := Lib.hid hz
  have hnil : showS ⟨4, 0, ByteArray.empty, []⟩ = ⟨#[110, 105, 108]⟩ := rfl
  have hnil2 : showS ⟨4, 0, ⟨#[]⟩, []⟩ = ⟨#[110, 105, 108]⟩ := rfl
  clear hlen hn hz
  have hE := fun w => eq_self (showS ⟨k, n, s, l⟩) w
  go_enter Try.func7, Try.ntmps7
  go_wp2_with fail
  generalize hW : w.alloc (Obj.cells #[Value.int .i64 k, Value.int .i64 n, Value.string s, Value.slice A len c] 39) = W
  have hWb : Below w.heap.size w W := by rw [← hW]; exact al _
  have hWb' : Below w.heap.size w W := hWb
  have hWs : W.heap.size = w.heap.size + 1 := by rw [← hW]; simp
  have hg : w.heap.size < W.heap.size := by omega
  have hrW := hr.keep (w' := W) (fun p hp => hWb.cell hp)
  have hI : W.cell? ⟨w.heap.size, 0, none⟩ = some (.int .i64 k) ∧ W.cell? ⟨w.heap.size, 1, none⟩ = some (.int .i64 n) ∧ W.cell? ⟨w.heap.size, 2, none⟩ = some (.string s) ∧ W.cell? ⟨w.heap.size, 3, none⟩ = some (.slice A len c) ∧ Below W.heap.size W W := by
    rw [← hW]; simp; exact Below.refl _ _
  clear hW hWs
  have hId : W.drew.cell? ⟨w.heap.size, 0, none⟩ = some (.int .i64 k) ∧ W.drew.cell? ⟨w.heap.size, 1, none⟩ = some (.int .i64 n) ∧ W.drew.cell? ⟨w.heap.size, 2, none⟩ = some (.string s) ∧ W.drew.cell? ⟨w.heap.size, 3, none⟩ = some (.slice A len c) ∧ Below W.heap.size W W.drew :=
    ⟨hI.1, hI.2.1, hI.2.2.1, hI.2.2.2.1, hI.2.2.2.2.drew⟩
  have HR := Lib.hid (show Rd W w.heap.size 1 A len (l.map (Value.int .i64)) from hrW)
  clear hr hrW
  go_region_held3 (fun w' => w'.cell? ⟨w.heap.size, 0, none⟩ = some (.int .i64 k) ∧ w'.cell? ⟨w.heap.size, 1, none⟩ = some (.int .i64 n) ∧ w'.cell? ⟨w.heap.size, 2, none⟩ = some (.string s) ∧ w'.cell? ⟨w.heap.size, 3, none⟩ = some (.slice A len c) ∧ Below W.heap.size W w')
    (first | exact hId | exact held_stay hg (by assumption) (by assumption))
    (first
      | (go_at_call 23; refine (own_any k n s A _ c l _ (HR.out.into (Nat.le_of_lt hg) (last5 (by assumption))) hll).mono ?_; rintro e w1 ⟨A1, c1, rfl, hown, hb⟩)
      | (go_at_call 25; refine (showG _ _ _ _ _ _ _ _ (by first | exact Rd.of_own hown | exact (Rd.of_own hown).into (Nat.le_refl _) b3 | exact rd_none _ _) (by first | exact HN.out | decide) (by first | exact HZ.out | (intro z hz; cases hz)) (by first | exact hbs | decide)).mono ?_; rintro e w2 ⟨rfl, b2⟩)
      | (go_at_call 26; refine (H2.out _ _ _ (HR.out.into (Nat.le_of_lt hg) (last5 (by assumption)))).mono ?_; rintro e w3 ⟨rfl, b3⟩))
  go_wp2
  go_ret
  refine ⟨?_, sq hWb' (last5 (by assumption))⟩
  first | (simp; done) | (simp [hnil]; done) | (simp; exact hnil2)
end Go.Proofs.Ytkkehbfceabhmaa
