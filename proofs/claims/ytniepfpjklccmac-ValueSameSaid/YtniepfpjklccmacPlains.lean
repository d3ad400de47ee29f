/- 'value.Plain' and the document's PlainValue: the law over them is true. Conditions: none. -/
import Derived.Test.YtniepfpjklccmacPlain
import Derived.Deep.RegionHeld3
set_option maxRecDepth 20000
namespace Go.Proofs.Ytniepfpjklccmac
open Go.ChangeShapes Go.WideShapes Go.ChangeAt Go.RowKit
theorem own_len {w : World} {base n c : Nat} {e : TypeId} {A : Option Addr} {k : Int} {zs : List Int} (h : w.ownsRow base e 1 (.slice A n c) n ((plL k zs).map (Value.int .i64))) {len : Nat} (hz : zs.length = len) (hb : len * 8 ≤ 140737488355328) : n * 8 ≤ 140737488355328 := by
  have h1 := h.1
  simp at h1
  have h2 : (plL k zs).length ≤ zs.length := by unfold plL; split <;> simp
  omega
theorem refEqual_same (k n : Int) (s : ByteArray) (A : Option Addr) (len cap : Nat) (zs : List Int) (A' : Option Addr) (len' cap' : Nat) (w : World) (hx : Rd w w.heap.size 1 A len (zs.map (Value.int .i64))) (hy : Rd w w.heap.size 1 A' len' (zs.map (Value.int .i64))) (hn : len * 8 ≤ 140737488355328) (hn' : len' * 8 ≤ 140737488355328) :
    Calls Try.prog 21 #[val k n s A len cap, val k n s A' len' cap'] w fun e w' => e = .returned (.bool true) ∧ Below w.heap.size w w' :=
  (refEqual_any k n s A len cap zs k n s A' len' cap' zs w hx hy hn hn').mono fun _ _ ⟨he, hb⟩ => ⟨by rw [he]; simp, hb⟩
theorem held_pl {W w1 w2 : World} {g g' : Nat} {x0 x1 x2 x3 y1 y2 : Value} (hg : g < W.heap.size) (hg' : g' < W.heap.size) (hb : Below w1.heap.size w1 w2) (h : w1.cell? ⟨g, 0, none⟩ = some x0 ∧ w1.cell? ⟨g, 1, none⟩ = some x1 ∧ w1.cell? ⟨g, 2, none⟩ = some x2 ∧ w1.cell? ⟨g, 3, none⟩ = some x3 ∧ w1.cell? ⟨g', 1, none⟩ = some y1 ∧ w1.cell? ⟨g', 2, none⟩ = some y2 ∧ Below W.heap.size W w1) :
    w2.cell? ⟨g, 0, none⟩ = some x0 ∧ w2.cell? ⟨g, 1, none⟩ = some x1 ∧ w2.cell? ⟨g, 2, none⟩ = some x2 ∧ w2.cell? ⟨g, 3, none⟩ = some x3 ∧ w2.cell? ⟨g', 1, none⟩ = some y1 ∧ w2.cell? ⟨g', 2, none⟩ = some y2 ∧ Below W.heap.size W w2 := by
  obtain ⟨k1, _⟩ := kept hb
  obtain ⟨a, b, c, d, a', b', e⟩ := h
  have hg1 : g < w1.heap.size := Nat.lt_of_lt_of_le hg e.size
  have hg2 : g' < w1.heap.size := Nat.lt_of_lt_of_le hg' e.size
  exact ⟨by rw [k1 _ _ hg1]; exact a, by rw [k1 _ _ hg1]; exact b, by rw [k1 _ _ hg1]; exact c, by rw [k1 _ _ hg1]; exact d, by rw [k1 _ _ hg2]; exact a', by rw [k1 _ _ hg2]; exact b', sq e hb⟩
theorem last7 {a b c d a' b' e : Prop} (h : a ∧ b ∧ c ∧ d ∧ a' ∧ b' ∧ e) : e := h.2.2.2.2.2.2
set_option maxHeartbeats 1000000 in
theorem walkValuePlains (v0 : Value) (w : World) (w0 : IsValue w v0) : Calls Try.prog 5 #[v0] w fun e w' => e = .returned (.bool true) ∧ Below w.heap.size w w' := by
  obtain ⟨k, n, s, A, len, cap, zs, rfl, _, _, hs, hr, hlc, hcb, _⟩ := w0
  go_enter Try.func5, Try.ntmps5
  go_wp2_with fail
  refine (valuePlain_any 1 7 ⟨#[120]⟩ none 0 0 [] _ Rd.nil (by omega)).mono ?_
  rintro e w1 ⟨Ax, lx, cx, rfl, hownx, hb1⟩
  have eN : plN 1 7 = 7 := by decide
  have eS : plS 1 ⟨#[120]⟩ = ⟨#[]⟩ := by decide
  rw [eN, eS]
  have c0 := hb1.cell (p := ⟨w.heap.size, 0, none⟩) (by go_size); have c1 := hb1.cell (p := ⟨w.heap.size, 1, none⟩) (by go_size); have c2 := hb1.cell (p := ⟨w.heap.size, 2, none⟩) (by go_size); have c3 := hb1.cell (p := ⟨w.heap.size, 3, none⟩) (by go_size); (try simp at c0 c1 c2 c3)
  have hs1 := hb1.size
  simp at hs1
  have hWb : Below w.heap.size w w1 := sq (al _) hb1
  go_wp2_with fail
  have hzl : zs.length = len := by have := hr.1; simpa using this
  have hlb : len * 8 ≤ 140737488355328 := by omega
  generalize hW : w1.alloc (Obj.cells #[Value.int .i64 (plK 1), Value.int .i64 7, Value.string ⟨#[]⟩, Value.slice Ax lx cx] 24) = W
  have hWb2 : Below w.heap.size w W := by rw [← hW]; exact al2 hWb _
  have hWb' : Below w.heap.size w W := hWb2
  have hWs : W.heap.size = w1.heap.size + 1 := by rw [← hW]; simp
  have hg : w.heap.size < W.heap.size := by omega
  have hg' : w1.heap.size < W.heap.size := by omega
  have hrW := hr.below hWb2
  have hI : W.cell? ⟨w.heap.size, 0, none⟩ = some (.int .i64 k) ∧ W.cell? ⟨w.heap.size, 1, none⟩ = some (.int .i64 n) ∧ W.cell? ⟨w.heap.size, 2, none⟩ = some (.string s) ∧ W.cell? ⟨w.heap.size, 3, none⟩ = some (.slice A len cap) ∧ W.cell? ⟨w1.heap.size, 1, none⟩ = some (.int .i64 7) ∧ W.cell? ⟨w1.heap.size, 2, none⟩ = some (.string ⟨#[]⟩) ∧ Below W.heap.size W W := by
    rw [← hW]
    have ka := (kept (al (w := w1) (Obj.cells #[Value.int .i64 (plK 1), Value.int .i64 7, Value.string ⟨#[]⟩, Value.slice Ax lx cx] 24))).1
    exact ⟨(ka _ _ (by omega)).trans c0, (ka _ _ (by omega)).trans c1, (ka _ _ (by omega)).trans c2, (ka _ _ (by omega)).trans c3, by simp, by simp, Below.refl _ _⟩
  clear hW hWs c0 c1 c2 c3 hownx
  have hId : W.drew.cell? ⟨w.heap.size, 0, none⟩ = some (.int .i64 k) ∧ W.drew.cell? ⟨w.heap.size, 1, none⟩ = some (.int .i64 n) ∧ W.drew.cell? ⟨w.heap.size, 2, none⟩ = some (.string s) ∧ W.drew.cell? ⟨w.heap.size, 3, none⟩ = some (.slice A len cap) ∧ W.drew.cell? ⟨w1.heap.size, 1, none⟩ = some (.int .i64 7) ∧ W.drew.cell? ⟨w1.heap.size, 2, none⟩ = some (.string ⟨#[]⟩) ∧ Below W.heap.size W W.drew :=
    ⟨hI.1, hI.2.1, hI.2.2.1, hI.2.2.2.1, hI.2.2.2.2.1, hI.2.2.2.2.2.1, hI.2.2.2.2.2.2.drew⟩
  go_region_held3 (fun w' => w'.cell? ⟨w.heap.size, 0, none⟩ = some (.int .i64 k) ∧ w'.cell? ⟨w.heap.size, 1, none⟩ = some (.int .i64 n) ∧ w'.cell? ⟨w.heap.size, 2, none⟩ = some (.string s) ∧ w'.cell? ⟨w.heap.size, 3, none⟩ = some (.slice A len cap) ∧ w'.cell? ⟨w1.heap.size, 1, none⟩ = some (.int .i64 7) ∧ w'.cell? ⟨w1.heap.size, 2, none⟩ = some (.string ⟨#[]⟩) ∧ Below W.heap.size W w')
    (first | exact hId | exact held_pl hg hg' (by assumption) (by assumption))
    (first
      | (go_at_call 16; refine (own_any k n s A len cap zs _ (hrW.into (by omega) (last7 (by assumption))) (by omega)).mono ?_; rintro e w2 ⟨A2, c2, rfl, hown2, hb2⟩)
      | (go_at_call 20; refine (valuePlain_any k n s _ _ _ zs _ (Rd.of_own hown2) hlb).mono ?_; rintro e w3 ⟨A3, l3, c3, rfl, hown3, hb3⟩)
      | (go_at_call 22; refine (refPlain_any k n s A len cap zs _ (hrW.into (by omega) (last7 (by assumption))) hlb).mono ?_; rintro e w4 ⟨A4, l4, c4, rfl, hown4, hb4⟩)
      | (go_at_call 21; refine (refEqual_same _ _ _ _ _ _ (plL k zs) _ _ _ _ ((Rd.of_own hown3).into (Nat.le_refl _) hb4) (Rd.of_own hown4) (own_len hown3 hzl hlb) (own_len hown4 hzl hlb)).mono ?_; rintro e w5 ⟨rfl, hb5⟩))
  go_wp2
  go_ret
  exact ⟨rfl, sq hWb' (last7 (by assumption))⟩
end Go.Proofs.Ytniepfpjklccmac
