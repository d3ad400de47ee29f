/- squeeze's 'next'. Conditions: the list fits what comes in. -/
import Derived.Test.YtapbdfcihheecaaSqB
set_option maxRecDepth 100000
namespace Go.Proofs.Ytapbdfcihheecaa
open Go.ChangeShapes Go.WideShapes Go.ChangeAt Go.RowKit
theorem info_i64 : (Try.prog.info? 3).map (fun i => (i.zero, i.size, i.bytes)) = some (some (.int .i64 0), 1, 8) := by kernel_rfl
theorem stop_cases (x : II) : (stopI x = true ∧ ((x.o != 26) = false ∨ ((x.o != 26) = true ∧ (x.o != 29) = false) ∨ ((x.o != 26) = true ∧ (x.o != 29) = true ∧ (x.o != 30) = false))) ∨ (stopI x = false ∧ (x.o != 26) = true ∧ (x.o != 29) = true ∧ (x.o != 30) = true) := by
  unfold stopI
  by_cases h1 : x.o = 26
  · simp [h1]
  · by_cases h2 : x.o = 29
    · simp [h2]
    · by_cases h3 : x.o = 30
      · simp [h3]
      · simp [h1, h2, h3]
theorem next_any (A : Option Addr) (n c p : Nat) (l : List II) (x : II) (w : World) (h : InsR w w.heap.size A n l) (hx : l[p]? = some x) (hn : n ≤ 1000000) :
    Calls Try.prog 131 #[.slice A n c, .int .i64 (p : Int)] w fun e w' => ∃ A' m c', e = .returned (.slice A' m c') ∧ w'.ownsRow w.heap.size 3 1 (.slice A' m c') m ((nextI p x).map (Value.int .i64)) ∧ Below w.heap.size w w' := by
  obtain ⟨i0, hi, hz0, hz1, hz2⟩ := info_parts info_i64
  have hpn : p < n := by rw [h.1]; exact (List.getElem?_eq_some_iff.1 hx).1
  have HBX := Lib.hid (h.bd (List.mem_of_getElem? hx))
  obtain ⟨b, off, hA, hb, e0, e1, e2, e3, e4, e5⟩ := h.at hx
  subst hA
  have HNX := Lib.hid (show nextI p x = (match (if tgtB x.o = true then some (tgtN x.o x.a x.b) else none) with | some t => [t] | none => []) ++ (if stopI x = true then [] else [(p : Int) + 1]) from rfl)
  have HSC := Lib.hid (stop_cases x)
  clear h hx
  obtain ⟨xo, xa, xb, xc, xd, xe⟩ := x
  simp only at e0 e1 e2 e3 e4 e5 HSC HNX HBX
  go_enter Try.func131, Try.ntmps131
  go_wp2_with fail
  refine Calls.mono (guardTarget_any xo xa xb xc xd xe _) ?_
  rintro e w2 ⟨rfl, hb2⟩
  have HB2 := Lib.hid (sq (al _) hb2)
  have hf := (hb2.block w.heap.size (by simp)).trans (heap_alloc_new w _)
  have d0 : w2.cell? ⟨w.heap.size, 0, none⟩ = some (.int .i64 xo) := by rw [Lib.cell_of_heap hf]; rfl
  have hws : w.heap.size < w2.heap.size := (Array.getElem?_eq_some_iff.1 hf).1
  have HF := Lib.hid hf
  clear hb2 hf
  generalize tgtN xo xa xb = t at *
  cases htb : tgtB xo with
  | false =>
    rw [htb] at HNX
    rcases HSC.out with ⟨hs, hc⟩ | ⟨hs, c1, c2, c3⟩
    · rw [hs] at HNX
      rcases hc with c1 | ⟨c1, c2⟩ | ⟨c1, c2, c3⟩
      all_goals (
        clear htb HSC hs
        go_wp2_with fail
        go_ret
        exact ⟨none, 0, 0, rfl, by rw [HNX.out]; exact World.ownsRow_nil _ _ _ _, HB2.out⟩)
    · rw [hs] at HNX
      clear htb HSC hs
      go_wp2_with (at_builtin; refine wpList_append_new _ rfl _ _ 31 rfl 3 i0 _ 1 8 Try.underlying31 hi hz0 hz1 hz2 rfl (by omega) rfl (w2.heap.size + 1) (some ⟨w2.heap.size, 0, none⟩) 1 1 [.int .i64 ((p : Int) + 1)] rfl (Rd.lit1 _ _ _) (one1 rfl) (by omega) (by unfold maxLen; omega) ?_; intro A5 c5 w5 hown5 hb5)
      go_ret
      refine ⟨A5, 1, c5, rfl, ?_, sq (sq HB2.out (al _)) hb5⟩
      rw [HNX.out]
      exact own_base hown5 (by have := HB2.out.size; simp; omega)
  | true =>
    rw [htb] at HNX
    rcases HSC.out with ⟨hs, hc⟩ | ⟨hs, c1, c2, c3⟩
    · rw [hs] at HNX
      rcases hc with c1 | ⟨c1, c2⟩ | ⟨c1, c2, c3⟩
      all_goals (
        clear htb HSC hs
        go_wp2_with (first
          | (at_builtin; refine wpList_append_new _ rfl _ _ 31 rfl 3 i0 _ 1 8 Try.underlying31 hi hz0 hz1 hz2 rfl (by omega) rfl (w2.heap.size + 1) (some ⟨w2.heap.size, 0, none⟩) 1 1 [.int .i64 t] rfl (Rd.lit1 _ _ _) (one1 rfl) (by omega) (by unfold maxLen; omega) ?_; intro A5 c5 w5 hown5 hb5; have d0 : w5.cell? ⟨w.heap.size, 0, none⟩ = some (.int .i64 xo) := (hb5.cell (p := ⟨w.heap.size, 0, none⟩) (by simp; omega)).trans ((World.cell?_alloc_lt _ _ _ hws).trans d0))
          | fail "no")
        go_wp2_with fail
        go_ret
        refine ⟨A5, 1, c5, rfl, ?_, sq (sq HB2.out (al _)) hb5⟩
        rw [HNX.out]
        exact own_base hown5 (by have := HB2.out.size; simp; omega))
    · rw [hs] at HNX
      clear htb HSC hs
      go_wp2_with (first
        | (at_builtin; refine wpList_append_new _ rfl _ _ 31 rfl 3 i0 _ 1 8 Try.underlying31 hi hz0 hz1 hz2 rfl (by omega) rfl (w2.heap.size + 1) (some ⟨w2.heap.size, 0, none⟩) 1 1 [.int .i64 t] rfl (Rd.lit1 _ _ _) (one1 rfl) (by omega) (by unfold maxLen; omega) ?_; intro A5 c5 w5 hown5 hb5; have d0 : w5.cell? ⟨w.heap.size, 0, none⟩ = some (.int .i64 xo) := (hb5.cell (p := ⟨w.heap.size, 0, none⟩) (by simp; omega)).trans ((World.cell?_alloc_lt _ _ _ hws).trans d0))
        | (at_builtin; refine wpList_append_rd _ rfl _ _ 31 rfl (w2.heap.size + 1) 3 i0 _ 1 8 Try.underlying31 hi hz0 hz1 hz2 rfl (by omega) (.slice A5 1 c5) 1 [.int .i64 t] rfl (own_kept (own_base hown5 (by simp)) (al _)) (w5.heap.size + 1) (some ⟨w5.heap.size, 0, none⟩) 1 1 [.int .i64 ((p : Int) + 1)] rfl (Rd.lit1 _ _ _) (one1 rfl) (by unfold maxLen; omega) (by omega) (by have := hb5.size; simp at this ⊢; omega) ?_; intro A6 c6 w6 hown6 hgrow6 _)
        | fail "no")
      go_ret
      refine ⟨A6, 2, c6, rfl, ?_, (sq (sq (sq HB2.out (al _)) hb5) (al _)).grown hgrow6 (by have := HB2.out.size; have := hb5.size; simp at this ⊢; omega) (fun q hq => by have := (hown5.lt q hq).1; have := HB2.out.size; simp at *; omega)⟩
      rw [HNX.out]
      exact own_base hown6 (by have := HB2.out.size; omega)
end Go.Proofs.Ytapbdfcihheecaa
