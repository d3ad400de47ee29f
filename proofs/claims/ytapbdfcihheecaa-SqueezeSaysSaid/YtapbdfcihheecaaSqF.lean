/- squeeze's 'once' and its two tests. Conditions: the list fits what comes in. -/
import Derived.Test.YtapbdfcihheecaaSqE
set_option maxRecDepth 100000
namespace Go.Proofs.Ytapbdfcihheecaa
open Go.ChangeShapes Go.WideShapes Go.ChangeAt Go.RowKit
/-- A list of instructions does not lie in a block that holds nothing but slices. -/
theorem InsR.avoid {w w' : World} {B n g : Nat} {A : Option Addr} {l : List II} (h : InsR w B A n l) (hS : ∀ o v, w.cell? ⟨g, o, none⟩ = some v → ∃ A n c, v = .slice A n c) (hk : ∀ p : Addr, p.block < B → p.block ≠ g → w'.cell? p = w.cell? p) : InsR w' B A n l := by
  obtain ⟨hn, ess, r, a⟩ := h
  refine ⟨hn, ess, ⟨r.1, fun h0 => ?_⟩, a.1, fun i c x hc hx => ?_⟩
  · obtain ⟨b, off, e, hb, hcell⟩ := r.2 h0
    refine ⟨b, off, e, hb, fun j u hu => (hk ⟨b, _, none⟩ hb (fun e => ?_)).trans (hcell j u hu)⟩
    change b = g at e
    subst e
    have hx := List.getElem?_eq_getElem (l := l) (i := 0) (by omega)
    have hes := List.getElem?_eq_getElem (l := ess) (i := 0) (by rw [a.1]; omega)
    have hr0 := (II.elim (a.2 0 _ _ hes hx)).1
    have h1 : ess.flatten[0]? = some (.int .i64 (l[0]'(by omega)).o) := by
      have := flat_at (k := 6) (ess := ess) a.each 0 0 (by omega)
      rw [hes, hr0] at this
      exact this
    obtain ⟨_, _, _, e⟩ := hS _ _ (hcell 0 _ h1)
    cases e
  · obtain ⟨rfl, q0, q1, q2, q3, q4, q5⟩ := II.elim (a.2 i c x hc hx)
    exact II.intro q0 q1 q2 q3 q4 q5
theorem one_slice {w : World} {g n c : Nat} {A : Option Addr} {T : TypeId} (h : w.heap[g]? = some (.cells #[.slice A n c] T (0, 0))) : ∀ o v, w.cell? ⟨g, o, none⟩ = some v → ∃ A n c, v = .slice A n c := by
  intro o v hv
  rw [Lib.cell_of_heap h] at hv
  match o, hv with
  | 0, hv => injection hv with hv; exact ⟨_, _, _, hv.symm⟩
  | o + 1, hv => simp at hv
theorem InsR.put {w : World} {g n m c o : Nat} {A A' : Option Addr} {l : List II} {T : TypeId} (h : InsR w w.heap.size A n l) (hg : w.heap[g]? = some (.cells #[.slice A' m c] T (0, 0))) (v : Value) : InsR (w.setCell ⟨g, o, none⟩ v) (w.setCell ⟨g, o, none⟩ v).heap.size A n l :=
  (h.avoid (one_slice hg) fun p _ hne => World.cell?_of_block (Below.heap_setCell _ _ _ _ hne)).more (by simp)
theorem heap_put0 {w : World} {g : Nat} {a : Value} {t : TypeId} (hg : w.heap[g]? = some (.cells #[a] t (0, 0))) (v : Value) : (w.setCell ⟨g, 0, none⟩ v).heap[g]? = some (.cells #[v] t (0, 0)) := heap_setA hg v
theorem stay1_any (gb g n k : Nat) (b : Bool) (w : World) (h0 : w.cell? ⟨gb, 0, none⟩ = some (.slice (some ⟨g, 0, none⟩) n n)) (hk : k < n) (h1 : w.cell? ⟨g, k, none⟩ = some (.bool b)) :
    Calls Try.prog 96 #[.int .i64 (k : Int), .pointer (some ⟨gb, 0, none⟩)] w fun e w' => e = .returned (.bool b) ∧ Below w.heap.size w w' := by
  go_enter Try.func96, Try.ntmps96
  go_wp2_with fail
  go_ret
  exact ⟨rfl, Below.refl _ _⟩
theorem stay2_any (gb n c k : Nat) (A : Option Addr) (l : List II) (w : World) (h0 : w.cell? ⟨gb, 0, none⟩ = some (.slice A n c)) (hk : k < n) (h : InsR w w.heap.size A n l) (hn : n ≤ 1000000) :
    Calls Try.prog 97 #[.int .i64 (k : Int), .pointer (some ⟨gb, 0, none⟩)] w fun e w' => e = .returned (.bool (stayB l k)) ∧ Below w.heap.size w w' := by
  have hgb : gb < w.heap.size := World.block_lt_of_cell? w _ h0
  obtain ⟨x, hx⟩ : ∃ x, l[k]? = some x := ⟨_, List.getElem?_eq_getElem (by rw [← h.1]; exact hk)⟩
  obtain ⟨b, off, rfl, hb, e0, e1, e2, e3, e4, e5⟩ := h.at hx
  have HST := Lib.hid (show stayB l k = (!idleI x k || k == n - 1) by unfold stayB; rw [hx, h.1])
  obtain ⟨xo, xa, xb, xc, xd, xe⟩ := x
  simp only at e0 e1 e2 e3 e4 e5
  have HID := Lib.hid (fun W => idle_any xo xa xb xc xd xe k W (by omega))
  generalize stayB l k = sb at *
  generalize idleI ⟨xo, xa, xb, xc, xd, xe⟩ k = ib at *
  clear h hx
  go_enter Try.func97, Try.ntmps97
  go_wp2_with fail
  refine Calls.mono (HID.out w) ?_
  rintro e w1 ⟨rfl, hb1⟩
  have h0 : w1.cell? ⟨gb, 0, none⟩ = some (.slice (some ⟨b, off, none⟩) n c) := (hb1.cell (p := ⟨gb, 0, none⟩) hgb).trans h0
  have HB := Lib.hid hb1
  clear hb1
  cases ib with
  | false =>
    go_wp2_with fail
    go_ret
    exact ⟨by rw [HST.out]; rfl, HB.out⟩
  | true =>
    by_cases hkn : k = n - 1
    · have hki : ((k : Int) == (n : Int) - 1) = true := by simp; omega
      have HKB := Lib.hid (show (k == n - 1) = true by simpa using hkn)
      clear hkn
      go_wp2_with fail
      go_ret
      exact ⟨by rw [HST.out, HKB.out]; simp, HB.out⟩
    · have hki : ((k : Int) == (n : Int) - 1) = false := by simp; omega
      have HKB := Lib.hid (show (k == n - 1) = false by simpa using hkn)
      clear hkn
      go_wp2_with fail
      go_ret
      exact ⟨by rw [HST.out, HKB.out]; simp, HB.out⟩
set_option maxHeartbeats 1000000 in
theorem once_any (A : Option Addr) (n c : Nat) (l : List II) (w : World) (h : InsR w w.heap.size A n l) (hg : Gd l) (hn : n ≤ 1000000) :
    Calls Try.prog 63 #[.slice A n c] w fun e w' => ∃ A' m c', e = .returned (.slice A' m c') ∧ InsM w' (fun b => w.heap.size ≤ b ∧ b < w'.heap.size) A' m (onceV l) ∧ CapR A' m c' ∧ Below w.heap.size w w' := by
  have HI := Lib.hid h
  have HG := Lib.hid hg
  clear h hg
  go_enter Try.func63, Try.ntmps63
  go_wp2_with fail
  refine Calls.mono (thread_any A n c l _ ((HI.out.below (al _)).more (by simp)) HG.out.inb hn) ?_
  rintro e w1 ⟨A1, c1, rfl, h1, hb1⟩
  have HB1 := Lib.hid (sq (al _) hb1)
  have HI1 := Lib.hid h1
  have hbx := (hb1.block w.heap.size (by simp)).trans (heap_alloc_new w _)
  have t0 : w1.cell? ⟨w.heap.size, 0, none⟩ = some (.slice A n c) := by rw [Lib.cell_of_heap hbx]; rfl
  have f0 := Lib.frozen_of_heap hbx 0
  have hw1 : w.heap.size < w1.heap.size := (Array.getElem?_eq_some_iff.1 hbx).1
  have hz1 : n ≤ 1000000 := hn
  have HGA := Lib.hid HG.out.thread
  have HBX := Lib.hid hbx
  have HI2 := Lib.hid (h1.put (o := 0) hbx (.slice A1 n c1))
  have HBX2 := Lib.hid (heap_put0 hbx (.slice A1 n c1))
  have HB2 := Lib.hid (HB1.out.setCell (p := ⟨w.heap.size, 0, none⟩) (Nat.le_refl _) (.slice A1 n c1))
  clear hb1 h1 hbx HBX HB1 HI1
  go_wp2_with fail
  generalize w1.setCell ⟨w.heap.size, 0, none⟩ (.slice A1 n c1) = w2 at *
  clear t0 f0 hw1
  refine Calls.mono (live_any A1 n c1 (thread l) w2 HI2.out HGA.out hn) ?_
  rintro e w3 ⟨g, rfl, hown, hb3⟩
  have HOS := Lib.hid hown
  have HB3 := Lib.hid (sq HB2.out hb3)
  have HI3 := Lib.hid (HI2.out.into (Nat.le_refl _) hb3)
  have hbx3 := (hb3.block w.heap.size (Array.getElem?_eq_some_iff.1 HBX2.out).1).trans HBX2.out
  have HBX3 := Lib.hid hbx3
  have t0 : w3.cell? ⟨w.heap.size, 0, none⟩ = some (.slice A1 n c1) := by rw [Lib.cell_of_heap hbx3]; rfl
  have hw3 : w.heap.size < w3.heap.size := (Array.getElem?_eq_some_iff.1 hbx3).1
  clear hown hb3 hbx3
  go_wp2_with fail
  have hNA : n = (thread l).length := HI3.out.1
  refine Calls.mono (keep1_any A1 n c1 w3.heap.size (thread l) (stayA (thread l)) _ (HI3.out.into (Nat.le_refl _) (al _)) HGA.out.inb hn (fun W hW k hk => by
    obtain ⟨b, hb⟩ : ∃ b, (seenV (thread l))[k]? = some b := ⟨_, List.getElem?_eq_getElem (by rw [seen_len, ← hNA]; exact hk)⟩
    have e : stayA (thread l) k = b := by unfold stayA; rw [hb]; rfl
    rw [e]
    have hc := own1_cell (k := k) HOS.out (u := .bool b) (by rw [List.getElem?_map, hb]; rfl)
    refine stay1_any w3.heap.size g n k b W ?_ hk ?_
    · exact (hW.cell (p := ⟨w3.heap.size, 0, none⟩) (by simp)).trans (by simp [go_sem])
    · exact (hW.cell (p := ⟨g, k, none⟩) (by have := hc.2.2.2; simp; omega)).trans ((World.cell?_alloc_lt _ _ _ hc.2.2.2).trans hc.1))) ?_
  rintro e w4 ⟨A2, m, c2, rfl, h4', _, hb4⟩
  have h4 := h4'.r (B := w4.heap.size) fun b hb => hb.2
  have HGB := Lib.hid HGA.out.keepA
  have HB4 := Lib.hid (sq (sq HB3.out (al _)) hb4)
  have hbx4 := (hb4.block w.heap.size (by simp; omega)).trans ((Lib.alloc_old _ _ _ hw3).trans HBX3.out)
  have t0 : w4.cell? ⟨w.heap.size, 0, none⟩ = some (.slice A1 n c1) := by rw [Lib.cell_of_heap hbx4]; rfl
  have f0 := Lib.frozen_of_heap hbx4 0
  have hm : m ≤ 1000000 := by rw [h4.1, keep_len]; exact Nat.le_trans (cq_le _ _) (by rw [← hNA]; exact hn)
  have HI5 := Lib.hid (h4.put (o := 0) hbx4 (.slice A2 m c2))
  have HBX5 := Lib.hid (heap_put0 hbx4 (.slice A2 m c2))
  have HB5 := Lib.hid (HB4.out.setCell (p := ⟨w.heap.size, 0, none⟩) (Nat.le_refl _) (.slice A2 m c2))
  have HON := Lib.hid (show onceV l = keepV (keepV (thread l) (stayA (thread l))) (stayB (keepV (thread l) (stayA (thread l)))) from rfl)
  clear hb4 hbx4 h4 h4' HB4
  generalize keepV (thread l) (stayA (thread l)) = bl at *
  go_wp2_with fail
  generalize w4.setCell ⟨w.heap.size, 0, none⟩ (.slice A2 m c2) = w5 at *
  refine Calls.mono (keep2_any A2 m c2 w.heap.size bl (stayB bl) w5 HI5.out HGB.out.inb hm (fun W hW k hk => ?_)) ?_
  · refine stay2_any w.heap.size m c2 k A2 bl W ?_ hk (HI5.out.into (Nat.le_refl _) hW) hm
    exact (hW.cell (p := ⟨w.heap.size, 0, none⟩) (Array.getElem?_eq_some_iff.1 HBX5.out).1).trans (by rw [Lib.cell_of_heap HBX5.out]; rfl)
  rintro e w6 ⟨A3, m3, c3, rfl, h6, hc6, hb6⟩
  have HB6 := Lib.hid (sq HB5.out hb6)
  have HI6 := Lib.hid (h6.more (M' := fun b => w.heap.size ≤ b ∧ b < w6.heap.size) fun b hb => ⟨Nat.le_trans HB5.out.size hb.1, hb.2⟩)
  clear hb6 h6
  go_wp2_with fail
  go_ret
  exact ⟨A3, m3, c3, rfl, by rw [HON.out]; exact HI6.out, hc6, HB6.out⟩
end Go.Proofs.Ytapbdfcihheecaa
