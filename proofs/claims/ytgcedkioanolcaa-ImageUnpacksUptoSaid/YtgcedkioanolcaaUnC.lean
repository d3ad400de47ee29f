/- image's reader: 'number', 'count', 'text'. Conditions: the bytes are few. -/
import Derived.Test.YtgcedkioanolcaaUnB
import Derived.Deep.CutRange
set_option maxRecDepth 100000
namespace Go.Proofs.Ytgcedkioanolcaa
open Go.ChangeShapes Go.WideShapes Go.ChangeAt Go.RowKit
/-- b[k:] of bytes that are read. -/
theorem slice_from {w : World} {B n c k : Nat} {A : Option Addr} {xs : List Value} (hk : k ≤ n) (hc : n ≤ c) (hr : Rd w B 1 A n xs) :
    ∃ A1, (∀ W, (Instr.slice 68 (.slice A n c) (some (.int .i64 (k : Int))) none none).run Try.prog W = .ok (.slice A1 (n - k) (c - k)) W) ∧ Rd w B 1 A1 (n - k) (xs.drop k) := by
  have hs : ∀ w, (sizeOf (Try.prog.elem 68)).run Try.prog w = .ok 1 w := fun w => by kernel_rfl
  refine ⟨if c = k then A else A.map (·.add k), fun W => ?_, ?_⟩
  · rw [run_slice_l W 68 A n c Try.underlying68 .i64 (k : Int) (by omega) (by omega), hs]
    simp [Result.andThen, sliced]
  · refine ⟨by have := hr.1; simp at this ⊢; omega, fun h0 => ?_⟩
    obtain ⟨b, off, rfl, hb, hcell⟩ := hr.2 (by omega)
    refine ⟨b, off + k, ?_, hb, fun j u hu => ?_⟩
    · rw [if_neg (by omega)]
      simp [Addr.add]
    · rw [List.getElem?_drop] at hu
      have := hcell (k + j) u hu
      rwa [← Nat.add_assoc] at this
/-- b[:k] of bytes that are read. -/
theorem slice_to {w : World} {B n c k : Nat} {A : Option Addr} {xs : List Value} (hk : k ≤ n) (hc : n ≤ c) (hr : Rd w B 1 A n xs) :
    (∀ W, (Instr.slice 68 (.slice A n c) none (some (.int .i64 (k : Int))) none).run Try.prog W = .ok (.slice A k c) W) ∧ Rd w B 1 A k (xs.take k) := by
  have hs : ∀ w, (sizeOf (Try.prog.elem 68)).run Try.prog w = .ok 1 w := fun w => by kernel_rfl
  refine ⟨fun W => ?_, hr.takes hk⟩
  rw [run_slice_h W 68 A n c Try.underlying68 .i64 (k : Int) (by omega) (by omega), hs]
  simp [Result.andThen, sliced]
  rcases A with _ | a
  · simp
  · simp [Addr.add]
/-- The reader in block g: what it has still to read, and whether something was wrong. -/
structure Rdr (B g : Nat) (L : List Int) (bad : Bool) (w : World) : Prop where
  le : B ≤ g
  z : U8s L
  n : L.length ≤ 140737488351232
  ex : ∃ A c, w.heap[g]? = some (.cells #[.slice A L.length c, .bool bad] 120 (0, 0)) ∧ Rd w B 1 A L.length (L.map (Value.int .u8)) ∧ L.length ≤ c
theorem grown_set {w : World} {g o : Nat} (v : Value) : w.grownBy (w.setCell ⟨g, o, none⟩ v) (some g) :=
  ⟨rfl, rfl, rfl, by simp, fun k _ hk => Below.heap_setCell _ _ _ _ (fun e => hk (by rw [e]))⟩
theorem heap_set1 {w : World} {g : Nat} {a b : Value} {t : TypeId} (hg : w.heap[g]? = some (.cells #[a, b] t (0, 0))) (v : Value) : (w.setCell ⟨g, 1, none⟩ v).heap[g]? = some (.cells #[a, v] t (0, 0)) := by
  simp [World.setCell, Array.getElem?_modify, hg]
theorem heap_set0 {w : World} {g : Nat} {a b : Value} {t : TypeId} (hg : w.heap[g]? = some (.cells #[a, b] t (0, 0))) (v : Value) : (w.setCell ⟨g, 0, none⟩ v).heap[g]? = some (.cells #[v, b] t (0, 0)) := by
  simp [World.setCell, Array.getElem?_modify, hg]
theorem Rdr.lt {B g : Nat} {L : List Int} {bad : Bool} {w : World} (h : Rdr B g L bad w) : g < w.heap.size := by
  obtain ⟨A, c, hg, _⟩ := h.ex
  exact (Array.getElem?_eq_some_iff.1 hg).1
theorem Rdr.set1 {B g : Nat} {L : List Int} {bad : Bool} {w : World} (h : Rdr B g L bad w) (b : Bool) : Rdr B g L b (w.setCell ⟨g, 1, none⟩ (.bool b)) := by
  obtain ⟨A, c, hg, hr, hc⟩ := h.ex
  exact ⟨h.le, h.z, h.n, A, c, heap_set1 hg _, hr.setCell (by exact h.le) _, hc⟩
theorem Rdr.keep {B g : Nat} {L : List Int} {bad : Bool} {w w' : World} (h : Rdr B g L bad w) (hb : Below w.heap.size w w') : Rdr B g L bad w' := by
  obtain ⟨A, c, hg, hr, hc⟩ := h.ex
  exact ⟨h.le, h.z, h.n, A, c, (hb.block g h.lt).trans hg, hr.keep fun p hp => hb.cell (Nat.lt_of_lt_of_le hp (Nat.le_trans h.le (Nat.le_of_lt h.lt))), hc⟩
/-- What 'number' answers, and what it leaves. -/
def numS (bad : Bool) (L : List Int) : Int × Bool × List Int := if bad then (0, true, L) else match numP L with | some x => (x.1, false, x.2) | none => (0, true, L)
set_option maxHeartbeats 2000000 in
theorem rdNumber_any (B g : Nat) (L : List Int) (bad : Bool) (w : World) (h : Rdr B g L bad w) :
    Calls Try.prog 92 #[.pointer (some ⟨g, 0, none⟩)] w fun e w' => e = .returned (.int .i64 (numS bad L).1) ∧ Rdr B g (numS bad L).2.2 (numS bad L).2.1 w' ∧ w.grownBy w' (some g) := by
  have HR := Lib.hid h
  have hlt := h.lt
  obtain ⟨A, c, hg, hr, hc⟩ := h.ex
  have c0 : w.cell? ⟨g, 0, none⟩ = some (.slice A L.length c) := by rw [Lib.cell_of_heap hg]; rfl
  have c1 : w.cell? ⟨g, 1, none⟩ = some (.bool bad) := by rw [Lib.cell_of_heap hg]; rfl
  have z0 : w.frozen? ⟨g, 0, none⟩ = false := Lib.frozen_of_heap hg 0
  have z1 : w.frozen? ⟨g, 1, none⟩ = false := Lib.frozen_of_heap hg 1
  have HG := Lib.hid hg
  have HRD := Lib.hid hr
  have HC := Lib.hid hc
  obtain ⟨n, hn⟩ : ∃ n, n = L.length := ⟨_, rfl⟩
  rw [← hn] at c0 HG HRD HC
  have HN := Lib.hid hn
  have HZ := Lib.hid h.z
  have HLE := Lib.hid h.n
  clear h hg hr hc hn
  go_enter Try.func92, Try.ntmps92
  go_wp2_with fail
  refine Calls.mono (imageTake_any A n c L _ (HRD.out.more (by have := HR.out.le; omega)) HZ.out (by have := HLE.out; have := HN.out; omega)) ?_
  rintro e w1 ⟨⟨x, y, z, rfl, htk⟩, rfl⟩
  have HTK := Lib.hid htk
  clear htk
  cases bad with
  | true =>
    go_wp2_with fail
    go_ret
    exact ⟨rfl, HR.out.set1 true, grown_set _⟩
  | false =>
    rcases HTK.out with ⟨t, ht, rfl, rfl, rfl⟩ | ⟨ht, rfl, rfl, rfl⟩
    · have hnum := numP_some (L := L) (t := t) (by rw [← HN.out]; exact ht)
      have HS := Lib.hid (show numS false L = (unzig (hval (by_ L) 0 (t + 1)), false, L.drop (t + 1)) by unfold numS; rw [hnum]; rfl)
      obtain ⟨k, hk⟩ : ∃ k, k = t + 1 := ⟨_, rfl⟩
      have hkn : k ≤ n := by have := ht.1; omega
      obtain ⟨A1, hsl, hr1⟩ := slice_from hkn HC.out HRD.out
      rw [← hk] at HS ⊢
      have HR1 := Lib.hid hr1
      clear ht hnum hk hr1
      generalize unzig (hval (by_ L) 0 k) = x at *
      have b0 : ((0 : Int) != 0) = false := rfl
      go_wp2_with fail
      go_ret
      rw [HS.out]
      refine ⟨rfl, ⟨HR.out.le, fun z hz => HZ.out z (List.mem_of_mem_drop hz), by rw [List.length_drop]; have := HLE.out; omega, A1, c - k, ?_, ?_, ?_⟩, grown_set _⟩
      · rw [List.length_drop, ← HN.out]
        exact heap_set0 HG.out _
      · rw [List.length_drop, ← HN.out]
        show Rd _ B 1 A1 (n - k) ((L.drop k).map (Value.int .u8))
        rw [List.map_drop]
        exact HR1.out.setCell HR.out.le _
      · rw [List.length_drop, ← HN.out]
        have := HC.out
        omega
    · have hnum := numP_none (L := L) (by rw [← HN.out]; exact ht)
      have HS := Lib.hid (show numS false L = (0, true, L) by unfold numS; rw [hnum]; rfl)
      clear ht hnum
      go_wp2_with fail
      go_ret
      rw [HS.out]
      exact ⟨rfl, HR.out.set1 true, grown_set _⟩
def cntS (bad : Bool) (L : List Int) : Nat × Bool × List Int := if (numS bad L).1 < 0 ∨ ((numS bad L).2.2.length : Int) < (numS bad L).1 then (0, true, (numS bad L).2.2) else ((numS bad L).1.toNat, (numS bad L).2.1, (numS bad L).2.2)
theorem cntS_le (bad : Bool) (L : List Int) : (cntS bad L).1 ≤ (cntS bad L).2.2.length := by
  unfold cntS
  split
  · simp
  · simp only
    omega
theorem grown2 {w w1 w2 : World} {g : Nat} (h : w.grownBy w1 (some g)) (k : w1.grownBy w2 (some g)) : w.grownBy w2 (some g) :=
  ⟨k.os.trans h.os, k.tape.trans h.tape, k.output.trans h.output, Nat.le_trans h.size k.size, fun i hi hne => (k.block i (Nat.lt_of_lt_of_le hi h.size) hne).trans (h.block i hi hne)⟩
set_option maxHeartbeats 2000000 in
theorem rdCount_any (B g : Nat) (L : List Int) (bad : Bool) (w : World) (h : Rdr B g L bad w) :
    Calls Try.prog 90 #[.pointer (some ⟨g, 0, none⟩)] w fun e w' => e = .returned (.int .i64 ((cntS bad L).1 : Int)) ∧ Rdr B g (cntS bad L).2.2 (cntS bad L).2.1 w' ∧ w.grownBy w' (some g) := by
  have HR := Lib.hid h
  clear h
  go_enter Try.func90, Try.ntmps90
  go_wp2_with fail
  refine Calls.mono (rdNumber_any B g L bad w HR.out) ?_
  rintro e w1 ⟨rfl, h1, hg1⟩
  have HS := Lib.hid (show cntS bad L = if (numS bad L).1 < 0 ∨ ((numS bad L).2.2.length : Int) < (numS bad L).1 then (0, true, (numS bad L).2.2) else ((numS bad L).1.toNat, (numS bad L).2.1, (numS bad L).2.2) from rfl)
  generalize numS bad L = q at *
  obtain ⟨n, b, R⟩ := q
  simp only at h1 HS ⊢
  have HR1 := Lib.hid h1
  have HG1 := Lib.hid hg1
  obtain ⟨A, c, hg, _, _⟩ := h1.ex
  have c0 : w1.cell? ⟨g, 0, none⟩ = some (.slice A R.length c) := by rw [Lib.cell_of_heap hg]; rfl
  have c1 : w1.cell? ⟨g, 1, none⟩ = some (.bool b) := by rw [Lib.cell_of_heap hg]; rfl
  have z1 : w1.frozen? ⟨g, 1, none⟩ = false := Lib.frozen_of_heap hg 1
  clear h1 hg1 hg
  generalize R.length = m at *
  by_cases h0 : n < 0
  · rw [if_pos (.inl h0)] at HS
    go_wp2_with fail
    go_ret
    rw [HS.out]
    exact ⟨rfl, HR1.out.set1 true, grown2 HG1.out (grown_set _)⟩
  · have h0d : decide (n < 0) = false := by simpa using h0
    by_cases h2 : (m : Int) < n
    · rw [if_pos (.inr h2)] at HS
      go_wp2_with fail
      go_ret
      rw [HS.out]
      exact ⟨rfl, HR1.out.set1 true, grown2 HG1.out (grown_set _)⟩
    · rw [if_neg (by omega)] at HS
      have h2d : decide ((m : Int) < n) = false := by simpa using h2
      have HNN := Lib.hid (show ((n.toNat : Nat) : Int) = n by omega)
      go_wp2_with fail
      go_ret
      rw [HS.out]
      refine ⟨?_, HR1.out, HG1.out⟩
      show Ending.returned (.int .i64 n) = Ending.returned (.int .i64 ((n.toNat : Nat) : Int))
      rw [HNN.out]
def texS (bad : Bool) (L : List Int) : ByteArray × Bool × List Int := (strOfNums ((cntS bad L).2.2.take (cntS bad L).1), (cntS bad L).2.1, (cntS bad L).2.2.drop (cntS bad L).1)
set_option maxHeartbeats 2000000 in
theorem rdText_any (B g : Nat) (L : List Int) (bad : Bool) (w : World) (h : Rdr B g L bad w) :
    Calls Try.prog 91 #[.pointer (some ⟨g, 0, none⟩)] w fun e w' => e = .returned (.string (texS bad L).1) ∧ Rdr B g (texS bad L).2.2 (texS bad L).2.1 w' ∧ w.grownBy w' (some g) := by
  have HR := Lib.hid h
  clear h
  go_enter Try.func91, Try.ntmps91
  go_wp2_with fail
  refine Calls.mono (rdCount_any B g L bad w HR.out) ?_
  rintro e w1 ⟨rfl, h1, hg1⟩
  have hle := cntS_le bad L
  have HS := Lib.hid (show texS bad L = (strOfNums ((cntS bad L).2.2.take (cntS bad L).1), (cntS bad L).2.1, (cntS bad L).2.2.drop (cntS bad L).1) from rfl)
  generalize cntS bad L = q at *
  obtain ⟨k, b, R⟩ := q
  simp only at h1 HS hle ⊢
  have HR1 := Lib.hid h1
  have HG1 := Lib.hid hg1
  obtain ⟨A, c, hg, hr, hc⟩ := h1.ex
  have c0 : w1.cell? ⟨g, 0, none⟩ = some (.slice A R.length c) := by rw [Lib.cell_of_heap hg]; rfl
  have z0 : w1.frozen? ⟨g, 0, none⟩ = false := Lib.frozen_of_heap hg 0
  obtain ⟨hs1, hr1⟩ := slice_to hle hc hr
  obtain ⟨A2, hs2, hr2⟩ := slice_from hle hc hr
  rw [← List.map_take] at hr1
  have hx := run_str_rd (P := Try.prog) (c := c) hr1 68 5 9 Try.underlying68 Try.underlying5 Try.underlying9
  have HGG := Lib.hid hg
  have HR2 := Lib.hid hr2
  have HC := Lib.hid hc
  have HLE := Lib.hid hle
  clear h1 hg1 hg hr hr1 hr2 hle hc
  generalize hm : R.length = m at *
  have HM := Lib.hid hm
  clear hm
  generalize strOfNums (R.take k) = sz at *
  go_wp2_with fail
  go_ret
  rw [HS.out]
  refine ⟨rfl, ⟨HR1.out.le, fun z hz => HR1.out.z z (List.mem_of_mem_drop hz), by rw [List.length_drop]; have := HR1.out.n; omega, A2, c - k, ?_, ?_, ?_⟩, grown2 HG1.out (grown_set _)⟩
  · rw [List.length_drop, HM.out]
    exact heap_set0 HGG.out _
  · rw [List.length_drop, HM.out]
    show Rd _ B 1 A2 (m - k) ((R.drop k).map (Value.int .u8))
    rw [List.map_drop]
    exact HR2.out.setCell HR1.out.le _
  · rw [List.length_drop, HM.out]
    have := HC.out
    omega
end Go.Proofs.Ytgcedkioanolcaa
