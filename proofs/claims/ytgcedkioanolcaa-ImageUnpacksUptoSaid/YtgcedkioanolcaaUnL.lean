/- 'ImageUnpacks' is true of bytes of bulk at most the bound. Conditions: none. -/
import Derived.Test.YtgcedkioanolcaaUnG
import Derived.Test.YtgcedkioanolcaaUnR
import Derived.Test.YtgcedkioanolcaaSmC
set_option maxRecDepth 100000
namespace Go.Proofs.Ytgcedkioanolcaa
open Go.ChangeShapes Go.WideShapes Go.ChangeAt Go.RowKit
def IsUBytes (w : World) (v : Value) : Prop :=
  ∃ (A : Option Addr) (n c : Nat) (zs : List Int), v = .slice A n c ∧ Rd w w.heap.size 1 A n (zs.map (Value.int .u8)) ∧ n ≤ c ∧ U8s zs ∧ zs.length = n ∧ n ≤ 1048576
theorem upto_u {H : Type} {d : DataW H} (hk : Rows.uptoSmall H ([d] ++ [] ++ []) = true) : Rows.uptoBulk d ≤ 1048576 := by
  have h : Rows.uptoBulkAll [d] ≤ 1048576 := of_decide_eq_true hk
  simp only [Rows.uptoBulkAll] at h
  omega
theorem lits_bulk {H : Type} {k : IntKind} : ∀ zs : List Int, zs.length ≤ Rows.uptoBulkAll (lits (H := H) k zs)
  | [] => by simp
  | z :: zs => by
    have := lits_bulk (H := H) (k := k) zs
    simp only [lits, List.map_cons, Rows.uptoBulkAll, Rows.uptoBulk, List.length_cons] at this ⊢
    omega
theorem op_ubytes {H : Type} {enc : TypeId × Value → H} {w : World} {base : Nat} {v : Value} {d : DataW H} {ps : List MemPlace} (hv : Value.okWide Try.prog w .any base 68 v) (h : DataW.Trod enc Try.prog w 0 (fun _ => true) true 68 v d ps) (hlt : ∀ x ∈ ps, x.block < w.heap.size) (hz : ∀ n ∈ d.weights Try.prog 68, n ≤ reachBytes) (hu : Rows.uptoBulk d ≤ 1048576) : IsUBytes w v := by
  obtain ⟨A, n, c, zs, rfl, hr, hc, _, hwf⟩ := op_nums (k := .u8) (bytes := 1) Try.underlying68 Try.underlying5 (by kernel_rfl) (by kernel_rfl) hv h hlt hz
  have hl : zs.length = n := by have := hr.1; simpa using this
  refine ⟨A, n, c, zs, rfl, hr, hc, hwf, hl, ?_⟩
  obtain ⟨fuel, hf⟩ := h
  rcases open_ints Try.underlying68 Try.underlying5 (by kernel_rfl) hf with ⟨hcs, _⟩ | ⟨x, l, c', zs', hcs, _, hll, hm, hzl, hx, hcell, hwz⟩
  · simp [Value.cells] at hcs
    omega
  · simp [Value.cells] at hcs
    obtain ⟨rfl, rfl, rfl⟩ := hcs
    simp only [if_true] at hzl
    simp only [Prod.mk.injEq] at hx
    obtain ⟨rfl, rfl⟩ := hx
    simp only [Rows.uptoBulk] at hu
    have h1 := lits_bulk (H := H) (k := .u8) (zs'.take n)
    rw [List.length_take] at h1
    omega
set_option maxHeartbeats 4000000 in
theorem walkImageUnpacks (v0 : Value) (w : World) (w0 : IsUBytes w v0) : Calls Try.prog 6 #[v0] w fun e w' => e = .returned (.bool true) ∧ Below w.heap.size w w' := by
  obtain ⟨i0, hi, hz0, hz1, hz2⟩ := info_parts info_u8
  obtain ⟨A, n, c, L, rfl, h, hc, hz, hl, hn⟩ := w0
  have HR := Lib.hid h
  have HZ := Lib.hid hz
  have HL := Lib.hid hl
  have HSA := Lib.hid (unpack_same hz)
  clear hz hl
  go_enter Try.func6, Try.ntmps6
  go_wp2_with ((at_builtin; refine wpList_append_new _ rfl _ _ 68 rfl 5 i0 _ 1 1 Try.underlying68 hi hz0 hz1 hz2 rfl (by omega) rfl w.heap.size A n c (L.map (Value.int .u8)) rfl h (ints_oneCell _ _) (by omega) (by unfold maxLen; omega) ?_; intro A1 c1 w1 hown hb))
  have HB1 := Lib.hid hb
  have HR1 := Lib.hid (Rd.of_own hown)
  have hc1 : n ≤ c1 := by
    rcases hown.2 with ⟨h1, _⟩ | ⟨g, cap, cur, h1, _, _, hnc, _⟩
    · simp at h1; omega
    · simp at h1; omega
  clear hown hb h
  refine Calls.mono (unpack_any A1 n c1 L w1 HR1.out HZ.out hn HL.out hc1) ?_
  rintro e w2 ⟨FA, fc, TA, tc, rfl, hk, hb2⟩
  have HB2 := Lib.hid (sq HB1.out hb2)
  have HK := Lib.hid hk
  generalize unpackV L = V at *
  obtain ⟨K, s⟩ := V
  simp only at HK ⊢
  clear hk hb2 HR1 HB1
  obtain ⟨nf, hnf⟩ : ∃ n, n = K.funcs.length := ⟨_, rfl⟩
  obtain ⟨nt, hnt⟩ : ∃ n, n = K.texts.length := ⟨_, rfl⟩
  rw [← hnf, ← hnt]
  have HNF := Lib.hid hnf
  have HNT := Lib.hid hnt
  clear hnf hnt
  go_wp2_with fail
  refine Calls.mono (unpackCode_any A n c L _ ((HR.out.below (sq HB2.out (al _))).more (by have := HB2.out.size; simp; omega)) HZ.out hn HL.out hc) ?_
  rw [HSA.out]
  rintro e w3 ⟨FB, fd, TB, td, rfl, hk3, hb3⟩
  simp only at hk3
  rw [← HNF.out, ← HNT.out]
  have HB3 := Lib.hid (sq (sq HB2.out (al _)) hb3)
  have HK3 := Lib.hid hk3
  have HKX := Lib.hid (((HK.out.into (al (.cells #[.slice FA nf fc, .slice TA nt tc] 72))).into (hb3.mono (by simp))).more (B' := w3.heap.size) (by have := hb3.size; simp at this; omega))
  have h2 := (hb3.block w2.heap.size (by simp)).trans (heap_alloc_new w2 _)
  have u0 : w3.cell? ⟨w2.heap.size, 0, none⟩ = some (.slice FA nf fc) := by rw [Lib.cell_of_heap h2]; rfl
  have u1 : w3.cell? ⟨w2.heap.size, 1, none⟩ = some (.slice TA nt tc) := by rw [Lib.cell_of_heap h2]; rfl
  have hlt : w2.heap.size < w3.heap.size := (Array.getElem?_eq_some_iff.1 h2).1
  clear hk3 hb3 h2 HK HB2
  go_wp2_with fail
  refine Calls.mono (sameCode_any FA TA FB TB fc tc fd td K K nf nt nf nt _ HNF.out HNT.out HNF.out HNT.out ((HKX.out.into (al _)).more (by simp)) ((HK3.out.into (al _)).more (by simp))) ?_
  rintro e w4 ⟨⟨b, rfl, hbk⟩, hb4⟩
  obtain rfl : b = true := hbk.2 rfl
  have HB4 := Lib.hid (sq (sq HB3.out (al _)) hb4)
  go_wp2_with fail
  go_ret
  exact ⟨rfl, HB4.out⟩
end Go.Proofs.Ytgcedkioanolcaa
