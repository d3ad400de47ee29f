/- The document's 'pushed', 'CopyState', 'phased'. Conditions: bounds; what holds of all states that are come to. -/
import Derived.Test.YtapofohbngkekaaPnG
set_option maxRecDepth 100000
namespace Go.Proofs.Ytapofohbngkekaa
open Go.ChangeShapes Go.WideShapes Go.ChangeAt Go.RowKit
theorem frL_oneCell {l : List FR} {ds : List Value} (h : ∀ d ∈ ds, ∃ (A : Option Addr) (n c : Nat), d = .slice A n c) : ∀ u ∈ frL l ds, u.oneCell' = true := by
  intro u hu
  obtain ⟨c, hc, hu⟩ := List.mem_flatten.1 hu
  obtain ⟨i, hi, rfl⟩ := List.mem_iff_getElem.1 hc
  rw [List.getElem_zipWith] at hu
  simp only [frC, List.mem_cons, List.not_mem_nil, or_false] at hu
  rcases hu with rfl | rfl | rfl | rfl | rfl
  · rfl
  · rfl
  · rfl
  · rfl
  · have hid : i < ds.length := by have := hi; rw [List.length_zipWith] at this; omega
    obtain ⟨A, n, c, e⟩ := h ds[i] (List.getElem_mem hid)
    rw [e]
    rfl
theorem FrR.slices {w : World} {B : Nat} {A : Option Addr} {l : List FR} {ds : List Value} (h : FrR w B A l ds) : ∀ d ∈ ds, ∃ A n c, d = .slice A n c := by
  intro d hd
  obtain ⟨i, hi, rfl⟩ := List.mem_iff_getElem.1 hd
  have hil : i < l.length := by rw [← h.len]; exact hi
  obtain ⟨D, c, e, _⟩ := h.dr i l[i] ds[i] (List.getElem?_eq_getElem hil) (List.getElem?_eq_getElem hi)
  exact ⟨_, _, _, e⟩
theorem FrR.form {w : World} {B i : Nat} {A : Option Addr} {l : List FR} {ds : List Value} (h : FrR w B A l ds) {f : FR} (hf : l[i]? = some f) : ∃ d, ds[i]? = some d := ⟨_, List.getElem?_eq_getElem (by rw [h.len]; exact (List.getElem?_eq_some_iff.1 hf).1)⟩
theorem keep_low {w5 W w6 : World} {b n size : Nat} {e : TypeId} {v : Value} {xs : List Value} (ho : W.ownsRow b e size v n xs) (hW : Below w5.heap.size w5 W) (hg : W.grownBy w6 v.ownBlock) (hz : b ≤ w5.heap.size) : ∀ k, k < b → w6.heap[k]? = w5.heap[k]? := fun k hk =>
  (hg.block k (by have := hW.size; omega) (fun e => by have := (ho.lt k e.symm).1; omega)).trans (hW.block k (by omega))
theorem below_low {w5 W w6 : World} {b n size : Nat} {e : TypeId} {v : Value} {xs : List Value} (ho : W.ownsRow b e size v n xs) (hW : Below w5.heap.size w5 W) (hg : W.grownBy w6 v.ownBlock) (hz : b ≤ w5.heap.size) : Below b w5 w6 :=
  (hW.mono hz).grown hg (Nat.le_trans hz hW.size) (fun q hq => (ho.lt q hq).1)
theorem rd_blk {W : World} {g : Nat} {l : List Value} {t : TypeId} {z : Nat × Nat} (h : W.heap[g]? = some (.cells l.toArray t z)) : Rd W W.heap.size l.length (some ⟨g, 0, none⟩) 1 l := by
  refine ⟨by simp, fun _ => ⟨g, 0, rfl, (Array.getElem?_eq_some_iff.1 h).1, fun j u hu => ?_⟩⟩
  rw [Nat.zero_add, Lib.cell_of_heap h]
  simpa using hu
set_option maxHeartbeats 4000000 in
/-- A state with an activation more. -/
theorem pushed_no (FA PA : Option Addr) (nf fc np pc : Nat) (s : ST) (m p : Int) (w : World) (hn : nf = s.fr.length) (h30 : 30 ≤ nf) :
    Calls Try.prog 48 #[stV (.slice FA nf fc) (.slice PA np pc) s, .int .i64 m, .int .i64 p] w fun e w' => e = .returned (.tuple #[stV (.slice FA nf fc) (.slice PA np pc) s, .bool false]) ∧ Below w.heap.size w w' := by
  have h1 : (30 : Int) ≤ (nf : Int) := by omega
  clear hn h30
  go_enter Try.func48, Try.ntmps48
  go_wp2_with fail
  refine bodyPost_ret (v := .tuple #[stV (.slice FA nf fc) (.slice PA np pc) s, .bool false]) (by simp [results, Try.results48, go_sem]) rfl ?_
  exact ⟨rfl, sq (al _) (al _)⟩
set_option maxHeartbeats 4000000 in
theorem pushed_yes (FA PA : Option Addr) (nf fc np pc : Nat) (s : ST) (ds : List Value) (m p : Int) (w : World) (hn : nf = s.fr.length) (h30 : nf < 30) (hfr : FrR w w.heap.size FA s.fr ds) (hnx : s.next ≤ 1000000) :
    Calls Try.prog 48 #[stV (.slice FA nf fc) (.slice PA np pc) s, .int .i64 m, .int .i64 p] w fun e w' => ∃ F c, e = .returned (.tuple #[stV (.slice (some ⟨F, 0, none⟩) (nf + 1) c) (.slice PA np pc) (pushS s m p), .bool true]) ∧ w'.ownsRow w.heap.size 93 5 (.slice (some ⟨F, 0, none⟩) (nf + 1) c) (nf + 1) (frL (pushS s m p).fr (ds ++ [.slice none 0 0])) ∧ Below w.heap.size w w' := by
  obtain ⟨j0, hj, jz0, jz1, jz2⟩ := info_parts info_frame
  have h1 : ¬ (30 : Int) ≤ (nf : Int) := by omega
  have HFR := Lib.hid (show Rd w w.heap.size 5 FA nf (frL s.fr ds) by rw [hn]; exact hfr.row)
  have HOC := Lib.hid (frL_oneCell (l := s.fr) hfr.slices)
  have HN := Lib.hid hn
  have HLN := Lib.hid hfr.len
  clear hn hfr
  go_enter Try.func48, Try.ntmps48
  go_wp2_with fail
  have HX0 := Lib.hid ((Lib.alloc_old (w.alloc (.cells (stC (.slice FA nf fc) (.slice PA np pc) s) 56)) (.cells #[.slice none 0 0, .slice none 0 0, .int .i64 0, .int .i64 0, .int .i64 0, .int .i64 0] 56) w.heap.size (by simp)).trans (heap_alloc_new w _))
  have HR0 := Lib.hid (heap_atN (w := w.alloc (.cells (stC (.slice FA nf fc) (.slice PA np pc) s) 56)) (n := w.heap.size + 1) (.cells #[.slice none 0 0, .slice none 0 0, .int .i64 0, .int .i64 0, .int .i64 0, .int .i64 0] 56) (by simp))
  have HB0 := Lib.hid (show Below w.heap.size w ((w.alloc (.cells (stC (.slice FA nf fc) (.slice PA np pc) s) 56)).alloc (.cells #[.slice none 0 0, .slice none 0 0, .int .i64 0, .int .i64 0, .int .i64 0, .int .i64 0] 56)) from sq (al _) (al _))
  have hz0 : w.heap.size + 1 < ((w.alloc (.cells (stC (.slice FA nf fc) (.slice PA np pc) s) 56)).alloc (.cells #[.slice none 0 0, .slice none 0 0, .int .i64 0, .int .i64 0, .int .i64 0, .int .i64 0] 56)).heap.size := by simp
  unfold stC at HX0 HR0 HB0 hz0
  generalize hw0 : (w.alloc (.cells #[.slice FA nf fc, .slice PA np pc, .int .i64 (s.next : Int), .int .i64 (s.ser : Int), .int .i64 s.en, .int .i64 s.st] 56)).alloc (.cells #[.slice none 0 0, .slice none 0 0, .int .i64 0, .int .i64 0, .int .i64 0, .int .i64 0] 56) = w0 at *
  clear hw0
  have g0 : w0.cell? ⟨w.heap.size, 0, none⟩ = some (.slice FA nf fc) := by rw [Lib.cell_of_heap HX0.out]; rfl
  have g2 : w0.cell? ⟨w.heap.size, 2, none⟩ = some (.int .i64 (s.next : Int)) := by rw [Lib.cell_of_heap HX0.out]; rfl
  have hz1 : w.heap.size < w0.heap.size := by omega
  have HRW := Lib.hid (fun W (hW : Below w0.heap.size w0 W) => HFR.out.below (HB0.out.trans (hW.mono (by omega))))
  have HKW := Lib.hid (fun (W w5 : World) (hW : Below w0.heap.size w0 W) (hg : W.grownBy w5 (Value.slice none 0 0).ownBlock) (k : Nat) (hk : k < W.heap.size) => show w5.heap[k]? = W.heap[k]? from hg.block k hk (by simp [Value.ownBlock]))
  go_region_law (first
    | (refine step_append_flat rfl (.const (.slice none 0 0)) (.tmp 14) 53 rfl w0.heap.size 93 j0 _ 5 56 Try.underlying53 hj jz0 jz1 jz2 rfl (by omega) (.slice none 0 0) 0 [] rfl (World.ownsRow_nil _ _ _ _) _ FA nf fc (frL s.fr ds) rfl (HRW.out _ (by first | exact (Below.refl _ _).drew | exact ((Below.refl _ _).drew).alloc (by simp) _)) HOC.out (by unfold maxLen; omega) (by omega) (by first | exact Nat.le_refl _ | simp) ?_; intro A5 c5 w5 hown5 hgrow5; rw [Nat.zero_add, List.nil_append] at hown5; have hk5 := HKW.out _ _ (by first | exact (Below.refl _ _).drew | exact ((Below.refl _ _).drew).alloc (by simp) _) hgrow5; have hs5 := hgrow5.size; have bx5 := (hk5 w.heap.size (by first | exact hz1 | (simp; omega))).trans (((show Below w0.heap.size w0 _ from (by first | exact (Below.refl _ _).drew | exact ((Below.refl _ _).drew).alloc (by simp) _)).block w.heap.size hz1).trans HX0.out); have rx5 := (hk5 (w.heap.size + 1) (by first | exact hz0 | (simp; omega))).trans (((show Below w0.heap.size w0 _ from (by first | exact (Below.refl _ _).drew | exact ((Below.refl _ _).drew).alloc (by simp) _)).block (w.heap.size + 1) hz0).trans HR0.out); have ha5 := hk5 w0.heap.size; have hzz : w0.heap.size ≤ w5.heap.size := Nat.le_trans (by first | exact Nat.le_refl _ | simp) hs5; have g2 : w5.cell? ⟨w.heap.size, 2, none⟩ = some (.int .i64 (s.next : Int)) := (by rw [Lib.cell_of_heap bx5]; rfl); have HB5 := Lib.hid ((show Below w0.heap.size w0 _ from (by first | exact (Below.refl _ _).drew | exact ((Below.refl _ _).drew).alloc (by simp) _)).grown hgrow5 (by first | exact Nat.le_refl _ | simp) (fun q hq => by simp [Value.ownBlock] at hq)))
    | (refine step_append_flat rfl (.tmp 15) (.tmp 21) 53 rfl w0.heap.size 93 j0 _ 5 56 Try.underlying53 hj jz0 jz1 jz2 rfl (by omega) (.slice A5 nf c5) nf (frL s.fr ds) rfl (by first | exact hown5 | exact own_below hown5 (al _)) _ _ 1 1 (frC ⟨s.next, m, p, 0, []⟩ (.slice none 0 0)) rfl (by first | exact Rd.one _ _ _ 5 rfl _ (by simp) | exact rd_blk ((ha5 (by simp)).trans (heap_alloc_new _ _))) (by intro u hu; simp [frC] at hu; rcases hu with rfl | rfl | rfl | rfl | rfl <;> rfl) (by unfold maxLen; omega) (by omega) (by first | exact hzz | (simp; omega)) ?_; intro A6 c6 w6 hown6 hgrow6; have hk6 := keep_low (by first | exact hown5 | exact own_below hown5 (al _)) (by first | exact Below.refl _ _ | exact al _) hgrow6 hzz; have HB6 := Lib.hid (below_low (by first | exact hown5 | exact own_below hown5 (al _)) (by first | exact Below.refl _ _ | exact al _) hgrow6 hzz); have bx6 := (hk6 w.heap.size hz1).trans bx5; have rx6 := (hk6 (w.heap.size + 1) hz0).trans rx5; have c60 : w6.cell? ⟨w.heap.size, 0, none⟩ = some (.slice FA nf fc) := (by rw [Lib.cell_of_heap bx6]; rfl); have c62 : w6.cell? ⟨w.heap.size, 2, none⟩ = some (.int .i64 (s.next : Int)) := (by rw [Lib.cell_of_heap bx6]; rfl); have z6 : ∀ j, w6.frozen? ⟨w.heap.size, j, none⟩ = false := (fun j => Lib.frozen_of_heap bx6 j); have z60 := z6 0; have z62 := z6 2)
    | fail "no")
  all_goals (
    have g60 : w6.cell? ⟨w.heap.size, 0, none⟩ = some (.slice FA nf fc) := by rw [Lib.cell_of_heap bx6]; rfl
    have g61 : w6.cell? ⟨w.heap.size, 1, none⟩ = some (.slice PA np pc) := by rw [Lib.cell_of_heap bx6]; rfl
    have g63 : w6.cell? ⟨w.heap.size, 3, none⟩ = some (.int .i64 (s.ser : Int)) := by rw [Lib.cell_of_heap bx6]; rfl
    have g64 : w6.cell? ⟨w.heap.size, 4, none⟩ = some (.int .i64 s.en) := by rw [Lib.cell_of_heap bx6]; rfl
    have g65 : w6.cell? ⟨w.heap.size, 5, none⟩ = some (.int .i64 s.st) := by rw [Lib.cell_of_heap bx6]; rfl
    have r60 : w6.cell? ⟨w.heap.size + 1, 0, none⟩ = some (.slice none 0 0) := by rw [Lib.cell_of_heap rx6]; rfl
    have r61 : w6.cell? ⟨w.heap.size + 1, 1, none⟩ = some (.slice none 0 0) := by rw [Lib.cell_of_heap rx6]; rfl
    have r62 : w6.cell? ⟨w.heap.size + 1, 2, none⟩ = some (.int .i64 0) := by rw [Lib.cell_of_heap rx6]; rfl
    have r63 : w6.cell? ⟨w.heap.size + 1, 3, none⟩ = some (.int .i64 0) := by rw [Lib.cell_of_heap rx6]; rfl
    have r64 : w6.cell? ⟨w.heap.size + 1, 4, none⟩ = some (.int .i64 0) := by rw [Lib.cell_of_heap rx6]; rfl
    have r65 : w6.cell? ⟨w.heap.size + 1, 5, none⟩ = some (.int .i64 0) := by rw [Lib.cell_of_heap rx6]; rfl
    have y60 := Lib.frozen_of_heap rx6 0
    have y61 := Lib.frozen_of_heap rx6 1
    have y62 := Lib.frozen_of_heap rx6 2
    have y63 := Lib.frozen_of_heap rx6 3
    have y64 := Lib.frozen_of_heap rx6 4
    have y65 := Lib.frozen_of_heap rx6 5
    go_wp2_with fail
    obtain ⟨F, cc, ev, _, _, _, _⟩ := own_formF hown6 (by omega)
    injection ev with ev _ ev2
    subst ev ev2
    have HO6 := Lib.hid hown6
    have HBA := Lib.hid ((HB0.out.trans (HB5.out.mono (by omega))).trans (HB6.out.mono (by omega)))
    clear hown6 hgrow6 hown5 hgrow5 hk5 hk6 ha5
    obtain ⟨w7, hw7, b7, k7, l7, s7⟩ := six_at (w := (w6.setCell ⟨w.heap.size, 0, none⟩ (.slice (some ⟨F, 0, none⟩) (nf + 1) c6)).setCell ⟨w.heap.size, 2, none⟩ (.int .i64 ((s.next : Int) + 1))) (g := w.heap.size + 1) (.slice (some ⟨F, 0, none⟩) (nf + 1) c6) (.slice PA np pc) (.int .i64 ((s.next : Int) + 1)) (.int .i64 (s.ser : Int)) (.int .i64 s.en) (.int .i64 s.st) (by rw [sc_keep (by omega), sc_keep (by omega)]; exact rx6)
    rw [← hw7]
    have r0 : w7.cell? ⟨w.heap.size + 1, 0, none⟩ = some (.slice (some ⟨F, 0, none⟩) (nf + 1) c6) := by rw [Lib.cell_of_heap b7]; rfl
    have r1 : w7.cell? ⟨w.heap.size + 1, 1, none⟩ = some (.slice PA np pc) := by rw [Lib.cell_of_heap b7]; rfl
    have r2 : w7.cell? ⟨w.heap.size + 1, 2, none⟩ = some (.int .i64 ((s.next : Int) + 1)) := by rw [Lib.cell_of_heap b7]; rfl
    have r3 : w7.cell? ⟨w.heap.size + 1, 3, none⟩ = some (.int .i64 (s.ser : Int)) := by rw [Lib.cell_of_heap b7]; rfl
    have r4 : w7.cell? ⟨w.heap.size + 1, 4, none⟩ = some (.int .i64 s.en) := by rw [Lib.cell_of_heap b7]; rfl
    have r5 : w7.cell? ⟨w.heap.size + 1, 5, none⟩ = some (.int .i64 s.st) := by rw [Lib.cell_of_heap b7]; rfl
    have HB7 := Lib.hid (l7 w.heap.size (Nat.le_succ _) w ((HBA.out.setCell (p := ⟨w.heap.size, 0, none⟩) (Nat.le_refl _) _).setCell (p := ⟨w.heap.size, 2, none⟩) (Nat.le_refl _) _))
    have HO7 := Lib.hid (own_stay (w' := w7) HO6.out (fun b hb => by
      have := (HO6.out.lt b hb).1
      rw [k7 b (by omega), sc_keep (by omega), sc_keep (by omega)]))
    clear hw7 b7 k7 l7 s7 HO6 HBA g60 g61 g63 g64 g65 r60 r61 r62 r63 r64 r65 y60 y61 y62 y63 y64 y65 bx6 rx6 c60 c62 z6 z60 z62
    refine bodyPost_ret (v := .tuple #[stV (.slice (some ⟨F, 0, none⟩) (nf + 1) c6) (.slice PA np pc) (pushS s m p), .bool true]) (by simp [results, Try.results48, go_sem, r0, r1, r2, r3, r4, r5, pushS]) rfl ?_
    refine ⟨F, c6, rfl, ?_, HB7.out⟩
    have h3 := own_base HO7.out (by omega : w.heap.size ≤ w0.heap.size)
    rw [← frL_snoc HLN.out] at h3
    exact h3)
end Go.Proofs.Ytapofohbngkekaa
