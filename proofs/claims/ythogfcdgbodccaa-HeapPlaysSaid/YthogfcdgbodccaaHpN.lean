/- The heap's Blocks. Conditions: none. -/
import Derived.Test.YthogfcdgbodccaaHpM
set_option maxRecDepth 100000
namespace Go.Proofs.Ythogfcdgbodccaa
open Go.ChangeShapes Go.WideShapes Go.ChangeAt Go.RowKit
theorem info_bk : (Try.prog.info? 64).map (fun i => (i.zero, i.size, i.bytes)) = some (some (.agg #[.int .i64 0, .int .i64 0, .slice none 0 0]), 3, 40) := by kernel_rfl
theorem BkM.snoc {w w' : World} {M : Nat → Prop} {bs : List BK} {ds : List Value} {base : Nat} {b : BK} {d : Value} (h : BkM w M bs ds) (hb : Below w.heap.size w w') (hr : w'.ownsRow base 36 2 d b.cells.length (ceL b.cells)) (hd : ∀ q, d.ownBlock = some q → w.heap.size ≤ q ∧ M q) : BkM w' M (bs ++ [b]) (ds ++ [d]) := by
  have hl := h.len
  have old : ∀ (i : Nat) (x : Value) (q : Nat), ds[i]? = some x → x.ownBlock = some q → q < w.heap.size := fun i x q hi hq => by
    have hlt := (List.getElem?_eq_some_iff.1 hi).1
    exact ((h.cr i _ x (List.getElem?_eq_getElem (by omega)) hi).lt q hq).2
  refine ⟨by simp [hl], fun i c x hc hx => ?_, fun i j x y q hi hj hq hq' => ?_, fun i x q hi hq => ?_⟩
  · by_cases hi : i < bs.length
    · rw [List.getElem?_append_left hi] at hc
      rw [List.getElem?_append_left (by omega)] at hx
      exact own_below (h.cr i c x hc hx) hb
    · rw [List.getElem?_append_right (by omega)] at hc hx
      have e : i - bs.length = 0 := by
        rcases hk : i - bs.length with _ | k
        · rfl
        · rw [hk] at hc; simp at hc
      rw [show i - ds.length = 0 by omega] at hx
      rw [e] at hc
      simp at hc hx
      subst hc hx
      exact own_base hr (Nat.zero_le _)
  · by_cases hi' : i < ds.length
    · rw [List.getElem?_append_left hi'] at hi
      by_cases hj' : j < ds.length
      · rw [List.getElem?_append_left hj'] at hj
        exact h.dis i j x y q hi hj hq hq'
      · rw [List.getElem?_append_right (by omega)] at hj
        have := old i x q hi hq
        have hy : y = d := by
          rcases hk : j - ds.length with _ | k
          · rw [hk] at hj; simpa using hj.symm
          · rw [hk] at hj; simp at hj
        subst hy
        have := (hd q hq').1
        omega
    · rw [List.getElem?_append_right (by omega)] at hi
      have hx : x = d ∧ i - ds.length = 0 := by
        rcases hk : i - ds.length with _ | k
        · rw [hk] at hi; exact ⟨by simpa using hi.symm, rfl⟩
        · rw [hk] at hi; simp at hi
      obtain ⟨rfl, h0⟩ := hx
      by_cases hj' : j < ds.length
      · rw [List.getElem?_append_left hj'] at hj
        have h1 := old j y q hj hq'
        have h2 := (hd q hq).1
        omega
      · rw [List.getElem?_append_right (by omega)] at hj
        have h1 : j - ds.length = 0 := by
          rcases hk : j - ds.length with _ | k
          · rfl
          · rw [hk] at hj; simp at hj
        omega
  · by_cases hi' : i < ds.length
    · rw [List.getElem?_append_left hi'] at hi
      exact h.md i x q hi hq
    · rw [List.getElem?_append_right (by omega)] at hi
      have hx : x = d := by
        rcases hk : i - ds.length with _ | k
        · rw [hk] at hi; simpa using hi.symm
        · rw [hk] at hi; simp at hi
      subst hx
      exact (hd q hq).2
theorem BkM.kt {w w' : World} {M : Nat → Prop} {bs : List BK} {ds : List Value} (h : BkM w M bs ds) (hk : KT 64 w w') : BkM w' M bs ds :=
  ⟨h.len, fun i b d h1 h2 => own_stayT (h.cr i b d h1 h2) fun q cs t hq ht => hk q cs t hq (by rw [ht]; decide), h.dis, h.md⟩
theorem BkM.bel {w w' : World} {M : Nat → Prop} {bs : List BK} {ds : List Value} (h : BkM w M bs ds) (hb : Below w.heap.size w w') : BkM w' M bs ds :=
  ⟨h.len, fun i b d h1 h2 => own_below (h.cr i b d h1 h2) hb, h.dis, h.md⟩
/-- A list of blocks that is read. -/
def BlR (w : World) (v : Value) (bs : List BK) : Prop := ∃ A c ds, v = .slice A bs.length c ∧ Rd w w.heap.size 3 A bs.length (blL bs ds) ∧ ds.length = bs.length ∧ ∀ (i : Nat) (b : BK) (d : Value), bs[i]? = some b → ds[i]? = some d → ∃ D cd, d = .slice D b.cells.length cd ∧ Rd w w.heap.size 2 D b.cells.length (ceL b.cells)
theorem BkM.read {w : World} {M : Nat → Prop} {bs : List BK} {ds : List Value} {base : Nat} {v : Value} (h : BkM w M bs ds) (hr : w.ownsRow base 64 3 v bs.length (blL bs ds)) : BlR w v bs := by
  obtain ⟨A, c, rfl⟩ := own_form hr
  refine ⟨A, c, ds, rfl, Rd.of_own hr, h.len, fun i b d h1 h2 => ?_⟩
  have := h.cr i b d h1 h2
  obtain ⟨D, cd, rfl⟩ := own_form this
  exact ⟨D, cd, rfl, Rd.of_own this⟩
theorem BlR.below {w w' : World} {v : Value} {bs : List BK} (h : BlR w v bs) (hb : Below w.heap.size w w') : BlR w' v bs := by
  obtain ⟨A, c, ds, rfl, h1, h2, h3⟩ := h
  refine ⟨A, c, ds, rfl, h1.into (Nat.le_refl _) hb, h2, fun i b d q1 q2 => ?_⟩
  obtain ⟨D, cd, rfl, h4⟩ := h3 i b d q1 q2
  exact ⟨D, cd, rfl, h4.into (Nat.le_refl _) hb⟩
/-- The loop's state. -/
structure BlI (w wr : World) (bs : List BK) (k : Nat) (A : Option Addr) (n c : Nat) (ds : List Value) : Prop where
  row : wr.ownsRow w.heap.size 64 3 (.slice A n c) n (blL (upB bs k) ds)
  len : n = (upB bs k).length
  bk : BkM wr (fun q => w.heap.size ≤ q) (upB bs k) ds
  bel : Below w.heap.size w wr
theorem upB_len {lo : Nat} {bs : List BK} {room : Nat} (h : FitB lo bs room) (k : Nat) : (upB bs k).length ≤ room := by
  have h1 : ∀ l : List BK, l.length ≤ usedB l := fun l => by
    induction l with
    | nil => exact Nat.le_refl _
    | cons x l ih => show l.length + 1 ≤ (x.cells.length + 1) + usedB l; omega
  have h2 := usedB_filter (fun b => decide (b.at_ < k)) bs
  have h3 := usedB_le h
  have h4 := h1 (upB bs k)
  unfold upB at *
  omega
theorem BlI.next {w wr w2 w6 : World} {lo : Nat} {bs : List BK} {room : Nat} {k n c c' c6 : Nat} {A D A6 : Option Addr} {ds : List Value} {b : BK} (h : BlI w wr bs k A n c ds) (hf : FitB lo bs room) (hb : blkAt bs k = some b) (hb2 : Below wr.heap.size wr w2) (hd : w2.ownsRow wr.heap.size 36 2 (.slice D b.cells.length c') b.cells.length (ceL b.cells))
    (hrow : w6.ownsRow w.heap.size 64 3 (.slice A6 (n + 1) c6) (n + 1) (blL (upB bs k) ds ++ blC b (.slice D b.cells.length c'))) (hg : (w2.alloc (.cells #[.int .i64 (k : Int), .int .i64 b.shape, .slice D b.cells.length c'] 64)).grownBy w6 (Value.slice A n c).ownBlock) : BlI w w6 bs (k + 1) A6 (n + 1) c6 (ds ++ [.slice D b.cells.length c']) := by
  have hbk := h.bk.snoc hb2 hd fun q hq => ⟨(hd.lt q hq).1, by have := (hd.lt q hq).1; have := h.bel.size; omega⟩
  have ho2 : (w2.alloc (.cells #[.int .i64 (k : Int), .int .i64 b.shape, .slice D b.cells.length c'] 64)).ownsRow w.heap.size 64 3 (.slice A n c) n (blL (upB bs k) ds) := (own_below h.row hb2).alloc _
  refine ⟨?_, by rw [upB_some hf hb, List.length_append, h.len]; rfl, ?_, ?_⟩
  · rw [upB_some hf hb, blL_app h.bk.len]
    simpa [blL] using hrow
  · rw [upB_some hf hb]
    exact (hbk.bel (al _)).kt (KT.row ho2 hg)
  · refine ((h.bel.trans (hb2.mono h.bel.size)).alloc (Nat.le_trans h.bel.size hb2.size) _).grown hg (by have := h.bel.size; have := hb2.size; simp; omega) fun q hq => (h.row.lt q hq).1
theorem upB_nil (bs : List BK) : upB bs 0 = [] := upB_zero bs
set_option maxHeartbeats 8000000 in
theorem blocks_any {w : World} {P room : Nat} {bs : List BK} {cells : List (Int × Int)} {shapes : List Int} {cv zv sv : Value} (h : HPc w 0 P room bs cells shapes cv zv sv) (h63 : room ≤ 4000) :
    Calls Try.prog 9 #[.pointer (some ⟨P, 0, none⟩)] w fun e w' => ∃ v, e = .returned v ∧ BlR w' v bs ∧ Below w.heap.size w w' := by
  have HC := Lib.hid h
  have HF := Lib.hid h.fit
  have hP : P < w.heap.size := (Array.getElem?_eq_some_iff.1 h.box).1
  obtain ⟨A0, n0, e0⟩ := own_form h.cel
  obtain ⟨A1, n1, e1⟩ := own_form h.siz
  obtain ⟨A2, n2, e2⟩ := own_form h.sha
  subst e0 e1 e2
  obtain ⟨d0, d1, d2⟩ := h.cell0
  obtain ⟨i0, hi, hz0, hz1, hz2⟩ := info_parts info_bk
  clear h
  go_enter Try.func9, Try.ntmps9
  go_wp2_with fail
  go_loopw [3, 14] (fun l v wr => ∃ (k n c : Nat) (A : Option Addr) (ds : List Value), l = .slice A n c ∧ v = .int .i64 (k : Int) ∧ Hid (BlI w wr bs k A n c ds) ∧ Hid (k ≤ room)) (fun _ v _ => room - (intOf v).toNat)
  case atStart => exact ⟨0, 0, 0, none, [], rfl, rfl, Lib.hid ⟨by rw [upB_zero]; exact World.ownsRow_nil _ _ _ _, by rw [upB_zero]; rfl, by rw [upB_zero]; exact ⟨rfl, fun i b d h => (by simp at h), fun i j d d' q h => (by simp at h), fun i d q h => (by simp at h)⟩, Below.refl _ _⟩, Lib.hid (Nat.zero_le _)⟩
  case round =>
    obtain ⟨k, n, c, A, ds, rfl, rfl, HI, HK⟩ := hrel
    by_cases hlt : (k : Int) < (room : Int)
    · have hkr : k < room := by omega
      have HCW := Lib.hid (HC.out.below HI.out.bel)
      obtain ⟨Z, n1', e1, d3⟩ := HCW.out.size hkr
      injection e1 with e1 _ e1'
      subst e1 e1'
      cases hv : blkAt bs k with
      | none =>
        rw [hv] at d3
        simp only at d3
        have HI2 := Lib.hid (show BlI w wr bs (k + 1) A n c ds from ⟨by rw [upB_none hv]; exact HI.out.row, by rw [upB_none hv]; exact HI.out.len, by rw [upB_none hv]; exact HI.out.bk, HI.out.bel⟩)
        clear hv
        go_wp2_with fail
        go_roundw
        case rel => exact ⟨k + 1, n, c, A, ds, rfl, by simp, HI2, Lib.hid (by omega)⟩
        case measure => simp [intOf]; omega
      | some b =>
        rw [hv] at d3
        simp only at d3
        have HV := Lib.hid hv
        obtain ⟨hbm, hbe⟩ := blkAt_mem hv
        have hbf := (HC.out.fit.ge b hbm).2
        have hfin : b.fin = b.at_ + 1 + b.cells.length := rfl
        obtain ⟨S, n2', e2, d4, hSl, _⟩ := HCW.out.shape (a := k) (b := b) hv
        injection e2 with e2 _ e2'
        subst e2 e2'
        obtain ⟨C, n0', e3, _⟩ := HCW.out.cel.form (by omega)
        injection e3 with e3 _ e3'
        subst e3 e3'
        have hcap := (own_cap HCW.out.cel).1
        obtain ⟨q0, q1, q2⟩ := HCW.out.cell0
        have HRD := Lib.hid (fun AX hA => HCW.out.rdB HV.out AX hA)
        have hPl : P < wr.heap.size := (Array.getElem?_eq_some_iff.1 HCW.out.box).1
        have hnl : n ≤ 4000 := by have h1 := HI.out.len; have h2 := upB_len HF.out k; omega
        have HBS := Lib.hid HI.out.bel.size
        have HK6 := Lib.hid (show ∀ w6 : World, wr.heap.size ≤ w6.heap.size → (∀ q, q < wr.heap.size → w6.heap[q]? = wr.heap[q]?) → w6.cell? ⟨P, 0, none⟩ = some (.slice (some ⟨C, 0, none⟩) room n0) ∧ w6.cell? ⟨P, 2, none⟩ = some (.slice (some ⟨S, 0, none⟩) room n2) ∧ w6.cell? ⟨S, k, none⟩ = some (.int .i64 b.shape) from fun w6 hs hk =>
          ⟨(World.cell?_of_block (hk P hPl)).trans q0, (World.cell?_of_block (hk P hPl)).trans q2, (World.cell?_of_block (hk S hSl)).trans d4⟩)
        have HRO := Lib.hid (show ∀ (w2 : World) (o : Obj), Below wr.heap.size wr w2 → (w2.alloc o).ownsRow w.heap.size 64 3 (.slice A n c) n (blL (upB bs k) ds) from fun w2 o hb => (own_below HI.out.row hb).alloc _)
        have HK7 := Lib.hid (show ∀ (w2 w6 : World) (o : Obj), Below wr.heap.size wr w2 → (∀ q, q < (w2.alloc o).heap.size → some q ≠ (Value.slice A n c).ownBlock → w6.heap[q]? = (w2.alloc o).heap[q]?) → w6.cell? ⟨P, 0, none⟩ = some (.slice (some ⟨C, 0, none⟩) room n0) ∧ w6.cell? ⟨P, 2, none⟩ = some (.slice (some ⟨S, 0, none⟩) room n2) ∧ w6.cell? ⟨S, k, none⟩ = some (.int .i64 b.shape) from fun w2 w6 o hb hk => by
          have hs := hb.size
          have key : ∀ q, q < wr.heap.size → some q ≠ (Value.slice A n c).ownBlock → w6.heap[q]? = wr.heap[q]? := fun q hq hn => (hk q (by simp; omega) hn).trans ((Lib.alloc_old _ _ _ (by omega)).trans (hb.block q hq))
          have nP : some P ≠ (Value.slice A n c).ownBlock := fun e => own_neP HI.out.row HCW.out.box (by decide) e.symm
          have nS : some S ≠ (Value.slice A n c).ownBlock := fun e => own_ne HI.out.row HCW.out.sha (by decide) S e.symm rfl
          exact ⟨(World.cell?_of_block (key P hPl nP)).trans q0, (World.cell?_of_block (key P hPl nP)).trans q2, (World.cell?_of_block (key S hSl nS)).trans d4⟩)
        have hwr1 : IntKind.i64.wrap ((k : Int) + 1) = (k : Int) + 1 := IntWalk.i64_in _ (by omega)
        have hwr2 : IntKind.i64.wrap ((k : Int) + ((b.cells.length + 1 : Nat) : Int)) = ((k + 1 + b.cells.length : Nat) : Int) := by rw [show (k : Int) + ((b.cells.length + 1 : Nat) : Int) = ((k + 1 + b.cells.length : Nat) : Int) by omega]; exact IntWalk.i64_in _ (by omega)
        have hE1 : k + 1 + b.cells.length ≤ n0 := by omega
        have hE3 : k + 1 + b.cells.length - (k + 1) = b.cells.length := by omega
        have hm300 : b.cells.length ≤ 4000 := by omega
        have hzero : n0 = k + 1 → b.cells.length = 0 := fun e => by omega
        have hv1 : (0 : Int) < ((b.cells.length + 1 : Nat) : Int) := by omega
        have hS1 : (0 : Int) ≤ (k : Int) + 1 := by omega
        have hS2 : (k : Int) + 1 ≤ ((k + 1 + b.cells.length : Nat) : Int) := by omega
        have hS3 : ((k : Int) + 1).toNat = k + 1 := by omega
        have hS4 : ((k + 1 + b.cells.length : Nat) : Int) ≤ (n0 : Int) := by omega
        have hE2 : k + 1 ≤ k + 1 + b.cells.length := by omega
        have HBE := Lib.hid hbe
        clear hv hbm hbe hbf hfin hcap
        generalize hmm2 : b.cells.length = m at hwr2 hE1 hE2 hE3 hm300 hzero d3 hv1 hS2 hS4
        have HMQ := Lib.hid hmm2
        rw [hmm2] at HRD
        clear hmm2
        generalize hv : ((m + 1 : Nat) : Int) = v at hwr2 d3 hv1
        clear hv
        generalize k + 1 + m = E at hwr2 hE1 hE2 hE3 hS2 hS4
        by_cases hz : n0 = k + 1
        · have hm0 := hzero hz
          have hEe : E = k + 1 := by omega
          subst hEe
          have HM0 := Lib.hid hm0
          clear hm0
          go_wp2_with fail
          go_region_held3 (fun w' => w'.cell? ⟨P, 0, none⟩ = some (.slice (some ⟨C, 0, none⟩) room n0) ∧ w'.cell? ⟨P, 2, none⟩ = some (.slice (some ⟨S, 0, none⟩) room n2) ∧ w'.cell? ⟨S, k, none⟩ = some (.int .i64 b.shape)) (go_keep) (first | (go_at_call 28; refine Calls.mono (clone_any (some ⟨C, 0, none⟩) 0 _ b.cells _ (by have := HRD.out (some ⟨C, 0, none⟩) (.inr HM0.out); rw [HM0.out] at this; exact this) (by omega)) ?_; rintro e w2 ⟨D, c', rfl, hcl, hb2⟩; have hb2' : Below wr.heap.size wr w2 := ⟨hb2.os, hb2.tape, hb2.output, hb2.size, hb2.block⟩; have hs2 := HK6.out w2 (hb2.size) hb2.block; obtain ⟨hs60, hs62, hs63⟩ := hs2) | (refine step_append_flat rfl (.tmp 21) (.tmp 42) 41 rfl w.heap.size 64 i0 _ 3 40 Try.underlying41 hi hz0 hz1 hz2 rfl (by omega) (.slice A n c) n (blL (upB bs k) ds) rfl (HRO.out _ _ hb2') _ _ 1 1 [.int .i64 (k : Int), .int .i64 b.shape, .slice D 0 c'] rfl (Rd.one _ _ _ 3 rfl _ (by simp)) (by intro u hu; simp at hu; rcases hu with rfl | rfl | rfl <;> rfl) (by unfold maxLen; omega) (by omega) (by have h1 := hb2'.size; have h2 := HBS.out; simp; omega) ?_; intro A6 c6 w6 hown6 hgrow6; have hs7 := HK7.out w2 w6 _ hb2' hgrow6.block; obtain ⟨hs70, hs72, hs73⟩ := hs7))
          have HCL := Lib.hid (show w2.ownsRow wr.heap.size 36 2 (.slice D b.cells.length c') b.cells.length (ceL b.cells) by rw [HMQ.out, HM0.out]; exact hcl)
          have HT := Lib.hid (HI.out.next (w6 := w6) (A6 := A6) (c6 := c6) HF.out HV.out hb2' HCL.out (by simpa [blC, HMQ.out, HM0.out, HBE.out] using hown6) (by rw [HMQ.out, HM0.out]; exact ⟨hgrow6.os, hgrow6.tape, hgrow6.output, hgrow6.size, hgrow6.block⟩))
          rw [HMQ.out, HM0.out] at HT
          clear hown6 hgrow6 hcl hb2 hb2' hs60 hs62 hs63 hs70 hs72 hs73
          go_wp2_with fail
          exact ⟨⟨k + 1, n + 1, c6, A6, _, rfl, by simp, HT, Lib.hid (by omega)⟩, by simp [intOf]; omega⟩
        · go_wp2_with fail
          go_region_held3 (fun w' => w'.cell? ⟨P, 0, none⟩ = some (.slice (some ⟨C, 0, none⟩) room n0) ∧ w'.cell? ⟨P, 2, none⟩ = some (.slice (some ⟨S, 0, none⟩) room n2) ∧ w'.cell? ⟨S, k, none⟩ = some (.int .i64 b.shape)) (go_keep) (first | (go_at_call 28; refine Calls.mono (clone_any (some ⟨C, (k + 1) * 2, none⟩) m _ b.cells _ (HRD.out _ (.inl rfl)) (by omega)) ?_; rintro e w2 ⟨D, c', rfl, hcl, hb2⟩; have hb2' : Below wr.heap.size wr w2 := ⟨hb2.os, hb2.tape, hb2.output, hb2.size, hb2.block⟩; have hs2 := HK6.out w2 (hb2.size) hb2.block; obtain ⟨hs60, hs62, hs63⟩ := hs2) | (refine step_append_flat rfl (.tmp 21) (.tmp 42) 41 rfl w.heap.size 64 i0 _ 3 40 Try.underlying41 hi hz0 hz1 hz2 rfl (by omega) (.slice A n c) n (blL (upB bs k) ds) rfl (HRO.out _ _ hb2') _ _ 1 1 [.int .i64 (k : Int), .int .i64 b.shape, .slice D m c'] rfl (Rd.one _ _ _ 3 rfl _ (by simp)) (by intro u hu; simp at hu; rcases hu with rfl | rfl | rfl <;> rfl) (by unfold maxLen; omega) (by omega) (by have h1 := hb2'.size; have h2 := HBS.out; simp; omega) ?_; intro A6 c6 w6 hown6 hgrow6; have hs7 := HK7.out w2 w6 _ hb2' hgrow6.block; obtain ⟨hs70, hs72, hs73⟩ := hs7))
          have HCL := Lib.hid (show w2.ownsRow wr.heap.size 36 2 (.slice D b.cells.length c') b.cells.length (ceL b.cells) by rw [HMQ.out]; exact hcl)
          have HT := Lib.hid (HI.out.next (w6 := w6) (A6 := A6) (c6 := c6) HF.out HV.out hb2' HCL.out (by simpa [blC, HMQ.out, HBE.out] using hown6) (by rw [HMQ.out]; exact ⟨hgrow6.os, hgrow6.tape, hgrow6.output, hgrow6.size, hgrow6.block⟩))
          rw [HMQ.out] at HT
          clear hown6 hgrow6 hcl hb2 hb2' hs60 hs62 hs63 hs70 hs72 hs73
          go_wp2_with fail
          exact ⟨⟨k + 1, n + 1, c6, A6, _, rfl, by simp, HT, Lib.hid (by omega)⟩, by simp [intOf]; omega⟩
    · go_wp2_with fail
      go_ret
      have e : k = room := by have := HK.out; omega
      have hr := HI.out.row
      have hb := HI.out.bk
      rw [e, upB_all HF.out] at hr hb
      rw [HI.out.len, e, upB_all HF.out] at hr ⊢
      exact ⟨_, rfl, hb.read hr, HI.out.bel⟩
end Go.Proofs.Ythogfcdgbodccaa
