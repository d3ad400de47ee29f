/- The document's 'UnpackCode', walked. Conditions: the bytes are few. -/
import Derived.Test.YtgcedkioanolcaaUnQ
import Derived.Test.YtgcedkioanolcaaUnP
import Derived.Test.YtgcedkioanolcaaUnF
import Derived.Test.YtgcedkioanolcaaIpD
import Derived.Deep.RegionLaw
import Derived.BigQuiet
import Derived.Laws.EntriesVeiled
set_option maxRecDepth 100000
namespace Go.Proofs.Ytgcedkioanolcaa
open Go.ChangeShapes Go.WideShapes Go.ChangeAt Go.RowKit
theorem heap_setAt {w : World} {g o : Nat} {cs : Array Value} {t : TypeId} (hg : w.heap[g]? = some (.cells cs t (0, 0))) (v : Value) : (w.setCell ⟨g, o, none⟩ v).heap[g]? = some (.cells (cs.setIfInBounds o v) t (0, 0)) := by
  simp [World.setCell, Array.getElem?_modify, hg]
/-- A slice of instructions stays where its own row stays. -/
theorem Own.ii {w w' : World} {t : TypeId} {base : Nat} {v : Value} {xs : List II} (h : Own II.sh t w base (· < base) v xs) (hs : w.heap.size ≤ w'.heap.size) (hb : ∀ k, v.ownBlock = some k → w'.heap[k]? = w.heap[k]?) : Own II.sh t w' base (· < base) v xs := by
  obtain ⟨A, c, ess, rfl, hown, hall⟩ := h
  refine ⟨A, c, ess, rfl, own_heap hown hs hb, hall.1, fun i c x hc hx => ?_⟩
  obtain ⟨rfl, q0, q1, q2, q3, q4, q5⟩ := II.elim (hall.2 i c x hc hx)
  exact II.intro q0 q1 q2 q3 q4 q5
/-- In the midst of a function: its box, its instructions so far, what is still to be read. -/
structure MQ (g1 g5 g7 g8 g9 : Nat) (A : Option Addr) (N C : Nat) (D : List Int) (m fb : Nat) (W8 : World) (cf : Array Value) (vi : Value) (I : List II) (L : List Int) (bad : Bool) (w : World) : Prop where
  rd : RQ g1 g1 g5 g7 g8 A N C D m L bad w
  nb : w.heap[g9]? = some (.cells #[numF g1 g5 g7 g8] 45 (0, 0))
  box : w.heap[fb]? = some (.cells cf 128 (0, 0))
  own : Own II.sh 130 w W8.heap.size (· < W8.heap.size) vi I
  ch : Cz (fun k => k = g7 ∨ k = g8 ∨ k = fb) W8 w
  lt : g8 < g9 ∧ g9 < fb ∧ fb < W8.heap.size
section
variable {g1 g5 g7 g8 g9 : Nat} {A : Option Addr} {N C : Nat} {D : List Int} {m fb : Nat} {W8 : World} {cf : Array Value} {vi : Value} {I : List II} {L L' : List Int} {bad bad' : Bool} {w w' : World}
theorem MQ.num (h : MQ g1 g5 g7 g8 g9 A N C D m fb W8 cf vi I L bad w) (hr : RQ g1 g1 g5 g7 g8 A N C D m L' bad' w') (hc : Ch g7 g8 w w') : MQ g1 g5 g7 g8 g9 A N C D m fb W8 cf vi I L' bad' w' := by
  have h1 := h.lt
  have h2 := h.rd.le
  have h3 := h.ch.size
  exact ⟨hr, (hc.blk g9 (by omega) (by omega) (by omega)).trans h.nb, (hc.blk fb (by omega) (by omega) (by omega)).trans h.box, h.own.ii hc.size (fun k hk => hc.blk k (by have := h.own.ownlt hk; omega) (by have := h.own.ownlt hk; omega) (by have := h.own.ownlt hk; omega)), h.ch.ch hc (.inl rfl) (.inr (.inl rfl)), h.lt⟩
theorem MQ.alloc (h : MQ g1 g5 g7 g8 g9 A N C D m fb W8 cf vi I L bad w) (o : Obj) : MQ g1 g5 g7 g8 g9 A N C D m fb W8 cf vi I L bad (w.alloc o) := by
  have h1 := h.lt
  have h3 := h.ch.size
  exact ⟨h.rd.keep (al _), (Lib.alloc_old w o g9 (by omega)).trans h.nb, (Lib.alloc_old w o fb (by omega)).trans h.box, h.own.below (al _), h.ch.alloc _, h.lt⟩
theorem MQ.other (h : MQ g1 g5 g7 g8 g9 A N C D m fb W8 cf vi I L bad w) {ib : Nat} (hi : W8.heap.size ≤ ib) (hne : vi.ownBlock ≠ some ib) (o : Nat) (v : Value) : MQ g1 g5 g7 g8 g9 A N C D m fb W8 cf vi I L bad (w.setCell ⟨ib, o, none⟩ v) := by
  have h1 := h.lt
  have hk : ∀ k, k ≠ ib → (w.setCell ⟨ib, o, none⟩ v).heap[k]? = w.heap[k]? := fun k hk => Below.heap_setCell _ _ _ _ hk
  exact ⟨h.rd.grown (grown_set v) (fun q e => by injection e with e; omega), (hk g9 (by omega)).trans h.nb, (hk fb (by omega)).trans h.box, h.own.ii (by simp) (fun k e => hk k (fun e2 => hne (by rw [e, e2]))), h.ch.set o v (.inr hi), h.lt⟩
theorem MQ.put (h : MQ g1 g5 g7 g8 g9 A N C D m fb W8 cf vi I L bad w) (o : Nat) (v : Value) : MQ g1 g5 g7 g8 g9 A N C D m fb W8 (cf.setIfInBounds o v) vi I L bad (w.setCell ⟨fb, o, none⟩ v) := by
  have h1 := h.lt
  have h2 := h.rd.le
  have hk : ∀ k, k ≠ fb → (w.setCell ⟨fb, o, none⟩ v).heap[k]? = w.heap[k]? := fun k hk => Below.heap_setCell _ _ _ _ hk
  exact ⟨h.rd.grown (grown_set v) (fun q e => by injection e with e; omega), (hk g9 (by omega)).trans h.nb, heap_setAt h.box v, h.own.ii (by simp) (fun k e => hk k (by have := h.own.ownlt e; omega)), h.ch.set o v (.inl (.inr (.inr rfl))), h.lt⟩
theorem MQ.app (h : MQ g1 g5 g7 g8 g9 A N C D m fb W8 cf vi I L bad w) (hg : w.grownBy w' vi.ownBlock) {v' : Value} {I' : List II} (ho : Own II.sh 130 w' W8.heap.size (· < W8.heap.size) v' I') : MQ g1 g5 g7 g8 g9 A N C D m fb W8 cf v' I' L bad w' := by
  have h1 := h.lt
  have h2 := h.rd.le
  have h3 := h.ch.size
  have hq : ∀ q, vi.ownBlock = some q → W8.heap.size ≤ q := fun q e => (h.own.ownlt e).1
  exact ⟨h.rd.grown hg (fun q e => by have := hq q e; omega), (hg.block g9 (by omega) (fun e => by have := hq _ e.symm; omega)).trans h.nb, (hg.block fb (by omega) (fun e => by have := hq _ e.symm; omega)).trans h.box, ho, h.ch.grown hg (fun q e => .inr (hq q e)), h.lt⟩
theorem MQ.n9 (h : MQ g1 g5 g7 g8 g9 A N C D m fb W8 cf vi I L bad w) : w.cell? ⟨g9, 0, none⟩ = some (.func (.func 62) #[] #[.pointer (some ⟨g1, 0, none⟩), .pointer (some ⟨g7, 0, none⟩), .pointer (some ⟨g5, 0, none⟩), .pointer (some ⟨g8, 0, none⟩)]) := by rw [Lib.cell_of_heap h.nb]; rfl
theorem qNum_mid (h : MQ g1 g5 g7 g8 g9 A N C D m fb W8 cf vi I L bad w) : Calls Try.prog 62 #[.pointer (some ⟨g1, 0, none⟩), .pointer (some ⟨g7, 0, none⟩), .pointer (some ⟨g5, 0, none⟩), .pointer (some ⟨g8, 0, none⟩)] w fun e w' => ∃ n b' L', numQ bad L = (n, b', L') ∧ In6 n ∧ e = .returned (.int .i64 n) ∧ MQ g1 g5 g7 g8 g9 A N C D m fb W8 cf vi I L' b' w' ∧ Ch g7 g8 w w' :=
  (qNum_any g1 g1 g5 g7 g8 A N C D m L bad w h.rd).mono fun _ _ ⟨h1, h2, h3⟩ => ⟨_, _, _, rfl, numQ_in h.rd.u8 bad, h1, h.num h2 h3, h3⟩
/-- In the midst of an instruction: its box. -/
structure MI (g1 g5 g7 g8 g9 : Nat) (A : Option Addr) (N C : Nat) (D : List Int) (m fb : Nat) (W8 : World) (cf : Array Value) (vi : Value) (I : List II) (ib : Nat) (ci : Array Value) (L : List Int) (bad : Bool) (w : World) : Prop where
  q : MQ g1 g5 g7 g8 g9 A N C D m fb W8 cf vi I L bad w
  box : w.heap[ib]? = some (.cells ci 130 (0, 0))
  ge : W8.heap.size ≤ ib
  ne : vi.ownBlock ≠ some ib
variable {ib : Nat} {ci : Array Value}
theorem MI.put (h : MI g1 g5 g7 g8 g9 A N C D m fb W8 cf vi I ib ci L bad w) (o : Nat) (v : Value) : MI g1 g5 g7 g8 g9 A N C D m fb W8 cf vi I ib (ci.setIfInBounds o v) L bad (w.setCell ⟨ib, o, none⟩ v) :=
  ⟨h.q.other h.ge h.ne o v, heap_setAt h.box v, h.ge, h.ne⟩
theorem qNum_ins (h : MI g1 g5 g7 g8 g9 A N C D m fb W8 cf vi I ib ci L bad w) : Calls Try.prog 62 #[.pointer (some ⟨g1, 0, none⟩), .pointer (some ⟨g7, 0, none⟩), .pointer (some ⟨g5, 0, none⟩), .pointer (some ⟨g8, 0, none⟩)] w fun e w' => ∃ n b' L', numQ bad L = (n, b', L') ∧ In6 n ∧ e = .returned (.int .i64 n) ∧ MI g1 g5 g7 g8 g9 A N C D m fb W8 cf vi I ib ci L' b' w' :=
  (qNum_mid h.q).mono fun _ _ ⟨n, b', L', h1, h2, h3, h4, h5⟩ => ⟨n, b', L', h1, h2, h3, h4, (h5.blk ib (Array.getElem?_eq_some_iff.1 h.box).1 (by have := h.q.lt; have := h.q.rd.le; have := h.ge; omega) (by have := h.q.lt; have := h.ge; omega)).trans h.box, h.ge, h.ne⟩
theorem MQ.ins (h : MQ g1 g5 g7 g8 g9 A N C D m fb W8 cf vi I L bad w) (ci : Array Value) : MI g1 g5 g7 g8 g9 A N C D m fb W8 cf vi I w.heap.size ci L bad (w.alloc (.cells ci 130)) :=
  ⟨h.alloc _, heap_alloc_new _ _, h.ch.size, fun e => by have := (h.own.ownlt e).2; omega⟩
end
theorem inQ_of {b b1 b2 b3 b4 b5 b6 : Bool} {L L1 L2 L3 L4 L5 L6 : List Int} {n1 n2 n3 n4 n5 n6 : Int} (h1 : numQ b L = (n1, b1, L1)) (h2 : numQ b1 L1 = (n2, b2, L2)) (h3 : numQ b2 L2 = (n3, b3, L3)) (h4 : numQ b3 L3 = (n4, b4, L4)) (h5 : numQ b4 L4 = (n5, b5, L5)) (h6 : numQ b5 L5 = (n6, b6, L6)) :
    inQ b L = (⟨n1, n2, n3, n4, n5, n6⟩, b6, L6) := by
  simp only [inQ, thn, thenS, h1, h2, h3, h4, h5, h6]
theorem numQ_lt' {b b' : Bool} {L L' : List Int} {n : Int} (h : numQ b L = (n, b', L')) : L'.length ≤ L.length ∧ (b' = false → L'.length < L.length ∧ b = false) := by
  have h1 := numQ_le b L
  have h2 := numQ_lt b L
  rw [h] at h1 h2
  refine ⟨h1, fun e => ⟨h2 e, ?_⟩⟩
  cases b with
  | false => rfl
  | true =>
    have h3 := numQ_agrees.1 L
    rw [h] at h3
    rw [← e]
    exact h3.symm
theorem acc4 (f : Nat → Nat) : ((accB f 4 : Nat) : Int) = (f 0 : Int) * 16777216 + (f 1 : Int) * 65536 + (f 2 : Int) * 256 + (f 3 : Int) := by
  simp [accB]
  omega
theorem numQ_less : Less numQ := ⟨numQ_agrees.1, numQ_le⟩
theorem cntQ_less : Less cntQ := ⟨cntQ_agrees.1, numQ_le⟩
theorem inR_lessQ (o : Int) : Less (thn numQ fun a => thn numQ fun b => thn numQ fun c => thn numQ fun d => thn numQ fun e => fun bad L => ((⟨o, a, b, c, d, e⟩ : II), bad, L)) :=
  thenS_less numQ_less fun _ => thenS_less numQ_less fun _ => thenS_less numQ_less fun _ => thenS_less numQ_less fun _ => thenS_less numQ_less fun _ => doneS_less _
theorem inQ_less : Less inQ := by
  have h := thenS_less numQ_less inR_lessQ
  unfold inQ
  exact h
theorem fnR_lessQ (n : ByteArray) : Less (thn numQ fun p => thn numQ fun s => thn numQ fun c => thn cntQ fun k => thn (runL inQ k) fun i => fun bad L => ((⟨n, p, s, c, i⟩ : FF), bad, L)) :=
  thenS_less numQ_less fun _ => thenS_less numQ_less fun _ => thenS_less numQ_less fun _ => thenS_less cntQ_less fun k => thenS_less (runL_less inQ_less k) fun _ => doneS_less _
theorem fnQ_lt (L : List Int) (h : (fnQ false L).2.1 = false) : (fnQ false L).2.2.length < L.length := thenS_len (texQ_lt false) fnR_lessQ L h
/-- What 'Pack' answers, in one. -/
def PackOne (K : KK) (s : Int) (w : World) (e : Ending) (w' : World) : Prop := ∃ A n c, e = .returned (.tuple #[.slice A n c, .int .i64 s]) ∧ Rd w' w'.heap.size 1 A n ((packZ K).map (Value.int .u8)) ∧ n ≤ 1000000000 ∧ Below w.heap.size w w'
theorem PackPost.one {K : KK} {w w' : World} {e : Ending} (h : PackPost K w e w') : PackOne K (soundV K).1 w e w' := by
  obtain ⟨h | h, hb⟩ := h
  · obtain ⟨h0, rfl⟩ := h
    refine ⟨_, _, _, rfl, ?_, by decide, hb⟩
    rw [packZ, if_neg h0]
    exact Rd.nil
  · obtain ⟨h0, A, n, c, rfl, hr, hn⟩ := h
    refine ⟨A, n, c, by rw [h0], ?_, hn, hb⟩
    rw [packZ, if_pos h0]
    exact hr
theorem tailL_wf {s : Int} (h : 0 ≤ s ∧ s < 4294967296) : U8s (tailL s) := by
  intro z hz
  simp only [tailL, List.mem_cons, List.not_mem_nil, or_false] at hz
  simp only [Lit.wf, IntKind.min, IntKind.max, IntKind.bits, IntKind.signed]
  rcases hz with rfl | rfl | rfl | rfl <;> simp <;> omega
theorem packZ_wf (K : KK) : U8s (packZ K) := by
  unfold packZ
  split
  · exact U8s.app (packB_wf K) (tailL_wf (sumP_bd _))
  · intro z hz; simp at hz
theorem str_ne {s t : ByteArray} (h : s ≠ t) : (s.toList == t.toList) = false := by
  apply Bool.eq_false_iff.2
  intro e
  have e1 := of_decide_eq_true (show decide (s.toList = t.toList) = true by simpa using e)
  rw [ByteArray.toList_eq, ByteArray.toList_eq] at e1
  exact h (ByteArray.ext (Array.ext' e1))
theorem nums_ne {a b : List Int} (ha : U8s a) (hb : U8s b) (h : a ≠ b) : strOfNums a ≠ strOfNums b := fun e => h (by rw [← str_nums ha, ← str_nums hb, e])
set_option maxHeartbeats 8000000 in
theorem unpackCode_any (A : Option Addr) (n c : Nat) (L : List Int) (w : World) (h : Rd w w.heap.size 1 A n (L.map (Value.int .u8))) (hz : U8s L) (hn : n ≤ 1048576) (hl : L.length = n) (hc : n ≤ c) :
    Calls Try.prog 26 #[.slice A n c] w (UnPost (unpackR L) w) := by
  obtain ⟨s0, hs, sz0, sz1, sz2⟩ := info_parts info_str
  obtain ⟨i0, hi, hz0, hz1, hz2⟩ := info_parts info_ins
  obtain ⟨j0, hj, jz0, jz1, jz2⟩ := info_parts info_fn
  have HR := Lib.hid h
  have HZ := Lib.hid hz
  have HL := Lib.hid hl
  clear hz
  by_cases h9 : n < 9
  · have e : unpackR L = (⟨[], []⟩, 6) := by unfold unpackR; rw [if_pos (.inl (by omega))]
    rw [e]
    clear e
    have hd : decide ((n : Int) < 9) = true := by simp; omega
    go_enter Try.func26, Try.ntmps26
    go_wp2_with fail
    exact bodyPost_ret (v := .tuple #[.agg #[.slice none 0 0, .slice none 0 0], .int .i64 6]) (by simp [results, Try.results26, go_sem]) rfl ⟨none, 0, none, 0, rfl, KR.nil _ _, sq (sq (al _) (al _)) (al _)⟩
  · obtain ⟨m, rfl⟩ : ∃ m, n = m + 4 := ⟨n - 4, by omega⟩
    have hd9 : decide ((m : Int) + 4 < 9) = false := by simp; omega
    obtain ⟨hs5, hr5⟩ := slice_to (k := 5) (by omega) hc h
    rw [← List.map_take] at hr5
    have hx := run_str_rd (P := Try.prog) (c := c) (((hr5.alloc (Nat.le_refl _) (.cells #[.slice A (m + 4) c] 68)).alloc (by simp) (.cells #[.slice none 0 0, .slice none 0 0] 72)).alloc (by simp; omega) (.cells #[.slice none 0 0, .slice none 0 0] 72)) 68 5 9 Try.underlying68 Try.underlying5 Try.underlying9
    by_cases hh : strOfNums (L.take 5) = ⟨#[114, 111, 97, 100, 49]⟩
    · obtain ⟨b, off, hA, k0, y0⟩ := cellAt h HZ.out (k := m) (by omega)
      obtain ⟨_, _, e1, k1, y1⟩ := cellAt h HZ.out (k := m + 1) (by omega)
      obtain ⟨_, _, e2, k2, y2⟩ := cellAt h HZ.out (k := m + 2) (by omega)
      obtain ⟨_, _, e3, k3, y3⟩ := cellAt h HZ.out (k := m + 3) (by omega)
      subst hA
      injection e1 with e1; injection e1 with e1 e1'; subst e1 e1'
      injection e2 with e2; injection e2 with e2 e2'; subst e2 e2'
      injection e3 with e3; injection e3 with e3 e3'; subst e3 e3'
      have hbw : b < w.heap.size := World.block_lt_of_cell? w _ k0
      have HAC := Lib.hid (acc4 (by_ (L.drop m)))
      have hby : ∀ j, by_ (L.drop m) j = by_ L (m + j) := fun j => by simp [by_, List.getD, List.getElem?_drop]
      rw [hby, hby, hby, hby, Nat.add_zero] at HAC
      generalize by_ L m = b0 at *
      generalize by_ L (m + 1) = b1 at *
      generalize by_ L (m + 2) = b2 at *
      generalize by_ L (m + 3) = b3 at *
      clear hby
      go_enter Try.func26, Try.ntmps26
      go_wp2_with fail
      generalize hW : (((w.alloc (.cells #[.slice (some ⟨b, off, none⟩) (m + 4) c] 68)).alloc (.cells #[.slice none 0 0, .slice none 0 0] 72)).alloc (.cells #[.slice none 0 0, .slice none 0 0] 72)).alloc (.cells #[.int .i64 (m : Int)] 3) = W
      have B1 : W.heap[w.heap.size]? = some (.cells #[.slice (some ⟨b, off, none⟩) (m + 4) c] 68 (0, 0)) := by
        subst hW
        rw [Lib.alloc_old _ _ _ (by simp; omega), Lib.alloc_old _ _ _ (by simp; omega), Lib.alloc_old _ _ _ (by simp)]
        exact heap_alloc_new w _
      have B2 : W.heap[w.heap.size + 1]? = some (.cells #[.slice none 0 0, .slice none 0 0] 72 (0, 0)) := by
        subst hW
        rw [Lib.alloc_old _ _ _ (by simp), Lib.alloc_old _ _ _ (by simp)]
        exact heap_at _ (by simp)
      have B4 : W.heap[w.heap.size + 1 + 1]? = some (.cells #[.slice none 0 0, .slice none 0 0] 72 (0, 0)) := by
        subst hW
        rw [Lib.alloc_old _ _ _ (by simp)]
        exact heap_at _ (by simp)
      have B5 : W.heap[w.heap.size + 1 + 1 + 1]? = some (.cells #[.int .i64 (m : Int)] 3 (0, 0)) := by
        subst hW
        exact heap_at _ (by simp)
      have HBW := Lib.hid (show Below w.heap.size w W by subst hW; exact sq (sq (al _) (al _)) (sq (al _) (al _)))
      have hws : W.heap.size = w.heap.size + 4 := by subst hW; simp
      generalize hg5 : w.heap.size + 1 + 1 + 1 = g5 at *
      generalize hg4 : w.heap.size + 1 + 1 = g4 at *
      generalize hg2 : w.heap.size + 1 = g2 at *
      generalize hg1 : w.heap.size = g1 at *
      have HG := Lib.hid (And.intro hg1 (And.intro hg2 (And.intro hg4 hg5)))
      have k0 : W.cell? ⟨b, off + m, none⟩ = some (.int .u8 (b0 : Int)) := (HBW.out.cell (p := ⟨b, _, none⟩) hbw).trans k0
      have k1 : W.cell? ⟨b, off + (m + 1), none⟩ = some (.int .u8 (b1 : Int)) := (HBW.out.cell (p := ⟨b, _, none⟩) hbw).trans k1
      have k2 : W.cell? ⟨b, off + (m + 2), none⟩ = some (.int .u8 (b2 : Int)) := (HBW.out.cell (p := ⟨b, _, none⟩) hbw).trans k2
      have k3 : W.cell? ⟨b, off + (m + 3), none⟩ = some (.int .u8 (b3 : Int)) := (HBW.out.cell (p := ⟨b, _, none⟩) hbw).trans k3
      have c1 : W.cell? ⟨g1, 0, none⟩ = some (.slice (some ⟨b, off, none⟩) (m + 4) c) := by rw [Lib.cell_of_heap B1]; rfl
      have c5 : W.cell? ⟨g5, 0, none⟩ = some (.int .i64 (m : Int)) := by rw [Lib.cell_of_heap B5]; rfl
      have HB1 := Lib.hid B1
      have HB2 := Lib.hid B2
      have HB4 := Lib.hid B4
      have HB5 := Lib.hid B5
      have HH := Lib.hid hh
      clear hW B1 B2 B4 B5 hx hs5 hh hd9 hg1 hg2 hg4 hg5
      have HWS := Lib.hid hws
      clear hws
      go_quiet (fail)
      go_wp2_with fail
      generalize hV : W.drewN nq = V
      have HV1 := Lib.hid (show V.heap[g1]? = some (.cells #[.slice (some ⟨b, off, none⟩) (m + 4) c] 68 (0, 0)) by subst hV; exact HB1.out)
      have HV2 := Lib.hid (show V.heap[g2]? = some (.cells #[.slice none 0 0, .slice none 0 0] 72 (0, 0)) by subst hV; exact HB2.out)
      have HV4 := Lib.hid (show V.heap[g4]? = some (.cells #[.slice none 0 0, .slice none 0 0] 72 (0, 0)) by subst hV; exact HB4.out)
      have HV5 := Lib.hid (show V.heap[g5]? = some (.cells #[.int .i64 (m : Int)] 3 (0, 0)) by subst hV; exact HB5.out)
      have HBV := Lib.hid (show Below g1 w V by subst hV; exact dr HBW.out nq)
      have HVS := Lib.hid (show V.heap.size = g1 + 4 by subst hV; exact HWS.out)
      have HRV := Lib.hid (show Rd V g1 1 (some ⟨b, off, none⟩) (m + 4) (L.map (Value.int .u8)) by subst hV; exact HR.out.below (dr HBW.out nq))
      clear hV HB1 HB2 HB4 HB5 HBW HWS HR hr5 h k0 k1 k2 k3 c1 c5
      have c1 : V.cell? ⟨g1, 0, none⟩ = some (.slice (some ⟨b, off, none⟩) (m + 4) c) := by rw [Lib.cell_of_heap HV1.out]; rfl
      have c5 : V.cell? ⟨g5, 0, none⟩ = some (.int .i64 (m : Int)) := by rw [Lib.cell_of_heap HV5.out]; rfl
      have HLT := Lib.hid (show (L.take m).length = m by rw [List.length_take]; omega)
      have HSM := Lib.hid (show sumP (L.take m) = (yP (by_ (L.take m)) m : Int) * 65536 + (xOf (by_ (L.take m)) m : Int) by unfold sumP; rw [HLT.out])
      have HBO := Lib.hid (show bodyOf L = (L.take m).drop 5 by unfold bodyOf; rw [HL.out, Nat.add_sub_cancel])
      refine Calls.mono (refSumOf_any (some ⟨b, off, none⟩) m c (L.take m) V (by rw [List.map_take]; exact (HRV.out.takes (by omega)).more (by have := HVS.out; omega)) (fun z hz => HZ.out z (List.mem_of_mem_take hz)) (by omega)) ?_
      rintro e w1 ⟨rfl, rfl⟩
      rw [← HSM.out, ← HAC.out]
      generalize hsv : sumP (L.take m) = sm at *
      generalize hav : accB (by_ (L.drop m)) 4 = ac at *
      have HSV := Lib.hid hsv
      have HAV := Lib.hid hav
      clear hsv hav
      by_cases hsm : sm = (ac : Int)
      · have hsb2 : (sm != (ac : Int)) = false := by simpa using hsm
        have HVR := Lib.hid (show unpackR L = if (codeQ false (bodyOf L)).2.1 = true ∨ (soundV (codeQ false (bodyOf L)).1).1 ≠ 0 ∨ packZ (codeQ false (bodyOf L)).1 ≠ L then (⟨[], []⟩, 6) else ((codeQ false (bodyOf L)).1, 0) by
          unfold unpackR
          rw [if_neg (by rw [HL.out]; simp only [not_or, Decidable.not_not]; exact ⟨h9, HH.out⟩), HL.out, Nat.add_sub_cancel, HSV.out, HAV.out, if_neg (by simpa using hsm)])
        clear hsm
        go_wp2_with fail
        generalize hWW : (((w1.alloc (.cells #[.int .i64 5] 3)).alloc (.cells #[.bool true] 4)).alloc (.cells #[.func (.func 62) #[] #[.pointer (some ⟨g1, 0, none⟩), .pointer (some ⟨w1.heap.size, 0, none⟩), .pointer (some ⟨g5, 0, none⟩), .pointer (some ⟨w1.heap.size + 1, 0, none⟩)]] 45)).alloc (.cells #[.slice none 0 0, .slice none 0 0] 72) = W
        have B7 : W.heap[w1.heap.size]? = some (.cells #[.int .i64 5] 3 (0, 0)) := by
          subst hWW
          rw [Lib.alloc_old _ _ _ (by simp; omega), Lib.alloc_old _ _ _ (by simp; omega), Lib.alloc_old _ _ _ (by simp)]
          exact heap_alloc_new w1 _
        have B8 : W.heap[w1.heap.size + 1]? = some (.cells #[.bool true] 4 (0, 0)) := by
          subst hWW
          rw [Lib.alloc_old _ _ _ (by simp), Lib.alloc_old _ _ _ (by simp)]
          exact heap_at _ (by simp)
        have B9 : W.heap[w1.heap.size + 1 + 1]? = some (.cells #[numF g1 g5 w1.heap.size (w1.heap.size + 1)] 45 (0, 0)) := by
          subst hWW
          rw [Lib.alloc_old _ _ _ (by simp)]
          exact heap_at _ (by simp)
        have BC : W.heap[w1.heap.size + 1 + 1 + 1]? = some (.cells #[.slice none 0 0, .slice none 0 0] 72 (0, 0)) := by
          subst hWW
          exact heap_at _ (by simp)
        have hbw1 : Below w1.heap.size w1 W := by subst hWW; exact sq (sq (al _) (al _)) (sq (al _) (al _))
        have hwsz : W.heap.size = w1.heap.size + 4 := by subst hWW; simp
        have hvs := HVS.out
        have HWG := Lib.hid (show W.heap[g1]? = some (.cells #[.slice (some ⟨b, off, none⟩) (m + 4) c] 68 (0, 0)) from (hbw1.block g1 (by have := HG.out; omega)).trans HV1.out)
        have HW2 := Lib.hid (show W.heap[g2]? = some (.cells #[.slice none 0 0, .slice none 0 0] 72 (0, 0)) from (hbw1.block g2 (by have := HG.out; omega)).trans HV2.out)
        have HW4 := Lib.hid (show W.heap[g4]? = some (.cells #[.slice none 0 0, .slice none 0 0] 72 (0, 0)) from (hbw1.block g4 (by have := HG.out; omega)).trans HV4.out)
        have HW5 := Lib.hid (show W.heap[g5]? = some (.cells #[.int .i64 (m : Int)] 3 (0, 0)) from (hbw1.block g5 (by have := HG.out; omega)).trans HV5.out)
        have HBW := Lib.hid (show Below g1 w W from HBV.out.trans (hbw1.mono (by omega)))
        have HRW := Lib.hid (HRV.out.below (hbw1.mono (by omega)))
        clear HV1 HV2 HV4 HV5 HBV HVS HRV hbw1 hWW c1 c5 y0 y1 y2 y3
        generalize hgc : w1.heap.size + 1 + 1 + 1 = gc at *
        generalize hg9 : w1.heap.size + 1 + 1 = g9 at *
        generalize hg8 : w1.heap.size + 1 = g8 at *
        generalize hg7 : w1.heap.size = g7 at *
        have HO := Lib.hid (show g1 < g2 ∧ g2 < g4 ∧ g4 < g5 ∧ g5 < g7 ∧ g7 < g8 ∧ g8 < g9 ∧ g9 < gc ∧ gc < W.heap.size ∧ w.heap.size = g1 by have := HG.out; omega)
        have HRQ := Lib.hid (show RQ g1 g1 g5 g7 g8 (some ⟨b, off, none⟩) (m + 4) c L m (bodyOf L) false W from ⟨by have := HO.out; omega, HZ.out, by have := HL.out; omega, HWG.out, HW5.out, ⟨5, by omega, by rw [HBO.out], B7⟩, B8, HRW.out⟩)
        have HB9 := Lib.hid B9
        have HBC := Lib.hid BC
        clear B7 B8 B9 BC HWG HW5 HRW HG hvs hwsz hgc hg9 hg8 hg7 HSV HAV HSM HLT HBO h9 HAC HH
        refine Calls.mono (qNum_any g1 g1 g5 g7 g8 (some ⟨b, off, none⟩) (m + 4) c L m (bodyOf L) false W HRQ.out) ?_
        rintro e w2 ⟨rfl, h2, hc2⟩
        have HI1 := Lib.hid (numQ_in HRQ.out.u8 false)
        have HL1 := Lib.hid (numQ_le false (bodyOf L))
        have HLB := Lib.hid HRQ.out.len
        have HR2 := Lib.hid h2
        have HC2 := Lib.hid (Cz.refl.ch (S := fun k => k = g7 ∨ k = g8 ∨ k = gc) hc2 (.inl rfl) (.inr (.inl rfl)))
        have HBC2 := Lib.hid ((hc2.blk gc (by have := HO.out; omega) (by have := HO.out; omega) (by have := HO.out; omega)).trans HBC.out)
        clear h2 hc2
        generalize hq1 : numQ false (bodyOf L) = q1 at *
        obtain ⟨n1, b1', L1⟩ := q1
        have HQ1 := Lib.hid hq1
        clear hq1
        simp only at HR2 HI1 HL1
        go_wp2_with fail
        go_loopw [12] (fun v wr => ∃ (k : Int) (T : List ByteArray) (bad : Bool) (M : List Int) (vt : Value), v = .int .i64 k ∧ k ≤ 9223372036854775807 ∧ Hid (Part texQ (runL texQ n1.toNat b1' L1) T k.toNat bad M) ∧ Hid (RQ g1 g1 g5 g7 g8 (some ⟨b, off, none⟩) (m + 4) c L m M bad wr) ∧ Hid (wr.heap[gc]? = some (.cells #[.slice none 0 0, vt] 72 (0, 0))) ∧ Hid (wr.ownsRow W.heap.size 9 1 vt T.length (T.map Value.string)) ∧ Hid (Cz (fun k => k = g7 ∨ k = g8 ∨ k = gc) W wr) ∧ Hid (M.length ≤ 1048576 ∧ (bad = false → T.length + M.length ≤ 1048576) ∧ T.length ≤ 1048577 ∧ ∀ s ∈ T, s.size ≤ 1048576)) (fun v _ => (intOf v).toNat)
        case atStart => exact ⟨n1, [], b1', L1, .slice none 0 0, rfl, HI1.out.2, Lib.hid (by unfold Part; simp), HR2, HBC2, Lib.hid (World.ownsRow_nil _ _ _ _), HC2, Lib.hid ⟨by have := HL1.out; have := HLB.out; omega, fun _ => by have := HL1.out; have := HLB.out; simp; omega, by simp, fun s hs => by simp at hs⟩⟩
        case round =>
          obtain ⟨k, T, bad, M, vt, rfl, hkn, HPT, HRL, HCL, HOT, HCHL, HBD⟩ := hrel
          obtain ⟨VA, VC, hv⟩ := own_form HOT.out
          subst hv
          have h90 := (HCHL.out.blk g9 (by have := HO.out; omega) (by have := HO.out; omega)).trans HB9.out
          have r8 : wr.cell? ⟨g8, 0, none⟩ = some (.bool (!bad)) := by rw [Lib.cell_of_heap HRL.out.c8]; rfl
          have v1 : wr.cell? ⟨gc, 1, none⟩ = some (.slice VA T.length VC) := by rw [Lib.cell_of_heap HCL.out]; rfl
          have hcw : gc < wr.heap.size := (Array.getElem?_eq_some_iff.1 HCL.out).1
          have hg8w : g8 < gc := by have := HO.out; omega
          have hg7w : g7 < g8 := by have := HO.out; omega
          by_cases hgo : 0 < k ∧ bad = false
          · obtain ⟨hk0, rfl⟩ := hgo
            obtain ⟨j, rfl⟩ : ∃ j : Nat, k = (j : Int) + 1 := ⟨(k - 1).toNat, by omega⟩
            have hd1 : decide (0 < (j : Int) + 1) = true := decide_eq_true (by omega)
            have hr0 := Lib.hid (HRL.out.keep (Below.refl wr.heap.size wr).drew)
            have hps := HPT.out
            rw [show ((j : Int) + 1).toNat = j + 1 by omega] at hps
            have HPN := Lib.hid hps.step
            clear hps
            have HTL := Lib.hid (texQ_lt false M)
            have HTZ := Lib.hid (texQ_le false M)
            generalize hT : T.length = nT at *
            have HTN := Lib.hid hT
            have hnT : nT ≤ 1048577 := HBD.out.2.2.1
            clear hT
            have HTX := Lib.hid (fun W hW h9 => qText_any g1 g1 g5 g7 g8 g9 (some ⟨b, off, none⟩) (m + 4) c L m M false W hW h9)
            generalize hq : texQ false M = q at *
            obtain ⟨s, b4, L4⟩ := q
            simp only at HTX HPN HTL HTZ
            have H90 := Lib.hid h90
            have hgw9 : g9 < gc := by have := HO.out; omega
            have HWS := Lib.hid HCHL.out.size
            have hgcW : gc < W.heap.size := by have := HO.out; omega
            clear hq h90
            go_wp2_with fail
            go_region_law (first
              | (go_simp; (go_at_call 64); refine (HTX.out _ hr0.out H90.out).mono ?_; rintro e w4 ⟨rfl, h4, g4d⟩; have g4' : Ch g7 g8 wr w4 := ⟨g4d.os, g4d.tape, g4d.out, g4d.size, g4d.blk⟩; have hc4 := (g4'.blk gc hcw (by omega) (by omega)).trans HCL.out; have d4 : w4.cell? ⟨gc, 1, none⟩ = some (.slice VA nT VC) := (by rw [Lib.cell_of_heap hc4]; rfl); have s4 : wr.heap.size ≤ w4.heap.size := g4'.size; have d4b : (w4.alloc (.cells #[.string s] 9)).cell? ⟨gc, 1, none⟩ = some (.slice VA nT VC) := (World.cell?_alloc_lt _ _ _ (by show gc < w4.heap.size; omega)).trans d4; have o4 := row_cz HOT.out (w' := w4) (Ch.cz g4') (fun q e => by have e2 : q = g7 ∨ q = g8 := e; omega); go_wp2_with fail)
              | (refine step_append_rd (by rfl) (.tmp 81) (.tmp 84) 70 (by rfl) W.heap.size 9 s0 _ 1 16 Try.underlying70 hs sz0 sz1 sz2 (by rfl) (by omega) (.slice VA nT VC) nT (T.map Value.string) (by rfl) (own_kept o4 (al _)) (w4.heap.size + 1) (some ⟨w4.heap.size, 0, none⟩) 1 1 [.string s] (by rfl) (Rd.lit1 _ _ _) (one1 rfl) (by unfold maxLen; omega) (by omega) ?_ ?_; (have := HWS.out; simp; omega); intro A5 c5 w5 hown5 hgrow5; have hwo : ∀ q, (Value.slice VA nT VC).ownBlock = some q → W.heap.size ≤ q := (fun q hq => (HOT.out.lt q hq).1); have hc5 := (hgrow5.block gc (by simp; omega) (fun e => by have := hwo _ e.symm; omega)).trans ((Lib.alloc_old w4 (.cells #[.string s] 9) gc (by omega)).trans hc4); have d5 : w5.cell? ⟨gc, 1, none⟩ = some (.slice VA nT VC) := (by rw [Lib.cell_of_heap hc5]; rfl); have f5 : w5.frozen? ⟨gc, 1, none⟩ = false := Lib.frozen_of_heap hc5 1)
              | fail "no")
            all_goals (
              have hs5 := hgrow5.size
              simp at hs5
              have HR5 := Lib.hid (((h4.keep (al _)).grown hgrow5 (fun q hq => by have := hwo q hq; omega)).grown (grown_set (g := gc) (o := 1) (.slice A5 (nT + 1) c5)) (fun q hq => by injection hq with hq; omega))
              have HC5 := Lib.hid (heap_set1 hc5 (.slice A5 (nT + 1) c5))
              have HO5 := Lib.hid (str_grow hown5 (grown_set (g := gc) (o := 1) (.slice A5 (nT + 1) c5)) hgcW)
              have HCH5 := Lib.hid ((((HCHL.out.ch g4' (.inl rfl) (.inr (.inl rfl))).alloc _).grown hgrow5 (fun q hq => .inr (hwo q hq))).set (g := gc) 1 (.slice A5 (nT + 1) c5) (.inl (.inr (.inr rfl))))
              go_wp2_with fail
              go_roundw
              case rel =>
                have e : (T ++ [s]).length = nT + 1 := by simp [HTN.out]
                refine ⟨(j : Int), T ++ [s], b4, L4, .slice A5 (nT + 1) c5, rfl, by omega, HPN, HR5, HC5, ?_, HCH5, Lib.hid ⟨Nat.le_trans HTZ.out.1 HBD.out.1, fun hb => ?_, ?_, fun z hz => ?_⟩⟩
                · rw [e, List.map_append]
                  exact HO5
                · have := HTL.out hb
                  have := HBD.out.2.1 trivial
                  rw [e]
                  omega
                · have := HBD.out.2.1 trivial
                  rw [e]
                  omega
                · rcases List.mem_append.1 hz with hz | hz
                  · exact HBD.out.2.2.2 z hz
                  · rw [List.mem_singleton] at hz
                    subst hz
                    exact Nat.le_trans HTZ.out.2 HBD.out.1
              case measure => show (j : Int).toNat < ((j : Int) + 1).toNat; omega)
          · have HFI := Lib.hid (show runL texQ n1.toNat b1' L1 = (T, bad, M) by
              cases bad with
              | true => exact HPT.out.finB
              | false =>
                have hk : k.toNat = 0 := by
                  have : ¬ 0 < k := fun h => hgo ⟨h, rfl⟩
                  omega
                have := HPT.out
                rw [hk] at this
                exact this.fin0)
            have hkd : bad = false → decide (0 < k) = false := fun h => decide_eq_false fun h2 => hgo ⟨h2, h⟩
            have HTT := Lib.hid HBD.out
            have d9 : wr.cell? ⟨g9, 0, none⟩ = some (.func (.func 62) #[] #[.pointer (some ⟨g1, 0, none⟩), .pointer (some ⟨g7, 0, none⟩), .pointer (some ⟨g5, 0, none⟩), .pointer (some ⟨g8, 0, none⟩)]) := by rw [Lib.cell_of_heap h90]; rfl
            have HQN := Lib.hid (qNum_any g1 g1 g5 g7 g8 (some ⟨b, off, none⟩) (m + 4) c L m M bad wr HRL.out)
            have HQZ := Lib.hid (numQ_in HRL.out.u8 bad)
            have HQL := Lib.hid (numQ_le bad M)
            have HST := Lib.hid HCHL.out.size
            have HO := Lib.hid HO.out
            generalize hq2 : numQ bad M = q2 at *
            obtain ⟨n2, b2', L2⟩ := q2
            have HQ2 := Lib.hid hq2
            simp only at HQN HQZ HQL
            clear hq2
            generalize hT : T.length = nT at *
            have HTN := Lib.hid hT
            clear hT
            cases bad with
            | true =>
              go_wp2_with fail
              refine Calls.mono HQN.out ?_
              rintro e w3 ⟨rfl, h3, hc3⟩
              have hb2 : b2' = true := by
                have := numQ_agrees.1 M
                rw [HQ2.out] at this
                exact this
              subst hb2
              have HRL3 := Lib.hid h3
              have HCL3 := Lib.hid ((hc3.blk gc hcw (by omega) (by omega)).trans HCL.out)
              have HOT3 := Lib.hid (row_cz HOT.out (Ch.cz hc3) (fun q e => by have e2 : q = g7 ∨ q = g8 := e; have := HO.out; omega))
              have HCH3 := Lib.hid (HCHL.out.ch hc3 (.inl rfl) (.inr (.inl rfl)))
              have HZ3 := Lib.hid (show W.heap.size ≤ w3.heap.size by have := HST.out; have := hc3.size; omega)
              clear h3 hc3 HPT HRL HCL HOT HCHL HBD HQN r8 v1 d9 h90 HR2 HC2 HBC2 HBC HB9 HRQ hkd hgo
              go_wp2_with fail
              go_loopw [13] (fun v wr => v = .int .i64 n2 ∧ wr = w3) (fun v _ => (intOf v).toNat)
              case atStart => exact ⟨rfl, rfl⟩
              case round =>
                obtain ⟨rfl, rfl⟩ := hrel
                have HRL := Lib.hid HRL3.out
                have HCL := Lib.hid HCL3.out
                have HCHL := Lib.hid (show Cz (fun k => k = g7 ∨ k = g8 ∨ k = gc) wr wr from Cz.refl)
                have r8 : wr.cell? ⟨g8, 0, none⟩ = some (.bool (!true)) := by rw [Lib.cell_of_heap HRL.out.c8]; rfl
                have v0 : wr.cell? ⟨gc, 0, none⟩ = some (.slice none 0 0) := by rw [Lib.cell_of_heap HCL.out]; rfl
                have v1 : wr.cell? ⟨gc, 1, none⟩ = some (.slice VA nT VC) := by rw [Lib.cell_of_heap HCL.out]; rfl
                have hcw : gc < wr.heap.size := (Array.getElem?_eq_some_iff.1 HCL.out).1
                have HCE := Lib.hid (show codeQ false (bodyOf L) = (⟨[], T⟩, true, L2) by simp only [codeQ, thn, thenS, cntQ, HQ1.out, HFI.out, HQ2.out, runL_bad])
                have HKR := Lib.hid (show KR wr wr.heap.size none VA ⟨[], T⟩ by
                  have htt := HTT.out
                  refine ⟨fun j f hf => by simp at hf, ?_, fun s hs => by have := htt.2.2.2 s hs; omega, fun f hf => by simp at hf, by simp, by show T.length ≤ _; rw [HTN.out]; omega, fun f hf => by simp at hf⟩
                  show Rd wr wr.heap.size 1 VA T.length (T.map Value.string)
                  rw [HTN.out]
                  exact (RdM.of_own HOT3.out).rd (fun b hb => hb.2))
                clear HRL3 HCL3
                go_wp2_with fail
                refine Calls.mono ((packCode_any none VA 0 VC ⟨[], T⟩ 0 nT wr rfl HTN.out.symm HKR.out).mono fun _ _ h => h.one) ?_
                rintro e wp ⟨A9, n9, c9, rfl, hr9, hn9, hb9⟩
                have HKP := Lib.hid ((HKR.out.into hb9).more hb9.size)
                have hrq := HRL.out.keep hb9
                have p1 : wp.cell? ⟨g1, 0, none⟩ = some (.slice (some ⟨b, off, none⟩) (m + 4) c) := by rw [Lib.cell_of_heap hrq.c1]; rfl
                have p8 : wp.cell? ⟨g8, 0, none⟩ = some (.bool (!true)) := by rw [Lib.cell_of_heap hrq.c8]; rfl
                have HRB := Lib.hid hrq.rd
                have hkg : ∀ k, k < W.heap.size → k ≠ g7 → k ≠ g8 → k ≠ gc → wp.heap[k]? = W.heap[k]? := fun k h1 h2 h3 h4 => (hb9.block k (by have := HCHL.out.size; have := HZ3.out; omega)).trans ((HCHL.out.blk k (by have := HZ3.out; omega) (by omega)).trans (HCH3.out.blk k h1 (by omega)))
                have h2 := (hkg g2 (by have := HO.out; omega) (by have := HO.out; omega) (by have := HO.out; omega) (by have := HO.out; omega)).trans HW2.out
                have h4 := (hkg g4 (by have := HO.out; omega) (by have := HO.out; omega) (by have := HO.out; omega) (by have := HO.out; omega)).trans HW4.out
                have hcp := (hb9.block gc hcw).trans HCL.out
                have t0 : wp.cell? ⟨g2, 0, none⟩ = some (.slice none 0 0) := by rw [Lib.cell_of_heap h2]; rfl
                have t1 : wp.cell? ⟨g2, 1, none⟩ = some (.slice none 0 0) := by rw [Lib.cell_of_heap h2]; rfl
                have q0 : wp.cell? ⟨g4, 0, none⟩ = some (.slice none 0 0) := by rw [Lib.cell_of_heap h4]; rfl
                have q1 : wp.cell? ⟨g4, 1, none⟩ = some (.slice none 0 0) := by rw [Lib.cell_of_heap h4]; rfl
                have v0 : wp.cell? ⟨gc, 0, none⟩ = some (.slice none 0 0) := by rw [Lib.cell_of_heap hcp]; rfl
                have v1 : wp.cell? ⟨gc, 1, none⟩ = some (.slice VA nT VC) := by rw [Lib.cell_of_heap hcp]; rfl
                have f0 := Lib.frozen_of_heap h2 0
                have f1 := Lib.frozen_of_heap h2 1
                have H2 := Lib.hid h2
                have HBE := Lib.hid (show Below w.heap.size w wp from ⟨hb9.os.trans (HCHL.out.os.trans (HCH3.out.os.trans HBW.out.os)), hb9.tape.trans (HCHL.out.tape.trans (HCH3.out.tape.trans HBW.out.tape)), hb9.output.trans (HCHL.out.out.trans (HCH3.out.out.trans HBW.out.output)), Nat.le_trans (by have := HO.out; have := HZ3.out; have := HCHL.out.size; omega) hb9.size, fun k hk => (hkg k (by have := HO.out; omega) (by have := HO.out; omega) (by have := HO.out; omega) (by have := HO.out; omega)).trans (HBW.out.block k (by have := HO.out; omega))⟩)
                have hgw : w.heap.size ≤ g2 := by have := HO.out; omega
                have HR9 := Lib.hid hr9
                have HSV := Lib.hid (show (soundV ⟨[], T⟩).1 = (soundV ⟨[], T⟩).1 from rfl)
                have HVV := Lib.hid (show unpackR L = if true = true ∨ (soundV ⟨[], T⟩).1 ≠ 0 ∨ packZ ⟨[], T⟩ ≠ L then (⟨[], []⟩, 6) else (⟨[], T⟩, 0) by rw [HVR.out, HCE.out])
                clear hrq h2 h4 hcp hb9 hr9 HVR hkg HSV
                generalize (soundV ⟨[], T⟩).1 = sv at *
                have HV := Lib.hid (show unpackR L = (⟨[], []⟩, 6) by rw [HVV.out, if_pos (.inl rfl)])
                go_wp2_with fail
                rw [HV.out]
                exact bodyPost_ret (v := .tuple #[.agg #[.slice none 0 0, .slice none 0 0], .int .i64 6]) (by simp [results, Try.results26, go_sem, t0, t1]) rfl ⟨none, 0, none, 0, rfl, KR.nil _ _, (HBE.out.setCell (p := ⟨g2, 0, none⟩) hgw _).setCell (p := ⟨g2, 1, none⟩) hgw _⟩
            | false =>
              have hkd := hkd rfl
              go_wp2_with fail
              refine Calls.mono HQN.out ?_
              rintro e w3 ⟨rfl, h3, hc3⟩
              have HR3 := Lib.hid h3
              have HC3 := Lib.hid ((hc3.blk gc hcw (by omega) (by omega)).trans HCL.out)
              have H93 := Lib.hid ((hc3.blk g9 (by have := HO.out; omega) (by have := HO.out; omega) (by have := HO.out; omega)).trans h90)
              have HOT3 := Lib.hid (row_cz HOT.out (Ch.cz hc3) (fun q e => by have e2 : q = g7 ∨ q = g8 := e; have := HO.out; omega))
              have HCH3 := Lib.hid (HCHL.out.ch hc3 (.inl rfl) (.inr (.inl rfl)))
              have HZ3 := Lib.hid (show W.heap.size ≤ w3.heap.size by have := HST.out; have := hc3.size; omega)
              clear h3 hc3 HPT HRL HCL HOT HCHL HBD HQN r8 v1 d9 h90 HR2 HC2 HBC2 HBC HB9 HRQ hkd hgo
              go_wp2_with fail
              go_loopw [13] (fun v wr => ∃ (k : Int) (F : List FF) (bad : Bool) (M : List Int) (vf : Value), v = .int .i64 k ∧ k ≤ 9223372036854775807 ∧ Hid (Part fnQ (runL fnQ n2.toNat b2' L2) F k.toNat bad M) ∧ Hid (RQ g1 g1 g5 g7 g8 (some ⟨b, off, none⟩) (m + 4) c L m M bad wr) ∧ Hid (wr.heap[gc]? = some (.cells #[vf, .slice VA nT VC] 72 (0, 0))) ∧ Hid (Own FF.sh 128 wr w3.heap.size (· < w3.heap.size) vf F) ∧ Hid (Cz (fun k => k = g7 ∨ k = g8 ∨ k = gc) w3 wr) ∧ Hid (M.length ≤ 1048576 ∧ (bad = false → F.length + M.length ≤ 1048576) ∧ F.length ≤ 1048577 ∧ ∀ f ∈ F, f.name.size ≤ 1048576 ∧ f.ins.length ≤ 1048577)) (fun v _ => (intOf v).toNat)
              case atStart => exact ⟨n2, [], b2', L2, .slice none 0 0, rfl, HQZ.out.2, Lib.hid (by unfold Part; simp), HR3, HC3, Own.nil, Cz.refl, Lib.hid ⟨by have := HQL.out; have := HTT.out.1; omega, fun _ => by have := HQL.out; have := HTT.out.1; simp; omega, by simp, fun f hf => by simp at hf⟩⟩
              case round =>
                obtain ⟨k2, F, bd, M2, vf, rfl, hkn2, HPT, HRL, HCL, HOF, HCHL, HBD⟩ := hrel
                obtain ⟨VF, FC, hv⟩ := HOF.out.form
                subst hv
                have h90 := (HCHL.out.blk g9 (by have := HO.out; have := HZ3.out; omega) (by have := HO.out; omega)).trans H93.out
                have r8 : wr.cell? ⟨g8, 0, none⟩ = some (.bool (!bd)) := by rw [Lib.cell_of_heap HRL.out.c8]; rfl
                have v0 : wr.cell? ⟨gc, 0, none⟩ = some (.slice VF F.length FC) := by rw [Lib.cell_of_heap HCL.out]; rfl
                have v1 : wr.cell? ⟨gc, 1, none⟩ = some (.slice VA nT VC) := by rw [Lib.cell_of_heap HCL.out]; rfl
                have hcw : gc < wr.heap.size := (Array.getElem?_eq_some_iff.1 HCL.out).1
                by_cases hgo : 0 < k2 ∧ bd = false
                · obtain ⟨hk0, rfl⟩ := hgo
                  obtain ⟨j, rfl⟩ : ∃ j : Nat, k2 = (j : Int) + 1 := ⟨(k2 - 1).toNat, by omega⟩
                  have hd1 : decide (0 < (j : Int) + 1) = true := decide_eq_true (by omega)
                  have hps := HPT.out
                  rw [show ((j : Int) + 1).toNat = j + 1 by omega] at hps
                  have HPN := Lib.hid hps.step
                  clear hps
                  have H90 := Lib.hid h90
                  have HTX := Lib.hid (qText_any g1 g1 g5 g7 g8 g9 (some ⟨b, off, none⟩) (m + 4) c L m M2 false wr HRL.out h90)
                  have HTL := Lib.hid (texQ_lt false M2)
                  have HTZ := Lib.hid (texQ_le false M2)
                  clear h90
                  go_wp2_with fail
                  generalize hq4 : texQ false M2 = q4 at *
                  obtain ⟨nm, b4, L4⟩ := q4
                  have HQ4 := Lib.hid hq4
                  clear hq4
                  simp only at HTX HTL HTZ
                  refine Calls.mono HTX.out ?_
                  rintro e w4 ⟨rfl, h4, g4'⟩
                  have hs4 := g4'.size
                  have HG4 := Lib.hid g4'
                  have hm := (show MQ g1 g5 g7 g8 g9 (some ⟨b, off, none⟩) (m + 4) c L m w4.heap.size (w4.alloc (.cells #[.string nm, .int .i64 0, .int .i64 0, .int .i64 0, .slice none 0 0] 128)) #[.string nm, .int .i64 0, .int .i64 0, .int .i64 0, .slice none 0 0] (.slice none 0 0) [] L4 b4 (w4.alloc (.cells #[.string nm, .int .i64 0, .int .i64 0, .int .i64 0, .slice none 0 0] 128)) from ⟨h4.keep (al _), (Lib.alloc_old _ _ _ (by have := HO.out; omega)).trans ((g4'.blk g9 (by have := HO.out; omega) (by have := HO.out; omega) (by have := HO.out; omega)).trans H90.out), heap_alloc_new _ _, Own.nil, Cz.refl, by have := HO.out; simp; omega⟩)
                  have HM4 := Lib.hid hm
                  have d9 := hm.n9
                  have HC8 := Lib.hid (show (w4.alloc (.cells #[.string nm, .int .i64 0, .int .i64 0, .int .i64 0, .slice none 0 0] 128)).heap[gc]? = _ from (Lib.alloc_old _ _ _ (by omega)).trans ((g4'.blk gc hcw (by have := HO.out; omega) (by have := HO.out; omega)).trans HCL.out))
                  have HO4 := Lib.hid (HOF.out.cz (Ch.cz g4') (fun q e => by have e2 : q = g7 ∨ q = g8 := e; have := HO.out; have := HZ3.out; omega))
                  have HS8 := Lib.hid ((HCHL.out.ch g4' (.inl rfl) (.inr (.inl rfl))).alloc (.cells #[.string nm, .int .i64 0, .int .i64 0, .int .i64 0, .slice none 0 0] 128))
                  have HS4 := Lib.hid (show w3.heap.size ≤ w4.heap.size by have := HCHL.out.size; omega)
                  clear hm h4 g4' HTX
                  go_wp2_with fail
                  generalize hW8 : w4.alloc (.cells #[.string nm, .int .i64 0, .int .i64 0, .int .i64 0, .slice none 0 0] 128) = W8 at *
                  have HW8 := Lib.hid hW8
                  clear hW8
                  have hn9 : g9 ≠ w4.heap.size := by have := HO.out; omega
                  have hn9' : w4.heap.size ≠ g9 := fun e => hn9 e.symm
                  refine Calls.mono (qNum_mid HM4.out) ?_
                  rintro e y5 ⟨p5, b5, L5, hq5, hn5, rfl, hm5, _⟩
                  have d9 := hm5.n9
                  have f5 : y5.frozen? ⟨w4.heap.size, 1, none⟩ = false := Lib.frozen_of_heap hm5.box 1
                  have c5 : y5.cell? ⟨w4.heap.size, 1, none⟩ = some (.int .i64 0) := by rw [Lib.cell_of_heap hm5.box]; rfl
                  have HM5 := Lib.hid (show MQ g1 g5 g7 g8 g9 (some ⟨b, off, none⟩) (m + 4) c L m w4.heap.size W8 #[.string nm, .int .i64 p5, .int .i64 0, .int .i64 0, .slice none 0 0] (.slice none 0 0) [] L5 b5 (y5.setCell ⟨w4.heap.size, 1, none⟩ (.int .i64 p5)) from hm5.put 1 (.int .i64 p5))
                  have HQ5 := Lib.hid hq5
                  have HV5 := Lib.hid hn5
                  clear hm5 hq5 hn5
                  go_wp2_with fail
                  clear d9 f5 c5
                  generalize hyy : y5.setCell ⟨w4.heap.size, 1, none⟩ (.int .i64 p5) = z5 at *
                  clear hyy
                  refine Calls.mono (qNum_mid HM5.out) ?_
                  rintro e y6 ⟨p6, b6, L6, hq6, hn6, rfl, hm6, _⟩
                  have d9 := hm6.n9
                  have f6 : y6.frozen? ⟨w4.heap.size, 2, none⟩ = false := Lib.frozen_of_heap hm6.box 2
                  have c6 : y6.cell? ⟨w4.heap.size, 2, none⟩ = some (.int .i64 0) := by rw [Lib.cell_of_heap hm6.box]; rfl
                  have HM6 := Lib.hid (show MQ g1 g5 g7 g8 g9 (some ⟨b, off, none⟩) (m + 4) c L m w4.heap.size W8 #[.string nm, .int .i64 p5, .int .i64 p6, .int .i64 0, .slice none 0 0] (.slice none 0 0) [] L6 b6 (y6.setCell ⟨w4.heap.size, 2, none⟩ (.int .i64 p6)) from hm6.put 2 (.int .i64 p6))
                  have HQ6 := Lib.hid hq6
                  have HV6 := Lib.hid hn6
                  clear hm6 hq6 hn6
                  go_wp2_with fail
                  clear d9 f6 c6
                  generalize hyy : y6.setCell ⟨w4.heap.size, 2, none⟩ (.int .i64 p6) = z6 at *
                  clear hyy
                  refine Calls.mono (qNum_mid HM6.out) ?_
                  rintro e y7 ⟨p7, b7, L7, hq7, hn7, rfl, hm7, _⟩
                  have d9 := hm7.n9
                  have f7 : y7.frozen? ⟨w4.heap.size, 3, none⟩ = false := Lib.frozen_of_heap hm7.box 3
                  have c7 : y7.cell? ⟨w4.heap.size, 3, none⟩ = some (.int .i64 0) := by rw [Lib.cell_of_heap hm7.box]; rfl
                  have HM7 := Lib.hid (show MQ g1 g5 g7 g8 g9 (some ⟨b, off, none⟩) (m + 4) c L m w4.heap.size W8 #[.string nm, .int .i64 p5, .int .i64 p6, .int .i64 p7, .slice none 0 0] (.slice none 0 0) [] L7 b7 (y7.setCell ⟨w4.heap.size, 3, none⟩ (.int .i64 p7)) from hm7.put 3 (.int .i64 p7))
                  have HQ7 := Lib.hid hq7
                  have HV7 := Lib.hid hn7
                  clear hm7 hq7 hn7
                  go_wp2_with fail
                  clear d9 f7 c7
                  generalize hyy : y7.setCell ⟨w4.heap.size, 3, none⟩ (.int .i64 p7) = z7 at *
                  clear hyy
                  refine Calls.mono (qNum_mid HM7.out) ?_
                  rintro e y8 ⟨n8, b8, L8, hq8, hn8, rfl, hm8, _⟩
                  have HM8 := Lib.hid hm8
                  have HQ8 := Lib.hid hq8
                  have HV8 := Lib.hid hn8
                  have HL8 := Lib.hid (show L8.length ≤ 1048576 from hm8.rd.len)
                  clear hm8 hq8 hn8
                  clear HM4 HM5 HM6 HM7
                  go_wp2_with fail
                  go_loopw [15] (fun v wr => ∃ (k : Int) (I : List II) (bd : Bool) (M : List Int) (vi : Value), v = .int .i64 k ∧ k ≤ 9223372036854775807 ∧ Hid (Part inQ (runL inQ n8.toNat b8 L8) I k.toNat bd M) ∧ Hid (MQ g1 g5 g7 g8 g9 (some ⟨b, off, none⟩) (m + 4) c L m w4.heap.size W8 #[.string nm, .int .i64 p5, .int .i64 p6, .int .i64 p7, vi] vi I M bd wr) ∧ Hid ((bd = false → I.length + M.length ≤ 1048576) ∧ I.length ≤ 1048577 ∧ M.length ≤ 1048576)) (fun v _ => (intOf v).toNat)
                  case atStart => exact ⟨n8, [], b8, L8, .slice none 0 0, rfl, HV8.out.2, Lib.hid (by unfold Part; simp), HM8, Lib.hid ⟨fun _ => by have := HL8.out; simpa using this, by simp, HL8.out⟩⟩
                  case round =>
                    obtain ⟨k3, I, be, M3, vi, rfl, hkn3, HPI, HMM, HBI⟩ := hrel
                    obtain ⟨IA, IC, hv⟩ := HMM.out.own.form
                    subst hv
                    have m8 : wr.cell? ⟨g8, 0, none⟩ = some (.bool (!be)) := by rw [Lib.cell_of_heap HMM.out.rd.c8]; rfl
                    have m4 : wr.cell? ⟨w4.heap.size, 4, none⟩ = some (.slice IA I.length IC) := by rw [Lib.cell_of_heap HMM.out.box]; rfl
                    have hfw : w4.heap.size < wr.heap.size := (Array.getElem?_eq_some_iff.1 HMM.out.box).1
                    have d9 := HMM.out.n9
                    by_cases hgi : 0 < k3 ∧ be = false
                    · obtain ⟨hj0, rfl⟩ := hgi
                      obtain ⟨j3, rfl⟩ : ∃ j : Nat, k3 = (j : Int) + 1 := ⟨(k3 - 1).toNat, by omega⟩
                      have hd3 : decide (0 < (j3 : Int) + 1) = true := decide_eq_true (by omega)
                      have hpi := HPI.out
                      rw [show ((j3 : Int) + 1).toNat = j3 + 1 by omega] at hpi
                      have HPJ := Lib.hid hpi.step
                      have hg9w : g9 < wr.heap.size := by have := HO.out; omega
                      have HI0 := Lib.hid (HMM.out.ins #[.int .i64 0, .int .i64 0, .int .i64 0, .int .i64 0, .int .i64 0, .int .i64 0])
                      clear hpi
                      have hn9i : g9 ≠ wr.heap.size := by omega
                      have hn9i' : wr.heap.size ≠ g9 := by omega
                      have hnfi : w4.heap.size ≠ wr.heap.size := by omega
                      have hnfi' : wr.heap.size ≠ w4.heap.size := by omega
                      go_wp2_with fail
                      clear d9
                      refine Calls.mono (qNum_ins HI0.out) ?_
                      rintro e x0 ⟨v0, e0, R0, hr0, hv0, rfl, hx0⟩
                      have d9 := hx0.q.n9
                      have fi : x0.frozen? ⟨wr.heap.size, 0, none⟩ = false := Lib.frozen_of_heap hx0.box 0
                      have ci0 : x0.cell? ⟨wr.heap.size, 0, none⟩ = some (.int .i64 0) := by rw [Lib.cell_of_heap hx0.box]; rfl
                      have HI1 := Lib.hid (show MI g1 g5 g7 g8 g9 (some ⟨b, off, none⟩) (m + 4) c L m w4.heap.size W8 #[.string nm, .int .i64 p5, .int .i64 p6, .int .i64 p7, .slice IA I.length IC] (.slice IA I.length IC) I wr.heap.size #[.int .i64 v0, .int .i64 0, .int .i64 0, .int .i64 0, .int .i64 0, .int .i64 0] R0 e0 (x0.setCell ⟨wr.heap.size, 0, none⟩ (.int .i64 v0)) from hx0.put 0 (.int .i64 v0))
                      have HVV0 := Lib.hid (And.intro hr0 hv0)
                      clear hx0 hr0 hv0
                      go_wp2_with fail
                      clear d9 fi ci0 HI0
                      generalize hyy : x0.setCell ⟨wr.heap.size, 0, none⟩ (.int .i64 v0) = zi0 at *
                      clear hyy
                      refine Calls.mono (qNum_ins HI1.out) ?_
                      rintro e x1 ⟨v1, e1, R1, hr1, hv1, rfl, hx1⟩
                      have d9 := hx1.q.n9
                      have fi : x1.frozen? ⟨wr.heap.size, 1, none⟩ = false := Lib.frozen_of_heap hx1.box 1
                      have ci1 : x1.cell? ⟨wr.heap.size, 1, none⟩ = some (.int .i64 0) := by rw [Lib.cell_of_heap hx1.box]; rfl
                      have HI2 := Lib.hid (show MI g1 g5 g7 g8 g9 (some ⟨b, off, none⟩) (m + 4) c L m w4.heap.size W8 #[.string nm, .int .i64 p5, .int .i64 p6, .int .i64 p7, .slice IA I.length IC] (.slice IA I.length IC) I wr.heap.size #[.int .i64 v0, .int .i64 v1, .int .i64 0, .int .i64 0, .int .i64 0, .int .i64 0] R1 e1 (x1.setCell ⟨wr.heap.size, 1, none⟩ (.int .i64 v1)) from hx1.put 1 (.int .i64 v1))
                      have HVV1 := Lib.hid (And.intro hr1 hv1)
                      clear hx1 hr1 hv1
                      go_wp2_with fail
                      clear d9 fi ci1 HI1
                      generalize hyy : x1.setCell ⟨wr.heap.size, 1, none⟩ (.int .i64 v1) = zi1 at *
                      clear hyy
                      refine Calls.mono (qNum_ins HI2.out) ?_
                      rintro e x2 ⟨v2, e2, R2, hr2, hv2, rfl, hx2⟩
                      have d9 := hx2.q.n9
                      have fi : x2.frozen? ⟨wr.heap.size, 2, none⟩ = false := Lib.frozen_of_heap hx2.box 2
                      have ci2 : x2.cell? ⟨wr.heap.size, 2, none⟩ = some (.int .i64 0) := by rw [Lib.cell_of_heap hx2.box]; rfl
                      have HI3 := Lib.hid (show MI g1 g5 g7 g8 g9 (some ⟨b, off, none⟩) (m + 4) c L m w4.heap.size W8 #[.string nm, .int .i64 p5, .int .i64 p6, .int .i64 p7, .slice IA I.length IC] (.slice IA I.length IC) I wr.heap.size #[.int .i64 v0, .int .i64 v1, .int .i64 v2, .int .i64 0, .int .i64 0, .int .i64 0] R2 e2 (x2.setCell ⟨wr.heap.size, 2, none⟩ (.int .i64 v2)) from hx2.put 2 (.int .i64 v2))
                      have HVV2 := Lib.hid (And.intro hr2 hv2)
                      clear hx2 hr2 hv2
                      go_wp2_with fail
                      clear d9 fi ci2 HI2
                      generalize hyy : x2.setCell ⟨wr.heap.size, 2, none⟩ (.int .i64 v2) = zi2 at *
                      clear hyy
                      refine Calls.mono (qNum_ins HI3.out) ?_
                      rintro e x3 ⟨v3, e3, R3, hr3, hv3, rfl, hx3⟩
                      have d9 := hx3.q.n9
                      have fi : x3.frozen? ⟨wr.heap.size, 3, none⟩ = false := Lib.frozen_of_heap hx3.box 3
                      have ci3 : x3.cell? ⟨wr.heap.size, 3, none⟩ = some (.int .i64 0) := by rw [Lib.cell_of_heap hx3.box]; rfl
                      have HI4 := Lib.hid (show MI g1 g5 g7 g8 g9 (some ⟨b, off, none⟩) (m + 4) c L m w4.heap.size W8 #[.string nm, .int .i64 p5, .int .i64 p6, .int .i64 p7, .slice IA I.length IC] (.slice IA I.length IC) I wr.heap.size #[.int .i64 v0, .int .i64 v1, .int .i64 v2, .int .i64 v3, .int .i64 0, .int .i64 0] R3 e3 (x3.setCell ⟨wr.heap.size, 3, none⟩ (.int .i64 v3)) from hx3.put 3 (.int .i64 v3))
                      have HVV3 := Lib.hid (And.intro hr3 hv3)
                      clear hx3 hr3 hv3
                      go_wp2_with fail
                      clear d9 fi ci3 HI3
                      generalize hyy : x3.setCell ⟨wr.heap.size, 3, none⟩ (.int .i64 v3) = zi3 at *
                      clear hyy
                      refine Calls.mono (qNum_ins HI4.out) ?_
                      rintro e x4 ⟨v4, e4, R4, hr4, hv4, rfl, hx4⟩
                      have d9 := hx4.q.n9
                      have fi : x4.frozen? ⟨wr.heap.size, 4, none⟩ = false := Lib.frozen_of_heap hx4.box 4
                      have ci4 : x4.cell? ⟨wr.heap.size, 4, none⟩ = some (.int .i64 0) := by rw [Lib.cell_of_heap hx4.box]; rfl
                      have HI5 := Lib.hid (show MI g1 g5 g7 g8 g9 (some ⟨b, off, none⟩) (m + 4) c L m w4.heap.size W8 #[.string nm, .int .i64 p5, .int .i64 p6, .int .i64 p7, .slice IA I.length IC] (.slice IA I.length IC) I wr.heap.size #[.int .i64 v0, .int .i64 v1, .int .i64 v2, .int .i64 v3, .int .i64 v4, .int .i64 0] R4 e4 (x4.setCell ⟨wr.heap.size, 4, none⟩ (.int .i64 v4)) from hx4.put 4 (.int .i64 v4))
                      have HVV4 := Lib.hid (And.intro hr4 hv4)
                      clear hx4 hr4 hv4
                      go_wp2_with fail
                      clear d9 fi ci4 HI4
                      generalize hyy : x4.setCell ⟨wr.heap.size, 4, none⟩ (.int .i64 v4) = zi4 at *
                      clear hyy
                      refine Calls.mono (qNum_ins HI5.out) ?_
                      rintro e x5 ⟨v5, e5, R5, hr5, hv5, rfl, hx5⟩
                      have d9 := hx5.q.n9
                      have fi : x5.frozen? ⟨wr.heap.size, 5, none⟩ = false := Lib.frozen_of_heap hx5.box 5
                      have ci0 : x5.cell? ⟨wr.heap.size, 0, none⟩ = some (.int .i64 v0) := by rw [Lib.cell_of_heap hx5.box]; rfl
                      have ci1 : x5.cell? ⟨wr.heap.size, 1, none⟩ = some (.int .i64 v1) := by rw [Lib.cell_of_heap hx5.box]; rfl
                      have ci2 : x5.cell? ⟨wr.heap.size, 2, none⟩ = some (.int .i64 v2) := by rw [Lib.cell_of_heap hx5.box]; rfl
                      have ci3 : x5.cell? ⟨wr.heap.size, 3, none⟩ = some (.int .i64 v3) := by rw [Lib.cell_of_heap hx5.box]; rfl
                      have ci4 : x5.cell? ⟨wr.heap.size, 4, none⟩ = some (.int .i64 v4) := by rw [Lib.cell_of_heap hx5.box]; rfl
                      have ci5 : x5.cell? ⟨wr.heap.size, 5, none⟩ = some (.int .i64 0) := by rw [Lib.cell_of_heap hx5.box]; rfl
                      have cb4 : x5.cell? ⟨w4.heap.size, 4, none⟩ = some (.slice IA I.length IC) := by rw [Lib.cell_of_heap hx5.q.box]; rfl
                      have HI6 := Lib.hid (show MI g1 g5 g7 g8 g9 (some ⟨b, off, none⟩) (m + 4) c L m w4.heap.size W8 #[.string nm, .int .i64 p5, .int .i64 p6, .int .i64 p7, .slice IA I.length IC] (.slice IA I.length IC) I wr.heap.size #[.int .i64 v0, .int .i64 v1, .int .i64 v2, .int .i64 v3, .int .i64 v4, .int .i64 v5] R5 e5 (x5.setCell ⟨wr.heap.size, 5, none⟩ (.int .i64 v5)) from hx5.put 5 (.int .i64 v5))
                      have HVV5 := Lib.hid (And.intro hr5 hv5)
                      clear hx5 hr5 hv5
                      have hsx : wr.heap.size < x5.heap.size := World.block_lt_of_cell? x5 _ ci0
                      have hbI := HBI.out.2.1
                      go_wp2_with (first
                        | (at_builtin; refine wpList_append_Own (S := II.sh) rfl _ _ 126 rfl W8.heap.size 130 i0 _ 48 Try.underlying126 hi hz0 hz1 hz2 rfl (by show 0 < 6; omega) (· < W8.heap.size) (.slice IA I.length IC) I rfl (HI6.out.q.alloc _).own _ _ 1 1 _ _ [(⟨v0, v1, v2, v3, v4, v5⟩ : II)] rfl (Rd.one _ _ _ 6 rfl _ (by simp)) (by simp) rfl (Shp.all1 (II.intro (v := ⟨v0, v1, v2, v3, v4, v5⟩) HVV0.out.2 HVV1.out.2 HVV2.out.2 HVV3.out.2 HVV4.out.2 HVV5.out.2)) (by unfold maxLen; omega) (by omega) (Nat.le_trans HI6.out.q.ch.size (by simp)) ?_; intro A5 c5 w5 hown5 hgrow5 _; have hm5 := (HI6.out.q.alloc (.cells #[.int .i64 v0, .int .i64 v1, .int .i64 v2, .int .i64 v3, .int .i64 v4, .int .i64 v5] 130)).app hgrow5 hown5; have HM5 := Lib.hid hm5; have d5 : w5.cell? ⟨w4.heap.size, 4, none⟩ = some (.slice IA I.length IC) := (by rw [Lib.cell_of_heap hm5.box]; rfl); have f5 := Lib.frozen_of_heap hm5.box 4; clear hm5)
                        | fail "no")
                      have HMN := Lib.hid (show MQ g1 g5 g7 g8 g9 (some ⟨b, off, none⟩) (m + 4) c L m w4.heap.size W8 #[.string nm, .int .i64 p5, .int .i64 p6, .int .i64 p7, .slice A5 (I.length + 1) c5] (.slice A5 (I.length + 1) c5) (I ++ [⟨v0, v1, v2, v3, v4, v5⟩]) R5 e5 (w5.setCell ⟨w4.heap.size, 4, none⟩ (.slice A5 (I.length + 1) c5)) from HM5.out.put 4 _)
                      have HIS := inQ_of HVV0.out.1 HVV1.out.1 HVV2.out.1 HVV3.out.1 HVV4.out.1 HVV5.out.1
                      have e1 := HPJ.out
                      rw [HIS] at e1
                      have HP3 := Lib.hid e1
                      have HLR := Lib.hid (show R5.length ≤ M3.length ∧ (e5 = false → R5.length < M3.length) by
                        have l0 := (numQ_lt' HVV0.out.1).1
                        have l1 := (numQ_lt' HVV1.out.1).1
                        have l2 := (numQ_lt' HVV2.out.1).1
                        have l3 := (numQ_lt' HVV3.out.1).1
                        have l4 := (numQ_lt' HVV4.out.1).1
                        have l5 := numQ_lt' HVV5.out.1
                        exact ⟨by omega, fun he => by have := (l5.2 he).1; omega⟩)
                      clear e1 HIS
                      go_wp2_with fail
                      go_roundw
                      case rel => exact ⟨(j3 : Int), I ++ [⟨v0, v1, v2, v3, v4, v5⟩], e5, R5, .slice A5 (I.length + 1) c5, rfl, by omega, HP3, HMN, Lib.hid ⟨fun hb => by have := HLR.out.2 hb; have := HBI.out.1 (by trivial); simp only [List.length_append, List.length_cons, List.length_nil]; omega, by have := HBI.out.1 (by trivial); simp only [List.length_append, List.length_cons, List.length_nil]; omega, by have := HLR.out.1; have := HBI.out.2.2; omega⟩⟩
                      case measure => show (j3 : Int).toNat < ((j3 : Int) + 1).toNat; omega
                    · have HFI3 := Lib.hid (show runL inQ n8.toNat b8 L8 = (I, be, M3) by
                        cases be with
                        | true => exact HPI.out.finB
                        | false =>
                          have hk : k3.toNat = 0 := by
                            have : ¬ 0 < k3 := fun h => hgi ⟨h, rfl⟩
                            omega
                          have := HPI.out
                          rw [hk] at this
                          exact this.fin0)
                      have hkd3 : be = false → decide (0 < k3) = false := fun h => decide_eq_false fun h2 => hgi ⟨h2, h⟩
                      have HFE := Lib.hid (show fnQ false M2 = (⟨nm, p5, p6, p7, I⟩, be, M3) by simp only [fnQ, thn, thenS, cntQ, HQ4.out, HQ5.out, HQ6.out, HQ7.out, HQ8.out, HFI3.out])
                      have e1 := HPN.out
                      have e2 := fnQ_lt M2
                      rw [HFE.out] at e1 e2
                      have HP2 := Lib.hid e1
                      have HFL := Lib.hid e2
                      clear e1 e2
                      have hs8 : W8.heap.size = w4.heap.size + 1 := by rw [← HW8.out]; simp
                      have hcc := (HMM.out.ch.blk gc (by have := HO.out; have := HS4.out; have := HZ3.out; omega) (by have := HO.out; have := HS4.out; have := HZ3.out; omega)).trans HC8.out
                      have HCC := Lib.hid hcc
                      have v0 : wr.cell? ⟨gc, 0, none⟩ = some (.slice VF F.length FC) := by rw [Lib.cell_of_heap hcc]; rfl
                      have hcw2 : gc < wr.heap.size := (Array.getElem?_eq_some_iff.1 hcc).1
                      clear hcc
                      have HOW := Lib.hid (HO4.out.keep (w' := wr) (by omega) (fun q hq hE => (HMM.out.ch.blk q (by omega) (by have := HO.out; have := HZ3.out; omega)).trans (by rw [← HW8.out]; exact Lib.alloc_old _ _ _ hq)) (fun q hq hE => by have := (HO4.out.ownlt hq).1; omega))
                      have HCW := Lib.hid (HS8.out.trans HMM.out.ch (fun k hk e => by have e2 : k = g7 ∨ k = g8 ∨ k = w4.heap.size := e; have := HS4.out; rcases e2 with h | h | h; exact .inl h; exact .inr (.inl h); omega))
                      have b0 : wr.cell? ⟨w4.heap.size, 0, none⟩ = some (.string nm) := by rw [Lib.cell_of_heap HMM.out.box]; rfl
                      have b1 : wr.cell? ⟨w4.heap.size, 1, none⟩ = some (.int .i64 p5) := by rw [Lib.cell_of_heap HMM.out.box]; rfl
                      have b2 : wr.cell? ⟨w4.heap.size, 2, none⟩ = some (.int .i64 p6) := by rw [Lib.cell_of_heap HMM.out.box]; rfl
                      have b3 : wr.cell? ⟨w4.heap.size, 3, none⟩ = some (.int .i64 p7) := by rw [Lib.cell_of_heap HMM.out.box]; rfl
                      have HALL := Lib.hid (show FF.sh.all (wr.alloc (.cells #[.string nm, .int .i64 p5, .int .i64 p6, .int .i64 p7, .slice IA I.length IC] 128)) (fun b => b < (wr.alloc (.cells #[.string nm, .int .i64 p5, .int .i64 p6, .int .i64 p7, .slice IA I.length IC] 128)).heap.size ∧ some b ≠ (Value.slice VF F.length FC).ownBlock ∧ ¬ b < w3.heap.size) [[.string nm, .int .i64 p5, .int .i64 p6, .int .i64 p7, .slice IA I.length IC]] [(⟨nm, p5, p6, p7, I⟩ : FF)] from Shp.all1 (FF.sh.more (FF.ofOwn (f := ⟨nm, p5, p6, p7, I⟩) HV5.out HV6.out HV7.out (HMM.out.own.below (al _))) fun b hb => ⟨hb.2, fun e => by have := (HO4.out.ownlt e.symm).2; omega, fun he => by have := HS4.out; omega⟩))
                      have hbF := HBD.out.2.2.1
                      clear d9
                      cases be with
                      | true =>
                        go_wp2_with (first
                          | (at_builtin; refine wpList_append_Own (S := FF.sh) rfl _ _ 69 rfl w3.heap.size 128 j0 _ 64 Try.underlying69 hj jz0 jz1 jz2 rfl (by show 0 < 5; omega) (· < w3.heap.size) (.slice VF F.length FC) F rfl (HOW.out.below (al _)) _ _ 1 1 _ _ [(⟨nm, p5, p6, p7, I⟩ : FF)] rfl (Rd.one _ _ _ 5 rfl _ (by simp)) (by simp) rfl HALL.out (by unfold maxLen; omega) (by omega) (by have := HS4.out; simp; omega) ?_; intro A5 c5 w5 hown5 hgrow5 _; have hc5 := (hgrow5.block gc (by simp; omega) (fun e => by have := (HO4.out.ownlt e.symm).1; have := HO.out; have := HZ3.out; omega)).trans ((Lib.alloc_old wr (.cells #[.string nm, .int .i64 p5, .int .i64 p6, .int .i64 p7, .slice IA I.length IC] 128) gc hcw2).trans HCC.out); have d5 : w5.cell? ⟨gc, 0, none⟩ = some (.slice VF F.length FC) := (by rw [Lib.cell_of_heap hc5]; rfl); have f5 := Lib.frozen_of_heap hc5 0)
                          | fail "no")
                        have HR5 := Lib.hid (((HMM.out.rd.keep (al (.cells #[.string nm, .int .i64 p5, .int .i64 p6, .int .i64 p7, .slice IA I.length IC] 128))).grown hgrow5 (fun q hq => by have := (HO4.out.ownlt hq).1; have := HO.out; have := HZ3.out; omega)).grown (grown_set (g := gc) (o := 0) (.slice A5 (F.length + 1) c5)) (fun q hq => by injection hq with hq; have := HO.out; omega))
                        have HC5 := Lib.hid (heap_set0 hc5 (.slice A5 (F.length + 1) c5))
                        have HO5 := Lib.hid (hown5.grow (grown_set (g := gc) (o := 0) (.slice A5 (F.length + 1) c5)) (by have := HO.out; have := HZ3.out; omega))
                        have HCH5 := Lib.hid (((HCW.out.alloc (.cells #[.string nm, .int .i64 p5, .int .i64 p6, .int .i64 p7, .slice IA I.length IC] 128)).grown hgrow5 (fun q hq => .inr (HO4.out.ownlt hq).1)).set (g := gc) 0 (.slice A5 (F.length + 1) c5) (.inl (.inr (.inr rfl))))
                        go_wp2_with fail
                        go_roundw
                        case rel => exact ⟨(j : Int), F ++ [⟨nm, p5, p6, p7, I⟩], true, M3, .slice A5 (F.length + 1) c5, rfl, by omega, HP2, HR5, HC5, HO5, HCH5, Lib.hid ⟨HBI.out.2.2, fun hb => by have : M3.length < M2.length := HFL.out hb; have := HBD.out.2.1 (by trivial); simp only [List.length_append, List.length_cons, List.length_nil]; omega, by have := HBD.out.2.1 (by trivial); simp only [List.length_append, List.length_cons, List.length_nil]; omega, fun f hf => by
                          rcases List.mem_append.1 hf with hf | hf
                          · exact HBD.out.2.2.2 f hf
                          · rw [List.mem_singleton] at hf
                            subst hf
                            exact ⟨Nat.le_trans HTZ.out.2 HBD.out.1, HBI.out.2.1⟩⟩⟩
                        case measure => show (j : Int).toNat < ((j : Int) + 1).toNat; omega
                      | false =>
                        have hkd3 := hkd3 rfl
                        go_wp2_with (first
                          | (at_builtin; refine wpList_append_Own (S := FF.sh) rfl _ _ 69 rfl w3.heap.size 128 j0 _ 64 Try.underlying69 hj jz0 jz1 jz2 rfl (by show 0 < 5; omega) (· < w3.heap.size) (.slice VF F.length FC) F rfl (HOW.out.below (al _)) _ _ 1 1 _ _ [(⟨nm, p5, p6, p7, I⟩ : FF)] rfl (Rd.one _ _ _ 5 rfl _ (by simp)) (by simp) rfl HALL.out (by unfold maxLen; omega) (by omega) (by have := HS4.out; simp; omega) ?_; intro A5 c5 w5 hown5 hgrow5 _; have hc5 := (hgrow5.block gc (by simp; omega) (fun e => by have := (HO4.out.ownlt e.symm).1; have := HO.out; have := HZ3.out; omega)).trans ((Lib.alloc_old wr (.cells #[.string nm, .int .i64 p5, .int .i64 p6, .int .i64 p7, .slice IA I.length IC] 128) gc hcw2).trans HCC.out); have d5 : w5.cell? ⟨gc, 0, none⟩ = some (.slice VF F.length FC) := (by rw [Lib.cell_of_heap hc5]; rfl); have f5 := Lib.frozen_of_heap hc5 0)
                          | fail "no")
                        have HR5 := Lib.hid (((HMM.out.rd.keep (al (.cells #[.string nm, .int .i64 p5, .int .i64 p6, .int .i64 p7, .slice IA I.length IC] 128))).grown hgrow5 (fun q hq => by have := (HO4.out.ownlt hq).1; have := HO.out; have := HZ3.out; omega)).grown (grown_set (g := gc) (o := 0) (.slice A5 (F.length + 1) c5)) (fun q hq => by injection hq with hq; have := HO.out; omega))
                        have HC5 := Lib.hid (heap_set0 hc5 (.slice A5 (F.length + 1) c5))
                        have HO5 := Lib.hid (hown5.grow (grown_set (g := gc) (o := 0) (.slice A5 (F.length + 1) c5)) (by have := HO.out; have := HZ3.out; omega))
                        have HCH5 := Lib.hid (((HCW.out.alloc (.cells #[.string nm, .int .i64 p5, .int .i64 p6, .int .i64 p7, .slice IA I.length IC] 128)).grown hgrow5 (fun q hq => .inr (HO4.out.ownlt hq).1)).set (g := gc) 0 (.slice A5 (F.length + 1) c5) (.inl (.inr (.inr rfl))))
                        go_wp2_with fail
                        go_roundw
                        case rel => exact ⟨(j : Int), F ++ [⟨nm, p5, p6, p7, I⟩], false, M3, .slice A5 (F.length + 1) c5, rfl, by omega, HP2, HR5, HC5, HO5, HCH5, Lib.hid ⟨HBI.out.2.2, fun hb => by have : M3.length < M2.length := HFL.out hb; have := HBD.out.2.1 (by trivial); simp only [List.length_append, List.length_cons, List.length_nil]; omega, by have := HBD.out.2.1 (by trivial); simp only [List.length_append, List.length_cons, List.length_nil]; omega, fun f hf => by
                          rcases List.mem_append.1 hf with hf | hf
                          · exact HBD.out.2.2.2 f hf
                          · rw [List.mem_singleton] at hf
                            subst hf
                            exact ⟨Nat.le_trans HTZ.out.2 HBD.out.1, HBI.out.2.1⟩⟩⟩
                        case measure => show (j : Int).toNat < ((j : Int) + 1).toNat; omega
                · have HFI2 := Lib.hid (show runL fnQ n2.toNat b2' L2 = (F, bd, M2) by
                    cases bd with
                    | true => exact HPT.out.finB
                    | false =>
                      have hk : k2.toNat = 0 := by
                        have : ¬ 0 < k2 := fun h => hgo ⟨h, rfl⟩
                        omega
                      have := HPT.out
                      rw [hk] at this
                      exact this.fin0)
                  have hkd : bd = false → decide (0 < k2) = false := fun h => decide_eq_false fun h2 => hgo ⟨h2, h⟩
                  have HCE := Lib.hid (show codeQ false (bodyOf L) = (⟨F, T⟩, bd, M2) by simp only [codeQ, thn, thenS, cntQ, HQ1.out, HFI.out, HQ2.out, HFI2.out])
                  have HKR := Lib.hid (show KR wr wr.heap.size VF VA ⟨F, T⟩ by
                    obtain ⟨A9, c9, ess9, h9, _, _, _, hr9, ha9⟩ := HOF.out.read
                    simp at h9
                    obtain ⟨rfl, rfl⟩ := h9
                    have hbd := HBD.out
                    have htt := HTT.out
                    refine ⟨fun j f hf => KK.fn hr9 ha9 rfl hf, ?_, fun s hs => by have := htt.2.2.2 s hs; omega, fun f hf => by have := (hbd.2.2.2 f hf).1; omega, by show F.length ≤ _; omega, by show T.length ≤ _; rw [HTN.out]; omega, fun f hf => by have := (hbd.2.2.2 f hf).2; omega⟩
                    show Rd wr wr.heap.size 1 VA T.length (T.map Value.string)
                    rw [HTN.out]
                    exact ((RdM.of_own HOT3.out).keep (w' := wr) (fun p hp => World.cell?_of_block (HCHL.out.blk p.block hp.2 (by have := HO.out; have := hp.1; omega)))).rd (fun b hb => by have := HCHL.out.size; omega))
                  clear h90 hgo HOF HPT HFI2 HFI HQ1 HQ2
                  cases bd with
                  | true =>
                    go_wp2_with fail
                    refine Calls.mono ((packCode_any VF VA FC VC ⟨F, T⟩ F.length nT wr rfl HTN.out.symm HKR.out).mono fun _ _ h => h.one) ?_
                    rintro e wp ⟨A9, n9, c9, rfl, hr9, hn9, hb9⟩
                    have HKP := Lib.hid ((HKR.out.into hb9).more hb9.size)
                    have hrq := HRL.out.keep hb9
                    have p1 : wp.cell? ⟨g1, 0, none⟩ = some (.slice (some ⟨b, off, none⟩) (m + 4) c) := by rw [Lib.cell_of_heap hrq.c1]; rfl
                    have p8 : wp.cell? ⟨g8, 0, none⟩ = some (.bool (!true)) := by rw [Lib.cell_of_heap hrq.c8]; rfl
                    have HRB := Lib.hid hrq.rd
                    have hkg : ∀ k, k < W.heap.size → k ≠ g7 → k ≠ g8 → k ≠ gc → wp.heap[k]? = W.heap[k]? := fun k h1 h2 h3 h4 => (hb9.block k (by have := HCHL.out.size; have := HZ3.out; omega)).trans ((HCHL.out.blk k (by have := HZ3.out; omega) (by omega)).trans (HCH3.out.blk k h1 (by omega)))
                    have h2 := (hkg g2 (by have := HO.out; omega) (by have := HO.out; omega) (by have := HO.out; omega) (by have := HO.out; omega)).trans HW2.out
                    have h4 := (hkg g4 (by have := HO.out; omega) (by have := HO.out; omega) (by have := HO.out; omega) (by have := HO.out; omega)).trans HW4.out
                    have hcp := (hb9.block gc hcw).trans HCL.out
                    have t0 : wp.cell? ⟨g2, 0, none⟩ = some (.slice none 0 0) := by rw [Lib.cell_of_heap h2]; rfl
                    have t1 : wp.cell? ⟨g2, 1, none⟩ = some (.slice none 0 0) := by rw [Lib.cell_of_heap h2]; rfl
                    have q0 : wp.cell? ⟨g4, 0, none⟩ = some (.slice none 0 0) := by rw [Lib.cell_of_heap h4]; rfl
                    have q1 : wp.cell? ⟨g4, 1, none⟩ = some (.slice none 0 0) := by rw [Lib.cell_of_heap h4]; rfl
                    have v0 : wp.cell? ⟨gc, 0, none⟩ = some (.slice VF F.length FC) := by rw [Lib.cell_of_heap hcp]; rfl
                    have v1 : wp.cell? ⟨gc, 1, none⟩ = some (.slice VA nT VC) := by rw [Lib.cell_of_heap hcp]; rfl
                    have f0 := Lib.frozen_of_heap h2 0
                    have f1 := Lib.frozen_of_heap h2 1
                    have H2 := Lib.hid h2
                    have HBE := Lib.hid (show Below w.heap.size w wp from ⟨hb9.os.trans (HCHL.out.os.trans (HCH3.out.os.trans HBW.out.os)), hb9.tape.trans (HCHL.out.tape.trans (HCH3.out.tape.trans HBW.out.tape)), hb9.output.trans (HCHL.out.out.trans (HCH3.out.out.trans HBW.out.output)), Nat.le_trans (by have := HO.out; have := HZ3.out; have := HCHL.out.size; omega) hb9.size, fun k hk => (hkg k (by have := HO.out; omega) (by have := HO.out; omega) (by have := HO.out; omega) (by have := HO.out; omega)).trans (HBW.out.block k (by have := HO.out; omega))⟩)
                    have hgw : w.heap.size ≤ g2 := by have := HO.out; omega
                    have HR9 := Lib.hid hr9
                    have HSV := Lib.hid (show (soundV ⟨F, T⟩).1 = (soundV ⟨F, T⟩).1 from rfl)
                    have HVV := Lib.hid (show unpackR L = if true = true ∨ (soundV ⟨F, T⟩).1 ≠ 0 ∨ packZ ⟨F, T⟩ ≠ L then (⟨[], []⟩, 6) else (⟨F, T⟩, 0) by rw [HVR.out, HCE.out])
                    clear hrq h2 h4 hcp hb9 hr9 HVR hkg HSV
                    generalize (soundV ⟨F, T⟩).1 = sv at *
                    have HV := Lib.hid (show unpackR L = (⟨[], []⟩, 6) by rw [HVV.out, if_pos (.inl rfl)])
                    go_wp2_with fail
                    rw [HV.out]
                    exact bodyPost_ret (v := .tuple #[.agg #[.slice none 0 0, .slice none 0 0], .int .i64 6]) (by simp [results, Try.results26, go_sem, t0, t1]) rfl ⟨none, 0, none, 0, rfl, KR.nil _ _, (HBE.out.setCell (p := ⟨g2, 0, none⟩) hgw _).setCell (p := ⟨g2, 1, none⟩) hgw _⟩
                  | false =>
                    have hkd := hkd rfl
                    go_wp2_with fail
                    refine Calls.mono ((packCode_any VF VA FC VC ⟨F, T⟩ F.length nT wr rfl HTN.out.symm HKR.out).mono fun _ _ h => h.one) ?_
                    rintro e wp ⟨A9, n9, c9, rfl, hr9, hn9, hb9⟩
                    have HKP := Lib.hid ((HKR.out.into hb9).more hb9.size)
                    have hrq := HRL.out.keep hb9
                    have p1 : wp.cell? ⟨g1, 0, none⟩ = some (.slice (some ⟨b, off, none⟩) (m + 4) c) := by rw [Lib.cell_of_heap hrq.c1]; rfl
                    have p8 : wp.cell? ⟨g8, 0, none⟩ = some (.bool (!false)) := by rw [Lib.cell_of_heap hrq.c8]; rfl
                    have HRB := Lib.hid hrq.rd
                    have hkg : ∀ k, k < W.heap.size → k ≠ g7 → k ≠ g8 → k ≠ gc → wp.heap[k]? = W.heap[k]? := fun k h1 h2 h3 h4 => (hb9.block k (by have := HCHL.out.size; have := HZ3.out; omega)).trans ((HCHL.out.blk k (by have := HZ3.out; omega) (by omega)).trans (HCH3.out.blk k h1 (by omega)))
                    have h2 := (hkg g2 (by have := HO.out; omega) (by have := HO.out; omega) (by have := HO.out; omega) (by have := HO.out; omega)).trans HW2.out
                    have h4 := (hkg g4 (by have := HO.out; omega) (by have := HO.out; omega) (by have := HO.out; omega) (by have := HO.out; omega)).trans HW4.out
                    have hcp := (hb9.block gc hcw).trans HCL.out
                    have t0 : wp.cell? ⟨g2, 0, none⟩ = some (.slice none 0 0) := by rw [Lib.cell_of_heap h2]; rfl
                    have t1 : wp.cell? ⟨g2, 1, none⟩ = some (.slice none 0 0) := by rw [Lib.cell_of_heap h2]; rfl
                    have q0 : wp.cell? ⟨g4, 0, none⟩ = some (.slice none 0 0) := by rw [Lib.cell_of_heap h4]; rfl
                    have q1 : wp.cell? ⟨g4, 1, none⟩ = some (.slice none 0 0) := by rw [Lib.cell_of_heap h4]; rfl
                    have v0 : wp.cell? ⟨gc, 0, none⟩ = some (.slice VF F.length FC) := by rw [Lib.cell_of_heap hcp]; rfl
                    have v1 : wp.cell? ⟨gc, 1, none⟩ = some (.slice VA nT VC) := by rw [Lib.cell_of_heap hcp]; rfl
                    have f0 := Lib.frozen_of_heap h2 0
                    have f1 := Lib.frozen_of_heap h2 1
                    have H2 := Lib.hid h2
                    have HBE := Lib.hid (show Below w.heap.size w wp from ⟨hb9.os.trans (HCHL.out.os.trans (HCH3.out.os.trans HBW.out.os)), hb9.tape.trans (HCHL.out.tape.trans (HCH3.out.tape.trans HBW.out.tape)), hb9.output.trans (HCHL.out.out.trans (HCH3.out.out.trans HBW.out.output)), Nat.le_trans (by have := HO.out; have := HZ3.out; have := HCHL.out.size; omega) hb9.size, fun k hk => (hkg k (by have := HO.out; omega) (by have := HO.out; omega) (by have := HO.out; omega) (by have := HO.out; omega)).trans (HBW.out.block k (by have := HO.out; omega))⟩)
                    have hgw : w.heap.size ≤ g2 := by have := HO.out; omega
                    have HR9 := Lib.hid hr9
                    have HSV := Lib.hid (show (soundV ⟨F, T⟩).1 = (soundV ⟨F, T⟩).1 from rfl)
                    have HVV := Lib.hid (show unpackR L = if false = true ∨ (soundV ⟨F, T⟩).1 ≠ 0 ∨ packZ ⟨F, T⟩ ≠ L then (⟨[], []⟩, 6) else (⟨F, T⟩, 0) by rw [HVR.out, HCE.out])
                    clear hrq h2 h4 hcp hb9 hr9 HVR hkg HSV
                    generalize (soundV ⟨F, T⟩).1 = sv at *
                    by_cases hs0 : sv = 0
                    · have hb0 : (sv != 0) = false := by simpa using hs0
                      by_cases hp : packZ ⟨F, T⟩ = L
                      · have HV := Lib.hid (show unpackR L = (⟨F, T⟩, 0) by rw [HVV.out, if_neg (by simp [hs0, hp])])
                        have hx9 := run_str_rd (P := Try.prog) (c := c9) HR9.out 68 5 9 Try.underlying68 Try.underlying5 Try.underlying9
                        have hxb := run_str_rd (P := Try.prog) (c := c) HRB.out 68 5 9 Try.underlying68 Try.underlying5 Try.underlying9
                        rw [hp] at hx9
                        clear hs0 hp
                        generalize strOfNums L = sz at *
                        go_wp2_with fail
                        rw [HV.out]
                        refine bodyPost_ret (v := .tuple #[.agg #[.slice VF F.length FC, .slice VA nT VC], .int .i64 0]) (by simp [results, Try.results26, go_sem, t0, t1]) rfl ⟨VF, FC, VA, VC, by rw [← HTN.out], ?_, (HBE.out.setCell (p := ⟨g2, 0, none⟩) hgw _).setCell (p := ⟨g2, 1, none⟩) hgw _⟩
                        exact (HKP.out.avoid (two_slices H2.out) (w' := (wp.setCell ⟨g2, 0, none⟩ (.slice VF F.length FC)).setCell ⟨g2, 1, none⟩ (.slice VA nT VC)) fun p _ hne => World.cell?_of_block (by rw [Below.heap_setCell _ _ _ _ hne, Below.heap_setCell _ _ _ _ hne])).more (by simp)
                      · have HV := Lib.hid (show unpackR L = (⟨[], []⟩, 6) by rw [HVV.out, if_pos (.inr (.inr hp))])
                        have hx9 := run_str_rd (P := Try.prog) (c := c9) HR9.out 68 5 9 Try.underlying68 Try.underlying5 Try.underlying9
                        have hxb := run_str_rd (P := Try.prog) (c := c) HRB.out 68 5 9 Try.underlying68 Try.underlying5 Try.underlying9
                        have hq := str_ne (nums_ne (packZ_wf ⟨F, T⟩) HZ.out hp)
                        generalize strOfNums L = sz at *
                        generalize strOfNums (packZ ⟨F, T⟩) = sy at *
                        clear hs0 hp
                        go_wp2_with fail
                        rw [HV.out]
                        exact bodyPost_ret (v := .tuple #[.agg #[.slice none 0 0, .slice none 0 0], .int .i64 6]) (by simp [results, Try.results26, go_sem, t0, t1]) rfl ⟨none, 0, none, 0, rfl, KR.nil _ _, (HBE.out.setCell (p := ⟨g2, 0, none⟩) hgw _).setCell (p := ⟨g2, 1, none⟩) hgw _⟩
                    · have hb0 : (sv != 0) = true := by simpa using hs0
                      have HV := Lib.hid (show unpackR L = (⟨[], []⟩, 6) by rw [HVV.out, if_pos (.inr (.inl hs0))])
                      clear hs0
                      go_wp2_with fail
                      rw [HV.out]
                      exact bodyPost_ret (v := .tuple #[.agg #[.slice none 0 0, .slice none 0 0], .int .i64 6]) (by simp [results, Try.results26, go_sem, t0, t1]) rfl ⟨none, 0, none, 0, rfl, KR.nil _ _, (HBE.out.setCell (p := ⟨g2, 0, none⟩) hgw _).setCell (p := ⟨g2, 1, none⟩) hgw _⟩
      · have hsb2 : (sm != (ac : Int)) = true := by simpa using hsm
        have t0 : w1.cell? ⟨g2, 0, none⟩ = some (.slice none 0 0) := by rw [Lib.cell_of_heap HV2.out]; rfl
        have t1 : w1.cell? ⟨g2, 1, none⟩ = some (.slice none 0 0) := by rw [Lib.cell_of_heap HV2.out]; rfl
        have q0 : w1.cell? ⟨g4, 0, none⟩ = some (.slice none 0 0) := by rw [Lib.cell_of_heap HV4.out]; rfl
        have q1 : w1.cell? ⟨g4, 1, none⟩ = some (.slice none 0 0) := by rw [Lib.cell_of_heap HV4.out]; rfl
        have f0 := Lib.frozen_of_heap HV2.out 0
        have f1 := Lib.frozen_of_heap HV2.out 1
        have HV := Lib.hid (show unpackR L = (⟨[], []⟩, 18) by
          unfold unpackR
          rw [if_neg (by rw [HL.out]; simp only [not_or, Decidable.not_not]; exact ⟨h9, HH.out⟩), HL.out, Nat.add_sub_cancel, HSV.out, HAV.out, if_pos (by simpa using hsm)])
        go_wp2_with fail
        rw [HV.out]
        exact bodyPost_ret (v := .tuple #[.agg #[.slice none 0 0, .slice none 0 0], .int .i64 18]) (by simp [results, Try.results26, go_sem, t0, t1]) rfl ⟨none, 0, none, 0, rfl, KR.nil _ _, by have := HG.out; rw [this.1]; exact (HBV.out.setCell (p := ⟨g2, 0, none⟩) (by show g1 ≤ g2; omega) _).setCell (p := ⟨g2, 1, none⟩) (by show g1 ≤ g2; omega) _⟩
    · have e : unpackR L = (⟨[], []⟩, 6) := by unfold unpackR; rw [if_pos (.inr hh)]
      rw [e]
      clear e
      have hq := str_ne_lit hh
      simp only at hq
      generalize strOfNums (L.take 5) = sz at *
      go_enter Try.func26, Try.ntmps26
      go_wp2_with fail
      exact bodyPost_ret (v := .tuple #[.agg #[.slice none 0 0, .slice none 0 0], .int .i64 6]) (by simp [results, Try.results26, go_sem]) rfl ⟨none, 0, none, 0, rfl, KR.nil _ _, sq (sq (al _) (al _)) (al _)⟩
end Go.Proofs.Ytgcedkioanolcaa
