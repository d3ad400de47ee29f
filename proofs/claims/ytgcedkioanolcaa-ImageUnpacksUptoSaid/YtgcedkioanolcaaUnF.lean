/- image's reader: 'code', walked. Conditions: the bytes are few. -/
import Derived.Test.YtgcedkioanolcaaUnE
set_option maxRecDepth 100000
namespace Go.Proofs.Ytgcedkioanolcaa
open Go.ChangeShapes Go.WideShapes Go.ChangeAt Go.RowKit
theorem grown_drew {w w' : World} {r : Option Nat} (h : w.drew.grownBy w' r) : w.grownBy w' r := ⟨h.os, h.tape, h.output, h.size, h.block⟩
theorem Own.chg {X : Type} {S : Shp X} {t : TypeId} {w w' : World} {base : Nat} {v : Value} {xs : List X} {a b : Nat} (h : Own S t w base (· < base) v xs) (hg : Ch a b w w') (ha : a < base) (hb : b < base) : Own S t w' base (· < base) v xs :=
  h.keep hg.size (fun k hk hE => hg.blk k hk (by omega) (by omega)) (fun k hk hE => by have := (h.ownlt hk).1; omega)
theorem FF.ofOwn {w : World} {base : Nat} {t : TypeId} {f : FF} {vi : Value} (q1 : -9223372036854775808 ≤ f.params ∧ f.params ≤ 9223372036854775807) (q2 : -9223372036854775808 ≤ f.slots ∧ f.slots ≤ 9223372036854775807) (q3 : -9223372036854775808 ≤ f.caps ∧ f.caps ≤ 9223372036854775807) (h : Own II.sh t w base (· < base) vi f.ins) : FF.sh.rd w (fun b => base ≤ b ∧ b < w.heap.size) [.string f.name, .int .i64 f.params, .int .i64 f.slots, .int .i64 f.caps, vi] f := by
  obtain ⟨A, c, ess, e, p1, p2, p3, r, a⟩ := h.readN
  injection e with e
  subst e
  exact FF.intro q1 q2 q3 r a ⟨p1, p2, p3⟩
theorem numS_in {L : List Int} (hz : U8s L) (bad : Bool) : -9223372036854775808 ≤ (numS bad L).1 ∧ (numS bad L).1 ≤ 9223372036854775807 := by
  unfold numS
  split
  · simp
  · split
    next x hx => exact (numP_sound hz hx).2.1
    next => simp
theorem cntS_short' (bad : Bool) (L : List Int) : (cntS bad L).2.2.length ≤ L.length := by
  cases bad with
  | false => exact cntS_short L
  | true =>
    have h2 : (cntS true L).2.2 = (numS true L).2.2 := by unfold cntS; split <;> rfl
    rw [h2]
    simp [numS]
/-- What reads never lengthens what is left, and never forgets that something was wrong. -/
def Less {α : Type} (p : Bool → List Int → α × Bool × List Int) : Prop := (∀ L, (p true L).2.1 = true) ∧ ∀ bad L, (p bad L).2.2.length ≤ L.length
theorem numS_less : Less numS := ⟨fun _ => rfl, fun bad L => by
  cases bad with
  | false => exact numS_le L
  | true => simp [numS]⟩
theorem cntS_less : Less cntS := ⟨cntS_agrees.1, cntS_short'⟩
theorem texS_less : Less texS := ⟨texS_agrees.1, fun bad L => by
  have := cntS_short' bad L
  unfold texS
  simp only [List.length_drop]
  omega⟩
theorem thenS_less {α γ : Type} {p : Bool → List Int → α × Bool × List Int} {r : α → Bool → List Int → γ × Bool × List Int} (h : Less p) (k : ∀ x, Less (r x)) : Less (thenS p r) :=
  ⟨fun L => by unfold thenS; rw [h.1 L]; exact (k _).1 _, fun bad L => Nat.le_trans ((k _).2 _ _) (h.2 bad L)⟩
theorem doneS_less {α : Type} (x : α) : Less (fun bad L => (x, bad, L)) := ⟨fun _ => rfl, fun _ _ => Nat.le_refl _⟩
theorem runL_less {α : Type} {p : Bool → List Int → α × Bool × List Int} (h : Less p) (n : Nat) : Less (runL p n) := by
  refine ⟨fun L => by rw [runL_bad], ?_⟩
  induction n with
  | zero => exact fun _ _ => Nat.le_refl _
  | succ n ih =>
    intro bad L
    cases bad with
    | true => exact Nat.le_refl _
    | false => exact Nat.le_trans (ih _ _) (h.2 _ _)
theorem thenS_len {α γ : Type} {p : Bool → List Int → α × Bool × List Int} {r : α → Bool → List Int → γ × Bool × List Int} (h : ∀ L, (p false L).2.1 = false → (p false L).2.2.length < L.length) (k : ∀ x, Less (r x)) (L : List Int) (hb : (thenS p r false L).2.1 = false) : (thenS p r false L).2.2.length < L.length := by
  unfold thenS at hb ⊢
  cases hc : (p false L).2.1 with
  | true =>
    rw [hc, (k _).1] at hb
    cases hb
  | false => exact Nat.lt_of_le_of_lt ((k _).2 _ _) (h L hc)
theorem inR_less (o : Int) : Less (thn numS fun a => thn numS fun b => thn numS fun c => thn numS fun d => thn numS fun e => fun bad L => ((⟨o, a, b, c, d, e⟩ : II), bad, L)) :=
  thenS_less numS_less fun _ => thenS_less numS_less fun _ => thenS_less numS_less fun _ => thenS_less numS_less fun _ => thenS_less numS_less fun _ => doneS_less _
theorem inS_less : Less inS := thenS_less numS_less inR_less
theorem inS_len (L : List Int) (h : (inS false L).2.1 = false) : (inS false L).2.2.length < L.length := thenS_len numS_len inR_less L h
theorem fnR_less (n : ByteArray) : Less (thn numS fun p => thn numS fun s => thn numS fun c => thn cntS fun k => thn (runL inS k) fun i => fun bad L => ((⟨n, p, s, c, i⟩ : FF), bad, L)) :=
  thenS_less numS_less fun _ => thenS_less numS_less fun _ => thenS_less numS_less fun _ => thenS_less cntS_less fun k => thenS_less (runL_less inS_less k) fun _ => doneS_less _
theorem fnSS_less : Less fnSS := thenS_less texS_less fnR_less
theorem fnSS_len (L : List Int) (h : (fnSS false L).2.1 = false) : (fnSS false L).2.2.length < L.length := thenS_len texS_len fnR_less L h
theorem Ch.below {a b : Nat} {W w w' : World} (h : Ch a b W w) (hb : Below w.heap.size w w') : Ch a b W w' :=
  ⟨hb.os.trans h.os, hb.tape.trans h.tape, hb.output.trans h.out, Nat.le_trans h.size hb.size, fun k hk ha hb' => (hb.block k (Nat.lt_of_lt_of_le hk h.size)).trans (h.blk k hk ha hb')⟩
theorem Ch.trans {a b c : Nat} {W w w' : World} (h : Ch a b W w) (k : Ch a c w w') (hc : W.heap.size ≤ c) : Ch a b W w' :=
  ⟨k.os.trans h.os, k.tape.trans h.tape, k.out.trans h.out, Nat.le_trans h.size k.size, fun i hi ha hb => (k.blk i (Nat.lt_of_lt_of_le hi h.size) ha (by omega)).trans (h.blk i hi ha hb)⟩
theorem nbz_pos2 (u : Nat) : 0 < (nbz u).length := by
  by_cases h : u < 128
  · rw [nb_lt h]; simp
  · rw [nb_ge h]; simp
theorem flat_le {α : Type} (f : α → List Int) {l : List α} {x : α} (h : x ∈ l) : (f x).length ≤ (l.flatMap f).length := by
  obtain ⟨a, b, rfl⟩ := List.append_of_mem h
  simp only [List.flatMap_append, List.flatMap_cons, List.length_append]
  omega
theorem flat_len2 {α : Type} (f : α → List Int) (h : ∀ x, 0 < (f x).length) (l : List α) : l.length ≤ (l.flatMap f).length := by
  induction l with
  | nil => simp
  | cons x l ih =>
    have := h x
    simp only [List.length_cons, List.flatMap_cons, List.length_append]
    omega
theorem insL_pos2 (i : II) : 0 < (insL i).length := by
  have := nbz_pos2 (zig i.o)
  simp only [insL, numL, List.flatMap_cons, List.length_append]
  omega
theorem body_big (K : KK) : (∀ s ∈ K.texts, s.size ≤ (bodyL K).length) ∧ (∀ f ∈ K.funcs, f.name.size ≤ (bodyL K).length) ∧ ∀ f ∈ K.funcs, f.ins.length ≤ (bodyL K).length := by
  refine ⟨fun s hs => ?_, fun f hf => ?_, fun f hf => ?_⟩
  · have h1 := flat_le txL hs
    have h2 := strL_len s
    simp only [txL, List.length_append] at h1
    simp only [bodyL, List.length_append]
    omega
  · have h1 := flat_le fnL hf
    have h2 := strL_len f.name
    simp only [fnL, txL, List.length_append] at h1
    simp only [bodyL, List.length_append]
    omega
  · have h1 := flat_le fnL hf
    have h2 := flat_len2 insL insL_pos2 f.ins
    simp only [fnL, txL, List.length_append] at h1
    simp only [bodyL, List.length_append]
    omega
theorem code_big {L R : List Int} {K : KK} (hz : U8s L) (h : codeS false L = (K, false, R)) : (∀ s ∈ K.texts, s.size ≤ L.length) ∧ (∀ f ∈ K.funcs, f.name.size ≤ L.length) ∧ ∀ f ∈ K.funcs, f.ins.length ≤ L.length := by
  have hk : codeP cntP L = some (K, R) := by
    rcases codeS_agrees.2 L with ⟨x, S, h1, h2⟩ | ⟨_, h2⟩
    · rw [h] at h2
      injection h2 with h2 h3
      injection h3 with h3 h4
      subst h2 h4
      exact h1
    · rw [h] at h2
      cases h2
  have e : (bodyL K).length ≤ L.length := by
    rw [(codeP_sound hz hk).1, List.length_append]
    omega
  obtain ⟨h1, h2, h3⟩ := body_big K
  exact ⟨fun s hs => Nat.le_trans (h1 s hs) e, fun f hf => Nat.le_trans (h2 f hf) e, fun f hf => Nat.le_trans (h3 f hf) e⟩
theorem cntS_bad (L : List Int) : (cntS true L).1 = 0 := by
  unfold cntS numS
  simp
/-- In the midst of a function's instructions. -/
structure Mid (B g fb : Nat) (W8 : World) (nm : ByteArray) (p q r : Int) (vi : Value) (I : List II) (L : List Int) (bad : Bool) (w : World) : Prop where
  rd : Rdr B g L bad w
  box : w.heap[fb]? = some (.cells #[.string nm, .int .i64 p, .int .i64 q, .int .i64 r, vi] 128 (0, 0))
  own : Own II.sh 130 w W8.heap.size (· < W8.heap.size) vi I
  ch : Ch g fb W8 w
  lt : g < fb ∧ fb < W8.heap.size
section
variable {B g fb : Nat} {W8 : World} {nm : ByteArray} {p q r : Int} {vi : Value} {I : List II} {L L' : List Int} {bad bad' : Bool} {w w' : World}
theorem Mid.grow (h : Mid B g fb W8 nm p q r vi I L bad w) (hg : w.grownBy w' (some g)) (hr : Rdr B g L' bad' w') : Mid B g fb W8 nm p q r vi I L' bad' w' := by
  have h1 := h.lt.1
  have h2 := h.lt.2
  have h3 := h.ch.size
  exact ⟨hr, (hg.block fb (by omega) (fun e => by injection e with e; omega)).trans h.box, h.own.grow hg (by omega), h.ch.grown hg (fun q e => by injection e with e; exact .inl e.symm), h.lt⟩
theorem Mid.drew (h : Mid B g fb W8 nm p q r vi I L bad w) : Mid B g fb W8 nm p q r vi I L bad w.drew :=
  ⟨h.rd.keep (Below.refl w.heap.size w).drew, h.box, h.own.below (Below.refl w.heap.size w).drew, ⟨h.ch.os, h.ch.tape, h.ch.out, h.ch.size, h.ch.blk⟩, h.lt⟩
theorem Mid.alloc (h : Mid B g fb W8 nm p q r vi I L bad w) (o : Obj) : Mid B g fb W8 nm p q r vi I L bad (w.alloc o) := by
  have h1 := h.lt.1
  have h2 := h.lt.2
  have h3 := h.ch.size
  exact ⟨h.rd.keep (al _), (Lib.alloc_old w o fb (by omega)).trans h.box, h.own.below (al _), h.ch.alloc _, h.lt⟩
theorem Mid.cell (h : Mid B g fb W8 nm p q r vi I L bad w) : w.cell? ⟨fb, 4, none⟩ = some vi := by rw [Lib.cell_of_heap h.box]; rfl
theorem Mid.frozen (h : Mid B g fb W8 nm p q r vi I L bad w) : w.frozen? ⟨fb, 4, none⟩ = false := Lib.frozen_of_heap h.box 4
theorem Mid.le (h : Mid B g fb W8 nm p q r vi I L bad w) : W8.heap.size ≤ w.heap.size := h.ch.size
theorem box4 {w : World} {g : Nat} {a b c d e : Value} {t : TypeId} (hg : w.heap[g]? = some (.cells #[a, b, c, d, e] t (0, 0))) (v : Value) : (w.setCell ⟨g, 4, none⟩ v).heap[g]? = some (.cells #[a, b, c, d, v] t (0, 0)) := by
  simp [World.setCell, Array.getElem?_modify, hg]
theorem Mid.box2 (h : Mid B g fb W8 nm p q r vi I L bad w) (hg : w.grownBy w' vi.ownBlock) : w'.heap[fb]? = some (.cells #[.string nm, .int .i64 p, .int .i64 q, .int .i64 r, vi] 128 (0, 0)) := by
  have h2 := h.lt.2
  have h3 := h.ch.size
  exact (hg.block fb (by omega) (fun e => by have := (h.own.ownlt e.symm).1; omega)).trans h.box
theorem Mid.app (h : Mid B g fb W8 nm p q r vi I L bad w) (hg : w.grownBy w' vi.ownBlock) {v' : Value} {I' : List II} (ho : Own II.sh 130 w' W8.heap.size (· < W8.heap.size) v' I') : Mid B g fb W8 nm p q r v' I' L bad (w'.setCell ⟨fb, 4, none⟩ v') := by
  have h1 := h.lt.1
  have h2 := h.lt.2
  have h3 := h.ch.size
  have hq : ∀ q, vi.ownBlock = some q → W8.heap.size ≤ q := fun q e => (h.own.ownlt e).1
  have hs := grown_set (w := w') (g := fb) (o := 4) v'
  exact ⟨(h.rd.grown hg (fun q e => by have := hq q e; omega)).grown hs (fun q e => by injection e with e; omega), box4 (h.box2 hg) v', ho.grow hs h2, (h.ch.grown hg (fun q e => .inr (.inr (hq q e)))).grown hs (fun q e => by injection e with e; exact .inr (.inl e.symm)), h.lt⟩
theorem rdNumber_mid (h : Mid B g fb W8 nm p q r vi I L bad w) : Calls Try.prog 92 #[.pointer (some ⟨g, 0, none⟩)] w fun e w' => ∃ n b' L', numS bad L = (n, b', L') ∧ In6 n ∧ e = .returned (.int .i64 n) ∧ Mid B g fb W8 nm p q r vi I L' b' w' :=
  (rdNumber_any B g L bad w h.rd).mono fun _ _ ⟨h1, h2, h3⟩ => ⟨_, _, _, rfl, numS_in h.rd.z bad, h1, h.grow h3 h2⟩
end
theorem inS_of {b b1 b2 b3 b4 b5 b6 : Bool} {L L1 L2 L3 L4 L5 L6 : List Int} {n1 n2 n3 n4 n5 n6 : Int} (h1 : numS b L = (n1, b1, L1)) (h2 : numS b1 L1 = (n2, b2, L2)) (h3 : numS b2 L2 = (n3, b3, L3)) (h4 : numS b3 L3 = (n4, b4, L4)) (h5 : numS b4 L4 = (n5, b5, L5)) (h6 : numS b5 L5 = (n6, b6, L6)) :
    inS b L = (⟨n1, n2, n3, n4, n5, n6⟩, b6, L6) := by
  simp only [inS, thn, thenS, h1, h2, h3, h4, h5, h6]
set_option maxHeartbeats 8000000 in
theorem rdCode_any (B g : Nat) (L0 : List Int) (w : World) (h : Rdr B g L0 false w) (hL : L0.length ≤ 1048576) :
    Calls Try.prog 59 #[.pointer (some ⟨g, 0, none⟩)] w fun e w' => (∃ FA fc TA tc, e = .returned (.agg #[.slice FA (codeS false L0).1.funcs.length fc, .slice TA (codeS false L0).1.texts.length tc]) ∧ ((codeS false L0).2.1 = false → KR w' w'.heap.size FA TA (codeS false L0).1)) ∧ Rdr B g (codeS false L0).2.2 (codeS false L0).2.1 w' ∧ w.grownBy w' (some g) := by
  obtain ⟨s0, hs, sz0, sz1, sz2⟩ := info_parts info_str
  obtain ⟨i0, hi, hz0, hz1, hz2⟩ := info_parts info_ins
  obtain ⟨j0, hj, jz0, jz1, jz2⟩ := info_parts info_fn
  have HR := Lib.hid h
  have hgl := h.lt
  clear h
  go_enter Try.func59, Try.ntmps59
  go_wp2_with fail
  generalize hW : (w.alloc (.cells #[.slice none 0 0, .slice none 0 0] 72)).alloc (.cells #[.slice none 0 0, .slice none 0 0] 72) = W
  have HA := Lib.hid (show W.heap[w.heap.size]? = some (.cells #[.slice none 0 0, .slice none 0 0] 72 (0, 0)) by subst hW; rw [Lib.alloc_old _ _ _ (by simp)]; exact heap_alloc_new w _)
  have HC := Lib.hid (show W.heap[w.heap.size + 1]? = some (.cells #[.slice none 0 0, .slice none 0 0] 72 (0, 0)) by subst hW; exact (by have := heap_alloc_new (w.alloc (.cells #[.slice none 0 0, .slice none 0 0] 72)) (.cells #[.slice none 0 0, .slice none 0 0] 72); simpa using this))
  have HWB := Lib.hid (show Below w.heap.size w W by subst hW; exact sq (al _) (al _))
  have hws : W.heap.size = w.heap.size + 2 := by subst hW; simp
  have HRW := Lib.hid (HR.out.keep HWB.out)
  clear hW
  refine Calls.mono (rdCount_any B g L0 false W HRW.out) ?_
  rintro e w1 ⟨rfl, h1, hg1⟩
  have hgc : g < w.heap.size := hgl
  have HCH := Lib.hid (show Ch g (w.heap.size + 1) W w1 from Ch.refl.grown hg1 (fun q e => by injection e with e; exact .inl e.symm))
  have HC1 := Lib.hid ((hg1.block (w.heap.size + 1) (by omega) (fun e => by injection e with e; omega)).trans HC.out)
  have HR1 := Lib.hid h1
  have hcl := cntS_le false L0
  have hcs1 := cntS_short L0
  have hzz1 := hg1.size
  clear h1 hg1
  generalize hq1 : cntS false L0 = q1 at *
  obtain ⟨n1, b1, L1⟩ := q1
  have HQ1 := Lib.hid hq1
  clear hq1
  simp only at HR1 hcl hcs1
  have HN1 := Lib.hid (show n1 ≤ 1048576 by omega)
  clear hcs1
  go_wp2_with fail
  go_loopw [4] (fun v wr => ∃ (k : Nat) (T : List ByteArray) (bad : Bool) (L : List Int) (vt : Value), v = .int .i64 (k : Int) ∧ k ≤ n1 ∧ Hid (Part texS (runL texS n1 b1 L1) T k bad L) ∧ Hid (Rdr B g L bad wr) ∧ Hid (wr.heap[w.heap.size + 1]? = some (.cells #[.slice none 0 0, vt] 72 (0, 0))) ∧ Hid (wr.ownsRow (w.heap.size + 2) 9 1 vt T.length (T.map Value.string)) ∧ Hid (Ch g (w.heap.size + 1) W wr) ∧ Hid (L.length ≤ L0.length ∧ (bad = false → T.length + L.length ≤ L0.length) ∧ T.length ≤ L0.length + 1)) (fun v _ => (intOf v).toNat)
  case atStart => exact ⟨n1, [], b1, L1, .slice none 0 0, rfl, Nat.le_refl _, Lib.hid (by unfold Part; simp), HR1, HC1, Lib.hid (World.ownsRow_nil _ _ _ _), HCH, Lib.hid ⟨by have := cntS_short L0; rw [HQ1.out] at this; exact this, fun _ => by have := cntS_short L0; rw [HQ1.out] at this; simpa using this, by simp⟩⟩
  case round =>
    obtain ⟨k, T, bad, L, vt, rfl, hkn, HPT, HRL, HCL, HOT, HCHL, HBD⟩ := hrel
    obtain ⟨VA, VC, hv⟩ := own_form HOT.out
    subst hv
    obtain ⟨RA, rc, hgb, _, _⟩ := HRL.out.ex
    have r1 : wr.cell? ⟨g, 1, none⟩ = some (.bool bad) := by rw [Lib.cell_of_heap hgb]; rfl
    have v1 : wr.cell? ⟨w.heap.size + 1, 1, none⟩ = some (.slice VA T.length VC) := by rw [Lib.cell_of_heap HCL.out]; rfl
    have hgw : g < wr.heap.size := (Array.getElem?_eq_some_iff.1 hgb).1
    have hcw : w.heap.size + 1 < wr.heap.size := (Array.getElem?_eq_some_iff.1 HCL.out).1
    clear hgb
    by_cases hgo : 0 < k ∧ bad = false
    · obtain ⟨hk0, rfl⟩ := hgo
      obtain ⟨k, rfl⟩ : ∃ q, k = q + 1 := ⟨k - 1, by omega⟩
      have HW64 := Lib.hid (show RowKit.wrap64 (k : Int) = k by have := HN1.out; unfold RowKit.wrap64; omega)
      have hr0 := Lib.hid (HRL.out.keep (Below.refl wr.heap.size wr).drew)
      have HPN := Lib.hid HPT.out.step
      have HTL := Lib.hid (texS_len L)
      have HTZ := Lib.hid (texS_less.2 false L)
      generalize hT : T.length = nT at *
      have HTN := Lib.hid hT
      have hnT : nT ≤ 1048577 := by have := HBD.out.2.2; omega
      clear hT
      have HTX := Lib.hid (fun W hW => rdText_any B g L false W hW)
      generalize hq : texS false L = q at *
      obtain ⟨s, b4, L4⟩ := q
      simp only at HTX HPN HTL HTZ
      clear hq
      go_wp2_with fail
      go_region_law (first
        | (go_simp; (go_at_call 91); refine (HTX.out _ hr0.out).mono ?_; rintro e w4 ⟨rfl, h4, g4'⟩; have g4 := grown_drew g4'; have hc4 := (g4.block (w.heap.size + 1) hcw (fun e => by injection e with e; omega)).trans HCL.out; have d4 : w4.cell? ⟨w.heap.size + 1, 1, none⟩ = some (.slice VA nT VC) := (by rw [Lib.cell_of_heap hc4]; rfl); have d4b : (w4.alloc (.cells #[.string s] 9)).cell? ⟨w.heap.size + 1, 1, none⟩ = some (.slice VA nT VC) := (World.cell?_alloc_lt _ _ _ (by have := g4.size; simp; omega)).trans d4; have o4 := str_grow HOT.out (w' := w4) g4 (by omega); have s4 := g4.size; go_wp2_with fail)
        | (refine step_append_rd (by rfl) (.tmp 22) (.tmp 25) 70 (by rfl) (w.heap.size + 2) 9 s0 _ 1 16 Try.underlying70 hs sz0 sz1 sz2 (by rfl) (by omega) (.slice VA nT VC) nT (T.map Value.string) (by rfl) (o4.alloc _) (w4.heap.size + 1) (some ⟨w4.heap.size, 0, none⟩) 1 1 [.string s] (by rfl) (Rd.lit1 _ _ _) (one1 rfl) (by unfold maxLen; omega) (by omega) ?_ ?_; (have : wr.heap.size ≤ w4.heap.size := s4; have := HCHL.out.size; simp; omega); intro A5 c5 w5 hown5 hgrow5; have hwo : ∀ q, (Value.slice VA nT VC).ownBlock = some q → w.heap.size + 2 ≤ q := (fun q hq => (HOT.out.lt q hq).1); have hc5 := (hgrow5.block (w.heap.size + 1) (by simp; omega) (fun e => by have := hwo _ e.symm; omega)).trans ((Lib.alloc_old w4 (.cells #[.string s] 9) (w.heap.size + 1) (by omega)).trans hc4); have d5 : w5.cell? ⟨w.heap.size + 1, 1, none⟩ = some (.slice VA nT VC) := (by rw [Lib.cell_of_heap hc5]; rfl); have f5 : w5.frozen? ⟨w.heap.size + 1, 1, none⟩ = false := Lib.frozen_of_heap hc5 1)
        | fail "no")
      all_goals (
        have hs5 := hgrow5.size
        simp at hs5
        have HR5 := Lib.hid (((h4.keep (al _)).grown hgrow5 (fun q hq => by have := hwo q hq; omega)).grown (grown_set (g := w.heap.size + 1) (o := 1) (.slice A5 (nT + 1) c5)) (fun q hq => by injection hq with hq; omega))
        have HC5 := Lib.hid (heap_set1 hc5 (.slice A5 (nT + 1) c5))
        have HO5 := Lib.hid (str_grow hown5 (grown_set (g := w.heap.size + 1) (o := 1) (.slice A5 (nT + 1) c5)) (by omega))
        have HCH5 := Lib.hid ((((HCHL.out.grown g4 (fun q e => by injection e with e; exact .inl e.symm)).alloc _).grown hgrow5 (fun q hq => .inr (.inr (by have := hwo q hq; omega)))).grown (grown_set (g := w.heap.size + 1) (o := 1) (.slice A5 (nT + 1) c5)) (fun q e => by injection e with e; exact .inr (.inl e.symm)))
        go_wp2_with fail
        go_roundw
        case rel =>
          have e : (T ++ [s]).length = nT + 1 := by simp [HTN.out]
          refine ⟨k, T ++ [s], b4, L4, .slice A5 (nT + 1) c5, congrArg (Value.int .i64) HW64.out, by omega, HPN, HR5, HC5, ?_, HCH5, Lib.hid ⟨Nat.le_trans HTZ.out HBD.out.1, fun hb => ?_, ?_⟩⟩
          · rw [e, List.map_append]
            exact HO5
          · have := HTL.out hb
            have := HBD.out.2.1 trivial
            rw [e]
            omega
          · have := HBD.out.2.1 trivial
            rw [e]
            omega
        case measure => show (intOf (.int .i64 (RowKit.wrap64 (k : Int)))).toNat < (intOf (.int .i64 ((k : Int) + 1))).toNat; rw [HW64.out]; simp [intOf])
    · have HFI := Lib.hid (show runL texS n1 b1 L1 = (T, bad, L) by
        cases k with
        | zero => exact HPT.out.fin0
        | succ k =>
          have hb : bad = true := by simpa using hgo
          subst hb
          exact HPT.out.finB)
      have hcs : k = 0 ∨ ∃ q, k = q + 1 ∧ bad = true := by
        cases k with
        | zero => exact .inl rfl
        | succ k => exact .inr ⟨k, rfl, by simpa using hgo⟩
      rcases hcs with rfl | ⟨k, rfl, hbt⟩
      all_goals try rw [hbt] at r1
      all_goals go_wp2_with fail
      all_goals refine Calls.mono (rdCount_any B g L bad wr HRL.out) ?_
      all_goals rintro e w2 ⟨rfl, h2, hg2⟩
      all_goals (
        have HTT := Lib.hid HBD.out.2.2
        have HQC := Lib.hid HBD.out.1
        have HC2 := Lib.hid ((hg2.block (w.heap.size + 1) hcw (fun e => by injection e with e; omega)).trans HCL.out)
        have HO2 := Lib.hid (str_grow HOT.out hg2 (by omega))
        have HCH2 := Lib.hid (HCHL.out.grown hg2 (fun q e => by injection e with e; exact .inl e.symm))
        have HR2 := Lib.hid h2
        have hzz2 := hg2.size
        have hcl2 := cntS_le bad L
        have hcs2 := cntS_short' bad L
        clear h2 hg2 HPT HRL HCL HOT HCHL HBD r1 v1
        generalize hq2 : cntS bad L = q2 at *
        obtain ⟨n2, b2, L2⟩ := q2
        have HQ2 := Lib.hid hq2
        clear hq2
        simp only at HR2 hcl2 hcs2
        have HN2 := Lib.hid (show n2 ≤ 1048576 by have := HQC.out; omega)
        have HL2 := Lib.hid (show L2.length ≤ L0.length by have := HQC.out; omega)
        have HNZ := Lib.hid (show bad = true → n2 = 0 from fun hb => by have h := HQ2.out; rw [hb] at h; have := cntS_bad L; rw [h] at this; exact this)
        clear hcs2
        generalize hT : T.length = nT at *
        have HTN := Lib.hid hT
        clear hT)
      all_goals go_wp2_with fail
      rotate_left
      · have hn20 := HNZ.out hbt
        go_loopw [5] (fun v wr => ∃ (k : Nat) (F : List FF) (bad : Bool) (L : List Int) (vf : Value), v = .int .i64 (k : Int) ∧ k ≤ n2 ∧ Hid (Part fnSS (runL fnSS n2 b2 L2) F k bad L) ∧ Hid (Rdr B g L bad wr) ∧ Hid (wr.heap[w.heap.size + 1]? = some (.cells #[vf, .slice VA nT VC] 72 (0, 0))) ∧ Hid (Own FF.sh 128 wr w2.heap.size (· < w2.heap.size) vf F) ∧ Hid (Ch g (w.heap.size + 1) w2 wr) ∧ Hid (L.length ≤ L0.length ∧ (bad = false → F.length + L.length ≤ L0.length) ∧ F.length ≤ L0.length + 1)) (fun v _ => (intOf v).toNat)
        case atStart => exact ⟨n2, [], b2, L2, .slice none 0 0, rfl, Nat.le_refl _, Lib.hid (by unfold Part; simp), HR2, HC2, Own.nil, Ch.refl, Lib.hid ⟨HL2.out, fun _ => by have := HL2.out; simpa using this, by simp⟩⟩
        case round =>
          obtain ⟨k, F, bad, L, vf, rfl, hkn, HPT, HRL, HCL, HOF, HCHL, HBD⟩ := hrel
          obtain ⟨VF, FC, hv⟩ := HOF.out.form
          subst hv
          obtain ⟨RA, rc, hgb, _, _⟩ := HRL.out.ex
          have r1 : wr.cell? ⟨g, 1, none⟩ = some (.bool bad) := by rw [Lib.cell_of_heap hgb]; rfl
          have v0 : wr.cell? ⟨w.heap.size + 1, 0, none⟩ = some (.slice VF F.length FC) := by rw [Lib.cell_of_heap HCL.out]; rfl
          have v1 : wr.cell? ⟨w.heap.size + 1, 1, none⟩ = some (.slice VA nT VC) := by rw [Lib.cell_of_heap HCL.out]; rfl
          have hgw : g < wr.heap.size := (Array.getElem?_eq_some_iff.1 hgb).1
          have hcw : w.heap.size + 1 < wr.heap.size := (Array.getElem?_eq_some_iff.1 HCL.out).1
          clear hgb
          by_cases hgo : 0 < k ∧ bad = false
          · exact absurd hgo.1 (by omega)
          · have HFI2 := Lib.hid (show runL fnSS n2 b2 L2 = (F, bad, L) by
              cases k with
              | zero => exact HPT.out.fin0
              | succ k =>
                have hb : bad = true := by simpa using hgo
                subst hb
                exact HPT.out.finB)
            have hcs2 : k = 0 ∨ ∃ q, k = q + 1 ∧ bad = true := by
              cases k with
              | zero => exact .inl rfl
              | succ k => exact .inr ⟨k, rfl, by simpa using hgo⟩
            have HCE := Lib.hid (show codeS false L0 = (⟨F, T⟩, bad, L) by simp only [codeS, thn, thenS, HQ1.out, HFI.out, HQ2.out, HFI2.out])
            have haa := (HCHL.out.blk w.heap.size (by have := HCH2.out.size; omega) (by omega) (by omega)).trans ((HCH2.out.blk w.heap.size (by omega) (by omega) (by omega)).trans HA.out)
            have a0 : wr.cell? ⟨w.heap.size, 0, none⟩ = some (.slice none 0 0) := by rw [Lib.cell_of_heap haa]; rfl
            have a1 : wr.cell? ⟨w.heap.size, 1, none⟩ = some (.slice none 0 0) := by rw [Lib.cell_of_heap haa]; rfl
            have f0 := Lib.frozen_of_heap haa 0
            have f1 := Lib.frozen_of_heap haa 1
            clear haa
            obtain rfl : k = 0 := by omega
            clear hcs2
            all_goals (
              go_wp2_with fail
              refine bodyPost_ret (v := .agg #[.slice VF F.length FC, .slice VA nT VC]) (by simp [results, Try.results59, go_sem, a0, a1]) rfl ?_
              have hkb : ∀ q, q ≠ w.heap.size → ((wr.setCell ⟨w.heap.size, 0, none⟩ (.slice VF F.length FC)).setCell ⟨w.heap.size, 1, none⟩ (.slice VA nT VC)).heap[q]? = wr.heap[q]? := fun q hq => by rw [Below.heap_setCell _ _ _ _ hq, Below.heap_setCell _ _ _ _ hq]
              have g1 := grown_set (w := wr) (g := w.heap.size) (o := 0) (.slice VF F.length FC)
              have g2 := grown_set (w := wr.setCell ⟨w.heap.size, 0, none⟩ (.slice VF F.length FC)) (g := w.heap.size) (o := 1) (.slice VA nT VC)
              have hsw : w2.heap.size ≤ wr.heap.size := HCHL.out.size
              have hs2 := HCH2.out.size
              have HRF := (HRL.out.grown g1 (fun q e => by injection e with e; omega)).grown g2 (fun q e => by injection e with e; omega)
              have HOF2 := (HOF.out.grow g1 (by omega)).grow g2 (by omega)
              have hos : ((wr.setCell ⟨w.heap.size, 0, none⟩ (.slice VF F.length FC)).setCell ⟨w.heap.size, 1, none⟩ (.slice VA nT VC)).os = w.os ∧ ((wr.setCell ⟨w.heap.size, 0, none⟩ (.slice VF F.length FC)).setCell ⟨w.heap.size, 1, none⟩ (.slice VA nT VC)).tape = w.tape ∧ ((wr.setCell ⟨w.heap.size, 0, none⟩ (.slice VF F.length FC)).setCell ⟨w.heap.size, 1, none⟩ (.slice VA nT VC)).output = w.output := ⟨HCHL.out.os.trans (HCH2.out.os.trans HWB.out.os), HCHL.out.tape.trans (HCH2.out.tape.trans HWB.out.tape), HCHL.out.out.trans (HCH2.out.out.trans HWB.out.output)⟩
              have hsf : wr.heap.size ≤ ((wr.setCell ⟨w.heap.size, 0, none⟩ (.slice VF F.length FC)).setCell ⟨w.heap.size, 1, none⟩ (.slice VA nT VC)).heap.size := Nat.le_trans g1.size g2.size
              clear g1 g2
              generalize ((wr.setCell ⟨w.heap.size, 0, none⟩ (.slice VF F.length FC)).setCell ⟨w.heap.size, 1, none⟩ (.slice VA nT VC)) = wf at *
              rw [HCE.out]
              refine ⟨⟨VF, FC, VA, VC, by rw [← HTN.out], fun hb => ?_⟩, HRF, hos.1, hos.2.1, hos.2.2, by omega, fun q hq hne => (hkb q (by omega)).trans ((HCHL.out.blk q (by omega) (fun e => hne (by rw [e])) (by omega)).trans ((HCH2.out.blk q (by omega) (fun e => hne (by rw [e])) (by omega)).trans (HWB.out.block q hq)))⟩
              have hbf : bad = false := hb
              subst hbf
              obtain ⟨z1, z2, z3⟩ := code_big HR.out.z HCE.out
              obtain ⟨A9, c9, ess9, h9, _, _, _, hr9, ha9⟩ := HOF2.read
              simp at h9
              obtain ⟨rfl, rfl⟩ := h9
              refine ⟨fun j f hf => KK.fn hr9 ha9 rfl hf, ?_, fun s hs => by have := z1 s hs; omega, fun f hf => by have := z2 f hf; omega, by have := HBD.out.2.2; show F.length ≤ _; omega, by have := HTT.out; show T.length ≤ _; rw [HTN.out]; omega, fun f hf => by have := z3 f hf; omega⟩
              show Rd wf wf.heap.size 1 VA T.length (T.map Value.string)
              rw [HTN.out]
              exact ((((RdM.of_own HO2.out).keep (fun p hp => World.cell?_of_block (HCHL.out.blk p.block hp.2 (by omega) (by omega)))).keep (w' := wf) (fun p hp => World.cell?_of_block (hkb p.block (by omega)))).rd (fun b hb => by omega)))
      go_loopw [5] (fun v wr => ∃ (k : Nat) (F : List FF) (bad : Bool) (L : List Int) (vf : Value), v = .int .i64 (k : Int) ∧ k ≤ n2 ∧ Hid (Part fnSS (runL fnSS n2 b2 L2) F k bad L) ∧ Hid (Rdr B g L bad wr) ∧ Hid (wr.heap[w.heap.size + 1]? = some (.cells #[vf, .slice VA nT VC] 72 (0, 0))) ∧ Hid (Own FF.sh 128 wr w2.heap.size (· < w2.heap.size) vf F) ∧ Hid (Ch g (w.heap.size + 1) w2 wr) ∧ Hid (L.length ≤ L0.length ∧ (bad = false → F.length + L.length ≤ L0.length) ∧ F.length ≤ L0.length + 1)) (fun v _ => (intOf v).toNat)
      case atStart => exact ⟨n2, [], b2, L2, .slice none 0 0, rfl, Nat.le_refl _, Lib.hid (by unfold Part; simp), HR2, HC2, Own.nil, Ch.refl, Lib.hid ⟨HL2.out, fun _ => by have := HL2.out; simpa using this, by simp⟩⟩
      case round =>
        obtain ⟨k, F, bad, L, vf, rfl, hkn, HPT, HRL, HCL, HOF, HCHL, HBD⟩ := hrel
        obtain ⟨VF, FC, hv⟩ := HOF.out.form
        subst hv
        obtain ⟨RA, rc, hgb, _, _⟩ := HRL.out.ex
        have r1 : wr.cell? ⟨g, 1, none⟩ = some (.bool bad) := by rw [Lib.cell_of_heap hgb]; rfl
        have v0 : wr.cell? ⟨w.heap.size + 1, 0, none⟩ = some (.slice VF F.length FC) := by rw [Lib.cell_of_heap HCL.out]; rfl
        have v1 : wr.cell? ⟨w.heap.size + 1, 1, none⟩ = some (.slice VA nT VC) := by rw [Lib.cell_of_heap HCL.out]; rfl
        have hgw : g < wr.heap.size := (Array.getElem?_eq_some_iff.1 hgb).1
        have hcw : w.heap.size + 1 < wr.heap.size := (Array.getElem?_eq_some_iff.1 HCL.out).1
        clear hgb
        by_cases hgo : 0 < k ∧ bad = false
        · obtain ⟨hk0, rfl⟩ := hgo
          obtain ⟨k, rfl⟩ : ∃ q, k = q + 1 := ⟨k - 1, by omega⟩
          have HW64 := Lib.hid (show RowKit.wrap64 (k : Int) = k by have := HN2.out; unfold RowKit.wrap64; omega)
          have HPN := Lib.hid HPT.out.step
          have HFL := Lib.hid (fnSS_len L)
          have HFS := Lib.hid (fnSS_less.2 false L)
          have HLB := Lib.hid (show L.length ≤ 1048576 by have := HBD.out.1; omega)
          have HTS := Lib.hid (texS_less.2 false L)
          go_wp2_with fail
          refine Calls.mono (rdText_any B g L false wr HRL.out) ?_
          rintro e w4 ⟨rfl, h4, g4⟩
          generalize hq4 : texS false L = q4 at *
          obtain ⟨nm, b4, L4⟩ := q4
          have HQ4 := Lib.hid hq4
          clear hq4
          simp only at h4 HTS
          have HV5 := Lib.hid (numS_in h4.z b4)
          have HS5 := Lib.hid (numS_less.2 b4 L4)
          go_wp2_with fail
          refine Calls.mono (rdNumber_any B g L4 b4 w4 h4) ?_
          rintro e w5 ⟨rfl, h5, g5⟩
          generalize hq5 : numS b4 L4 = q5 at *
          obtain ⟨p5, b5, L5⟩ := q5
          have HQ5 := Lib.hid hq5
          clear hq5
          simp only at h5 HV5 HS5
          have HV6 := Lib.hid (numS_in h5.z b5)
          have HS6 := Lib.hid (numS_less.2 b5 L5)
          go_wp2_with fail
          refine Calls.mono (rdNumber_any B g L5 b5 w5 h5) ?_
          rintro e w6 ⟨rfl, h6, g6⟩
          generalize hq6 : numS b5 L5 = q6 at *
          obtain ⟨p6, b6, L6⟩ := q6
          have HQ6 := Lib.hid hq6
          clear hq6
          simp only at h6 HV6 HS6
          have HV7 := Lib.hid (numS_in h6.z b6)
          have HS7 := Lib.hid (numS_less.2 b6 L6)
          go_wp2_with fail
          refine Calls.mono (rdNumber_any B g L6 b6 w6 h6) ?_
          rintro e w7 ⟨rfl, h7, g7⟩
          generalize hq7 : numS b6 L6 = q7 at *
          obtain ⟨p7, b7, L7⟩ := q7
          have HQ7 := Lib.hid hq7
          clear hq7
          simp only at h7 HV7 HS7
          have HG7 := Lib.hid (grown2 (grown2 (grown2 g4 g5) g6) g7)
          have HR7 := Lib.hid h7
          have hz7 := HG7.out.size
          clear g4 g5 g6 g7 h4 h5 h6 h7
          have HLN := Lib.hid (show L7.length ≤ 1048576 by have := HLB.out; have := HTS.out; have := HS5.out; have := HS6.out; have := HS7.out; omega)
          clear HTS HS5 HS6 HS7
          go_wp2_with fail
          generalize hW8 : w7.alloc (.cells #[.string nm, .int .i64 p5, .int .i64 p6, .int .i64 p7, .slice none 0 0] 128) = W8
          have hs8 : W8.heap.size = w7.heap.size + 1 := by subst hW8; simp
          have HF8 := Lib.hid (show W8.heap[w7.heap.size]? = some (.cells #[.string nm, .int .i64 p5, .int .i64 p6, .int .i64 p7, .slice none 0 0] 128 (0, 0)) by subst hW8; exact heap_alloc_new w7 _)
          have HB8 := Lib.hid (show Below w7.heap.size w7 W8 by subst hW8; exact al _)
          have HRW8 := Lib.hid (HR7.out.keep HB8.out)
          clear hW8
          refine Calls.mono (rdCount_any B g L7 b7 W8 HRW8.out) ?_
          rintro e w8 ⟨rfl, h8, g8⟩
          have HF9 := Lib.hid ((g8.block w7.heap.size (by omega) (fun e => by injection e with e; omega)).trans HF8.out)
          have HG8 := Lib.hid g8
          have hz8 := g8.size
          have hcl3 := cntS_le b7 L7
          have hcs3 := cntS_short' b7 L7
          generalize hq8 : cntS b7 L7 = q8 at *
          obtain ⟨n3, b8, L8⟩ := q8
          have HQ8 := Lib.hid hq8
          clear hq8 g8
          simp only at h8 hcl3 hcs3
          have HN3 := Lib.hid (show n3 ≤ 1048576 ∧ L8.length ≤ 1048576 by have := HLN.out; omega)
          clear hcl3 hcs3
          have HM8 := Lib.hid (show Mid B g w7.heap.size w8 nm p5 p6 p7 (.slice none 0 0) [] L8 b8 w8 from ⟨h8, HF9.out, Own.nil, Ch.refl, by omega⟩)
          clear h8
          go_wp2_with fail
          go_loopw [7] (fun v wr => ∃ (j : Nat) (I : List II) (bad : Bool) (L : List Int) (vi : Value), v = .int .i64 (j : Int) ∧ j ≤ n3 ∧ Hid (Part inS (runL inS n3 b8 L8) I j bad L) ∧ Hid (Mid B g w7.heap.size w8 nm p5 p6 p7 vi I L bad wr) ∧ Hid ((bad = false → I.length + L.length ≤ 1048576) ∧ I.length ≤ 1048577)) (fun v _ => (intOf v).toNat)
          case atStart => exact ⟨n3, [], b8, L8, .slice none 0 0, rfl, Nat.le_refl _, Lib.hid (by unfold Part; simp), HM8, Lib.hid ⟨fun _ => by have := HN3.out.2; simpa using this, by simp⟩⟩
          case round =>
            obtain ⟨j, I, bd, M, vi, rfl, hjn, HPI, HMM, HBI⟩ := hrel
            obtain ⟨IA, IC, hv⟩ := HMM.out.own.form
            subst hv
            have m1 : wr.cell? ⟨g, 1, none⟩ = some (.bool bd) := by obtain ⟨_, _, hgb, _⟩ := HMM.out.rd.ex; rw [Lib.cell_of_heap hgb]; rfl
            have m4 := HMM.out.cell
            have hml := HMM.out.le
            by_cases hgi : 0 < j ∧ bd = false
            · obtain ⟨hj0, rfl⟩ := hgi
              obtain ⟨j, rfl⟩ : ∃ q, j = q + 1 := ⟨j - 1, by omega⟩
              have HJ64 := Lib.hid (show RowKit.wrap64 (j : Int) = j by have := HN3.out.1; unfold RowKit.wrap64; omega)
              have HPJ := Lib.hid HPI.out.step
              have HIL := Lib.hid (inS_len M)
              have HMD := Lib.hid HMM.out.drew
              go_wp2_with fail
              go_region_law (first
                | (go_simp; (go_at_call 92); (first | (refine (rdNumber_mid HM5.out).mono ?_; rintro e y6 ⟨x6, c6, R6, hq6, hn6, rfl, hm6⟩; have HM6 := Lib.hid hm6; have hc6 := hm6.cell; have hl6 := hm6.le; have hcA := (hm6.alloc (.cells #[.int .i64 x1, .int .i64 x2, .int .i64 x3, .int .i64 x4, .int .i64 x5, .int .i64 x6] 130)).cell) | (refine (rdNumber_mid HM4.out).mono ?_; rintro e y5 ⟨x5, c5, R5, hq5, hn5, rfl, hm5⟩; have HM5 := Lib.hid hm5; have hc5 := hm5.cell; have hl5 := hm5.le) | (refine (rdNumber_mid HM3.out).mono ?_; rintro e y4 ⟨x4, c4, R4, hq4, hn4, rfl, hm4⟩; have HM4 := Lib.hid hm4; have hc4 := hm4.cell; have hl4 := hm4.le) | (refine (rdNumber_mid HM2.out).mono ?_; rintro e y3 ⟨x3, c3, R3, hq3, hn3, rfl, hm3⟩; have HM3 := Lib.hid hm3; have hc3 := hm3.cell; have hl3 := hm3.le) | (refine (rdNumber_mid HM1.out).mono ?_; rintro e y2 ⟨x2, c2, R2, hq2, hn2, rfl, hm2⟩; have HM2 := Lib.hid hm2; have hc2 := hm2.cell; have hl2 := hm2.le) | (refine (rdNumber_mid HMD.out).mono ?_; rintro e y1 ⟨x1, c1, R1, hq1, hn1, rfl, hm1⟩; have HM1 := Lib.hid hm1; have hc1 := hm1.cell; have hl1 := hm1.le)); go_wp2_with fail)
                | (refine step_append_Own (S := II.sh) (by rfl) (.tmp 64) (.tmp 78) 126 (by rfl) w8.heap.size 130 i0 _ 48 Try.underlying126 hi hz0 hz1 hz2 (by rfl) (by show 0 < 6; omega) (· < w8.heap.size) (.slice IA I.length IC) I (by rfl) (HM6.out.alloc _).own _ _ 1 1 _ _ [(⟨x1, x2, x3, x4, x5, x6⟩ : II)] (by rfl) (Rd.one _ _ _ 6 rfl _ (by simp)) (by simp) (by rfl) (Shp.all1 (II.intro (v := ⟨x1, x2, x3, x4, x5, x6⟩) hn1 hn2 hn3 hn4 hn5 hn6)) (by have := HBI.out.2; unfold maxLen; omega) (by have := HBI.out.2; omega) (Nat.le_trans hl6 (by simp)) ?_; intro A5 c5 w5 hown5 hgrow5 _; have hb5 := (HM6.out.alloc (.cells #[.int .i64 x1, .int .i64 x2, .int .i64 x3, .int .i64 x4, .int .i64 x5, .int .i64 x6] 130)).box2 hgrow5; have d5 : w5.cell? ⟨w7.heap.size, 4, none⟩ = some (.slice IA I.length IC) := (by rw [Lib.cell_of_heap hb5]; rfl); have f5 := Lib.frozen_of_heap hb5 4)
                | fail "no")
              all_goals (
                have HIS := inS_of hq1 hq2 hq3 hq4 hq5 hq6
                have HMN := Lib.hid ((HM6.out.alloc (.cells #[.int .i64 x1, .int .i64 x2, .int .i64 x3, .int .i64 x4, .int .i64 x5, .int .i64 x6] 130)).app hgrow5 hown5)
                have e1 := HPJ.out
                have e2 := HIL.out
                rw [HIS] at e1 e2
                have HP3 := Lib.hid e1
                have HL3 := Lib.hid e2
                clear e1 e2 HIS
                go_wp2_with fail
                go_roundw
                case rel => exact ⟨j, I ++ [⟨x1, x2, x3, x4, x5, x6⟩], c6, R6, .slice A5 (I.length + 1) c5, congrArg (Value.int .i64) HJ64.out, by omega, HP3, HMN, Lib.hid ⟨fun hb => by have : R6.length < M.length := HL3.out hb; have := HBI.out.1 (by trivial); simp only [List.length_append, List.length_cons, List.length_nil]; omega, by have := HBI.out.1 (by trivial); simp only [List.length_append, List.length_cons, List.length_nil]; omega⟩⟩
                case measure => show (intOf (.int .i64 (RowKit.wrap64 (j : Int)))).toNat < (intOf (.int .i64 ((j : Int) + 1))).toNat; rw [HJ64.out]; simp [intOf])
            · have HFI3 := Lib.hid (show runL inS n3 b8 L8 = (I, bd, M) by
                cases j with
                | zero => exact HPI.out.fin0
                | succ j =>
                  have hb : bd = true := by simpa using hgi
                  subst hb
                  exact HPI.out.finB)
              have hcs3 : j = 0 ∨ ∃ q, j = q + 1 ∧ bd = true := by
                cases j with
                | zero => exact .inl rfl
                | succ j => exact .inr ⟨j, rfl, by simpa using hgi⟩
              have HFE := Lib.hid (show fnSS false L = (⟨nm, p5, p6, p7, I⟩, bd, M) by simp only [fnSS, thn, thenS, HQ4.out, HQ5.out, HQ6.out, HQ7.out, HQ8.out, HFI3.out])
              have e1 := HPN.out
              have e2 := HFL.out
              have e3 := HFS.out
              rw [HFE.out] at e1 e2 e3
              have HP2 := Lib.hid e1
              have HFL2 := Lib.hid e2
              have HFS2 := Lib.hid e3
              clear e1 e2 e3
              have h27 : w2.heap.size ≤ w7.heap.size := Nat.le_trans HCHL.out.size hz7
              have hcc := (HMM.out.ch.blk (w.heap.size + 1) (by omega) (by omega) (by omega)).trans ((HG8.out.block (w.heap.size + 1) (by omega) (fun e => by injection e with e; omega)).trans ((HB8.out.block (w.heap.size + 1) (by omega)).trans ((HG7.out.block (w.heap.size + 1) hcw (fun e => by injection e with e; omega)).trans HCL.out)))
              have HCC := Lib.hid hcc
              have v0 : wr.cell? ⟨w.heap.size + 1, 0, none⟩ = some (.slice VF F.length FC) := by rw [Lib.cell_of_heap hcc]; rfl
              have hcw2 : w.heap.size + 1 < wr.heap.size := (Array.getElem?_eq_some_iff.1 hcc).1
              clear hcc
              have HO7 := Lib.hid (HOF.out.grow HG7.out (by omega))
              have HOW := Lib.hid (HO7.out.keep (w' := wr) (by omega) (fun q hq hE => (HMM.out.ch.blk q (by omega) (by omega) (by omega)).trans ((HG8.out.block q (by omega) (fun e => by injection e with e; omega)).trans (HB8.out.block q hq))) (fun q hq hE => by have := (HO7.out.ownlt hq).1; omega))
              have HCW := Lib.hid ((((HCHL.out.grown HG7.out (fun q e => by injection e with e; exact .inl e.symm)).below HB8.out).grown HG8.out (fun q e => by injection e with e; exact .inl e.symm)).trans HMM.out.ch h27)
              have b0 : wr.cell? ⟨w7.heap.size, 0, none⟩ = some (.string nm) := by rw [Lib.cell_of_heap HMM.out.box]; rfl
              have b1 : wr.cell? ⟨w7.heap.size, 1, none⟩ = some (.int .i64 p5) := by rw [Lib.cell_of_heap HMM.out.box]; rfl
              have b2 : wr.cell? ⟨w7.heap.size, 2, none⟩ = some (.int .i64 p6) := by rw [Lib.cell_of_heap HMM.out.box]; rfl
              have b3 : wr.cell? ⟨w7.heap.size, 3, none⟩ = some (.int .i64 p7) := by rw [Lib.cell_of_heap HMM.out.box]; rfl
              have HALL := Lib.hid (show FF.sh.all (wr.alloc (.cells #[.string nm, .int .i64 p5, .int .i64 p6, .int .i64 p7, .slice IA I.length IC] 128)) (fun b => b < (wr.alloc (.cells #[.string nm, .int .i64 p5, .int .i64 p6, .int .i64 p7, .slice IA I.length IC] 128)).heap.size ∧ some b ≠ (Value.slice VF F.length FC).ownBlock ∧ ¬ b < w2.heap.size) [[.string nm, .int .i64 p5, .int .i64 p6, .int .i64 p7, .slice IA I.length IC]] [(⟨nm, p5, p6, p7, I⟩ : FF)] from Shp.all1 (FF.sh.more (FF.ofOwn (f := ⟨nm, p5, p6, p7, I⟩) HV5.out HV6.out HV7.out (HMM.out.own.below (al _))) fun b hb => ⟨hb.2, fun e => by have := (HO7.out.ownlt e.symm).2; omega, fun he => by omega⟩))
              rcases hcs3 with rfl | ⟨j, rfl, hbt⟩
              all_goals try rw [hbt] at m1
              all_goals (
                go_wp2_with (first
                  | (at_builtin; refine wpList_append_Own (S := FF.sh) rfl _ _ 69 rfl w2.heap.size 128 j0 _ 64 Try.underlying69 hj jz0 jz1 jz2 rfl (by show 0 < 5; omega) (· < w2.heap.size) (.slice VF F.length FC) F rfl (HOW.out.below (al _)) _ _ 1 1 _ _ [(⟨nm, p5, p6, p7, I⟩ : FF)] rfl (Rd.one _ _ _ 5 rfl _ (by simp)) (by simp) rfl HALL.out (by have := HBD.out.2.2; unfold maxLen; omega) (by have := HBD.out.2.2; omega) (by simp; omega) ?_; intro A5 c5 w5 hown5 hgrow5 _; have hc5 := (hgrow5.block (w.heap.size + 1) (by simp; omega) (fun e => by have := (HOF.out.ownlt e.symm).1; omega)).trans ((Lib.alloc_old wr (.cells #[.string nm, .int .i64 p5, .int .i64 p6, .int .i64 p7, .slice IA I.length IC] 128) (w.heap.size + 1) hcw2).trans HCC.out); have d5 : w5.cell? ⟨w.heap.size + 1, 0, none⟩ = some (.slice VF F.length FC) := (by rw [Lib.cell_of_heap hc5]; rfl); have f5 := Lib.frozen_of_heap hc5 0)
                  | fail "no")
                have HR5 := Lib.hid (((HMM.out.rd.keep (al (.cells #[.string nm, .int .i64 p5, .int .i64 p6, .int .i64 p7, .slice IA I.length IC] 128))).grown hgrow5 (fun q hq => by have := (HOF.out.ownlt hq).1; omega)).grown (grown_set (g := w.heap.size + 1) (o := 0) (.slice A5 (F.length + 1) c5)) (fun q hq => by injection hq with hq; omega))
                have HC5 := Lib.hid (heap_set0 hc5 (.slice A5 (F.length + 1) c5))
                have HO5 := Lib.hid (hown5.grow (grown_set (g := w.heap.size + 1) (o := 0) (.slice A5 (F.length + 1) c5)) (by omega))
                have HCH5 := Lib.hid (((HCW.out.alloc (.cells #[.string nm, .int .i64 p5, .int .i64 p6, .int .i64 p7, .slice IA I.length IC] 128)).grown hgrow5 (fun q hq => .inr (.inr (HOF.out.ownlt hq).1))).grown (grown_set (g := w.heap.size + 1) (o := 0) (.slice A5 (F.length + 1) c5)) (fun q e => by injection e with e; exact .inr (.inl e.symm)))
                go_roundw
                case rel => exact ⟨k, F ++ [⟨nm, p5, p6, p7, I⟩], bd, M, .slice A5 (F.length + 1) c5, congrArg (Value.int .i64) HW64.out, by omega, HP2, HR5, HC5, HO5, HCH5, Lib.hid ⟨by have := HFS2.out; have := HBD.out.1; simp only at *; omega, fun hb => by have := HFL2.out hb; have := HBD.out.2.1 (by trivial); simp only [List.length_append, List.length_cons, List.length_nil] at *; omega, by have := HBD.out.2.1 (by trivial); simp only [List.length_append, List.length_cons, List.length_nil]; omega⟩⟩
                case measure => show (intOf (.int .i64 (RowKit.wrap64 (k : Int)))).toNat < (intOf (.int .i64 ((k : Int) + 1))).toNat; rw [HW64.out]; simp [intOf])
        · have HFI2 := Lib.hid (show runL fnSS n2 b2 L2 = (F, bad, L) by
            cases k with
            | zero => exact HPT.out.fin0
            | succ k =>
              have hb : bad = true := by simpa using hgo
              subst hb
              exact HPT.out.finB)
          have hcs2 : k = 0 ∨ ∃ q, k = q + 1 ∧ bad = true := by
            cases k with
            | zero => exact .inl rfl
            | succ k => exact .inr ⟨k, rfl, by simpa using hgo⟩
          have HCE := Lib.hid (show codeS false L0 = (⟨F, T⟩, bad, L) by simp only [codeS, thn, thenS, HQ1.out, HFI.out, HQ2.out, HFI2.out])
          have haa := (HCHL.out.blk w.heap.size (by have := HCH2.out.size; omega) (by omega) (by omega)).trans ((HCH2.out.blk w.heap.size (by omega) (by omega) (by omega)).trans HA.out)
          have a0 : wr.cell? ⟨w.heap.size, 0, none⟩ = some (.slice none 0 0) := by rw [Lib.cell_of_heap haa]; rfl
          have a1 : wr.cell? ⟨w.heap.size, 1, none⟩ = some (.slice none 0 0) := by rw [Lib.cell_of_heap haa]; rfl
          have f0 := Lib.frozen_of_heap haa 0
          have f1 := Lib.frozen_of_heap haa 1
          clear haa
          rcases hcs2 with rfl | ⟨k, rfl, hbt2⟩
          all_goals try rw [hbt2] at r1
          all_goals (
            go_wp2_with fail
            refine bodyPost_ret (v := .agg #[.slice VF F.length FC, .slice VA nT VC]) (by simp [results, Try.results59, go_sem, a0, a1]) rfl ?_
            have hkb : ∀ q, q ≠ w.heap.size → ((wr.setCell ⟨w.heap.size, 0, none⟩ (.slice VF F.length FC)).setCell ⟨w.heap.size, 1, none⟩ (.slice VA nT VC)).heap[q]? = wr.heap[q]? := fun q hq => by rw [Below.heap_setCell _ _ _ _ hq, Below.heap_setCell _ _ _ _ hq]
            have g1 := grown_set (w := wr) (g := w.heap.size) (o := 0) (.slice VF F.length FC)
            have g2 := grown_set (w := wr.setCell ⟨w.heap.size, 0, none⟩ (.slice VF F.length FC)) (g := w.heap.size) (o := 1) (.slice VA nT VC)
            have hsw : w2.heap.size ≤ wr.heap.size := HCHL.out.size
            have hs2 := HCH2.out.size
            have HRF := (HRL.out.grown g1 (fun q e => by injection e with e; omega)).grown g2 (fun q e => by injection e with e; omega)
            have HOF2 := (HOF.out.grow g1 (by omega)).grow g2 (by omega)
            have hos : ((wr.setCell ⟨w.heap.size, 0, none⟩ (.slice VF F.length FC)).setCell ⟨w.heap.size, 1, none⟩ (.slice VA nT VC)).os = w.os ∧ ((wr.setCell ⟨w.heap.size, 0, none⟩ (.slice VF F.length FC)).setCell ⟨w.heap.size, 1, none⟩ (.slice VA nT VC)).tape = w.tape ∧ ((wr.setCell ⟨w.heap.size, 0, none⟩ (.slice VF F.length FC)).setCell ⟨w.heap.size, 1, none⟩ (.slice VA nT VC)).output = w.output := ⟨HCHL.out.os.trans (HCH2.out.os.trans HWB.out.os), HCHL.out.tape.trans (HCH2.out.tape.trans HWB.out.tape), HCHL.out.out.trans (HCH2.out.out.trans HWB.out.output)⟩
            have hsf : wr.heap.size ≤ ((wr.setCell ⟨w.heap.size, 0, none⟩ (.slice VF F.length FC)).setCell ⟨w.heap.size, 1, none⟩ (.slice VA nT VC)).heap.size := Nat.le_trans g1.size g2.size
            clear g1 g2
            generalize ((wr.setCell ⟨w.heap.size, 0, none⟩ (.slice VF F.length FC)).setCell ⟨w.heap.size, 1, none⟩ (.slice VA nT VC)) = wf at *
            rw [HCE.out]
            refine ⟨⟨VF, FC, VA, VC, by rw [← HTN.out], fun hb => ?_⟩, HRF, hos.1, hos.2.1, hos.2.2, by omega, fun q hq hne => (hkb q (by omega)).trans ((HCHL.out.blk q (by omega) (fun e => hne (by rw [e])) (by omega)).trans ((HCH2.out.blk q (by omega) (fun e => hne (by rw [e])) (by omega)).trans (HWB.out.block q hq)))⟩
            have hbf : bad = false := hb
            subst hbf
            obtain ⟨z1, z2, z3⟩ := code_big HR.out.z HCE.out
            obtain ⟨A9, c9, ess9, h9, _, _, _, hr9, ha9⟩ := HOF2.read
            simp at h9
            obtain ⟨rfl, rfl⟩ := h9
            refine ⟨fun j f hf => KK.fn hr9 ha9 rfl hf, ?_, fun s hs => by have := z1 s hs; omega, fun f hf => by have := z2 f hf; omega, by have := HBD.out.2.2; show F.length ≤ _; omega, by have := HTT.out; show T.length ≤ _; rw [HTN.out]; omega, fun f hf => by have := z3 f hf; omega⟩
            show Rd wf wf.heap.size 1 VA T.length (T.map Value.string)
            rw [HTN.out]
            exact ((((RdM.of_own HO2.out).keep (fun p hp => World.cell?_of_block (HCHL.out.blk p.block hp.2 (by omega) (by omega)))).keep (w' := wf) (fun p hp => World.cell?_of_block (hkb p.block (by omega)))).rd (fun b hb => by omega)))
end Go.Proofs.Ytgcedkioanolcaa
