/- The document's 'goOn' where no deferred call is left: the plain parts. Conditions: bounds. -/
import Derived.Test.YtapofohbngkekaaPoH
import Derived.Deep.CutBlock
set_option maxRecDepth 100000
namespace Go.Proofs.Ytapofohbngkekaa
open Go.ChangeShapes Go.WideShapes Go.ChangeAt Go.RowKit
theorem RdM.and {w : World} {M N : Nat → Prop} {size n : Nat} {A : Option Addr} {xs : List Value} (h : RdM w M size A n xs) (hN : ∀ b off, A = some ⟨b, off, none⟩ → N b) : RdM w (fun b => M b ∧ N b) size A n xs :=
  ⟨h.1, fun hn => by
    obtain ⟨b, off, e, hb, hc⟩ := h.2 hn
    exact ⟨b, off, e, ⟨hb, hN b off e⟩, hc⟩⟩
theorem Rd.to {w w' : World} {B B' : Nat} {size n : Nat} {A : Option Addr} {xs : List Value} (h : Rd w B size A n xs) (hB : B ≤ B') (hk : ∀ a : Addr, A = some a → w'.heap[a.block]? = w.heap[a.block]?) : Rd w' B' size A n xs :=
  ⟨h.1, fun hn => by
    obtain ⟨b, off, e, hb, hc⟩ := h.2 hn
    exact ⟨b, off, e, by omega, fun j u hu => (World.cell?_of_block (a := ⟨b, off + j, none⟩) (hk ⟨b, off, none⟩ e)).trans (hc j u hu)⟩⟩
/-- Activations that are owned lie apart from panics that are owned. -/
theorem FrO.mNe {w : World} {base n k c : Nat} {FA : Option Addr} {pv : Value} {l : List FR} {ds xs : List Value} (h : FrO w base (.slice FA k c) l ds) (hp : w.ownsRow base 99 7 pv n xs) : FrM w (fun b => (base ≤ b ∧ b < w.heap.size) ∧ pv.ownBlock ≠ some b) FA l ds := by
  obtain ⟨A, c', e⟩ := own_form h.row
  injection e with e1 e2 e3
  subst e1 e2 e3
  refine ⟨(RdM.of_own h.row).and fun b off e => own_ne h.row hp (by decide) b (by rw [e]; rfl), h.len, fun i f d hf hd => ?_⟩
  have hd := h.dr i f d hf hd
  obtain ⟨D, c', rfl⟩ := own_form hd
  obtain ⟨h3, h4, _⟩ := own_cap hd
  exact ⟨D, c', rfl, h3, h4, (RdM.of_own hd).and fun b off e => own_ne hd hp (by decide) b (by rw [e]; rfl)⟩
theorem FrM.keep {w w' : World} {M : Nat → Prop} {A : Option Addr} {l : List FR} {ds : List Value} (h : FrM w M A l ds) (hk : ∀ p : Addr, M p.block → w'.cell? p = w.cell? p) : FrM w' M A l ds :=
  ⟨h.row.keep hk, h.len, fun i f d hf hd => by obtain ⟨D, c, e, q1, q2, hr⟩ := h.dr i f d hf hd; exact ⟨D, c, e, q1, q2, hr.keep hk⟩⟩
theorem FrM.more {w : World} {M M' : Nat → Prop} {A : Option Addr} {l : List FR} {ds : List Value} (h : FrM w M A l ds) (hM : ∀ b, M b → M' b) : FrM w M' A l ds :=
  ⟨h.row.more hM, h.len, fun i f d hf hd => by obtain ⟨D, c, e, q1, q2, hr⟩ := h.dr i f d hf hd; exact ⟨D, c, e, q1, q2, hr.more hM⟩⟩
/-- The panics behind 'passed'. -/
def abM (s : ST) (f : FR) : List PN := if f.mark = 2 then abortP f.pan s.pn else s.pn
theorem FrM.cut {w : World} {M : Nat → Prop} {A : Option Addr} {fs : List FR} {f : FR} {ds : List Value} (h : FrM w M A (fs ++ [f]) ds) : ∃ es, FrM w M A fs es := by
  obtain ⟨es, d, rfl, hel⟩ := snoc_of (l := ds) (n := fs.length) (by rw [h.len]; simp)
  refine ⟨es, ⟨frL_len hel, fun h0 => ?_⟩, hel, fun i g d' hg hd => ?_⟩
  · obtain ⟨b, off, rfl, hb, hc⟩ := h.row.2 (by simp)
    refine ⟨b, off, rfl, hb, fun j u hu => hc j u ?_⟩
    rw [frL_snoc hel, List.getElem?_append_left (List.getElem?_eq_some_iff.1 hu).1]
    exact hu
  · exact h.dr i g d' (by rw [List.getElem?_append_left (List.getElem?_eq_some_iff.1 hg).1]; exact hg) (by rw [List.getElem?_append_left (List.getElem?_eq_some_iff.1 hd).1]; exact hd)
theorem STm.cut {w : World} {M : Nat → Prop} {FA : Option Addr} {k fc : Nat} {pv : Value} {s : ST} {fs : List FR} {f : FR} (h : STm w M (.slice FA (k + 1) fc) pv s) (hf : s.fr = fs ++ [f]) : STm w M (.slice FA k fc) pv (stFr s fs) := by
  obtain ⟨⟨A, c, ds, e, h1, h2, h3⟩, hp⟩ := h
  rw [hf] at h3 e h1
  injection e with e1 e2 e3
  subst e1 e3
  simp at e2 h1
  subst e2
  obtain ⟨es, h4⟩ := h3.cut
  exact ⟨⟨FA, fc, es, rfl, by show fs.length ≤ fc; omega, h2, h4⟩, hp⟩
theorem own_new {w : World} {base g : Nat} {e : TypeId} {size : Nat} {cs : List Value} (h : w.heap[g]? = some (.cells cs.toArray e (0, 0))) (hb : base ≤ g) (hs : cs.length = size) : w.ownsRow base e size (.slice (some ⟨g, 0, none⟩) 1 1) 1 cs := by
  refine ⟨by simp [hs], .inr ⟨g, 1, cs.toArray, rfl, hb, h, Nat.le_refl _, by unfold maxLen; omega, by simp [hs], ?_⟩⟩
  rw [Nat.one_mul, ← hs]
  simp
/-- The middle of 'goOn': the state of what follows, and what is told of it. -/
structure MidC (s : ST) (t : TL) (T : Nat) (w wx : World) (r : ST) (ts : List TL) (fv pv v : Value) : Prop where
  go : GoR s r (t :: ts)
  few : ts.length ≤ 100
  x : SB wx w.heap.size fv pv r
  st : STm wx (fun b => (w.heap.size + 3 ≤ b ∧ b < wx.heap.size) ∧ b ≠ T) fv pv r
  tl : TLm wx (fun b => (w.heap.size + 3 ≤ b ∧ b < wx.heap.size) ∧ b ≠ T) v ts
  bel : Below w.heap.size w wx
  rb : SB wx (w.heap.size + 1) (.slice none 0 0) (.slice none 0 0) zeroST
  tb : wx.heap[T]? = some (.cells (tlC t).toArray 96 (0, 0))
def MidP (s : ST) (t : TL) (T : Nat) (w : World) (v : Value) (wx : World) : Prop := ∃ r ts fv pv, MidC s t T w wx r ts fv pv v
/-- Behind a call that made r and ts, with r written into the box of s. -/
theorem MidP.mk' {s r : ST} {t : TL} {ts : List TL} {T : Nat} {w W w' w7 : World} {fv pv tv : Value} {M' : Nat → Prop} (hG : GoR s r (t :: ts)) (hfew : ts.length ≤ 100)
    (hS : STm w' (fun b => M' b ∨ (W.heap.size ≤ b ∧ b < w'.heap.size)) fv pv r) (hM' : ∀ b, M' b → w.heap.size + 3 ≤ b ∧ b < W.heap.size ∧ b ≠ T) (hT : TLm w' (fun b => W.heap.size ≤ b ∧ b < w'.heap.size) tv ts)
    (hTW : w.heap.size + 3 ≤ T ∧ T < W.heap.size) (hbW : Below w.heap.size w W) (hb : Below W.heap.size W w') (hT4 : W.heap[T]? = some (.cells (tlC t).toArray 96 (0, 0))) (hR4 : SB W (w.heap.size + 1) (.slice none 0 0) (.slice none 0 0) zeroST)
    (b7 : w7.heap[w.heap.size]? = some (.cells #[fv, pv, .int .i64 (r.next : Int), .int .i64 (r.ser : Int), .int .i64 r.en, .int .i64 r.st] 56 (0, 0))) (k7 : ∀ z, z ≠ w.heap.size → w7.heap[z]? = w'.heap[z]?) (l7 : ∀ B, B ≤ w.heap.size → ∀ w0, Below B w0 w' → Below B w0 w7) (s7 : w7.heap.size = w'.heap.size) : MidP s t T w tv w7 := by
  have hz := hb.size
  have kk : ∀ p : Addr, p.block ≠ w.heap.size → w7.cell? p = w'.cell? p := fun p hp => World.cell?_of_block (k7 p.block hp)
  refine ⟨r, ts, fv, pv, hG, hfew, b7, (hS.keep fun p hp => kk p ?_).more ?_, (hT.keep fun p hp => kk p ?_).more ?_, l7 _ (Nat.le_refl _) _ (hbW.trans (hb.mono hbW.size)), (k7 _ (by omega)).trans ((hb.block _ (by omega)).trans hR4), (k7 _ (by omega)).trans ((hb.block _ (by omega)).trans hT4)⟩
  · rcases hp with hp | hp
    · have := hM' _ hp; omega
    · omega
  · intro b h
    rcases h with h | h
    · have := hM' _ h; omega
    · omega
  · have := hp.1; omega
  · intro b h; omega
theorem fin_few {s r : ST} {fs : List FR} {f : FR} {t : TL} {ts : List TL} (h : goStep s fs f = .fin r (t :: ts)) : ts.length ≤ 100 := by
  have : (t :: ts).length ≤ 2 := by
    revert h
    unfold goStep
    repeat' split
    all_goals (intro e2; first | (injection e2 with _ e2; rw [← e2]; simp; done) | (injection e2))
  simp at this
  omega
theorem go_few {a b : Nat} {s r : ST} {l : List TL} (h : GoR s r l) (hb : Bd a b s) (hg : Gv s) : l.length ≤ 100 := by
  have h1 := h.len hb hg
  have h2 := hb.fr
  omega
/-- The end of 'goOn': what is told ahead, with what is told behind it. -/
theorem go_end {s r : ST} {t : TL} {ts : List TL} {T c' : Nat} {M : Nat → Prop} {w wx wa wb : World} {fv pv v : Value} {A' : Option Addr} (h : MidC s t T w wx r ts fv pv v) (hT : w.heap.size + 3 ≤ T)
    (ho : wa.ownsRow (w.heap.size + 2) 96 7 (.slice A' (1 + ts.length) c') (1 + ts.length) (tlC t ++ tlL ts)) (hg : wx.grownBy wa (some T))
    (kb : ∀ z, z ≠ w.heap.size + 1 → wb.heap[z]? = wa.heap[z]?) (lb : ∀ B, B ≤ w.heap.size + 1 → ∀ w0, Below B w0 wa → Below B w0 wb) (sb : wb.heap.size = wa.heap.size) :
    GoP s M w (.returned (.tuple #[stV fv pv r, .slice A' (1 + ts.length) c'])) wb := by
  have hgs := hg.size
  have hwa : Below w.heap.size w wa := ⟨hg.os.trans h.bel.os, hg.tape.trans h.bel.tape, hg.output.trans h.bel.output, Nat.le_trans h.bel.size hg.size, fun k hk => (hg.block k (by have := h.bel.size; omega) (by intro e; injection e with e; omega)).trans (h.bel.block k hk)⟩
  have hwb : Below w.heap.size w wb := lb _ (by omega) _ hwa
  have kk : ∀ p : Addr, (w.heap.size + 3 ≤ p.block ∧ p.block < wx.heap.size) ∧ p.block ≠ T → wb.cell? p = wx.cell? p := fun p hp => World.cell?_of_block ((kb _ (by omega)).trans (hg.block _ hp.1.2 (by intro e; injection e with e; exact hp.2 e)))
  refine ⟨r, t :: ts, fv, pv, _, h.go, rfl, (h.st.keep kk).more ?_, ?_, hwb⟩
  · intro b hb
    rw [sb]
    exact .inr ⟨by omega, by omega⟩
  · obtain ⟨h1, h2, _⟩ := own_cap ho
    have e : (t :: ts).length = 1 + ts.length := by simp; omega
    refine ⟨A', c', by rw [e], by rw [e]; exact h1, h2, ?_⟩
    rw [e]
    have hr := RdM.of_own ho
    have e2 : tlL (t :: ts) = tlC t ++ tlL ts := by simp [tlL]
    rw [e2]
    refine (hr.keep fun p hp => World.cell?_of_block (kb _ (by omega))).more fun b hb => ?_
    rw [sb]
    exact ⟨by omega, hb.2⟩
end Go.Proofs.Ytapofohbngkekaa
