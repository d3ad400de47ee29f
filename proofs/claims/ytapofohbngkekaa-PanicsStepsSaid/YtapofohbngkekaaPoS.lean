/- What the document's StepState answers, and what memory holds of it. Conditions: none. -/
import Derived.Test.YtapofohbngkekaaPoC
import Derived.Test.YtapofohbngkekaaPnA
import Derived.Deep.RegionHeld3
set_option maxRecDepth 100000
namespace Go.Proofs.Ytapofohbngkekaa
open Go.ChangeShapes Go.WideShapes Go.ChangeAt Go.RowKit
/-- What the document's step answers. -/
def SpP (s : ST) (v : EV) (w : World) (e : Ending) (w' : World) : Prop :=
  ((EvR s v none ∧ e = .returned (.tuple #[stV (.slice none 0 0) (.slice none 0 0) ⟨[], [], 0, 0, 0, 0⟩, .slice none 0 0, .int .i64 13])) ∨ ∃ r ts fv pv tv, EvR s v (some (r, ts)) ∧ e = .returned (.tuple #[stV fv pv r, tv, .int .i64 0]) ∧ STm w' (fun b => w.heap.size ≤ b ∧ b < w'.heap.size) fv pv r ∧ TLm w' (fun b => w.heap.size ≤ b ∧ b < w'.heap.size) tv ts) ∧ Below w.heap.size w w'
theorem sp_end {s r : ST} {v : EV} {ts : List TL} {w w5 w7 : World} {fv pv tv : Value} (hev : EvR s v (some (r, ts))) (hS : STm w5 (fun b => w.heap.size + 3 ≤ b ∧ b < w5.heap.size) fv pv r) (hT : TLm w5 (fun b => w.heap.size + 3 ≤ b ∧ b < w5.heap.size) tv ts) (hB : Below w.heap.size w w5)
    (k7 : ∀ z, z ≠ w.heap.size + 1 + 1 → w7.heap[z]? = w5.heap[z]?) (l7 : ∀ B, B ≤ w.heap.size + 1 + 1 → ∀ w0, Below B w0 w5 → Below B w0 w7) (s7 : w7.heap.size = w5.heap.size) : SpP s v w (.returned (.tuple #[stV fv pv r, tv, .int .i64 0])) w7 := by
  have kk : ∀ p : Addr, (w.heap.size + 3 ≤ p.block ∧ p.block < w5.heap.size) → w7.cell? p = w5.cell? p := fun p hp => World.cell?_of_block (k7 p.block (by omega))
  exact ⟨.inr ⟨r, ts, fv, pv, tv, hev, rfl, (hS.keep kk).more fun b hb => by rw [s7]; omega, (hT.keep kk).more fun b hb => by rw [s7]; omega⟩, l7 _ (by omega) _ hB⟩
theorem boxesE (w : World) (FA PA : Option Addr) (nf fc np pc : Nat) (s : ST) (v : EV) (A : Option Addr) (len cap : Nat) :
    SB (((w.alloc (.cells #[.slice FA nf fc, .slice PA np pc, .int .i64 (s.next : Int), .int .i64 (s.ser : Int), .int .i64 s.en, .int .i64 s.st] 56)).alloc (.cells (evC v A len cap) 51)).alloc (.cells #[.slice none 0 0, .slice none 0 0, .int .i64 0, .int .i64 0, .int .i64 0, .int .i64 0] 56)) w.heap.size (.slice FA nf fc) (.slice PA np pc) s ∧ (((w.alloc (.cells #[.slice FA nf fc, .slice PA np pc, .int .i64 (s.next : Int), .int .i64 (s.ser : Int), .int .i64 s.en, .int .i64 s.st] 56)).alloc (.cells (evC v A len cap) 51)).alloc (.cells #[.slice none 0 0, .slice none 0 0, .int .i64 0, .int .i64 0, .int .i64 0, .int .i64 0] 56)).heap[w.heap.size + 1]? = some (.cells (evC v A len cap) 51 (0, 0)) ∧ SB (((w.alloc (.cells #[.slice FA nf fc, .slice PA np pc, .int .i64 (s.next : Int), .int .i64 (s.ser : Int), .int .i64 s.en, .int .i64 s.st] 56)).alloc (.cells (evC v A len cap) 51)).alloc (.cells #[.slice none 0 0, .slice none 0 0, .int .i64 0, .int .i64 0, .int .i64 0, .int .i64 0] 56)) (w.heap.size + 1 + 1) (.slice none 0 0) (.slice none 0 0) zeroST ∧ Below w.heap.size w (((w.alloc (.cells #[.slice FA nf fc, .slice PA np pc, .int .i64 (s.next : Int), .int .i64 (s.ser : Int), .int .i64 s.en, .int .i64 s.st] 56)).alloc (.cells (evC v A len cap) 51)).alloc (.cells #[.slice none 0 0, .slice none 0 0, .int .i64 0, .int .i64 0, .int .i64 0, .int .i64 0] 56)) ∧ (((w.alloc (.cells #[.slice FA nf fc, .slice PA np pc, .int .i64 (s.next : Int), .int .i64 (s.ser : Int), .int .i64 s.en, .int .i64 s.st] 56)).alloc (.cells (evC v A len cap) 51)).alloc (.cells #[.slice none 0 0, .slice none 0 0, .int .i64 0, .int .i64 0, .int .i64 0, .int .i64 0] 56)).heap.size = w.heap.size + 3 := by
  refine ⟨?_, ?_, heap_atN _ (by simp), sq (sq (al _) (al _)) (al _), by simp⟩
  · unfold SB
    rw [Lib.alloc_old _ _ _ (by simp; omega), Lib.alloc_old _ _ _ (by simp)]
    exact heap_alloc_new w _
  · rw [Lib.alloc_old _ _ _ (by simp)]
    exact heap_atN _ (by simp)
theorem STm.push {w w' : World} {M : Nat → Prop} {A : Option Addr} {fv pv : Value} {s : ST} {mk ser : Int} {ds : List Value} {base G c2 : Nat} (h : STm w M fv pv s) (hk : ∀ p : Addr, M p.block → w'.cell? p = w.cell? p) (hfm : FrM w M A s.fr ds)
    (hown : w'.ownsRow base 93 5 (.slice (some ⟨G, 0, none⟩) (s.fr.length + 1) c2) (s.fr.length + 1) (frL (s.fr ++ [⟨s.next, mk, ser, 0, []⟩]) (ds ++ [.slice none 0 0]))) :
    STm w' (fun b => M b ∨ (base ≤ b ∧ b < w'.heap.size)) (.slice (some ⟨G, 0, none⟩) (s.fr.length + 1) c2) pv (pushS s mk ser) := by
  obtain ⟨h1, h2, _⟩ := own_cap hown
  have e2 : (pushS s mk ser).fr.length = s.fr.length + 1 := by simp [pushS]
  refine ⟨⟨some ⟨G, 0, none⟩, c2, ds ++ [.slice none 0 0], by rw [e2], by rw [e2]; exact h1, h2, ?_, by simp [pushS, hfm.len], fun i g d hg hd => ?_⟩, ((h.keep hk).more (M' := fun b => M b ∨ (base ≤ b ∧ b < w'.heap.size)) (fun b hb => .inl hb)).pn⟩
  · rw [e2]
    exact (RdM.of_own hown).more fun b hb => .inr hb
  · have hg : (s.fr ++ [(⟨s.next, mk, ser, 0, []⟩ : FR)])[i]? = some g := hg
    by_cases hi : i < s.fr.length
    · rw [List.getElem?_append_left hi] at hg
      rw [List.getElem?_append_left (by rw [hfm.len]; exact hi)] at hd
      obtain ⟨D', c, rfl, q1, q2, q3⟩ := hfm.dr i g d hg hd
      exact ⟨D', c, rfl, q1, q2, (q3.keep hk).more fun b hb => .inl hb⟩
    · have hi2 := (List.getElem?_eq_some_iff.1 hg).1
      obtain rfl : i = s.fr.length := by simp at hi2; omega
      simp at hg
      rw [← hfm.len] at hd
      simp at hd
      subst hg hd
      exact ⟨none, 0, rfl, Nat.le_refl _, by unfold maxLen; omega, RdM.nil⟩
theorem refStatus3 (n : Int) (w : World) : Calls Try.prog 53 #[.int .i64 3, .int .i64 n] w fun x w' => x = .returned (.tuple #[.int .i64 (n % 256), .int .i64 0]) ∧ Below w.heap.size w w' := by
  have h5 := tmod256 n
  go_enter Try.func53, Try.ntmps53
  go_wp2
  go_ret2
  exact ⟨rfl, by go_grown⟩
/-- 'f.Defers = append(f.Defers, x)' of the last activation. -/
theorem FrO.defer {w W w' : World} {base F n c m c' : Nat} {d : Value} {es : List Value} {fs : List FR} {f : FR} {A' : Option Addr} {x : Int} (h : FrO w base (.slice (some ⟨F, 0, none⟩) n c) (fs ++ [f]) (es ++ [d])) (hel : es.length = fs.length) (hW : Below w.heap.size w W) (hbl : base ≤ w.heap.size)
    (hown : w'.ownsRow base 3 1 (.slice A' (m + 1) c') (m + 1) (f.ds.map (Value.int .i64) ++ [.int .i64 x])) (hm : f.ds.length = m) (hg : W.grownBy w' d.ownBlock) (hob : (Value.slice A' (m + 1) c').ownBlock = d.ownBlock ∨ (Value.slice A' (m + 1) c').ownBlock = some W.heap.size) :
    FrO (w'.setCell ⟨F, fs.length * 5 + 4, none⟩ (.slice A' (m + 1) c')) base (.slice (some ⟨F, 0, none⟩) n c) (fs ++ [dsF f (f.ds ++ [x])]) (es ++ [.slice A' (m + 1) c']) ∧ (∀ b, b < w.heap.size → d.ownBlock ≠ some b → b ≠ F → (w'.setCell ⟨F, fs.length * 5 + 4, none⟩ (.slice A' (m + 1) c')).heap[b]? = w.heap[b]?) ∧ Below base w (w'.setCell ⟨F, fs.length * 5 + 4, none⟩ (.slice A' (m + 1) c')) := by
  have hi : (fs ++ [f])[fs.length]? = some f := by simp
  have hd : (es ++ [d])[fs.length]? = some d := by rw [← hel]; simp
  have hdo := h.dr _ _ _ hi hd
  have hkk : ∀ (b : Nat), b < w.heap.size → d.ownBlock ≠ some b → w'.heap[b]? = w.heap[b]? := fun b hb h1 => (hg.block b (Nat.lt_of_lt_of_le hb hW.size) (fun e => h1 e.symm)).trans (hW.block b hb)
  have hnew := h.putD (w' := w') (v := .slice A' (m + 1) c') (x := f.ds ++ [x]) hi hd (fun b cs t hb _ h1 => hkk b (Array.getElem?_eq_some_iff.1 hb).1 h1) (by
    have hl : (f.ds ++ [x]).length = m + 1 := by simp [hm]
    rw [hl, List.map_append]
    exact hown) (fun b hv j d' hj hd' hb' => by
      have hlt := (h.dr j _ d' (List.getElem?_eq_getElem (by
        have h1 := (List.getElem?_eq_some_iff.1 hd').1
        simp at h1 ⊢
        omega)) hd').lt b hb'
      rcases hob with h1 | h1
      · rw [h1] at hv
        exact hj (h.dis j fs.length d' d b hd' hd hb' hv)
      · rw [h1] at hv
        injection hv with hv
        have := hW.size
        omega)
  rw [set_mid, ← hel, set_mid, hel] at hnew
  exact ⟨hnew, fun b hb h1 h2 => (Below.heap_setCell _ _ _ _ h2).trans (hkk b hb h1), ((hW.mono hbl).grown hg (Nat.le_trans hbl hW.size) (fun q hq => (hdo.lt q hq).1)).setCell (p := ⟨F, fs.length * 5 + 4, none⟩) (h.row.lt F rfl).1 _⟩
end Go.Proofs.Ytapofohbngkekaa
