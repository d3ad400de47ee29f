/- 'report.read': the value that a text tells. Conditions: the text's length. -/
import Derived.Test.YtdpgcojgnehnpaaPfx
import Derived.Test.YtdpgcojgnehnpaaReadNA
import Derived.Test.YtdpgcojgnehnpaaUnq
import Derived.Test.YtdpgcojgnehnpaaVV
import Derived.Test.YtdpgcojgnehnpaaOpValue
set_option maxRecDepth 20000
namespace Go.Proofs.Ytdpgcojgnehnpaa
open Go.ChangeShapes Go.WideShapes Go.ChangeAt Go.RowKit
def rteS : ByteArray := ⟨#[114, 117, 110, 116, 105, 109, 101, 32, 101, 114, 114, 111, 114, 58, 32]⟩
/-- The value that a text tells, and whether it tells one. -/
def readPV (s : ByteArray) : VV × Bool := match rd (byt s) with
  | some z => (⟨1, z, ⟨#[]⟩, []⟩, true)
  | none => match unq s.data.toList with
    | some q => (⟨3, 0, ⟨q.toArray⟩, []⟩, true)
    | none => (⟨5, 0, s, []⟩, pfxB s rteS)
theorem reportRead1_any (s : ByteArray) (hs : s.size ≤ 140737488351232) (w : World) : Calls Try.prog 79 #[.string s] w fun e w' => e = .returned (.tuple #[val (readPV s).1.k (readPV s).1.n (readPV s).1.s none 0 0, .bool (readPV s).2]) ∧ Below w.heap.size w w' := by
  cases h1 : rd (byt s) with
  | some z =>
    have HV := Lib.hid (show readPV s = (⟨1, z, ⟨#[]⟩, []⟩, true) by unfold readPV; rw [h1])
    have HR := Lib.hid (readV_some h1)
    clear h1
    go_enter Try.func79, Try.ntmps79
    go_wp2_with fail
    refine (wordRead_any s _).mono ?_
    rintro e w1 ⟨rfl, hb1⟩
    rw [HR.out]
    have c0 := hb1.cell (p := ⟨w.heap.size, 0, none⟩) (by go_size); have c1 := hb1.cell (p := ⟨w.heap.size, 1, none⟩) (by go_size); have c2 := hb1.cell (p := ⟨w.heap.size, 2, none⟩) (by go_size); have c3 := hb1.cell (p := ⟨w.heap.size, 3, none⟩) (by go_size); (try simp at c0 c1 c2 c3)
    have f0 := hb1.frozen (p := ⟨w.heap.size, 0, none⟩) (by go_size); have f1 := hb1.frozen (p := ⟨w.heap.size, 1, none⟩) (by go_size); have f2 := hb1.frozen (p := ⟨w.heap.size, 2, none⟩) (by go_size); have f3 := hb1.frozen (p := ⟨w.heap.size, 3, none⟩) (by go_size); (try simp at f0 f1 f2 f3)
    have hl := hb1.size
    simp at hl
    have hB := sq (al (w := w) _) hb1
    go_wp2_with fail
    rw [HV.out]
    exact bodyPost_ret (v := .tuple #[val 1 z ⟨#[]⟩ none 0 0, .bool true]) (by simp [results, Try.results79, go_sem, c0, c1, c2, c3]) rfl ⟨rfl, (((hB.setCell (Nat.le_refl _) _).setCell (Nat.le_refl _) _).setCell (Nat.le_refl _) _).setCell (Nat.le_refl _) _⟩
  | none =>
    have HR := Lib.hid (readV_none h1)
    cases h2 : unq s.data.toList with
    | some q =>
      have HV := Lib.hid (show readPV s = (⟨3, 0, ⟨q.toArray⟩, []⟩, true) by unfold readPV; rw [h1, h2])
      have HU := Lib.hid (unqV_some h2)
      clear h1 h2
      go_enter Try.func79, Try.ntmps79
      go_wp2_with fail
      refine (wordRead_any s _).mono ?_
      rintro e w1 ⟨rfl, hb1⟩
      rw [HR.out]
      have c0 := hb1.cell (p := ⟨w.heap.size, 0, none⟩) (by go_size); have c1 := hb1.cell (p := ⟨w.heap.size, 1, none⟩) (by go_size); have c2 := hb1.cell (p := ⟨w.heap.size, 2, none⟩) (by go_size); have c3 := hb1.cell (p := ⟨w.heap.size, 3, none⟩) (by go_size); (try simp at c0 c1 c2 c3)
      have f0 := hb1.frozen (p := ⟨w.heap.size, 0, none⟩) (by go_size); have f1 := hb1.frozen (p := ⟨w.heap.size, 1, none⟩) (by go_size); have f2 := hb1.frozen (p := ⟨w.heap.size, 2, none⟩) (by go_size); have f3 := hb1.frozen (p := ⟨w.heap.size, 3, none⟩) (by go_size); (try simp at f0 f1 f2 f3)
      have hl1 := hb1.size
      simp at hl1
      have hB := sq (al (w := w) _) hb1
      clear hb1
      go_wp2_with fail
      refine (scanUnquote_any s hs _).mono ?_
      rintro e w2 ⟨rfl, hb2⟩
      rw [HU.out]
      have hl : w.heap.size < w1.heap.size := by omega
      have d0 := (hb2.cell (p := ⟨w.heap.size, 0, none⟩) hl).trans c0
      have d1 := (hb2.cell (p := ⟨w.heap.size, 1, none⟩) hl).trans c1
      have d2 := (hb2.cell (p := ⟨w.heap.size, 2, none⟩) hl).trans c2
      have d3 := (hb2.cell (p := ⟨w.heap.size, 3, none⟩) hl).trans c3
      have y0 := (hb2.frozen (p := ⟨w.heap.size, 0, none⟩) hl).trans f0
      have y1 := (hb2.frozen (p := ⟨w.heap.size, 1, none⟩) hl).trans f1
      have y2 := (hb2.frozen (p := ⟨w.heap.size, 2, none⟩) hl).trans f2
      have y3 := (hb2.frozen (p := ⟨w.heap.size, 3, none⟩) hl).trans f3
      have hB2 := sq hB hb2
      clear c0 c1 c2 c3 f0 f1 f2 f3 hb2 hB
      go_wp2_with fail
      rw [HV.out]
      exact bodyPost_ret (v := .tuple #[val 3 0 ⟨q.toArray⟩ none 0 0, .bool true]) (by simp [results, Try.results79, go_sem, d0, d1, d2, d3]) rfl ⟨rfl, (((hB2.setCell (Nat.le_refl _) _).setCell (Nat.le_refl _) _).setCell (Nat.le_refl _) _).setCell (Nat.le_refl _) _⟩
    | none =>
      have HV := Lib.hid (show readPV s = (⟨5, 0, s, []⟩, pfxB s rteS) by unfold readPV; rw [h1, h2])
      have HU := Lib.hid (unqV_none h2)
      clear h1 h2
      go_enter Try.func79, Try.ntmps79
      go_wp2_with fail
      refine (wordRead_any s _).mono ?_
      rintro e w1 ⟨rfl, hb1⟩
      rw [HR.out]
      have c0 := hb1.cell (p := ⟨w.heap.size, 0, none⟩) (by go_size); have c1 := hb1.cell (p := ⟨w.heap.size, 1, none⟩) (by go_size); have c2 := hb1.cell (p := ⟨w.heap.size, 2, none⟩) (by go_size); have c3 := hb1.cell (p := ⟨w.heap.size, 3, none⟩) (by go_size); (try simp at c0 c1 c2 c3)
      have f0 := hb1.frozen (p := ⟨w.heap.size, 0, none⟩) (by go_size); have f1 := hb1.frozen (p := ⟨w.heap.size, 1, none⟩) (by go_size); have f2 := hb1.frozen (p := ⟨w.heap.size, 2, none⟩) (by go_size); have f3 := hb1.frozen (p := ⟨w.heap.size, 3, none⟩) (by go_size); (try simp at f0 f1 f2 f3)
      have hl1 := hb1.size
      simp at hl1
      have hB := sq (al (w := w) _) hb1
      clear hb1
      go_wp2_with fail
      refine (scanUnquote_any s hs _).mono ?_
      rintro e w2 ⟨rfl, hb2⟩
      rw [HU.out]
      have hl : w.heap.size < w1.heap.size := by omega
      have d0 := (hb2.cell (p := ⟨w.heap.size, 0, none⟩) hl).trans c0
      have d1 := (hb2.cell (p := ⟨w.heap.size, 1, none⟩) hl).trans c1
      have d2 := (hb2.cell (p := ⟨w.heap.size, 2, none⟩) hl).trans c2
      have d3 := (hb2.cell (p := ⟨w.heap.size, 3, none⟩) hl).trans c3
      have y0 := (hb2.frozen (p := ⟨w.heap.size, 0, none⟩) hl).trans f0
      have y1 := (hb2.frozen (p := ⟨w.heap.size, 1, none⟩) hl).trans f1
      have y2 := (hb2.frozen (p := ⟨w.heap.size, 2, none⟩) hl).trans f2
      have y3 := (hb2.frozen (p := ⟨w.heap.size, 3, none⟩) hl).trans f3
      have hB2 := sq hB hb2
      clear c0 c1 c2 c3 f0 f1 f2 f3 hb2 hB
      go_wp2_with fail
      refine (hasPrefix_any s rteS _).mono ?_
      rintro e w3 ⟨rfl, rfl⟩
      go_wp2_with fail
      rw [HV.out]
      exact bodyPost_ret (v := .tuple #[val 5 0 s none 0 0, .bool (pfxB s rteS)]) (by simp [results, Try.results79, go_sem, d0, d1, d2, d3]) rfl ⟨rfl, (((hB2.setCell (Nat.le_refl _) _).setCell (Nat.le_refl _) _).setCell (Nat.le_refl _) _).setCell (Nat.le_refl _) _⟩
end Go.Proofs.Ytdpgcojgnehnpaa
