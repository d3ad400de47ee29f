/- The document's states, as they read in memory; 'ended', 'pushed', 'without'. Conditions: bounds. -/
import Derived.Test.YtapofohbngkekaaPnR
set_option maxRecDepth 100000
namespace Go.Proofs.Ytapofohbngkekaa
open Go.ChangeShapes Go.WideShapes Go.ChangeAt Go.RowKit
@[reducible] def stV (fv pv : Value) (s : ST) : Value := .agg #[fv, pv, .int .i64 (s.next : Int), .int .i64 (s.ser : Int), .int .i64 s.en, .int .i64 s.st]
@[reducible] def stC (fv pv : Value) (s : ST) : Array Value := #[fv, pv, .int .i64 (s.next : Int), .int .i64 (s.ser : Int), .int .i64 s.en, .int .i64 s.st]
/-- Activations that are read. -/
structure FrR (w : World) (B : Nat) (A : Option Addr) (l : List FR) (ds : List Value) : Prop where
  row : Rd w B 5 A l.length (frL l ds)
  len : ds.length = l.length
  dr : ∀ (i : Nat) (f : FR) (d : Value), l[i]? = some f → ds[i]? = some d → ∃ D c, d = .slice D f.ds.length c ∧ f.ds.length ≤ c ∧ c ≤ maxLen ∧ Rd w B 1 D f.ds.length (f.ds.map (Value.int .i64))
structure STr (w : World) (B : Nat) (fv pv : Value) (s : ST) : Prop where
  fr : ∃ A c ds, fv = .slice A s.fr.length c ∧ s.fr.length ≤ c ∧ c ≤ maxLen ∧ FrR w B A s.fr ds
  pn : ∃ A c, pv = .slice A s.pn.length c ∧ s.pn.length ≤ c ∧ c ≤ maxLen ∧ Rd w B 7 A s.pn.length (pnL s.pn)
def TLr (w : World) (B : Nat) (tv : Value) (l : List TL) : Prop := ∃ A c, tv = .slice A l.length c ∧ l.length ≤ c ∧ c ≤ maxLen ∧ Rd w B 7 A l.length (tlL l)
section
variable {w w' : World} {B B' : Nat} {A : Option Addr} {l : List FR} {ds : List Value} {fv pv tv : Value} {s : ST} {tl : List TL}
theorem FrR.into (h : FrR w B A l ds) (hb : Below B w w') : FrR w' B A l ds :=
  ⟨h.row.below hb, h.len, fun i f d hf hd => by obtain ⟨D, c, e, h1, h2, hr⟩ := h.dr i f d hf hd; exact ⟨D, c, e, h1, h2, hr.below hb⟩⟩
theorem FrR.more (h : FrR w B A l ds) (hB : B ≤ B') : FrR w B' A l ds :=
  ⟨h.row.more hB, h.len, fun i f d hf hd => by obtain ⟨D, c, e, h1, h2, hr⟩ := h.dr i f d hf hd; exact ⟨D, c, e, h1, h2, hr.more hB⟩⟩
theorem STr.into (h : STr w B fv pv s) (hb : Below B w w') : STr w' B fv pv s := by
  obtain ⟨⟨A, c, ds, e, h1, h2, h3⟩, ⟨A', c', e', h1', h2', h3'⟩⟩ := h
  exact ⟨⟨A, c, ds, e, h1, h2, h3.into hb⟩, ⟨A', c', e', h1', h2', h3'.below hb⟩⟩
theorem STr.more (h : STr w B fv pv s) (hB : B ≤ B') : STr w B' fv pv s := by
  obtain ⟨⟨A, c, ds, e, h1, h2, h3⟩, ⟨A', c', e', h1', h2', h3'⟩⟩ := h
  exact ⟨⟨A, c, ds, e, h1, h2, h3.more hB⟩, ⟨A', c', e', h1', h2', h3'.more hB⟩⟩
theorem TLr.into (h : TLr w B tv tl) (hb : Below B w w') : TLr w' B tv tl := by
  obtain ⟨A, c, e, h1, h2, h3⟩ := h
  exact ⟨A, c, e, h1, h2, h3.below hb⟩
theorem TLr.more (h : TLr w B tv tl) (hB : B ≤ B') : TLr w B' tv tl := by
  obtain ⟨A, c, e, h1, h2, h3⟩ := h
  exact ⟨A, c, e, h1, h2, h3.more hB⟩
theorem FrO.read {base : Nat} (h : FrO w base fv l ds) : ∃ A c, fv = .slice A l.length c ∧ l.length ≤ c ∧ c ≤ maxLen ∧ FrR w w.heap.size A l ds := by
  obtain ⟨A, c, rfl⟩ := own_form h.row
  obtain ⟨h1, h2, _⟩ := own_cap h.row
  refine ⟨A, c, rfl, h1, h2, Rd.of_own h.row, h.len, fun i f d hf hd => ?_⟩
  have hd := h.dr i f d hf hd
  obtain ⟨D, c', rfl⟩ := own_form hd
  obtain ⟨h3, h4, _⟩ := own_cap hd
  exact ⟨D, c', rfl, h3, h4, Rd.of_own hd⟩
theorem own_read7 {base n : Nat} {e : TypeId} {v : Value} {xs : List Value} (h : w.ownsRow base e 7 v n xs) : ∃ A c, v = .slice A n c ∧ n ≤ c ∧ c ≤ maxLen ∧ Rd w w.heap.size 7 A n xs := by
  obtain ⟨A, c, rfl⟩ := own_form h
  obtain ⟨h1, h2, _⟩ := own_cap h
  exact ⟨A, c, rfl, h1, h2, Rd.of_own h⟩
theorem STr.of {base base' : Nat} (hf : FrO w base fv s.fr ds) (hp : w.ownsRow base' 99 7 pv s.pn.length (pnL s.pn)) : STr w w.heap.size fv pv s := by
  obtain ⟨A, c, e, h1, h2, h3⟩ := hf.read
  exact ⟨⟨A, c, ds, e, h1, h2, h3⟩, own_read7 hp⟩
end
theorem heap_atN {w : World} {n : Nat} (o : Obj) (h : n = w.heap.size) : (w.alloc o).heap[n]? = some o := by
  subst h
  exact heap_alloc_new w o
/-! ### What is read lies within a set of blocks -/
structure FrM (w : World) (M : Nat → Prop) (A : Option Addr) (l : List FR) (ds : List Value) : Prop where
  row : RdM w M 5 A l.length (frL l ds)
  len : ds.length = l.length
  dr : ∀ (i : Nat) (f : FR) (d : Value), l[i]? = some f → ds[i]? = some d → ∃ D c, d = .slice D f.ds.length c ∧ f.ds.length ≤ c ∧ c ≤ maxLen ∧ RdM w M 1 D f.ds.length (f.ds.map (Value.int .i64))
structure STm (w : World) (M : Nat → Prop) (fv pv : Value) (s : ST) : Prop where
  fr : ∃ A c ds, fv = .slice A s.fr.length c ∧ s.fr.length ≤ c ∧ c ≤ maxLen ∧ FrM w M A s.fr ds
  pn : ∃ A c, pv = .slice A s.pn.length c ∧ s.pn.length ≤ c ∧ c ≤ maxLen ∧ RdM w M 7 A s.pn.length (pnL s.pn)
def TLm (w : World) (M : Nat → Prop) (tv : Value) (l : List TL) : Prop := ∃ A c, tv = .slice A l.length c ∧ l.length ≤ c ∧ c ≤ maxLen ∧ RdM w M 7 A l.length (tlL l)
section
variable {w w' : World} {M M' : Nat → Prop} {B : Nat} {A : Option Addr} {l : List FR} {ds : List Value} {fv pv tv : Value} {s : ST} {tl : List TL}
theorem STm.keep (h : STm w M fv pv s) (hk : ∀ p : Addr, M p.block → w'.cell? p = w.cell? p) : STm w' M fv pv s := by
  obtain ⟨⟨A, c, ds, e, h1, h2, h3⟩, ⟨A', c', e', h1', h2', h3'⟩⟩ := h
  exact ⟨⟨A, c, ds, e, h1, h2, h3.row.keep hk, h3.len, fun i f d hf hd => by obtain ⟨D, c, e, q1, q2, hr⟩ := h3.dr i f d hf hd; exact ⟨D, c, e, q1, q2, hr.keep hk⟩⟩, ⟨A', c', e', h1', h2', h3'.keep hk⟩⟩
theorem STm.more (h : STm w M fv pv s) (hM : ∀ b, M b → M' b) : STm w M' fv pv s := by
  obtain ⟨⟨A, c, ds, e, h1, h2, h3⟩, ⟨A', c', e', h1', h2', h3'⟩⟩ := h
  exact ⟨⟨A, c, ds, e, h1, h2, h3.row.more hM, h3.len, fun i f d hf hd => by obtain ⟨D, c, e, q1, q2, hr⟩ := h3.dr i f d hf hd; exact ⟨D, c, e, q1, q2, hr.more hM⟩⟩, ⟨A', c', e', h1', h2', h3'.more hM⟩⟩
theorem STm.r (h : STm w M fv pv s) (hM : ∀ b, M b → b < B) : STr w B fv pv s := by
  obtain ⟨⟨A, c, ds, e, h1, h2, h3⟩, ⟨A', c', e', h1', h2', h3'⟩⟩ := h
  exact ⟨⟨A, c, ds, e, h1, h2, h3.row.rd hM, h3.len, fun i f d hf hd => by obtain ⟨D, c, e, q1, q2, hr⟩ := h3.dr i f d hf hd; exact ⟨D, c, e, q1, q2, hr.rd hM⟩⟩, ⟨A', c', e', h1', h2', h3'.rd hM⟩⟩
theorem STr.m (h : STr w B fv pv s) : STm w (· < B) fv pv s := by
  obtain ⟨⟨A, c, ds, e, h1, h2, h3⟩, ⟨A', c', e', h1', h2', h3'⟩⟩ := h
  exact ⟨⟨A, c, ds, e, h1, h2, h3.row, h3.len, fun i f d hf hd => by obtain ⟨D, c, e, q1, q2, hr⟩ := h3.dr i f d hf hd; exact ⟨D, c, e, q1, q2, hr⟩⟩, ⟨A', c', e', h1', h2', h3'⟩⟩
theorem TLm.keep (h : TLm w M tv tl) (hk : ∀ p : Addr, M p.block → w'.cell? p = w.cell? p) : TLm w' M tv tl := by
  obtain ⟨A, c, e, h1, h2, h3⟩ := h
  exact ⟨A, c, e, h1, h2, h3.keep hk⟩
theorem TLm.more (h : TLm w M tv tl) (hM : ∀ b, M b → M' b) : TLm w M' tv tl := by
  obtain ⟨A, c, e, h1, h2, h3⟩ := h
  exact ⟨A, c, e, h1, h2, h3.more hM⟩
theorem TLm.r (h : TLm w M tv tl) (hM : ∀ b, M b → b < B) : TLr w B tv tl := by
  obtain ⟨A, c, e, h1, h2, h3⟩ := h
  exact ⟨A, c, e, h1, h2, h3.rd hM⟩
theorem FrO.m {base : Nat} (h : FrO w base fv l ds) : ∃ A c, fv = .slice A l.length c ∧ l.length ≤ c ∧ c ≤ maxLen ∧ FrM w (fun b => base ≤ b ∧ b < w.heap.size) A l ds := by
  obtain ⟨A, c, rfl⟩ := own_form h.row
  obtain ⟨h1, h2, _⟩ := own_cap h.row
  refine ⟨A, c, rfl, h1, h2, RdM.of_own h.row, h.len, fun i f d hf hd => ?_⟩
  have hd := h.dr i f d hf hd
  obtain ⟨D, c', rfl⟩ := own_form hd
  obtain ⟨h3, h4, _⟩ := own_cap hd
  exact ⟨D, c', rfl, h3, h4, RdM.of_own hd⟩
theorem STm.of {base : Nat} (hf : FrO w base fv s.fr ds) (hp : w.ownsRow base 99 7 pv s.pn.length (pnL s.pn)) : STm w (fun b => base ≤ b ∧ b < w.heap.size) fv pv s := by
  obtain ⟨A, c, e, h1, h2, h3⟩ := hf.m
  obtain ⟨A', c', rfl⟩ := own_form hp
  obtain ⟨h4, h5, _⟩ := own_cap hp
  exact ⟨⟨A, c, ds, e, h1, h2, h3⟩, A', c', rfl, h4, h5, RdM.of_own hp⟩
end
theorem sc_keep {w : World} {g j : Nat} {v : Value} {k : Nat} (hk : k ≠ g) : (w.setCell ⟨g, j, none⟩ v).heap[k]? = w.heap[k]? := Below.heap_setCell _ _ _ _ hk
theorem tl_oneM {w : World} {g : Nat} {M : Nat → Prop} {t : TL} (h : w.heap[g]? = some (.cells #[.int .i64 t.kind, .int .i64 t.n, .int .i64 t.to, .int .i64 t.k, .int .i64 t.vn, .string t.s, .slice none 0 0] 96 (0, 0))) (hM : M g) : TLm w M (.slice (some ⟨g, 0, none⟩) 1 1) [t] := by
  refine ⟨_, _, rfl, by simp, by unfold maxLen; omega, by simp [tlL, tlC], fun _ => ⟨g, 0, rfl, hM, fun j u hu => ?_⟩⟩
  rw [Nat.zero_add, Lib.cell_of_heap h]
  simpa [tlL, tlC] using hu
/-- A struct of six cells, written. -/
theorem six_at {w : World} {g : Nat} {T : TypeId} {u0 u1 u2 u3 u4 u5 : Value} (v0 v1 v2 v3 v4 v5 : Value) (h : w.heap[g]? = some (.cells #[u0, u1, u2, u3, u4, u5] T (0, 0))) :
    ∃ w7, w7 = ((((((w.setCell ⟨g, 0, none⟩ v0).setCell ⟨g, 1, none⟩ v1).setCell ⟨g, 2, none⟩ v2).setCell ⟨g, 3, none⟩ v3).setCell ⟨g, 4, none⟩ v4).setCell ⟨g, 5, none⟩ v5) ∧ w7.heap[g]? = some (.cells #[v0, v1, v2, v3, v4, v5] T (0, 0)) ∧ (∀ z, z ≠ g → w7.heap[z]? = w.heap[z]?) ∧ (∀ B, B ≤ g → ∀ w0, Below B w0 w → Below B w0 w7) ∧ w7.heap.size = w.heap.size := by
  refine ⟨_, rfl, ?_, fun z hz => ?_, fun B hB w0 hb => ?_, by simp⟩
  · exact heap_setN (heap_setN (heap_setN (heap_setN (heap_setN (heap_setN h _) _) _) _) _) _
  · rw [sc_keep hz, sc_keep hz, sc_keep hz, sc_keep hz, sc_keep hz, sc_keep hz]
  · exact (((((hb.setCell (p := ⟨g, 0, none⟩) hB _).setCell (p := ⟨g, 1, none⟩) hB _).setCell (p := ⟨g, 2, none⟩) hB _).setCell (p := ⟨g, 3, none⟩) hB _).setCell (p := ⟨g, 4, none⟩) hB _).setCell (p := ⟨g, 5, none⟩) hB _
theorem tl_one {w : World} {g : Nat} {t : TL} (h : w.heap[g]? = some (.cells #[.int .i64 t.kind, .int .i64 t.n, .int .i64 t.to, .int .i64 t.k, .int .i64 t.vn, .string t.s, .slice none 0 0] 96 (0, 0))) : TLr w w.heap.size (.slice (some ⟨g, 0, none⟩) 1 1) [t] := by
  refine ⟨_, _, rfl, by simp, by unfold maxLen; omega, by simp [tlL, tlC], fun _ => ⟨g, 0, rfl, (Array.getElem?_eq_some_iff.1 h).1, fun j u hu => ?_⟩⟩
  rw [Nat.zero_add, Lib.cell_of_heap h]
  simpa [tlL, tlC] using hu
set_option maxHeartbeats 2000000 in
theorem ended_any (FA PA : Option Addr) (nf fc np pc : Nat) (s : ST) (e0 x : Int) (w : World) :
    Calls Try.prog 49 #[stV (.slice FA nf fc) (.slice PA np pc) s, .int .i64 e0, .int .i64 x] w fun e w' => ∃ tv, e = .returned (.tuple #[stV (.slice FA nf fc) (.slice PA np pc) (overS s e0 x), tv]) ∧ TLm w' (fun b => w.heap.size ≤ b ∧ b < w'.heap.size) tv [tl3 7 e0 0] ∧ Below w.heap.size w w' := by
  go_enter Try.func49, Try.ntmps49
  go_wp2_with fail
  refine bodyPost_ret (v := .tuple #[stV (.slice FA nf fc) (.slice PA np pc) (overS s e0 x), .slice (some ⟨w.heap.size + 1 + 1, 0, none⟩) 1 1]) (by simp [results, Try.results49, go_sem, overS]) rfl ?_
  refine ⟨_, rfl, ?_, ?_⟩
  · exact tl_oneM (t := tl3 7 e0 0) (heap_atN _ (by simp)) ⟨by omega, by simp⟩
  · exact sq (sq (al _) (al _)) (al _)
theorem pnL_take (l : List PN) (k : Nat) : pnL (l.take k) = (pnL l).take (k * 7) := by
  unfold pnL
  rw [← flat_take (fun c hc => by obtain ⟨q, _, rfl⟩ := List.mem_map.1 hc; rfl), List.map_take]
theorem Rd.front {w : World} {B n m size : Nat} {A : Option Addr} {xs : List Value} (h : Rd w B size A n xs) (hm : m ≤ n) : Rd w B size A m (xs.take (m * size)) := by
  refine ⟨by rw [List.length_take, h.1]; exact Nat.min_eq_left (Nat.mul_le_mul_right _ hm), fun h0 => ?_⟩
  obtain ⟨b, off, e, hb, hc⟩ := h.2 (by omega)
  refine ⟨b, off, e, hb, fun j u hu => hc j u ?_⟩
  rw [List.getElem?_take] at hu
  split at hu
  · exact hu
  · cases hu
set_option maxHeartbeats 2000000 in
theorem without_any (A : Option Addr) (n c : Nat) (l : List PN) (w : World) (h : Rd w w.heap.size 7 A n (pnL l)) (hn : n = l.length) (h0 : 0 < n) (hn2 : n ≤ 100000) (hc : n ≤ c) :
    Calls Try.prog 76 #[.slice A n c] w fun e w' => e = .returned (.slice A (dropP l).length c) ∧ Rd w' w'.heap.size 7 A (dropP l).length (pnL (dropP l)) ∧ (dropP l).length ≤ l.length ∧ Below w.heap.size w w' := by
  obtain ⟨b, off, rfl, hb, hcell⟩ := h.2 h0
  obtain ⟨k, rfl⟩ : ∃ k, n = k + 1 := ⟨n - 1, by omega⟩
  obtain ⟨m, x, hm, hml⟩ := snoc_of (l := l) (n := k) (by omega)
  have HDP := Lib.hid (show dropP l = dropAb m by unfold dropP; rw [hm]; simp)
  have HM := Lib.hid hm
  have HN := Lib.hid hn
  have HCL := Lib.hid (show ∀ i p, l[i]? = some p → w.cell? ⟨b, off + i * 7 + 6, none⟩ = some (.bool p.ab) from fun i p hp => by
    have := hcell (i * 7 + 6) (.bool p.ab) (by rw [pnL_get hp (by omega)]; rfl)
    rwa [← Nat.add_assoc] at this)
  have HR := Lib.hid h
  clear h hcell hm hn
  go_enter Try.func76, Try.ntmps76
  go_wp2_with fail
  go_loopw [3] (fun v wr => ∃ (j : Nat), v = .int .i64 (j : Int) ∧ j ≤ k ∧ Hid (dropAb (l.take j) = dropAb m) ∧ Hid (Below w.heap.size w wr)) (fun v _ => (intOf v).toNat)
  case atStart => exact ⟨k, rfl, Nat.le_refl _, Lib.hid (by rw [HM.out, ← hml, List.take_left]), Lib.hid (Below.refl _ _)⟩
  case round =>
    obtain ⟨j, rfl, hj, HD, HB⟩ := hrel
    rcases j with _ | j
    · go_wp2_with fail
      have e0 : dropP l = [] := by rw [HDP.out, ← HD.out]; rfl
      go_ret
      rw [e0]
      exact ⟨rfl, ⟨rfl, fun h => absurd h (by simp)⟩, Nat.zero_le _, HB.out⟩
    · obtain ⟨p, hp⟩ : ∃ p, l[j]? = some p := ⟨_, List.getElem?_eq_getElem (by have := HN.out; omega)⟩
      have c6 := (HB.out.cell (p := ⟨b, off + j * 7 + 6, none⟩) hb).trans (HCL.out j p hp)
      have HT := Lib.hid (show l.take (j + 1) = l.take j ++ [p] by rw [List.take_add_one, hp]; rfl)
      have h0j : (0 : Int) < (j : Int) + 1 := by omega
      have hjk : (j : Int) < (k : Int) + 1 := by omega
      clear hp
      cases hab : p.ab with
      | false =>
        rw [hab] at c6
        have HAB := Lib.hid hab
        clear hab
        go_wp2_with fail
        have e1 : dropP l = l.take (j + 1) := by
          rw [HDP.out, ← HD.out, HT.out, dropAb_snoc, HAB.out]
          rfl
        have e2 : (l.take (j + 1)).length = j + 1 := by rw [List.length_take]; have := HN.out; omega
        go_ret
        rw [e1, e2, pnL_take]
        exact ⟨rfl, (HR.out.front (by omega)).below HB.out |>.more HB.out.size, by have := HN.out; omega, HB.out⟩
      | true =>
        rw [hab] at c6
        have HAB := Lib.hid hab
        clear hab
        go_wp2_with fail
        refine ⟨⟨j, rfl, by omega, Lib.hid ?_, HB⟩, by simp [intOf]⟩
        rw [← HD.out, HT.out, dropAb_snoc, HAB.out]
        rfl
end Go.Proofs.Ytapofohbngkekaa
