/- The player's 'drop', 'left', 'passed'. Conditions: bounds; there is a panic. -/
import Derived.Test.YtapofohbngkekaaPnU
set_option maxRecDepth 100000
namespace Go.Proofs.Ytapofohbngkekaa
open Go.ChangeShapes Go.WideShapes Go.ChangeAt Go.RowKit
/-- 'l[:k]' of panics. -/
theorem pns_to (A : Addr) {n c k : Nat} (hk : k ≤ n) (hc : n ≤ c) (W : World) : (Instr.slice 54 (.slice (some A) n c) none (some (.int .i64 (k : Int))) none).run Try.prog W = .ok (.slice (some A) k c) W := by
  have hs : ∀ w, (sizeOf (Try.prog.elem 54)).run Try.prog w = .ok 7 w := fun w => by kernel_rfl
  rw [run_slice_h W 54 (some A) n c Try.underlying54 .i64 (k : Int) (by omega) (by omega), hs]
  simp [Result.andThen, sliced, Addr.add]
theorem PLc.pns {w : World} {base P : Nat} {s : ST} {tl : List TL} {fv pv pv' tv : Value} {ds : List Value} {l : List PN} (h : PLc w base P s tl fv pv tv ds) (h' : w.ownsRow base 99 7 pv' l.length (pnL l)) : PLc (w.setCell ⟨P, 1, none⟩ pv') base P (stPn s l) tl fv pv' tv ds :=
  ⟨h.hP, heap_setN h.box _, h.fr.setP h.box (by decide) (by decide), own_setP h' h.box (by decide), own_setP h.tl h.box (by decide)⟩
/-- The panics without the last one. -/
theorem PLc.pop {w : World} {base P Q k c : Nat} {s : ST} {tl : List TL} {fv tv : Value} {ds : List Value} {q : List PN} {p : PN} (h : PLc w base P s tl fv (.slice (some ⟨Q, 0, none⟩) (k + 1) c) tv ds) (hs : s.pn = q ++ [p]) (hk : q.length = k) : PLc (w.setCell ⟨P, 1, none⟩ (.slice (some ⟨Q, 0, none⟩) k c)) base P (stPn s q) tl fv (.slice (some ⟨Q, 0, none⟩) k c) tv ds := by
  have h1 := h.pn
  rw [hs, pnL_snoc] at h1
  simp only [List.length_append, List.length_cons, List.length_nil, Nat.zero_add] at h1
  rw [hk] at h1
  refine h.pns ?_
  rw [hk]
  exact ownsRow_pop (by rw [pnL_len, hk]) h1
theorem dropAb_snoc (l : List PN) (p : PN) : dropAb (l ++ [p]) = if p.ab = true then dropAb l else l ++ [p] := by
  unfold dropAb
  rw [List.reverse_append]
  by_cases h : p.ab = true
  · simp [h]
  · simp [h]
theorem dropAb_nil : dropAb [] = [] := rfl
/-- How many panics the player has, off the memory. -/
def pnAt (P : Nat) (w : World) : Nat := match w.cell? ⟨P, 1, none⟩ with | some (.slice _ n _) => n | _ => 0
theorem own_len0 {w : World} {base n size : Nat} {e : TypeId} {v : Value} {xs : List Value} (h : w.ownsRow base e size v n xs) : ∃ A c, v = .slice A n c ∧ n ≤ c := by
  obtain ⟨A, c, rfl⟩ := own_form h
  exact ⟨A, c, rfl, (own_cap h).1⟩
set_option maxHeartbeats 4000000 in
theorem drop_any (base P : Nat) (s : ST) (tl : List TL) (fv pv tv : Value) (ds : List Value) (w : World) (hc : PLc w base P s tl fv pv tv ds) (hp : ¬ s.pn.length = 0) (hn : s.pn.length ≤ 100000) :
    Calls Try.prog 102 #[.pointer (some ⟨P, 0, none⟩)] w fun e w' => e = .returned (.tuple #[]) ∧ (∃ pv', PLc w' base P (stPn s (dropP s.pn)) tl fv pv' tv ds) ∧ Below base w w' ∧ ∀ b, b < w.heap.size → b ≠ P → w'.heap[b]? = w.heap[b]? := by
  obtain ⟨q, p, hq, hql⟩ := snoc_of (l := s.pn) (n := s.pn.length - 1) (by omega)
  obtain ⟨Q, c, rfl, hQ, hQz, hkc, hkm, hlc⟩ := pn_last (p := p) (l := q) (by rw [← hq]; exact hc.pn)
  have HC := Lib.hid hc
  have HQ := Lib.hid hq
  obtain ⟨k, hk⟩ : ∃ k, q.length = k := ⟨_, rfl⟩
  rw [hk] at HC hkc
  have HK := Lib.hid hk
  have hk2 : k ≤ 100000 := by omega
  have hsl := fun W => pns_to ⟨Q, 0, none⟩ (n := k + 1) (c := c) (k := k) (by omega) hkc W
  have c1 := HC.out.boxc.2.1
  have z1 := HC.out.boxc.2.2.2.2.2.2.2 1
  have hPlt := (Array.getElem?_eq_some_iff.1 HC.out.box).1
  have hb := HC.out.hP
  have HDP := Lib.hid (show dropP s.pn = dropAb q by unfold dropP; rw [hq]; simp)
  clear hc hq hlc hk hql
  go_enter Try.func102, Try.ntmps102
  go_wp2_with fail
  have hwr : IntKind.i64.wrap (k : Int) = (k : Int) := IntWalk.i64_in _ (by omega)
  have hkc' : (k : Int) ≤ (c : Int) := by omega
  go_still_tail 17, (by kernel_rfl)
  change wpList _ _ _ _ _ w.drew
  have HC2 := Lib.hid (HC.out.below (Below.refl _ _).drew)
  have HB2 := Lib.hid ((Below.refl base w).drew)
  have HK2 := Lib.hid (show ∀ b, b < w.heap.size → b ≠ P → w.drew.heap[b]? = w.heap[b]? from fun _ _ _ => rfl)
  generalize w.drew = w2 at *
  clear HC c1 z1 hPlt hQz
  have c1 := HC2.out.boxc.2.1
  have z1 := HC2.out.boxc.2.2.2.2.2.2.2 1
  go_wp2_with fail
  have HC3 := Lib.hid (HC2.out.pop HQ.out HK.out)
  have HB3 := Lib.hid (HB2.out.setCell (p := ⟨P, 1, none⟩) hb (.slice (some ⟨Q, 0, none⟩) k c))
  have HK3 := Lib.hid (show ∀ b, b < w.heap.size → b ≠ P → (w2.setCell ⟨P, 1, none⟩ (.slice (some ⟨Q, 0, none⟩) k c)).heap[b]? = w.heap[b]? from fun b h1 h2 => (Below.heap_setCell _ _ _ _ h2).trans (HK2.out b h1 h2))
  clear HC2 HB2 HK2 c1 z1
  generalize w2.setCell ⟨P, 1, none⟩ (.slice (some ⟨Q, 0, none⟩) k c) = w3 at *
  go_loopw [] (fun wr => ∃ (l : List PN), l.length ≤ 100000 ∧ Hid (dropAb l = dropAb q) ∧ (∃ pv', Hid (PLc wr base P (stPn s l) tl fv pv' tv ds)) ∧ Hid (Below base w wr) ∧ Hid (∀ b, b < w.heap.size → b ≠ P → wr.heap[b]? = w.heap[b]?)) (fun wr => pnAt P wr)
  case atStart => exact ⟨q, by rw [HK.out]; exact hk2, Lib.hid rfl, ⟨_, HC3⟩, HB3, HK3⟩
  case round =>
    obtain ⟨l, hl, HD, ⟨pv, HC⟩, HB, HKR⟩ := hrel
    have hrow := HC.out.pn
    obtain ⟨A, c, rfl, hlc⟩ := own_len0 hrow
    have c1 := HC.out.boxc.2.1
    have z1 := HC.out.boxc.2.2.2.2.2.2.2 1
    have hll : (stPn s l).pn.length = l.length := rfl
    rw [hll] at c1 HC hlc
    obtain ⟨n, hnl⟩ : ∃ n, l.length = n := ⟨_, rfl⟩
    rw [hnl] at c1 HC hl hlc
    have HN := Lib.hid hnl
    clear hnl hll hrow
    rcases n with _ | n
    · go_wp2_with fail
      have hl0 : l = [] := List.eq_nil_of_length_eq_zero HN.out
      subst hl0
      go_end0
      refine ⟨rfl, ?_, HB.out, HKR.out⟩
      rw [HDP.out, ← HD.out]
      exact ⟨_, HC.out⟩
    · obtain ⟨m, p', hm, hml⟩ := snoc_of HN.out
      obtain ⟨Q', c', e', hQ', hQz', hkc', hkm', hlc'⟩ := pn_last (w := wr) (base := base) (pv := .slice A (n + 1) c) (p := p') (l := m) (by rw [← hm]; exact HC.out.pn)
      injection e' with e' e'' e'''
      subst e' e'''
      rw [hml] at hlc'
      have HLC := Lib.hid hlc'
      have HM := Lib.hid hm
      have HML := Lib.hid hml
      have h0' : (0 : Int) < (n : Int) + 1 := by omega
      clear hlc' hm hml e''
      go_wp2_with fail
      refine Calls.mono (last_some P Q' n c wr c1 (by omega)) ?_
      rintro e w4 ⟨rfl, hb4⟩
      have l6 := (HLC.out.below hb4 hQz').c6
      have HC4 := Lib.hid (HC.out.below hb4)
      have HB4 := Lib.hid (HB.out.trans (hb4.mono HC.out.base_le))
      have HK4 := Lib.hid (show ∀ b, b < w.heap.size → b ≠ P → w4.heap[b]? = w.heap[b]? from fun b h1 h2 => (hb4.block b (Nat.lt_of_lt_of_le h1 HB.out.size)).trans (HKR.out b h1 h2))
      have HDA := Lib.hid (show dropAb l = if p'.ab = true then dropAb m else m ++ [p'] by rw [HM.out]; exact dropAb_snoc m p')
      clear hb4 c1 z1
      cases hab : p'.ab with
      | false =>
        rw [hab] at l6
        have HAB := Lib.hid hab
        clear hab
        go_wp2_with fail
        go_end0
        have e1 : dropP s.pn = l := by rw [HDP.out, ← HD.out, HDA.out, HAB.out, HM.out]; rfl
        rw [e1]
        exact ⟨rfl, ⟨_, HC4.out⟩, HB4.out, HK4.out⟩
      | true =>
        rw [hab] at l6
        have HAB := Lib.hid hab
        clear hab
        go_wp2_with fail
        have hwr : IntKind.i64.wrap (n : Int) = (n : Int) := IntWalk.i64_in _ (by omega)
        have hkc' : (n : Int) ≤ (c : Int) := by omega
        have c1 := HC4.out.boxc.2.1
        have z1 := HC4.out.boxc.2.2.2.2.2.2.2 1
        go_still_tail 17, (by kernel_rfl)
        change wpList _ _ _ _ _ w4.drew
        have HC5 := Lib.hid (HC4.out.below (Below.refl _ _).drew)
        have HB5 := Lib.hid (HB4.out.drew)
        have HK5 := Lib.hid (show ∀ b, b < w.heap.size → b ≠ P → w4.drew.heap[b]? = w.heap[b]? from HK4.out)
        generalize w4.drew = w5 at *
        clear HC4 HB4 HK4 c1 z1
        have c1 := HC5.out.boxc.2.1
        have z1 := HC5.out.boxc.2.2.2.2.2.2.2 1
        go_wp2_with fail
        have HC6 := Lib.hid (HC5.out.pop (s := stPn s l) HM.out HML.out)
        have HB6 := Lib.hid (HB5.out.setCell (p := ⟨P, 1, none⟩) hb (.slice (some ⟨Q', 0, none⟩) n c))
        have HMU := Lib.hid (HC.out.boxc.2.1)
        have HK6 := Lib.hid (show ∀ b, b < w.heap.size → b ≠ P → (w5.setCell ⟨P, 1, none⟩ (.slice (some ⟨Q', 0, none⟩) n c)).heap[b]? = w.heap[b]? from fun b h1 h2 => (Below.heap_setCell _ _ _ _ h2).trans (HK5.out b h1 h2))
        clear HC5 HB5 HK5 c1 z1 HC
        generalize w5.setCell ⟨P, 1, none⟩ (.slice (some ⟨Q', 0, none⟩) n c) = w6 at *
        go_roundw
        case rel =>
          refine ⟨m, by rw [HML.out]; omega, Lib.hid ?_, ⟨_, HC6⟩, HB6, HK6⟩
          rw [← HD.out, HDA.out, HAB.out]
          rfl
        case measure =>
          have e1 : pnAt P w6 = n := by unfold pnAt; rw [HC6.out.boxc.2.1]
          have e2 : pnAt P wr = n + 1 := by unfold pnAt; rw [HMU.out]
          rw [e1, e2]
          omega
end Go.Proofs.Ytapofohbngkekaa
