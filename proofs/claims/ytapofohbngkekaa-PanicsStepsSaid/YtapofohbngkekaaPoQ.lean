/- The law's 'state': the state that events come to. Conditions: what comes in reads as events. -/
import Derived.Test.YtapofohbngkekaaPoP
set_option maxRecDepth 100000
namespace Go.Proofs.Ytapofohbngkekaa
open Go.ChangeShapes Go.WideShapes Go.ChangeAt Go.RowKit
def StA (s : ST) (v : EV) (r : ST) (ts : List TL) (code : Int) : Prop := (EvR s v none ∧ r = zeroST ∧ ts = [] ∧ code = 13) ∨ (EvR s v (some (r, ts)) ∧ code = 0)
/-- What the document's step answers, in one form. -/
def SpQ (s : ST) (v : EV) (w : World) (e : Ending) (w' : World) : Prop :=
  ∃ (r : ST) (ts : List TL) (FA PA TA : Option Addr) (fc pc tc : Nat) (code : Int), StA s v r ts code ∧ e = .returned (.tuple #[stV (.slice FA r.fr.length fc) (.slice PA r.pn.length pc) r, .slice TA ts.length tc, .int .i64 code]) ∧ STm w' (fun b => w.heap.size ≤ b ∧ b < w'.heap.size) (.slice FA r.fr.length fc) (.slice PA r.pn.length pc) r ∧ RdM w' (fun b => w.heap.size ≤ b ∧ b < w'.heap.size) 7 TA ts.length (tlL ts) ∧ Below w.heap.size w w'
theorem zero_stm (w : World) (M : Nat → Prop) : STm w M (.slice none 0 0) (.slice none 0 0) zeroST :=
  ⟨⟨none, 0, [], rfl, Nat.le_refl _, by unfold maxLen; omega, ⟨rfl, fun h => absurd h (by decide)⟩, rfl, fun i f d hf _ => by cases hf⟩, none, 0, rfl, Nat.le_refl _, by unfold maxLen; omega, RdM.nil⟩
theorem spQ_of {s : ST} {v : EV} {w w' : World} {e : Ending} (h : SpP s v w e w') : SpQ s v w e w' := by
  obtain ⟨⟨h1, rfl⟩ | ⟨r, ts, fv, pv, tv, h1, rfl, h3, h4⟩, hb⟩ := h
  · exact ⟨zeroST, [], none, none, none, 0, 0, 0, 13, .inl ⟨h1, rfl, rfl, rfl⟩, rfl, zero_stm _ _, RdM.nil, hb⟩
  · obtain ⟨FA, fc, ds, rfl, h5⟩ := id h3.fr
    obtain ⟨PA, pc, rfl, h6⟩ := id h3.pn
    obtain ⟨TA, tc, rfl, _, _, h7⟩ := h4
    exact ⟨r, ts, FA, PA, TA, fc, pc, tc, 0, .inr ⟨h1, rfl⟩, rfl, h3, h7, hb⟩
theorem stepQ_any (FA PA : Option Addr) (nf fc np pc k : Nat) (s : ST) (v : EV) (A : Option Addr) (len cap : Nat) (w : World) (hs : STr w w.heap.size (.slice FA nf fc) (.slice PA np pc) s) (hi : Inv k s) (hk : k ≤ 50000) (he : s.en = 0) :
    Calls Try.prog 22 #[stV (.slice FA nf fc) (.slice PA np pc) s, evA v A len cap] w (SpQ s v w) :=
  (stepState_any FA PA nf fc np pc k s v A len cap w hs hi hk he).mono fun _ _ h => spQ_of h
def LsP (w : World) (e : Ending) (w' : World) : Prop :=
  ∃ (k : Nat) (s : ST) (FA PA : Option Addr) (fc pc : Nat), k ≤ 200 ∧ Inv k s ∧ e = .returned (stV (.slice FA s.fr.length fc) (.slice PA s.pn.length pc) s) ∧ STm w' (fun b => w.heap.size + 1 ≤ b ∧ b < w'.heap.size) (.slice FA s.fr.length fc) (.slice PA s.pn.length pc) s ∧ Below w.heap.size w w'
set_option maxHeartbeats 16000000 in
theorem state_any (A : Option Addr) (n c : Nat) (l : List EE) (w : World) (hat : ∀ (i : Nat) (x : EE), l[i]? = some x → ∃ b off Ai ci, A = some ⟨b, off, none⟩ ∧ b < w.heap.size ∧
    w.cell? ⟨b, off + i * 6, none⟩ = some (.int .i64 x.kind) ∧ w.cell? ⟨b, off + i * 6 + 1, none⟩ = some (.int .i64 x.n) ∧ w.cell? ⟨b, off + i * 6 + 2, none⟩ = some (.int .i64 x.v.k) ∧ w.cell? ⟨b, off + i * 6 + 3, none⟩ = some (.int .i64 x.v.n) ∧ w.cell? ⟨b, off + i * 6 + 4, none⟩ = some (.string x.v.s) ∧ w.cell? ⟨b, off + i * 6 + 5, none⟩ = some (.slice Ai x.v.l.length ci)) (hn : n = l.length) (_ : n ≤ 140737488351232) :
    Calls Try.prog 19 #[.slice A n c] w (LsP w) := by
  have HAT := Lib.hid hat
  have HN := Lib.hid hn
  clear hat hn
  go_enter Try.func19, Try.ntmps19
  go_wp2_with fail
  refine Calls.mono (refBegin_new _) ?_
  rintro e w2 ⟨g, rfl, hg, hgz, hb2⟩
  have hR2 : SB w2 w.heap.size (.slice none 0 0) (.slice none 0 0) zeroST := (hb2.block _ (by simp)).trans (heap_atN _ rfl)
  have hb2' := hb2.size
  have HB2 := Lib.hid (show Below w.heap.size w w2 from (Below.refl w.heap.size w).alloc (Nat.le_refl _) _ |>.trans (hb2.mono (by simp)))
  have HZ2 := Lib.hid (show w.heap.size < w2.heap.size ∧ w.heap.size + 1 ≤ g ∧ g < w2.heap.size from ⟨by simp at hb2'; omega, by simpa using hgz, (Array.getElem?_eq_some_iff.1 hg).1⟩)
  have HR3 := Lib.hid (show SB (w2.alloc (.cells #[.slice (some ⟨g, 0, none⟩) 1 1, .slice none 0 0, .int .i64 1, .int .i64 0, .int .i64 0, .int .i64 0] 56)) w.heap.size (.slice none 0 0) (.slice none 0 0) zeroST from (Lib.alloc_old _ _ _ HZ2.out.1).trans hR2)
  have HG3 := Lib.hid (show SB (w2.alloc (.cells #[.slice (some ⟨g, 0, none⟩) 1 1, .slice none 0 0, .int .i64 1, .int .i64 0, .int .i64 0, .int .i64 0] 56)) w2.heap.size (.slice (some ⟨g, 0, none⟩) 1 1) (.slice none 0 0) beginS from heap_alloc_new w2 _)
  have HS3 := Lib.hid (show STm (w2.alloc (.cells #[.slice (some ⟨g, 0, none⟩) 1 1, .slice none 0 0, .int .i64 1, .int .i64 0, .int .i64 0, .int .i64 0] 56)) (fun b => w.heap.size + 1 ≤ b ∧ b < w2.heap.size) (.slice (some ⟨g, 0, none⟩) 1 1) (.slice none 0 0) beginS from STm.begin ((Lib.alloc_old _ _ _ HZ2.out.2.2).trans hg) HZ2.out.2)
  have HB3 := Lib.hid (HB2.out.alloc (Nat.le_of_lt HZ2.out.1) (.cells #[.slice (some ⟨g, 0, none⟩) 1 1, .slice none 0 0, .int .i64 1, .int .i64 0, .int .i64 0, .int .i64 0] 56))
  have HZ3 := Lib.hid (show w2.heap.size < (w2.alloc (.cells #[.slice (some ⟨g, 0, none⟩) 1 1, .slice none 0 0, .int .i64 1, .int .i64 0, .int .i64 0, .int .i64 0] 56)).heap.size by simp)
  clear hR2 hb2 hb2' hg hgz HB2
  go_wp2_with fail
  generalize w2.alloc (.cells #[.slice (some ⟨g, 0, none⟩) 1 1, .slice none 0 0, .int .i64 1, .int .i64 0, .int .i64 0, .int .i64 0] 56) = w3 at *
  obtain ⟨G, hG⟩ : ∃ G, w2.heap.size = G := ⟨_, rfl⟩
  rw [hG] at HZ2 HG3 HS3 HZ3 ⊢
  clear hG
  have HGG := Lib.hid (show w.heap.size + 1 ≤ G from by have := HZ2.out; omega)
  go_loopw [4] (fun i wr => ∃ (k k0 : Nat) (s : ST) (FA PA : Option Addr) (fc pc : Nat), k ≤ n ∧ k ≤ 200 ∧ i = .int .i64 (k : Int) ∧ k0 ≤ k ∧ Hid (Inv k0 s) ∧ Hid (SB wr G (.slice FA s.fr.length fc) (.slice PA s.pn.length pc) s) ∧ Hid (STm wr (fun b => (w.heap.size + 1 ≤ b ∧ b < wr.heap.size) ∧ b ≠ G) (.slice FA s.fr.length fc) (.slice PA s.pn.length pc) s) ∧ Hid (Below w.heap.size w wr) ∧ Hid (SB wr w.heap.size (.slice none 0 0) (.slice none 0 0) zeroST)) (fun i _ => n - (intOf i).toNat)
  case atStart =>
    exact ⟨0, 0, beginS, some ⟨g, 0, none⟩, none, 1, 0, Nat.zero_le _, Nat.zero_le _, rfl, Nat.le_refl _, Lib.hid begin_inv, HG3, Lib.hid (HS3.out.more fun b hb => ⟨⟨hb.1, by have := HZ3.out; omega⟩, by omega⟩), HB3, HR3⟩
  case round =>
    obtain ⟨k, k0, s, FA, PA, fc, pc, hk, hk2, rfl, hk0, HIN, HGB, HST, HBW, HRB⟩ := hrel
    have hgz := HGB.out.lt
    by_cases hlt : k < n
    · have hlti : (k : Int) < (n : Int) := by omega
      by_cases h200 : k < 200
      · have h2i : (k : Int) < 200 := by omega
        by_cases h0 : s.en = 0
        · have b1 : (s.en == 0) = true := by rw [h0]; rfl
          have H0 := Lib.hid h0
          clear h0
          obtain ⟨x, hx⟩ : ∃ x, l[k]? = some x := ⟨_, List.getElem?_eq_getElem (by rw [← HN.out]; exact hlt)⟩
          obtain ⟨b, off, Ai, ci, rfl, hbz, c0, c1, c2, c3, c4, c5⟩ := HAT.out k x hx
          have hb5 := HBW.out
          rw [← hb5.cell (p := ⟨b, off + k * 6, none⟩) hbz] at c0
          rw [← hb5.cell (p := ⟨b, off + k * 6 + 1, none⟩) hbz] at c1
          rw [← hb5.cell (p := ⟨b, off + k * 6 + 2, none⟩) hbz] at c2
          rw [← hb5.cell (p := ⟨b, off + k * 6 + 3, none⟩) hbz] at c3
          rw [← hb5.cell (p := ⟨b, off + k * 6 + 4, none⟩) hbz] at c4
          rw [← hb5.cell (p := ⟨b, off + k * 6 + 5, none⟩) hbz] at c5
          have hbr : b < wr.heap.size := Nat.lt_of_lt_of_le hbz hb5.size
          have hki : ¬ (k : Int) < 0 := by omega
          clear hx hb5
          have HSW := Lib.hid (fun (W : World) (hW : Below wr.heap.size wr W) => show STr W W.heap.size (.slice FA s.fr.length fc) (.slice PA s.pn.length pc) s from (HST.out.keep fun pa hp => hW.cell hp.1.2).r fun b hb => Nat.lt_of_lt_of_le hb.1.2 hW.size)
          have x0 := HGB.out.c0
          have x1 := HGB.out.c1
          have x2 := HGB.out.c2
          have x3 := HGB.out.c3
          have x4 := HGB.out.c4
          have x5 := HGB.out.c5
          go_wp2_with fail
          have hn1 : wr.heap.size ≠ G := by omega
          have hn1' : G ≠ wr.heap.size := by omega
          have hn2 : wr.heap.size ≠ b := by omega
          have hn2' : b ≠ wr.heap.size := by omega
          go_region_held3 (fun w' => w'.cell? ⟨G, 0, none⟩ = some (.slice FA s.fr.length fc) ∧ w'.cell? ⟨G, 1, none⟩ = some (.slice PA s.pn.length pc) ∧ w'.cell? ⟨G, 2, none⟩ = some (.int .i64 (s.next : Int)) ∧ w'.cell? ⟨G, 3, none⟩ = some (.int .i64 (s.ser : Int)) ∧ w'.cell? ⟨G, 4, none⟩ = some (.int .i64 s.en) ∧ w'.cell? ⟨G, 5, none⟩ = some (.int .i64 s.st) ∧ w'.cell? ⟨b, off + k * 6, none⟩ = some (.int .i64 x.kind) ∧ w'.cell? ⟨b, off + k * 6 + 1, none⟩ = some (.int .i64 x.n) ∧ w'.cell? ⟨b, off + k * 6 + 2, none⟩ = some (.int .i64 x.v.k) ∧ w'.cell? ⟨b, off + k * 6 + 3, none⟩ = some (.int .i64 x.v.n) ∧ w'.cell? ⟨b, off + k * 6 + 4, none⟩ = some (.string x.v.s) ∧ w'.cell? ⟨b, off + k * 6 + 5, none⟩ = some (.slice Ai x.v.l.length ci)) (go_keep)
            (first | (go_at_call 22; refine (stepQ_any FA PA s.fr.length fc s.pn.length pc k0 s (toEV x) Ai x.v.l.length ci _ (HSW.out _ ((Below.refl wr.heap.size wr).drew)) HIN.out (by omega) H0.out).mono ?_; rintro e w5 ⟨r, ts, FB, PB, TB, fd, pd, td, code, hsa, rfl, hS, hT, hb5⟩; have HBB := Lib.hid (show Below wr.heap.size wr w5 from ((Below.refl wr.heap.size wr).drew).trans (hb5.mono (Nat.le_refl _))); have x0 := (HBB.out.cell (p := ⟨G, 0, none⟩) hgz).trans x0; have x1 := (HBB.out.cell (p := ⟨G, 1, none⟩) hgz).trans x1; have x2 := (HBB.out.cell (p := ⟨G, 2, none⟩) hgz).trans x2; have x3 := (HBB.out.cell (p := ⟨G, 3, none⟩) hgz).trans x3; have x4 := (HBB.out.cell (p := ⟨G, 4, none⟩) hgz).trans x4; have x5 := (HBB.out.cell (p := ⟨G, 5, none⟩) hgz).trans x5; have c0 := (HBB.out.cell (p := ⟨b, off + k * 6, none⟩) hbr).trans c0; have c1 := (HBB.out.cell (p := ⟨b, off + k * 6 + 1, none⟩) hbr).trans c1; have c2 := (HBB.out.cell (p := ⟨b, off + k * 6 + 2, none⟩) hbr).trans c2; have c3 := (HBB.out.cell (p := ⟨b, off + k * 6 + 3, none⟩) hbr).trans c3; have c4 := (HBB.out.cell (p := ⟨b, off + k * 6 + 4, none⟩) hbr).trans c4; have c5 := (HBB.out.cell (p := ⟨b, off + k * 6 + 5, none⟩) hbr).trans c5; have HSS := Lib.hid hS; have HTT := Lib.hid hT; clear hS hT hb5) | (go_at_call 22; refine (stepQ_any FA PA s.fr.length fc s.pn.length pc k0 s (toEV x) Ai x.v.l.length ci _ (HSW.out _ ((al (w := wr) (.cells #[.slice none 0 0, .slice none 0 0, .int .i64 0, .int .i64 0, .int .i64 0, .int .i64 0] 56)).drew)) HIN.out (by omega) H0.out).mono ?_; rintro e w5 ⟨r, ts, FB, PB, TB, fd, pd, td, code, hsa, rfl, hS, hT, hb5⟩; have HBB := Lib.hid (show Below wr.heap.size wr w5 from ((al (w := wr) (.cells #[.slice none 0 0, .slice none 0 0, .int .i64 0, .int .i64 0, .int .i64 0, .int .i64 0] 56)).drew).trans (hb5.mono (by simp))); have x0 := (HBB.out.cell (p := ⟨G, 0, none⟩) hgz).trans x0; have x1 := (HBB.out.cell (p := ⟨G, 1, none⟩) hgz).trans x1; have x2 := (HBB.out.cell (p := ⟨G, 2, none⟩) hgz).trans x2; have x3 := (HBB.out.cell (p := ⟨G, 3, none⟩) hgz).trans x3; have x4 := (HBB.out.cell (p := ⟨G, 4, none⟩) hgz).trans x4; have x5 := (HBB.out.cell (p := ⟨G, 5, none⟩) hgz).trans x5; have c0 := (HBB.out.cell (p := ⟨b, off + k * 6, none⟩) hbr).trans c0; have c1 := (HBB.out.cell (p := ⟨b, off + k * 6 + 1, none⟩) hbr).trans c1; have c2 := (HBB.out.cell (p := ⟨b, off + k * 6 + 2, none⟩) hbr).trans c2; have c3 := (HBB.out.cell (p := ⟨b, off + k * 6 + 3, none⟩) hbr).trans c3; have c4 := (HBB.out.cell (p := ⟨b, off + k * 6 + 4, none⟩) hbr).trans c4; have c5 := (HBB.out.cell (p := ⟨b, off + k * 6 + 5, none⟩) hbr).trans c5; have HSS := Lib.hid hS; have HTT := Lib.hid hT; have hqz : w5.heap[wr.heap.size]? = some (.cells #[.slice none 0 0, .slice none 0 0, .int .i64 0, .int .i64 0, .int .i64 0, .int .i64 0] 56 (0, 0)) := (hb5.block wr.heap.size (by simp)).trans (heap_alloc_new wr _); have HQZ := Lib.hid hqz; have q0 := Lib.cell_of_heap hqz 0; have qz0 := Lib.frozen_of_heap hqz 0; have q1 := Lib.cell_of_heap hqz 1; have qz1 := Lib.frozen_of_heap hqz 1; have q2 := Lib.cell_of_heap hqz 2; have qz2 := Lib.frozen_of_heap hqz 2; have q3 := Lib.cell_of_heap hqz 3; have qz3 := Lib.frozen_of_heap hqz 3; have q4 := Lib.cell_of_heap hqz 4; have qz4 := Lib.frozen_of_heap hqz 4; have q5 := Lib.cell_of_heap hqz 5; have qz5 := Lib.frozen_of_heap hqz 5; simp at q0 q1 q2 q3 q4 q5; have qlt := (Array.getElem?_eq_some_iff.1 hqz).1; clear hS hT hb5 hqz))
          · have hgl : G < wr.heap.size := hgz
            clear x0 x1 x2 x3 x4 x5 c0 c1 c2 c3 c4 c5 hn1 hn1' hn2 hn2'
            have HG5 := Lib.hid (SB.to HGB.out (HBB.out.block _ HGB.out.lt))
            have HR5 := Lib.hid (SB.to HRB.out (HBB.out.block _ HRB.out.lt))
            have HB5 := Lib.hid (HBW.out.trans (HBB.out.mono HBW.out.size))
            have HS5 := Lib.hid (HST.out.keep fun pa hp => HBB.out.cell hp.1.2)
            have HWS := Lib.hid HBB.out.size
            have HQ6 := Lib.hid (show SB (w5.alloc (.cells #[.slice FB r.fr.length fd, .slice PB r.pn.length pd, .int .i64 (r.next : Int), .int .i64 (r.ser : Int), .int .i64 r.en, .int .i64 r.st] 56)) w5.heap.size (.slice FB r.fr.length fd) (.slice PB r.pn.length pd) r from heap_alloc_new w5 _)
            have HG6 := Lib.hid (SB.to HG5.out (Lib.alloc_old w5 (.cells #[.slice FB r.fr.length fd, .slice PB r.pn.length pd, .int .i64 (r.next : Int), .int .i64 (r.ser : Int), .int .i64 r.en, .int .i64 r.st] 56) _ HG5.out.lt))
            have HR6 := Lib.hid (SB.to HR5.out (Lib.alloc_old w5 (.cells #[.slice FB r.fr.length fd, .slice PB r.pn.length pd, .int .i64 (r.next : Int), .int .i64 (r.ser : Int), .int .i64 r.en, .int .i64 r.st] 56) _ HR5.out.lt))
            have HB6 := Lib.hid (HB5.out.alloc HB5.out.size (.cells #[.slice FB r.fr.length fd, .slice PB r.pn.length pd, .int .i64 (r.next : Int), .int .i64 (r.ser : Int), .int .i64 r.en, .int .i64 r.st] 56))
            have HT6 := Lib.hid ((HS5.out.keep fun pa hp => (al (w := w5) (.cells #[.slice FB r.fr.length fd, .slice PB r.pn.length pd, .int .i64 (r.next : Int), .int .i64 (r.ser : Int), .int .i64 r.en, .int .i64 r.st] 56)).cell (Nat.lt_of_lt_of_le hp.1.2 HWS.out)).more (M' := fun b => (w.heap.size + 1 ≤ b ∧ b < (w5.alloc (.cells #[.slice FB r.fr.length fd, .slice PB r.pn.length pd, .int .i64 (r.next : Int), .int .i64 (r.ser : Int), .int .i64 r.en, .int .i64 r.st] 56)).heap.size) ∧ b ≠ G) fun b hb => ⟨⟨hb.1.1, by have := HWS.out; have := hb.1.2; simp; omega⟩, hb.2⟩)
            have HU6 := Lib.hid ((HSS.out.keep fun pa hp => (al (w := w5) (.cells #[.slice FB r.fr.length fd, .slice PB r.pn.length pd, .int .i64 (r.next : Int), .int .i64 (r.ser : Int), .int .i64 r.en, .int .i64 r.st] 56)).cell hp.2).more (M' := fun b => (w.heap.size + 1 ≤ b ∧ b < (w5.alloc (.cells #[.slice FB r.fr.length fd, .slice PB r.pn.length pd, .int .i64 (r.next : Int), .int .i64 (r.ser : Int), .int .i64 r.en, .int .i64 r.st] 56)).heap.size) ∧ b ≠ G) fun b hb => by
              have h1 : wr.heap.size ≤ b := hb.1
              have h2 := hb.2
              have h3 := HGG.out
              simp
              omega)
            clear HG5 HR5 HB5 HS5 HSS HTT
            generalize w5.alloc (.cells #[.slice FB r.fr.length fd, .slice PB r.pn.length pd, .int .i64 (r.next : Int), .int .i64 (r.ser : Int), .int .i64 r.en, .int .i64 r.st] 56) = w6 at *
            generalize w5.heap.size = gq at *
            have HSA := Lib.hid hsa
            rcases hsa with ⟨_, _, _, rfl⟩ | ⟨hev, rfl⟩
            · clear HSA
              go_wp2_with fail
              go_roundw
              case rel =>
                exact ⟨k + 1, k0, s, FA, PA, fc, pc, by omega, by omega, by go_num, by omega, HIN, HG6, HT6, HB6, HR6⟩
              case measure => simp [intOf]; omega
            · have HEN := Lib.hid hev
              clear hev HSA
              have x0 := HQ6.out.c0
              have x1 := HQ6.out.c1
              have x2 := HQ6.out.c2
              have x3 := HQ6.out.c3
              have x4 := HQ6.out.c4
              have x5 := HQ6.out.c5
              have y0 := HG6.out.c0
              have z0 := HG6.out.z 0
              have y1 := HG6.out.c1
              have z1 := HG6.out.z 1
              have y2 := HG6.out.c2
              have z2 := HG6.out.z 2
              have y3 := HG6.out.c3
              have z3 := HG6.out.z 3
              have y4 := HG6.out.c4
              have z4 := HG6.out.z 4
              have y5 := HG6.out.c5
              have z5 := HG6.out.z 5
              have qz := HQ6.out.lt
              have gz := HG6.out.lt
              go_upto_region 4 with (fail)
              obtain ⟨w7, hw7, b7, k7, l7, s7⟩ := six_at (w := w6) (g := G) (.slice FB r.fr.length fd) (.slice PB r.pn.length pd) (.int .i64 (r.next : Int)) (.int .i64 (r.ser : Int)) (.int .i64 r.en) (.int .i64 r.st) HG6.out
              rw [← hw7]
              have HG7 := Lib.hid (show SB w7 G (.slice FB r.fr.length fd) (.slice PB r.pn.length pd) r from b7)
              have HR7 := Lib.hid (SB.to HR6.out (k7 _ (by have := HGG.out; omega)))
              have HB7 := Lib.hid (l7 w.heap.size (by have := HGG.out; omega) w HB6.out)
              have HT7 := Lib.hid ((HU6.out.keep (w' := w7) fun pa hp => World.cell?_of_block (k7 pa.block hp.2)).more (M' := fun b => (w.heap.size + 1 ≤ b ∧ b < w7.heap.size) ∧ b ≠ G) fun b hb => by rw [s7]; exact hb)
              clear x0 x1 x2 x3 x4 x5 y0 y1 y2 y3 y4 y5 z0 z1 z2 z3 z4 z5 qz gz hw7 b7 k7 l7 s7 HQ6 HG6 HR6 HB6 HT6 HU6
              go_wp2_with fail
              go_roundw
              case rel =>
                exact ⟨k + 1, k0 + 1, r, FB, PB, fd, pd, by omega, by omega, by go_num, by omega, Lib.hid (HEN.out.keeps HIN.out H0.out), HG7, HT7, HB7, HR7⟩
              case measure => simp [intOf]; omega
          · have hgl : G < wr.heap.size := hgz
            clear x0 x1 x2 x3 x4 x5 c0 c1 c2 c3 c4 c5 hn1 hn1' hn2 hn2'
            have HG5 := Lib.hid (SB.to HGB.out (HBB.out.block _ HGB.out.lt))
            have HR5 := Lib.hid (SB.to HRB.out (HBB.out.block _ HRB.out.lt))
            have HB5 := Lib.hid (HBW.out.trans (HBB.out.mono HBW.out.size))
            have HS5 := Lib.hid (HST.out.keep fun pa hp => HBB.out.cell hp.1.2)
            have HWS := Lib.hid HBB.out.size
            clear q0 q1 q2 q3 q4 q5 qz0 qz1 qz2 qz3 qz4 qz5
            obtain ⟨w6, hw6, b6, k6, l6, s6⟩ := six_at (w := w5) (g := wr.heap.size) (.slice FB r.fr.length fd) (.slice PB r.pn.length pd) (.int .i64 (r.next : Int)) (.int .i64 (r.ser : Int)) (.int .i64 r.en) (.int .i64 r.st) HQZ.out
            rw [← hw6]
            have HQ6 := Lib.hid (show SB w6 wr.heap.size (.slice FB r.fr.length fd) (.slice PB r.pn.length pd) r from b6)
            have HG6 := Lib.hid (SB.to HG5.out (k6 G (by omega)))
            have HR6 := Lib.hid (SB.to HR5.out (k6 w.heap.size (by have := HGG.out; omega)))
            have HB6 := Lib.hid (l6 w.heap.size HBW.out.size w HB5.out)
            have HT6 := Lib.hid ((HS5.out.keep (w' := w6) fun pa hp => World.cell?_of_block (k6 pa.block (by have := hp.1.2; omega))).more (M' := fun b => (w.heap.size + 1 ≤ b ∧ b < w6.heap.size) ∧ b ≠ G) fun b hb => ⟨⟨hb.1.1, by have := HWS.out; have := hb.1.2; rw [s6]; omega⟩, hb.2⟩)
            have HU6 := Lib.hid ((HSS.out.keep (w' := w6) fun pa hp => World.cell?_of_block (k6 pa.block (by have h1 := hp.1; simp at h1; omega))).more (M' := fun b => (w.heap.size + 1 ≤ b ∧ b < w6.heap.size) ∧ b ≠ G) fun b hb => by
              have h1 := hb.1
              have h2 := hb.2
              have h3 := HGG.out
              simp at h1
              rw [s6]
              omega)
            clear HG5 HR5 HB5 HS5 HSS HTT hw6 b6 k6 l6 s6 HQZ qlt
            have HSA := Lib.hid hsa
            rcases hsa with ⟨_, _, _, rfl⟩ | ⟨hev, rfl⟩
            · clear HSA
              go_wp2_with fail
              go_roundw
              case rel =>
                exact ⟨k + 1, k0, s, FA, PA, fc, pc, by omega, by omega, by go_num, by omega, HIN, HG6, HT6, HB6, HR6⟩
              case measure => simp [intOf]; omega
            · have HEN := Lib.hid hev
              clear hev HSA
              have x0 := HQ6.out.c0
              have x1 := HQ6.out.c1
              have x2 := HQ6.out.c2
              have x3 := HQ6.out.c3
              have x4 := HQ6.out.c4
              have x5 := HQ6.out.c5
              have y0 := HG6.out.c0
              have z0 := HG6.out.z 0
              have y1 := HG6.out.c1
              have z1 := HG6.out.z 1
              have y2 := HG6.out.c2
              have z2 := HG6.out.z 2
              have y3 := HG6.out.c3
              have z3 := HG6.out.z 3
              have y4 := HG6.out.c4
              have z4 := HG6.out.z 4
              have y5 := HG6.out.c5
              have z5 := HG6.out.z 5
              have qz := HQ6.out.lt
              have gz := HG6.out.lt
              go_upto_region 4 with (fail)
              obtain ⟨w7, hw7, b7, k7, l7, s7⟩ := six_at (w := w6) (g := G) (.slice FB r.fr.length fd) (.slice PB r.pn.length pd) (.int .i64 (r.next : Int)) (.int .i64 (r.ser : Int)) (.int .i64 r.en) (.int .i64 r.st) HG6.out
              rw [← hw7]
              have HG7 := Lib.hid (show SB w7 G (.slice FB r.fr.length fd) (.slice PB r.pn.length pd) r from b7)
              have HR7 := Lib.hid (SB.to HR6.out (k7 _ (by have := HGG.out; omega)))
              have HB7 := Lib.hid (l7 w.heap.size (by have := HGG.out; omega) w HB6.out)
              have HT7 := Lib.hid ((HU6.out.keep (w' := w7) fun pa hp => World.cell?_of_block (k7 pa.block hp.2)).more (M' := fun b => (w.heap.size + 1 ≤ b ∧ b < w7.heap.size) ∧ b ≠ G) fun b hb => by rw [s7]; exact hb)
              clear x0 x1 x2 x3 x4 x5 y0 y1 y2 y3 y4 y5 z0 z1 z2 z3 z4 z5 qz gz hw7 b7 k7 l7 s7 HQ6 HG6 HR6 HB6 HT6 HU6
              go_wp2_with fail
              go_roundw
              case rel =>
                exact ⟨k + 1, k0 + 1, r, FB, PB, fd, pd, by omega, by omega, by go_num, by omega, Lib.hid (HEN.out.keeps HIN.out H0.out), HG7, HT7, HB7, HR7⟩
              case measure => simp [intOf]; omega
        · have b1 : (s.en == 0) = false := by rw [beq_eq_false_iff_ne]; exact h0
          clear h0
          have x0 := HGB.out.c0
          have x1 := HGB.out.c1
          have x2 := HGB.out.c2
          have x3 := HGB.out.c3
          have x4 := HGB.out.c4
          have x5 := HGB.out.c5
          have r0 := HRB.out.c0
          have r1 := HRB.out.c1
          have r2 := HRB.out.c2
          have r3 := HRB.out.c3
          have r4 := HRB.out.c4
          have r5 := HRB.out.c5
          have y0 := HRB.out.z 0
          have y1 := HRB.out.z 1
          have y2 := HRB.out.z 2
          have y3 := HRB.out.z 3
          have y4 := HRB.out.z 4
          have y5 := HRB.out.z 5
          have gz := HGB.out.lt
          have rz := HRB.out.lt
          go_wp2_with fail
          obtain ⟨w7, hw7, b7, k7, l7, s7⟩ := six_at (w := wr) (g := w.heap.size) (.slice FA s.fr.length fc) (.slice PA s.pn.length pc) (.int .i64 (s.next : Int)) (.int .i64 (s.ser : Int)) (.int .i64 s.en) (.int .i64 s.st) HRB.out
          rw [← hw7]
          have HB7 := Lib.hid (l7 w.heap.size (Nat.le_refl _) w HBW.out)
          have HS7 := Lib.hid ((HST.out.keep (w' := w7) fun pa hp => World.cell?_of_block (k7 pa.block (by have := hp.1.1; omega))).more (M' := fun b => w.heap.size + 1 ≤ b ∧ b < w7.heap.size) fun b hb => by rw [s7]; exact hb.1)
          have hR7 : SB w7 w.heap.size (.slice FA s.fr.length fc) (.slice PA s.pn.length pc) s := b7
          clear r0 r1 r2 r3 r4 r5 y0 y1 y2 y3 y4 y5 hw7 b7 k7 l7 s7
          have r0 := hR7.c0
          have r1 := hR7.c1
          have r2 := hR7.c2
          have r3 := hR7.c3
          have r4 := hR7.c4
          have r5 := hR7.c5
          clear hR7
          refine bodyPost_ret (v := stV (.slice FA s.fr.length fc) (.slice PA s.pn.length pc) s) (by simp [results, Try.results19, go_sem, r0, r1, r2, r3, r4, r5]) rfl ?_
          exact ⟨k0, s, _, _, _, _, by omega, HIN.out, rfl, HS7.out, HB7.out⟩
      · have h2i : ¬ (k : Int) < 200 := by omega
        have x0 := HGB.out.c0
        have x1 := HGB.out.c1
        have x2 := HGB.out.c2
        have x3 := HGB.out.c3
        have x4 := HGB.out.c4
        have x5 := HGB.out.c5
        have r0 := HRB.out.c0
        have r1 := HRB.out.c1
        have r2 := HRB.out.c2
        have r3 := HRB.out.c3
        have r4 := HRB.out.c4
        have r5 := HRB.out.c5
        have y0 := HRB.out.z 0
        have y1 := HRB.out.z 1
        have y2 := HRB.out.z 2
        have y3 := HRB.out.z 3
        have y4 := HRB.out.z 4
        have y5 := HRB.out.z 5
        have gz := HGB.out.lt
        have rz := HRB.out.lt
        go_wp2_with fail
        obtain ⟨w7, hw7, b7, k7, l7, s7⟩ := six_at (w := wr) (g := w.heap.size) (.slice FA s.fr.length fc) (.slice PA s.pn.length pc) (.int .i64 (s.next : Int)) (.int .i64 (s.ser : Int)) (.int .i64 s.en) (.int .i64 s.st) HRB.out
        rw [← hw7]
        have HB7 := Lib.hid (l7 w.heap.size (Nat.le_refl _) w HBW.out)
        have HS7 := Lib.hid ((HST.out.keep (w' := w7) fun pa hp => World.cell?_of_block (k7 pa.block (by have := hp.1.1; omega))).more (M' := fun b => w.heap.size + 1 ≤ b ∧ b < w7.heap.size) fun b hb => by rw [s7]; exact hb.1)
        have hR7 : SB w7 w.heap.size (.slice FA s.fr.length fc) (.slice PA s.pn.length pc) s := b7
        clear r0 r1 r2 r3 r4 r5 y0 y1 y2 y3 y4 y5 hw7 b7 k7 l7 s7
        have r0 := hR7.c0
        have r1 := hR7.c1
        have r2 := hR7.c2
        have r3 := hR7.c3
        have r4 := hR7.c4
        have r5 := hR7.c5
        clear hR7
        refine bodyPost_ret (v := stV (.slice FA s.fr.length fc) (.slice PA s.pn.length pc) s) (by simp [results, Try.results19, go_sem, r0, r1, r2, r3, r4, r5]) rfl ?_
        exact ⟨k0, s, _, _, _, _, by omega, HIN.out, rfl, HS7.out, HB7.out⟩
    · have hlti : ¬ (k : Int) < (n : Int) := by omega
      have x0 := HGB.out.c0
      have x1 := HGB.out.c1
      have x2 := HGB.out.c2
      have x3 := HGB.out.c3
      have x4 := HGB.out.c4
      have x5 := HGB.out.c5
      have r0 := HRB.out.c0
      have r1 := HRB.out.c1
      have r2 := HRB.out.c2
      have r3 := HRB.out.c3
      have r4 := HRB.out.c4
      have r5 := HRB.out.c5
      have y0 := HRB.out.z 0
      have y1 := HRB.out.z 1
      have y2 := HRB.out.z 2
      have y3 := HRB.out.z 3
      have y4 := HRB.out.z 4
      have y5 := HRB.out.z 5
      have gz := HGB.out.lt
      have rz := HRB.out.lt
      go_wp2_with fail
      obtain ⟨w7, hw7, b7, k7, l7, s7⟩ := six_at (w := wr) (g := w.heap.size) (.slice FA s.fr.length fc) (.slice PA s.pn.length pc) (.int .i64 (s.next : Int)) (.int .i64 (s.ser : Int)) (.int .i64 s.en) (.int .i64 s.st) HRB.out
      rw [← hw7]
      have HB7 := Lib.hid (l7 w.heap.size (Nat.le_refl _) w HBW.out)
      have HS7 := Lib.hid ((HST.out.keep (w' := w7) fun pa hp => World.cell?_of_block (k7 pa.block (by have := hp.1.1; omega))).more (M' := fun b => w.heap.size + 1 ≤ b ∧ b < w7.heap.size) fun b hb => by rw [s7]; exact hb.1)
      have hR7 : SB w7 w.heap.size (.slice FA s.fr.length fc) (.slice PA s.pn.length pc) s := b7
      clear r0 r1 r2 r3 r4 r5 y0 y1 y2 y3 y4 y5 hw7 b7 k7 l7 s7
      have r0 := hR7.c0
      have r1 := hR7.c1
      have r2 := hR7.c2
      have r3 := hR7.c3
      have r4 := hR7.c4
      have r5 := hR7.c5
      clear hR7
      refine bodyPost_ret (v := stV (.slice FA s.fr.length fc) (.slice PA s.pn.length pc) s) (by simp [results, Try.results19, go_sem, r0, r1, r2, r3, r4, r5]) rfl ?_
      exact ⟨k0, s, _, _, _, _, by omega, HIN.out, rfl, HS7.out, HB7.out⟩
end Go.Proofs.Ytapofohbngkekaa
