/- panics.Play. Conditions: what comes in reads as events. -/
import Derived.Test.YtapofohbngkekaaPnF
import Derived.Test.YtapofohbngkekaaPnG
set_option maxRecDepth 100000
namespace Go.Proofs.Ytapofohbngkekaa
open Go.ChangeShapes Go.WideShapes Go.ChangeAt Go.RowKit
/-- Events, one behind the other: none: one is refused. -/
inductive PlayR : ST → List TL → List EV → Option (ST × List TL) → Prop where
  | nil {s : ST} {t : List TL} : PlayR s t [] (some (s, t))
  | over {s : ST} {t : List TL} {e : EV} {l : List EV} : ¬ s.en = 0 → PlayR s t (e :: l) (some (s, t))
  | bad {s : ST} {t : List TL} {e : EV} {l : List EV} : s.en = 0 → EvR s e none → PlayR s t (e :: l) none
  | step {s : ST} {t : List TL} {e : EV} {l : List EV} {r : ST} {ts : List TL} {o : Option (ST × List TL)} : s.en = 0 → EvR s e (some (r, ts)) → PlayR r (t ++ ts) l o → PlayR s t (e :: l) o
theorem PlayR.uniq {s : ST} {t : List TL} {l : List EV} {o o' : Option (ST × List TL)} (h : PlayR s t l o) (h' : PlayR s t l o') : o = o' := by
  induction h generalizing o' with
  | nil => cases h' with
    | nil => rfl
  | over h0 => cases h' with
    | over _ => rfl
    | bad h1 _ => exact absurd h1 h0
    | step h1 _ _ => exact absurd h1 h0
  | bad h0 h1 => cases h' with
    | over h2 => exact absurd h0 h2
    | bad _ _ => rfl
    | step _ h3 _ => cases h1.uniq h3
  | step h0 h1 _ ih => cases h' with
    | over h2 => exact absurd h0 h2
    | bad _ h3 => cases h1.uniq h3
    | step _ h3 h4 =>
      have := h1.uniq h3
      injection this with this
      injection this with e1 e2
      subst e1 e2
      exact ih h4
def beginS : ST := ⟨[⟨0, 0, -1, 0, []⟩], [], 1, 0, 0, 0⟩
theorem begin_inv : Inv 0 beginS := by
  refine ⟨⟨by decide, by decide, by decide, by decide, ?_, ?_⟩, fun _ => ⟨⟨rfl, by decide, ?_⟩, ?_, ⟨[], _, rfl, rfl⟩, rfl⟩⟩
  · intro f hf
    simp [beginS] at hf
    subst hf
    exact ⟨Nat.le_refl _, .inl rfl⟩
  · intro p hp
    simp [beginS] at hp
  · intro p hp
    simp [beginS] at hp
  · intro i g h h1 h2
    have := (List.getElem?_eq_some_iff.1 h2).1
    simp [beginS] at this
theorem ev_len {s : ST} {fs : List FR} {f : FR} {e : EV} {r : ST} {l : List TL} (h : evV s fs f e = .fin r l) : l.length ≤ 1 := by
  revert h
  unfold evV recS
  repeat' split
  all_goals (intro e2; first | (injection e2 with _ e2; subst e2; simp; done) | (injection e2))
theorem EvR.len {k : Nat} {s r : ST} {e : EV} {l : List TL} (h : EvR s e (some (r, l))) (hi : Inv k s) (h0 : s.en = 0) : l.length ≤ 40 := by
  have hv := hi.2 h0
  cases h with
  | fin e1 e2 => have := ev_len e2; omega
  | @go fs f s1 r' t l' e1 e2 e3 =>
    obtain ⟨h1, h2, h3⟩ := (ev_keeps hi.1 hv e1).2 _ _ e2
    subst h3
    have h4 := e3.len h1 h2
    have h5 := h1.fr
    simp
    omega
section
variable (base P k : Nat) (s : ST) (tl : List TL) (v : EV) (A : Option Addr) (len cap : Nat) (w : World) (h : PL base P s tl w) (hi : Bd (k + 1) k s) (hlv : Lv s) (hk : k ≤ 50000) (hl : tl.length ≤ 800000)
include h hi hlv hk hl
theorem event_any : Calls Try.prog 41 #[.pointer (some ⟨P, 0, none⟩), evA v A len cap] w (EvP base P s tl v w) := by
  by_cases h1 : v.kind = 1
  · exact event_call base P k s tl v A len cap w h hi hlv hk hl h1
  by_cases h2 : v.kind = 2
  · exact event_return base P k s tl v A len cap w h hi hlv hk hl h2
  by_cases h3 : v.kind = 3
  · exact event_defer base P k s tl v A len cap w h hi hlv hk hl h3
  by_cases h4 : v.kind = 4
  · exact event_panic base P k s tl v A len cap w h hi hlv hk hl h4
  by_cases h5 : v.kind = 5
  · exact event_recover base P k s tl v A len cap w h hi hlv hk hl h5
  by_cases h6 : v.kind = 6
  · exact event_exit base P k s tl v A len cap w h hi hlv hk hl h6
  exact event_bad base P k s tl v A len cap w h hi hlv hk hl ⟨h1, h2, h3, h4, h5, h6⟩
end
/-- Events that come in, in memory. -/
def EvsR (w : World) (B : Nat) (A : Option Addr) (l : List EV) : Prop := ∀ (i : Nat) (v : EV), l[i]? = some v → ∃ b off Ai ni ci, A = some ⟨b, off, none⟩ ∧ b < B ∧
  w.cell? ⟨b, off + i * 6, none⟩ = some (.int .i64 v.kind) ∧ w.cell? ⟨b, off + i * 6 + 1, none⟩ = some (.int .i64 v.n) ∧ w.cell? ⟨b, off + i * 6 + 2, none⟩ = some (.int .i64 v.k) ∧ w.cell? ⟨b, off + i * 6 + 3, none⟩ = some (.int .i64 v.vn) ∧ w.cell? ⟨b, off + i * 6 + 4, none⟩ = some (.string v.s) ∧ w.cell? ⟨b, off + i * 6 + 5, none⟩ = some (.slice Ai ni ci)
theorem panicsBegin_new (w : World) : Calls Try.prog 23 #[] w fun e w' => ∃ g, e = .returned (.agg #[.slice (some ⟨g, 0, none⟩) 1 1, .slice none 0 0, .int .i64 1, .int .i64 0, .int .i64 0, .int .i64 0]) ∧ w'.heap[g]? = some (.cells #[.int .i64 0, .int .i64 0, .int .i64 (-1), .int .i64 0, .slice none 0 0] 93 (0, 0)) ∧ w.heap.size ≤ g ∧ Below w.heap.size w w' := by
  go_enter Try.func23, Try.ntmps23
  go_wp2_with fail
  go_returns
  exact ⟨w.heap.size + 1, rfl, heap_atN _ (by simp), by omega, sq (al _) (al _)⟩
/-- The player at the start. -/
theorem PL.start {w : World} {base P g : Nat} (hP : base ≤ P) (hg : base ≤ g) (hb : w.heap[P]? = some (.cells #[.slice (some ⟨g, 0, none⟩) 1 1, .slice none 0 0, .int .i64 1, .int .i64 0, .int .i64 0, .int .i64 0, .slice none 0 0] 89 (0, 0))) (hf : w.heap[g]? = some (.cells #[.int .i64 0, .int .i64 0, .int .i64 (-1), .int .i64 0, .slice none 0 0] 93 (0, 0))) : PL base P beginS [] w := by
  refine ⟨.slice (some ⟨g, 0, none⟩) 1 1, .slice none 0 0, .slice none 0 0, [.slice none 0 0], hP, hb, ⟨⟨rfl, .inr ⟨g, 1, _, rfl, hg, hf, Nat.le_refl _, by unfold maxLen; omega, rfl, rfl⟩⟩, rfl, fun i f d h1 h2 => ?_, fun i j d d' b h1 _ h3 => ?_⟩, World.ownsRow_nil _ _ _ _, World.ownsRow_nil _ _ _ _⟩
  · have := (List.getElem?_eq_some_iff.1 h1).1
    obtain rfl : i = 0 := by simp [beginS] at this; exact this
    simp [beginS] at h1
    simp at h2
    subst h1 h2
    exact World.ownsRow_nil _ _ _ _
  · have := (List.getElem?_eq_some_iff.1 h1).1
    obtain rfl : i = 0 := by simp at this; exact this
    simp at h1
    subst h1
    cases h3
set_option maxHeartbeats 8000000 in
theorem play_any (A : Option Addr) (n c : Nat) (l : List EV) (w : World) (h : EvsR w w.heap.size A l) (hn : n = l.length) (hn2 : n ≤ 2000) :
    Calls Try.prog 15 #[.slice A n c] w fun e w' => ((PlayR beginS [] l none ∧ e = .returned (.tuple #[stV (.slice none 0 0) (.slice none 0 0) ⟨[], [], 0, 0, 0, 0⟩, .slice none 0 0, .int .i64 13])) ∨ ∃ r ts fv pv tv, PlayR beginS [] l (some (r, ts)) ∧ e = .returned (.tuple #[stV fv pv r, tv, .int .i64 0]) ∧ STr w' w'.heap.size fv pv r ∧ TLr w' w'.heap.size tv ts) ∧ Below w.heap.size w w' := by
  have HE := Lib.hid h
  have HN := Lib.hid hn
  have h1 : ¬ (2000 : Int) < (n : Int) := by omega
  clear h hn
  go_enter Try.func15, Try.ntmps15
  go_wp2_with fail
  refine Calls.mono (panicsBegin_new _) ?_
  rintro e w2 ⟨g, rfl, hg, hgz, hb2⟩
  have HR2 := Lib.hid (show w2.heap[w.heap.size]? = some (.cells #[.slice none 0 0, .slice none 0 0, .int .i64 0, .int .i64 0, .int .i64 0, .int .i64 0] 56 (0, 0)) from (hb2.block _ (by simp)).trans (heap_atN _ rfl))
  have hb2' := hb2.size
  have HPL := Lib.hid (PL.start (w := w2.alloc (.cells #[.slice (some ⟨g, 0, none⟩) 1 1, .slice none 0 0, .int .i64 1, .int .i64 0, .int .i64 0, .int .i64 0, .slice none 0 0] 89 (0, 0))) (base := w.heap.size + 1) (P := w2.heap.size) (g := g) (by simp at hb2'; omega) (by simp at hgz; omega) (heap_atN _ rfl) ((al _).block g (Array.getElem?_eq_some_iff.1 hg).1 |>.trans hg))
  have HB2 := Lib.hid (show Below w.heap.size w w2 from (Below.refl w.heap.size w).alloc (Nat.le_refl _) _ |>.trans (hb2.mono (by simp)))
  have HZ2 := Lib.hid (show w.heap.size < w2.heap.size by simp at hb2'; omega)
  have HR3 := Lib.hid (show (w2.alloc (.cells #[.slice (some ⟨g, 0, none⟩) 1 1, .slice none 0 0, .int .i64 1, .int .i64 0, .int .i64 0, .int .i64 0, .slice none 0 0] 89 (0, 0))).heap[w.heap.size]? = _ from ((al _).block w.heap.size HZ2.out).trans HR2.out)
  have HB3 := Lib.hid (show Below w.heap.size w (w2.alloc (.cells #[.slice (some ⟨g, 0, none⟩) 1 1, .slice none 0 0, .int .i64 1, .int .i64 0, .int .i64 0, .int .i64 0, .slice none 0 0] 89 (0, 0))) from HB2.out.alloc (Nat.le_of_lt HZ2.out) _)
  clear hg hgz hb2 hb2' HR2 HB2
  go_wp2_with fail
  generalize w2.alloc (.cells #[.slice (some ⟨g, 0, none⟩) 1 1, .slice none 0 0, .int .i64 1, .int .i64 0, .int .i64 0, .int .i64 0, .slice none 0 0] 89 (0, 0)) = w3 at *
  generalize w2.heap.size = P at *
  go_loopw [18] (fun i wr => ∃ (k : Nat) (s : ST) (t : List TL), k ≤ n ∧ i = .int .i64 (k : Int) ∧ Hid (∀ o, PlayR s t (l.drop k) o → PlayR beginS [] l o) ∧ Hid (Inv k s) ∧ Hid (t.length ≤ 40 * k) ∧ Hid (PL (w.heap.size + 1) P s t wr) ∧ Hid (Below (w.heap.size + 1) w3 wr)) (fun i _ => n - (intOf i).toNat)
  case atStart => exact ⟨0, beginS, [], Nat.zero_le _, rfl, Lib.hid (fun o h => h), Lib.hid begin_inv, Lib.hid (by simp), HPL, Lib.hid (Below.refl _ _)⟩
  case round =>
    obtain ⟨k, s, t, hk, rfl, HPR, HIN, HTL, HPK, HBK⟩ := hrel
    obtain ⟨fv, pv, tv, ds, hpl⟩ := HPK.out
    have HPZ := Lib.hid (show P < wr.heap.size from (Array.getElem?_eq_some_iff.1 hpl.box).1)
    have HPC := Lib.hid hpl
    by_cases hlt : k < n
    · obtain ⟨v, hv⟩ : ∃ v, l[k]? = some v := ⟨_, List.getElem?_eq_getElem (by rw [← HN.out]; exact hlt)⟩
      obtain ⟨b, off, Ai, ni, ci, rfl, hbz, c0, c1, c2, c3, c4, c5⟩ := HE.out k v hv
      have HV := Lib.hid hv
      have hb3 := HB3.out
      have hb4 := HBK.out.mono (Nat.le_succ w.heap.size)
      have hb5 := hb3.trans hb4
      rw [← hb5.cell (p := ⟨b, off + k * 6, none⟩) hbz] at c0
      rw [← hb5.cell (p := ⟨b, off + k * 6 + 1, none⟩) hbz] at c1
      rw [← hb5.cell (p := ⟨b, off + k * 6 + 2, none⟩) hbz] at c2
      rw [← hb5.cell (p := ⟨b, off + k * 6 + 3, none⟩) hbz] at c3
      rw [← hb5.cell (p := ⟨b, off + k * 6 + 4, none⟩) hbz] at c4
      rw [← hb5.cell (p := ⟨b, off + k * 6 + 5, none⟩) hbz] at c5
      have hlti : (k : Int) < (n : Int) := by omega
      have hki : ¬ (k : Int) < 0 := by omega
      have d4 : wr.cell? ⟨P, 4, none⟩ = some (.int .i64 s.en) := by rw [Lib.cell_of_heap hpl.box]; rfl
      have hpz : P < wr.heap.size := HPZ.out
      have HBE := Lib.hid (Nat.le_trans (show b ≤ w.heap.size by omega) (hb5.size))
      clear hv hb3 hb4 hb5 hpl
      by_cases h0 : s.en = 0
      · have b1 : (s.en != 0) = false := by rw [h0]; rfl
        have H0 := Lib.hid h0
        clear h0
        go_wp2_with fail
        have HPA := Lib.hid (show PL (w.heap.size + 1) P s t (wr.alloc (.cells (evC v Ai ni ci) 51)) from ⟨_, _, _, _, HPC.out.below (al _)⟩)
        refine Calls.mono (event_any (w.heap.size + 1) P k s t v Ai ni ci _ HPA.out HIN.out.1 (HIN.out.2 H0.out) (by omega) (by have := HTL.out; omega)) ?_
        rintro e w5 ⟨⟨rfl, he⟩ | ⟨rfl, r, ts, he, hp5⟩, hb5⟩
        · have HEN := Lib.hid he
          have HB5 := Lib.hid ((HBK.out.alloc (by have := hb5.size; have := HZ2.out; omega) _).trans hb5)
          clear hb5 he
          have HR5 := Lib.hid ((HB5.out.block w.heap.size (by omega)).trans HR3.out)
          have y0 := Lib.frozen_of_heap HR5.out 0
          have y1 := Lib.frozen_of_heap HR5.out 1
          have y2 := Lib.frozen_of_heap HR5.out 2
          have y3 := Lib.frozen_of_heap HR5.out 3
          have y4 := Lib.frozen_of_heap HR5.out 4
          have y5 := Lib.frozen_of_heap HR5.out 5
          have r0 : w5.cell? ⟨w.heap.size, 0, none⟩ = some (.slice none 0 0) := by rw [Lib.cell_of_heap HR5.out]; rfl
          have r1 : w5.cell? ⟨w.heap.size, 1, none⟩ = some (.slice none 0 0) := by rw [Lib.cell_of_heap HR5.out]; rfl
          have r2 : w5.cell? ⟨w.heap.size, 2, none⟩ = some (.int .i64 0) := by rw [Lib.cell_of_heap HR5.out]; rfl
          have r3 : w5.cell? ⟨w.heap.size, 3, none⟩ = some (.int .i64 0) := by rw [Lib.cell_of_heap HR5.out]; rfl
          have r4 : w5.cell? ⟨w.heap.size, 4, none⟩ = some (.int .i64 0) := by rw [Lib.cell_of_heap HR5.out]; rfl
          have r5 : w5.cell? ⟨w.heap.size, 5, none⟩ = some (.int .i64 0) := by rw [Lib.cell_of_heap HR5.out]; rfl
          go_wp2_with fail
          obtain ⟨w7, hw7, b7, k7, l7, s7⟩ := six_at (w := w5) (g := w.heap.size) (.slice none 0 0) (.slice none 0 0) (.int .i64 0) (.int .i64 0) (.int .i64 0) (.int .i64 0) HR5.out
          rw [← hw7]
          have HB7 := Lib.hid (l7 w.heap.size (Nat.le_refl _) w (HB3.out.trans (HB5.out.mono (Nat.le_succ _))))
          clear r0 r1 r2 r3 r4 r5 y0 y1 y2 y3 y4 y5 hw7 k7 l7 s7
          have r0 : w7.cell? ⟨w.heap.size, 0, none⟩ = some (.slice none 0 0) := by rw [Lib.cell_of_heap b7]; rfl
          have r1 : w7.cell? ⟨w.heap.size, 1, none⟩ = some (.slice none 0 0) := by rw [Lib.cell_of_heap b7]; rfl
          have r2 : w7.cell? ⟨w.heap.size, 2, none⟩ = some (.int .i64 0) := by rw [Lib.cell_of_heap b7]; rfl
          have r3 : w7.cell? ⟨w.heap.size, 3, none⟩ = some (.int .i64 0) := by rw [Lib.cell_of_heap b7]; rfl
          have r4 : w7.cell? ⟨w.heap.size, 4, none⟩ = some (.int .i64 0) := by rw [Lib.cell_of_heap b7]; rfl
          have r5 : w7.cell? ⟨w.heap.size, 5, none⟩ = some (.int .i64 0) := by rw [Lib.cell_of_heap b7]; rfl
          clear b7
          go_wp2_with fail
          refine bodyPost_ret (v := .tuple #[stV (.slice none 0 0) (.slice none 0 0) ⟨[], [], 0, 0, 0, 0⟩, .slice none 0 0, .int .i64 13]) (by simp [results, Try.results15, go_sem, r0, r1, r2, r3, r4, r5]) rfl ?_
          refine ⟨.inl ⟨HPR.out none ?_, rfl⟩, HB7.out⟩
          rw [List.drop_eq_getElem_cons (by rw [← HN.out]; exact hlt), (List.getElem?_eq_some_iff.1 HV.out).2]
          exact .bad H0.out HEN.out
        · have HEN := Lib.hid he
          have HB5 := Lib.hid ((HBK.out.alloc (by have := hb5.size; have := HZ2.out; omega) _).trans hb5)
          have HP5 := Lib.hid hp5
          clear hb5 he hp5
          go_wp2_with fail
          go_roundw
          case rel =>
            refine ⟨k + 1, r, t ++ ts, by omega, by go_num, Lib.hid (fun o ho => HPR.out o ?_), Lib.hid (HEN.out.keeps HIN.out H0.out), Lib.hid (by have := HEN.out.len HIN.out H0.out; have := HTL.out; simp; omega), HP5, HB5⟩
            rw [List.drop_eq_getElem_cons (by rw [← HN.out]; exact hlt), (List.getElem?_eq_some_iff.1 HV.out).2]
            exact .step H0.out HEN.out ho
          case measure => simp [intOf]; omega
      · have b1 : (s.en != 0) = true := by simpa using h0
        have H0 := Lib.hid h0
        clear h0
        go_wp2_with fail
        have HPC5 := Lib.hid (HPC.out.below (al (.cells (evC v Ai ni ci) 51)))
        have HB5 := Lib.hid (HBK.out.alloc (by have := HPZ.out; have := HZ2.out; omega) (.cells (evC v Ai ni ci) 51))
        clear c0 c1 c2 c3 c4 c5 d4 HPC HBK HPK
        have HPO := Lib.hid (HPR.out (some (s, t)) (by
          rw [List.drop_eq_getElem_cons (by rw [← HN.out]; exact hlt)]
          exact .over H0.out))
        generalize wr.alloc (.cells (evC v Ai ni ci) 51) = w5 at *
        have HR5 := Lib.hid ((HB5.out.block w.heap.size (by omega)).trans HR3.out)
        have y0 := Lib.frozen_of_heap HR5.out 0
        have y1 := Lib.frozen_of_heap HR5.out 1
        have y2 := Lib.frozen_of_heap HR5.out 2
        have y3 := Lib.frozen_of_heap HR5.out 3
        have y4 := Lib.frozen_of_heap HR5.out 4
        have y5 := Lib.frozen_of_heap HR5.out 5
        have r0 : w5.cell? ⟨w.heap.size, 0, none⟩ = some (.slice none 0 0) := by rw [Lib.cell_of_heap HR5.out]; rfl
        have r1 : w5.cell? ⟨w.heap.size, 1, none⟩ = some (.slice none 0 0) := by rw [Lib.cell_of_heap HR5.out]; rfl
        have r2 : w5.cell? ⟨w.heap.size, 2, none⟩ = some (.int .i64 0) := by rw [Lib.cell_of_heap HR5.out]; rfl
        have r3 : w5.cell? ⟨w.heap.size, 3, none⟩ = some (.int .i64 0) := by rw [Lib.cell_of_heap HR5.out]; rfl
        have r4 : w5.cell? ⟨w.heap.size, 4, none⟩ = some (.int .i64 0) := by rw [Lib.cell_of_heap HR5.out]; rfl
        have r5 : w5.cell? ⟨w.heap.size, 5, none⟩ = some (.int .i64 0) := by rw [Lib.cell_of_heap HR5.out]; rfl
        obtain ⟨FA, fc, rfl, _, _, _⟩ := HPC5.out.fr.read
        obtain ⟨PA, pc, rfl, _, _, _⟩ := own_read7 HPC5.out.pn
        obtain ⟨TA, tc, rfl, _, _, _⟩ := own_read7 HPC5.out.tl
        obtain ⟨d0, d1, d2, d3, d4, d5, d6, _⟩ := HPC5.out.boxc
        have hne : w.heap.size ≠ P := by have := HPC5.out.hP; omega
        refine (show ?G → _ from fun hk => ?main) ?later
        case main =>
          go_region_law (fail)
          all_goals exact hk
        go_wp2_with fail
        obtain ⟨w7, hw7, b7, k7, l7, s7⟩ := six_at (w := w5) (g := w.heap.size) (.slice FA s.fr.length fc) (.slice PA s.pn.length pc) (.int .i64 (s.next : Int)) (.int .i64 (s.ser : Int)) (.int .i64 s.en) (.int .i64 s.st) HR5.out
        rw [← hw7]
        have HB7 := Lib.hid ((l7 w.heap.size (Nat.le_refl _) w (HB3.out.trans (HB5.out.mono (Nat.le_succ _)))).drew)
        have HF7 := Lib.hid (show FrO w7.drew (w.heap.size + 1) (.slice FA s.fr.length fc) s.fr ds from HPC5.out.fr.stay fun b cs t hb ht => k7 b (fun e => by
          rw [e, HR5.out] at hb
          injection hb with hb
          injection hb with _ hb
          subst hb
          rcases ht with ht | ht <;> exact absurd ht (by decide)))
        have HP7 := Lib.hid (own_stay (w' := w7.drew) HPC5.out.pn fun b hb => k7 b (fun e => by have := (HPC5.out.pn.lt b hb).1; omega))
        have HT7 := Lib.hid (own_stay (w' := w7.drew) HPC5.out.tl fun b hb => k7 b (fun e => by have := (HPC5.out.tl.lt b hb).1; omega))
        clear r0 r1 r2 r3 r4 r5 y0 y1 y2 y3 y4 y5 d0 d1 d2 d3 d4 d5 d6 hw7 k7 l7 s7
        have r0 : w7.cell? ⟨w.heap.size, 0, none⟩ = some (.slice FA s.fr.length fc) := by rw [Lib.cell_of_heap b7]; rfl
        have r1 : w7.cell? ⟨w.heap.size, 1, none⟩ = some (.slice PA s.pn.length pc) := by rw [Lib.cell_of_heap b7]; rfl
        have r2 : w7.cell? ⟨w.heap.size, 2, none⟩ = some (.int .i64 (s.next : Int)) := by rw [Lib.cell_of_heap b7]; rfl
        have r3 : w7.cell? ⟨w.heap.size, 3, none⟩ = some (.int .i64 (s.ser : Int)) := by rw [Lib.cell_of_heap b7]; rfl
        have r4 : w7.cell? ⟨w.heap.size, 4, none⟩ = some (.int .i64 s.en) := by rw [Lib.cell_of_heap b7]; rfl
        have r5 : w7.cell? ⟨w.heap.size, 5, none⟩ = some (.int .i64 s.st) := by rw [Lib.cell_of_heap b7]; rfl
        clear b7
        refine bodyPost_ret (v := .tuple #[stV (.slice FA s.fr.length fc) (.slice PA s.pn.length pc) s, .slice TA t.length tc, .int .i64 0]) (by simp [results, Try.results15, go_sem, r0, r1, r2, r3, r4, r5]) rfl ?_
        exact ⟨.inr ⟨s, t, _, _, _, HPO.out, rfl, STr.of HF7.out HP7.out, own_read7 HT7.out⟩, HB7.out⟩
    · have HPO := Lib.hid (HPR.out (some (s, t)) (by
        rw [List.drop_eq_nil_of_le (by rw [← HN.out]; omega)]
        exact .nil))
      have hlti : ¬ (k : Int) < (n : Int) := by omega
      have HPC5 := HPC
      have HB5 := HBK
      clear hpl HPC HBK HPK
      go_wp2_with fail
      have HR5 := Lib.hid ((HB5.out.block w.heap.size (by omega)).trans HR3.out)
      have y0 := Lib.frozen_of_heap HR5.out 0
      have y1 := Lib.frozen_of_heap HR5.out 1
      have y2 := Lib.frozen_of_heap HR5.out 2
      have y3 := Lib.frozen_of_heap HR5.out 3
      have y4 := Lib.frozen_of_heap HR5.out 4
      have y5 := Lib.frozen_of_heap HR5.out 5
      have r0 : wr.cell? ⟨w.heap.size, 0, none⟩ = some (.slice none 0 0) := by rw [Lib.cell_of_heap HR5.out]; rfl
      have r1 : wr.cell? ⟨w.heap.size, 1, none⟩ = some (.slice none 0 0) := by rw [Lib.cell_of_heap HR5.out]; rfl
      have r2 : wr.cell? ⟨w.heap.size, 2, none⟩ = some (.int .i64 0) := by rw [Lib.cell_of_heap HR5.out]; rfl
      have r3 : wr.cell? ⟨w.heap.size, 3, none⟩ = some (.int .i64 0) := by rw [Lib.cell_of_heap HR5.out]; rfl
      have r4 : wr.cell? ⟨w.heap.size, 4, none⟩ = some (.int .i64 0) := by rw [Lib.cell_of_heap HR5.out]; rfl
      have r5 : wr.cell? ⟨w.heap.size, 5, none⟩ = some (.int .i64 0) := by rw [Lib.cell_of_heap HR5.out]; rfl
      obtain ⟨FA, fc, rfl, _, _, _⟩ := HPC5.out.fr.read
      obtain ⟨PA, pc, rfl, _, _, _⟩ := own_read7 HPC5.out.pn
      obtain ⟨TA, tc, rfl, _, _, _⟩ := own_read7 HPC5.out.tl
      obtain ⟨d0, d1, d2, d3, d4, d5, d6, _⟩ := HPC5.out.boxc
      have hne : w.heap.size ≠ P := by have := HPC5.out.hP; omega
      refine (show ?G2 → _ from fun hk => ?main2) ?later2
      case main2 =>
        go_region_law (fail)
        all_goals exact hk
      go_wp2_with fail
      obtain ⟨w7, hw7, b7, k7, l7, s7⟩ := six_at (w := wr) (g := w.heap.size) (.slice FA s.fr.length fc) (.slice PA s.pn.length pc) (.int .i64 (s.next : Int)) (.int .i64 (s.ser : Int)) (.int .i64 s.en) (.int .i64 s.st) HR5.out
      rw [← hw7]
      have HB7 := Lib.hid ((l7 w.heap.size (Nat.le_refl _) w (HB3.out.trans (HB5.out.mono (Nat.le_succ _)))).drew)
      have HF7 := Lib.hid (show FrO w7.drew (w.heap.size + 1) (.slice FA s.fr.length fc) s.fr ds from HPC5.out.fr.stay fun b cs t hb ht => k7 b (fun e => by
        rw [e, HR5.out] at hb
        injection hb with hb
        injection hb with _ hb
        subst hb
        rcases ht with ht | ht <;> exact absurd ht (by decide)))
      have HP7 := Lib.hid (own_stay (w' := w7.drew) HPC5.out.pn fun b hb => k7 b (fun e => by have := (HPC5.out.pn.lt b hb).1; omega))
      have HT7 := Lib.hid (own_stay (w' := w7.drew) HPC5.out.tl fun b hb => k7 b (fun e => by have := (HPC5.out.tl.lt b hb).1; omega))
      clear r0 r1 r2 r3 r4 r5 y0 y1 y2 y3 y4 y5 d0 d1 d2 d3 d4 d5 d6 hw7 k7 l7 s7
      have r0 : w7.cell? ⟨w.heap.size, 0, none⟩ = some (.slice FA s.fr.length fc) := by rw [Lib.cell_of_heap b7]; rfl
      have r1 : w7.cell? ⟨w.heap.size, 1, none⟩ = some (.slice PA s.pn.length pc) := by rw [Lib.cell_of_heap b7]; rfl
      have r2 : w7.cell? ⟨w.heap.size, 2, none⟩ = some (.int .i64 (s.next : Int)) := by rw [Lib.cell_of_heap b7]; rfl
      have r3 : w7.cell? ⟨w.heap.size, 3, none⟩ = some (.int .i64 (s.ser : Int)) := by rw [Lib.cell_of_heap b7]; rfl
      have r4 : w7.cell? ⟨w.heap.size, 4, none⟩ = some (.int .i64 s.en) := by rw [Lib.cell_of_heap b7]; rfl
      have r5 : w7.cell? ⟨w.heap.size, 5, none⟩ = some (.int .i64 s.st) := by rw [Lib.cell_of_heap b7]; rfl
      clear b7
      refine bodyPost_ret (v := .tuple #[stV (.slice FA s.fr.length fc) (.slice PA s.pn.length pc) s, .slice TA t.length tc, .int .i64 0]) (by simp [results, Try.results15, go_sem, r0, r1, r2, r3, r4, r5]) rfl ?_
      exact ⟨.inr ⟨s, t, _, _, _, HPO.out, rfl, STr.of HF7.out HP7.out, own_read7 HT7.out⟩, HB7.out⟩
end Go.Proofs.Ytapofohbngkekaa
