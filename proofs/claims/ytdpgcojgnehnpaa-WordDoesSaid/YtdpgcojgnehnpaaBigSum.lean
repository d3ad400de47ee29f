/- Numbers of any size: 'sum'. Conditions: none. -/
import Derived.Test.YtdpgcojgnehnpaaBigDiv2
import Derived.Deep.RegionWith
set_option maxRecDepth 20000
namespace Go.Proofs.Ytdpgcojgnehnpaa
open Go.ChangeShapes Go.WideShapes Go.ChangeAt Go.RowKit
theorem WOk.undrewN {Q n : Nat} {w w' : World} {A : Option Addr} {c : Nat} (h : WOk Q (w.drewN n) A c w') : WOk Q w A c w' :=
  ⟨h.1, h.2.1, h.2.2.1, sq (dr (Below.refl _ _) n) h.2.2.2⟩
/-- What a sign and words tell. -/
def sgz (b : Bool) (N : Nat) : Int := if b then -(N : Int) else (N : Int)
/-- A sign and words in memory that is new, which tell Z. -/
def SPost (Z : Int) (w : World) (e : Ending) (w' : World) : Prop :=
  ∃ (b : Bool) (N : Nat) (A : Option Addr) (c : Nat), e = .returned (.tuple #[.bool b, .slice A (wds N).length c]) ∧ sgz b N = Z ∧ WOk N w A c w'
theorem wpost_ok {N : Nat} {w w' : World} {e : Ending} (h : WPost N w e w') : ∃ A c, e = .returned (.slice A (wds N).length c) ∧ WOk N w A c w' := by
  obtain ⟨A, c, h1, h2, h3, h4, h5⟩ := h
  exact ⟨A, c, h1, h2, h3, h4, h5⟩
theorem sum_any (a b : Bool) (A A2 : Option Addr) (n n2 c c2 X Y : Nat) (hn : n = (wds X).length) (hn2 : n2 = (wds Y).length) (hl : n ≤ 1000000) (hl2 : n2 ≤ 1000000) (w : World) (h : Rd w w.heap.size 1 A n (u32s (wds X))) (h2 : Rd w w.heap.size 1 A2 n2 (u32s (wds Y))) :
    Calls Try.prog 107 #[.bool a, .slice A n c, .bool b, .slice A2 n2 c2] w (SPost (sgz a X + sgz b Y) w) := by
  have HN := Lib.hid (And.intro hn hn2)
  have HR := Lib.hid (And.intro h h2)
  clear hn hn2 h h2
  by_cases hab : a = b
  · subst hab
    have hs : sgz a (X + Y) = sgz a X + sgz a Y := by unfold sgz; split <;> omega
    have HS := Lib.hid hs
    clear hs
    have hbb : (a == a) = true := by simp
    go_enter Try.func107, Try.ntmps107
    go_wp2_with fail
    refine (add_any A A2 n n2 c c2 (wds X) (wds Y) HN.out.1 HN.out.2 (wds_lt _) (wds_lt _) _ HR.out.1 HR.out.2 hl hl2).mono ?_
    intro e w1 h1
    rw [wv_wds, wv_wds] at h1
    obtain ⟨A3, c3, rfl, hok⟩ := wpost_ok h1
    have HO := Lib.hid hok
    clear h1 hok
    go_wp2_with fail
    go_ret2
    exact ⟨a, X + Y, A3, c3, rfl, HS.out, HO.out⟩
  · have hbb : (a == b) = false := by simp [hab]
    have hc := cmpN_range X Y
    by_cases hXY : Y ≤ X
    · have hc0 : 0 ≤ cmpN X Y := by unfold cmpN; rw [if_neg (by omega)]; split <;> omega
      have hs : sgz a (X - Y) = sgz a X + sgz b Y := by
        cases a <;> cases b <;> first | (exact absurd rfl hab) | (simp [sgz]; omega)
      have HS := Lib.hid hs
      have hle : n2 ≤ n := by
        rw [HN.out.1, HN.out.2]
        rcases Nat.lt_or_ge (wds X).length (wds Y).length with h | h
        · have := wds_len_lt h; omega
        · exact h
      have HC0 := Lib.hid hc0
      generalize hcc : cmpN X Y = C at *
      have HCC := Lib.hid hcc
      clear hs hab hcc
      have hc0' := HC0.out
      go_enter Try.func107, Try.ntmps107
      go_wp2_with fail
      refine (cmp_any A A2 n n2 c c2 X Y HN.out.1 HN.out.2 w _ _ HR.out.1 HR.out.2 hl hl2).mono ?_
      rintro e w1 ⟨rfl, m, rfl⟩
      rw [HCC.out]
      go_wp2_with fail
      refine (sub_any A A2 n n2 c c2 (wds X) (wds Y) HN.out.1 HN.out.2 hle (by rw [wv_wds, wv_wds]; exact hXY) (wds_lt _) (wds_lt _) _ (HR.out.1.drewN m) (HR.out.2.drewN m) hl).mono ?_
      intro e w1 h1
      rw [wv_wds, wv_wds] at h1
      obtain ⟨A3, c3, rfl, hok⟩ := wpost_ok h1
      have HO := Lib.hid hok
      clear h1 hok
      go_wp2_with fail
      go_ret2
      exact ⟨a, X - Y, A3, c3, rfl, HS.out, HO.out.undrewN⟩
    · have hc0 : cmpN X Y < 0 := by unfold cmpN; rw [if_pos (by omega)]; omega
      have hs : sgz b (Y - X) = sgz a X + sgz b Y := by
        cases a <;> cases b <;> first | (exact absurd rfl hab) | (simp [sgz]; omega)
      have HS := Lib.hid hs
      have hle : n ≤ n2 := by
        rw [HN.out.1, HN.out.2]
        rcases Nat.lt_or_ge (wds Y).length (wds X).length with h | h
        · have := wds_len_lt h; omega
        · exact h
      have HC0 := Lib.hid hc0
      generalize hcc : cmpN X Y = C at *
      have HCC := Lib.hid hcc
      clear hs hab hcc
      have hc0' : ¬ 0 ≤ C := by have := HC0.out; omega
      go_enter Try.func107, Try.ntmps107
      go_wp2_with fail
      refine (cmp_any A A2 n n2 c c2 X Y HN.out.1 HN.out.2 w _ _ HR.out.1 HR.out.2 hl hl2).mono ?_
      rintro e w1 ⟨rfl, m, rfl⟩
      rw [HCC.out]
      go_wp2_with fail
      refine (sub_any A2 A n2 n c2 c (wds Y) (wds X) HN.out.2 HN.out.1 hle (by rw [wv_wds, wv_wds]; omega) (wds_lt _) (wds_lt _) _ (HR.out.2.drewN m) (HR.out.1.drewN m) hl2).mono ?_
      intro e w1 h1
      rw [wv_wds, wv_wds] at h1
      obtain ⟨A3, c3, rfl, hok⟩ := wpost_ok h1
      have HO := Lib.hid hok
      clear h1 hok
      go_wp2_with fail
      go_ret2
      exact ⟨b, Y - X, A3, c3, rfl, HS.out, HO.out.undrewN⟩
theorem sgz_of (z : Int) : sgz (decide (z < 0)) z.natAbs = z := by
  unfold sgz
  by_cases h : z < 0
  · simp [h]; omega
  · simp [h]; omega
theorem sgz_not (z : Int) : sgz (!decide (z < 0)) z.natAbs = -z := by
  unfold sgz
  by_cases h : z < 0
  · simp [h]; omega
  · simp [h]; omega
/-- 'give' of a sign and words. -/
theorem give_ok (g : Nat) (neg : Bool) (A : Option Addr) (N c : Nat) (Z : Int) (x y : Value) (w0 w : World) (hz : sgz neg N = Z) (h0 : w.cell? ⟨g, 0, none⟩ = some x) (h1 : w.cell? ⟨g, 1, none⟩ = some y) (f0 : w.frozen? ⟨g, 0, none⟩ = false) (f1 : w.frozen? ⟨g, 1, none⟩ = false) (hg : g < w0.heap.size) (hok : WOk N w0 A c w) :
    Calls Try.prog 106 #[.pointer (some ⟨g, 0, none⟩), .bool neg, .slice A (wds N).length c] w fun e w' => e = .returned (.pointer (some ⟨g, 0, none⟩)) ∧ Big w' w'.heap.size g Z ∧ w0.grownBy w' (some g) := by
  obtain ⟨a1, a2, a3, a4⟩ := hok
  refine (give_big g neg A N c x y w h0 h1 f0 f1 a1 (fun b off e => by have := a3 b off e; omega) a2).mono ?_
  rintro e w' ⟨rfl, hB, hgb⟩
  refine ⟨rfl, ?_, gb_trans (gb_below _ a4) hgb⟩
  rw [← hz]
  exact hB
theorem gb_cell {w w' : World} {g h o : Nat} {v : Value} (hg : w.grownBy w' (some g)) (hne : h ≠ g) (hc : w.cell? ⟨h, o, none⟩ = some v) : w'.cell? ⟨h, o, none⟩ = some v :=
  (World.cell?_of_block (a := ⟨h, o, none⟩) (hg.block h (World.block_lt_of_cell? w _ hc) (by intro e; injection e with e; exact hne e))).trans hc
/-- The cells of one Int. -/
def C2 (g : Nat) (a b : Value) (w : World) : Prop := w.cell? ⟨g, 0, none⟩ = some a ∧ w.cell? ⟨g, 1, none⟩ = some b
theorem C2.below {g : Nat} {a b : Value} {w w' : World} (h : C2 g a b w) (hb : Below w.heap.size w w') : C2 g a b w' :=
  ⟨(hb.cell (p := ⟨g, 0, none⟩) (World.block_lt_of_cell? w _ h.1)).trans h.1, (hb.cell (p := ⟨g, 1, none⟩) (World.block_lt_of_cell? w ⟨g, 0, none⟩ h.1)).trans h.2⟩
theorem C2.grown {g q : Nat} {a b : Value} {w w' : World} (h : C2 g a b w) (hg : w.grownBy w' (some q)) (hne : g ≠ q) : C2 g a b w' := ⟨gb_cell hg hne h.1, gb_cell hg hne h.2⟩
/-- An Int that may be written. -/
def Wr (w : World) (g : Nat) : Prop := ∃ x y, w.cell? ⟨g, 0, none⟩ = some x ∧ w.cell? ⟨g, 1, none⟩ = some y ∧ w.frozen? ⟨g, 0, none⟩ = false ∧ w.frozen? ⟨g, 1, none⟩ = false
theorem Wr.lt {w : World} {g : Nat} (h : Wr w g) : g < w.heap.size := by
  obtain ⟨x, y, h0, _⟩ := h
  exact World.block_lt_of_cell? w _ h0
theorem Wr.below {w w' : World} {g : Nat} (h : Wr w g) (hb : Below w.heap.size w w') : Wr w' g := by
  have hl := h.lt
  obtain ⟨x, y, h0, h1, f0, f1⟩ := h
  exact ⟨x, y, ((kept hb).1 g 0 hl).trans h0, ((kept hb).1 g 1 hl).trans h1, ((kept hb).2 g 0 hl).trans f0, ((kept hb).2 g 1 hl).trans f1⟩
theorem Big.wr {w : World} {B g : Nat} {z : Int} (h : Big w B g z) : Wr w g := by
  obtain ⟨A, c, h0, h1, _, _, _, f0, f1, _⟩ := h
  exact ⟨_, _, h0, h1, f0, f1⟩
theorem Wr.grown {w w' : World} {g q : Nat} (h : Wr w g) (hg : w.grownBy w' (some q)) (hne : g ≠ q) : Wr w' g := by
  have hl := h.lt
  obtain ⟨x, y, h0, h1, f0, f1⟩ := h
  have hk := hg.block g hl (by intro e; injection e with e; exact hne e)
  exact ⟨x, y, (World.cell?_of_block (a := ⟨g, 0, none⟩) hk).trans h0, (World.cell?_of_block (a := ⟨g, 1, none⟩) hk).trans h1, (World.frozen?_of_block (a := ⟨g, 0, none⟩) hk).trans f0, (World.frozen?_of_block (a := ⟨g, 1, none⟩) hk).trans f1⟩
theorem give_wr (g : Nat) (neg : Bool) (A : Option Addr) (N c : Nat) (Z : Int) (w0 w : World) (hz : sgz neg N = Z) (hw : Wr w g) (hg : g < w0.heap.size) (hok : WOk N w0 A c w) :
    Calls Try.prog 106 #[.pointer (some ⟨g, 0, none⟩), .bool neg, .slice A (wds N).length c] w fun e w' => e = .returned (.pointer (some ⟨g, 0, none⟩)) ∧ Big w' w'.heap.size g Z ∧ w0.grownBy w' (some g) ∧ w.grownBy w' (some g) := by
  obtain ⟨x, y, h0, h1, f0, f1⟩ := hw
  obtain ⟨a1, a2, a3, a4⟩ := hok
  refine (give_big g neg A N c x y w h0 h1 f0 f1 a1 (fun b off e => by have := a3 b off e; omega) a2).mono ?_
  rintro e w' ⟨rfl, hB, hgb⟩
  refine ⟨rfl, ?_, gb_trans (gb_below _ a4) hgb, hgb⟩
  rw [← hz]
  exact hB
end Go.Proofs.Ytdpgcojgnehnpaa
