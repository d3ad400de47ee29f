/- Plain: the bits of calls that stand in order; an array of calls. Conditions: none. -/
import Derived.Test.YtkkehbfceabhmaaStarted
import Derived.Test.YtkkehbfceabhmaaOrdBits
import Derived.Deep.RegionHeld
set_option maxRecDepth 20000
namespace Go.Proofs.Ytkkehbfceabhmaa
open Go.ChangeShapes Go.WideShapes Go.ChangeAt Go.RowKit
def sg (l : List CC) (k : Nat) : Nat := (siteAt l k).toNat
theorem sg_lt {l : List CC} {k : Nat} (h : okAt l k) : sg l k < 8 := by have h1 := h.1; have h2 := h.2.1; unfold sg; omega
theorem sg_site {l : List CC} {k : Nat} (h : okAt l k) : siteAt l k = (sg l k : Int) := by have h1 := h.1; unfold sg; omega
theorem sg_next {l : List CC} {k : Nat} (h : okAt l (k + 1)) (h0 : okAt l k) : sg l k < sg l (k + 1) := by
  have h1 := h.2.2
  rcases h1 with h1 | h1
  · omega
  · rw [Nat.add_sub_cancel] at h1
    have := h0.1
    unfold sg
    omega
theorem sg_mono {l : List CC} {n : Nat} (h : ∀ j < n, okAt l j) : ∀ (j i : Nat), i < j → j < n → sg l i < sg l j
  | 0, i, hi, _ => by omega
  | j + 1, i, hi, hj => by
    have h1 := sg_next (h (j + 1) hj) (h j (by omega))
    by_cases e : i = j
    · rw [e]; exact h1
    · have := sg_mono h j i (by omega) (by omega)
      omega
def maskN (l : List CC) : Nat → Nat
  | 0 => 0
  | k + 1 => maskN l k + 2 ^ sg l k
theorem mask_lt {l : List CC} : ∀ (k : Nat), (∀ j < k, okAt l j) → ∀ s, (∀ j < k, sg l j < s) → maskN l k < 2 ^ s
  | 0, _, s, _ => Nat.two_pow_pos s
  | k + 1, h, s, hs => by
    have h1 := mask_lt k (fun j hj => h j (by omega)) (sg l k) (fun j hj => sg_mono h k j hj (by omega))
    have h2 := hs k (by omega)
    have h3 : 2 ^ (sg l k + 1) ≤ 2 ^ s := Nat.pow_le_pow_right (by omega) h2
    rw [Nat.pow_succ] at h3
    show maskN l k + 2 ^ sg l k < 2 ^ s
    omega
/-- The array of eight calls: those up to k lie at their sites. -/
def Kept (K : Nat) (l : List CC) (k : Nat) (w : World) : Prop :=
  K < w.heap.size ∧ (∀ i < 24, (∃ u, w.cell? ⟨K, i, none⟩ = some u) ∧ w.frozen? ⟨K, i, none⟩ = false) ∧
  ∀ j < k, ∃ x A c, l[j]? = some x ∧ w.cell? ⟨K, sg l j * 3, none⟩ = some (.int .i64 x.site) ∧ w.cell? ⟨K, sg l j * 3 + 1, none⟩ = some (.int .i64 x.fn) ∧ w.cell? ⟨K, sg l j * 3 + 2, none⟩ = some (.slice A x.args.length c) ∧
    CC.sh.rd w (fun b => K < b ∧ b < w.heap.size) [.int .i64 x.site, .int .i64 x.fn, .slice A x.args.length c] x
theorem Kept.below {K : Nat} {l : List CC} {k : Nat} {w w' : World} (h : Kept K l k w) (hb : Below w.heap.size w w') : Kept K l k w' := by
  obtain ⟨h1, h2, h3⟩ := h
  have hc : ∀ i, w'.cell? ⟨K, i, none⟩ = w.cell? ⟨K, i, none⟩ := fun i => hb.cell (p := ⟨K, i, none⟩) h1
  have hf : ∀ i, w'.frozen? ⟨K, i, none⟩ = w.frozen? ⟨K, i, none⟩ := fun i => hb.frozen (p := ⟨K, i, none⟩) h1
  refine ⟨Nat.lt_of_lt_of_le h1 hb.size, fun i hi => by rw [hc, hf]; exact h2 i hi, fun j hj => ?_⟩
  obtain ⟨x, A, c, q0, q1, q2, q3, q4⟩ := h3 j hj
  exact ⟨x, A, c, q0, (hc _).trans q1, (hc _).trans q2, (hc _).trans q3, CC.sh.more (CC.sh.keep q4 fun p hp => hb.cell hp.2) fun b hb' => ⟨hb'.1, Nat.lt_of_lt_of_le hb'.2 hb.size⟩⟩
theorem Kept.store {K : Nat} {l : List CC} {k s : Nat} {w : World} {x : CC} {A : Option Addr} {c : Nat} (h : Kept K l k w) (hx : l[k]? = some x) (hs : sg l k = s) (h8 : s < 8) (hlt : ∀ j < k, sg l j < s) (hrd : CC.sh.rd w (fun b => K < b ∧ b < w.heap.size) [.int .i64 x.site, .int .i64 x.fn, .slice A x.args.length c] x) :
    Kept K l (k + 1) (((w.setCell ⟨K, s * 3, none⟩ (.int .i64 x.site)).setCell ⟨K, s * 3 + 1, none⟩ (.int .i64 x.fn)).setCell ⟨K, s * 3 + 2, none⟩ (.slice A x.args.length c)) := by
  obtain ⟨h1, h2, h3⟩ := h
  obtain ⟨⟨u0, g0⟩, _⟩ := h2 (s * 3) (by omega)
  obtain ⟨⟨u1, g1⟩, _⟩ := h2 (s * 3 + 1) (by omega)
  obtain ⟨⟨u2, g2⟩, _⟩ := h2 (s * 3 + 2) (by omega)
  have hne : ∀ i j : Nat, i ≠ j → (⟨K, i, none⟩ : Addr) ≠ ⟨K, j, none⟩ := fun i j hij e => by injection e with _ e; exact hij e
  have hoth : ∀ i, i ≠ s * 3 → i ≠ s * 3 + 1 → i ≠ s * 3 + 2 → (((w.setCell ⟨K, s * 3, none⟩ (.int .i64 x.site)).setCell ⟨K, s * 3 + 1, none⟩ (.int .i64 x.fn)).setCell ⟨K, s * 3 + 2, none⟩ (.slice A x.args.length c)).cell? ⟨K, i, none⟩ = w.cell? ⟨K, i, none⟩ := fun i a0 a1 a2 => by
    rw [World.cell?_setCell_other _ _ _ _ (hne _ _ a2.symm), World.cell?_setCell_other _ _ _ _ (hne _ _ a1.symm), World.cell?_setCell_other _ _ _ _ (hne _ _ a0.symm)]
  have hfar : ∀ p : Addr, p.block ≠ K → (((w.setCell ⟨K, s * 3, none⟩ (.int .i64 x.site)).setCell ⟨K, s * 3 + 1, none⟩ (.int .i64 x.fn)).setCell ⟨K, s * 3 + 2, none⟩ (.slice A x.args.length c)).cell? p = w.cell? p := fun p hp => by
    rw [World.cell?_setCell_far _ _ _ _ (Ne.symm hp), World.cell?_setCell_far _ _ _ _ (Ne.symm hp), World.cell?_setCell_far _ _ _ _ (Ne.symm hp)]
  have c0 : (((w.setCell ⟨K, s * 3, none⟩ (.int .i64 x.site)).setCell ⟨K, s * 3 + 1, none⟩ (.int .i64 x.fn)).setCell ⟨K, s * 3 + 2, none⟩ (.slice A x.args.length c)).cell? ⟨K, s * 3, none⟩ = some (.int .i64 x.site) := by
    rw [World.cell?_setCell_other _ _ _ _ (hne _ _ (by omega)), World.cell?_setCell_other _ _ _ _ (hne _ _ (by omega))]
    exact World.cell?_setCell_same _ _ _ g0
  have c1 : (((w.setCell ⟨K, s * 3, none⟩ (.int .i64 x.site)).setCell ⟨K, s * 3 + 1, none⟩ (.int .i64 x.fn)).setCell ⟨K, s * 3 + 2, none⟩ (.slice A x.args.length c)).cell? ⟨K, s * 3 + 1, none⟩ = some (.int .i64 x.fn) := by
    rw [World.cell?_setCell_other _ _ _ _ (hne _ _ (by omega))]
    refine World.cell?_setCell_same (u := u1) _ _ _ ?_
    rw [World.cell?_setCell_other _ _ _ _ (hne _ _ (by omega))]
    exact g1
  have c2 : (((w.setCell ⟨K, s * 3, none⟩ (.int .i64 x.site)).setCell ⟨K, s * 3 + 1, none⟩ (.int .i64 x.fn)).setCell ⟨K, s * 3 + 2, none⟩ (.slice A x.args.length c)).cell? ⟨K, s * 3 + 2, none⟩ = some (.slice A x.args.length c) := by
    refine World.cell?_setCell_same (u := u2) _ _ _ ?_
    rw [World.cell?_setCell_other _ _ _ _ (hne _ _ (by omega)), World.cell?_setCell_other _ _ _ _ (hne _ _ (by omega))]
    exact g2
  have hmr : ∀ {y : CC} {cs : List Value}, CC.sh.rd w (fun b => K < b ∧ b < w.heap.size) cs y → CC.sh.rd (((w.setCell ⟨K, s * 3, none⟩ (.int .i64 x.site)).setCell ⟨K, s * 3 + 1, none⟩ (.int .i64 x.fn)).setCell ⟨K, s * 3 + 2, none⟩ (.slice A x.args.length c)) (fun b => K < b ∧ b < (((w.setCell ⟨K, s * 3, none⟩ (.int .i64 x.site)).setCell ⟨K, s * 3 + 1, none⟩ (.int .i64 x.fn)).setCell ⟨K, s * 3 + 2, none⟩ (.slice A x.args.length c)).heap.size) cs y := fun {y cs} hy =>
    CC.sh.more (CC.sh.keep hy fun p hp => hfar p (by have := hp.1; omega)) fun b hb => ⟨hb.1, by simpa using hb.2⟩
  refine ⟨by simpa using h1, fun i hi => ⟨?_, ?_⟩, fun j hj => ?_⟩
  · by_cases a0 : i = s * 3
    · subst a0; exact ⟨_, c0⟩
    · by_cases a1 : i = s * 3 + 1
      · subst a1; exact ⟨_, c1⟩
      · by_cases a2 : i = s * 3 + 2
        · subst a2; exact ⟨_, c2⟩
        · rw [hoth i a0 a1 a2]; exact (h2 i hi).1
  · rw [World.frozen?_setCell, World.frozen?_setCell, World.frozen?_setCell]
    exact (h2 i hi).2
  · by_cases e : j = k
    · subst e
      exact ⟨x, A, c, hx, by rw [hs]; exact c0, by rw [hs]; exact c1, by rw [hs]; exact c2, hmr hrd⟩
    · obtain ⟨y, B, d, q0, q1, q2, q3, q4⟩ := h3 j (by omega)
      have hj := hlt j (by omega)
      exact ⟨y, B, d, q0, by rw [hoth _ (by omega) (by omega) (by omega)]; exact q1, by rw [hoth _ (by omega) (by omega) (by omega)]; exact q2, by rw [hoth _ (by omega) (by omega) (by omega)]; exact q3, hmr q4⟩
end Go.Proofs.Ytkkehbfceabhmaa
