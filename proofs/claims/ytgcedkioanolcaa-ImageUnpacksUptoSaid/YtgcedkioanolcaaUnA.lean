/- A code out of its bytes, in plain Lean. Conditions: none. -/
import Derived.Test.YtgcedkioanolcaaTake
import Derived.Test.YtgcedkioanolcaaIpA
set_option maxRecDepth 20000
namespace Go.Proofs.Ytgcedkioanolcaa
open Go.ChangeShapes Go.WideShapes Go.ChangeAt Go.RowKit
def U8s (L : List Int) : Prop := ∀ z ∈ L, (Lit.int .u8 z).wf = true
/-- The number that bytes begin with, and what stands behind it. -/
def NumP (L : List Int) (o : Option (Int × List Int)) : Prop :=
  (∃ t, Good (by_ L) L.length t ∧ o = some (unzig (hval (by_ L) 0 (t + 1)), L.drop (t + 1))) ∨ ((∀ t, ¬ Good (by_ L) L.length t) ∧ o = none)
theorem NumP.uniq {L : List Int} {o p : Option (Int × List Int)} (h : NumP L o) (k : NumP L p) : o = p := by
  rcases h with ⟨t, h, rfl⟩ | ⟨h, rfl⟩ <;> rcases k with ⟨s, k, rfl⟩ | ⟨k, rfl⟩
  · obtain rfl := h.uniq k; rfl
  · exact absurd h (k t)
  · exact absurd k (h s)
  · rfl
instance (f : Nat → Nat) (n t : Nat) : Decidable (Good f n t) := by unfold Good; infer_instance
def goodAt (L : List Int) : Option Nat := (List.range 10).find? fun t => decide (Good (by_ L) L.length t)
def numP (L : List Int) : Option (Int × List Int) := (goodAt L).map fun t => (unzig (hval (by_ L) 0 (t + 1)), L.drop (t + 1))
theorem numP_is (L : List Int) : NumP L (numP L) := by
  unfold numP
  cases h : goodAt L with
  | some t =>
    have := List.find?_some h
    exact .inl ⟨t, of_decide_eq_true this, rfl⟩
  | none =>
    refine .inr ⟨fun t ht => ?_, rfl⟩
    have := List.find?_eq_none.1 h t (List.mem_range.2 ht.2.1)
    exact this (decide_eq_true ht)
theorem numP_some {L : List Int} {t : Nat} (h : Good (by_ L) L.length t) : numP L = some (unzig (hval (by_ L) 0 (t + 1)), L.drop (t + 1)) := (numP_is L).uniq (.inl ⟨t, h, rfl⟩)
theorem numP_none {L : List Int} (h : ∀ t, ¬ Good (by_ L) L.length t) : numP L = none := (numP_is L).uniq (.inr ⟨h, rfl⟩)
theorem unzig_bd {u : Nat} (h : u < 18446744073709551616) : -9223372036854775808 ≤ unzig u ∧ unzig u ≤ 9223372036854775807 := by unfold unzig; split <;> omega
/-- What is read is what the number's bytes are. -/
theorem numP_sound {L R : List Int} {n : Int} (hz : U8s L) (h : numP L = some (n, R)) : L = nbz (zig n) ++ R ∧ (-9223372036854775808 ≤ n ∧ n ≤ 9223372036854775807) ∧ U8s R := by
  rcases numP_is L with ⟨t, ht, e⟩ | ⟨_, e⟩
  · rw [h] at e
    injection e with e
    injection e with e1 e2
    subst e1 e2
    have hb := by_lt hz
    have hd := (nb_dig (by_ L) t 0 (fun j hj => by rw [Nat.zero_add]; exact ⟨ht.2.2.1 j hj, hb j⟩) (by rw [Nat.zero_add]; exact ht.2.2.2.1) (fun h0 => by rw [Nat.zero_add]; exact ht.2.2.2.2.2 h0)).1
    refine ⟨?_, unzig_bd ht.lt, fun z hz' => hz z (List.mem_of_mem_drop hz')⟩
    rw [zig_unzig, hd, ← take_dig hz (by have := ht.1; omega), List.take_append_drop]
  · rw [h] at e; cases e
theorem dig_congr {f g : Nat → Nat} {m : Nat} (h : ∀ j, j < m → f j = g j) : dig f 0 m = dig g 0 m := by
  unfold dig
  apply List.map_congr_left
  intro j hj
  rw [List.mem_range] at hj
  simp [h j hj]
theorem zig_inj {a b : Int} (h : zig a = zig b) : a = b := by
  have h1 : unzig (zig a) = unzig (zig b) := by rw [h]
  have key : ∀ x : Int, unzig (zig x) = x := fun x => by unfold zig unzig; split <;> split <;> omega
  rwa [key, key] at h1
theorem unzig_zig (x : Int) : unzig (zig x) = x := by unfold zig unzig; split <;> split <;> omega
/-- The digits of a number's bytes. -/
theorem hval_nbz : ∀ (U : Nat) (f : Nat → Nat) (i : Nat), (∀ j (hj : j < (nbz U).length), f (i + j) = ((nbz U)[j]).toNat) → hval f i (nbz U).length = U ∧ (∀ j, j + 1 < (nbz U).length → 128 ≤ f (i + j)) ∧ f (i + ((nbz U).length - 1)) < 128 := by
  refine nbz.induct (motive := fun U => ∀ (f : Nat → Nat) (i : Nat), (∀ j (hj : j < (nbz U).length), f (i + j) = ((nbz U)[j]).toNat) → hval f i (nbz U).length = U ∧ (∀ j, j + 1 < (nbz U).length → 128 ≤ f (i + j)) ∧ f (i + ((nbz U).length - 1)) < 128) (fun u h => ?_) (fun u h ih => ?_)
  · intro f i hf
    rw [nb_lt h] at hf ⊢
    have h0 := hf 0 (by simp)
    simp at h0
    refine ⟨?_, fun j hj => by simp at hj, by simp; omega⟩
    show hval f i (0 + 1) = u
    rw [hval]
    simp [hval]
    omega
  · intro f i hf
    rw [nb_ge h] at hf ⊢
    have h0 := hf 0 (by simp)
    simp at h0
    have hp := nb_pos (u / 128)
    obtain ⟨h1, h2, h3⟩ := ih f (i + 1) (fun j hj => by
      have := hf (j + 1) (by simp; omega)
      simp at this
      rw [← this]
      congr 1
      omega)
    refine ⟨?_, fun j hj => ?_, ?_⟩
    · rw [List.length_cons]
      show hval f i ((nbz (u / 128)).length + 1) = u
      rw [hval, h1]
      omega
    · rcases j with _ | j
      · simp; omega
      · have := h2 j (by simp at hj; omega)
        rw [show i + (j + 1) = i + 1 + j by omega]
        exact this
    · rw [List.length_cons]
      rw [show i + ((nbz (u / 128)).length + 1 - 1) = i + 1 + ((nbz (u / 128)).length - 1) by omega]
      exact h3
theorem numP_app (n : Int) (hn : -9223372036854775808 ≤ n ∧ n ≤ 9223372036854775807) (R : List Int) (hR : U8s R) : numP (nbz (zig n) ++ R) = some (n, R) := by
  have hU := zig_lt hn
  have h10 := nb_len10 hU
  have hp := nb_pos (zig n)
  obtain ⟨t, ht⟩ : ∃ t, (nbz (zig n)).length = t + 1 := ⟨(nbz (zig n)).length - 1, by omega⟩
  have hz : U8s (nbz (zig n) ++ R) := app_wf nb_wf hR
  have hf : ∀ j (hj : j < (nbz (zig n)).length), by_ (nbz (zig n) ++ R) (0 + j) = ((nbz (zig n))[j]).toNat := fun j hj => by
    unfold by_
    rw [Nat.zero_add, List.getD_eq_getElem?_getD, List.getElem?_append_left hj, List.getElem?_eq_getElem hj]
    rfl
  obtain ⟨h1, h2, h3⟩ := hval_nbz (zig n) (by_ (nbz (zig n) ++ R)) 0 hf
  rw [ht] at h1 h2 h3
  have hg : Good (by_ (nbz (zig n) ++ R)) (nbz (zig n) ++ R).length t := by
    refine (good_iff (by_lt hz) (by rw [List.length_append]; omega) (by omega) (fun j hj => by have := h2 j (by omega); rwa [Nat.zero_add] at this) (by rwa [Nat.zero_add, Nat.add_sub_cancel] at h3)).1 ?_
    rw [h1, Nat.mod_eq_of_lt hU, ← take_dig hz (by rw [List.length_append]; omega), ← ht, List.take_left]
  rw [numP_some hg, h1, unzig_zig, ← ht, List.drop_left]
end Go.Proofs.Ytgcedkioanolcaa
