/- The document's Led: its closure, and rows of Booleans that are counted. Conditions: none. -/
import Derived.Test.YthogfcdgbodccaaHqC
import Derived.OwnWalk
set_option maxRecDepth 100000
namespace Go.Proofs.Ythogfcdgbodccaa
open Go.ChangeShapes Go.WideShapes Go.ChangeAt Go.RowKit
/-- How many are not seen. -/
def nfal (S : List Bool) : Nat := (S.filter fun b => !b).length
theorem nfal_rep (n : Nat) : nfal (List.replicate n false) = n := by simp [nfal]
theorem nfal_set : ∀ {S : List Bool} {q : Nat}, S[q]? = some false → nfal (S.set q true) + 1 = nfal S
  | [], q, h => by simp at h
  | b :: r, 0, h => by
    simp at h
    subst h
    simp [nfal]
  | b :: r, q + 1, h => by
    have := nfal_set (S := r) (q := q) (by simpa using h)
    unfold nfal at this ⊢
    rw [List.set_cons_succ, List.filter_cons, List.filter_cons]
    split
    · simp only [List.length_cons]; omega
    · exact this
/-- The same, off the memory. -/
def isFal : Value → Bool
  | .bool false => true
  | _ => false
def falAt (g : Nat) (w : World) : Nat := match w.heap[g]? with | some (.cells cs _ _) => (cs.toList.filter isFal).length | _ => 0
theorem fal_map (S : List Bool) : ((S.map Value.bool).filter isFal).length = nfal S := by
  unfold nfal
  induction S with
  | nil => rfl
  | cons b r ih =>
    cases b
    · rw [List.map_cons, List.filter_cons_of_pos (by rfl), List.filter_cons_of_pos (by rfl), List.length_cons, List.length_cons, ih]
    · rw [List.map_cons, List.filter_cons_of_neg (by simp [isFal]), List.filter_cons_of_neg (by simp), ih]
theorem falAt_own {w : World} {base g n : Nat} {e : TypeId} {S : List Bool} (h : w.ownsRow base e 1 (.slice (some ⟨g, 0, none⟩) n n) n (S.map Value.bool)) : falAt g w = nfal S := by
  rcases h.2 with ⟨h, _⟩ | ⟨g', cap, cur, h1, h2, h3, h4, h5, h6, h7⟩
  · cases h
  · injection h1 with h1 _ h1'
    injection h1 with h1
    injection h1 with h1
    subst h1 h1'
    unfold falAt
    rw [h3]
    simp only
    rw [List.take_of_length_le (by simp; omega)] at h7
    rw [h7, fal_map]
theorem info_bool : (Try.prog.info? 4).map (fun i => (i.zero, i.size, i.bytes)) = some (some (.bool false), 1, 1) := by kernel_rfl
theorem made_bools (n : Nat) : (madeCells #[.bool false] n).toList = (List.replicate n false).map Value.bool := by
  apply List.ext_getElem <;> simp [madeCells, Nat.mod_one]
def boolN : Value → Nat
  | .bool true => 1
  | _ => 0
theorem Rd.cel {w : World} {B n i : Nat} {A : Option Addr} {l : List (Int × Int)} {x : Int × Int} (h : Rd w B 2 A n (ceL l)) (hi : i < n) (hx : l[i]? = some x) : ∃ b off, A = some ⟨b, off, none⟩ ∧ b < B ∧ w.cell? ⟨b, off + i * 2, none⟩ = some (.int .i64 x.1) ∧ w.cell? ⟨b, off + i * 2 + 1, none⟩ = some (.int .i64 x.2) := by
  obtain ⟨b, off, e, hb, hc⟩ := h.2 (by omega)
  have h0 := hc (i * 2 + 0) (.int .i64 x.1) (by rw [ceL_get hx (by omega)]; rfl)
  have h1 := hc (i * 2 + 1) (.int .i64 x.2) (by rw [ceL_get hx (by omega)]; rfl)
  exact ⟨b, off, e, hb, h0, by rw [← Nat.add_assoc] at h1; exact h1⟩
set_option maxHeartbeats 4000000 in
theorem names_any (A : Option Addr) (n c : Nat) (l : List (Int × Int)) (a : Int) (w : World) (h : Rd w w.heap.size 2 A n (ceL l)) (hn : n = l.length) (hn2 : n ≤ 100000000000000) :
    Calls Try.prog 50 #[.slice A n c, .int .i64 a] w fun e w' => e = .returned (.bool (decide ((6, a) ∈ l))) ∧ Below w.heap.size w w' := by
  have HR := Lib.hid h
  have HN := Lib.hid hn
  clear h hn
  go_enter Try.func50, Try.ntmps50
  go_wp2_with fail
  go_loopw [9] (fun v wr => ∃ (i : Nat), v = .int .i64 (i : Int) ∧ Hid (i ≤ n) ∧ Hid ((6, a) ∉ l.take i) ∧ Hid (Below w.heap.size w wr)) (fun v _ => n - (intOf v).toNat)
  case atStart => exact ⟨0, rfl, Lib.hid (Nat.zero_le _), Lib.hid (by simp), Lib.hid (Below.refl _ _)⟩
  case round =>
    obtain ⟨i, rfl, HI, HNM, HB⟩ := hrel
    by_cases hlt : (i : Int) < (n : Int)
    · obtain ⟨x, hx⟩ : ∃ x, l[i]? = some x := ⟨_, List.getElem?_eq_getElem (by have := HN.out; omega)⟩
      obtain ⟨b, off, rfl, hb, c0, c1⟩ := (HR.out.below HB.out).cel (by omega) hx
      have HX := Lib.hid hx
      have HT := Lib.hid (show l.take (i + 1) = l.take i ++ [x] by rw [List.take_add_one, hx]; rfl)
      obtain ⟨xt, xk⟩ := x
      simp only at c0 c1
      have HB2 := Lib.hid (HB.out.alloc HB.out.size (.cells #[.int .i64 xt, .int .i64 xk] 36))
      clear hx
      by_cases h1 : xt = 6 ∧ xk = a
      · obtain ⟨rfl, rfl⟩ := h1
        have HM := Lib.hid (show decide ((6, xk) ∈ l) = true from decide_eq_true (List.mem_of_getElem? HX.out))
        go_wp2_with fail
        go_ret
        exact ⟨by rw [HM.out]; rfl, HB2.out⟩
      · have HN2 := Lib.hid (show (6, a) ∉ l.take (i + 1) from fun hm => by
          rw [HT.out] at hm
          rcases List.mem_append.1 hm with hm | hm
          · exact HNM.out hm
          · simp at hm
            exact h1 ⟨hm.1.symm, hm.2.symm⟩)
        have hst : (xt == 6) = false ∨ (xt == 6) = true ∧ (xk == a) = false := by
          by_cases hq : xt = 6
          · right
            exact ⟨by simpa using hq, by simpa using fun e => h1 ⟨hq, e⟩⟩
          · left; simpa using hq
        clear h1
        rcases hst with h2 | ⟨h2, h3⟩
        · go_wp2_with fail
          exact ⟨⟨i + 1, by simp, Lib.hid (by omega), HN2, HB2⟩, by simp [intOf]; omega⟩
        · go_wp2_with fail
          exact ⟨⟨i + 1, by simp, Lib.hid (by omega), HN2, HB2⟩, by simp [intOf]; omega⟩
    · have HM := Lib.hid (show decide ((6, a) ∈ l) = false from decide_eq_false (by
        have := HNM.out
        rwa [List.take_of_length_le (by have := HN.out; omega)] at this))
      go_wp2_with fail
      go_ret
      exact ⟨by rw [HM.out]; rfl, HB.out⟩
/-! ### The rounds, plain -/
def NamB (l : List (Int × Int)) (a : Nat) : Bool := decide ((6, (a : Int)) ∈ l)
theorem namB_iff {l : List (Int × Int)} {a : Nat} : NamB l a = true ↔ Nam 6 l a := by unfold NamB Nam; exact decide_eq_true_iff
/-- In a pass: nothing turned so far, and none of those before place j is hit; or something turned. -/
def PsI (bs : List BK) (roots : List (Int × Int)) (S0 S : List Bool) (b : Bool) (j : Nat) : Prop :=
  Rnd 6 bs roots S ∧ ((b = false ∧ S = S0 ∧ ∀ (i : Nat) (x : BK), i < j → S[i]? = some false → bs[i]? = some x → ¬ Hit 6 bs roots S x.at_) ∨ (b = true ∧ nfal S < nfal S0))
theorem PsI.skip {bs : List BK} {roots : List (Int × Int)} {S0 S : List Bool} {b : Bool} {j : Nat} (h : PsI bs roots S0 S b j) (hj : ∀ x, S[j]? = some false → bs[j]? = some x → ¬ Hit 6 bs roots S x.at_) : PsI bs roots S0 S b (j + 1) := by
  refine ⟨h.1, ?_⟩
  rcases h.2 with ⟨h1, h2, h3⟩ | h1
  · refine .inl ⟨h1, h2, fun i x hi hs hx => ?_⟩
    by_cases hij : i < j
    · exact h3 i x hij hs hx
    · obtain rfl : i = j := by omega
      exact hj x hs hx
  · exact .inr h1
theorem PsI.turn {bs : List BK} {roots : List (Int × Int)} {S0 S : List Bool} {b : Bool} {j lo room : Nat} {x : BK} (h : PsI bs roots S0 S b j) (hf : FitB lo bs room) (hx : bs[j]? = some x) (hs : S[j]? = some false) (hh : Hit 6 bs roots S x.at_) : PsI bs roots S0 (S.set j true) true (j + 1) := by
  refine ⟨h.1.turn hf hx hh, .inr ⟨rfl, ?_⟩⟩
  have := nfal_set hs
  rcases h.2 with ⟨_, h2, _⟩ | ⟨_, h2⟩
  · subst h2; omega
  · omega
/-- How far a place's hit has been asked. -/
def HitK (bs : List BK) (roots : List (Int × Int)) (S : List Bool) (a k : Nat) : Prop := Nam 6 roots a ∨ ∃ (i : Nat) (b : BK), i < k ∧ S[i]? = some true ∧ bs[i]? = some b ∧ Nam 6 b.cells a
theorem HitK.step {bs : List BK} {roots : List (Int × Int)} {S : List Bool} {a k : Nat} {b : BK} {s : Bool} (hs : S[k]? = some s) (hb : bs[k]? = some b) : HitK bs roots S a (k + 1) ↔ (HitK bs roots S a k ∨ (s = true ∧ Nam 6 b.cells a)) := by
  constructor
  · rintro (h | ⟨i, c, hi, h1, h2, h3⟩)
    · exact .inl (.inl h)
    · by_cases hik : i < k
      · exact .inl (.inr ⟨i, c, hik, h1, h2, h3⟩)
      · obtain rfl : i = k := by omega
        rw [hs] at h1
        rw [hb] at h2
        injection h1 with h1
        injection h2 with h2
        subst h1 h2
        exact .inr ⟨rfl, h3⟩
  · rintro ((h | ⟨i, c, hi, h1, h2, h3⟩) | ⟨rfl, h⟩)
    · exact .inl h
    · exact .inr ⟨i, c, by omega, h1, h2, h3⟩
    · exact .inr ⟨k, b, by omega, hs, hb, h⟩
theorem HitK.zero {bs : List BK} {roots : List (Int × Int)} {S : List Bool} {a : Nat} : HitK bs roots S a 0 ↔ Nam 6 roots a := by
  constructor
  · rintro (h | ⟨i, c, hi, _⟩)
    · exact h
    · omega
  · exact .inl
theorem HitK.all {bs : List BK} {roots : List (Int × Int)} {S : List Bool} {a : Nat} : HitK bs roots S a bs.length ↔ Hit 6 bs roots S a := by
  constructor
  · rintro (h | ⟨i, c, _, h1, h2, h3⟩)
    · exact .inl h
    · exact .inr ⟨i, c, h1, h2, h3⟩
  · rintro (h | ⟨i, c, h1, h2, h3⟩)
    · exact .inl h
    · exact .inr ⟨i, c, (List.getElem?_eq_some_iff.1 h2).1, h1, h2, h3⟩
end Go.Proofs.Ythogfcdgbodccaa
