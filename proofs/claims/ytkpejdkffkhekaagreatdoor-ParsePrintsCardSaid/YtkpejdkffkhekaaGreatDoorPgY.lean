/- Kids ahead of their parents: the program's test. Conditions: at most 4000 nodes. -/
import Derived.Test.YtkpejdkffkhekaaGreatDoorPgT
import Derived.Test.YtkpejdkffkhekaaGreatDoorPgB
import Derived.OneCell
set_option maxRecDepth 100000
namespace Go.Proofs.YtkpejdkffkhekaaGreatDoor
open Go.ChangeShapes Go.WideShapes Go.ChangeAt Go.RowKit
/-- One node's kids, with what is taken. -/
def upK (i : Nat) : List Int → List Bool → Option (List Bool)
  | [], B => some B
  | k :: ks, B => if k < 0 ∨ (i : Int) ≤ k ∨ B[k.toNat]? = some true then none else upK i ks (B.set k.toNat true)
def upT : Nat → List ND → List Bool → Bool
  | _, [], _ => true
  | i, n :: r, B => match upK i n.kids B with
    | none => false
    | some B' => upT (i + 1) r B'
/-- What is taken, by the places ahead of (i, p). -/
def TkP (T : List ND) (i p : Nat) (B : List Bool) : Prop := B.length = T.length ∧ ∀ k : Nat, k < T.length → (B[k]? = some true ↔ ∃ j q, Bef j q i p ∧ kidAt T j q = some (k : Int))
def GdP (T : List ND) (i p : Nat) : Prop := ∀ j q k, Bef j q i p → kidAt T j q = some k → (0 ≤ k ∧ k < (j : Int)) ∧ ∀ j' q', Bef j' q' j q → kidAt T j' q' ≠ some k
theorem bef_succ {j q i p : Nat} : Bef j q i (p + 1) ↔ Bef j q i p ∨ j = i ∧ q = p := by
  unfold Bef
  omega
theorem kidAt_get {T : List ND} {i p : Nat} {n : ND} (h : T[i]? = some n) : kidAt T i p = n.kids[p]? := by
  unfold kidAt
  rw [h]
  rfl
theorem upK_iff {T : List ND} {i : Nat} {n : ND} (hT : T[i]? = some n) : ∀ (m p : Nat) (B : List Bool), p + m = n.kids.length → TkP T i p B → GdP T i p →
    (∀ B', upK i (n.kids.drop p) B = some B' → TkP T i n.kids.length B' ∧ GdP T i n.kids.length) ∧ (upK i (n.kids.drop p) B = none → ¬ UpP T) := by
  intro m
  induction m with
  | zero =>
    intro p B hp hB hG
    rw [List.drop_of_length_le (by omega)]
    refine ⟨fun B' h => ?_, fun h => (by cases h)⟩
    injection h with h
    subst h
    rw [← show p = n.kids.length by omega]
    exact ⟨hB, hG⟩
  | succ m ih =>
    intro p B hp hB hG
    have hlt : p < n.kids.length := by omega
    have hi : i < T.length := (List.getElem?_eq_some_iff.1 hT).1
    rw [List.drop_eq_getElem_cons hlt]
    unfold upK
    have hk : kidAt T i p = some n.kids[p] := by rw [kidAt_get hT, List.getElem?_eq_getElem hlt]
    generalize n.kids[p] = k at *
    by_cases hbad : k < 0 ∨ (i : Int) ≤ k ∨ B[k.toNat]? = some true
    · rw [if_pos hbad]
      refine ⟨fun B' h => (by cases h), fun _ hU => ?_⟩
      obtain ⟨h1, h2⟩ := hU i p k hk
      rcases hbad with h | h | h
      · omega
      · omega
      · obtain ⟨j, q, hb, hj⟩ := (hB.2 k.toNat (by omega)).1 h
        exact h2 j q hb (by rw [hj, Int.toNat_of_nonneg h1.1])
    · rw [if_neg hbad]
      have h0 : 0 ≤ k ∧ k < (i : Int) := by omega
      have hkl : k.toNat < T.length := by omega
      have hnt : ¬ B[k.toNat]? = some true := fun h => hbad (.inr (.inr h))
      refine ih (p + 1) _ (by omega) ⟨by simpa using hB.1, fun k' hk' => ?_⟩ fun j q z hb hz => ?_
      · rw [List.getElem?_set]
        by_cases he : k.toNat = k'
        · rw [if_pos he, if_pos (by rw [hB.1]; omega)]
          exact ⟨fun _ => ⟨i, p, bef_succ.2 (.inr ⟨rfl, rfl⟩), by rw [hk, ← he, Int.toNat_of_nonneg h0.1]⟩, fun _ => rfl⟩
        · rw [if_neg he, hB.2 k' hk']
          constructor
          · rintro ⟨j, q, hb, hj⟩
            exact ⟨j, q, bef_succ.2 (.inl hb), hj⟩
          · rintro ⟨j, q, hb, hj⟩
            rcases bef_succ.1 hb with hb | ⟨rfl, rfl⟩
            · exact ⟨j, q, hb, hj⟩
            · rw [hk] at hj
              injection hj with hj
              omega
      · rcases bef_succ.1 hb with hb | ⟨rfl, rfl⟩
        · exact hG j q z hb hz
        · rw [hk] at hz
          injection hz with hz
          subst hz
          refine ⟨h0, fun j' q' hb' hj' => hnt ((hB.2 k.toNat hkl).2 ⟨j', q', hb', by rw [hj', Int.toNat_of_nonneg h0.1]⟩)⟩
theorem upT_iff' {T : List ND} : ∀ (m i : Nat) (B : List Bool), i + m = T.length → TkP T i 0 B → GdP T i 0 → (upT i (T.drop i) B = true ↔ UpP T) := by
  intro m
  induction m with
  | zero =>
    intro i B hi _ hG
    rw [List.drop_of_length_le (by omega)]
    refine ⟨fun _ j q k hk => ?_, fun _ => rfl⟩
    have hj : j < T.length := by
      unfold kidAt at hk
      cases h : T[j]? with
      | none => rw [h] at hk; cases hk
      | some n => exact (List.getElem?_eq_some_iff.1 h).1
    exact hG j q k (.inl (by omega)) hk
  | succ m ih =>
    intro i B hi hB hG
    have hlt : i < T.length := by omega
    rw [List.drop_eq_getElem_cons hlt]
    unfold upT
    have hT := List.getElem?_eq_getElem hlt
    generalize T[i] = n at *
    obtain ⟨h1, h2⟩ := upK_iff hT n.kids.length 0 B (by omega) hB hG
    rw [List.drop_zero] at h1 h2
    cases h : upK i n.kids B with
    | none => exact ⟨fun h => (by cases h), fun hu => absurd hu (h2 h)⟩
    | some B' =>
      obtain ⟨h3, h4⟩ := h1 B' h
      have hbef : ∀ j q, (Bef j q (i + 1) 0 ∧ (kidAt T j q).isSome = true) ↔ (Bef j q i n.kids.length ∧ (kidAt T j q).isSome = true) := by
        intro j q
        unfold Bef
        constructor
        · rintro ⟨h, hs⟩
          refine ⟨?_, hs⟩
          rcases h with h | ⟨_, h⟩
          · by_cases hj : j = i
            · subst hj
              rw [kidAt_get hT] at hs
              obtain ⟨x, hx⟩ := Option.isSome_iff_exists.1 hs
              exact .inr ⟨rfl, (List.getElem?_eq_some_iff.1 hx).1⟩
            · exact .inl (by omega)
          · omega
        · rintro ⟨h, hs⟩
          exact ⟨.inl (by omega), hs⟩
      refine ih (i + 1) B' (by omega) ⟨h3.1, fun k hk => ?_⟩ fun j q k hb hk => h4 j q k ((hbef j q).1 ⟨hb, by rw [hk]; rfl⟩).1 hk
      rw [h3.2 k hk]
      constructor
      · rintro ⟨j, q, hb, hj⟩
        exact ⟨j, q, ((hbef j q).2 ⟨hb, by rw [hj]; rfl⟩).1, hj⟩
      · rintro ⟨j, q, hb, hj⟩
        exact ⟨j, q, ((hbef j q).1 ⟨hb, by rw [hj]; rfl⟩).1, hj⟩
theorem upT_iff (T : List ND) : upT 0 T (List.replicate T.length false) = true ↔ UpP T := by
  have := upT_iff' (T := T) T.length 0 (List.replicate T.length false) (by omega) ⟨by simp, fun k hk => ?_⟩ (fun j q k hb => by unfold Bef at hb; omega)
  · simpa using this
  · rw [List.getElem?_replicate, if_pos hk]
    constructor
    · intro h; cases h
    · rintro ⟨j, q, hb, _⟩
      unfold Bef at hb
      omega
theorem upT_step {T : List ND} {i : Nat} {n : ND} (h : T[i]? = some n) (B : List Bool) : upT i (T.drop i) B = (match upK i n.kids B with
    | none => false
    | some B' => upT (i + 1) (T.drop (i + 1)) B') := by
  obtain ⟨hi, e⟩ := List.getElem?_eq_some_iff.1 h
  rw [List.drop_eq_getElem_cons hi, e]
  rfl
theorem upK_step {l : List Int} {i p : Nat} {k : Int} (h : l[p]? = some k) (B : List Bool) : upK i (l.drop p) B = (if k < 0 ∨ (i : Int) ≤ k ∨ B[k.toNat]? = some true then none else upK i (l.drop (p + 1)) (B.set k.toNat true)) := by
  obtain ⟨hi, e⟩ := List.getElem?_eq_some_iff.1 h
  rw [List.drop_eq_getElem_cons hi, e]
  rfl
/-- What is left of the test, amid a node's kids. -/
def upR (T : List ND) (i : Nat) (l : List Int) (B : List Bool) : Bool := match upK i l B with
  | none => false
  | some B' => upT (i + 1) (T.drop (i + 1)) B'

/-! ### rows of Booleans of the call's own -/
theorem info_bl : (Tryz.prog.info? 4).map (fun i => (i.zero, i.size, i.bytes)) = some (some (.bool false), 1, 1) := by kernel_rfl
theorem bl_made (n : Nat) : (madeCells #[.bool false] n).toList = (List.replicate n false).map Value.bool := by
  apply List.ext_getElem <;> simp [madeCells, Nat.mod_one]
theorem heap_setB {w : World} {g k : Nat} {a : Array Value} {t : TypeId} (h : w.heap[g]? = some (.cells a t (0, 0))) (v : Value) : (w.setCell ⟨g, k, none⟩ v).heap[g]? = some (.cells (a.setIfInBounds k v) t (0, 0)) := by
  simp [World.setCell, Array.getElem?_modify, h]
/-- One cell of a row of the call's own is written. -/
theorem rowSet {w : World} {base g n c k size : Nat} {e : TypeId} {xs : List Value} (h : w.ownsRow base e size (.slice (some ⟨g, 0, none⟩) n c) n xs) (v : Value) : (w.setCell ⟨g, k, none⟩ v).ownsRow base e size (.slice (some ⟨g, 0, none⟩) n c) n (xs.set k v) := by
  obtain ⟨hl, h⟩ := h
  rcases h with ⟨h, _⟩ | ⟨g', cap, cur, h1, h2, h3, h4, h5, h6, h7⟩
  · cases h
  · injection h1 with h1 _ h1'
    injection h1 with h1
    injection h1 with h1
    subst h1 h1'
    refine ⟨by simpa using hl, .inr ⟨g, c, _, rfl, h2, heap_setB h3 v, h4, h5, by simpa using h6, ?_⟩⟩
    rw [Array.toList_setIfInBounds, List.take_set, h7]
theorem rowCell {w : World} {base g n c k size : Nat} {e : TypeId} {xs : List Value} (h : w.ownsRow base e size (.slice (some ⟨g, 0, none⟩) n c) n xs) {u : Value} (hu : xs[k]? = some u) : w.cell? ⟨g, k, none⟩ = some u ∧ w.frozen? ⟨g, k, none⟩ = false ∧ base ≤ g ∧ g < w.heap.size := by
  obtain ⟨hl, h⟩ := h
  rcases h with ⟨h, _⟩ | ⟨g', cap, cur, h1, h2, h3, h4, h5, h6, h7⟩
  · cases h
  · injection h1 with h1 _ h1'
    injection h1 with h1
    injection h1 with h1
    subst h1 h1'
    refine ⟨?_, ?_, h2, (Array.getElem?_eq_some_iff.1 h3).1⟩
    · rw [Lib.cell_of_heap h3]
      show cur[k]? = some u
      rw [← Array.getElem?_toList]
      rw [← h7, List.getElem?_take] at hu
      split at hu
      · exact hu
      · cases hu
    · exact Lib.frozen_of_heap h3 k
theorem bl_set {w : World} {base g n : Nat} {S : List Bool} (h : w.ownsRow base 4 1 (.slice (some ⟨g, 0, none⟩) n n) n (S.map Value.bool)) (k : Nat) (b : Bool) : (w.setCell ⟨g, k, none⟩ (.bool b)).ownsRow base 4 1 (.slice (some ⟨g, 0, none⟩) n n) n ((S.set k b).map Value.bool) := by
  rw [List.map_set]
  exact rowSet h _
theorem bl_cell {w : World} {base g n : Nat} {S : List Bool} (h : w.ownsRow base 4 1 (.slice (some ⟨g, 0, none⟩) n n) n (S.map Value.bool)) {k : Nat} {b : Bool} (hs : S[k]? = some b) : w.cell? ⟨g, k, none⟩ = some (.bool b) ∧ w.frozen? ⟨g, k, none⟩ = false ∧ base ≤ g ∧ g < w.heap.size :=
  rowCell h (by rw [List.getElem?_map, hs]; rfl)
set_option maxHeartbeats 4000000 in
theorem upward_any (T : List ND) (A : Option Addr) (c : Nat) (w : World) (h : (Shp.slice ND.sh).rd w (· < w.heap.size) [.slice A T.length c] T) (hn : T.length ≤ 4000) (hf : ∀ x ∈ T, x.kids.length * 8 ≤ 140737488351232) :
    Calls Tryz.prog 21 #[.slice A T.length c] w fun e w' => e = .returned (.bool (upT 0 T (List.replicate T.length false))) ∧ Below w.heap.size w w' := by
  obtain ⟨ib, hbi, hbz0, hbz1, hbz2⟩ := info_parts info_bl
  obtain ⟨A', c', ess, e, hlc, hcm, _, hr, hall⟩ := h
  simp at e
  obtain ⟨rfl, rfl⟩ := e
  have HR := Lib.hid hr
  have HA := Lib.hid hall
  have HF := Lib.hid hf
  clear hr hall hf
  obtain ⟨N, hN⟩ : ∃ N, N = T.length := ⟨_, rfl⟩
  generalize hres : upT 0 T (List.replicate T.length false) = R
  have HRE := Lib.hid hres
  have hmade : (madeCells (Value.bool false).cells (N * 1)).toList = (List.replicate N false).map Value.bool := by
    rw [Nat.mul_one]
    exact bl_made N
  rw [← hN] at hlc hn ⊢
  have HN := Lib.hid hN
  clear hres hN
  go_enter Tryz.func21, Tryz.ntmps21
  go_wp2_with (at_make; refine wpList_make_full _ rfl _ _ 63 rfl w.heap.size 4 ib (.bool false) 1 Tryz.underlying63 hbi hbz0 hbz1 .i64 .i64 _ _ N rfl rfl rfl rfl (by rw [hbz2]; omega) (by unfold maxLen; omega) (Nat.le_refl _) ?_; intro w1 hown hgrow; rw [hmade] at hown; have HOS := Lib.hid hown)
  have HB1 := Lib.hid ((Below.refl w.heap.size w).grown hgrow (Nat.le_refl _) (fun q e => by cases e))
  clear hown hgrow hmade
  generalize hgs : w.heap.size = gs at *
  have HGS := Lib.hid hgs
  clear hgs
  go_loopw [13] (fun i wr => ∃ (k : Nat) (B : List Bool), i = .int .i64 (k : Int) ∧ k ≤ N ∧ Hid (B.length = N) ∧ Hid (upT k (T.drop k) B = R) ∧ Hid (wr.ownsRow gs 4 1 (.slice (some ⟨gs, 0, none⟩) N N) N (B.map Value.bool)) ∧ Hid (Below gs w wr)) (fun i _ => N - (intOf i).toNat)
  case atStart => exact ⟨0, _, rfl, Nat.zero_le _, Lib.hid (by simp), Lib.hid (by rw [HN.out]; exact HRE.out), HOS, HB1⟩
  case round =>
    obtain ⟨k, B, rfl, hk, HBL, HU, HOW, HB⟩ := hrel
    have hgsw : gs ≤ wr.heap.size := by have := HB.out.size; have := HGS.out; omega
    by_cases hlt : (k : Int) < (N : Int)
    · obtain ⟨b, off, cs, x, rfl, hb, hx, hrd, hcell⟩ := Shp.elem HR.out HA.out (show k < T.length by have := HN.out; omega) rfl
      obtain ⟨A4, c4, rfl, q0, q3, r4, l4, m4, n4, b4⟩ := ND.elim hrd
      have hww : ∀ o, wr.cell? ⟨b, o, none⟩ = w.cell? ⟨b, o, none⟩ := fun o => HB.out.cell (p := ⟨b, o, none⟩) (by have := HGS.out; show b < gs; omega)
      have hbr : b < wr.heap.size := by have := HGS.out; omega
      have e0 := (hww _).trans (hcell 0 _ rfl)
      have e1 := (hww _).trans (hcell 1 _ rfl)
      have e2 := (hww _).trans (hcell 2 _ rfl)
      have e3 := (hww _).trans (hcell 3 _ rfl)
      have e4 := (hww _).trans (hcell 4 _ rfl)
      have hsz : ND.sh.size = 5 := rfl
      rw [hsz] at e0 e1 e2 e3 e4
      simp only [Nat.add_zero] at e0
      have HR4 := Lib.hid r4
      have HX := Lib.hid hx
      have HST := Lib.hid (upT_step hx B)
      obtain ⟨nk, hnk⟩ : ∃ nk, nk = x.kids.length := ⟨_, rfl⟩
      rw [← hnk] at e4 HR4
      have HNK := Lib.hid hnk
      have hnkb : nk ≤ 17592186043904 := by have := HF.out x (List.mem_of_getElem? HX.out); omega
      have HUR := Lib.hid (show upR T k (x.kids.drop 0) B = R by rw [List.drop_zero, ← HU.out, HST.out]; rfl)
      clear hsz hcell hx hww hrd r4 q0 q3 b4 n4 l4 m4 hnk
      go_wp2_with fail
      have HB2 := Lib.hid (show Below gs w (wr.alloc (.cells #[.int .i64 x.kind, .string x.text, .string x.typ, .int .i64 x.num, .slice A4 nk c4] 31)) from HB.out.alloc hgsw _)
      have HO2 := Lib.hid (own_below HOW.out (al (w := wr) (.cells #[.int .i64 x.kind, .string x.text, .string x.typ, .int .i64 x.num, .slice A4 nk c4] 31)))
      generalize (wr.alloc (.cells #[.int .i64 x.kind, .string x.text, .string x.typ, .int .i64 x.num, .slice A4 nk c4] 31)) = w2 at *
      clear e0 e1 e2 e3 e4
      go_loopw [21] (fun i wq => ∃ (p : Nat) (B : List Bool), i = .int .i64 (p : Int) ∧ p ≤ nk ∧ Hid (B.length = N) ∧ Hid (upR T k (x.kids.drop p) B = R) ∧ Hid (wq.ownsRow gs 4 1 (.slice (some ⟨gs, 0, none⟩) N N) N (B.map Value.bool)) ∧ Hid (Below gs w wq)) (fun i _ => nk - (intOf i).toNat)
      case atStart => exact ⟨0, B, rfl, Nat.zero_le _, HBL, HUR, HO2, HB2⟩
      case round =>
        obtain ⟨p, B3, rfl, hp, HBL3, HU3, HO3, HB3⟩ := hrel
        by_cases hlp : (p : Int) < (nk : Int)
        · obtain ⟨z, hz⟩ : ∃ z, x.kids[p]? = some z := ⟨_, List.getElem?_eq_getElem (by have := HNK.out; omega)⟩
          have HSK := Lib.hid (upK_step (i := k) hz B3)
          obtain ⟨b5, o5, rfl, hb5, hcl5⟩ := HR4.out.2 (by omega)
          have z0 := hcl5 p (.int .i64 z) (by rw [List.getElem?_map, hz]; rfl)
          clear hcl5 hz
          have z1 := (HB3.out.cell (p := ⟨b5, o5 + p, none⟩) hb5).trans z0
          clear z0
          by_cases hneg : z < 0
          · have HRR := Lib.hid (show false = R by rw [← HU3.out]; unfold upR; rw [HSK.out, if_pos (.inl hneg)])
            go_wp2_with fail
            go_ret
            exact ⟨by rw [← HRR.out]; rfl, by rw [HGS.out]; exact HB3.out⟩
          · by_cases hge : (k : Int) ≤ z
            · have HRR := Lib.hid (show false = R by rw [← HU3.out]; unfold upR; rw [HSK.out, if_pos (.inr (.inl hge))])
              go_wp2_with fail
              go_ret
              exact ⟨by rw [← HRR.out]; rfl, by rw [HGS.out]; exact HB3.out⟩
            · obtain ⟨q, rfl⟩ : ∃ q : Nat, z = (q : Int) := ⟨z.toNat, by omega⟩
              have hqk : (q : Int) < (N : Int) := by omega
              obtain ⟨s, hs⟩ : ∃ s, B3[q]? = some s := ⟨_, List.getElem?_eq_getElem (by rw [HBL3.out]; omega)⟩
              obtain ⟨l0, l1, _, hgl⟩ := bl_cell HO3.out hs
              cases s with
              | true =>
                have HRR := Lib.hid (show false = R by rw [← HU3.out]; unfold upR; rw [HSK.out, if_pos (.inr (.inr hs))])
                clear hs
                go_wp2_with fail
                go_ret
                exact ⟨by rw [← HRR.out]; rfl, by rw [HGS.out]; exact HB3.out⟩
              | false =>
                have HU4 := Lib.hid (show upR T k (x.kids.drop (p + 1)) (B3.set q true) = R by
                  rw [← HU3.out]
                  unfold upR
                  rw [HSK.out, if_neg (by rw [Int.toNat_natCast, hs]; simp; omega), Int.toNat_natCast])
                have HO4 := Lib.hid (bl_set HO3.out q true)
                have HB4 := Lib.hid (HB3.out.setCell (p := ⟨gs, q, none⟩) (Nat.le_refl _) (.bool true))
                have HL4 := Lib.hid (show (B3.set q true).length = N by rw [List.length_set]; exact HBL3.out)
                clear hs
                go_wp2_with fail
                go_roundw
                case rel => exact ⟨p + 1, _, by simp, by omega, HL4, HU4, HO4, HB4⟩
                case measure => simp [intOf]; omega
        · have HUN := Lib.hid (show upT (k + 1) (T.drop (k + 1)) B3 = R by
            have := HU3.out
            rw [List.drop_of_length_le (by have := HNK.out; omega)] at this
            exact this)
          go_wp2_with fail
          go_roundw
          case rel => exact ⟨k + 1, B3, by simp, by omega, HBL3, HUN, HO3, HB3⟩
          case measure => simp [intOf]; omega
    · have hkN : k = T.length := by have := HN.out; omega
      have HRR := Lib.hid (show true = R by
        have := HU.out
        rw [hkN, List.drop_of_length_le (Nat.le_refl _)] at this
        exact this)
      clear hkN
      go_wp2_with fail
      go_ret
      exact ⟨by rw [← HRR.out]; rfl, by rw [HGS.out]; exact HB.out⟩
end Go.Proofs.YtkpejdkffkhekaaGreatDoor
