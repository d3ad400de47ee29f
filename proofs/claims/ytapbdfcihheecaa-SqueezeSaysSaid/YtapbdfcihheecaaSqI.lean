/- The document's two tests in 'Round', and 'through'. Conditions: the list fits what comes in. -/
import Derived.Test.YtapbdfcihheecaaSqF
import Derived.Test.YtapbdfcihheecaaMapI
import Derived.Test.YtapbdfcihheecaaSqH
set_option maxRecDepth 100000
namespace Go.Proofs.Ytapbdfcihheecaa
open Go.ChangeShapes Go.WideShapes Go.ChangeAt Go.RowKit
theorem round1_any (gb g n k : Nat) (b : Bool) (w : World) (h0 : w.cell? ⟨gb, 0, none⟩ = some (.slice (some ⟨g, 0, none⟩) n n)) (hk : k < n) (h1 : w.cell? ⟨g, k, none⟩ = some (.bool b)) :
    Calls Try.prog 108 #[.int .i64 (k : Int), .pointer (some ⟨gb, 0, none⟩)] w fun e w' => e = .returned (.bool (!b)) ∧ Below w.heap.size w w' := by
  go_enter Try.func108, Try.ntmps108
  go_wp2_with fail
  go_ret
  exact ⟨rfl, Below.refl _ _⟩
theorem idle_cases (o a b c d e : Int) (k : Nat) :
    (o = 6 ∧ ((a = b ∧ idleI ⟨o, a, b, c, d, e⟩ k = true) ∨ ((a == b) = false ∧ idleI ⟨o, a, b, c, d, e⟩ k = false))) ∨
    ((o == 6) = false ∧ o = 26 ∧ ((a = (k : Int) + 1 ∧ idleI ⟨o, a, b, c, d, e⟩ k = true) ∨ ((a == (k : Int) + 1) = false ∧ idleI ⟨o, a, b, c, d, e⟩ k = false))) ∨
    ((o == 6) = false ∧ (o == 26) = false ∧ idleI ⟨o, a, b, c, d, e⟩ k = false) := by
  by_cases h1 : o = 6
  · left
    subst h1
    refine ⟨rfl, ?_⟩
    by_cases h2 : a = b
    · exact .inl ⟨h2, by simp [idleI, h2]⟩
    · exact .inr ⟨by simpa using h2, by simp [idleI, h2]⟩
  · right
    by_cases h2 : o = 26
    · left
      subst h2
      refine ⟨rfl, rfl, ?_⟩
      by_cases h3 : a = (k : Int) + 1
      · exact .inl ⟨h3, by simp [idleI, h3]⟩
      · exact .inr ⟨by simpa using h3, by simp [idleI, h3]⟩
    · exact .inr ⟨by simpa using h1, by simpa using h2, by simp [idleI, h1, h2]⟩
theorem round2_any (gb n c k : Nat) (A : Option Addr) (l : List II) (w : World) (h0 : w.cell? ⟨gb, 0, none⟩ = some (.slice A n c)) (hk : k < n) (h : InsR w w.heap.size A n l) (hn : n ≤ 1000000) :
    Calls Try.prog 109 #[.int .i64 (k : Int), .pointer (some ⟨gb, 0, none⟩)] w fun e w' => e = .returned (.bool (!stayB l k)) ∧ Below w.heap.size w w' := by
  have hgb : gb < w.heap.size := World.block_lt_of_cell? w _ h0
  obtain ⟨x, hx⟩ : ∃ x, l[k]? = some x := ⟨_, List.getElem?_eq_getElem (by rw [← h.1]; exact hk)⟩
  obtain ⟨b, off, rfl, hb, e0, e1, e2, e3, e4, e5⟩ := h.at hx
  have HST := Lib.hid (show stayB l k = (!idleI x k || k == n - 1) by unfold stayB; rw [hx, h.1])
  obtain ⟨xo, xa, xb, xc, xd, xe⟩ := x
  simp only at e0 e1 e2 e3 e4 e5
  generalize stayB l k = sb at *
  have hki : (k : Int) < (n : Int) := by omega
  have hcs := idle_cases xo xa xb xc xd xe k
  generalize idleI ⟨xo, xa, xb, xc, xd, xe⟩ k = ib at *
  clear h hx
  by_cases hkn : k = n - 1
  · have hlt : ¬ (k : Int) < (n : Int) - 1 := by omega
    have HKB := Lib.hid (show (k == n - 1) = true by simpa using hkn)
    clear hkn hcs
    go_enter Try.func109, Try.ntmps109
    go_wp2_with fail
    go_ret
    exact ⟨by rw [HST.out, HKB.out]; simp, al _⟩
  · have hlt : (k : Int) < (n : Int) - 1 := by omega
    have HKB := Lib.hid (show (k == n - 1) = false by simpa using hkn)
    clear hkn
    rcases hcs with ⟨rfl, ⟨rfl, rfl⟩ | ⟨h2, rfl⟩⟩ | ⟨h1, rfl, ⟨rfl, rfl⟩ | ⟨h2, rfl⟩⟩ | ⟨h1, h2, rfl⟩
    all_goals (
      go_enter Try.func109, Try.ntmps109
      go_wp2_with fail
      go_returns
      exact ⟨by rw [HST.out, HKB.out]; simp, al _⟩)
/-! ### through -/
/-- The places met. -/
def metL (l : List II) (p i : Nat) : List (Int × Value) := (List.range i).map fun j => ((itJ l p j : Int), Value.int .i64 1)
theorem met_snoc (l : List II) (p i : Nat) : metL l p (i + 1) = metL l p i ++ [((itJ l p i : Int), Value.int .i64 1)] := by
  unfold metL
  rw [List.range_succ, List.map_append]
  rfl
theorem getM_none_of : ∀ (m : List (Int × Value)) (k : Int), (∀ e ∈ m, e.1 ≠ k) → getM m k = none
  | [], _, _ => rfl
  | (a, x) :: r, k, h => by
    have h0 : a ≠ k := h (a, x) (List.mem_cons_self ..)
    rw [getM, if_neg h0]
    exact getM_none_of r k fun e he => h e (List.mem_cons_of_mem _ he)
theorem getM_one_of : ∀ (m : List (Int × Value)) (k : Int), (∀ e ∈ m, e.2 = Value.int .i64 1) → (∃ e ∈ m, e.1 = k) → getM m k = some (.int .i64 1)
  | [], _, _, h => by obtain ⟨_, h, _⟩ := h; cases h
  | (a, x) :: r, k, h1, h2 => by
    have hx : x = .int .i64 1 := h1 (a, x) (List.mem_cons_self ..)
    rw [getM]
    by_cases hak : a = k
    · rw [if_pos hak, hx]
    · rw [if_neg hak]
      refine getM_one_of r k (fun e he => h1 e (List.mem_cons_of_mem _ he)) ?_
      obtain ⟨e, he, h3⟩ := h2
      rcases List.mem_cons.1 he with rfl | he
      · exact absurd h3 hak
      · exact ⟨e, he, h3⟩
theorem met_no {l : List II} {p i : Nat} (h : ∀ j, j < i → itJ l p j ≠ itJ l p i) : getM (metL l p i) (itJ l p i : Int) = none := by
  refine getM_none_of _ _ fun e he => ?_
  obtain ⟨j, hj, rfl⟩ := List.mem_map.1 he
  have := h j (List.mem_range.1 hj)
  simp only
  omega
theorem met_yes {l : List II} {p i j : Nat} (hj : j < i) (h : itJ l p j = itJ l p i) : getM (metL l p i) (itJ l p i : Int) = some (.int .i64 1) := by
  refine getM_one_of _ _ (fun e he => ?_) ⟨_, List.mem_map.2 ⟨j, List.mem_range.2 hj, rfl⟩, by simp only; rw [h]⟩
  obtain ⟨j, _, rfl⟩ := List.mem_map.1 he
  rfl
def mapN (w : World) (b : Nat) : Nat := match w.heap[b]? with | some (.map es _) => es.size | _ => 0
theorem mapN_of {w : World} {b : Nat} {m : List (Int × Value)} (h : MapIs w b m) : mapN w b = m.length := by
  obtain ⟨es, c, hb, he⟩ := h
  unfold mapN
  rw [hb]
  have := congrArg List.length he
  simpa [projE, projL] using this
theorem through_any (A : Option Addr) (n c p : Nat) (l : List II) (w : World) (h : InsR w w.heap.size A n l) (hl : InB l) (hp : p < n) :
    Calls Try.prog 105 #[.slice A n c, .int .i64 (p : Int)] w fun e w' => e = .returned (.int .i64 ((endV l p : Nat) : Int)) ∧ Below w.heap.size w w' := by
  have HI := Lib.hid h
  have HL := Lib.hid hl
  have HN := Lib.hid h.1
  have HPL := Lib.hid (show p < l.length by rw [← h.1]; exact hp)
  clear h hl
  have hmm := @run_makeMap Try.prog
  go_enter Try.func105, Try.ntmps105
  go_wp2_with fail
  have HB0 := Lib.hid (al (w := w) (.map #[] 0))
  have HM0 := Lib.hid (MapIs.made w)
  generalize w.alloc (.map #[] 0) = w0 at *
  go_loopw [6] (fun at' wr => ∃ i : Nat, i ≤ n ∧ at' = .int .i64 ((itJ l p i : Nat) : Int) ∧ Hid (∀ j, j < i → isJ l (itJ l p j) = true) ∧ Hid (Diff l p i) ∧ Hid (MapIs wr w.heap.size (metL l p i)) ∧ Hid (Below w.heap.size w wr)) (fun _ wr => n + 1 - mapN wr w.heap.size)
  case atStart => exact ⟨0, Nat.zero_le _, rfl, Lib.hid (fun j hj => by omega), Lib.hid (fun a b _ hb => by omega), HM0, HB0⟩
  case round =>
    obtain ⟨i, hi, rfl, HJ, HD, HM, HBE⟩ := hrel
    have hlt : itJ l p i < l.length := it_lt HL.out HPL.out i HJ.out
    have hltn : itJ l p i < n := by rw [HN.out]; exact hlt
    have hlti : ((itJ l p i : Nat) : Int) < (n : Int) := by omega
    obtain ⟨x, hx⟩ : ∃ x, l[itJ l p i]? = some x := ⟨_, List.getElem?_eq_getElem hlt⟩
    obtain ⟨b, off, hA, hb, e0, e1, _, _, _, _⟩ := (HI.out.below HBE.out).at hx
    have hbr : b < wr.heap.size := Nat.lt_of_lt_of_le hb HBE.out.size
    have hisj : isJ l (itJ l p i) = (x.o == 26) := by unfold isJ; rw [hx]
    have hnx : itJ l p (i + 1) = x.a.toNat := by show nxJ l (itJ l p i) = _; unfold nxJ; rw [hx]
    subst hA
    by_cases hj : x.o = 26
    · have hj2 : isJ l (itJ l p i) = true := by rw [hisj]; simpa using hj
      obtain ⟨_, hx2, _, _, htg, _⟩ := isJ_some hj2
      rw [hx] at hx2
      injection hx2 with hx2
      subst hx2
      have hb2 := HL.out x (List.mem_of_getElem? hx) _ htg
      obtain ⟨q, hq⟩ : ∃ q : Nat, x.a = (q : Int) := ⟨x.a.toNat, by omega⟩
      rw [hq, Int.toNat_natCast] at hnx
      have HJ1 := Lib.hid (show ∀ j, j < i + 1 → isJ l (itJ l p j) = true from fun j hji => by
        by_cases h1 : j < i
        · exact HJ.out j h1
        · obtain rfl : j = i := by omega
          exact hj2)
      have hb0 : (x.o != 26) = false := by simpa using hj
      by_cases hmet : ∃ j, j < i ∧ itJ l p j = itJ l p i
      · obtain ⟨j, hji, hje⟩ := hmet
        have HRS := Lib.hid (endV_round hji HJ.out hje)
        have hlk : (Instr.lookup 170 (.map (some w.heap.size)) (.int .i64 ((itJ l p i : Nat) : Int)) false).run Try.prog wr = .ok (.int .i64 1) wr := HM.out.lookup1_ok Try.underlying170 Try.underlying3 (met_yes hji hje)
        obtain ⟨xo, xa, xb, xc, xd, xe⟩ := x
        simp only at *
        clear hji hje hx hisj hnx htg hb2 hj2 HJ HD hlt
        generalize itJ l p i = ai at *
        go_wp2_with fail
        go_ret
        exact ⟨by rw [HRS.out]; rfl, HBE.out⟩
      · have hno : ∀ j, j < i → itJ l p j ≠ itJ l p i := fun j h1 h2 => hmet ⟨j, h1, h2⟩
        have hlk : (Instr.lookup 170 (.map (some w.heap.size)) (.int .i64 ((itJ l p i : Nat) : Int)) false).run Try.prog wr = .ok (.int .i64 0) wr := HM.out.lookup1_no Try.underlying170 Try.underlying3 (z := .int .i64 0) (by kernel_rfl) (met_no hno)
        have HD1 := Lib.hid (show Diff l p (i + 1) from fun a b hab hb => by
          by_cases h1 : b < i
          · exact HD.out a b hab h1
          · obtain rfl : b = i := by omega
            exact hno a hab)
        have hin : i + 1 ≤ n := by rw [HN.out]; exact diff_le HL.out HPL.out (fun j h1 => HJ1.out j (by omega)) HD1.out
        have HSM := Lib.hid (show setM (metL l p i) ((itJ l p i : Nat) : Int) (.int .i64 1) = metL l p (i + 1) by rw [getM_setM_none (met_no hno), met_snoc])
        have HMN := Lib.hid (show mapN wr w.heap.size = i by rw [mapN_of HM.out]; simp [metL])
        have HNX := Lib.hid hnx
        obtain ⟨xo, xa, xb, xc, xd, xe⟩ := x
        simp only at *
        subst hq
        clear hmet hno hx hisj hnx htg hb2 hj2 HJ HD hlt
        generalize hai : itJ l p i = ai at *
        have HAI := Lib.hid hai
        clear hai
        go_wp2_with (at_mapUpdate; refine wpList_update_i rfl _ _ _ 170 rfl 3 3 .i64 Try.underlying170 Try.underlying3 w.heap.size _ rfl HM.out (ai : Int) (.int .i64 1) rfl rfl ?_; intro w5 hm5 hg5; have e15 : w5.cell? ⟨b, off + ai * 6 + 1, none⟩ = some (.int .i64 (q : Int)) := (World.cell?_of_block (hg5.block b hbr (fun e => by injection e with e; omega))).trans e1)
        have HM5 := Lib.hid (show MapIs w5 w.heap.size (metL l p (i + 1)) by rw [← HSM.out]; exact hm5)
        have HB5 := Lib.hid (HBE.out.grown hg5 HBE.out.size (fun q hq => by injection hq with hq; omega))
        clear hm5 hg5 e15
        go_roundw
        case rel => exact ⟨i + 1, hin, by rw [HNX.out], HJ1, HD1, HM5, HB5⟩
        case measure =>
          rw [HMN.out, mapN_of HM5.out]
          simp [metL]
          omega
    · have hj2 : isJ l (itJ l p i) = false := by rw [hisj]; simpa using hj
      have HRS := Lib.hid (endV_first HL.out HPL.out hj2 HJ.out)
      have hb0 : (x.o != 26) = true := by simpa using hj
      obtain ⟨xo, xa, xb, xc, xd, xe⟩ := x
      simp only at *
      clear hx hisj hnx hj hj2 HD HM HJ hlt
      generalize itJ l p i = ai at *
      go_wp2_with fail
      go_ret
      exact ⟨by rw [HRS.out]; rfl, HBE.out⟩
end Go.Proofs.Ytapbdfcihheecaa
