/- 'types.parts': the parameters and the result of a function's type. Conditions: none. -/
import Derived.Test.YtmbljapjecclaabTyFunE
import Derived.Test.YtmbljapjecclaabTyValid
import Derived.RegionTactic
import Derived.Deep.RegionLaw
import Derived.Deep.Onto
set_option maxRecDepth 20000
namespace Go.Proofs.Ytmbljapjecclaab
open Go.ChangeShapes Go.WideShapes Go.ChangeAt Go.RowKit
/-- The pieces of a text that is a function's type. -/
def ptO (s : ByteArray) : Option (List ByteArray) := if s.size ≤ 100 then (match fnP s.size s 0 with | some (l, p) => if p = s.size then some l else none | none => none) else none
theorem ptO_long {s : ByteArray} (h : 100 < s.size) : ptO s = none := by unfold ptO; rw [if_neg (by omega)]
theorem ptO_none {s : ByteArray} (h : fnP s.size s 0 = none) : ptO s = none := by
  unfold ptO
  split
  · rw [h]
  · rfl
theorem ptO_ne {s : ByteArray} {l : List ByteArray} {p : Nat} (h : fnP s.size s 0 = some (l, p)) (hp : p ≠ s.size) : ptO s = none := by
  unfold ptO
  split
  · rw [h]; simp only; rw [if_neg hp]
  · rfl
theorem ptO_yes {s : ByteArray} {l : List ByteArray} (hl : s.size ≤ 100) (h : fnP s.size s 0 = some (l, s.size)) : ptO s = some l := by
  unfold ptO
  rw [if_pos hl, h]
  simp
/-- What 'parts' leaves. -/
def PartsP (o : Option (List ByteArray)) (w : World) (e : Ending) (w' : World) : Prop :=
  (∃ l A c, o = some l ∧ e = .returned (.tuple #[.slice A l.length c, .int .i64 0]) ∧ w'.ownsRow w.heap.size 9 1 (.slice A l.length c) l.length (l.map Value.string) ∧ Below w.heap.size w w') ∨ (o = none ∧ e = .returned (.tuple #[.slice none 0 0, .int .i64 9]) ∧ Below w.heap.size w w')
theorem PartsP.no {o : Option (List ByteArray)} {w w' : World} (h : o = none) (hb : Below w.heap.size w w') : PartsP o w (.returned (.tuple #[.slice none 0 0, .int .i64 9])) w' := .inr ⟨h, rfl, hb⟩
theorem below_ch {w W w' : World} {base g bl : Nat} (hb : Below w.heap.size w W) (hc : Ch base g bl W w') (h0 : w.heap.size ≤ base) (h1 : w.heap.size ≤ g) (h2 : w.heap.size ≤ bl) : Below w.heap.size w w' :=
  hb.trans ⟨hc.os, hc.tape, hc.output, hc.size, fun k hk => hc.block k (by omega) (by omega) (by omega)⟩
/-- Three new blocks. -/
theorem three (w : World) (a b c : Obj) : (((w.alloc a).alloc b).alloc c).heap[w.heap.size]? = some a ∧ (((w.alloc a).alloc b).alloc c).heap[w.heap.size + 1]? = some b ∧ (((w.alloc a).alloc b).alloc c).heap[w.heap.size + 1 + 1]? = some c := by
  show (((w.heap.push a).push b).push c)[w.heap.size]? = some a ∧ (((w.heap.push a).push b).push c)[w.heap.size + 1]? = some b ∧ (((w.heap.push a).push b).push c)[w.heap.size + 1 + 1]? = some c
  refine ⟨?_, ?_, ?_⟩
  · rw [Array.getElem?_push, if_neg (by simp; omega), Array.getElem?_push, if_neg (by simp), Array.getElem?_push, if_pos rfl]
  · rw [Array.getElem?_push, if_neg (by simp), Array.getElem?_push, if_pos (by simp)]
  · rw [Array.getElem?_push, if_pos (by simp)]
theorem row_form {w : World} {base : Nat} {e : TypeId} {size : Nat} {v : Value} {n : Nat} {xs : List Value} (h : w.ownsRow base e size v n xs) : ∃ A c, v = .slice A n c := by
  obtain ⟨h1, h2⟩ | ⟨g, c, _, h1, _⟩ := h.2
  · exact ⟨none, 0, by rw [h1, h2]⟩
  · exact ⟨_, c, h1⟩
set_option maxHeartbeats 1000000 in
theorem parts_any (s : ByteArray) (w : World) (hs : s.size ≤ 140737488351232) : Calls Try.prog 56 #[.string s] w (PartsP (ptO s) w) := by
  by_cases hl : 100 < s.size
  · have HF := Lib.hid (ptO_long hl)
    have hd : decide ((100 : Int) < (s.size : Int)) = true := decide_eq_true (by omega)
    go_enter Try.func56, Try.ntmps56
    go_wp2_with fail
    go_quiet (fail)
    go_wp2_with fail
    go_returns
    exact PartsP.no HF.out (dr (al2 (al2 (al _) _) _) _)
  · have hd : decide ((100 : Int) < (s.size : Int)) = false := decide_eq_false (by omega)
    go_enter Try.func56, Try.ntmps56
    go_wp2_with fail
    generalize hW : ((w.alloc (Obj.cells #[Value.string s] 9)).alloc (Obj.cells #[Value.slice none 0 0] 23)).alloc (Obj.cells #[Value.string s, Value.int IntKind.i64 0] 92) = W
    have hWb : Below w.heap.size w W := by rw [← hW]; exact al2 (al2 (al _) _) _
    have hWs : W.heap.size = w.heap.size + 1 + 1 + 1 := by rw [← hW]; simp
    obtain ⟨h3a, h3b, h3c⟩ := three w (Obj.cells #[Value.string s] 9) (Obj.cells #[Value.slice none 0 0] 23) (Obj.cells #[Value.string s, Value.int IntKind.i64 0] 92)
    rw [hW] at h3a h3b h3c
    have hR : Rdr W (w.heap.size + 1 + 1) s 0 := ⟨cell_of_row W _ 0 _ _ (0, 0) h3c, cell_of_row W _ 1 _ _ (0, 0) h3c, frozen_of_row W _ 0 _ _ h3c, frozen_of_row W _ 1 _ _ h3c⟩
    have hT : W.cell? ⟨w.heap.size, 0, none⟩ = some (.string s) := cell_of_row W _ 0 _ _ (0, 0) h3a
    have hA : Acc W (w.heap.size + 1 + 1 + 1) (w.heap.size + 1) [] := ⟨.slice none 0 0, cell_of_row W _ 0 _ _ (0, 0) h3b, frozen_of_row W _ 0 _ _ h3b, World.ownsRow_nil _ _ _ _⟩
    clear hW h3a h3b h3c
    have HH := Lib.hid (And.intro hWb (And.intro hR (And.intro hT hA)))
    clear hWb hR hA
    have hTd : W.drew.cell? ⟨w.heap.size, 0, none⟩ = some (.string s) := hT
    have hfun := funEach_any s.size (w.heap.size + 1 + 1) (w.heap.size + 1) w.heap.size (w.heap.size + 1 + 1 + 1) s (by omega) (by omega) (fun k w h1 h2 h3 => one_all _ s (by omega) s.size k w h1 h2 h3) 0 (by omega) (by omega) W.drew (Nat.le_of_eq hWs.symm) HH.out.2.1 HH.out.2.2.2 HH.out.2.2.1
    have HFun := Lib.hid hfun
    clear hfun
    cases hP : fnP s.size s 0 with
    | none =>
      have HF := Lib.hid (ptO_none hP)
      have HP := Lib.hid hP
      clear hP
      have hTk : ∀ w4, Ch (w.heap.size + 1 + 1 + 1) (w.heap.size + 1 + 1) (w.heap.size + 1) W.drew w4 → w4.cell? ⟨w.heap.size, 0, none⟩ = some (.string s) := fun w4 h => (World.cell?_of_block (a := ⟨w.heap.size, 0, none⟩) (h.block w.heap.size (by omega) (by omega) (by omega))).trans hTd
      have HTk := Lib.hid hTk
      clear hTk
      first
        | (go_region_law ((go_simp; (go_at_call 102); refine HFun.out.mono ?_; rintro e w4 h4; obtain ⟨l, p, p1, _⟩ | ⟨p1, rfl, p4⟩ := h4; (rw [HP.out] at p1; cases p1); have hTw := HTk.out _ p4; go_wp2_with fail)))
        | fail "no"
      all_goals
        go_wp2_with fail
        go_returns
        exact PartsP.no HF.out (below_ch (dr HH.out.1 _) p4 (by omega) (by omega) (by omega))
    | some lp =>
      obtain ⟨l, p⟩ := lp
      have HP := Lib.hid hP
      clear hP
      by_cases hp : p = s.size
      · have hn : ((p : Int) == (s.size : Int)) = true := by rw [hp]; simp
        first
          | (go_region_law ((go_simp; (go_at_call 102); refine HFun.out.mono ?_; rintro e w4 h4; obtain ⟨l', p', p1, rfl, pR, pA, pT, pC⟩ | ⟨p1, _⟩ := h4; rotate_left; (rw [HP.out] at p1; cases p1); rw [HP.out] at p1; injection p1 with p1; injection p1 with p1 p2; subst p1 p2; have pR1 := pR.1; have pR2 := pR.2.1; obtain ⟨v, a1, a2, a3⟩ := pA; obtain ⟨A, c, hv⟩ := row_form a3; subst hv; go_wp2_with fail)))
          | fail "no"
        all_goals
          go_wp2_with fail
          go_returns
          have HP1 := HP.out
          rw [hp] at HP1
          exact .inl ⟨l, A, c, ptO_yes (by omega) HP1, rfl, a3.mono (by omega), below_ch (dr HH.out.1 _) pC (by omega) (by omega) (by omega)⟩
      · have hn : ((p : Int) == (s.size : Int)) = false := by rw [beq_eq_false_iff_ne]; omega
        have HF := Lib.hid (ptO_ne HP.out hp)
        first
          | (go_region_law ((go_simp; (go_at_call 102); refine HFun.out.mono ?_; rintro e w4 h4; obtain ⟨l', p', p1, rfl, pR, pA, pT, pC⟩ | ⟨p1, _⟩ := h4; rotate_left; (rw [HP.out] at p1; cases p1); rw [HP.out] at p1; injection p1 with p1; injection p1 with p1 p2; subst p1 p2; have pR1 := pR.1; have pR2 := pR.2.1; go_wp2_with fail)))
          | fail "no"
        all_goals
          go_wp2_with fail
          go_returns
          exact PartsP.no HF.out (below_ch (dr HH.out.1 _) pC (by omega) (by omega) (by omega))
end Go.Proofs.Ytmbljapjecclaab
