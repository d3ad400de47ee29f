/- The heap's Free; New. Conditions: none. -/
import Derived.Test.YthogfcdgbodccaaHpH
set_option maxRecDepth 100000
namespace Go.Proofs.Ythogfcdgbodccaa
open Go.ChangeShapes Go.WideShapes Go.ChangeAt Go.RowKit
theorem szL_pos {lo : Nat} {bs : List BK} {room : Nat} : ∀ v ∈ szL lo bs room, 0 ≤ v := by
  induction bs generalizing lo with
  | nil => intro v hv; rw [List.eq_of_mem_replicate hv]; exact Int.le_refl _
  | cons b bs ih =>
    intro v hv
    simp only [szL, List.mem_append, List.mem_cons] at hv
    rcases hv with h | h | h | h
    · rw [List.eq_of_mem_replicate h]; exact Int.le_refl _
    · omega
    · rw [List.eq_of_mem_replicate h]; exact Int.le_refl _
    · exact ih v h
theorem sumI_nn {l : List Int} (h : ∀ v ∈ l, 0 ≤ v) : 0 ≤ sumI l := by
  induction l with
  | nil => exact Int.le_refl _
  | cons a l ih =>
    have h1 := h a (by simp)
    have h2 := ih fun v hv => h v (by simp [hv])
    show 0 ≤ a + sumI l
    omega
theorem sumI_take {l : List Int} (h : ∀ v ∈ l, 0 ≤ v) (i : Nat) : 0 ≤ sumI (l.take i) ∧ sumI (l.take i) ≤ sumI l := by
  have h1 := sumI_nn (l := l.take i) fun v hv => h v (List.mem_of_mem_take hv)
  have h2 := sumI_nn (l := l.drop i) fun v hv => h v (List.mem_of_mem_drop hv)
  have h3 := sumI_app (l.take i) (l.drop i)
  rw [List.take_append_drop] at h3
  omega
theorem sumI_snoc (l : List Int) (i : Nat) (v : Int) (h : l[i]? = some v) : sumI (l.take (i + 1)) = sumI (l.take i) + v := by
  rw [List.take_add_one, h, sumI_app]
  show _ + (v + 0) = _
  omega
set_option maxHeartbeats 2000000 in
theorem free_any {w : World} {base P room : Nat} {bs : List BK} {cells : List (Int × Int)} {shapes : List Int} {cv zv sv : Value} (h : HPc w base P room bs cells shapes cv zv sv) (h63 : room < 9223372036854775000) :
    Calls Try.prog 10 #[.pointer (some ⟨P, 0, none⟩)] w fun e w' => e = .returned (.int .i64 ((room : Int) - (usedB bs : Int))) ∧ w' = w := by
  obtain ⟨A0, n0, e0⟩ := own_form h.cel
  obtain ⟨A1, n1, e1⟩ := own_form h.siz
  obtain ⟨d0, d1, _⟩ := h.cell0
  have HS := Lib.hid (show ∀ a, a < room → ∃ Z v, A1 = some ⟨Z, 0, none⟩ ∧ w.cell? ⟨Z, a, none⟩ = some (.int .i64 v) ∧ (szL 0 bs room)[a]? = some v from fun a ha => by
    obtain ⟨Z, n2, e2, hc⟩ := h.size ha
    rw [e1] at e2
    injection e2 with e2 _ _
    exact ⟨Z, _, e2, hc, szL_at h.fit (Nat.zero_le a) ha⟩)
  have hsum := szL_sum 0 bs room
  have hus := usedB_le h.fit
  have HT := Lib.hid (show ∀ i, 0 ≤ sumI ((szL 0 bs room).take i) ∧ sumI ((szL 0 bs room).take i) ≤ (room : Int) from fun i => by
    have := sumI_take (szL_pos (lo := 0) (bs := bs) (room := room)) i
    omega)
  have HE := Lib.hid (show sumI ((szL 0 bs room).take room) = (usedB bs : Int) by rw [← hsum, List.take_of_length_le (by rw [szL_len h.fit]; omega)])
  have HSN := Lib.hid (sumI_snoc (szL 0 bs room))
  rw [e0] at d0
  rw [e1] at d1
  clear h e0 e1 hsum hus
  go_enter Try.func10, Try.ntmps10
  go_wp2_with fail
  go_loopw [3, 18] (fun f v wr => ∃ (i : Nat) (s : Int), f = .int .i64 ((room : Int) - s) ∧ v = .int .i64 (i : Int) ∧ Hid (s = sumI ((szL 0 bs room).take i)) ∧ Hid (i ≤ room) ∧ wr = w) (fun _ v _ => room - (intOf v).toNat)
  case atStart => exact ⟨0, 0, by simp, rfl, Lib.hid rfl, Lib.hid (Nat.zero_le _), rfl⟩
  case round =>
    obtain ⟨i, s, rfl, rfl, HS1, HI, rfl⟩ := hrel
    have hb := HT.out i
    rw [← HS1.out] at hb
    by_cases hlt : (i : Int) < (room : Int)
    · obtain ⟨Z, v, rfl, c2, hz⟩ := HS.out i (by omega)
      have hs := HSN.out i v hz
      have hb2 := HT.out (i + 1)
      rw [hs, ← HS1.out] at hb2
      have HS2 := Lib.hid (show s + v = sumI ((szL 0 bs room).take (i + 1)) by rw [hs, ← HS1.out])
      have hw1 : IntKind.i64.wrap ((room : Int) - s - v) = (room : Int) - (s + v) := by rw [show (room : Int) - s - v = (room : Int) - (s + v) by omega]; exact IntWalk.i64_in _ (by omega)
      clear hs hz hb hb2
      go_wp2_with fail
      refine ⟨⟨i + 1, s + v, rfl, by simp, HS2, Lib.hid (by omega), trivial⟩, by simp [intOf]; omega⟩
    · go_wp2_with fail
      go_ret
      refine ⟨?_, rfl⟩
      have e1 : i = room := by have := HI.out; omega
      rw [HS1.out, e1, HE.out]
      rfl
theorem made_cells (n : Nat) : (madeCells #[Value.int .i64 0, .int .i64 0] (n * 2)).toList = ceL (List.replicate n (0, 0)) := by
  have h1 : ceL (List.replicate n (0, 0)) = List.replicate (n * 2) (Value.int .i64 0) := by
    induction n with
    | zero => rfl
    | succ n ih => rw [List.replicate_succ, show (n + 1) * 2 = n * 2 + 1 + 1 by omega, List.replicate_succ, List.replicate_succ, ← ih]; simp [ceL]
  rw [h1]
  apply List.ext_getElem
  · simp [madeCells]
  · intro i h1 h2
    simp only [madeCells, Array.toList_map, List.getElem_map, List.getElem_replicate, Array.getElem_toList, Array.getElem_range]
    have : i % 2 = 0 ∨ i % 2 = 1 := by omega
    rcases this with h | h
    · simp [h]
    · simp [h]
theorem made_ints (n : Nat) : (madeCells #[Value.int .i64 0] n).toList = (List.replicate n (0 : Int)).map (Value.int .i64) := by
  rw [List.map_replicate]
  apply List.ext_getElem
  · simp [madeCells]
  · intro i h1 h2
    simp [madeCells, Nat.mod_one]
theorem new_of {w : World} {n c z s p : Nat} (hc : w.heap[c]? = some (.cells (madeCells #[Value.int .i64 0, .int .i64 0] (n * 2)) 36 (0, 0))) (hz : w.heap[z]? = some (.cells (madeCells #[Value.int .i64 0] n) 3 (0, 0))) (hs : w.heap[s]? = some (.cells (madeCells #[Value.int .i64 0] n) 3 (0, 0))) (hp : w.heap[p]? = some (.cells #[.slice (some ⟨c, 0, none⟩) n n, .slice (some ⟨z, 0, none⟩) n n, .slice (some ⟨s, 0, none⟩) n n] 52 (0, 0))) (hne : z ≠ s) (hn : n ≤ 4000) :
    HM w (fun k => k = p ∨ k = c ∨ k = z ∨ k = s) p n [] := by
  refine ⟨List.replicate n (0, 0), List.replicate n 0, _, _, _, ⟨Nat.zero_le _, hp, ⟨?_, .inr ⟨c, n, _, rfl, Nat.zero_le _, hc, Nat.le_refl _, by unfold maxLen; omega, by simp [madeCells], ?_⟩⟩, ⟨?_, .inr ⟨z, n, _, rfl, Nat.zero_le _, hz, Nat.le_refl _, by unfold maxLen; omega, by simp [madeCells], ?_⟩⟩, ⟨?_, .inr ⟨s, n, _, rfl, Nat.zero_le _, hs, Nat.le_refl _, by unfold maxLen; omega, by simp [madeCells], ?_⟩⟩, ?_, by simp, by simp, Nat.zero_le _, ⟨fun b hb => (by cases hb), fun b hb => (by cases hb)⟩⟩, ?_⟩
  · rw [ceL_len]; simp
  · rw [made_cells, List.take_of_length_le (by rw [ceL_len]; simp)]
  · simp [szL]
  · rw [made_ints, List.take_of_length_le (by simp)]
    simp [szL]
  · simp
  · rw [made_ints, List.take_of_length_le (by simp)]
  · intro b h1 h2
    injection h1 with h1
    injection h2 with h2
    exact hne (h1.trans h2.symm)
  · intro k hk
    rcases hk with h | h | h | h
    · exact .inl h
    · injection h with h; exact .inr (.inl h.symm)
    · injection h with h; exact .inr (.inr (.inl h.symm))
    · injection h with h; exact .inr (.inr (.inr h.symm))
theorem info_cl : (Try.prog.info? 36).map (fun i => (i.zero, i.size, i.bytes)) = some (some (.agg #[.int .i64 0, .int .i64 0]), 2, 16) := by kernel_rfl
theorem info_in : (Try.prog.info? 3).map (fun i => (i.zero, i.size, i.bytes)) = some (some (.int .i64 0), 1, 8) := by kernel_rfl
theorem make_cl (n : Nat) (hn : n ≤ 4000) (w : World) : (Instr.makeSlice 37 (.int .i64 (n : Int)) (.int .i64 (n : Int))).run Try.prog w = .ok (.slice (some ⟨w.heap.size, 0, none⟩) n n) (w.alloc (.cells (madeCells #[Value.int .i64 0, .int .i64 0] (n * 2)) 36)) := by
  obtain ⟨i, h1, h2, h3, h4⟩ := info_parts info_cl
  have := run_make (P := Try.prog) w 37 36 i _ Try.underlying37 h1 h2 .i64 .i64 (n : Int) (n : Int) (by omega) (by omega) (by rw [h4]; omega) (by omega)
  rw [h3, Int.toNat_natCast] at this
  exact this
theorem make_in (n : Nat) (hn : n ≤ 4000) (w : World) : (Instr.makeSlice 31 (.int .i64 (n : Int)) (.int .i64 (n : Int))).run Try.prog w = .ok (.slice (some ⟨w.heap.size, 0, none⟩) n n) (w.alloc (.cells (madeCells #[Value.int .i64 0] n) 3)) := by
  obtain ⟨i, h1, h2, h3, h4⟩ := info_parts info_in
  have := run_make (P := Try.prog) w 31 3 i _ Try.underlying31 h1 h2 .i64 .i64 (n : Int) (n : Int) (by omega) (by omega) (by rw [h4]; omega) (by omega)
  rw [h3, Int.toNat_natCast, Nat.mul_one] at this
  exact this
theorem HM.more {w : World} {M N : Nat → Prop} {P room : Nat} {bs : List BK} (h : HM w M P room bs) (hM : ∀ k, M k → N k) : HM w N P room bs := by
  obtain ⟨cells, shapes, cv, zv, sv, hc, hm⟩ := h
  exact ⟨cells, shapes, cv, zv, sv, hc, fun k hk => hM k (hm k hk)⟩
theorem heap_at {w : World} {n : Nat} (o : Obj) (h : n = w.heap.size) : (w.alloc o).heap[n]? = some o := by
  subst h
  exact heap_alloc_new w o
theorem four (w : World) (a b c d : Obj) : ((((w.alloc a).alloc b).alloc c).alloc d).drew.heap[w.heap.size]? = some a ∧ ((((w.alloc a).alloc b).alloc c).alloc d).drew.heap[w.heap.size + 1]? = some b ∧ ((((w.alloc a).alloc b).alloc c).alloc d).drew.heap[w.heap.size + 1 + 1]? = some c ∧ ((((w.alloc a).alloc b).alloc c).alloc d).drew.heap[w.heap.size + 1 + 1 + 1]? = some d ∧ ((((w.alloc a).alloc b).alloc c).alloc d).drew.heap.size = w.heap.size + 4 ∧ Below w.heap.size w ((((w.alloc a).alloc b).alloc c).alloc d).drew := by
  refine ⟨?_, ?_, ?_, ?_, ?_, (sq (sq (sq (al _) (al _)) (al _)) (al _)).drew⟩
  · exact (Lib.alloc_old _ _ _ (by simp; try omega)).trans ((Lib.alloc_old _ _ _ (by simp; try omega)).trans ((Lib.alloc_old _ _ _ (by simp; try omega)).trans (heap_alloc_new w a)))
  · exact (Lib.alloc_old _ _ _ (by simp; try omega)).trans ((Lib.alloc_old _ _ _ (by simp; try omega)).trans (heap_at _ (by simp)))
  · exact (Lib.alloc_old _ _ _ (by simp; try omega)).trans (heap_at _ (by simp))
  · exact heap_at _ (by simp)
  · simp [World.drew]
set_option maxHeartbeats 4000000 in
theorem new_any (n : Nat) (hn : n ≤ 4000) (w : World) : Calls Try.prog 5 #[.int .i64 (n : Int)] w fun e w' => ∃ P M, e = .returned (.tuple #[.pointer (some ⟨P, 0, none⟩), .int .i64 0]) ∧ HM w' M P n [] ∧ (∀ k, M k → w.heap.size ≤ k ∧ k < w'.heap.size) ∧ Below w.heap.size w w' := by
  have h0 : ¬ (n : Int) < 0 := by omega
  have h1 : ¬ 4000 < (n : Int) := by omega
  have hm1 := make_cl n hn
  have hm2 := make_in n hn
  go_enter Try.func5, Try.ntmps5
  go_wp2_with fail
  go_region
  all_goals (
    go_wp2_with fail
    go_returns
    obtain ⟨q0, q1, q2, q3, q4, q5⟩ := four w _ _ _ _
    refine ⟨_, fun k => w.heap.size ≤ k ∧ k < w.heap.size + 4, rfl, HM.more (new_of ?_ ?_ ?_ q3 (by omega) hn) fun k hk => by omega, fun k hk => ⟨hk.1, by rw [q4]; exact hk.2⟩, q5⟩
    · first | exact q0 | exact q1 | exact q2
    · first | exact q0 | exact q1 | exact q2
    · first | exact q0 | exact q1 | exact q2)
theorem new_bad (room : Int) (h : room < 0 ∨ 4000 < room) (w : World) : Calls Try.prog 5 #[.int .i64 room] w fun e w' => e = .returned (.tuple #[.pointer none, .int .i64 14]) ∧ Below w.heap.size w w' := by
  rcases h with h | h
  · go_enter Try.func5, Try.ntmps5
    go_wp2_with fail
    go_returns
    exact ⟨rfl, Below.refl _ _⟩
  · have h0 : ¬ room < 0 := by omega
    go_enter Try.func5, Try.ntmps5
    go_wp2_with fail
    go_returns
    exact ⟨rfl, Below.refl _ _⟩
end Go.Proofs.Ythogfcdgbodccaa
