/- The operations' words, as the program's table. Conditions: none. -/
import Derived.Test.YtjegfimagjmpdaaGreatDoorCdQ
import Derived.Deep.CutRange
import Derived.Laws.Cells
set_option maxRecDepth 100000
namespace Go.Proofs.YtjegfimagjmpdaaGreatDoor
open Go.ChangeShapes Go.WideShapes Go.ChangeAt Go.RowKit
def wordArr : Array Value := #[.string ⟨#[]⟩, .string ⟨#[105, 110, 116]⟩, .string ⟨#[98, 111, 111, 108]⟩, .string ⟨#[116, 101, 120, 116]⟩, .string ⟨#[110, 105, 108]⟩, .string ⟨#[102, 117, 110, 99]⟩, .string ⟨#[109, 111, 118, 101]⟩, .string ⟨#[111, 112]⟩, .string ⟨#[99, 109, 112]⟩, .string ⟨#[110, 101, 103]⟩, .string ⟨#[110, 111, 116]⟩, .string ⟨#[99, 97, 116]⟩, .string ⟨#[108, 101, 110]⟩, .string ⟨#[105, 110, 100, 101, 120]⟩, .string ⟨#[115, 101, 116, 97, 116]⟩, .string ⟨#[99, 117, 116]⟩, .string ⟨#[97, 112, 112, 101, 110, 100]⟩, .string ⟨#[108, 105, 115, 116]⟩, .string ⟨#[98, 111, 120]⟩, .string ⟨#[103, 101, 116]⟩, .string ⟨#[112, 117, 116]⟩, .string ⟨#[99, 108, 111, 115, 101]⟩, .string ⟨#[105, 115, 105, 110, 116]⟩, .string ⟨#[116, 111, 105, 110, 116]⟩, .string ⟨#[99, 104, 101, 99, 107]⟩, .string ⟨#[116, 101, 115, 116]⟩, .string ⟨#[106, 117, 109, 112]⟩, .string ⟨#[102, 97, 108, 115, 101]⟩, .string ⟨#[99, 97, 108, 108]⟩, .string ⟨#[114, 101, 116, 117, 114, 110]⟩, .string ⟨#[108, 101, 97, 118, 101]⟩, .string ⟨#[112, 97, 110, 105, 99]⟩, .string ⟨#[114, 101, 99, 111, 118, 101, 114]⟩, .string ⟨#[101, 120, 105, 116]⟩, .string ⟨#[112, 114, 105, 110, 116]⟩, .string ⟨#[100, 101, 102, 101, 114]⟩, .string ⟨#[114, 117, 110]⟩, .string ⟨#[98, 105, 116]⟩, .string ⟨#[110, 111, 98, 105, 116]⟩, .string ⟨#[115, 116, 97, 114, 116]⟩, .string ⟨#[101, 110, 100, 101, 100]⟩, .string ⟨#[116, 97, 107, 101, 110]⟩]
def wordParts : Array (Nat × Operand) := #[(0, .const (.string ⟨#[]⟩)), (1, .const (.string ⟨#[105, 110, 116]⟩)), (2, .const (.string ⟨#[98, 111, 111, 108]⟩)), (3, .const (.string ⟨#[116, 101, 120, 116]⟩)), (4, .const (.string ⟨#[110, 105, 108]⟩)), (5, .const (.string ⟨#[102, 117, 110, 99]⟩)), (6, .const (.string ⟨#[109, 111, 118, 101]⟩)), (7, .const (.string ⟨#[111, 112]⟩)), (8, .const (.string ⟨#[99, 109, 112]⟩)), (9, .const (.string ⟨#[110, 101, 103]⟩)), (10, .const (.string ⟨#[110, 111, 116]⟩)), (11, .const (.string ⟨#[99, 97, 116]⟩)), (12, .const (.string ⟨#[108, 101, 110]⟩)), (13, .const (.string ⟨#[105, 110, 100, 101, 120]⟩)), (14, .const (.string ⟨#[115, 101, 116, 97, 116]⟩)), (15, .const (.string ⟨#[99, 117, 116]⟩)), (16, .const (.string ⟨#[97, 112, 112, 101, 110, 100]⟩)), (17, .const (.string ⟨#[108, 105, 115, 116]⟩)), (18, .const (.string ⟨#[98, 111, 120]⟩)), (19, .const (.string ⟨#[103, 101, 116]⟩)), (20, .const (.string ⟨#[112, 117, 116]⟩)), (21, .const (.string ⟨#[99, 108, 111, 115, 101]⟩)), (22, .const (.string ⟨#[105, 115, 105, 110, 116]⟩)), (23, .const (.string ⟨#[116, 111, 105, 110, 116]⟩)), (24, .const (.string ⟨#[99, 104, 101, 99, 107]⟩)), (25, .const (.string ⟨#[116, 101, 115, 116]⟩)), (26, .const (.string ⟨#[106, 117, 109, 112]⟩)), (27, .const (.string ⟨#[102, 97, 108, 115, 101]⟩)), (28, .const (.string ⟨#[99, 97, 108, 108]⟩)), (29, .const (.string ⟨#[114, 101, 116, 117, 114, 110]⟩)), (30, .const (.string ⟨#[108, 101, 97, 118, 101]⟩)), (31, .const (.string ⟨#[112, 97, 110, 105, 99]⟩)), (32, .const (.string ⟨#[114, 101, 99, 111, 118, 101, 114]⟩)), (33, .const (.string ⟨#[101, 120, 105, 116]⟩)), (34, .const (.string ⟨#[112, 114, 105, 110, 116]⟩)), (35, .const (.string ⟨#[100, 101, 102, 101, 114]⟩)), (36, .const (.string ⟨#[114, 117, 110]⟩)), (37, .const (.string ⟨#[98, 105, 116]⟩)), (38, .const (.string ⟨#[110, 111, 98, 105, 116]⟩)), (39, .const (.string ⟨#[115, 116, 97, 114, 116]⟩)), (40, .const (.string ⟨#[101, 110, 100, 101, 100]⟩)), (41, .const (.string ⟨#[116, 97, 107, 101, 110]⟩))]
theorem build_words (a : Act) (w : World) : (Instr.build 52 (wordParts.map fun x => (x.1, a.eval x.2))).run Tryz.prog w = .ok (.agg wordArr) w := by kernel_rfl
theorem words_one : ∀ u ∈ wordArr.toList, u.oneCell' = true := by decide +kernel
theorem words_size : wordArr.size = 42 := by decide +kernel
theorem size_words (w : World) : Sem.run Tryz.prog (sizeOf 52) w = .ok 42 w := by kernel_rfl
theorem agg_words (w : World) : Sem.run Tryz.prog (isAgg 52) w = .ok true w := by kernel_rfl
theorem store_words (w : World) (g : Nat) (cur : Array Value) (hg : w.heap[g]? = some (.cells cur 52 (0, 0))) (hc : cur.size = 42) : (Instr.storeAt 52 (.pointer (some ⟨g, 0, none⟩)) (.agg wordArr)).run Tryz.prog w = .ok () (w.setRow g wordArr) := by
  have h := run_storeCells_at Tryz.prog g 0 52 wordArr.toList 0 cur w hg (by rw [hc, Nat.zero_add, Array.length_toList, words_size]; decide) words_one
  have e : (cur.toList.take (0 + 0) ++ wordArr.toList ++ cur.toList.drop (0 + 0 + wordArr.toList.length)).toArray = wordArr := by
    rw [List.drop_eq_nil_of_le (by rw [Array.length_toList, Array.length_toList, words_size]; omega)]
    simp
  rw [e] at h
  have hs := words_size
  generalize wordArr = wa at *
  simp only [Instr.storeAt, storeVar, Instr.sureAddr, Sem.run_bind, Sem.run_pure, Result.andThen_ok, Value.cells, size_words, hs]
  exact h
theorem load_words (w : World) (g : Nat) (hg : w.heap[g]? = some (.cells wordArr 52 (0, 0))) : (loadVar 52 ⟨g, 0, none⟩).run Tryz.prog w = .ok (.agg wordArr) w := by
  have h := run_loadCells_list (P := Tryz.prog) (w := w) ⟨g, 0, none⟩ wordArr.toList (fun j v hv => by
    have hadd : (⟨g, 0, none⟩ : Addr).add j = ⟨g, j, none⟩ := by unfold Addr.add; split <;> simp_all
    rw [hadd, Lib.cell_of_heap hg]
    simpa using hv)
  have hs := words_size
  rw [Array.length_toList, hs] at h
  simp only [loadVar, Sem.run_bind, agg_words, Result.andThen_ok, if_true, size_words, h, Sem.run_pure, Array.toArray_toList]
theorem wpList_build {P : Program} {w : World} {ops : Array Oper} {rest : List Oper} {o : Oper} {a : Act} {Q : Exit → Act → World → Prop} (hgd : o.guard = none) (t : TypeId) (parts : Array (Nat × Operand)) (ho : o.op = .build t parts) (v : Value) (h : (Instr.build t (parts.map fun x => (x.1, a.eval x.2))).run P w = .ok v w)
    (hK : wpList P ops Q rest (a.put o.dst v) w) : wpList P ops Q (o :: rest) a w := by
  refine wpList_plain hgd fun K hK' => ?_
  unfold Oper.wp execOp
  simp only [ho, Sem.run_bind, h, Result.andThen_ok, Sem.run_pure]
  exact hK' _ _ hK
theorem wpList_storeAt {P : Program} {w w' : World} {ops : Array Oper} {rest : List Oper} {o : Oper} {a : Act} {Q : Exit → Act → World → Prop} (hgd : o.guard = none) (t : TypeId) (x y : Operand) (ho : o.op = .store t x y) (hd : o.dst = none) (h : (Instr.storeAt t (a.eval x) (a.eval y)).run P w = .ok () w')
    (hK : wpList P ops Q rest a w') : wpList P ops Q (o :: rest) a w := by
  refine wpList_plain hgd fun K hK' => ?_
  unfold Oper.wp execOp
  simp only [ho, Sem.run_bind, h, Result.andThen_ok, Sem.run_pure]
  refine hK' _ _ ?_
  rw [hd]
  exact hK
set_option maxHeartbeats 400000 in
theorem codeWords_any (w : World) : Calls Tryz.prog 19 #[] w fun e w' => e = .returned (.agg wordArr) ∧ Below w.heap.size w w' := by
  go_enter Tryz.func19, Tryz.ntmps19
  go_upto_region 1 with (fail)
  generalize hW : w.alloc _ = W
  have hg : ∃ cur, W.heap[w.heap.size]? = some (.cells cur 52 (0, 0)) ∧ cur.size = 42 := by subst hW; exact ⟨_, heap_alloc_new w _, rfl⟩
  have hb : Below w.heap.size w W := by subst hW; exact al _
  clear hW
  obtain ⟨cur, hg, hc⟩ := hg
  have HS := Lib.hid (store_words W w.heap.size cur hg hc)
  have HG := Lib.hid (setRow_heap W w.heap.size cur wordArr 52 (0, 0) hg)
  have HB := Lib.hid (show Below w.heap.size w (W.setRow w.heap.size wordArr) from ⟨hb.os, hb.tape, hb.output, by simpa using hb.size, fun k hk => (setRow_other W w.heap.size k wordArr (by omega)).trans (hb.block k hk)⟩)
  go_wp2_with (first | (refine wpList_build rfl 52 wordParts rfl (.agg wordArr) (build_words _ _) ?_) | (refine wpList_storeAt rfl 52 _ _ rfl rfl HS.out ?_))
  have HL := load_words _ _ HG.out
  refine bodyPost_ret (v := .agg wordArr) ?_ rfl ⟨rfl, HB.out⟩
  generalize wordArr = wa at *
  simp only [results, Tryz.results19]
  generalize loadVar = lvf at *
  simp [go_sem, HL]
/-- The word of an operation. -/
def wordL (k : Nat) : List UInt8 := (cutG 32 (rowsL.getD (k - 1) []) []).headD []
theorem run_word : ∀ (k : Nat), 0 < k → k < 42 → ∀ w : World, (Instr.index 52 (.agg wordArr) (.int .i64 (k : Int))).run Tryz.prog w = .ok (.string ⟨(wordL k).toArray⟩) w
  | 0, h, _ => absurd h (by omega)
  | 1, _, _ => fun w => by kernel_rfl
  | 2, _, _ => fun w => by kernel_rfl
  | 3, _, _ => fun w => by kernel_rfl
  | 4, _, _ => fun w => by kernel_rfl
  | 5, _, _ => fun w => by kernel_rfl
  | 6, _, _ => fun w => by kernel_rfl
  | 7, _, _ => fun w => by kernel_rfl
  | 8, _, _ => fun w => by kernel_rfl
  | 9, _, _ => fun w => by kernel_rfl
  | 10, _, _ => fun w => by kernel_rfl
  | 11, _, _ => fun w => by kernel_rfl
  | 12, _, _ => fun w => by kernel_rfl
  | 13, _, _ => fun w => by kernel_rfl
  | 14, _, _ => fun w => by kernel_rfl
  | 15, _, _ => fun w => by kernel_rfl
  | 16, _, _ => fun w => by kernel_rfl
  | 17, _, _ => fun w => by kernel_rfl
  | 18, _, _ => fun w => by kernel_rfl
  | 19, _, _ => fun w => by kernel_rfl
  | 20, _, _ => fun w => by kernel_rfl
  | 21, _, _ => fun w => by kernel_rfl
  | 22, _, _ => fun w => by kernel_rfl
  | 23, _, _ => fun w => by kernel_rfl
  | 24, _, _ => fun w => by kernel_rfl
  | 25, _, _ => fun w => by kernel_rfl
  | 26, _, _ => fun w => by kernel_rfl
  | 27, _, _ => fun w => by kernel_rfl
  | 28, _, _ => fun w => by kernel_rfl
  | 29, _, _ => fun w => by kernel_rfl
  | 30, _, _ => fun w => by kernel_rfl
  | 31, _, _ => fun w => by kernel_rfl
  | 32, _, _ => fun w => by kernel_rfl
  | 33, _, _ => fun w => by kernel_rfl
  | 34, _, _ => fun w => by kernel_rfl
  | 35, _, _ => fun w => by kernel_rfl
  | 36, _, _ => fun w => by kernel_rfl
  | 37, _, _ => fun w => by kernel_rfl
  | 38, _, _ => fun w => by kernel_rfl
  | 39, _, _ => fun w => by kernel_rfl
  | 40, _, _ => fun w => by kernel_rfl
  | 41, _, _ => fun w => by kernel_rfl
  | k + 42, _, h => absurd h (by omega)
theorem word_len : ∀ k, k < 42 → (wordL k).length ≤ 7 := by decide +kernel
end Go.Proofs.YtjegfimagjmpdaaGreatDoor
