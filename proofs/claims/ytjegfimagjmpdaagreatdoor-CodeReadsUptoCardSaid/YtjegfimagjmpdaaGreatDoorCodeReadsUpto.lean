/- 'CodeReads', where what it reads is of bulk at most the bound: the law returns true, and the argument reads as it did; the tied card. Conditions: none but the row's own. -/
import Derived.Test.YtjegfimagjmpdaaGreatDoorCrL
import Derived.Test.YtjegfimagjmpdaaGreatDoorBase
import Derived.Test.YtjegfimagjmpdaaGreatDoorCards
import Derived.Test.YtjegfimagjmpdaaGreatDoorTie
import Derived.Deep.DeepHandedRow
import Derived.ChangeMaps5
import Derived.Lay
import Derived.LaidMore
import Derived.Shelf.Vars
namespace Go.Proofs.YtjegfimagjmpdaaGreatDoor
open Go.ChangeShapes Go.WideShapes Go.ChangeAt Go.RowKit
set_option linter.unusedVariables false
theorem upto_bulk {H : Type} {d : DataW H} (hk : Rows.uptoSmall H [d] = true) : Rows.uptoBulk d ≤ 1048576 := by
  have h : Rows.uptoBulkAll [d] ≤ 1048576 := of_decide_eq_true hk
  simp only [Rows.uptoBulkAll] at h
  omega
/-- The library's own number. -/
theorem maxLen_cell {W : World} (h : W.ShapedOpen Tryz.prog) : ∃ m, W.cell? ⟨0, 0, none⟩ = some (.int .i64 m) :=
  cell_of_shapedOpen_int (t := 3) (zero := #[.int .i64 0]) h (of_decide_eq_true (by kernel_rfl)) (by kernel_rfl) rfl (by kernel_rfl) (by kernel_rfl) Tryz.underlying3
noncomputable def laidW (os : Os) : World := World.laidAll Tryz.prog os Rows.codeReadsUptoRow.laid
theorem laidW_met (os : Os) : laidMet Tryz.prog Rows.codeReadsUptoRow.laid ((laidW os).forCall (fun _ _ => 0) ⟨#[], #[.string ByteArray.empty], []⟩).memory :=
  laidMet_laidAll _ (by kernel_rfl) (by kernel_rfl)
theorem laidW_reads (os : Os) {H : Type} (enc : TypeId × Value → H) : ∃ places, DataW.whole enc Tryz.prog ((laidW os).forCall (fun _ _ => 0) ⟨#[], #[.string ByteArray.empty], []⟩).memory Tryz.f3.params.toList Rows.codeReadsSpec.vars false #[Value.string ByteArray.empty].toList 8 = some ([.lit (.string [])], [], places) :=
  ⟨[], by kernel_rfl⟩
set_option maxRecDepth 100000 in
theorem liftedCodeReadsUpto (os : Os) (started : os.Started) (H : Type) (enc : TypeId × Value → H) (F : Stop.Interp) :
    ReturnsInHanded {} Tryz.checked os 3 .any ((Rows.OpenSpec.upto Rows.codeReadsSpec).preRow enc Tryz.prog Tryz.f3 Rows.codeReadsUptoRow.domain false Rows.codeReadsUptoRow.laid) (((Rows.OpenSpec.upto Rows.codeReadsSpec).at F).post enc Tryz.prog Tryz.f3 false true false false) := by
  obtain ⟨places, hx⟩ := laidW_reads os enc
  refine returnsInHanded_of_row (C := Tryz.checked) (s := Rows.OpenSpec.upto Rows.codeReadsSpec) own started (by kernel_rfl) Tryz.func3
    (witness_row_at (enc := enc) (C := Tryz.checked) false (laidW os) #[.string ByteArray.empty] (World.laidAll_os _ _ _) (by kernel_rfl) (by kernel_rfl) (by kernel_rfl)
      (OpenSpec.preRow_of_cond 8 hx (by kernel_rfl) (fun k hk => by cases hk; kernel_rfl) (by kernel_rfl) (laidW_met os))) ?_
  intro W base args ds gs before hval0 hW _ hcond _ _ hsh _
  have hval : ∀ (j : Nat) t v, Tryz.f3.params[j]? = some t → args[j]? = some v → Value.okWide Tryz.prog W .any base t v := hval0
  have hW' := hW
  obtain ⟨p, q, hA0, hV, rfl, hfz, hnd⟩ := hW
  have hA : DataW.TrodAll enc Tryz.prog W 0 (fun _ => true) true Tryz.f3.params.toList args.toList ds p := hA0
  rw [Tryz.params3] at hA hval
  obtain ⟨v0, vs0, d0, ds0, p0, q0, hargs, rfl, rfl, h0, r0⟩ := trodAll_cons hA
  obtain ⟨rfl, rfl, rfl⟩ := trodAll_nil r0
  obtain rfl : args = #[v0] := by cases args; simp_all
  obtain ⟨rfl, rfl⟩ := trodVars_none hV
  have lt0 : ∀ x ∈ p0, x.block < W.heap.size := by obtain ⟨m, hm⟩ := h0; exact DataW.trod_lt m _ _ _ hm
  have hu : Rows.uptoBulk d0 ≤ 1048576 := upto_bulk (hcond _ rfl)
  obtain ⟨s, rfl, hsd, _, _⟩ := Go.ChangeMaps.open_string Tryz.underlying9 (hval 0 9 v0 rfl rfl) h0
  have hs : s.size ≤ 1048576 := by
    rw [hsd] at hu
    simp [Rows.uptoBulk] at hu
    omega
  obtain ⟨m, hm⟩ := maxLen_cell hsh
  clear hA0 hval0
  refine (walkCodeReads s m W hm hs).mono fun e W' ⟨he, bel⟩ => ?_
  subst he
  exact ⟨_, rfl, _, _, _, [], _, [], hW', trodAll_mk1 (shut_bool Tryz.underlying4 _), (trodAll_cons_mk (Below.trod laidOut (by kernel_rfl) (of_decide_eq_true (by kernel_rfl)) h0 bel lt0) trodAll_mk0), rfl, bel.frame _, fun h => by cases h⟩
theorem saidCodeReadsUpto : Rows.CodeReadsUptoSaid :=
  OpenClaim.holds_of_cond 3 Tryz.f3 rfl rfl rfl rfl rfl rfl rfl ⟨rfl, rfl, rfl, rfl, rfl⟩ rfl rfl rfl rfl rfl (by kernel_rfl) Tryz.func3 (by kernel_rfl)
    (of_decide_eq_true (by kernel_rfl)) (by unfold Func.isWrapper; first | (rw [if_pos (by decide +kernel)]; kernel_rfl) | (rw [if_neg (by decide +kernel)]; exact ⟨rfl, rfl⟩))
    (fun os started H enc _ F => by rw [OpenClaim.pre_eq_preRow]; exact liftedCodeReadsUpto os started H enc F)
/-- No parameter wants a stand-in; the program's own looks are off. -/
theorem plainCodeReads (f : FuncId) (fn : Func) (hf : Tryz.pinned.checked.prog.funcNamed "panicroad/panicroadlaw.CodeReads" = some f) (hfn : Tryz.pinned.checked.prog.funcs[f]? = some fn) :
    true = Tryz.pinned.checked.prog.looks [] ∧ ∀ (j : Nat) t, fn.params[j]? = some t → Tryz.pinned.checked.prog.wantsStandIn t = false := by
  obtain rfl : f = 3 := Option.some.inj ((show Tryz.prog.funcNamed "panicroad/panicroadlaw.CodeReads" = some 3 by kernel_rfl).symm.trans hf) |>.symm
  obtain rfl : fn = Tryz.f3 := (Option.some.inj (Tryz.func3.symm.trans hfn)).symm
  refine ⟨by kernel_rfl, fun j t ht => ?_⟩
  rw [Tryz.params3] at ht
  obtain rfl : t = 9 := by simpa using Array.mem_of_getElem? ht
  exact (show Tryz.prog.wantsStandIn 9 = false by kernel_rfl)
theorem codeReadsUptoCard_holds : Rows.CodeReadsUptoCardSaid :=
  Claim7.holds_tied_plain_at .later [] _ _ _ _ saidCodeReadsUpto (fun _ h => by cases h) (by kernel_rfl) (fun _ h => by cases h) codeReadsUpto_row_tie rfl ⟨rfl, rfl⟩ (by kernel_rfl) rfl plainCodeReads (by kernel_rfl)
#print axioms codeReadsUptoCard_holds
end Go.Proofs.YtjegfimagjmpdaaGreatDoor
