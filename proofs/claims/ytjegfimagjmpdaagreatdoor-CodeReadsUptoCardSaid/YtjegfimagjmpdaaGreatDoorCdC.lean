/- '(code.judge).ins'. Conditions: the numbers' ranges. -/
import Derived.Test.YtjegfimagjmpdaaGreatDoorCdP
import Derived.StillTailTactics
set_option maxRecDepth 20000
namespace Go.Proofs.YtjegfimagjmpdaaGreatDoor
open Go.ChangeShapes Go.WideShapes Go.ChangeAt Go.RowKit
section
variable (FA TA IA : Option Addr) (fc tc ic : Nat) (nm : ByteArray) (pa : Int)
theorem field_all (X : CX) (k : UInt8) (hk : k ∈ lettersL) (n next : Int) (w : World) (hX : CXok X) (hc : CapsAt w FA X.nf X.caps) : Calls Tryz.prog 59 #[judgeV FA TA IA fc tc ic nm pa X, .int .u8 (k.toNat : Int), .int .i64 n, .int .i64 next] w fun e w' => e = .returned (.bool (fieldB X k n next)) ∧ Below w.heap.size w w' := by
  simp only [lettersL, List.mem_cons, List.not_mem_nil, or_false] at hk
  rcases hk with rfl | rfl | rfl | rfl | rfl | rfl | rfl | rfl | rfl | rfl | rfl | rfl | rfl | rfl | rfl | rfl | rfl | rfl | rfl | rfl
  · exact field_115 FA TA IA fc tc ic nm pa X n next w hX hc
  · exact field_110 FA TA IA fc tc ic nm pa X n next w hX hc
  · exact field_98 FA TA IA fc tc ic nm pa X n next w hX hc
  · exact field_120 FA TA IA fc tc ic nm pa X n next w hX hc
  · exact field_102 FA TA IA fc tc ic nm pa X n next w hX hc
  · exact field_103 FA TA IA fc tc ic nm pa X n next w hX hc
  · exact field_116 FA TA IA fc tc ic nm pa X n next w hX hc
  · exact field_111 FA TA IA fc tc ic nm pa X n next w hX hc
  · exact field_99 FA TA IA fc tc ic nm pa X n next w hX hc
  · exact field_107 FA TA IA fc tc ic nm pa X n next w hX hc
  · exact field_97 FA TA IA fc tc ic nm pa X n next w hX hc
  · exact field_114 FA TA IA fc tc ic nm pa X n next w hX hc
  · exact field_112 FA TA IA fc tc ic nm pa X n next w hX hc
  · exact field_80 FA TA IA fc tc ic nm pa X n next w hX hc
  · exact field_119 FA TA IA fc tc ic nm pa X n next w hX hc
  · exact field_91 FA TA IA fc tc ic nm pa X n next w hX hc
  · exact field_40 FA TA IA fc tc ic nm pa X n next w hX hc
  · exact field_93 FA TA IA fc tc ic nm pa X n next w hX hc
  · exact field_41 FA TA IA fc tc ic nm pa X n next w hX hc
  · exact field_45 FA TA IA fc tc ic nm pa X n next w hX hc
/-- The judge, the instruction and its numbers in memory. -/
structure JI (X : CX) (op a b c d e : Int) (g : Nat) (w : World) : Prop where
  j0 : w.cell? ⟨g, 0, none⟩ = some (.slice FA X.nf fc)
  j1 : w.cell? ⟨g, 1, none⟩ = some (.slice TA X.nt tc)
  j2 : w.cell? ⟨g, 2, none⟩ = some (.string nm)
  j3 : w.cell? ⟨g, 3, none⟩ = some (.int .i64 pa)
  j4 : w.cell? ⟨g, 4, none⟩ = some (.int .i64 X.sl)
  j5 : w.cell? ⟨g, 5, none⟩ = some (.int .i64 X.ca)
  j6 : w.cell? ⟨g, 6, none⟩ = some (.slice IA X.ni ic)
  i0 : w.cell? ⟨g + 1, 0, none⟩ = some (.int .i64 op)
  i2 : w.cell? ⟨g + 1, 2, none⟩ = some (.int .i64 b)
  i4 : w.cell? ⟨g + 1, 4, none⟩ = some (.int .i64 d)
  ar : ∀ k < 6, w.cell? ⟨g + 1 + 1, k, none⟩ = some (.int .i64 (numsF a b c d e k))
theorem JI.into {X : CX} {op a b c d e : Int} {g : Nat} {w w' : World} (h : JI FA TA IA fc tc ic nm pa X op a b c d e g w) (hb : Below w.heap.size w w') : JI FA TA IA fc tc ic nm pa X op a b c d e g w' := by
  have l2 : g + 1 + 1 < w.heap.size := World.block_lt_of_cell? w ⟨g + 1 + 1, 0, none⟩ (h.ar 0 (by omega))
  have l1 : g + 1 < w.heap.size := by omega
  have l0 : g < w.heap.size := by omega
  exact ⟨(hb.cell (p := ⟨g, _, none⟩) l0).trans h.j0, (hb.cell (p := ⟨g, _, none⟩) l0).trans h.j1, (hb.cell (p := ⟨g, _, none⟩) l0).trans h.j2, (hb.cell (p := ⟨g, _, none⟩) l0).trans h.j3, (hb.cell (p := ⟨g, _, none⟩) l0).trans h.j4, (hb.cell (p := ⟨g, _, none⟩) l0).trans h.j5, (hb.cell (p := ⟨g, _, none⟩) l0).trans h.j6,
    (hb.cell (p := ⟨g + 1, _, none⟩) l1).trans h.i0, (hb.cell (p := ⟨g + 1, _, none⟩) l1).trans h.i2, (hb.cell (p := ⟨g + 1, _, none⟩) l1).trans h.i4, fun k hk => (hb.cell (p := ⟨g + 1 + 1, k, none⟩) l2).trans (h.ar k hk)⟩
set_option maxHeartbeats 8000000 in
theorem ins_any (X : CX) (op a b c d e : Int) (w : World) (hX : CXok X) (hc : CapsAt w FA X.nf X.caps) : Calls Tryz.prog 39 #[judgeV FA TA IA fc tc ic nm pa X, .agg #[.int .i64 op, .int .i64 a, .int .i64 b, .int .i64 c, .int .i64 d, .int .i64 e]] w fun r w' => r = .returned (.int .i64 (insV X op a b c d e)) ∧ Below w.heap.size w w' := by
  have HFD := Lib.hid (field_all FA TA IA fc tc ic nm pa X)
  have HX := Lib.hid hX
  have HC := Lib.hid hc
  obtain ⟨nf, nt, ni, sl, ca, caps⟩ := X
  clear hX hc
  unfold judgeV at HFD ⊢
  simp only at HFD ⊢
  by_cases hfn : formL op d = []
  · have HE := Lib.hid (show insV ⟨nf, nt, ni, sl, ca, caps⟩ op a b c d e = 13 by unfold insV; rw [if_pos hfn])
    have hE0 : (⟨#[]⟩ : ByteArray).toList.isEmpty = true := by rw [ByteArray.toList_eq]; rfl
    by_cases h24 : op = 24
    · have hcd : checksL d = [] := by
        unfold formL at hfn
        rw [if_pos h24] at hfn
        by_cases h : checksL d = []
        · exact h
        · rw [if_neg h] at hfn
          simp at hfn
      have HCK := Lib.hid (checks_any d)
      rw [hcd] at HCK
      have HFI := Lib.hid (show ∀ W, Calls Tryz.prog 57 #[.int .i64 op] W fun e w' => e = .returned (.string ⟨#[]⟩) ∧ w' = W from fun W => by rw [h24]; exact fields_any 24 W)
      have hob : (op == 24) = true := by simpa using h24
      clear h24 hcd hfn
      go_enter Tryz.func39, Tryz.ntmps39
      go_wp2_with fail
      refine (HFI.out _).mono ?_
      rintro r w0 ⟨rfl, rfl⟩
      go_wp2_with fail
      refine (HCK.out _).mono ?_
      rintro r w0 ⟨rfl, rfl⟩
      go_wp2_with fail
      go_ret
      exact ⟨by rw [HE.out]; rfl, sq (al _) (al _)⟩
    · have hfo : fieldsL op = [] := by
        unfold formL at hfn
        rw [if_neg h24] at hfn
        exact hfn
      have HFI := Lib.hid (fields_any op)
      rw [hfo] at HFI
      have hob : (op == 24) = false := by simpa using h24
      clear h24 hfo hfn
      go_enter Tryz.func39, Tryz.ntmps39
      go_wp2_with fail
      refine (HFI.out _).mono ?_
      rintro r w0 ⟨rfl, rfl⟩
      go_wp2_with fail
      go_ret
      exact ⟨by rw [HE.out]; rfl, sq (al _) (al _)⟩
  · have HFN := Lib.hid hfn
    have HFL := Lib.hid (formL_all op d hfn).1
    obtain ⟨FB, hFB⟩ : ∃ FB, FB = (⟨(formL op d).toArray⟩ : ByteArray) := ⟨_, rfl⟩
    have HFB := Lib.hid hFB
    have HFS := Lib.hid (show FB.size = 5 by rw [hFB]; exact HFL.out)
    have hFe : FB.toList.isEmpty = false := by
      rw [hFB, ByteArray.toList_eq]
      cases h : formL op d with
      | nil => exact absurd h hfn
      | cons x y => rfl
    by_cases h24 : op = 24
    · have hcd : checksL d ≠ [] := fun h => hfn (by unfold formL; rw [if_pos h24, if_pos h])
      obtain ⟨CB, hCB⟩ : ∃ CB, CB = (⟨(checksL d).toArray⟩ : ByteArray) := ⟨_, rfl⟩
      have hCe : CB.toList.isEmpty = false := by
        rw [hCB, ByteArray.toList_eq]
        cases h : checksL d with
        | nil => exact absurd h hcd
        | cons x y => rfl
      have hCF : CB ++ ⟨#[42, 45]⟩ = FB := by
        rw [hFB, hCB]
        unfold formL
        rw [if_pos h24, if_neg hcd]
        apply ByteArray.ext
        simp
      have hCs : CB.size = 3 := by
        rw [hCB]
        rcases checksL_all d with h | ⟨h, _⟩
        · exact absurd h hcd
        · exact h
      have HCK := Lib.hid (checks_any d)
      rw [← hCB] at HCK
      have HFI := Lib.hid (show ∀ W, Calls Tryz.prog 57 #[.int .i64 op] W fun e w' => e = .returned (.string ⟨#[]⟩) ∧ w' = W from fun W => by rw [h24]; exact fields_any 24 W)
      have hob : (op == 24) = true := by simpa using h24
      have ho21 : (op == 21) = false := by rw [h24]; rfl
      have HN21 := Lib.hid (show ¬ op = 21 by omega)
      clear h24 hcd hCB hFB hfn
      go_enter Tryz.func39, Tryz.ntmps39
      go_wp2_with fail
      refine (HFI.out _).mono ?_
      rintro r w0 ⟨rfl, rfl⟩
      go_wp2_with fail
      refine (HCK.out _).mono ?_
      rintro r w0 ⟨rfl, rfl⟩
      go_wp2_with fail
      generalize hw1 : World.alloc _ (Obj.cells #[Value.int .i64 a, Value.int .i64 b, Value.int .i64 c, Value.int .i64 d, Value.int .i64 e, Value.int .i64 0] _) = w1
      have hji : JI FA TA IA fc tc ic nm pa ⟨nf, nt, ni, sl, ca, caps⟩ op a b c d e w.heap.size w1 := by
        subst hw1
        refine ⟨by simp [go_sem], by simp [go_sem], by simp [go_sem], by simp [go_sem], by simp [go_sem], by simp [go_sem], by simp [go_sem], by simp [go_sem], by simp [go_sem], by simp [go_sem], fun k hk => ?_⟩
        have hk6 : k = 0 ∨ k = 1 ∨ k = 2 ∨ k = 3 ∨ k = 4 ∨ k = 5 := by omega
        rcases hk6 with rfl | rfl | rfl | rfl | rfl | rfl <;> simp [go_sem, numsF]
      have HB1 := Lib.hid (show Below w.heap.size w w1 by subst hw1; exact sq (sq (al _) (al _)) (al _))
      have HC1 := Lib.hid (HC.out.into (show Below w.heap.size w w1 from HB1.out))
      have HJI := Lib.hid hji
      have hl1 : w.heap.size ≤ w1.heap.size := HB1.out.size
      clear hw1 hji
      go_loopw [34] (fun i wr => ∃ k : Nat, i = .int .i64 (k : Int) ∧ k ≤ 5 ∧ Hid (∀ j, j < k → okF ⟨nf, nt, ni, sl, ca, caps⟩ (formL op d) (numsF a b c d e) j = true) ∧ Below w1.heap.size w1 wr) (fun i _ => 5 - (intOf i).toNat)
      case atStart => exact ⟨0, rfl, by omega, Lib.hid (fun j hj => by omega), Below.refl _ _⟩
      case round =>
        obtain ⟨k, rfl, hk, HOK, hbel⟩ := hrel
        have HBE := Lib.hid hbel
        obtain ⟨j0, j1, j2, j3, j4, j5, j6, i0, i2, i4, ar⟩ := HJI.out.into _ _ _ _ _ _ _ _ hbel
        by_cases hlt : k < 5
        · have hki : (k : Int) < 5 := by omega
          have hk6 : (k : Int) < 6 := by omega
          have hk6n : k < 6 := by omega
          obtain ⟨k1, hk1⟩ : ∃ k1, k1 = k + 1 := ⟨_, rfl⟩
          have HK1 := Lib.hid hk1
          have hkk : (k : Int) + 1 = (k1 : Int) := by omega
          have hwk : IntKind.i64.wrap (k1 : Int) = (k1 : Int) := IntWalk.i64_in _ (by omega)
          have hk7 : (k1 : Int) < 6 := by omega
          have hk7n : k1 < 6 := by omega
          have hkF : k < FB.size := by have := HFS.out; omega
          have hkFi : (k : Int) < (FB.size : Int) := by omega
          have hget : (formL op d).getD k 0 = FB[k] := by
            have h1 := HFB.out
            subst h1
            rw [List.getD_eq_getElem?_getD, List.getElem?_eq_getElem (show k < (formL op d).length from hkF)]
            rfl
          have hlet := (formL_all op d HFN.out).2 FB[k] (by rw [← hget, List.getD_eq_getElem?_getD, List.getElem?_eq_getElem (show k < (formL op d).length by have := HFL.out; omega)]; exact List.getElem_mem _)
          have a0 := ar k (by omega)
          have a1 := ar k1 (by omega)
          have HOKE := Lib.hid (show okF ⟨nf, nt, ni, sl, ca, caps⟩ (formL op d) (numsF a b c d e) k = (decide (FB[k] = 42) || fieldB ⟨nf, nt, ni, sl, ca, caps⟩ FB[k] (numsF a b c d e k) (numsF a b c d e k1)) by unfold okF; rw [hget, hk1])
          have HCR := Lib.hid (HC1.out.into hbel)
          clear hget ar hbel hk1
          generalize numsF a b c d e k = x0 at *
          generalize numsF a b c d e k1 = x1 at *
          generalize hcc : FB[k] = ch at *
          by_cases h42 : ch = 42
          · have e42 : ((ch.toNat : Int) == 42) = true := by rw [h42]; rfl
            have HOK2 := Lib.hid (show ∀ j, j < k1 → okF ⟨nf, nt, ni, sl, ca, caps⟩ (formL op d) (numsF a b c d e) j = true from fun j hj => by
              rcases Nat.lt_or_ge j k with h3 | h3
              · exact HOK.out j h3
              · obtain rfl : j = k := by have := HK1.out; omega
                rw [HOKE.out, decide_eq_true h42]
                rfl)
            clear h42 hlet
            go_wp2_with fail
            exact ⟨⟨k1, rfl, by omega, HOK2, HBE.out⟩, by simp [intOf]; omega⟩
          · have e42 : ((ch.toNat : Int) == 42) = false := by
              rw [beq_eq_false_iff_ne]
              intro h
              exact h42 (UInt8.toNat_inj.1 (by exact_mod_cast h))
            have hkl := hlet.resolve_left h42
            have HCALL := Lib.hid (fun W (hW : Below wr.heap.size wr W) => HFD.out ch hkl x0 x1 W HX.out (HCR.out.into hW))
            rw [decide_eq_false h42, Bool.false_or] at HOKE
            clear h42 hlet hkl
            generalize hfb : fieldB ⟨nf, nt, ni, sl, ca, caps⟩ ch x0 x1 = fb at *
            go_wp2_with fail
            go_still_tail 11, (by kernel_rfl)
            change wpList _ _ _ _ _ wr.drew
            cases fb
            · have HV := Lib.hid (insV_no (b := b) (e := e) HFN.out k (by omega) HOKE.out)
              go_wp2_with (go_at_call 59; refine (HCALL.out _ (dr (Below.refl _ wr) 1)).mono ?_; rintro r w5 ⟨rfl, hb5⟩; have HB5 := Lib.hid (HBE.out.trans ((dr (Below.refl wr.heap.size wr) 1).trans hb5 |>.mono HBE.out.size)))
              go_ret
              exact ⟨by rw [HV.out]; rfl, HB1.out.trans (HB5.out.mono hl1)⟩
            · have HOK2 := Lib.hid (show ∀ j, j < k1 → okF ⟨nf, nt, ni, sl, ca, caps⟩ (formL op d) (numsF a b c d e) j = true from fun j hj => by
                rcases Nat.lt_or_ge j k with h3 | h3
                · exact HOK.out j h3
                · obtain rfl : j = k := by have := HK1.out; omega
                  exact HOKE.out)
              go_wp2_with (go_at_call 59; refine (HCALL.out _ (dr (Below.refl _ wr) 1)).mono ?_; rintro r w5 ⟨rfl, hb5⟩; have HB5 := Lib.hid (HBE.out.trans ((dr (Below.refl wr.heap.size wr) 1).trans hb5 |>.mono HBE.out.size)))
              exact ⟨⟨k1, rfl, by omega, HOK2, HB5.out⟩, by simp [intOf]; omega⟩
        · obtain rfl : k = 5 := by omega
          have HV := Lib.hid (insV_all (b := b) (e := e) HFN.out HOK.out)
          rw [show ((5 : Nat) : Int) = 5 from rfl] at *
          have HV2 := Lib.hid (show insV ⟨nf, nt, ni, sl, ca, caps⟩ op a b c d e = 0 by rw [HV.out, if_neg (fun h => HN21.out h.1)])
          clear HV
          go_wp2_with fail
          go_quiet (fail)
          go_wp2_with fail
          go_ret
          exact ⟨by rw [HV2.out]; rfl, HB1.out.trans ((dr HBE.out _).mono hl1)⟩
    · have hfo : fieldsL op = formL op d := by
        unfold formL
        rw [if_neg h24]
      have HFI := Lib.hid (fields_any op)
      rw [hfo, ← hFB] at HFI
      have hob : (op == 24) = false := by simpa using h24
      clear h24 hfo hFB hfn
      go_enter Tryz.func39, Tryz.ntmps39
      go_wp2_with fail
      refine (HFI.out _).mono ?_
      rintro r w0 ⟨rfl, rfl⟩
      go_wp2_with fail
      generalize hw1 : World.alloc _ (Obj.cells #[Value.int .i64 a, Value.int .i64 b, Value.int .i64 c, Value.int .i64 d, Value.int .i64 e, Value.int .i64 0] _) = w1
      have hji : JI FA TA IA fc tc ic nm pa ⟨nf, nt, ni, sl, ca, caps⟩ op a b c d e w.heap.size w1 := by
        subst hw1
        refine ⟨by simp [go_sem], by simp [go_sem], by simp [go_sem], by simp [go_sem], by simp [go_sem], by simp [go_sem], by simp [go_sem], by simp [go_sem], by simp [go_sem], by simp [go_sem], fun k hk => ?_⟩
        have hk6 : k = 0 ∨ k = 1 ∨ k = 2 ∨ k = 3 ∨ k = 4 ∨ k = 5 := by omega
        rcases hk6 with rfl | rfl | rfl | rfl | rfl | rfl <;> simp [go_sem, numsF]
      have HB1 := Lib.hid (show Below w.heap.size w w1 by subst hw1; exact sq (sq (al _) (al _)) (al _))
      have HC1 := Lib.hid (HC.out.into (show Below w.heap.size w w1 from HB1.out))
      have HJI := Lib.hid hji
      have hl1 : w.heap.size ≤ w1.heap.size := HB1.out.size
      clear hw1 hji
      go_loopw [34] (fun i wr => ∃ k : Nat, i = .int .i64 (k : Int) ∧ k ≤ 5 ∧ Hid (∀ j, j < k → okF ⟨nf, nt, ni, sl, ca, caps⟩ (formL op d) (numsF a b c d e) j = true) ∧ Below w1.heap.size w1 wr) (fun i _ => 5 - (intOf i).toNat)
      case atStart => exact ⟨0, rfl, by omega, Lib.hid (fun j hj => by omega), Below.refl _ _⟩
      case round =>
        obtain ⟨k, rfl, hk, HOK, hbel⟩ := hrel
        have HBE := Lib.hid hbel
        obtain ⟨j0, j1, j2, j3, j4, j5, j6, i0, i2, i4, ar⟩ := HJI.out.into _ _ _ _ _ _ _ _ hbel
        by_cases hlt : k < 5
        · have hki : (k : Int) < 5 := by omega
          have hk6 : (k : Int) < 6 := by omega
          have hk6n : k < 6 := by omega
          obtain ⟨k1, hk1⟩ : ∃ k1, k1 = k + 1 := ⟨_, rfl⟩
          have HK1 := Lib.hid hk1
          have hkk : (k : Int) + 1 = (k1 : Int) := by omega
          have hwk : IntKind.i64.wrap (k1 : Int) = (k1 : Int) := IntWalk.i64_in _ (by omega)
          have hk7 : (k1 : Int) < 6 := by omega
          have hk7n : k1 < 6 := by omega
          have hkF : k < FB.size := by have := HFS.out; omega
          have hkFi : (k : Int) < (FB.size : Int) := by omega
          have hget : (formL op d).getD k 0 = FB[k] := by
            have h1 := HFB.out
            subst h1
            rw [List.getD_eq_getElem?_getD, List.getElem?_eq_getElem (show k < (formL op d).length from hkF)]
            rfl
          have hlet := (formL_all op d HFN.out).2 FB[k] (by rw [← hget, List.getD_eq_getElem?_getD, List.getElem?_eq_getElem (show k < (formL op d).length by have := HFL.out; omega)]; exact List.getElem_mem _)
          have a0 := ar k (by omega)
          have a1 := ar k1 (by omega)
          have HOKE := Lib.hid (show okF ⟨nf, nt, ni, sl, ca, caps⟩ (formL op d) (numsF a b c d e) k = (decide (FB[k] = 42) || fieldB ⟨nf, nt, ni, sl, ca, caps⟩ FB[k] (numsF a b c d e k) (numsF a b c d e k1)) by unfold okF; rw [hget, hk1])
          have HCR := Lib.hid (HC1.out.into hbel)
          clear hget ar hbel hk1
          generalize numsF a b c d e k = x0 at *
          generalize numsF a b c d e k1 = x1 at *
          generalize hcc : FB[k] = ch at *
          by_cases h42 : ch = 42
          · have e42 : ((ch.toNat : Int) == 42) = true := by rw [h42]; rfl
            have HOK2 := Lib.hid (show ∀ j, j < k1 → okF ⟨nf, nt, ni, sl, ca, caps⟩ (formL op d) (numsF a b c d e) j = true from fun j hj => by
              rcases Nat.lt_or_ge j k with h3 | h3
              · exact HOK.out j h3
              · obtain rfl : j = k := by have := HK1.out; omega
                rw [HOKE.out, decide_eq_true h42]
                rfl)
            clear h42 hlet
            go_wp2_with fail
            exact ⟨⟨k1, rfl, by omega, HOK2, HBE.out⟩, by simp [intOf]; omega⟩
          · have e42 : ((ch.toNat : Int) == 42) = false := by
              rw [beq_eq_false_iff_ne]
              intro h
              exact h42 (UInt8.toNat_inj.1 (by exact_mod_cast h))
            have hkl := hlet.resolve_left h42
            have HCALL := Lib.hid (fun W (hW : Below wr.heap.size wr W) => HFD.out ch hkl x0 x1 W HX.out (HCR.out.into hW))
            rw [decide_eq_false h42, Bool.false_or] at HOKE
            clear h42 hlet hkl
            generalize hfb : fieldB ⟨nf, nt, ni, sl, ca, caps⟩ ch x0 x1 = fb at *
            go_wp2_with fail
            go_still_tail 11, (by kernel_rfl)
            change wpList _ _ _ _ _ wr.drew
            cases fb
            · have HV := Lib.hid (insV_no (b := b) (e := e) HFN.out k (by omega) HOKE.out)
              go_wp2_with (go_at_call 59; refine (HCALL.out _ (dr (Below.refl _ wr) 1)).mono ?_; rintro r w5 ⟨rfl, hb5⟩; have HB5 := Lib.hid (HBE.out.trans ((dr (Below.refl wr.heap.size wr) 1).trans hb5 |>.mono HBE.out.size)))
              go_ret
              exact ⟨by rw [HV.out]; rfl, HB1.out.trans (HB5.out.mono hl1)⟩
            · have HOK2 := Lib.hid (show ∀ j, j < k1 → okF ⟨nf, nt, ni, sl, ca, caps⟩ (formL op d) (numsF a b c d e) j = true from fun j hj => by
                rcases Nat.lt_or_ge j k with h3 | h3
                · exact HOK.out j h3
                · obtain rfl : j = k := by have := HK1.out; omega
                  exact HOKE.out)
              go_wp2_with (go_at_call 59; refine (HCALL.out _ (dr (Below.refl _ wr) 1)).mono ?_; rintro r w5 ⟨rfl, hb5⟩; have HB5 := Lib.hid (HBE.out.trans ((dr (Below.refl wr.heap.size wr) 1).trans hb5 |>.mono HBE.out.size)))
              exact ⟨⟨k1, rfl, by omega, HOK2, HB5.out⟩, by simp [intOf]; omega⟩
        · obtain rfl : k = 5 := by omega
          have HV := Lib.hid (insV_all (b := b) (e := e) HFN.out HOK.out)
          rw [show ((5 : Nat) : Int) = 5 from rfl] at *
          by_cases h21 : op = 21
          · have e21 : (op == 21) = true := by simpa using h21
            have hbr : 0 ≤ b ∧ b < (nf : Int) := by
              have h1 := HOK.out 1 (by omega)
              rw [h21, form_close] at h1
              have h2 : withinB b 0 ((nf : Int) - 1) = true := h1
              have h3 := within_ge h2
              omega
            obtain ⟨bn, rfl⟩ : ∃ bn : Nat, b = (bn : Int) := ⟨b.toNat, by omega⟩
            have hbn : bn < nf := by omega
            have hbni : (bn : Int) < (nf : Int) := by omega
            obtain ⟨fb, foff, rfl, hfl, hfc⟩ := HC1.out (show 0 < nf by omega)
            have hcap : wr.cell? ⟨fb, foff + bn * 5 + 3, none⟩ = some (.int .i64 (caps bn)) := (HBE.out.cell (p := ⟨fb, _, none⟩) hfl).trans (hfc bn hbn)
            rw [h21] at HV
            rw [show ((bn : Int).toNat) = bn from rfl] at HV
            clear h21 hfc hbr
            generalize hcb : caps bn = cb at *
            have HCB := Lib.hid hcb
            clear hcb
            by_cases hd : d = cb
            · have ed : (d != cb) = false := by simpa using hd
              have HV2 := Lib.hid (show insV ⟨nf, nt, ni, sl, ca, caps⟩ op a bn c d e = 0 by rw [show op = 21 by simpa using e21, HV.out, if_neg (fun h => h.2 (hd.trans HCB.out.symm))])
              clear HV hd
              go_wp2_with fail
              go_quiet (fail)
              go_wp2_with fail
              go_ret
              exact ⟨by rw [HV2.out]; rfl, HB1.out.trans ((dr HBE.out _).mono hl1)⟩
            · have ed : (d != cb) = true := by simpa using hd
              have HV2 := Lib.hid (show insV ⟨nf, nt, ni, sl, ca, caps⟩ op a bn c d e = 14 by rw [show op = 21 by simpa using e21, HV.out, if_pos ⟨rfl, fun h => hd (h.trans HCB.out)⟩])
              clear HV hd
              go_wp2_with fail
              go_quiet (fail)
              go_wp2_with fail
              go_ret
              exact ⟨by rw [HV2.out]; rfl, HB1.out.trans ((dr HBE.out _).mono hl1)⟩
          · have e21 : (op == 21) = false := by simpa using h21
            have HV2 := Lib.hid (show insV ⟨nf, nt, ni, sl, ca, caps⟩ op a b c d e = 0 by rw [HV.out, if_neg (fun h => h21 h.1)])
            clear HV h21
            go_wp2_with fail
            go_quiet (fail)
            go_wp2_with fail
            go_ret
            exact ⟨by rw [HV2.out]; rfl, HB1.out.trans ((dr HBE.out _).mono hl1)⟩
end
end Go.Proofs.YtjegfimagjmpdaaGreatDoor
