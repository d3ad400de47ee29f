/- The document's Good. Conditions: none. -/
import Derived.Test.YtkpejdkffkhekaaGreatDoorPgG
import Derived.Test.YtkpejdkffkhekaaGreatDoorPgE
import Derived.Test.YtkpejdkffkhekaaGreatDoorPgH
set_option maxRecDepth 100000
namespace Go.Proofs.YtkpejdkffkhekaaGreatDoor
open Go.ChangeShapes Go.WideShapes Go.ChangeAt Go.RowKit
/-- The document's tests of a node by itself: texts and number; then the three besides. -/
def rgA (x : ND) : Bool := txR (wnt x.kind).1 x.text && (txR (wnt x.kind).2.1 x.typ && (!(decide ((wnt x.kind).2.2 = 100) && decide (x.num < 0)) && !(decide ((wnt x.kind).2.2 = 45) && decide (x.num ≠ 0))))
def rgB (T : List ND) (x : ND) : Bool :=
  if x.kind = 4 then emB x.text || !emB x.typ
  else if x.kind = 26 then !(x.text.toList == [38]) || decide ((kid0 T x).kind = 25)
  else if x.kind = 8 then placeN (kid0 T x)
  else true
theorem nm_emp {s : ByteArray} (h : emB s = true) : nmB s.data.toList = true ∧ oneB 1 s.data.toList = false := by
  unfold emB at h
  rw [ByteArray.toList_eq] at h
  have : s.data.toList = [] := by simpa using h
  rw [this]
  exact ⟨rfl, rfl⟩
theorem nm_full {s : ByteArray} (h : emB s = false) : nmB s.data.toList = oneB 1 s.data.toList := by
  refine nm_ne ?_
  intro h2
  unfold emB at h
  rw [ByteArray.toList_eq, h2] at h
  cases h
theorem tx110 (s : ByteArray) : txR 110 s = (!emB s && nmB s.data.toList) := rfl
theorem tx111 (s : ByteArray) : txR 111 s = nmB s.data.toList := rfl
theorem tx113 (s : ByteArray) : txR 113 s = quoB s := rfl
theorem tx117 (s : ByteArray) : txR 117 s = (s.toList == [45] || (s.toList == [33] || (s.toList == [42] || s.toList == [38]))) := rfl
theorem tx98 (s : ByteArray) : txR 98 s = decide (0 < lvN s.toList) := rfl
theorem tx116 (s : ByteArray) : txR 116 s = tyOk s := rfl
theorem tx115 (s : ByteArray) : txR 115 s = (emB s || tyOk s) := rfl
theorem tx45 (s : ByteArray) : txR 45 s = emB s := rfl
theorem u8a : ((45 : UInt8) = 100) = False := by simp
theorem u8b : ((42 : UInt8) = 100) = False := by simp
theorem u8c : ((42 : UInt8) = 45) = False := by simp
theorem u8d : ((100 : UInt8) = 45) = False := by simp
theorem rg_eq {T : List ND} {x : ND} (hk : known x.kind = true) : (rgA x && rgB T x) = rgP T x := by
  obtain ⟨kd, tx, ty, nm, ks⟩ := x
  rcases kind_cases kd hk with rfl | rfl | rfl | rfl | rfl | rfl | rfl | rfl | rfl | rfl | rfl | rfl | rfl | rfl | rfl | rfl | rfl | rfl | rfl | rfl | rfl | rfl | rfl | rfl | rfl | rfl | rfl | rfl
  all_goals (
    unfold rgA rgB rgP wnt
    simp only [Int.reduceEq, if_true, if_false, or_self, or_true, true_or, tx110, tx111, tx113, tx117, tx98, tx116, tx115, tx45, u8a, u8b, u8c, u8d, decide_true, decide_false, Bool.true_and, Bool.false_and, Bool.not_false, Bool.and_true, Bool.and_assoc])
  all_goals (
    cases h1 : emB tx <;> cases h2 : emB ty
    all_goals (
      try rw [(nm_emp h1).1]
      try rw [(nm_emp h1).2]
      try rw [nm_full h1]))
  all_goals (
    generalize kid0 T _ = y
    by_cases h3 : nm = 0 <;> by_cases h4 : nm < 0)
  all_goals first
    | (simp [*]; done)
    | (simp [*]; omega)
    | (have h5 : 0 ≤ nm := by omega
       simp [*]; done)
    | (have h5 : ¬ 0 ≤ nm := by omega
       simp [*]; done)
    | (by_cases h38 : tx.toList = [38]
       · rw [h38]
         simp [h3]
         done
       · have h39 : (tx.toList == [38]) = false := by simpa using h38
         rw [h39]
         simp [h3])
/-- What the document's Good answers. -/
def RdR (T : List ND) (w : World) (e : Ending) (w' : World) : Prop := ∃ b, e = .returned (.bool b) ∧ (b = true ↔ GoodT T) ∧ Below w.heap.size w w'
theorem RdR.no {T : List ND} {w w' : World} (h : ¬ GoodT T) (hb : Below w.heap.size w w') : RdR T w (.returned (.bool false)) w' := ⟨false, rfl, ⟨fun h => (by cases h), fun g => absurd g h⟩, hb⟩
theorem RdR.of {T : List ND} {w w' : World} (b : Bool) (h : b = true ↔ GoodT T) (hb : Below w.heap.size w w') : RdR T w (.returned (.bool b)) w' := ⟨b, rfl, h, hb⟩
theorem not_good {T : List ND} {x : ND} (hx : x ∈ T) (h : rgP T x = false) : ¬ GoodT T := fun hg => by
  have := List.all_eq_true.1 hg.2.2 x hx
  rw [h] at this
  cases this
set_option maxHeartbeats 8000000 in
theorem refGood_any {T : List ND} {A : Option Addr} {c : Nat} {w : World} (h : (Shp.slice ND.sh).rd w (· < w.heap.size) [.slice A T.length c] T) (hf : ∀ x ∈ T, ND.fits x) :
    Calls Tryz.prog 9 #[.slice A T.length c] w (RdR T w) := by
  have HLD := Lib.hid (fun (h4 : T.length ≤ 4000) => laid_any h hf h4)
  have HT := Lib.hid h
  obtain ⟨A', c', ess, e, hlc, hcm, _, hr, hall⟩ := h
  simp at e
  obtain ⟨rfl, rfl⟩ := e
  have HR := Lib.hid hr
  have HA := Lib.hid hall
  have HF := Lib.hid hf
  clear hr hall hf
  obtain ⟨N, hN⟩ : ∃ N, N = T.length := ⟨_, rfl⟩
  rw [← hN] at hlc HLD ⊢
  have HN := Lib.hid hN
  clear hN
  by_cases h4 : 4000 < (N : Int)
  · have HG := Lib.hid (show ¬ GoodT T from fun h => by have := h.1; have := HN.out; omega)
    go_enter Tryz.func9, Tryz.ntmps9
    go_wp2_with fail
    go_ret
    exact RdR.no HG.out (Below.refl _ _)
  · have h4' : N ≤ 4000 := by omega
    go_enter Tryz.func9, Tryz.ntmps9
    go_wp2_with fail
    refine Calls.mono (HLD.out h4') ?_
    rintro e w1 ⟨r, rfl, h1, hb1⟩
    have H1 := Lib.hid h1
    have HB1 := Lib.hid hb1
    have hw1 : w.heap.size ≤ w1.heap.size := hb1.size
    clear h1 hb1 HLD
    cases r with
    | false =>
      have HG := Lib.hid (show ¬ GoodT T from fun h => by cases H1.out.2 h.2.1)
      go_wp2_with fail
      go_ret
      exact RdR.no HG.out HB1.out
    | true =>
      have HL := Lib.hid (H1.out.1 rfl)
      clear H1
      go_wp2_with fail
      go_loopw [17] (fun i wr => ∃ (k : Nat), i = .int .i64 (k : Int) ∧ k ≤ N ∧ Hid ((T.take k).all (rgP T) = true) ∧ Hid (Below w.heap.size w wr)) (fun i _ => N - (intOf i).toNat)
      case atStart => exact ⟨0, rfl, Nat.zero_le _, Lib.hid rfl, HB1⟩
      case round =>
        obtain ⟨k, rfl, hk, HU, HB⟩ := hrel
        have hgsw : w.heap.size ≤ wr.heap.size := HB.out.size
        by_cases hlt : (k : Int) < (N : Int)
        · have hkT : k < T.length := by have := HN.out; omega
          obtain ⟨b, off, cs, x, rfl, hb, hx, hrd, hcell⟩ := Shp.elem HR.out HA.out hkT rfl
          obtain ⟨A4, c4, rfl, q0, q3, r4, l4, m4, n4, b4⟩ := ND.elim hrd
          have hxm : x ∈ T := List.mem_of_getElem? hx
          have HTK := Lib.hid (show (T.take (k + 1)).all (rgP T) = ((T.take k).all (rgP T) && rgP T x) by rw [List.take_add_one, hx, List.all_append]; simp)
          have HKID := Lib.hid (laid_kid HL.out hxm)
          have HEQ := Lib.hid (rg_eq (T := T) HKID.out.1)
          have HNG := Lib.hid (fun (h : rgP T x = false) => not_good hxm h)
          have HFX := Lib.hid (HF.out x hxm)
          have hww : ∀ o, wr.cell? ⟨b, o, none⟩ = w.cell? ⟨b, o, none⟩ := fun o => HB.out.cell (p := ⟨b, o, none⟩) hb
          have hbr : b < wr.heap.size := by omega
          have e0 := (hww _).trans (hcell 0 _ rfl)
          have e1 := (hww _).trans (hcell 1 _ rfl)
          have e2 := (hww _).trans (hcell 2 _ rfl)
          have e3 := (hww _).trans (hcell 3 _ rfl)
          have e4 := (hww _).trans (hcell 4 _ rfl)
          have hsz : ND.sh.size = 5 := rfl
          rw [hsz] at e0 e1 e2 e3 e4
          simp only [Nat.add_zero] at e0
          have HX := Lib.hid hx
          have HR4 := Lib.hid r4
          obtain ⟨nk, hnk⟩ : ∃ nk, nk = x.kids.length := ⟨_, rfl⟩
          rw [← hnk] at e4 HR4
          have HNK := Lib.hid hnk
          clear hsz hcell hx hww hrd r4 q0 q3 b4 n4 l4 m4 hkT hxm hnk
          go_wp2_with fail
          refine Calls.mono (wantsOf_any x.kind _) ?_
          rintro e w2 ⟨rfl, rfl⟩
          --@BEGIN
          have HBW := Lib.hid (show Below w.heap.size w (wr.alloc (.cells #[.int .i64 x.kind, .string x.text, .string x.typ, .int .i64 x.num, .slice A4 nk c4] 31)) from HB.out.alloc hgsw _)
          have g0 : (wr.alloc (.cells #[.int .i64 x.kind, .string x.text, .string x.typ, .int .i64 x.num, .slice A4 nk c4] 31)).cell? ⟨wr.heap.size, 0, none⟩ = some (.int .i64 x.kind) := by simp [go_sem]
          have g1 : (wr.alloc (.cells #[.int .i64 x.kind, .string x.text, .string x.typ, .int .i64 x.num, .slice A4 nk c4] 31)).cell? ⟨wr.heap.size, 1, none⟩ = some (.string x.text) := by simp [go_sem]
          have g2 : (wr.alloc (.cells #[.int .i64 x.kind, .string x.text, .string x.typ, .int .i64 x.num, .slice A4 nk c4] 31)).cell? ⟨wr.heap.size, 2, none⟩ = some (.string x.typ) := by simp [go_sem]
          have g3 : (wr.alloc (.cells #[.int .i64 x.kind, .string x.text, .string x.typ, .int .i64 x.num, .slice A4 nk c4] 31)).cell? ⟨wr.heap.size, 3, none⟩ = some (.int .i64 x.num) := by simp [go_sem]
          have g4 : (wr.alloc (.cells #[.int .i64 x.kind, .string x.text, .string x.typ, .int .i64 x.num, .slice A4 nk c4] 31)).cell? ⟨wr.heap.size, 4, none⟩ = some (.slice A4 nk c4) := by simp [go_sem]
          have hnb : wr.heap.size < (wr.alloc (.cells #[.int .i64 x.kind, .string x.text, .string x.typ, .int .i64 x.num, .slice A4 nk c4] 31)).heap.size := by simp
          generalize (wr.alloc (.cells #[.int .i64 x.kind, .string x.text, .string x.typ, .int .i64 x.num, .slice A4 nk c4] 31)) = w2 at *
          generalize wr.heap.size = nb at *
          clear e0 e1 e2 e3 e4
          have HB2 := HBW
          have HTW := HT
          have HR4W := Lib.hid (show RdM w (· < w.heap.size) 1 A4 x.kids.length (x.kids.map (Value.int .i64)) by rw [← HNK.out]; exact HR4.out)
          have hw2 : w.heap.size ≤ w2.heap.size := HBW.out.size
          have HK45 := Lib.hid (show (wnt x.kind).2.2 ≠ 45 → x.kind ≠ 4 ∧ x.kind ≠ 26 ∧ x.kind ≠ 8 from fun h => by
            unfold wnt at h
            refine ⟨fun e => ?_, fun e => ?_, fun e => ?_⟩ <;> (rw [e] at h; exact h (by decide)))
          have HT1 := Lib.hid (fun (W : World) => textRight_any (wnt x.kind).1 (wnt_letter x.kind).1 x.text HFX.out.1 W)
          have HT2 := Lib.hid (fun (W : World) => textRight_any (wnt x.kind).2.1 (wnt_letter x.kind).2 x.typ HFX.out.2.1 W)
          unfold TxC at HT1 HT2
          have HOKE := Lib.hid (show rgA x = (txR (wnt x.kind).1 x.text && (txR (wnt x.kind).2.1 x.typ && (!(decide ((wnt x.kind).2.2 = 100) && decide (x.num < 0)) && !(decide ((wnt x.kind).2.2 = 45) && decide (x.num ≠ 0))))) from rfl)
          generalize txR (wnt x.kind).1 x.text = r1 at *
          generalize txR (wnt x.kind).2.1 x.typ = r2 at *
          generalize (wnt x.kind).1 = la at *
          generalize (wnt x.kind).2.1 = lb at *
          generalize (wnt x.kind).2.2 = lc at *
          have hi0 : ∀ W, (Instr.index 9 (.string ⟨#[la, lb, lc]⟩) (.int .i64 0)).run Tryz.prog W = .ok (.int .u8 (la.toNat : Int)) W := fun W => rfl
          have hi1 : ∀ W, (Instr.index 9 (.string ⟨#[la, lb, lc]⟩) (.int .i64 1)).run Tryz.prog W = .ok (.int .u8 (lb.toNat : Int)) W := fun W => rfl
          have hi2 : ∀ W, (Instr.index 9 (.string ⟨#[la, lb, lc]⟩) (.int .i64 2)).run Tryz.prog W = .ok (.int .u8 (lc.toNat : Int)) W := fun W => rfl
          have t0 := fun T : WB w2 => (T.bel.cell (p := ⟨nb, 0, none⟩) hnb).trans g0
          have t1 := fun T : WB w2 => (T.bel.cell (p := ⟨nb, 1, none⟩) hnb).trans g1
          have t2 := fun T : WB w2 => (T.bel.cell (p := ⟨nb, 2, none⟩) hnb).trans g2
          have t3 := fun T : WB w2 => (T.bel.cell (p := ⟨nb, 3, none⟩) hnb).trans g3
          have t4 := fun T : WB w2 => (T.bel.cell (p := ⟨nb, 4, none⟩) hnb).trans g4
          generalize hstr : (ByteArray.mk #[la, lb, lc]) = ws at *
          clear hstr
          have HTX := Lib.hid (fun (i : Int) (s : ByteArray) (r : Bool) (W : World) (h : (i = (la.toNat : Int) ∧ s = x.text ∧ r = r1) ∨ (i = (lb.toNat : Int) ∧ s = x.typ ∧ r = r2)) => show Calls Tryz.prog 19 #[.int .u8 i, .string s] W (fun e w' => e = .returned (.bool r) ∧ Below W.heap.size W w') from by
            rcases h with ⟨rfl, rfl, rfl⟩ | ⟨rfl, rfl, rfl⟩
            · exact HT1.out W
            · exact HT2.out W)
          clear HT1 HT2
          generalize ((la.toNat : Nat) : Int) = ia at *
          generalize ((lb.toNat : Nat) : Int) = ib at *
          cases r1 with
          | false =>
            have HBAD := Lib.hid (HNG.out (by rw [← HEQ.out, HOKE.out]; rfl))
            go_wp2_with fail
            (refine wp_region_wb (by kernel_rfl) (by kernel_rfl) ?_; (repeat (first | go_big_quiet_step ((go_at_call 19; exact quietB (HTX.out _ _ _ _ (by first | exact .inl ⟨rfl, rfl, rfl⟩ | exact .inr ⟨rfl, rfl, rfl⟩)))) | quiet_step ((go_at_call 19; exact quietB (HTX.out _ _ _ _ (by first | exact .inl ⟨rfl, rfl, rfl⟩ | exact .inr ⟨rfl, rfl, rfl⟩)))))); refine wpQuiet_nil ?_; intro _ hw'; obtain ⟨⟨wq, hbq⟩, hw''⟩ := hw'; subst hw''; (try simp only))
            have HBF := Lib.hid (HB2.out.trans (hbq.mono hw2))
            clear hbq
            go_wp2_with fail
            go_ret
            exact RdR.no HBAD.out HBF.out
          | true =>
            cases r2 with
            | false =>
              have HBAD := Lib.hid (HNG.out (by rw [← HEQ.out, HOKE.out]; rfl))
              go_wp2_with fail
              (refine wp_region_wb (by kernel_rfl) (by kernel_rfl) ?_; (repeat (first | go_big_quiet_step ((go_at_call 19; exact quietB (HTX.out _ _ _ _ (by first | exact .inl ⟨rfl, rfl, rfl⟩ | exact .inr ⟨rfl, rfl, rfl⟩)))) | quiet_step ((go_at_call 19; exact quietB (HTX.out _ _ _ _ (by first | exact .inl ⟨rfl, rfl, rfl⟩ | exact .inr ⟨rfl, rfl, rfl⟩)))))); refine wpQuiet_nil ?_; intro _ hw'; obtain ⟨⟨wq, hbq⟩, hw''⟩ := hw'; subst hw''; (try simp only))
              have HBF := Lib.hid (HB2.out.trans (hbq.mono hw2))
              clear hbq
              go_wp2_with fail
              go_ret
              exact RdR.no HBAD.out HBF.out
            | true =>
              rw [Bool.true_and, Bool.true_and] at HOKE
              by_cases hc45 : lc = 45
              · have c100 : ((lc.toNat : Int) == 100) = false := by rw [hc45]; rfl
                have c45 : ((lc.toNat : Int) == 45) = true := by rw [hc45]; rfl
                by_cases hnm : x.num = 0
                · have HOK := Lib.hid (show rgA x = true by rw [HOKE.out, hc45, hnm]; rfl)
                  have hn0 : (x.num != 0) = false := by simpa using hnm
                  clear hc45 hnm
                  by_cases hk4 : x.kind = 4
                  · have HRB := Lib.hid (show rgP T x = (emB x.text || !emB x.typ) by rw [← HEQ.out, HOK.out, Bool.true_and]; unfold rgB; rw [if_pos hk4])
                    rw [hk4] at g0 t0
                    go_wp2_with fail
                    (refine wp_region_wb (by kernel_rfl) (by kernel_rfl) ?_; (repeat (first | go_big_quiet_step ((go_at_call 19; exact quietB (HTX.out _ _ _ _ (by first | exact .inl ⟨rfl, rfl, rfl⟩ | exact .inr ⟨rfl, rfl, rfl⟩)))) | quiet_step ((go_at_call 19; exact quietB (HTX.out _ _ _ _ (by first | exact .inl ⟨rfl, rfl, rfl⟩ | exact .inr ⟨rfl, rfl, rfl⟩)))))); refine wpQuiet_nil ?_; intro _ hw'; obtain ⟨⟨wq, hbq⟩, hw''⟩ := hw'; subst hw''; (try simp only))
                    have HBF := Lib.hid (HB2.out.trans (hbq.mono hw2))
                    have k0 := (hbq.cell (p := ⟨nb, 0, none⟩) hnb).trans g0
                    have k1 := (hbq.cell (p := ⟨nb, 1, none⟩) hnb).trans g1
                    have k2 := (hbq.cell (p := ⟨nb, 2, none⟩) hnb).trans g2
                    have k3 := (hbq.cell (p := ⟨nb, 3, none⟩) hnb).trans g3
                    have k4 := (hbq.cell (p := ⟨nb, 4, none⟩) hnb).trans g4
                    have hnbq := Nat.lt_of_lt_of_le hnb hbq.size
                    clear hbq t0 t1 t2 t3 t4
                    cases h1 : x.text.toList.isEmpty with
                    | true =>
                      have HNX := Lib.hid (show (T.take (k + 1)).all (rgP T) = true by rw [HTK.out, HU.out, HRB.out, Bool.true_and]; unfold emB; rw [h1]; rfl)
                      go_wp2_with fail
                      go_roundw
                      case rel => exact ⟨k + 1, by simp, by omega, HNX.out, HBF⟩
                      case measure => simp [intOf]; omega
                    | false =>
                      cases h2 : x.typ.toList.isEmpty with
                      | false =>
                        have HNX := Lib.hid (show (T.take (k + 1)).all (rgP T) = true by rw [HTK.out, HU.out, HRB.out, Bool.true_and]; unfold emB; rw [h2]; simp)
                        go_wp2_with fail
                        go_roundw
                        case rel => exact ⟨k + 1, by simp, by omega, HNX.out, HBF⟩
                        case measure => simp [intOf]; omega
                      | true =>
                        have HBAD := Lib.hid (HNG.out (by rw [HRB.out]; unfold emB; rw [h1, h2]; rfl))
                        go_wp2_with fail
                        go_ret
                        exact RdR.no HBAD.out HBF.out
                  · by_cases hk26 : x.kind = 26
                    · have HRB := Lib.hid (show rgP T x = (!(x.text.toList == [38]) || decide ((kid0 T x).kind = 25)) by rw [← HEQ.out, HOK.out, Bool.true_and]; unfold rgB; rw [if_neg hk4, if_pos hk26])
                      obtain ⟨bK, offK, b5, o5, q, c5, A5, eA, eA4, hbk, hb5, hl, hqT, z0, d0, d1, d2, d3, d4⟩ := kid0_cells HTW.out HR4W.out (HKID.out.2 (.inl hk26))
                      injection eA with eA
                      injection eA with eA eA2
                      subst eA eA2 eA4
                      have hnk0 : 0 < nk := by rw [HNK.out]; exact hl
                      have hnki : (0 : Int) < (nk : Int) := by omega
                      have hqi : (q : Int) < (N : Int) := by have := HN.out; omega
                      clear hl hqT
                      generalize kid0 T x = y at *
                      rw [hk26] at g0 t0
                      go_wp2_with fail
                      (refine wp_region_wb (by kernel_rfl) (by kernel_rfl) ?_; (repeat (first | go_big_quiet_step ((go_at_call 19; exact quietB (HTX.out _ _ _ _ (by first | exact .inl ⟨rfl, rfl, rfl⟩ | exact .inr ⟨rfl, rfl, rfl⟩)))) | quiet_step ((go_at_call 19; exact quietB (HTX.out _ _ _ _ (by first | exact .inl ⟨rfl, rfl, rfl⟩ | exact .inr ⟨rfl, rfl, rfl⟩)))))); refine wpQuiet_nil ?_; intro _ hw'; obtain ⟨⟨wq, hbq⟩, hw''⟩ := hw'; subst hw''; (try simp only))
                      have HBF := Lib.hid (HB2.out.trans (hbq.mono hw2))
                      have k0 := (hbq.cell (p := ⟨nb, 0, none⟩) hnb).trans g0
                      have k1 := (hbq.cell (p := ⟨nb, 1, none⟩) hnb).trans g1
                      have k2 := (hbq.cell (p := ⟨nb, 2, none⟩) hnb).trans g2
                      have k3 := (hbq.cell (p := ⟨nb, 3, none⟩) hnb).trans g3
                      have k4 := (hbq.cell (p := ⟨nb, 4, none⟩) hnb).trans g4
                      have hnbq := Nat.lt_of_lt_of_le hnb hbq.size
                      clear hbq t0 t1 t2 t3 t4
                      have z1 := (HBF.out.cell (p := ⟨b5, o5, none⟩) hb5).trans z0
                      have v0 := (HBF.out.cell (p := ⟨b, off + q * 5, none⟩) hbk).trans d0
                      have v1 := (HBF.out.cell (p := ⟨b, off + q * 5 + 1, none⟩) hbk).trans d1
                      have v2 := (HBF.out.cell (p := ⟨b, off + q * 5 + 2, none⟩) hbk).trans d2
                      have v3 := (HBF.out.cell (p := ⟨b, off + q * 5 + 3, none⟩) hbk).trans d3
                      have v4 := (HBF.out.cell (p := ⟨b, off + q * 5 + 4, none⟩) hbk).trans d4
                      clear z0 d0 d1 d2 d3 d4
                      cases h1 : x.text.toList == [38] with
                      | false =>
                        have HNX := Lib.hid (show (T.take (k + 1)).all (rgP T) = true by rw [HTK.out, HU.out, HRB.out, h1]; rfl)
                        go_wp2_with fail
                        go_roundw
                        case rel => exact ⟨k + 1, by simp, by omega, HNX.out, HBF⟩
                        case measure => simp [intOf]; omega
                      | true =>
                        by_cases h2 : y.kind = 25
                        · have HNX := Lib.hid (show (T.take (k + 1)).all (rgP T) = true by rw [HTK.out, HU.out, HRB.out, h1, decide_eq_true h2]; rfl)
                          rw [h2] at v0
                          clear h2
                          go_wp2_with fail
                          go_roundw
                          case rel => exact ⟨k + 1, by simp, by omega, HNX.out, HBF⟩
                          case measure => simp [intOf]; omega
                        · have HBAD := Lib.hid (HNG.out (by rw [HRB.out, h1, decide_eq_false h2]; rfl))
                          have h3 : (y.kind != 25) = true := by simpa using h2
                          clear h2
                          go_wp2_with fail
                          go_ret
                          exact RdR.no HBAD.out HBF.out
                    · by_cases hk8 : x.kind = 8
                      · have HRB := Lib.hid (show rgP T x = placeN (kid0 T x) by rw [← HEQ.out, HOK.out, Bool.true_and]; unfold rgB; rw [if_neg hk4, if_neg hk26, if_pos hk8])
                        obtain ⟨bK, offK, b5, o5, q, c5, A5, eA, eA4, hbk, hb5, hl, hqT, z0, d0, d1, d2, d3, d4⟩ := kid0_cells HTW.out HR4W.out (HKID.out.2 (.inr hk8))
                        injection eA with eA
                        injection eA with eA eA2
                        subst eA eA2 eA4
                        have hnk0 : 0 < nk := by rw [HNK.out]; exact hl
                        have hnki : (0 : Int) < (nk : Int) := by omega
                        have hqi : (q : Int) < (N : Int) := by have := HN.out; omega
                        clear hl hqT
                        generalize kid0 T x = y at *
                        rw [hk8] at g0 t0
                        go_wp2_with fail
                        (refine wp_region_wb (by kernel_rfl) (by kernel_rfl) ?_; (repeat (first | go_big_quiet_step ((go_at_call 19; exact quietB (HTX.out _ _ _ _ (by first | exact .inl ⟨rfl, rfl, rfl⟩ | exact .inr ⟨rfl, rfl, rfl⟩)))) | quiet_step ((go_at_call 19; exact quietB (HTX.out _ _ _ _ (by first | exact .inl ⟨rfl, rfl, rfl⟩ | exact .inr ⟨rfl, rfl, rfl⟩)))))); refine wpQuiet_nil ?_; intro _ hw'; obtain ⟨⟨wq, hbq⟩, hw''⟩ := hw'; subst hw''; (try simp only))
                        have HBF := Lib.hid (HB2.out.trans (hbq.mono hw2))
                        have k0 := (hbq.cell (p := ⟨nb, 0, none⟩) hnb).trans g0
                        have k1 := (hbq.cell (p := ⟨nb, 1, none⟩) hnb).trans g1
                        have k2 := (hbq.cell (p := ⟨nb, 2, none⟩) hnb).trans g2
                        have k3 := (hbq.cell (p := ⟨nb, 3, none⟩) hnb).trans g3
                        have k4 := (hbq.cell (p := ⟨nb, 4, none⟩) hnb).trans g4
                        have hnbq := Nat.lt_of_lt_of_le hnb hbq.size
                        clear hbq t0 t1 t2 t3 t4
                        have z1 := (HBF.out.cell (p := ⟨b5, o5, none⟩) hb5).trans z0
                        have v0 := (HBF.out.cell (p := ⟨b, off + q * 5, none⟩) hbk).trans d0
                        have v1 := (HBF.out.cell (p := ⟨b, off + q * 5 + 1, none⟩) hbk).trans d1
                        have v2 := (HBF.out.cell (p := ⟨b, off + q * 5 + 2, none⟩) hbk).trans d2
                        have v3 := (HBF.out.cell (p := ⟨b, off + q * 5 + 3, none⟩) hbk).trans d3
                        have v4 := (HBF.out.cell (p := ⟨b, off + q * 5 + 4, none⟩) hbk).trans d4
                        clear z0 d0 d1 d2 d3 d4
                        by_cases y25 : y.kind = 25
                        · have HNX := Lib.hid (show (T.take (k + 1)).all (rgP T) = true by rw [HTK.out, HU.out, HRB.out]; unfold placeN; rw [decide_eq_true y25]; rfl)
                          rw [y25] at v0
                          clear y25
                          have HBF := Lib.hid (HBF.out.alloc HBF.out.size (.cells #[.int .i64 25, .string y.text, .string y.typ, .int .i64 y.num, .slice A5 y.kids.length c5] 31))
                          go_wp2_with fail
                          go_roundw
                          case rel => exact ⟨k + 1, by simp, by omega, HNX.out, HBF⟩
                          case measure => simp [intOf]; omega
                        · by_cases y29 : y.kind = 29
                          · have HNX := Lib.hid (show (T.take (k + 1)).all (rgP T) = true by rw [HTK.out, HU.out, HRB.out]; unfold placeN; rw [decide_eq_true y29, Bool.true_or, Bool.or_true]; rfl)
                            rw [y29] at v0
                            clear y25 y29
                            have HBF := Lib.hid (HBF.out.alloc HBF.out.size (.cells #[.int .i64 29, .string y.text, .string y.typ, .int .i64 y.num, .slice A5 y.kids.length c5] 31))
                            go_wp2_with fail
                            go_roundw
                            case rel => exact ⟨k + 1, by simp, by omega, HNX.out, HBF⟩
                            case measure => simp [intOf]; omega
                          · by_cases y26 : y.kind = 26
                            · cases y42 : y.text.toList == [42] with
                              | true =>
                                have HNX := Lib.hid (show (T.take (k + 1)).all (rgP T) = true by rw [HTK.out, HU.out, HRB.out]; unfold placeN; rw [decide_eq_true y26, y42]; simp)
                                rw [y26] at v0
                                clear y25 y29 y26
                                have HBF := Lib.hid (HBF.out.alloc HBF.out.size (.cells #[.int .i64 26, .string y.text, .string y.typ, .int .i64 y.num, .slice A5 y.kids.length c5] 31))
                                go_wp2_with fail
                                go_roundw
                                case rel => exact ⟨k + 1, by simp, by omega, HNX.out, HBF⟩
                                case measure => simp [intOf]; omega
                              | false =>
                                have HBAD := Lib.hid (HNG.out (by rw [HRB.out]; unfold placeN; rw [decide_eq_false y25, decide_eq_false y29, y42, Bool.and_false]; rfl))
                                rw [y26] at v0
                                clear y25 y29 y26
                                have HBF := Lib.hid (HBF.out.alloc HBF.out.size (.cells #[.int .i64 26, .string y.text, .string y.typ, .int .i64 y.num, .slice A5 y.kids.length c5] 31))
                                go_wp2_with fail
                                go_ret
                                exact RdR.no HBAD.out HBF.out
                            · have HBAD := Lib.hid (HNG.out (by rw [HRB.out]; unfold placeN; rw [decide_eq_false y25, decide_eq_false y29, decide_eq_false y26]; rfl))
                              have n25 : (y.kind != 25) = true := by simpa using y25
                              have n29 : (y.kind != 29) = true := by simpa using y29
                              have n26 : (y.kind != 26) = true := by simpa using y26
                              clear y25 y29 y26
                              have HBF := Lib.hid (HBF.out.alloc HBF.out.size (.cells #[.int .i64 y.kind, .string y.text, .string y.typ, .int .i64 y.num, .slice A5 y.kids.length c5] 31))
                              go_wp2_with fail
                              go_ret
                              exact RdR.no HBAD.out HBF.out
                      · have HNX := Lib.hid (show (T.take (k + 1)).all (rgP T) = true by rw [HTK.out, HU.out, ← HEQ.out, HOK.out, Bool.true_and, Bool.true_and]; unfold rgB; rw [if_neg (by omega), if_neg (by omega), if_neg (by omega)])
                        have m4 : (x.kind == 4) = false := by rw [beq_eq_false_iff_ne]; omega
                        have m26 : (x.kind == 26) = false := by rw [beq_eq_false_iff_ne]; omega
                        have m8 : (x.kind == 8) = false := by rw [beq_eq_false_iff_ne]; omega
                        clear hk4 hk26 hk8
                        go_wp2_with fail
                        (refine wp_region_wb (by kernel_rfl) (by kernel_rfl) ?_; (repeat (first | go_big_quiet_step ((go_at_call 19; exact quietB (HTX.out _ _ _ _ (by first | exact .inl ⟨rfl, rfl, rfl⟩ | exact .inr ⟨rfl, rfl, rfl⟩)))) | quiet_step ((go_at_call 19; exact quietB (HTX.out _ _ _ _ (by first | exact .inl ⟨rfl, rfl, rfl⟩ | exact .inr ⟨rfl, rfl, rfl⟩)))))); refine wpQuiet_nil ?_; intro _ hw'; obtain ⟨⟨wq, hbq⟩, hw''⟩ := hw'; subst hw''; (try simp only))
                        have HBF := Lib.hid (HB2.out.trans (hbq.mono hw2))
                        have k0 := (hbq.cell (p := ⟨nb, 0, none⟩) hnb).trans g0
                        have k1 := (hbq.cell (p := ⟨nb, 1, none⟩) hnb).trans g1
                        have k2 := (hbq.cell (p := ⟨nb, 2, none⟩) hnb).trans g2
                        have k3 := (hbq.cell (p := ⟨nb, 3, none⟩) hnb).trans g3
                        have k4 := (hbq.cell (p := ⟨nb, 4, none⟩) hnb).trans g4
                        have hnbq := Nat.lt_of_lt_of_le hnb hbq.size
                        clear hbq t0 t1 t2 t3 t4
                        go_wp2_with fail
                        go_roundw
                        case rel => exact ⟨k + 1, by simp, by omega, HNX.out, HBF⟩
                        case measure => simp [intOf]; omega
                · have HBAD := Lib.hid (HNG.out (by rw [← HEQ.out, HOKE.out, hc45, decide_eq_true (show x.num ≠ 0 from hnm)]; simp))
                  have hn0 : (x.num != 0) = true := by simpa using hnm
                  clear hc45 hnm
                  go_wp2_with fail
                  (refine wp_region_wb (by kernel_rfl) (by kernel_rfl) ?_; (repeat (first | go_big_quiet_step ((go_at_call 19; exact quietB (HTX.out _ _ _ _ (by first | exact .inl ⟨rfl, rfl, rfl⟩ | exact .inr ⟨rfl, rfl, rfl⟩)))) | quiet_step ((go_at_call 19; exact quietB (HTX.out _ _ _ _ (by first | exact .inl ⟨rfl, rfl, rfl⟩ | exact .inr ⟨rfl, rfl, rfl⟩)))))); refine wpQuiet_nil ?_; intro _ hw'; obtain ⟨⟨wq, hbq⟩, hw''⟩ := hw'; subst hw''; (try simp only))
                  have HBF := Lib.hid (HB2.out.trans (hbq.mono hw2))
                  clear hbq
                  go_wp2_with fail
                  go_ret
                  exact RdR.no HBAD.out HBF.out
              · have c45 : ((lc.toNat : Int) == 45) = false := by
                  rw [beq_eq_false_iff_ne]
                  intro h
                  exact hc45 (UInt8.toNat_inj.1 (show lc.toNat = 45 by omega))
                obtain ⟨hk4, hk26, hk8⟩ := HK45.out hc45
                by_cases hc100 : lc = 100
                · have c100 : ((lc.toNat : Int) == 100) = true := by rw [hc100]; rfl
                  by_cases hnm : x.num < 0
                  · have HBAD := Lib.hid (HNG.out (by rw [← HEQ.out, HOKE.out, decide_eq_true hc100, decide_eq_true hnm]; rfl))
                    clear hc45 hc100
                    go_wp2_with fail
                    (refine wp_region_wb (by kernel_rfl) (by kernel_rfl) ?_; (repeat (first | go_big_quiet_step ((go_at_call 19; exact quietB (HTX.out _ _ _ _ (by first | exact .inl ⟨rfl, rfl, rfl⟩ | exact .inr ⟨rfl, rfl, rfl⟩)))) | quiet_step ((go_at_call 19; exact quietB (HTX.out _ _ _ _ (by first | exact .inl ⟨rfl, rfl, rfl⟩ | exact .inr ⟨rfl, rfl, rfl⟩)))))); refine wpQuiet_nil ?_; intro _ hw'; obtain ⟨⟨wq, hbq⟩, hw''⟩ := hw'; subst hw''; (try simp only))
                    have HBF := Lib.hid (HB2.out.trans (hbq.mono hw2))
                    clear hbq
                    go_wp2_with fail
                    go_ret
                    exact RdR.no HBAD.out HBF.out
                  · have HOK := Lib.hid (show rgA x = true by rw [HOKE.out, decide_eq_false hc45, decide_eq_false hnm, Bool.and_false]; rfl)
                    clear hc45 hc100
                    have HNX := Lib.hid (show (T.take (k + 1)).all (rgP T) = true by rw [HTK.out, HU.out, ← HEQ.out, HOK.out, Bool.true_and, Bool.true_and]; unfold rgB; rw [if_neg (by omega), if_neg (by omega), if_neg (by omega)])
                    have m4 : (x.kind == 4) = false := by rw [beq_eq_false_iff_ne]; omega
                    have m26 : (x.kind == 26) = false := by rw [beq_eq_false_iff_ne]; omega
                    have m8 : (x.kind == 8) = false := by rw [beq_eq_false_iff_ne]; omega
                    clear hk4 hk26 hk8
                    go_wp2_with fail
                    (refine wp_region_wb (by kernel_rfl) (by kernel_rfl) ?_; (repeat (first | go_big_quiet_step ((go_at_call 19; exact quietB (HTX.out _ _ _ _ (by first | exact .inl ⟨rfl, rfl, rfl⟩ | exact .inr ⟨rfl, rfl, rfl⟩)))) | quiet_step ((go_at_call 19; exact quietB (HTX.out _ _ _ _ (by first | exact .inl ⟨rfl, rfl, rfl⟩ | exact .inr ⟨rfl, rfl, rfl⟩)))))); refine wpQuiet_nil ?_; intro _ hw'; obtain ⟨⟨wq, hbq⟩, hw''⟩ := hw'; subst hw''; (try simp only))
                    have HBF := Lib.hid (HB2.out.trans (hbq.mono hw2))
                    have k0 := (hbq.cell (p := ⟨nb, 0, none⟩) hnb).trans g0
                    have k1 := (hbq.cell (p := ⟨nb, 1, none⟩) hnb).trans g1
                    have k2 := (hbq.cell (p := ⟨nb, 2, none⟩) hnb).trans g2
                    have k3 := (hbq.cell (p := ⟨nb, 3, none⟩) hnb).trans g3
                    have k4 := (hbq.cell (p := ⟨nb, 4, none⟩) hnb).trans g4
                    have hnbq := Nat.lt_of_lt_of_le hnb hbq.size
                    clear hbq t0 t1 t2 t3 t4
                    go_wp2_with fail
                    go_roundw
                    case rel => exact ⟨k + 1, by simp, by omega, HNX.out, HBF⟩
                    case measure => simp [intOf]; omega
                · have c100 : ((lc.toNat : Int) == 100) = false := by
                    rw [beq_eq_false_iff_ne]
                    intro h
                    exact hc100 (UInt8.toNat_inj.1 (show lc.toNat = 100 by omega))
                  have HOK := Lib.hid (show rgA x = true by rw [HOKE.out, decide_eq_false hc45, decide_eq_false hc100]; rfl)
                  clear hc45 hc100
                  have HNX := Lib.hid (show (T.take (k + 1)).all (rgP T) = true by rw [HTK.out, HU.out, ← HEQ.out, HOK.out, Bool.true_and, Bool.true_and]; unfold rgB; rw [if_neg (by omega), if_neg (by omega), if_neg (by omega)])
                  have m4 : (x.kind == 4) = false := by rw [beq_eq_false_iff_ne]; omega
                  have m26 : (x.kind == 26) = false := by rw [beq_eq_false_iff_ne]; omega
                  have m8 : (x.kind == 8) = false := by rw [beq_eq_false_iff_ne]; omega
                  clear hk4 hk26 hk8
                  go_wp2_with fail
                  (refine wp_region_wb (by kernel_rfl) (by kernel_rfl) ?_; (repeat (first | go_big_quiet_step ((go_at_call 19; exact quietB (HTX.out _ _ _ _ (by first | exact .inl ⟨rfl, rfl, rfl⟩ | exact .inr ⟨rfl, rfl, rfl⟩)))) | quiet_step ((go_at_call 19; exact quietB (HTX.out _ _ _ _ (by first | exact .inl ⟨rfl, rfl, rfl⟩ | exact .inr ⟨rfl, rfl, rfl⟩)))))); refine wpQuiet_nil ?_; intro _ hw'; obtain ⟨⟨wq, hbq⟩, hw''⟩ := hw'; subst hw''; (try simp only))
                  have HBF := Lib.hid (HB2.out.trans (hbq.mono hw2))
                  have k0 := (hbq.cell (p := ⟨nb, 0, none⟩) hnb).trans g0
                  have k1 := (hbq.cell (p := ⟨nb, 1, none⟩) hnb).trans g1
                  have k2 := (hbq.cell (p := ⟨nb, 2, none⟩) hnb).trans g2
                  have k3 := (hbq.cell (p := ⟨nb, 3, none⟩) hnb).trans g3
                  have k4 := (hbq.cell (p := ⟨nb, 4, none⟩) hnb).trans g4
                  have hnbq := Nat.lt_of_lt_of_le hnb hbq.size
                  clear hbq t0 t1 t2 t3 t4
                  go_wp2_with fail
                  go_roundw
                  case rel => exact ⟨k + 1, by simp, by omega, HNX.out, HBF⟩
                  case measure => simp [intOf]; omega
          --@END
        · have HG := Lib.hid (show GoodT T from ⟨by have := HN.out; omega, HL.out, by
            have := HU.out
            rw [List.take_of_length_le (by have := HN.out; omega)] at this
            exact this⟩)
          go_wp2_with fail
          go_ret
          exact RdR.of true ⟨fun _ => HG.out, fun _ => rfl⟩ HB.out
end Go.Proofs.YtkpejdkffkhekaaGreatDoor
