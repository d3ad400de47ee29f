/- The document's 'Tokens'. Conditions: none. -/
import Derived.Test.YtgjhjojbaieeaaaScRefE
set_option maxRecDepth 20000
namespace Go.Proofs.Ytgjhjojbaieeaaa
open Go.ChangeShapes Go.WideShapes Go.ChangeAt Go.RowKit
set_option maxHeartbeats 4000000 in
theorem refTokens_any (src : ByteArray) (w : World) (hsz : src.size ≤ 8000) : Calls Try.prog 27 #[.string src] w fun e w' => TP src e w' ∧ Below w.heap.size w w' := by
  have hmf : ∀ (fn : Fn) (first cap : Array Value) (w : World), (Instr.makeFunc fn first cap).run Try.prog w = .ok (.func fn first cap) w := fun _ _ _ _ => rfl
  have hn0 : ¬ 8000 < (src.size : Int) := by omega
  go_enter Try.func27, Try.ntmps27
  go_wp2_with fail
  generalize hw3 : World.alloc _ (Obj.cells #[Value.slice none 0 0] _) = w3
  have hb3 : Below w.heap.size w w3 ∧ w3.heap.size = w.heap.size + 3 := by subst hw3; exact ⟨sq (sq (al _) (al _)) (al _), by simp⟩
  have hrt3 : RT w3 w.heap.size src (.slice none 0 0) [] := by
    subst hw3
    refine ⟨by simp [go_sem], by simp [go_sem], by simp [go_sem], World.ownsRow_nil _ _ _ _⟩
  have hsc3 : SC w3 w.heap.size := by subst hw3; constructor <;> simp [go_sem]
  clear hw3
  generalize hg : w.heap.size = g at *
  have HSC := Lib.hid hsc3
  have HB3 := Lib.hid hb3
  clear hsc3 hb3
  go_loopw [6] (fun a wr => ∃ (p : Nat) (T : List Tk) (A : Option Addr) (C : Nat), a = .int .i64 (p : Int) ∧ p ≤ src.size + 1 ∧ T.length ≤ 2000 ∧ Hid (AtR src p T) ∧ Hid (LastG T) ∧ RT wr g src (.slice A T.length C) T ∧ Below (g + 2) w3 wr) (fun a _ => src.size + 1 - (intOf a).toNat)
  case atStart => exact ⟨0, [], none, 0, rfl, by omega, by simp, Lib.hid (.inl ⟨by omega, fun _ h => h⟩), Lib.hid (fun t h => by cases h), hrt3, Below.refl _ _⟩
  case round =>
    clear hrt3
    obtain ⟨p, T, A, C, rfl, hp, hT, HA, HL, hrt, hbel⟩ := hrel
    have c0 := hrt.c0
    have c4 := hrt.c4
    have HRT := Lib.hid (And.intro hrt hbel)
    clear hrt hbel
    by_cases hend : p = src.size + 1
    · obtain ⟨r1, r2, r3, z1, z2, z3⟩ := HSC.out.below HRT.out.2
      have hpi : ¬ (p : Int) ≤ (src.size : Int) := by omega
      have HT := Lib.hid hT
      have HE := Lib.hid hend
      clear hend hT
      go_wp2_with fail
      refine bodyPost_ret (v := .tuple #[.slice A T.length C, .agg #[.int .i64 0, .int .i64 0, .int .i64 0]]) (by simp [results, Try.results27, go_sem, r1, r2, r3]) rfl ⟨⟨.ok T, ?_, A, C, rfl, ?_, HT.out⟩, ?_⟩
      · rcases HA.out with ⟨h, _⟩ | ⟨_, h⟩
        · have := HE.out; omega
        · exact h
      · exact Rd.of_own (own_cell (own_cell (own_cell HRT.out.1.row (a := ⟨g + 1, 0, none⟩) (show g + 1 < g + 3 by omega) _) (a := ⟨g + 1, 1, none⟩) (show g + 1 < g + 3 by omega) _) (a := ⟨g + 1, 2, none⟩) (show g + 1 < g + 3 by omega) _)
      · try rw [hg]
        exact (((HB3.out.1.trans (HRT.out.2.mono (by omega))).setCell (p := ⟨g + 1, 0, none⟩) (Nat.le_succ g) _).setCell (p := ⟨g + 1, 1, none⟩) (Nat.le_succ g) _).setCell (p := ⟨g + 1, 2, none⟩) (Nat.le_succ g) _
    · by_cases hnl : p = src.size ∨ ∃ h : p < src.size, src[p] = 10
      · have HNL := Lib.hid hnl
        have hps : p ≤ src.size := by rcases hnl with h | ⟨h, _⟩ <;> omega
        have hpi : (p : Int) ≤ (src.size : Int) := by omega
        have hf : ((p : Int) == (src.size : Int)) = true ∨ (∃ (hlt : p < src.size), ((p : Int) == (src.size : Int)) = false ∧ (((src[p]).toNat : Int) == 10) = true) := by
          rcases hnl with h | ⟨h, h10⟩
          · exact .inl (by simp [h])
          · exact .inr ⟨h, by simp; omega, by rw [h10]; rfl⟩
        clear hnl hend
        have HSM := Lib.hid (fun (T' : List Tk) (h : semiT src.data.toList p T = some T') => HA.out.semi HNL.out h)
        have HFL := Lib.hid (fun (h : semiT src.data.toList p T = none) => HA.out.full HNL.out h)
        rcases hf with hne | ⟨hlt, hne, e10⟩
        all_goals
          try generalize hcc : src[p] = cc at *
          rcases snoc_cases T with rfl | ⟨T0, t, rfl⟩
          · go_wp2_with fail
            exact ⟨⟨p + 1, [], A, C, by go_num, by omega, hT, Lib.hid (HSM.out [] rfl), HL, HRT.out.1, HRT.out.2⟩, by simp [intOf]; omega⟩
          · have hrt := HRT.out.1
            rw [List.length_append, List.length_singleton] at hrt c4
            obtain ⟨b, rfl, e0, e1, e2, e3⟩ := hrt.last
            have hl : T0.length + 1 ≤ 2000 := by simpa using hT
            have HE := Lib.hid (lastEnds_snoc T0 t)
            have HLG := Lib.hid (HL.out t (List.getLast?_concat ..))
            have hlen : T0.length + 1 = (T0 ++ [t]).length := by simp
            have HLEN := Lib.hid hlen
            have HT := Lib.hid hT
            clear hrt hlen hT
            generalize T0.length = m at *
            generalize hTT : T0 ++ [t] = T at *
            clear hTT
            obtain ⟨tk, ts, tl, tc⟩ := t
            simp only at e0 e1 e2 e3 HE HLG
            go_wp2_with fail
            refine (closes_any tk tl tc ts HLG.out wr).mono ?_
            rintro e w1 ⟨rfl, hb1⟩
            have HB := Lib.hid (HRT.out.2.trans (hb1.mono (Nat.le_of_lt HRT.out.1.lt)))
            have HR1 := Lib.hid (HRT.out.1.into hb1)
            clear hb1
            cases he : endsT tk ts.data.toList with
            | false =>
              rw [he] at HE
              have HS := Lib.hid (HSM.out T (by unfold semiT; rw [HE.out]; rfl))
              go_wp2_with fail
              exact ⟨⟨p + 1, T, _, C, by go_num, by omega, HT.out, HS, HL, HR1.out, HB.out⟩, by simp [intOf]; omega⟩
            | true =>
              rw [he] at HE
              have hr1 := HR1.out
              rw [← HLEN.out] at hr1
              have HADD := Lib.hid (addRef_any g src p 6 ⟨#[59]⟩ _ (m + 1) C T w1 hr1 HLEN.out HT.out hps hsz)
              clear hr1
              go_wp2_with fail
              refine HADD.out.mono ?_
              rintro e w2 ⟨rfl, ⟨v', hr2⟩, hb2⟩
              have HR2 := Lib.hid hr2
              have HB2 := Lib.hid (HB.out.trans hb2)
              clear hr2 hb2
              by_cases hfull : m + 1 < 2000
              · rw [decide_eq_true hfull]
                obtain ⟨A', C', rfl⟩ := HR2.out.slice
                have hTl := HLEN.out
                have HS := Lib.hid (HSM.out (T ++ [tkAt src.data.toList p 6 [59]]) (by unfold semiT addT; rw [HE.out, if_pos rfl, if_neg (by omega)]))
                have HTL := Lib.hid (show (T ++ [tkAt src.data.toList p 6 [59]]).length ≤ 2000 by simp; omega)
                clear hTl
                go_wp2_with fail
                exact ⟨⟨p + 1, T ++ [tkAt src.data.toList p 6 [59]], A', C', by go_num, by omega, HTL.out, HS, Lib.hid (LastG.semi _ _ _ _), HR2.out, HB2.out⟩, by simp [intOf]; omega⟩
              · rw [decide_eq_false hfull]
                have hTl := HLEN.out
                have HS := Lib.hid (HFL.out (by unfold semiT addT; rw [HE.out, if_pos rfl, if_pos (by omega)]))
                have d0 := HR2.out.c0
                clear hTl c0 c4 e0 e1 e2 e3
                go_wp2_with fail
                refine (spotAt_any src p 15 hps hsz _).mono ?_
                rintro e w5 ⟨rfl, hb5⟩
                have HB5 := Lib.hid (HB2.out.trans (hb5.mono (Nat.le_of_lt HR2.out.lt)))
                obtain ⟨r1, r2, r3, z1, z2, z3⟩ := HSC.out.below HB5.out
                clear hb5
                go_wp2_with fail
                refine bodyPost_ret (v := .tuple #[.slice none 0 0, .agg #[.int .i64 15, .int .i64 ((place (src.data.toList.take p)).1 : Int), .int .i64 ((place (src.data.toList.take p)).2 : Int)]]) (by simp [results, Try.results27, go_sem, r1, r2, r3]) rfl ⟨⟨_, HS.out, rfl⟩, ?_⟩
                try rw [hg]
                exact (((HB3.out.1.trans (HB5.out.mono (by omega))).setCell (p := ⟨g + 1, 0, none⟩) (Nat.le_succ g) _).setCell (p := ⟨g + 1, 1, none⟩) (Nat.le_succ g) _).setCell (p := ⟨g + 1, 2, none⟩) (Nat.le_succ g) _
      · have hlt : p < src.size := by
          rcases Nat.lt_or_ge p src.size with h | h
          · exact h
          · exact absurd (.inl (by omega)) hnl
        have h10 : src[p] ≠ 10 := fun e => hnl (.inr ⟨hlt, e⟩)
        have hhd := head_get src p hlt
        have HHD := Lib.hid hhd
        have H10 := Lib.hid h10
        have e10 := nb h10 10 rfl
        have hne : ((p : Int) == (src.size : Int)) = false := by simp; omega
        have hple : (p : Int) ≤ (src.size : Int) := by omega
        have HNX := Lib.hid (fun (p' : Nat) (T' : List Tk) (h : nx src.data.toList p T = .ok (p', T')) => And.intro (nx_ok hlt hT h) (HA.out.ok hlt hT h))
        have HER := Lib.hid (fun (c : Int) (h : nx src.data.toList p T = .error c) => HA.out.err hlt h)
        generalize hcc : src[p] = cc at *
        clear hnl h10 hhd
        by_cases hbl : cc = 32 ∨ cc = 9 ∨ cc = 13
        · have hst := nx_skip (T := T) (p := p) (src := src) (n := 1) (by unfold stepS; dsimp only; rw [HHD.out, if_neg H10.out, if_pos hbl])
          obtain ⟨⟨hq1, hq2, hq3⟩, hq4⟩ := HNX.out _ _ hst
          have HQ := Lib.hid hq4
          clear hst hq4
          rcases hbl with h | h | h
          · have e32 : ((cc.toNat : Int) == 32) = true := by rw [h]; rfl
            clear h
            go_wp2_with fail
            exact ⟨⟨p + 1, T, A, C, by go_num, by omega, hT, HQ, HL, HRT.out.1, HRT.out.2⟩, by simp [intOf]; omega⟩
          · have e32 : ((cc.toNat : Int) == 32) = false := by rw [h]; rfl
            have e9 : ((cc.toNat : Int) == 9) = true := by rw [h]; rfl
            clear h
            go_wp2_with fail
            exact ⟨⟨p + 1, T, A, C, by go_num, by omega, hT, HQ, HL, HRT.out.1, HRT.out.2⟩, by simp [intOf]; omega⟩
          · have e32 : ((cc.toNat : Int) == 32) = false := by rw [h]; rfl
            have e9 : ((cc.toNat : Int) == 9) = false := by rw [h]; rfl
            have e13 : ((cc.toNat : Int) == 13) = true := by rw [h]; rfl
            clear h
            go_wp2_with fail
            exact ⟨⟨p + 1, T, A, C, by go_num, by omega, hT, HQ, HL, HRT.out.1, HRT.out.2⟩, by simp [intOf]; omega⟩
        · have e32 := nb (fun e => hbl (.inl e) : cc ≠ 32) 32 rfl
          have e9 := nb (fun e => hbl (.inr (.inl e)) : cc ≠ 9) 9 rfl
          have e13 := nb (fun e => hbl (.inr (.inr e)) : cc ≠ 13) 13 rfl
          by_cases hcm : (src.data.toList.drop p).take 2 = [47, 47]
          · have h1 : (p : Int) + 1 < (src.size : Int) := by
              have := congrArg List.length hcm
              simp at this
              omega
            have ht : ((src.extract p (p + 2)).toList == [47, 47]) = true := by
              rw [ByteArray.toList_eq, show (src.extract p (p + 2)).data.toList = (src.data.toList.drop p).take 2 by rw [ext_take], hcm]
              rfl
            have HST := Lib.hid (show stepS (src.data.toList.drop p) = .skip (llen (src.data.toList.drop p)) by unfold stepS; dsimp only; rw [HHD.out, if_neg H10.out, if_neg hbl, if_pos hcm])
            clear hbl hcm
            obtain ⟨⟨hq1, hq2, hq3⟩, hq4⟩ := HNX.out _ _ (nx_skip HST.out)
            have HQ := Lib.hid hq4
            have HQ1 := Lib.hid hq1
            have HQ2 := Lib.hid hq2
            clear hq1 hq2 hq4
            go_wp2_with fail
            go_loop [6] (fun a => ∃ i j : Nat, a = .int .i64 (j : Int) ∧ Hid (j = p + i) ∧ j ≤ src.size ∧ Hid (i ≤ llen (src.data.toList.drop p))) (fun a => src.size - (intOf a).toNat)
            case atStart => exact ⟨0, p, rfl, rfl, by omega, Lib.hid (Nat.zero_le _)⟩
            case round =>
              obtain ⟨i, j, rfl, HJ, hj, HI⟩ := hrel
              have out : Hid (llen (src.data.toList.drop p) = i) → Hid (j = p + llen (src.data.toList.drop p)) := fun h => Lib.hid (by rw [h.out]; exact HJ.out)
              have HOUT := Lib.hid out
              clear out
              by_cases hjl : j < src.size
              · have HG := Lib.hid (src_get src p i j HJ.out hjl)
                generalize hdd : src[j] = d at *
                by_cases hd : d = 10
                · have ed : ((d.toNat : Int) != 10) = false := by rw [hd]; rfl
                  have HX := HOUT.out (Lib.hid (Nat.le_antisymm (tw_stop HG.out (by rw [hd]; rfl)) HI.out))
                  have HJ1 := Lib.hid (show p < j by rw [HX.out]; exact HQ1.out)
                  clear hd
                  go_wp2_with fail
                  exact ⟨⟨j, T, A, C, rfl, by omega, hT, Lib.hid (by rw [HX.out]; exact HQ.out), HL, HRT.out.1, HRT.out.2⟩, by have := HJ1.out; simp [intOf]; omega⟩
                · have ed : ((d.toNat : Int) != 10) = true := by rw [bne, nb hd 10 rfl]; rfl
                  have HI2 := Lib.hid (tw_step (P := fun c => !decide (c = 10)) HI.out HG.out (by simpa using hd))
                  have HJ2 := Lib.hid (show j + 1 = p + (i + 1) by have := HJ.out; omega)
                  clear hd
                  go_wp2_with fail
                  exact ⟨⟨i + 1, j + 1, by go_num, HJ2, by omega, HI2⟩, by simp [intOf]; omega⟩
              · have HX := HOUT.out (Lib.hid (by
                  have h1 := HI.out
                  have h2 := tw_len (fun c => !decide (c = 10)) (src.data.toList.drop p)
                  have h3 := drop_len src p
                  have h4 := HJ.out
                  unfold llen at h1 ⊢
                  omega))
                have HJ1 := Lib.hid (show p < j by rw [HX.out]; exact HQ1.out)
                go_wp2_with fail
                exact ⟨⟨j, T, A, C, rfl, by omega, hT, Lib.hid (by rw [HX.out]; exact HQ.out), HL, HRT.out.1, HRT.out.2⟩, by have := HJ1.out; simp [intOf]; omega⟩
          · have ht : (p : Int) + 1 < (src.size : Int) → ((src.extract p (p + 2)).toList == [47, 47]) = false := by
              intro _
              rw [ByteArray.toList_eq, show (src.extract p (p + 2)).data.toList = (src.data.toList.drop p).take 2 by rw [ext_take], beq_eq_false_iff_ne]
              exact hcm
            have htk := tokR_step (L := src.data.toList.drop p) (by rw [HHD.out]; exact H10.out) (by rw [HHD.out]; exact hbl) hcm
            have HTA := Lib.hid (tokenAt_any (src.extract p src.size) (by rw [ByteArray.size_extract]; omega) (by rw [ByteArray.size_extract]; omega))
            have HTK := Lib.hid htk
            clear hbl hcm htk
            by_cases h1 : (p : Int) + 1 < (src.size : Int)
            all_goals
              have hta := HTA.out
              rw [rest_of] at hta
              have HTA := Lib.hid hta
              first
                | (have ht := ht h1)
                | (clear ht)
              clear hta
              go_wp2_with fail
              refine (HTA.out _).mono ?_
              rintro e w1 ⟨rfl, hb1⟩
              have HB := Lib.hid (HRT.out.2.trans (hb1.mono (Nat.le_of_lt HRT.out.1.lt)))
              have HR1 := Lib.hid (HRT.out.1.into hb1)
              have d0 := HR1.out.c0
              clear hb1
              rcases HTK.out with ⟨k, n, hst, htr⟩ | ⟨c, hst, htr, hc⟩
              · have hn := (step_len (L := src.data.toList.drop p) (fun e => by have := drop_len src p; rw [e] at this; simp at this; omega)).2 _ _ hst
                rw [drop_len] at hn
                have HST := Lib.hid hst
                unfold tokV
                rw [htr]
                have hn1 : (p : Int) ≤ (p : Int) + (n : Int) := by omega
                have hn2 : (p : Int) + (n : Int) ≤ (src.size : Int) := by omega
                have HADD := Lib.hid (addRef_any g src p k (src.extract p (p + n)) A T.length C T w1 HR1.out rfl hT (by omega) hsz)
                have HTT := Lib.hid hT
                have HEX : Hid ((⟨k, src.extract p (p + n), ((place (src.data.toList.take p)).1 : Int), ((place (src.data.toList.take p)).2 : Int)⟩ : Tk) = tkAt src.data.toList p k ((src.data.toList.drop p).take n)) := Lib.hid (by rw [ext_take]; rfl)
                clear hst htr hn hT c0 c4
                generalize hN : T.length = N at *
                have HN := Lib.hid hN
                clear hN
                go_wp2_with fail
                refine HADD.out.mono ?_
                rintro e w2 ⟨rfl, ⟨v', hr2⟩, hb2⟩
                rw [HEX.out] at hr2
                have HR2 := Lib.hid hr2
                have HB2 := Lib.hid (HB.out.trans hb2)
                clear hr2 hb2
                have HAD := Lib.hid (nx_put (T := T) HST.out)
                by_cases hfull : N < 2000
                · rw [decide_eq_true hfull]
                  obtain ⟨A', C', rfl⟩ := HR2.out.slice
                  have HNX2 := HNX.out _ _ (HAD.out.trans (show putR src p n T k = .ok (p + n, T ++ [tkAt src.data.toList p k ((src.data.toList.drop p).take n)]) by unfold putR addR addT; rw [if_neg (by have := HN.out; omega)]))
                  have HQ := Lib.hid HNX2
                  clear HNX2
                  go_wp2_with fail
                  exact ⟨⟨p + n, _, A', C', by go_num, by have := HQ.out.1.2.1; omega, HQ.out.1.2.2, Lib.hid HQ.out.2, Lib.hid (fun t ht => by
                    rw [List.getLast?_concat] at ht
                    injection ht with ht
                    subst ht
                    exact step_good HST.out), HR2.out, HB2.out⟩, by have := HQ.out.1.1; simp [intOf]; omega⟩
                · rw [decide_eq_false hfull]
                  have HS := Lib.hid (HER.out _ (HAD.out.trans (show putR src p n T k = .error 15 by unfold putR addR addT; rw [if_pos (by have := HN.out; have := HTT.out; omega)])))
                  have d2 := HR2.out.c0
                  clear d0
                  go_wp2_with fail
                  refine (spotAt_any src p 15 (by omega) hsz _).mono ?_
                  rintro e w5 ⟨rfl, hb5⟩
                  have HB5 := Lib.hid (HB2.out.trans (hb5.mono (Nat.le_of_lt HR2.out.lt)))
                  obtain ⟨r1, r2, r3, z1, z2, z3⟩ := HSC.out.below HB5.out
                  clear hb5
                  go_wp2_with fail
                  refine bodyPost_ret (v := .tuple #[.slice none 0 0, .agg #[.int .i64 15, .int .i64 ((place (src.data.toList.take p)).1 : Int), .int .i64 ((place (src.data.toList.take p)).2 : Int)]]) (by simp [results, Try.results27, go_sem, r1, r2, r3]) rfl ⟨⟨_, HS.out, rfl⟩, ?_⟩
                  try rw [hg]
                  exact (((HB3.out.1.trans (HB5.out.mono (by omega))).setCell (p := ⟨g + 1, 0, none⟩) (Nat.le_succ g) _).setCell (p := ⟨g + 1, 1, none⟩) (Nat.le_succ g) _).setCell (p := ⟨g + 1, 2, none⟩) (Nat.le_succ g) _
              · have HS := Lib.hid (HER.out _ (nx_err hst))
                unfold tokV
                rw [htr]
                have hcn : (c != 0) = true := by simpa using hc
                clear hst htr hc c0 c4
                go_wp2_with fail
                refine (spotAt_any src p c (by omega) hsz _).mono ?_
                rintro e w5 ⟨rfl, hb5⟩
                have HB5 := Lib.hid (HB.out.trans (hb5.mono (Nat.le_of_lt HR1.out.lt)))
                obtain ⟨r1, r2, r3, z1, z2, z3⟩ := HSC.out.below HB5.out
                clear hb5
                go_wp2_with fail
                refine bodyPost_ret (v := .tuple #[.slice none 0 0, .agg #[.int .i64 c, .int .i64 ((place (src.data.toList.take p)).1 : Int), .int .i64 ((place (src.data.toList.take p)).2 : Int)]]) (by simp [results, Try.results27, go_sem, r1, r2, r3]) rfl ⟨⟨_, HS.out, rfl⟩, ?_⟩
                try rw [hg]
                exact (((HB3.out.1.trans (HB5.out.mono (by omega))).setCell (p := ⟨g + 1, 0, none⟩) (Nat.le_succ g) _).setCell (p := ⟨g + 1, 1, none⟩) (Nat.le_succ g) _).setCell (p := ⟨g + 1, 2, none⟩) (Nat.le_succ g) _
end Go.Proofs.Ytgjhjojbaieeaaa
