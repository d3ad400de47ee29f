/- 'SqueezeSays' is true. Conditions: none. -/
import Derived.Test.YtapbdfcihheecaaSqL
import Derived.Test.YtapbdfcihheecaaIpE
import Derived.Test.YtapbdfcihheecaaCdK
import Derived.Test.YtapbdfcihheecaaCdI
set_option maxRecDepth 100000
namespace Go.Proofs.Ytapbdfcihheecaa
open Go.ChangeShapes Go.WideShapes Go.ChangeAt Go.RowKit
/-- The answer, in one: the code and the error's number. -/
def SqOne (K : KK) (s : Int) (w : World) (e : Ending) (w' : World) : Prop :=
  ∃ J FA fc TA tc, ((s = 0 ∧ SqzK K J) ∨ (¬ s = 0 ∧ J = ⟨[], []⟩)) ∧ e = .returned (.tuple #[.agg #[.slice FA J.funcs.length fc, .slice TA J.texts.length tc], .int .i64 s]) ∧ KR w' w'.heap.size FA TA J ∧ Below w.heap.size w w'
theorem SqzPost.one {K : KK} {w w' : World} {e : Ending} (h : SqzPost K w e w') : SqOne K (soundV K).1 w e w' := by
  obtain ⟨h | h, hb⟩ := h
  · obtain ⟨h0, rfl⟩ := h
    exact ⟨⟨[], []⟩, none, 0, none, 0, .inr ⟨h0, rfl⟩, rfl, ⟨fun k f h => by simp at h, ⟨rfl, fun h => by simp at h⟩, fun s h => by simp at h, fun s h => by simp at h, by simp, by simp, fun s h => by simp at h⟩, hb⟩
  · obtain ⟨h0, J, FA, fc, TA, tc, hs, rfl, hk⟩ := h
    exact ⟨J, FA, fc, TA, tc, .inl ⟨h0, hs⟩, by rw [h0], hk, hb⟩
theorem one_uniq {K J J' : KK} {s : Int} (h : (s = 0 ∧ SqzK K J) ∨ (¬ s = 0 ∧ J = ⟨[], []⟩)) (h' : (s = 0 ∧ SqzK K J') ∨ (¬ s = 0 ∧ J' = ⟨[], []⟩)) : J = J' := by
  rcases h with ⟨h, h1⟩ | ⟨h, h1⟩ <;> rcases h' with ⟨h', h1'⟩ | ⟨h', h1'⟩
  · exact h1.uniq h1'
  · exact absurd h h'
  · exact absurd h' h
  · rw [h1, h1']
set_option maxHeartbeats 4000000 in
theorem walkSqueezeSays (v0 : Value) (w : World) (w0 : IsCode w v0) : Calls Try.prog 6 #[v0] w fun e w' => e = .returned (.bool true) ∧ Below w.heap.size w w' := by
  obtain ⟨K, FA, TA, fc, tc, rfl, hrd, hf⟩ := w0
  have HCP := Lib.hid (fun W (hW : Below w.heap.size w W) => copied_any K FA TA fc tc W (KK.sh.more (KK.sh.keep hrd fun p hp => hW.cell hp) fun b hb => Nat.lt_of_lt_of_le hb hW.size) hf)
  have HKR := Lib.hid (KR.of' hrd hf)
  obtain ⟨nf, hnf⟩ : ∃ n, n = K.funcs.length := ⟨_, rfl⟩
  obtain ⟨nt, hnt⟩ : ∃ n, n = K.texts.length := ⟨_, rfl⟩
  rw [← hnf, ← hnt] at HCP ⊢
  have HNF := Lib.hid hnf
  have HNT := Lib.hid hnt
  have HSF := Lib.hid (fun A' B' c' d' W hk => (squeeze_any K A' B' c' d' nf nt W HNF.out HNT.out hk).mono fun _ _ h => h.one)
  have HSR := Lib.hid (fun W (hW : Below w.heap.size w W) => (refSqueeze_any K FA TA fc tc nf nt W HNF.out HNT.out ((HKR.out.into hW).more hW.size)).mono fun _ _ h => h.one)
  clear hnf hnt hrd hf
  generalize (soundV K).1 = sv at *
  go_enter Try.func6, Try.ntmps6
  go_wp2_with fail
  refine (HCP.out _ (al _)).mono ?_
  rintro e w1 ⟨FA', fc', TA', tc', rfl, hkr, hb1⟩
  have HB1 := Lib.hid (sq (al _) hb1)
  have HKR1 := Lib.hid hkr
  have hb := (hb1.block w.heap.size (by simp)).trans (heap_alloc_new w _)
  have HBL := Lib.hid hb
  clear hb hb1 hkr
  go_wp2_with fail
  refine (HSF.out _ _ _ _ _ HKR1.out).mono ?_
  rintro e w2 ⟨J, JA, jc, JT, jtc, hj, rfl, hjk, hb2⟩
  have HBL2 := Lib.hid ((hb2.block w.heap.size (Array.getElem?_eq_some_iff.1 HBL.out).1).trans HBL.out)
  have HB2 := Lib.hid (sq HB1.out hb2)
  have HJ := Lib.hid hj
  have HJK := Lib.hid hjk
  have hz2 : w.heap.size < w2.heap.size := (Array.getElem?_eq_some_iff.1 HBL2.out).1
  have d0 : (w2.alloc (.cells #[.slice JA J.funcs.length jc, .slice JT J.texts.length jtc] 71)).cell? ⟨w.heap.size, 0, none⟩ = some (.slice FA nf fc) := (World.cell?_alloc_lt _ _ _ hz2).trans (by rw [Lib.cell_of_heap HBL2.out]; rfl)
  have d1 : (w2.alloc (.cells #[.slice JA J.funcs.length jc, .slice JT J.texts.length jtc] 71)).cell? ⟨w.heap.size, 1, none⟩ = some (.slice TA nt tc) := (World.cell?_alloc_lt _ _ _ hz2).trans (by rw [Lib.cell_of_heap HBL2.out]; rfl)
  clear hb2 hj hjk HBL HB1 HKR1
  go_wp2_with fail
  clear d0 d1
  have HX2 := Lib.hid (heap_alloc_new w2 (.cells #[.slice JA J.funcs.length jc, .slice JT J.texts.length jtc] 71))
  refine (HSR.out _ (HB2.out.alloc (by omega) _)).mono ?_
  rintro e w3 ⟨J', JB, jd, JU, jtd, hj', rfl, hjk', hb3⟩
  obtain rfl := one_uniq HJ.out hj'
  have HX3 := Lib.hid ((hb3.block w2.heap.size (by simp)).trans HX2.out)
  have HB3 := Lib.hid (sq (HB2.out.alloc (by omega) (.cells #[.slice JA J.funcs.length jc, .slice JT J.texts.length jtc] 71)) hb3)
  have HJK3 := Lib.hid (show KR w3 w3.heap.size JA JT J from (HJK.out.into ((al (.cells #[.slice JA J.funcs.length jc, .slice JT J.texts.length jtc] 71)).trans (hb3.mono (by simp)))).more (by have := hb3.size; simp at this; omega))
  have HJL := Lib.hid hjk'
  clear hj' hjk' hb3 HX2 HJK HB2 HBL2
  go_wp2_with fail
  have HX4 := Lib.hid (heap_alloc_new w3 (.cells #[.slice JB J.funcs.length jd, .slice JU J.texts.length jtd] 71))
  refine (least_any _).mono ?_
  rintro e w4 ⟨LA, lc, rfl, hlk, hb4⟩
  have hz3 : w2.heap.size < w3.heap.size := (Array.getElem?_eq_some_iff.1 HX3.out).1
  have HX3' := Lib.hid ((hb4.block w2.heap.size (Nat.lt_of_lt_of_le hz3 (by simp))).trans ((Lib.alloc_old _ _ _ hz3).trans HX3.out))
  have HX4' := Lib.hid ((hb4.block w3.heap.size (by simp)).trans HX4.out)
  have HB4 := Lib.hid (sq (HB3.out.alloc (HB3.out.size) (.cells #[.slice JB J.funcs.length jd, .slice JU J.texts.length jtd] 71)) hb4)
  have HJK4 := Lib.hid (show KR w4 w4.heap.size JA JT J from (HJK3.out.into ((al (.cells #[.slice JB J.funcs.length jd, .slice JU J.texts.length jtd] 71)).trans (hb4.mono (by simp)))).more (by have := hb4.size; simp at this; omega))
  have HJL4 := Lib.hid (show KR w4 w4.heap.size JB JU J from (HJL.out.into ((al (.cells #[.slice JB J.funcs.length jd, .slice JU J.texts.length jtd] 71)).trans (hb4.mono (by simp)))).more (by have := hb4.size; simp at this; omega))
  have HLK := Lib.hid hlk
  clear hlk hb4 HX3 HX4 HB3 HJK3 HJL hz3
  go_wp2_with fail
  refine ((squeeze_any KL LA none lc 0 1 0 w4 rfl rfl HLK.out).mono fun _ _ h => h.one).mono ?_
  rintro e w5 ⟨JL, XA, xc, XT, xtc, hjl, rfl, hjlk, hb5⟩
  have HLL := Lib.hid (show JL.funcs.length = 1 by
    rcases hjl with ⟨_, h⟩ | ⟨h, _⟩
    · exact h.2.1
    · exact absurd (by rw [sound_KL]) h)
  have HX3 := Lib.hid ((hb5.block w2.heap.size (Array.getElem?_eq_some_iff.1 HX3'.out).1).trans HX3'.out)
  have HX4 := Lib.hid ((hb5.block w3.heap.size (Array.getElem?_eq_some_iff.1 HX4'.out).1).trans HX4'.out)
  have HB5 := Lib.hid (sq HB4.out hb5)
  have HJK5 := Lib.hid ((HJK4.out.into hb5).more hb5.size)
  have HJL5 := Lib.hid ((HJL4.out.into hb5).more hb5.size)
  clear hjl hjlk hb5 HX3' HX4' HB4 HJK4 HJL4
  rw [HLL.out]
  have hz5 : w2.heap.size < w5.heap.size := (Array.getElem?_eq_some_iff.1 HX3.out).1
  have hy5 : w3.heap.size < w5.heap.size := (Array.getElem?_eq_some_iff.1 HX4.out).1
  have a0 : (w5.alloc (.cells #[.slice XA 1 xc, .slice XT JL.texts.length xtc] 71)).cell? ⟨w2.heap.size, 0, none⟩ = some (.slice JA J.funcs.length jc) := (World.cell?_alloc_lt _ _ _ hz5).trans (by rw [Lib.cell_of_heap HX3.out]; rfl)
  have a1 : (w5.alloc (.cells #[.slice XA 1 xc, .slice XT JL.texts.length xtc] 71)).cell? ⟨w2.heap.size, 1, none⟩ = some (.slice JT J.texts.length jtc) := (World.cell?_alloc_lt _ _ _ hz5).trans (by rw [Lib.cell_of_heap HX3.out]; rfl)
  have b0 : (w5.alloc (.cells #[.slice XA 1 xc, .slice XT JL.texts.length xtc] 71)).cell? ⟨w3.heap.size, 0, none⟩ = some (.slice JB J.funcs.length jd) := (World.cell?_alloc_lt _ _ _ hy5).trans (by rw [Lib.cell_of_heap HX4.out]; rfl)
  have b1 : (w5.alloc (.cells #[.slice XA 1 xc, .slice XT JL.texts.length xtc] 71)).cell? ⟨w3.heap.size, 1, none⟩ = some (.slice JU J.texts.length jtd) := (World.cell?_alloc_lt _ _ _ hy5).trans (by rw [Lib.cell_of_heap HX4.out]; rfl)
  have HX6 := Lib.hid (heap_alloc_new w5 (.cells #[.slice XA 1 xc, .slice XT JL.texts.length xtc] 71))
  have HB6 := Lib.hid (HB5.out.alloc HB5.out.size (.cells #[.slice XA 1 xc, .slice XT JL.texts.length xtc] 71))
  have HJK6 := Lib.hid (show KR (w5.alloc (.cells #[.slice XA 1 xc, .slice XT JL.texts.length xtc] 71)) (w5.alloc (.cells #[.slice XA 1 xc, .slice XT JL.texts.length xtc] 71)).heap.size JA JT J from (HJK5.out.into (al _)).more (by simp))
  have HJL6 := Lib.hid (show KR (w5.alloc (.cells #[.slice XA 1 xc, .slice XT JL.texts.length xtc] 71)) (w5.alloc (.cells #[.slice XA 1 xc, .slice XT JL.texts.length xtc] 71)).heap.size JB JU J from (HJL5.out.into (al _)).more (by simp))
  clear HX3 HX4 HB5 HJK5 HJL5
  go_wp2_with fail
  refine (sameCode_any JA JT JB JU jc jtc jd jtd J J _ _ _ _ _ rfl rfl rfl rfl HJK6.out HJL6.out).mono ?_
  rintro e w7 ⟨⟨bq, rfl, hbq⟩, hb7⟩
  obtain rfl : bq = true := hbq.2 rfl
  have x0 : w7.cell? ⟨w5.heap.size, 0, none⟩ = some (.slice XA 1 xc) := by rw [Lib.cell_of_heap ((hb7.block w5.heap.size (by simp)).trans HX6.out)]; rfl
  have HB7 := Lib.hid (sq HB6.out hb7)
  clear hb7 hbq a0 a1 b0 b1
  go_wp2_with fail
  go_ret
  exact ⟨rfl, HB7.out⟩
end Go.Proofs.Ytapbdfcihheecaa
