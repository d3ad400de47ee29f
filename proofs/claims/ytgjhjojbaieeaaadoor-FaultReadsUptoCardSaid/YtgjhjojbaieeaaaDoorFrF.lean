/- 'fault.Read' and the document's 'ReadFault'. Conditions: the length. -/
import Derived.Test.YtgjhjojbaieeaaaDoorFrG
import Derived.Test.YtgjhjojbaieeaaaDoorFrI
set_option maxRecDepth 20000
namespace Go.Proofs.YtgjhjojbaieeaaaDoor
open Go.ChangeShapes Go.WideShapes Go.ChangeAt Go.RowKit
def ag4 (f : Ft) : Value := .agg #[.int .i64 f.1, .int .i64 f.2.1, .int .i64 f.2.2.1, .int .i64 f.2.2.2]
/-- What both answer. -/
def RdV (s : ByteArray) : Value := match refP s.data.toList with
  | some f => .tuple #[ag4 f, .int .i64 0]
  | none => .tuple #[ag4 (0, 0, 0, 0), .int .i64 6]
theorem rdv_some {s : ByteArray} {f : Ft} (h : refP s.data.toList = some f) : RdV s = .tuple #[ag4 f, .int .i64 0] := by unfold RdV; rw [h]
theorem rdv_none {s : ByteArray} (h : refP s.data.toList = none) : RdV s = .tuple #[ag4 (0, 0, 0, 0), .int .i64 6] := by unfold RdV; rw [h]
/-- Faults, as cells. -/
def ftC (l : List Ft) : List Value := l.flatMap fun f => [.int .i64 f.1, .int .i64 f.2.1, .int .i64 f.2.2.1, .int .i64 f.2.2.2]
theorem ftC_len (l : List Ft) : (ftC l).length = l.length * 4 := by
  unfold ftC
  induction l with
  | nil => rfl
  | cons t r ih => simp [List.flatMap_cons, ih]; omega
theorem ftC_get {l : List Ft} {i : Nat} {f : Ft} (h : l[i]? = some f) : (ftC l)[i * 4]? = some (.int .i64 f.1) ∧ (ftC l)[i * 4 + 1]? = some (.int .i64 f.2.1) ∧ (ftC l)[i * 4 + 2]? = some (.int .i64 f.2.2.1) ∧ (ftC l)[i * 4 + 3]? = some (.int .i64 f.2.2.2) := by
  obtain ⟨hi, he⟩ := List.getElem?_eq_some_iff.1 h
  have e : l = l.take i ++ (f :: l.drop (i + 1)) := by
    rw [← he, ← List.drop_eq_getElem_cons hi, List.take_append_drop]
  have hl : (ftC (l.take i)).length = i * 4 := by rw [ftC_len, List.length_take, Nat.min_eq_left (by omega)]
  have e2 : ftC l = ftC (l.take i) ++ ([.int .i64 f.1, .int .i64 f.2.1, .int .i64 f.2.2.1, .int .i64 f.2.2.2] ++ ftC (l.drop (i + 1))) := by
    conv => lhs; rw [e]
    unfold ftC
    rw [List.flatMap_append, List.flatMap_cons]
  rw [e2]
  refine ⟨?_, ?_, ?_, ?_⟩
  all_goals
    rw [List.getElem?_append_right (by omega), hl]
    simp
theorem T_text (k a b c : Int) (s : ByteArray) : ((faultS k a b c).toList == s.toList) = decide (T (k, a, b, c) = s.data.toList) := by
  rw [ByteArray.toList_eq, ByteArray.toList_eq]
  by_cases h : T (k, a, b, c) = s.data.toList
  · rw [decide_eq_true h, beq_iff_eq]; exact h
  · rw [decide_eq_false h, beq_eq_false_iff_ne]; exact h
theorem find_at {l : List Ft} {p : Ft → Bool} : ∀ {k : Nat} {f : Ft}, l[k]? = some f → (∀ (j : Nat) (g : Ft), j < k → l[j]? = some g → p g = false) → p f = true → l.find? p = some f := by
  induction l with
  | nil => intro k f h; simp at h
  | cons a l ih =>
    intro k f h hn hp
    cases k with
    | zero =>
      simp at h
      subst h
      rw [List.find?_cons_of_pos hp]
    | succ k =>
      rw [List.find?_cons_of_neg (by rw [hn 0 a (by omega) rfl]; decide)]
      exact ih (by simpa using h) (fun j g hj hg => hn (j + 1) g (by omega) (by simpa using hg)) hp
theorem find_no {l : List Ft} {p : Ft → Bool} (h : ∀ (j : Nat) (g : Ft), l[j]? = some g → p g = false) : l.find? p = none := by
  rw [List.find?_eq_none]
  intro x hx
  obtain ⟨j, hj⟩ := List.getElem?_of_mem hx
  rw [h j x hj]
  decide
theorem faultText_ag (k a b c : Int) (ha : inI a) (hb : inI b) (hc : inI c) (w : World) : Calls Tryd.prog 7 #[.agg #[.int .i64 k, .int .i64 a, .int .i64 b, .int .i64 c]] w fun e w' => e = .returned (.string (faultS k a b c)) ∧ Below w.heap.size w w' := faultText_any k a b c ha hb hc w
theorem refFaultText_ag (k a b c : Int) (ha : inI a) (hb : inI b) (hc : inI c) (w : World) : Calls Tryd.prog 9 #[.agg #[.int .i64 k, .int .i64 a, .int .i64 b, .int .i64 c]] w fun e w' => e = .returned (.string (faultS k a b c)) ∧ Below w.heap.size w w' := refFaultText_any k a b c ha hb hc w
set_option maxHeartbeats 4000000 in
theorem faultRead_any (s : ByteArray) (m : Int) (w : World) (hm : w.cell? ⟨0, 0, none⟩ = some (.int .i64 m)) (hs : s.size ≤ 140737488351232) : Calls Tryd.prog 4 #[.string s] w fun e w' => e = .returned (RdV s) ∧ Below w.heap.size w w' := by
  have h0 : 0 < w.heap.size := World.block_lt_of_cell? w ⟨0, 0, none⟩ hm
  go_enter Tryd.func4, Tryd.ntmps4
  go_wp2_with fail
  have hm0 : ∀ o, (w.alloc o).cell? ⟨0, 0, none⟩ = some (.int .i64 m) := fun o => (World.cell?_alloc_lt w o ⟨0, 0, none⟩ h0).trans hm
  refine (guess_any s m _ (hm0 _) hs).mono ?_
  rintro e w1 ⟨⟨k, a, b, c, rfl, hgp, ha, hb, hc⟩, hbel⟩
  generalize hw0 : World.alloc w _ = w0 at hbel
  have hgc0 : GC w0 w.heap.size := by subst hw0; constructor <;> simp [go_sem]
  have HB1 := Lib.hid (show Below w.heap.size w w1 by subst hw0; exact sq (al _) hbel)
  have HGC := Lib.hid (hgc0.into hbel)
  have hlt1 : w.heap.size < w1.heap.size := World.block_lt_of_cell? w1 ⟨w.heap.size, 0, none⟩ HGC.out.r0
  clear hw0 hgc0 hbel
  have HGP := Lib.hid hgp
  have HBR := Lib.hid (both_read s.data.toList)
  have HIN := Lib.hid (And.intro ha (And.intro hb hc))
  clear hgp ha hb hc hm0 h0 hm
  generalize hg : w.heap.size = g at *
  rw [← hg] at HB1
  have HB1g := Lib.hid (show Below g w w1 by rw [← hg]; exact HB1.out)
  by_cases hk : k = 0
  · have hkb : (k == 0) = true := by simpa using hk
    have HE := Lib.hid (rdv_none (s := s) (by
      rw [← HBR.out]
      unfold readP
      rw [HGP.out, if_pos (.inl hk)]))
    obtain ⟨r0, r1, r2, r3, z0, z1, z2, z3⟩ := HGC.out
    clear hk
    go_wp2_with fail
    refine bodyPost_ret (v := .tuple #[ag4 (0, 0, 0, 0), .int .i64 6]) (by simp [results, Tryd.results4, go_sem, r0, r1, r2, r3, ag4, hlt1]) rfl ⟨by rw [HE.out], ?_⟩
    try rw [hg]
    exact (gset HB1g.out _ _ _ _).alloc (by simp; omega) _
  · have hkb : (k == 0) = false := by simpa using hk
    have HK := Lib.hid hk
    have HT := Lib.hid (T_text k a b c s)
    clear hk
    go_wp2_with fail
    refine (faultText_ag k a b c HIN.out.1 HIN.out.2.1 HIN.out.2.2 _).mono ?_
    rintro e w3 ⟨rfl, hb3⟩
    have HGC3 := Lib.hid ((HGC.out.into (al (.cells #[.int .i64 k, .int .i64 a, .int .i64 b, .int .i64 c] 23))).into hb3)
    have HB3 := Lib.hid (show Below g w w3 from (HB1g.out.alloc (Nat.le_of_lt hlt1) _).trans (hb3.mono (by simp; omega)))
    have hlt3 : w1.heap.size < w3.heap.size := by have := hb3.size; simp at this; omega
    have d0 : w3.cell? ⟨w1.heap.size, 0, none⟩ = some (.int .i64 k) := (hb3.cell (p := ⟨w1.heap.size, 0, none⟩) (by simp)).trans (by simp [go_sem])
    have d1 : w3.cell? ⟨w1.heap.size, 1, none⟩ = some (.int .i64 a) := (hb3.cell (p := ⟨w1.heap.size, 1, none⟩) (by simp)).trans (by simp [go_sem])
    have d2 : w3.cell? ⟨w1.heap.size, 2, none⟩ = some (.int .i64 b) := (hb3.cell (p := ⟨w1.heap.size, 2, none⟩) (by simp)).trans (by simp [go_sem])
    have d3 : w3.cell? ⟨w1.heap.size, 3, none⟩ = some (.int .i64 c) := (hb3.cell (p := ⟨w1.heap.size, 3, none⟩) (by simp)).trans (by simp [go_sem])
    obtain ⟨r0, r1, r2, r3, z0, z1, z2, z3⟩ := HGC3.out
    clear hb3
    by_cases ht : T (k, a, b, c) = s.data.toList
    · have htb : ((faultS k a b c).toList == s.toList) = true := by rw [HT.out, decide_eq_true ht]
      have HE := Lib.hid (rdv_some (s := s) (f := (k, a, b, c)) (by
        rw [← HBR.out]
        unfold readP
        rw [HGP.out, if_neg]
        rintro (h | h)
        · exact HK.out h
        · exact h ht))
      clear ht
      generalize faultS k a b c = F at *
      go_wp2_with fail
      refine bodyPost_ret (v := .tuple #[ag4 (k, a, b, c), .int .i64 0]) (by simp [results, Tryd.results4, go_sem, r0, r1, r2, r3, ag4]) rfl ⟨by rw [HE.out], ?_⟩
      try rw [hg]
      exact gset HB3.out _ _ _ _
    · have htb : ((faultS k a b c).toList == s.toList) = false := by rw [HT.out, decide_eq_false ht]
      have HE := Lib.hid (rdv_none (s := s) (by
        rw [← HBR.out]
        unfold readP
        rw [HGP.out, if_pos (.inr ht)]))
      clear ht
      generalize faultS k a b c = F at *
      go_wp2_with fail
      refine bodyPost_ret (v := .tuple #[ag4 (0, 0, 0, 0), .int .i64 6]) (by simp [results, Tryd.results4, go_sem, r0, r1, r2, r3, ag4]) rfl ⟨by rw [HE.out], ?_⟩
      try rw [hg]
      exact gset HB3.out _ _ _ _
theorem inside_len : ∀ (n : Nat) (l : List UInt8), l.length ≤ n → (insideP l).length ≤ l.length
  | 0, l, hl => by
    have : l = [] := List.length_eq_zero_iff.1 (by omega)
    subst this
    rw [inside_nil]
    exact Nat.le_refl _
  | n + 1, [], _ => by
    rw [inside_nil]
    exact Nat.le_refl _
  | n + 1, c :: r, hl => by
    cases hc : isM c with
    | true =>
      rw [inside_at (c := c) rfl hc]
      have h := inside_len n ((c :: r).drop (mlen (c :: r) + 1)) (by simp at hl ⊢; omega)
      simp at h ⊢
      omega
    | false =>
      rw [inside_no (c := c) rfl hc]
      have h := inside_len n ((c :: r).drop 1) (by simpa using hl)
      simp at h ⊢
      omega
theorem GC.grow {w1 w3 : World} {g base n : Nat} {v : Value} {xs : List Value} {o : Obj} (h : GC w1 g) (hown : w1.ownsRow base 3 1 v n xs) (hgrow : (w1.alloc o).grownBy w3 v.ownBlock) (hg : g < base) (hbs : base ≤ w1.heap.size) : GC w3 g ∧ Below base w1 w3 := by
  have h5 : Below base w1 w3 := ((Below.refl base w1).alloc hbs _).grown hgrow (by simp; omega) (fun q hq => (hown.lt q hq).1)
  exact ⟨⟨(h5.cell (p := ⟨g, 0, none⟩) hg).trans h.r0, (h5.cell (p := ⟨g, 1, none⟩) hg).trans h.r1, (h5.cell (p := ⟨g, 2, none⟩) hg).trans h.r2, (h5.cell (p := ⟨g, 3, none⟩) hg).trans h.r3,
    (h5.frozen (p := ⟨g, 0, none⟩) hg).trans h.z0, (h5.frozen (p := ⟨g, 1, none⟩) hg).trans h.z1, (h5.frozen (p := ⟨g, 2, none⟩) hg).trans h.z2, (h5.frozen (p := ⟨g, 3, none⟩) hg).trans h.z3⟩, h5⟩
theorem two_zero (I : List Int) : (I.map (Value.int .i64) ++ [.int .i64 0, .int .i64 0])[0]? = some (.int .i64 (I.getD 0 0)) ∧ (I.map (Value.int .i64) ++ [.int .i64 0, .int .i64 0])[1]? = some (.int .i64 (I.getD 1 0)) := by
  rcases I with _ | ⟨x, _ | ⟨y, r⟩⟩ <;> exact ⟨rfl, rfl⟩
theorem tries_in {x y : Int} (hx : inI x) (hy : inI y) : ∀ g ∈ tries x y, inI g.2.1 ∧ inI g.2.2.1 ∧ inI g.2.2.2 := by
  intro g hg
  have h0 : inI 0 := in0
  unfold tries at hg
  simp only [List.mem_cons, List.not_mem_nil, or_false] at hg
  rcases hg with rfl | rfl | rfl | rfl | rfl | rfl | rfl | rfl | rfl | rfl <;> exact ⟨by assumption, by assumption, by assumption⟩
set_option maxHeartbeats 4000000 in
theorem readFault_any (s : ByteArray) (w : World) (hs : s.size ≤ 1048576) : Calls Tryd.prog 5 #[.string s] w fun e w' => e = .returned (RdV s) ∧ Below w.heap.size w w' := by
  obtain ⟨i0, hi, hz0, hz1, hz2⟩ := info_parts info_int
  go_enter Tryd.func5, Tryd.ntmps5
  go_wp2_with fail
  refine (inside_any s _ hs).mono ?_
  rintro e w1 ⟨A, C, rfl, hown, hbel⟩
  have hIl := inside_len _ s.data.toList (Nat.le_refl _)
  have hIs : s.data.toList.length = s.size := rfl
  have hII := inside_in _ s.data.toList (Nat.le_refl _)
  obtain ⟨I, hI⟩ : ∃ I, I = insideP s.data.toList := ⟨_, rfl⟩
  rw [← hI] at hown hIl hII ⊢
  obtain ⟨N, hN⟩ : ∃ N, N = I.length := ⟨_, rfl⟩
  rw [← hN] at hown hIl ⊢
  have hNs : N ≤ 1048576 := by omega
  have HI := Lib.hid hI
  have HN := Lib.hid hN
  have HII := Lib.hid hII
  clear hI hN hIl hII hIs
  generalize hw0 : World.alloc w _ = w0 at hbel hown
  have hgc0 : GC w0 w.heap.size := by subst hw0; constructor <;> simp [go_sem]
  have hs0 : w0.heap.size = w.heap.size + 1 := by subst hw0; simp
  have HB1 := Lib.hid (show Below w.heap.size w w1 by subst hw0; exact sq (al _) hbel)
  have HGC := Lib.hid (hgc0.into hbel)
  have HBL := Lib.hid hbel
  have hbs := hbel.size
  clear hw0 hgc0 hbel
  have HSg := Lib.hid hs0
  by_cases h200 : 200 < s.size
  · have h2i : (200 : Int) < (s.size : Int) := by omega
    have HE := Lib.hid (rdv_none (s := s) (by unfold refP; rw [if_pos (show 200 < s.data.toList.length from h200)]))
    go_wp2_with (at_builtin; refine wpList_append_rd _ rfl _ _ 30 rfl w0.heap.size 3 i0 _ 1 8 Tryd.underlying30 hi hz0 hz1 hz2 rfl (by omega) _ _ _ rfl (hown.alloc _) _ _ 2 2 [.int .i64 0, .int .i64 0] rfl (Rd.lit _ _ _ 2 1 rfl) (by intro u hu; simp at hu; rcases hu with rfl | rfl <;> rfl) (by unfold maxLen; omega) (by omega) (by simp; omega) ?_; intro A3 c3 w3 hown3 hgrow3 _; obtain ⟨⟨r0, r1, r2, r3, z0, z1, z2, z3⟩, hb3⟩ := GC.grow HGC.out hown hgrow3 (by omega) hbs)
    refine bodyPost_ret (v := .tuple #[ag4 (0, 0, 0, 0), .int .i64 6]) (by simp [results, Tryd.results5, go_sem, r0, r1, r2, r3, ag4]) rfl ⟨by rw [HE.out], ?_⟩
    exact gset (HB1.out.trans (hb3.mono (by have := HSg.out; omega))) _ _ _ _
  · have h2i : ¬ (200 : Int) < (s.size : Int) := by omega
    have HL2 := Lib.hid (show ¬ 200 < s.data.toList.length from h200)
    go_wp2_with (at_builtin; refine wpList_append_rd _ rfl _ _ 30 rfl w0.heap.size 3 i0 _ 1 8 Tryd.underlying30 hi hz0 hz1 hz2 rfl (by omega) _ _ _ rfl (hown.alloc _) _ _ 2 2 [.int .i64 0, .int .i64 0] rfl (Rd.lit _ _ _ 2 1 rfl) (by intro u hu; simp at hu; rcases hu with rfl | rfl <;> rfl) (by unfold maxLen; omega) (by omega) (by simp; omega) ?_; intro A3 c3 w3 hown3 hgrow3 _; obtain ⟨⟨r0, r1, r2, r3, z0, z1, z2, z3⟩, hb3⟩ := GC.grow HGC.out hown hgrow3 (by omega) hbs)
    have HG3 := Lib.hid (GC.mk r0 r1 r2 r3 z0 z1 z2 z3)
    have HB3 := Lib.hid (show Below w.heap.size w w3 from HB1.out.trans (hb3.mono (by have := HSg.out; omega)))
    have hlt3 : w.heap.size < w3.heap.size := World.block_lt_of_cell? w3 ⟨w.heap.size, 0, none⟩ r0
    clear hgrow3 hb3 hown hbs HBL HGC HB1 r0 r1 r2 r3 z0 z1 z2 z3
    obtain ⟨b, off, rfl, _, hc⟩ := (Rd.of_own hown3).2 (by omega)
    have hz := two_zero I
    have e0 := hc 0 _ hz.1
    have e1 := hc 1 _ hz.2
    rw [Nat.add_zero] at e0
    obtain ⟨x, hx⟩ : ∃ x, x = I.getD 0 0 := ⟨_, rfl⟩
    obtain ⟨y, hy⟩ : ∃ y, y = I.getD 1 0 := ⟨_, rfl⟩
    rw [← hx] at e0
    rw [← hy] at e1
    have HX := Lib.hid hx
    have HY := Lib.hid hy
    clear hc hz hx hy hown3
    obtain ⟨M, hM⟩ : ∃ M, M = N + 2 := ⟨_, rfl⟩
    rw [← hM]
    have hM0 : 0 < M := by omega
    have hM1 : 1 < M := by omega
    have hM0i : (0 : Int) < (M : Int) := by omega
    have hM1i : (1 : Int) < (M : Int) := by omega
    clear hM
    go_still_tail 40, (by kernel_rfl)
    change wpList _ _ _ _ _ w3.drew
    clear e0 e1
    go_wp2_with fail
    generalize hw4 : (World.alloc w3 _).drew = w4
    have hr4 : Rd w4 (w3.heap.size + 1) 4 (some ⟨w3.heap.size, 0, none⟩) 10 (ftC (tries x y)) := by
      rw [← hw4]
      exact (Rd.lit w3 (ftC (tries x y)).toArray 23 10 4 rfl).drew
    have hs4 : w4.heap.size = w3.heap.size + 1 := by subst hw4; simp
    have HG4 := Lib.hid (show GC w4 w.heap.size by subst hw4; exact (HG3.out.into (al _)).into (dr (Below.refl _ _) 1))
    have HB4 := Lib.hid (show Below w.heap.size w w4 by subst hw4; exact dr (HB3.out.alloc (Nat.le_of_lt hlt3) _) 1)
    have HR4 := Lib.hid hr4
    clear hw4 hr4
    have hlt4 : w.heap.size < w4.heap.size := by omega
    by_cases hse : s.data.toList = []
    · have hem : s.toList.isEmpty = true := by rw [ByteArray.toList_eq, hse]; rfl
      have HE := Lib.hid (rdv_none (s := s) (by unfold refP; rw [if_neg HL2.out, if_pos hse]))
      clear hse
      go_loopw [59] (fun i wr => ∃ k : Nat, i = .int .i64 (k : Int) ∧ k ≤ 10 ∧ Below w4.heap.size w4 wr) (fun i _ => 10 - (intOf i).toNat)
      case atStart => exact ⟨0, rfl, by omega, Below.refl _ _⟩
      case round =>
        obtain ⟨k, rfl, hk, hbel⟩ := hrel
        by_cases hlt : k < 10
        · have hki : (k : Int) < 10 := by omega
          obtain ⟨f, hf⟩ : ∃ f, (tries x y)[k]? = some f := ⟨(tries x y)[k]'(by simpa [tries] using hlt), List.getElem?_eq_getElem _⟩
          obtain ⟨g0, g1, g2, g3⟩ := ftC_get hf
          obtain ⟨bb, oo, hA, hbb, hcc⟩ := HR4.out.2 (by omega)
          injection hA with hA
          injection hA with h1 h2
          subst h1 h2
          have d0 := hcc _ _ g0
          have d1 := hcc _ _ g1
          have d2 := hcc _ _ g2
          have d3 := hcc _ _ g3
          rw [← hbel.cell (p := ⟨w3.heap.size, _, none⟩) (show w3.heap.size < w4.heap.size by omega)] at d0 d1 d2 d3
          rw [Nat.zero_add] at d0 d1 d2 d3
          have HBE := Lib.hid hbel
          clear hf g0 g1 g2 g3 hcc hbb hbel
          go_wp2_with fail
          exact ⟨⟨k + 1, by go_num, by omega, HBE.out.alloc HBE.out.size _⟩, by simp [intOf]; omega⟩
        · have hki : ¬ (k : Int) < 10 := by omega
          have HBE := Lib.hid hbel
          obtain ⟨r0, r1, r2, r3, z0, z1, z2, z3⟩ := HG4.out.into hbel
          clear hbel
          go_wp2_with fail
          refine bodyPost_ret (v := .tuple #[ag4 (0, 0, 0, 0), .int .i64 6]) (by simp [results, Tryd.results5, go_sem, r0, r1, r2, r3, ag4]) rfl ⟨by rw [HE.out], ?_⟩
          exact gset (HB4.out.trans (HBE.out.mono (Nat.le_of_lt hlt4))) _ _ _ _
    · have hem : s.toList.isEmpty = false := by
        rw [ByteArray.toList_eq]
        cases h : s.data.toList with
        | nil => exact absurd h hse
        | cons a b => rfl
      have HRF := Lib.hid (show refP s.data.toList = (tries x y).find? (fun f => decide (T f = s.data.toList)) by
        unfold refP
        rw [if_neg HL2.out, if_neg hse, ← HI.out, ← HX.out, ← HY.out])
      have hgd : ∀ i, inI (I.getD i 0) := by
        intro i
        rw [List.getD_eq_getElem?_getD]
        cases hx : I[i]? with
        | none => exact in0
        | some v => exact HII.out v (List.mem_of_getElem? hx)
      have HTI := Lib.hid (tries_in (x := x) (y := y) (by rw [HX.out]; exact hgd 0) (by rw [HY.out]; exact hgd 1))
      clear hse hgd
      go_loopw [59] (fun i wr => ∃ k : Nat, i = .int .i64 (k : Int) ∧ k ≤ 10 ∧ Hid (∀ (j : Nat) (g : Ft), j < k → (tries x y)[j]? = some g → decide (T g = s.data.toList) = false) ∧ Below w4.heap.size w4 wr) (fun i _ => 10 - (intOf i).toNat)
      case atStart => exact ⟨0, rfl, by omega, Lib.hid (fun j g h => by omega), Below.refl _ _⟩
      case round =>
        obtain ⟨k, rfl, hk, HNO, hbel⟩ := hrel
        by_cases hlt : k < 10
        · have hki : (k : Int) < 10 := by omega
          obtain ⟨f, hf⟩ : ∃ f, (tries x y)[k]? = some f := ⟨(tries x y)[k]'(by simpa [tries] using hlt), List.getElem?_eq_getElem _⟩
          obtain ⟨g0, g1, g2, g3⟩ := ftC_get hf
          obtain ⟨bb, oo, hA, hbb, hcc⟩ := HR4.out.2 (by omega)
          injection hA with hA
          injection hA with h1 h2
          subst h1 h2
          have d0 := hcc _ _ g0
          have d1 := hcc _ _ g1
          have d2 := hcc _ _ g2
          have d3 := hcc _ _ g3
          rw [← hbel.cell (p := ⟨w3.heap.size, _, none⟩) (show w3.heap.size < w4.heap.size by omega)] at d0 d1 d2 d3
          rw [Nat.zero_add] at d0 d1 d2 d3
          have HBE := Lib.hid hbel
          have HF := Lib.hid hf
          have hfi := HTI.out f (List.mem_of_getElem? hf)
          obtain ⟨fk, fa, fb, fc⟩ := f
          simp only at d0 d1 d2 d3 hfi
          have HFI := Lib.hid hfi
          have HGr := Lib.hid (HG4.out.into hbel)
          have hltr : w4.heap.size ≤ wr.heap.size := hbel.size
          clear hf g0 g1 g2 g3 hcc hbb hbel hfi
          go_wp2_with fail
          refine (refFaultText_ag fk fa fb fc HFI.out.1 HFI.out.2.1 HFI.out.2.2 _).mono ?_
          rintro e w6 ⟨rfl, hb6⟩
          have HG6 := Lib.hid ((HGr.out.into (al (.cells #[.int .i64 fk, .int .i64 fa, .int .i64 fb, .int .i64 fc] 23))).into hb6)
          have HB6 := Lib.hid (show Below w4.heap.size w4 w6 from (HBE.out.alloc hltr _).trans (hb6.mono (by simp; omega)))
          have c0 : w6.cell? ⟨wr.heap.size, 0, none⟩ = some (.int .i64 fk) := (hb6.cell (p := ⟨wr.heap.size, 0, none⟩) (by simp)).trans (by simp [go_sem])
          have c1 : w6.cell? ⟨wr.heap.size, 1, none⟩ = some (.int .i64 fa) := (hb6.cell (p := ⟨wr.heap.size, 1, none⟩) (by simp)).trans (by simp [go_sem])
          have c2 : w6.cell? ⟨wr.heap.size, 2, none⟩ = some (.int .i64 fb) := (hb6.cell (p := ⟨wr.heap.size, 2, none⟩) (by simp)).trans (by simp [go_sem])
          have c3' : w6.cell? ⟨wr.heap.size, 3, none⟩ = some (.int .i64 fc) := (hb6.cell (p := ⟨wr.heap.size, 3, none⟩) (by simp)).trans (by simp [go_sem])
          have HT := Lib.hid (T_text fk fa fb fc s)
          clear hb6 d0 d1 d2 d3
          by_cases ht : T (fk, fa, fb, fc) = s.data.toList
          · have htb : ((faultS fk fa fb fc).toList == s.toList) = true := by rw [HT.out, decide_eq_true ht]
            have HE := Lib.hid (rdv_some (s := s) (f := (fk, fa, fb, fc)) (by rw [HRF.out]; exact find_at HF.out HNO.out (decide_eq_true ht)))
            obtain ⟨r0, r1, r2, r3, z0, z1, z2, z3⟩ := HG6.out
            clear ht
            generalize faultS fk fa fb fc = F at *
            go_wp2_with fail
            refine bodyPost_ret (v := .tuple #[ag4 (fk, fa, fb, fc), .int .i64 0]) (by simp [results, Tryd.results5, go_sem, r0, r1, r2, r3, ag4]) rfl ⟨by rw [HE.out], ?_⟩
            exact gset (HB4.out.trans (HB6.out.mono (Nat.le_of_lt hlt4))) _ _ _ _
          · have htb : ((faultS fk fa fb fc).toList == s.toList) = false := by rw [HT.out, decide_eq_false ht]
            have HNO2 := Lib.hid (show ∀ (j : Nat) (g : Ft), j < k + 1 → (tries x y)[j]? = some g → decide (T g = s.data.toList) = false from fun j g hj hg => by
              rcases Nat.lt_or_ge j k with h3 | h3
              · exact HNO.out j g h3 hg
              · obtain rfl : j = k := by omega
                have := HF.out.symm.trans hg
                injection this with this
                rw [← this]
                exact decide_eq_false ht)
            clear ht
            generalize faultS fk fa fb fc = F at *
            go_wp2_with fail
            exact ⟨⟨k + 1, by go_num, by omega, HNO2, HB6.out⟩, by simp [intOf]; omega⟩
        · have hki : ¬ (k : Int) < 10 := by omega
          have HBE := Lib.hid hbel
          have HE := Lib.hid (rdv_none (s := s) (by
            rw [HRF.out]
            exact find_no fun j g hg => HNO.out j g (by have := (List.getElem?_eq_some_iff.1 hg).1; simp [tries] at this; omega) hg))
          obtain ⟨r0, r1, r2, r3, z0, z1, z2, z3⟩ := HG4.out.into hbel
          clear hbel
          go_wp2_with fail
          refine bodyPost_ret (v := .tuple #[ag4 (0, 0, 0, 0), .int .i64 6]) (by simp [results, Tryd.results5, go_sem, r0, r1, r2, r3, ag4]) rfl ⟨by rw [HE.out], ?_⟩
          exact gset (HB4.out.trans (HBE.out.mono (Nat.le_of_lt hlt4))) _ _ _ _
end Go.Proofs.YtgjhjojbaieeaaaDoor
