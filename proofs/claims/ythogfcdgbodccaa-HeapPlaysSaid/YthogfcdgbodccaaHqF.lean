/- The document's Collect. Conditions: none. -/
import Derived.Test.YthogfcdgbodccaaHqE
set_option maxRecDepth 100000
namespace Go.Proofs.Ythogfcdgbodccaa
open Go.ChangeShapes Go.WideShapes Go.ChangeAt Go.RowKit
/-- The blocks that are marked, among the first so many; the others. -/
def keepS (S : List Bool) (bs : List BK) (k : Nat) : List BK := ((bs.zip S).take k).filterMap fun p => if p.2 then some p.1 else none
def dropS (S : List Bool) (bs : List BK) (k : Nat) : Nat := usedB (((bs.zip S).take k).filterMap fun p => if p.2 then none else some p.1)
def keepD (S : List Bool) (ds : List Value) (k : Nat) : List Value := ((ds.zip S).take k).filterMap fun p => if p.2 then some p.1 else none
theorem zip_at {α : Type} {l : List α} {S : List Bool} {k : Nat} {x : α} {s : Bool} (hx : l[k]? = some x) (hs : S[k]? = some s) : (l.zip S)[k]? = some (x, s) := by
  rw [List.getElem?_zip_eq_some]
  exact ⟨hx, hs⟩
theorem keepS_step {S : List Bool} {bs : List BK} {k : Nat} {x : BK} {s : Bool} (hx : bs[k]? = some x) (hs : S[k]? = some s) : keepS S bs (k + 1) = keepS S bs k ++ (if s then [x] else []) := by
  unfold keepS
  rw [List.take_add_one, zip_at hx hs, List.filterMap_append]
  cases s <;> rfl
theorem keepD_step {S : List Bool} {ds : List Value} {k : Nat} {x : Value} {s : Bool} (hx : ds[k]? = some x) (hs : S[k]? = some s) : keepD S ds (k + 1) = keepD S ds k ++ (if s then [x] else []) := by
  unfold keepD
  rw [List.take_add_one, zip_at hx hs, List.filterMap_append]
  cases s <;> rfl
theorem dropS_step {S : List Bool} {bs : List BK} {k : Nat} {x : BK} {s : Bool} (hx : bs[k]? = some x) (hs : S[k]? = some s) : dropS S bs (k + 1) = dropS S bs k + (if s then 0 else x.cells.length + 1) := by
  unfold dropS
  rw [List.take_add_one, zip_at hx hs, List.filterMap_append, usedB_app]
  cases s <;> simp [usedB]
/-- With a test of its own, the marks are a filter. -/
theorem keep_filter {p : BK → Bool} : ∀ {bs : List BK} {S : List Bool}, S.length = bs.length → (∀ (i : Nat) (b : BK), bs[i]? = some b → S[i]? = some (p b)) → (bs.zip S).filterMap (fun q => if q.2 then some q.1 else none) = bs.filter p ∧ (bs.zip S).filterMap (fun q => if q.2 then none else some q.1) = bs.filter fun b => !p b
  | [], [], _, _ => ⟨rfl, rfl⟩
  | [], _ :: _, h, _ => by simp at h
  | _ :: _, [], h, _ => by simp at h
  | b :: bs, s :: S, h, hp => by
    have h0 := hp 0 b rfl
    have ih := keep_filter (p := p) (bs := bs) (S := S) (by simpa using h) fun i c hc => by simpa using hp (i + 1) c (by simpa using hc)
    simp at h0
    subst h0
    simp only [List.zip_cons_cons, List.filterMap_cons, List.filter_cons, ih.1, ih.2]
    cases p b <;> simp
theorem keepS_all {S : List Bool} {bs : List BK} {roots : List (Int × Int)} {lo room : Nat} (_ : FitB lo bs room) (hl : S.length = bs.length) (h : ∀ (i : Nat) (b : BK), bs[i]? = some b → (S[i]? = some true ↔ Led 6 bs roots b.at_)) : CollR 6 bs roots (dropS S bs bs.length, keepS S bs bs.length) := by
  have hex : ∃ p : BK → Bool, ∀ (i : Nat) (b : BK), bs[i]? = some b → S[i]? = some (p b) := by
    refine ⟨fun b => (bs.zip S).any fun q => q.1.at_ == b.at_ && q.2, fun i b hb => ?_⟩
    obtain ⟨s, hs⟩ : ∃ s, S[i]? = some s := ⟨_, List.getElem?_eq_getElem (by rw [hl]; exact (List.getElem?_eq_some_iff.1 hb).1)⟩
    rw [hs]
    congr 1
    cases s with
    | true =>
      refine (List.any_eq_true.2 ⟨(b, true), List.mem_of_getElem? (zip_at hb hs), by simp⟩).symm
    | false =>
      refine (List.any_eq_false.2 fun q hq => ?_).symm
      obtain ⟨j, hj, e⟩ := List.mem_iff_getElem.1 hq
      obtain ⟨c, t⟩ := q
      have hz : (bs.zip S)[j]? = some (c, t) := by rw [List.getElem?_eq_getElem hj, e]
      obtain ⟨h1, h2⟩ := List.getElem?_zip_eq_some.1 hz
      simp only [Bool.and_eq_true, beq_iff_eq, not_and]
      intro he ht
      subst ht
      have hL := (h j c h1).1 h2
      rw [he] at hL
      have := (h i b hb).2 hL
      rw [hs] at this
      cases this
  obtain ⟨p, hp⟩ := hex
  obtain ⟨e1, e2⟩ := keep_filter hl hp
  refine ⟨p, fun b hb => ?_, ?_⟩
  · obtain ⟨i, hi, e⟩ := List.mem_iff_getElem.1 hb
    have hx : bs[i]? = some b := by rw [List.getElem?_eq_getElem hi, e]
    have := h i b hx
    rw [hp i b hx] at this
    simpa using this
  · unfold dropS keepS
    rw [List.take_of_length_le (by rw [List.length_zip]; omega), e1, e2]
/-- What is kept is told by places. -/
theorem keep_idx {S : List Bool} {bs : List BK} {ds : List Value} (hd : ds.length = bs.length) (hS : S.length = bs.length) : ∀ k, k ≤ bs.length → ∃ f : Nat → Nat, (keepD S ds k).length = (keepS S bs k).length ∧ (∀ i, i < (keepS S bs k).length → f i < k ∧ (keepS S bs k)[i]? = bs[f i]? ∧ (keepD S ds k)[i]? = ds[f i]?) ∧ (∀ i j, i < (keepS S bs k).length → j < (keepS S bs k).length → f i = f j → i = j)
  | 0, _ => ⟨fun i => i, by simp [keepS, keepD], fun i h => (by simp [keepS] at h), fun i j h => (by simp [keepS] at h)⟩
  | k + 1, hk => by
    obtain ⟨f, h1, h2, h3⟩ := keep_idx hd hS k (by omega)
    obtain ⟨x, hx⟩ : ∃ x, bs[k]? = some x := ⟨_, List.getElem?_eq_getElem (by omega)⟩
    obtain ⟨d, hdx⟩ : ∃ d, ds[k]? = some d := ⟨_, List.getElem?_eq_getElem (by omega)⟩
    obtain ⟨s, hs⟩ : ∃ s, S[k]? = some s := ⟨_, List.getElem?_eq_getElem (by omega)⟩
    rw [keepS_step hx hs, keepD_step hdx hs]
    cases s with
    | false =>
      simp only [Bool.false_eq_true, if_false, List.append_nil]
      exact ⟨f, h1, fun i hi => ⟨by have := (h2 i hi).1; omega, (h2 i hi).2⟩, h3⟩
    | true =>
      simp only [if_true]
      refine ⟨fun i => if i < (keepS S bs k).length then f i else k, by simp [h1], fun i hi => ?_, fun i j hi hj e => ?_⟩
      · simp only
        by_cases hil : i < (keepS S bs k).length
        · rw [if_pos hil, List.getElem?_append_left hil, List.getElem?_append_left (by omega)]
          exact ⟨by have := (h2 i hil).1; omega, (h2 i hil).2⟩
        · simp at hi
          have hie : i = (keepS S bs k).length := by omega
          rw [if_neg hil, List.getElem?_append_right (by omega), List.getElem?_append_right (by omega), hx, hdx, hie, h1, Nat.sub_self]
          exact ⟨by omega, rfl, rfl⟩
      · simp at hi hj
        simp only at e
        by_cases hil : i < (keepS S bs k).length
        · by_cases hjl : j < (keepS S bs k).length
          · rw [if_pos hil, if_pos hjl] at e
            exact h3 i j hil hjl e
          · rw [if_pos hil, if_neg hjl] at e
            have := (h2 i hil).1
            omega
        · by_cases hjl : j < (keepS S bs k).length
          · rw [if_neg hil, if_pos hjl] at e
            have := (h2 j hjl).1
            omega
          · omega
theorem BkM.keepS {w : World} {M : Nat → Prop} {bs : List BK} {ds : List Value} {S : List Bool} (h : BkM w M bs ds) (hS : S.length = bs.length) (k : Nat) (hk : k ≤ bs.length) : BkM w M (keepS S bs k) (keepD S ds k) := by
  obtain ⟨f, h1, h2, h3⟩ := keep_idx h.len hS k hk
  have lt : ∀ (i : Nat) (d : Value), (keepD S ds k)[i]? = some d → i < (Go.Proofs.Ythogfcdgbodccaa.keepS S bs k).length := fun i d hd => by rw [← h1]; exact (List.getElem?_eq_some_iff.1 hd).1
  refine ⟨h1, fun i b d hb hd => ?_, fun i j d d' q hi hj hq hq' => ?_, fun i d q hi hq => ?_⟩
  · obtain ⟨_, e1, e2⟩ := h2 i (lt i d hd)
    exact h.cr (f i) b d (by rw [← e1]; exact hb) (by rw [← e2]; exact hd)
  · have hil := lt i d hi
    have hjl := lt j d' hj
    exact h3 i j hil hjl (h.dis (f i) (f j) d d' q (by rw [← (h2 i hil).2.2]; exact hi) (by rw [← (h2 j hjl).2.2]; exact hj) hq hq')
  · have hil := lt i d hi
    exact h.md (f i) d q (by rw [← (h2 i hil).2.2]; exact hi) hq
theorem drop_keep {S : List Bool} {bs : List BK} (hS : S.length = bs.length) : ∀ k, k ≤ bs.length → dropS S bs k + usedB (keepS S bs k) = usedB (bs.take k) ∧ (keepS S bs k).length ≤ k
  | 0, _ => by simp [dropS, keepS, usedB]
  | k + 1, hk => by
    have ih := drop_keep hS k (by omega)
    obtain ⟨x, hx⟩ : ∃ x, bs[k]? = some x := ⟨_, List.getElem?_eq_getElem (by omega)⟩
    obtain ⟨s, hs⟩ : ∃ s, S[k]? = some s := ⟨_, List.getElem?_eq_getElem (by omega)⟩
    rw [keepS_step hx hs, dropS_step hx hs, usedB_take bs k hx, usedB_app]
    cases s
    · simp [usedB]; omega
    · simp [usedB]; omega
theorem own_setQ {w : World} {base n size P j : Nat} {e t : TypeId} {v u : Value} {xs : List Value} {cs : Array Value} (h : w.ownsRow base e size v n xs) (hP : w.heap[P]? = some (.cells cs t (0, 0))) (ht : e ≠ t) : (w.setCell ⟨P, j, none⟩ u).ownsRow base e size v n xs :=
  own_stay h fun b hb => Below.heap_setCell _ _ _ _ (fun e' => own_neP h hP ht (by rw [hb]; exact congrArg some e'))
/-- Collect's state at the loop's head. -/
structure CoI (w wr : World) (bs : List BK) (ds : List Value) (S : List Bool) (k : Nat) (A : Option Addr) (n c : Nat) : Prop where
  row : wr.ownsRow w.heap.size 64 3 (.slice A n c) n (blL (keepS S bs k) (keepD S ds k))
  len : n = (keepS S bs k).length
  bel : Below w.heap.size w wr
  nz : n = 0 → Value.slice A n c = .slice none 0 0
set_option maxHeartbeats 8000000 in
theorem refCollect_any {w : World} {M : Nat → Prop} {Q room : Nat} {bs : List BK} (h : SM w M Q room bs) (h63 : room ≤ 4000) (A : Option Addr) (n c : Nat) (roots : List (Int × Int)) (hr : Rd w w.heap.size 2 A n (ceL roots)) (hn : n = roots.length) (hn2 : n * 16 ≤ 140737488351232) :
    Calls Try.prog 27 #[.pointer (some ⟨Q, 0, none⟩), .slice A n c] w fun e w' => ∃ r, CollR 6 bs roots r ∧ e = .returned (.int .i64 (r.1 : Int)) ∧ SM w' (fun k => M k ∨ w.heap.size ≤ k) Q room r.2 ∧ Ke M w w' := by
  obtain ⟨bv, ds, h⟩ := h
  have HC := Lib.hid h
  have HL := Lib.hid (bs_len h.fit)
  have HU := Lib.hid (usedB_le h.fit)
  have HLD := Lib.hid (led_any h h63 A n c roots hr hn hn2)
  obtain ⟨i0, hi, hz0, hz1, hz2⟩ := info_parts info_bk
  clear h hr hn
  go_enter Try.func27, Try.ntmps27
  go_wp2_with fail
  refine Calls.mono HLD.out ?_
  rintro e w1 ⟨g, S, rfl, hown1, hL1, hSl, hb1⟩
  obtain ⟨N, hN⟩ : ∃ N, N = bs.length := ⟨_, rfl⟩
  rw [← hN] at hown1
  have HN := Lib.hid hN
  have hN4 : N ≤ 4000 := by have := HL.out; omega
  have HSL := Lib.hid hSl
  have HCR := Lib.hid (keepS_all HC.out.fit hSl hL1)
  have HO1 := Lib.hid hown1
  have HB1 := Lib.hid hb1
  have HC1 := Lib.hid (HC.out.below hb1)
  obtain ⟨d0, d1⟩ := HC1.out.boxc
  obtain ⟨A1, n1, rfl⟩ := own_form HC1.out.row
  rw [← hN] at d1 ⊢
  have hI0 : CoI w1 w1 bs ds S 0 none 0 0 := ⟨World.ownsRow_nil _ _ _ _, rfl, Below.refl _ _, fun _ => rfl⟩
  have HI0 := Lib.hid hI0
  clear hown1 hL1 hSl hb1 hN hI0
  go_wp2_with fail
  go_loopw [6, 7, 20] (fun l s v wr => ∃ (k n c : Nat) (A : Option Addr), l = .slice A n c ∧ s = .int .i64 (dropS S bs k : Int) ∧ v = .int .i64 (k : Int) ∧ k ≤ N ∧ Hid (CoI w1 wr bs ds S k A n c)) (fun _ _ v _ => N - (intOf v).toNat)
  case atStart => exact ⟨0, 0, 0, none, rfl, by simp [dropS, usedB], rfl, Nat.zero_le _, HI0⟩
  case round =>
    obtain ⟨k, n, c, A, rfl, rfl, rfl, hk, HI⟩ := hrel
    have HB := Lib.hid HI.out.bel
    have hw1 : w.heap.size ≤ w1.heap.size := HB1.out.size
    by_cases hlt : (k : Int) < (N : Int)
    · obtain ⟨x, hx⟩ : ∃ x, bs[k]? = some x := ⟨_, List.getElem?_eq_getElem (by have := HN.out; omega)⟩
      obtain ⟨s, hs⟩ : ∃ s, S[k]? = some s := ⟨_, List.getElem?_eq_getElem (by rw [HSL.out, ← HN.out]; omega)⟩
      have HCW := Lib.hid (HC1.out.below HB.out)
      obtain ⟨R, nR, dx, e1, hdx, hRl, x0, x1, x2⟩ := HCW.out.at_ hx
      injection e1 with e1 _ e2
      subst e1 e2
      obtain ⟨l0, l1, _, _⟩ := bool_row (own_below HO1.out HB.out) hs
      obtain ⟨D, cd, rfl⟩ := own_form (HCW.out.bk.cr k x dx hx hdx)
      have hst := dropS_step hx hs
      have hks := keepS_step hx hs
      have hkd := keepD_step hdx hs
      have hdk := drop_keep (bs := bs) HSL.out (k + 1) (by have := HN.out; omega)
      have hdk0 := drop_keep (bs := bs) HSL.out k (by have := HN.out; omega)
      have hu := usedB_le2 bs (k + 1)
      have hu3 := HU.out
      have hwl : IntKind.i64.wrap (1 + (x.cells.length : Int)) = 1 + (x.cells.length : Int) := by
        have := usedB_take bs k hx
        exact IntWalk.i64_in _ (by omega)
      have HX := Lib.hid hx
      have HA := Lib.hid (al (w := wr) (.cells #[.int .i64 (x.at_ : Int), .int .i64 x.shape, .slice D x.cells.length cd] 64))
      cases s with
      | false =>
        simp only [Bool.false_eq_true, if_false, List.append_nil] at hst hks hkd
        have hw2 : IntKind.i64.wrap ((dropS S bs k : Int) + (1 + (x.cells.length : Int))) = ((dropS S bs (k + 1) : Nat) : Int) := by
          rw [show (dropS S bs k : Int) + (1 + (x.cells.length : Int)) = ((dropS S bs (k + 1) : Nat) : Int) by omega]
          exact IntWalk.i64_in _ (by omega)
        have HI2 := Lib.hid (show CoI w1 (wr.alloc (.cells #[.int .i64 (x.at_ : Int), .int .i64 x.shape, .slice D x.cells.length cd] 64)) bs ds S (k + 1) A n c from ⟨by rw [hks, hkd]; exact own_below HI.out.row HA.out, by rw [hks]; exact HI.out.len, HI.out.bel.trans (HA.out.mono HI.out.bel.size), HI.out.nz⟩)
        clear hst hks hkd hdk hdk0 hu hu3 hx hs hdx
        generalize hdd : dropS S bs (k + 1) = dd2 at *
        have HDD := Lib.hid hdd
        clear hdd
        generalize dropS S bs k = dd1 at *
        generalize x.cells.length = xl at *
        go_wp2_with fail
        exact ⟨⟨k + 1, n, c, A, rfl, by rw [HDD.out], by simp, by omega, HI2⟩, by simp [intOf]; omega⟩
      | true =>
        simp only [if_true, Nat.add_zero] at hst hks hkd
        have HN4 := Lib.hid (show n ≤ 4000 by have := HI.out.len; omega)
        have hrow := own_below HI.out.row HA.out
        have HRW := Lib.hid ((own_below HI.out.row HA.out).alloc (.cells #[.int .i64 (x.at_ : Int), .int .i64 x.shape, .slice D x.cells.length cd] 64))
        have HKS := Lib.hid hks
        have HKD := Lib.hid hkd
        have HST := Lib.hid hst
        clear hst hks hkd hdk hdk0 hu hu3 hx hs hdx hrow
        go_wp2_with (at_builtin; refine wpList_append_rd _ rfl _ _ 41 rfl w1.heap.size 64 i0 _ 3 40 Try.underlying41 hi hz0 hz1 hz2 rfl (by omega) (.slice A n c) n (blL (keepS S bs k) (keepD S ds k)) rfl HRW.out _ _ 1 1 [.int .i64 (x.at_ : Int), .int .i64 x.shape, .slice D x.cells.length cd] rfl (Rd.one _ _ _ 3 rfl _ (by simp)) (by intro u hu; simp at hu; rcases hu with rfl | rfl | rfl <;> rfl) (by have := HN4.out; unfold maxLen; omega) (by have := HN4.out; omega) (by have := HB.out.size; simp; omega) ?_; intro A6 c6 w6 hown6 hgrow6 _)
        have HI2 := Lib.hid (show CoI w1 w6 bs ds S (k + 1) A6 (n + 1) c6 from ⟨by rw [HKS.out, HKD.out, blL_app (by have := keep_idx HC.out.bk.len HSL.out k (by have := HN.out; omega); obtain ⟨_, e, _⟩ := this; exact e)]; simpa [blL, blC] using hown6, by rw [HKS.out, List.length_append, HI.out.len]; rfl, (((HI.out.bel.trans (HA.out.mono HI.out.bel.size)).alloc (by have := HB.out.size; simp; omega) _).grown hgrow6 (by have := HB.out.size; simp; omega) fun q hq => (HI.out.row.lt q hq).1), fun h => by omega⟩)
        clear hown6 hgrow6
        exact ⟨⟨k + 1, n + 1, c6, A6, rfl, by rw [HST.out], by simp, by omega, HI2⟩, by simp [intOf]; omega⟩
    · have hkN : k = bs.length := by have := HN.out; omega
      have HKN := Lib.hid hkN
      have HCW := Lib.hid (HC1.out.below HB.out)
      obtain ⟨q0, q1⟩ := HCW.out.boxc
      have f1 : wr.frozen? ⟨Q, 1, none⟩ = false := Lib.frozen_of_heap HCW.out.box 1
      have hQw : Q < w.heap.size := HC.out.lt
      clear hkN
      go_wp2_with fail
      go_ret
      refine ⟨dropS S bs bs.length, keepS S bs bs.length, HCR.out, by rw [HKN.out]; rfl, ?_, ?_⟩
      · obtain ⟨p, _, e⟩ := HCR.out
        injection e with _ e
        have hr := HI.out.row
        have hlen := HI.out.len
        have hA : ∀ q, (Value.slice A n c).ownBlock = some q → q ≠ Q := fun q hq e' => by have := (hr.lt q hq).1; omega
        rw [HKN.out] at hr hlen
        have hbk := HCW.out.bk.keepS HSL.out bs.length (Nat.le_refl _)
        refine ⟨.slice A n c, keepD S ds bs.length, .inl HC.out.hQ, ?_, ?_, ⟨hbk.len, fun i b d hb hd => own_setQ (hbk.cr i b d hb hd) HCW.out.box (by decide), hbk.dis, fun i d q hi hq => .inl (hbk.md i d q hi hq)⟩, fun q hq => .inr (Nat.le_trans hw1 (hr.lt q hq).1), by rw [e]; exact HC.out.fit.filter p, fun h0 => HI.out.nz (by rw [hlen]; exact h0)⟩
        · have := heap_setN HCW.out.box (j := 1) (.slice A n c)
          simpa using this
        · rw [← hlen]
          exact own_setQ (own_base hr (Nat.zero_le _)) HCW.out.box (by decide)
      · exact (Ke.of (HB1.out.trans (HB.out.mono hw1))).set 1 _ (.inl HC.out.hQ)
end Go.Proofs.Ythogfcdgbodccaa
