/- squeeze's 'live'. Conditions: the list fits what comes in. -/
import Derived.Test.YtapbdfcihheecaaSqC
set_option maxRecDepth 100000
namespace Go.Proofs.Ytapbdfcihheecaa
open Go.ChangeShapes Go.WideShapes Go.ChangeAt Go.RowKit
/-- What has been seen, and what is still to be looked at. -/
structure Lv (l : List II) (S : List Bool) (W : List Nat) : Prop where
  len : S.length = l.length
  z : S[0]? = some true
  rch : ∀ k : Nat, S[k]? = some true → Rch l k
  wk : ∀ k ∈ W, S[k]? = some true
  cl : ∀ k : Nat, S[k]? = some true → k ∈ W ∨ ∀ q : Nat, (q : Int) ∈ nextV l k → S[q]? = some true
/-- In the midst of what follows a place. -/
structure Lw (l : List II) (S : List Bool) (W : List Nat) (p j : Nat) : Prop where
  len : S.length = l.length
  z : S[0]? = some true
  rch : ∀ k : Nat, S[k]? = some true → Rch l k
  wk : ∀ k ∈ W, S[k]? = some true
  pin : S[p]? = some true
  cl : ∀ k : Nat, S[k]? = some true → k ∈ W ∨ k = p ∨ ∀ q : Nat, (q : Int) ∈ nextV l k → S[q]? = some true
  dn : ∀ i q : Nat, i < j → (nextV l p)[i]? = some (q : Int) → S[q]? = some true
theorem Lv.pop {l : List II} {S : List Bool} {W : List Nat} {p : Nat} (h : Lv l S (W ++ [p])) : Lw l S W p 0 :=
  ⟨h.len, h.z, h.rch, fun k hk => h.wk k (by simp [hk]), h.wk p (by simp), fun k hk => by
    rcases h.cl k hk with h1 | h1
    · rcases List.mem_append.1 h1 with h1 | h1
      · exact .inl h1
      · exact .inr (.inl (by simpa using h1))
    · exact .inr (.inr h1), fun i q hi => by omega⟩
theorem Lw.skip {l : List II} {S : List Bool} {W : List Nat} {p j q : Nat} (h : Lw l S W p j) (hq : (nextV l p)[j]? = some (q : Int)) (hs : S[q]? = some true) : Lw l S W p (j + 1) :=
  ⟨h.len, h.z, h.rch, h.wk, h.pin, h.cl, fun i r hi hr => by
    by_cases hij : i < j
    · exact h.dn i r hij hr
    · obtain rfl : i = j := by omega
      rw [hq] at hr
      injection hr with hr
      obtain rfl : q = r := by omega
      exact hs⟩
theorem set_true {S : List Bool} {q k : Nat} (h : S[k]? = some true) : (S.set q true)[k]? = some true := by
  obtain ⟨hk, he⟩ := List.getElem?_eq_some_iff.1 h
  rw [List.getElem?_set]
  split
  · split
    · rfl
    · omega
  · exact h
theorem Lw.push {l : List II} {S : List Bool} {W : List Nat} {p j q : Nat} (h : Lw l S W p j) (hq : (nextV l p)[j]? = some (q : Int)) (hl : q < l.length) : Lw l (S.set q true) (W ++ [q]) p (j + 1) := by
  have hs : (S.set q true)[q]? = some true := by rw [List.getElem?_set_self (by rw [h.len]; exact hl)]
  have old : ∀ k : Nat, (S.set q true)[k]? = some true → k = q ∨ S[k]? = some true := fun k hk => by
    by_cases hkq : q = k
    · exact .inl hkq.symm
    · rw [List.getElem?_set_ne hkq] at hk
      exact .inr hk
  refine ⟨by simpa using h.len, set_true h.z, fun k hk => ?_, fun k hk => ?_, set_true h.pin, fun k hk => ?_, fun i r hi hr => ?_⟩
  · rcases old k hk with rfl | hk
    · exact .step (h.rch p h.pin) (List.mem_of_getElem? hq)
    · exact h.rch k hk
  · rcases List.mem_append.1 hk with hk | hk
    · exact set_true (h.wk k hk)
    · rw [List.mem_singleton] at hk
      rw [hk]
      exact hs
  · rcases old k hk with rfl | hk
    · exact .inl (by simp)
    · rcases h.cl k hk with h1 | h1 | h1
      · exact .inl (by simp [h1])
      · exact .inr (.inl h1)
      · exact .inr (.inr fun r hr => set_true (h1 r hr))
  · by_cases hij : i < j
    · exact set_true (h.dn i r hij hr)
    · obtain rfl : i = j := by omega
      rw [hq] at hr
      injection hr with hr
      obtain rfl : q = r := by omega
      exact hs
theorem Lw.fin {l : List II} {S : List Bool} {W : List Nat} {p j : Nat} (h : Lw l S W p j) (hj : (nextV l p).length ≤ j) : Lv l S W :=
  ⟨h.len, h.z, h.rch, h.wk, fun k hk => by
    rcases h.cl k hk with h1 | rfl | h1
    · exact .inl h1
    · refine .inr fun q hq => ?_
      obtain ⟨i, hi, he⟩ := List.mem_iff_getElem.1 hq
      exact h.dn i q (by omega) (by rw [List.getElem?_eq_getElem hi, he])
    · exact .inr h1⟩
theorem Lv.done {l : List II} {S : List Bool} (h : Lv l S []) : S = seenV l :=
  seen_uniq h.len h.z h.rch fun k hk => by
    rcases h.cl k hk with h1 | h1
    · simp at h1
    · exact h1
/-- How many are not seen. -/
def nfal (S : List Bool) : Nat := (S.filter fun b => !b).length
theorem nfal_rep (n : Nat) : nfal (List.replicate n false) = n := by simp [nfal]
theorem nfal_set : ∀ {S : List Bool} {q : Nat}, S[q]? = some false → nfal (S.set q true) + 1 = nfal S
  | [], q, h => by simp at h
  | b :: r, 0, h => by
    simp at h
    subst h
    simp [nfal]
  | b :: r, q + 1, h => by
    have := nfal_set (S := r) (q := q) (by simpa using h)
    unfold nfal at this ⊢
    rw [List.set_cons_succ, List.filter_cons, List.filter_cons]
    split
    · simp only [List.length_cons]; omega
    · exact this
/-- The same, off the memory. -/
def isFal : Value → Bool
  | .bool false => true
  | _ => false
def falAt (g : Nat) (w : World) : Nat := match w.heap[g]? with | some (.cells cs _ _) => (cs.toList.filter isFal).length | _ => 0
theorem fal_map (S : List Bool) : ((S.map Value.bool).filter isFal).length = nfal S := by
  unfold nfal
  induction S with
  | nil => rfl
  | cons b r ih =>
    cases b
    · rw [List.map_cons, List.filter_cons_of_pos (by rfl), List.filter_cons_of_pos (by rfl), List.length_cons, List.length_cons, ih]
    · rw [List.map_cons, List.filter_cons_of_neg (by simp [isFal]), List.filter_cons_of_neg (by simp), ih]
theorem falAt_own {w : World} {base g n : Nat} {e : TypeId} {S : List Bool} (h : w.ownsRow base e 1 (.slice (some ⟨g, 0, none⟩) n n) n (S.map Value.bool)) : falAt g w = nfal S := by
  rcases h.2 with ⟨h, _⟩ | ⟨g', cap, cur, h1, h2, h3, h4, h5, h6, h7⟩
  · cases h
  · injection h1 with h1 _ h1'
    injection h1 with h1
    injection h1 with h1
    subst h1 h1'
    unfold falAt
    rw [h3]
    simp only
    rw [List.take_of_length_le (by simp; omega)] at h7
    rw [h7, fal_map]
def lenV : Value → Nat
  | .slice _ n _ => n
  | _ => 0
theorem own_take1 {w : World} {base g n c m : Nat} {e : TypeId} {xs : List Value} (h : w.ownsRow base e 1 (.slice (some ⟨g, 0, none⟩) n c) n xs) (hm : m ≤ n) : w.ownsRow base e 1 (.slice (some ⟨g, 0, none⟩) m c) m (xs.take m) := by
  obtain ⟨hl, h⟩ := h
  rcases h with ⟨h, _⟩ | ⟨g', cap, cur, h1, h2, h3, h4, h5, h6, h7⟩
  · cases h
  · injection h1 with h1 _ h1'
    injection h1 with h1
    injection h1 with h1
    subst h1 h1'
    refine ⟨by rw [List.length_take]; omega, .inr ⟨g, c, cur, rfl, h2, h3, by omega, h5, h6, ?_⟩⟩
    rw [← h7, List.take_take]
    congr 1
    omega
theorem nextI_len (p : Nat) (x : II) : (nextI p x).length ≤ 2 := by
  unfold nextI
  rw [List.length_append]
  split <;> split <;> simp
theorem start_rch (l : List II) (h : Gd l) : Lv l ((List.replicate l.length false).set 0 true) [0] := by
  have h0 := h.n0
  have e : ((List.replicate l.length false).set 0 true)[0]? = some true := by rw [List.getElem?_set_self (by simpa using h0)]
  have only : ∀ k : Nat, ((List.replicate l.length false).set 0 true)[k]? = some true → k = 0 := fun k hk => by
    by_cases h1 : 0 = k
    · exact h1.symm
    · rw [List.getElem?_set_ne h1] at hk
      obtain ⟨hk1, hk2⟩ := List.getElem?_eq_some_iff.1 hk
      simp at hk2
  refine ⟨by simp, e, fun k hk => ?_, fun k hk => ?_, fun k hk => ?_⟩
  · rw [only k hk]; exact .zero
  · rw [List.mem_singleton] at hk; rw [hk]; exact e
  · rw [only k hk]; exact .inl (by simp)
theorem info_bool : (Try.prog.info? 4).map (fun i => (i.zero, i.size, i.bytes)) = some (some (.bool false), 1, 1) := by kernel_rfl
theorem made_bools (n : Nat) : (madeCells #[.bool false] n).toList = (List.replicate n false).map Value.bool := by
  apply List.ext_getElem <;> simp [madeCells, Nat.mod_one]
theorem live_any (A : Option Addr) (n c : Nat) (l : List II) (w : World) (h : InsR w w.heap.size A n l) (hg : Gd l) (hn : n ≤ 1000000) :
    Calls Try.prog 94 #[.slice A n c] w fun e w' => ∃ g, e = .returned (.slice (some ⟨g, 0, none⟩) n n) ∧ w'.ownsRow w.heap.size 4 1 (.slice (some ⟨g, 0, none⟩) n n) n ((seenV l).map Value.bool) ∧ Below w.heap.size w w' := by
  obtain ⟨i0, hi, hz0, hz1, hz2⟩ := info_parts info_i64
  have HI := Lib.hid h
  have HG := Lib.hid hg
  have hn0 : 0 < n := by rw [h.1]; exact hg.n0
  have HN := Lib.hid h.1
  clear h hg
  obtain ⟨ib, hbi, hbz0, hbz1, hbz2⟩ := info_parts info_bool
  go_enter Try.func94, Try.ntmps94
  have hmade : (madeCells (Value.bool false).cells (n * 1)).toList = (List.replicate n false).map Value.bool := by
    rw [Nat.mul_one]
    exact made_bools n
  go_wp2_with (at_make; refine wpList_make_full _ rfl _ _ 141 rfl w.heap.size 4 ib (.bool false) 1 Try.underlying141 hbi hbz0 hbz1 .i64 .i64 _ _ n rfl rfl rfl rfl (by rw [hbz2]; omega) (by unfold maxLen; omega) (Nat.le_refl _) ?_; intro w1 hown hgrow; rw [hmade] at hown; have HOS := Lib.hid hown; obtain ⟨s0, s1, _, hsl⟩ := own1_cell (k := 0) hown (u := .bool false) (by rw [List.getElem?_map, List.getElem?_replicate, if_pos hn0]; rfl))
  have HB1 := Lib.hid ((Below.refl w.heap.size w).grown hgrow (Nat.le_refl _) (fun q e => by cases e))
  have HW0 := Lib.hid (show ((w1.setCell ⟨w.heap.size, 0, none⟩ (.bool true)).alloc (.cells #[.int .i64 0] 3)).ownsRow w.heap.size 3 1 (.slice (some ⟨w1.heap.size, 0, none⟩) 1 1) 1 [.int .i64 0] from ⟨rfl, .inr ⟨w1.heap.size, 1, #[.int .i64 0], rfl, by omega, heap_at _ (by simp), Nat.le_refl _, by unfold maxLen; omega, rfl, rfl⟩⟩)
  have HS0 := Lib.hid (own_kept (own1_set HOS.out (k := 0) (.bool true)) (al (.cells #[.int .i64 0] 3)))
  have HBW := Lib.hid ((HB1.out.setCell (p := ⟨w.heap.size, 0, none⟩) (Nat.le_refl _) (.bool true)).alloc (by simp; omega) (.cells #[.int .i64 0] 3))
  have hne0 : w1.heap.size ≠ w.heap.size := by omega
  clear hown hgrow
  generalize hgs : w.heap.size = gs at *
  have HGS := Lib.hid hgs
  clear hgs
  generalize hWW : ((w1.setCell ⟨gs, 0, none⟩ (.bool true)).alloc (.cells #[.int .i64 0] 3)) = WW at *
  have hst := start_rch l HG.out
  rw [← HN.out] at hst
  rw [← List.map_set] at HS0
  have HST := Lib.hid hst
  clear hst hWW
  go_loopw [4] (fun v wr => ∃ (S : List Bool) (W : List Nat), Hid (Lv l S W) ∧ Hid (wr.ownsRow gs 4 1 (.slice (some ⟨gs, 0, none⟩) n n) n (S.map Value.bool)) ∧ Hid (wr.ownsRow gs 3 1 v W.length (W.map fun (k : Nat) => Value.int .i64 (k : Int))) ∧ Hid (v.ownBlock ≠ some gs) ∧ Hid (Below gs w wr) ∧ Hid (nfal S + W.length ≤ n)) (fun v wr => 2 * falAt gs wr + lenV v)
  case atStart => exact ⟨_, [0], HST, HS0, HW0, Lib.hid (fun e => by injection e with e; exact hne0 e), HBW, Lib.hid (by have := nfal_set (S := List.replicate n false) (q := 0) (by rw [List.getElem?_replicate, if_pos hn0]); have h2 := nfal_rep n; simp only [List.length_cons, List.length_nil]; omega)⟩
  case round =>
    obtain ⟨S, W, HLV, HOS, HOW, HNE, HBR, HCT⟩ := hrel
    rcases List.eq_nil_or_concat W with rfl | ⟨W', p, rfl⟩
    · obtain ⟨VA, VC, hv⟩ := own_form HOW.out
      rw [List.length_nil] at hv
      subst hv
      go_wp2_with fail
      go_ret
      have := HOS.out
      rw [HLV.out.done] at this
      exact ⟨gs, rfl, by rw [HGS.out]; exact this, by rw [HGS.out]; exact HBR.out⟩
    · rw [List.concat_eq_append] at *
      have hlen : (W' ++ [p]).length = W'.length + 1 := by simp
      rw [hlen] at HOW
      obtain ⟨gw, cw, hv⟩ := own1_form HOW.out (by omega)
      subst hv
      generalize hm : W'.length = m at *
      have HM := Lib.hid hm
      obtain ⟨c0, _, hgw, hgw2⟩ := own1_cell (k := m) HOW.out (u := .int .i64 (p : Int)) (by rw [List.getElem?_map, List.getElem?_append_right (by omega), hm]; simp)
      have hpS := HLV.out.wk p (by simp)
      have hpn : p < n := by rw [HN.out, ← HLV.out.len]; exact (List.getElem?_eq_some_iff.1 hpS).1
      obtain ⟨x, hx⟩ : ∃ x, l[p]? = some x := ⟨_, List.getElem?_eq_getElem (by rw [← HN.out]; exact hpn)⟩
      have HX := Lib.hid hx
      have HNV := Lib.hid (show nextV l p = nextI p x by unfold nextV; rw [hx])
      have HOW2 := Lib.hid (show wr.ownsRow gs 3 1 (.slice (some ⟨gw, 0, none⟩) m cw) m (W'.map fun (k : Nat) => Value.int .i64 (k : Int)) by
        have h1 := own_take1 HOW.out (m := m) (by omega)
        rwa [List.map_append, List.take_left' (by rw [List.length_map]; exact hm)] at h1)
      have HPOP := Lib.hid HLV.out.pop
      have hmc : m ≤ cw := by
        rcases HOW2.out.2 with ⟨h, _⟩ | ⟨_, cap, _, h, _, _, h2, _⟩
        · cases h
        · injection h with _ _ h; omega
      have hmn : m + 1 ≤ n := by have := HCT.out; rw [hlen] at this; omega
      have HMX := Lib.hid (show falAt gs wr = nfal S from falAt_own HOS.out)
      clear hm hlen hpS hx
      go_wp2_with fail
      refine Calls.mono (next_any A n c p l x wr ((HI.out.below HBR.out).more (Nat.le_of_lt (Nat.lt_of_le_of_lt hgw hgw2))) HX.out hn) ?_
      rintro e w2 ⟨AX, q, cx, rfl, hown2, hb2⟩
      rw [← HNV.out] at hown2
      have HB2 := Lib.hid (sq (by rw [HGS.out]; exact HBR.out) hb2)
      have HOX := Lib.hid hown2
      have HOS2 := Lib.hid (own_kept HOS.out hb2)
      have HOW3 := Lib.hid (own_kept HOW2.out hb2)
      have hzw := hb2.size
      clear hown2 hb2
      have HRX := Lib.hid (show RdM w2 (fun b => b < w2.heap.size ∧ b ≠ gs ∧ some b ≠ (Value.slice (some ⟨gw, 0, none⟩) m cw).ownBlock) 1 AX q ((nextV l p).map (Value.int .i64)) from (RdM.of_own HOX.out).more fun b hb => ⟨hb.2, by omega, fun e => by injection e with e; change b = gw at e; omega⟩)
      have HQL := Lib.hid (show (nextV l p).length = q by have := HOX.out.1; simpa using this)
      have hq2 : q ≤ 2 := by rw [← HQL.out, HNV.out]; exact nextI_len p x
      have hgw0 : gs ≠ gw := fun e => HNE.out (by rw [e]; rfl)
      go_wp2_with fail
      go_loopw [32, 4] (fun i v wr => ∃ (j : Nat) (S2 : List Bool) (W2 : List Nat), i = .int .i64 (j : Int) ∧ j ≤ q ∧ Hid (Lw l S2 W2 p j) ∧ Hid (wr.ownsRow gs 4 1 (.slice (some ⟨gs, 0, none⟩) n n) n (S2.map Value.bool)) ∧ Hid (wr.ownsRow gs 3 1 v W2.length (W2.map fun (k : Nat) => Value.int .i64 (k : Int))) ∧ Hid (v.ownBlock ≠ some gs) ∧ Hid (Below gs w wr) ∧ Hid (RdM wr (fun b => b < wr.heap.size ∧ b ≠ gs ∧ some b ≠ v.ownBlock) 1 AX q ((nextV l p).map (Value.int .i64))) ∧ Hid (nfal S2 + W2.length ≤ n ∧ 2 * nfal S2 + W2.length ≤ 2 * nfal S + m)) (fun i _ _ => q - (intOf i).toNat)
      case atStart => exact ⟨0, S, W', rfl, Nat.zero_le _, HPOP, HOS2, by rw [HM.out]; exact HOW3, HNE, by rw [← HGS.out]; exact HB2, HRX, Lib.hid (by have := HCT.out; have := HM.out; simp at *; omega)⟩
      case round =>
        obtain ⟨j, S2, W2, rfl, hj, HLW, HOS3, HOW4, HNE2, HBQ, HRQ, HC2⟩ := hrel
        obtain ⟨VA, VC, hv⟩ := own_form HOW4.out
        subst hv
        by_cases hlt : j < q
        · obtain ⟨z, hz⟩ : ∃ z, (nextV l p)[j]? = some z := ⟨_, List.getElem?_eq_getElem (by rw [HQL.out]; exact hlt)⟩
          have hzr := next_in HG.out (List.mem_of_getElem? hz)
          obtain ⟨r, rfl⟩ : ∃ r : Nat, z = (r : Int) := ⟨z.toNat, by omega⟩
          have hrn : r < n := by have := HN.out; omega
          obtain ⟨bx, ox, hAX, hbx, hcx⟩ := HRQ.out.2 (by omega)
          have cz := hcx j (.int .i64 (r : Int)) (by rw [List.getElem?_map, hz]; rfl)
          have HZ := Lib.hid hz
          have HRN := Lib.hid hrn
          have hrl : r < S2.length := by rw [HLW.out.len]; have := HN.out; omega
          obtain ⟨sb, hsb⟩ : ∃ sb, S2[r]? = some sb := ⟨_, List.getElem?_eq_getElem hrl⟩
          obtain ⟨k0, k1, _, k2⟩ := own1_cell (k := r) HOS3.out (u := .bool sb) (by rw [List.getElem?_map, hsb]; rfl)
          have HSB := Lib.hid hsb
          subst hAX
          clear hz hzr hcx hbx hsb hrl
          cases sb with
          | true =>
            have HSK := Lib.hid (HLW.out.skip HZ.out HSB.out)
            go_wp2_with fail
            go_roundw
            case rel => exact ⟨j + 1, S2, W2, by go_num, by omega, HSK, HOS3, HOW4, HNE2, HBQ, HRQ, HC2⟩
            case measure => simp [intOf]; omega
          | false =>
            have HPU := Lib.hid (HLW.out.push HZ.out (by rw [← HN.out]; exact HRN.out))
            have HNF := Lib.hid (nfal_set HSB.out)
            have hwn : W2.length ≤ n := by have := HC2.out.1; omega
            have HOX2 := Lib.hid (own_kept (ownsRow_setCell_other HOW4.out (a := ⟨gs, r, none⟩) HNE2.out (.bool true)) (al (.cells #[.int .i64 (r : Int)] 3)))
            have HOSX := Lib.hid (own_kept (own1_set HOS3.out (k := r) (.bool true)) (al (.cells #[.int .i64 (r : Int)] 3)))
            rw [← List.map_set] at HOSX
            have HWL := Lib.hid (show W2.length + 1 = (W2 ++ [r]).length by simp)
            generalize hwl : W2.length = wl at *
            go_wp2_with (first
              | (at_builtin; refine wpList_append_rd _ rfl _ _ 31 rfl gs 3 i0 _ 1 8 Try.underlying31 hi hz0 hz1 hz2 rfl (by omega) (.slice VA wl VC) wl _ rfl HOX2.out _ (some ⟨wr.heap.size, 0, none⟩) 1 1 [.int .i64 (r : Int)] rfl (Rd.lit1' _ _ _ _ (by simp)) (one1 rfl) (by unfold maxLen; omega) (by omega) (by simp; omega) ?_; intro A6 c6 w6 hown6 hgrow6 hob6)
              | fail "no")
            have HOS6 := Lib.hid (HOSX.out.kept hgrow6 (.inr fun e => HNE2.out e.symm))
            have HOW6 := Lib.hid (show w6.ownsRow gs 3 1 (.slice A6 (W2 ++ [r]).length c6) (W2 ++ [r]).length ((W2 ++ [r]).map fun (k : Nat) => Value.int .i64 (k : Int)) by rw [← HWL.out, List.map_append]; exact hown6)
            have HNE6 := Lib.hid (show (Value.slice A6 (wl + 1) c6).ownBlock ≠ some gs from fun e => by
              rcases hob6 with h | h
              · exact HNE2.out (h.symm.trans e)
              · rw [h] at e; injection e with e; simp at e; omega)
            have HB6 := Lib.hid (((HBQ.out.setCell (p := ⟨gs, r, none⟩) (Nat.le_refl _) (.bool true)).alloc (by simp; omega) (.cells #[.int .i64 (r : Int)] 3)).grown hgrow6 (by simp; omega) (fun q hq => (HOW4.out.lt q hq).1))
            have HR6 := Lib.hid (show RdM w6 (fun b => b < w6.heap.size ∧ b ≠ gs ∧ some b ≠ (Value.slice A6 (wl + 1) c6).ownBlock) 1 (some ⟨bx, ox, none⟩) q ((nextV l p).map (Value.int .i64)) from
              ((HRQ.out.keep (w' := w6) fun a ha => World.cell?_of_block ((hgrow6.block a.block (by simp; have := ha.1; omega) (fun e => ha.2.2 e)).trans ((Lib.alloc_old _ _ _ (by simpa using ha.1)).trans (Below.heap_setCell _ _ _ _ ha.2.1)))).more fun b hb => ⟨by have := hgrow6.size; simp at this; have := hb.1; omega, hb.2.1, fun e => by
                rcases hob6 with h | h
                · exact hb.2.2 (e.trans h)
                · rw [h] at e; injection e with e; simp at e; have := hb.1; omega⟩))
            clear hown6 hgrow6 hob6
            go_wp2_with fail
            go_roundw
            case rel => exact ⟨j + 1, S2.set r true, W2 ++ [r], by go_num, by omega, HPU, HOS6, by rw [← HWL.out] at HOW6 ⊢; exact HOW6, HNE6, HB6, HR6, Lib.hid (by have := HNF.out; have := HC2.out; rw [← HWL.out]; omega)⟩
            case measure => simp [intOf]; omega
        · obtain rfl : j = q := by omega
          have HFI := Lib.hid (HLW.out.fin (by rw [HQL.out]; omega))
          have HMY := Lib.hid (falAt_own HOS3.out)
          go_wp2_with fail
          go_roundw
          case rel => exact ⟨S2, W2, HFI, HOS3, HOW4, HNE2, HBQ, Lib.hid HC2.out.1⟩
          case measure => rw [HMY.out, HMX.out]; have := HC2.out.2; simp only [lenV]; omega
/-- A slice's head: its room. -/
def CapR (A : Option Addr) (n c : Nat) : Prop := n ≤ c ∧ c ≤ maxLen ∧ (c = 0 ∨ A ≠ none)
theorem Own.capR {X : Type} {S : Shp X} {t : TypeId} {w : World} {base n c : Nat} {E : Nat → Prop} {A : Option Addr} {l : List X} (h : Own S t w base E (.slice A n c) l) : CapR A n c := by
  obtain ⟨A', c', ess, e, hown, _⟩ := h
  injection e with e1 e2 e3
  subst e1 e2 e3
  exact own_cap hown
end Go.Proofs.Ytapbdfcihheecaa
