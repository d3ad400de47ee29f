/- squeeze's 'keep', with each of its two tests. Conditions: the list fits what comes in. -/
import Derived.Test.YtapbdfcihheecaaSqD
set_option maxRecDepth 100000
namespace Go.Proofs.Ytapbdfcihheecaa
open Go.ChangeShapes Go.WideShapes Go.ChangeAt Go.RowKit
/-- A slice of instructions stays where its own row stays. -/
theorem Own.iiK {w w' : World} {t : TypeId} {base : Nat} {v : Value} {xs : List II} (h : Own II.sh t w base (· < base) v xs) (hs : w.heap.size ≤ w'.heap.size) (hb : ∀ k, v.ownBlock = some k → w'.heap[k]? = w.heap[k]?) : Own II.sh t w' base (· < base) v xs := by
  obtain ⟨A, c, ess, rfl, hown, hall⟩ := h
  refine ⟨A, c, ess, rfl, own_heap hown hs hb, hall.1, fun i c x hc hx => ?_⟩
  obtain ⟨rfl, q0, q1, q2, q3, q4, q5⟩ := II.elim (hall.2 i c x hc hx)
  exact II.intro q0 q1 q2 q3 q4 q5
/-- The table of places after k rounds. -/
def plc (st : Nat → Bool) (n k : Nat) : List Value := (List.range n).map fun j => if j < k then Value.int .i64 (cntSt st j : Int) else .int .i64 0
theorem plc_zero (st : Nat → Bool) (n : Nat) : plc st n 0 = List.replicate n (.int .i64 0) := by
  unfold plc
  apply List.ext_getElem <;> simp
theorem plc_set (st : Nat → Bool) (n k : Nat) : (plc st n k).set k (.int .i64 (cntSt st k : Int)) = plc st n (k + 1) := by
  unfold plc
  apply List.ext_getElem?
  intro j
  rw [List.getElem?_set]
  simp only [List.length_map, List.length_range, List.getElem?_map]
  by_cases hj : j < n
  · rw [List.getElem?_range hj]
    by_cases hk : k = j
    · subst hk
      simp [hj]
    · simp only [if_neg hk, Option.map_some]
      congr 1
      by_cases h : j < k
      · rw [if_pos h, if_pos (by omega)]
      · rw [if_neg h, if_neg (by omega)]
  · rw [List.getElem?_eq_none (by simp; omega)]
    split
    · split <;> first | rfl | omega
    · rfl
theorem plc_at {st : Nat → Bool} {n k j : Nat} (hj : j < k) (hn : j < n) : (plc st n k)[j]? = some (.int .i64 (cntSt st j : Int)) := by
  unfold plc
  rw [List.getElem?_map, List.getElem?_range hn]
  simp [hj]
theorem plc_any {st : Nat → Bool} {n k j : Nat} (hn : j < n) : ∃ u : Int, (plc st n k)[j]? = some (.int .i64 u) := by
  unfold plc
  rw [List.getElem?_map, List.getElem?_range hn]
  simp only [Option.map_some]
  split
  · exact ⟨_, rfl⟩
  · exact ⟨_, rfl⟩
theorem made_ints (n : Nat) : (madeCells #[.int .i64 0] n).toList = List.replicate n (.int .i64 0) := by
  apply List.ext_getElem <;> simp [madeCells, Nat.mod_one]
theorem sc_os (w : World) (a : Addr) (v : Value) : (w.setCell a v).os = w.os := rfl
theorem sc_tape (w : World) (a : Addr) (v : Value) : (w.setCell a v).tape = w.tape := rfl
theorem sc_out (w : World) (a : Addr) (v : Value) : (w.setCell a v).output = w.output := rfl
theorem sc_size (w : World) (a : Addr) (v : Value) : (w.setCell a v).heap.size = w.heap.size := by simp
/-- A struct in a box is written, cell by cell. -/
theorem six_ex {w : World} {g : Nat} {T : TypeId} {u0 u1 u2 u3 u4 u5 : Value} (v0 v1 v2 v3 v4 v5 : Value) (h : w.heap[g]? = some (.cells #[u0, u1, u2, u3, u4, u5] T (0, 0))) :
    ∃ w7, w7 = ((((((w.setCell ⟨g, 0, none⟩ v0).setCell ⟨g, 1, none⟩ v1).setCell ⟨g, 2, none⟩ v2).setCell ⟨g, 3, none⟩ v3).setCell ⟨g, 4, none⟩ v4).setCell ⟨g, 5, none⟩ v5) ∧ w7.heap[g]? = some (.cells #[v0, v1, v2, v3, v4, v5] T (0, 0)) ∧ (∀ z, z ≠ g → w7.heap[z]? = w.heap[z]?) ∧ w7.heap.size = w.heap.size ∧ w7.os = w.os ∧ w7.tape = w.tape ∧ w7.output = w.output := by
  refine ⟨_, rfl, ?_, fun z hz => ?_, by simp only [sc_size], by simp only [sc_os], by simp only [sc_tape], by simp only [sc_out]⟩
  · have h1 := heap_setA (o := 5) (heap_setA (o := 4) (heap_setA (o := 3) (heap_setA (o := 2) (heap_setA (o := 1) (heap_setA (o := 0) h v0) v1) v2) v3) v4) v5
    exact h1
  · rw [Below.heap_setCell _ _ _ _ hz, Below.heap_setCell _ _ _ _ hz, Below.heap_setCell _ _ _ _ hz, Below.heap_setCell _ _ _ _ hz, Below.heap_setCell _ _ _ _ hz, Below.heap_setCell _ _ _ _ hz]
theorem keepF_step {l : List II} {st : Nat → Bool} {k : Nat} {x : II} (hx : l[k]? = some x) : keepF l st (k + 1) = keepF l st k ++ (if st k = true then [keepI st x] else []) := by
  rw [keepF, hx]
set_option maxHeartbeats 2000000 in
theorem keep1_any (A : Option Addr) (n c gb : Nat) (l : List II) (st : Nat → Bool) (w : World) (h : InsR w w.heap.size A n l) (hl : InB l) (hn : n ≤ 1000000)
    (hst : ∀ W, Below w.heap.size w W → ∀ k, k < n → Calls Try.prog 96 #[.int .i64 (k : Int), .pointer (some ⟨gb, 0, none⟩)] W fun e w' => e = .returned (.bool (st k)) ∧ Below W.heap.size W w') :
    Calls Try.prog 95 #[.slice A n c, .func (.func 96) #[] #[.pointer (some ⟨gb, 0, none⟩)]] w fun e w' => ∃ A' m c', e = .returned (.slice A' m c') ∧ InsM w' (fun b => w.heap.size ≤ b ∧ b < w'.heap.size) A' m (keepV l st) ∧ CapR A' m c' ∧ Below w.heap.size w w' := by
  obtain ⟨i0, hi, hz0, hz1, hz2⟩ := info_parts info_i64
  obtain ⟨j0, hj, jz0, jz1, jz2⟩ := info_parts info_ins
  have HI := Lib.hid h
  have HL := Lib.hid hl
  have HN := Lib.hid h.1
  have HST := Lib.hid hst
  have hmade : (madeCells (Value.int .i64 0).cells ((n + 1) * 1)).toList = plc st (n + 1) 0 := by
    rw [Nat.mul_one, plc_zero]
    exact made_ints (n + 1)
  clear h hl hst
  go_enter Try.func95, Try.ntmps95
  go_wp2_with (at_make; refine wpList_make_full _ rfl _ _ 31 rfl w.heap.size 3 i0 (.int .i64 0) 1 Try.underlying31 hi hz0 hz1 .i64 .i64 _ _ (n + 1) rfl rfl (by go_num) (by go_num) (by rw [hz2]; omega) (by unfold maxLen; omega) (Nat.le_refl _) ?_; intro w1 hown hgrow; rw [hmade] at hown)
  have HB1 := Lib.hid ((Below.refl w.heap.size w).grown hgrow (Nat.le_refl _) (fun q e => by cases e))
  have HO1 := Lib.hid hown
  clear hown hgrow hmade
  generalize hgs : w.heap.size = gp at *
  have HGP := Lib.hid hgs
  clear hgs
  go_loopw [6, 19] (fun v i wr => ∃ k : Nat, k ≤ n ∧ i = .int .i64 (k : Int) ∧ v = .int .i64 ((cntSt st k : Nat) : Int) ∧ Hid (wr.ownsRow gp 3 1 (.slice (some ⟨gp, 0, none⟩) (n + 1) (n + 1)) (n + 1) (plc st (n + 1) k)) ∧ Hid (Below gp w wr)) (fun _ i _ => n - (intOf i).toNat)
  case atStart => exact ⟨0, Nat.zero_le _, rfl, rfl, HO1, HB1⟩
  case round =>
    obtain ⟨k, hk, rfl, rfl, HOR, HBR⟩ := hrel
    by_cases hlt : k < n
    · obtain ⟨u, hu⟩ := plc_any (st := st) (n := n + 1) (k := k) (j := k) (by omega)
      obtain ⟨k0, k1, _, k2⟩ := own1_cell (k := k) HOR.out hu
      have HO2 := Lib.hid (own1_set HOR.out (k := k) (.int .i64 ((cntSt st k : Nat) : Int)))
      rw [plc_set] at HO2
      have HB2 := Lib.hid (HBR.out.setCell (p := ⟨gp, k, none⟩) (Nat.le_refl _) (.int .i64 ((cntSt st k : Nat) : Int)))
      have hkn : k < n + 1 := by omega
      have hcl : cntSt st k ≤ 1000000 := Nat.le_trans (cq_le st k) (by omega)
      have HCS := Lib.hid (show cntSt st (k + 1) = cntSt st k + (if st k = true then 1 else 0) from rfl)
      generalize cntSt st k = cv at *
      clear hu
      go_wp2_with fail
      refine Calls.mono (HST.out _ HB2.out k hlt) ?_
      rintro e w2 ⟨rfl, hb2⟩
      have HB3 := Lib.hid (HB2.out.trans (hb2.mono (by have := HB2.out.size; have h2 := HGP.out; omega)))
      have HO3 := Lib.hid (own_kept HO2.out hb2)
      clear hb2
      cases hsk : st k with
      | true =>
        rw [hsk] at HCS
        clear hsk
        go_wp2_with fail
        go_roundw
        case rel => exact ⟨k + 1, by omega, by go_num, by rw [HCS.out]; go_num, HO3, HB3⟩
        case measure => simp [intOf]; omega
      | false =>
        rw [hsk] at HCS
        clear hsk
        go_wp2_with fail
        go_roundw
        case rel => exact ⟨k + 1, by omega, by go_num, by rw [HCS.out]; go_num, HO3, HB3⟩
        case measure => simp [intOf]; omega
    · obtain rfl : k = n := by omega
      go_wp2_with fail
      go_loopw [34, 8] (fun i v wr => ∃ q : Nat, q ≤ k ∧ i = .int .i64 (q : Int) ∧ Hid (Own II.sh 126 wr gp (· < gp) v (keepF l st q)) ∧ Hid (v.ownBlock ≠ some gp) ∧ Hid (wr.ownsRow gp 3 1 (.slice (some ⟨gp, 0, none⟩) (k + 1) (k + 1)) (k + 1) (plc st (k + 1) k)) ∧ Hid (Below gp w wr)) (fun i _ _ => k - (intOf i).toNat)
      case atStart => exact ⟨0, Nat.zero_le _, rfl, Own.nil, Lib.hid (fun e => by cases e), HOR, HBR⟩
      case round =>
        obtain ⟨q, hq, rfl, HOU, HNE, HOP, HBQ⟩ := hrel
        obtain ⟨VA, VC, hv⟩ := HOU.out.form
        subst hv
        by_cases hql : q < k
        · obtain ⟨x, hx⟩ : ∃ x, l[q]? = some x := ⟨_, List.getElem?_eq_getElem (by rw [← HN.out]; exact hql)⟩
          obtain ⟨b, off, hA, hb, e0, e1, e2, e3, e4, e5⟩ := (HI.out.below HBQ.out).at hx
          have HX := Lib.hid hx
          have HBD := Lib.hid (HI.out.bd (List.mem_of_getElem? hx))
          have HTG := Lib.hid (show tgV x = if tgtB x.o = true then some (tgtN x.o x.a x.b) else none from rfl)
          have HKS := Lib.hid (keepF_step (st := st) hx)
          have hfl : (keepF l st q).length ≤ 1000000 := by rw [keepF_len q (by have := HN.out; omega)]; exact Nat.le_trans (cq_le st q) (by omega)
          subst hA
          obtain ⟨xo, xa, xb, xc, xd, xe⟩ := x
          simp only at e0 e1 e2 e3 e4 e5 HBD HTG
          have hbw : b < wr.heap.size := Nat.lt_of_lt_of_le (by rw [HGP.out]; exact hb) HBQ.out.size
          clear hx
          have hgpw : gp < wr.heap.size := (own1_cell (k := 0) HOP.out (plc_at (st := st) (by omega) (by omega))).2.2.2
          have HBA := Lib.hid (HBQ.out.alloc (Nat.le_of_lt hgpw) (.cells #[.int .i64 xo, .int .i64 xa, .int .i64 xb, .int .i64 xc, .int .i64 xd, .int .i64 xe] 126))
          go_wp2_with fail
          refine Calls.mono (HST.out _ HBA.out q hql) ?_
          rintro e w3 ⟨rfl, hb3⟩
          have HB3 := Lib.hid (HBA.out.trans (hb3.mono (by rw [← HGP.out]; exact HBA.out.size)))
          have hf3 := (hb3.block wr.heap.size (by simp)).trans (heap_alloc_new wr _)
          have HF3 := Lib.hid hf3
          have HO3 := Lib.hid ((HOU.out.below (al (.cells #[.int .i64 xo, .int .i64 xa, .int .i64 xb, .int .i64 xc, .int .i64 xd, .int .i64 xe] 126))).below hb3)
          have HP3 := Lib.hid (own_kept (own_kept HOP.out (al (.cells #[.int .i64 xo, .int .i64 xa, .int .i64 xb, .int .i64 xc, .int .i64 xd, .int .i64 xe] 126))) hb3)
          have hs3 : wr.heap.size < w3.heap.size := (Array.getElem?_eq_some_iff.1 hf3).1
          clear hb3
          cases hsk : st q with
          | false =>
            have HKE := Lib.hid (show keepF l st (q + 1) = keepF l st q by rw [HKS.out, hsk]; simp)
            clear hsk hf3
            go_wp2_with fail
            go_roundw
            case rel => exact ⟨q + 1, by omega, by go_num, by rw [HKE.out]; exact HO3, HNE, HP3, HB3⟩
            case measure => simp [intOf]; omega
          | true =>
            have d0 : w3.cell? ⟨wr.heap.size, 0, none⟩ = some (.int .i64 xo) := by rw [Lib.cell_of_heap hf3]; rfl
            have d1 : w3.cell? ⟨wr.heap.size, 1, none⟩ = some (.int .i64 xa) := by rw [Lib.cell_of_heap hf3]; rfl
            have d2 : w3.cell? ⟨wr.heap.size, 2, none⟩ = some (.int .i64 xb) := by rw [Lib.cell_of_heap hf3]; rfl
            have d3 : w3.cell? ⟨wr.heap.size, 3, none⟩ = some (.int .i64 xc) := by rw [Lib.cell_of_heap hf3]; rfl
            have d4 : w3.cell? ⟨wr.heap.size, 4, none⟩ = some (.int .i64 xd) := by rw [Lib.cell_of_heap hf3]; rfl
            have d5 : w3.cell? ⟨wr.heap.size, 5, none⟩ = some (.int .i64 xe) := by rw [Lib.cell_of_heap hf3]; rfl
            have HKT := Lib.hid (show keepF l st (q + 1) = keepF l st q ++ [keepI st ⟨xo, xa, xb, xc, xd, xe⟩] by rw [HKS.out, hsk]; simp)
            clear hsk hf3
            go_wp2_with fail
            refine Calls.mono (guardTarget_any xo xa xb xc xd xe _) ?_
            rintro e w4 ⟨rfl, hb4⟩
            have HB4 := Lib.hid (HB3.out.trans (hb4.mono (by rw [← HGP.out]; exact HB3.out.size)))
            have hf4 := (hb4.block wr.heap.size hs3).trans HF3.out
            have HF4 := Lib.hid hf4
            have HO4 := Lib.hid (HO3.out.below hb4)
            have HP4 := Lib.hid (own_kept HP3.out hb4)
            have hs4 : wr.heap.size < w4.heap.size := (Array.getElem?_eq_some_iff.1 hf4).1
            clear hb4 d0 d1 d2 d3 d4 d5
            have d0 : w4.cell? ⟨wr.heap.size, 0, none⟩ = some (.int .i64 xo) := by rw [Lib.cell_of_heap hf4]; rfl
            have d1 : w4.cell? ⟨wr.heap.size, 1, none⟩ = some (.int .i64 xa) := by rw [Lib.cell_of_heap hf4]; rfl
            have d2 : w4.cell? ⟨wr.heap.size, 2, none⟩ = some (.int .i64 xb) := by rw [Lib.cell_of_heap hf4]; rfl
            have d3 : w4.cell? ⟨wr.heap.size, 3, none⟩ = some (.int .i64 xc) := by rw [Lib.cell_of_heap hf4]; rfl
            have d4 : w4.cell? ⟨wr.heap.size, 4, none⟩ = some (.int .i64 xd) := by rw [Lib.cell_of_heap hf4]; rfl
            have d5 : w4.cell? ⟨wr.heap.size, 5, none⟩ = some (.int .i64 xe) := by rw [Lib.cell_of_heap hf4]; rfl
            clear hf4
            cases htb : tgtB xo with
            | false =>
              have HKE := Lib.hid (show keepF l st (q + 1) = keepF l st q ++ [⟨xo, xa, xb, xc, xd, xe⟩] by rw [HKT.out]; unfold keepI; rw [HTG.out, htb]; rfl)
              clear htb
              go_wp2_with (first
                | (at_builtin; refine wpList_append_Own (S := II.sh) rfl _ _ 121 rfl gp 126 j0 _ 48 Try.underlying121 hj jz0 jz1 jz2 rfl (by show 0 < 6; omega) (· < gp) (.slice VA (keepF l st q).length VC) (keepF l st q) rfl (HO4.out.below (al _)) _ _ 1 1 _ _ [(⟨xo, xa, xb, xc, xd, xe⟩ : II)] rfl (Rd.one _ _ _ 6 rfl _ (by simp)) (by simp) rfl (Shp.all1 (II.intro (v := ⟨xo, xa, xb, xc, xd, xe⟩) (HBD.out).1 (HBD.out).2.1 (HBD.out).2.2.1 (HBD.out).2.2.2.1 (HBD.out).2.2.2.2.1 (HBD.out).2.2.2.2.2)) (by unfold maxLen; omega) (by omega) (by have := hs4; simp; omega) ?_; intro A5 c5 w5 hown5 hgrow5 hob5)
                | fail "no")
              have HO5 := Lib.hid hown5
              have HNE5 := Lib.hid (show (Value.slice A5 ((keepF l st q).length + 1) c5).ownBlock ≠ some gp from fun e => by
                rcases hob5 with h | h
                · exact HNE.out (h.symm.trans e)
                · rw [h] at e; injection e with e; simp at e; have := hs4; omega)
              have HP5 := Lib.hid ((own_kept HP4.out (al (.cells _ 126))).kept hgrow5 (.inr fun e => HNE.out e.symm))
              have HB5 := Lib.hid ((HB4.out.alloc (by have := hs4; omega) (.cells _ 126)).grown hgrow5 (by have := hs4; simp; omega) (fun z hz => (HOU.out.ownlt hz).1))
              clear hown5 hgrow5 hob5
              go_wp2_with fail
              go_roundw
              case rel => exact ⟨q + 1, by omega, by go_num, by rw [HKE.out]; exact HO5, HNE5, HP5, HB5⟩
              case measure => simp [intOf]; omega
            | true =>
              have htg : tgV ⟨xo, xa, xb, xc, xd, xe⟩ = some (tgtN xo xa xb) := by rw [HTG.out, htb]; rfl
              have htl := HL.out _ (List.mem_of_getElem? HX.out) _ htg
              obtain ⟨t, ht⟩ : ∃ t : Nat, tgtN xo xa xb = (t : Int) := ⟨(tgtN xo xa xb).toNat, by omega⟩
              rw [ht] at htl htg
              have htn : t < k := by have := HN.out; omega
              have htk : t < k + 1 := by omega
              have htki : (t : Int) < (k : Int) + 1 := by omega
              obtain ⟨p0, _, _, _⟩ := own1_cell (k := t) HP4.out (plc_at (st := st) htn htk)
              have HEV := Lib.hid (show cntSt st t ≤ 1000000 from Nat.le_trans (cq_le st t) (by omega))
              have HKE := Lib.hid (show keepF l st (q + 1) = keepF l st q ++ [⟨xo, aimA xo xa (cntSt st t : Int), aimB xo xb (cntSt st t : Int), xc, xd, xe⟩] by
                rw [HKT.out]
                congr 2
                unfold keepI
                rw [htg]
                simp only [Int.toNat_natCast, aimV_eq])
              have HXB := Lib.hid (show ∀ p : Nat, p ≤ 1000000 → (-9223372036854775808 ≤ xo ∧ xo ≤ 9223372036854775807) ∧ (-9223372036854775808 ≤ aimA xo xa (p : Int) ∧ aimA xo xa (p : Int) ≤ 9223372036854775807) ∧ (-9223372036854775808 ≤ aimB xo xb (p : Int) ∧ aimB xo xb (p : Int) ≤ 9223372036854775807) ∧ (-9223372036854775808 ≤ xc ∧ xc ≤ 9223372036854775807) ∧ (-9223372036854775808 ≤ xd ∧ xd ≤ 9223372036854775807) ∧ (-9223372036854775808 ≤ xe ∧ xe ≤ 9223372036854775807) from fun p hp => by
                have := HBD.out
                unfold aimA aimB
                split <;> omega)
              clear htl htg htb
              generalize cntSt st t = ev at *
              rw [ht]
              clear ht
              go_wp2_with fail
              go_region_law (first
                | (go_simp; (go_at_call 129); refine (aim_any xo xa xb xc xd xe (ev : Int) _).mono ?_; rintro e w6 ⟨rfl, hb6⟩; have hf6 := (hb6.block wr.heap.size hs4).trans HF4.out; have f0 := Lib.frozen_of_heap hf6 0; have f1 := Lib.frozen_of_heap hf6 1; have f2 := Lib.frozen_of_heap hf6 2; have f3 := Lib.frozen_of_heap hf6 3; have f4 := Lib.frozen_of_heap hf6 4; have f5 := Lib.frozen_of_heap hf6 5; have d0 : w6.cell? ⟨wr.heap.size, 0, none⟩ = some (.int .i64 xo) := (by rw [Lib.cell_of_heap hf6]; rfl); have d1 : w6.cell? ⟨wr.heap.size, 1, none⟩ = some (.int .i64 xa) := (by rw [Lib.cell_of_heap hf6]; rfl); have d2 : w6.cell? ⟨wr.heap.size, 2, none⟩ = some (.int .i64 xb) := (by rw [Lib.cell_of_heap hf6]; rfl); have d3 : w6.cell? ⟨wr.heap.size, 3, none⟩ = some (.int .i64 xc) := (by rw [Lib.cell_of_heap hf6]; rfl); have d4 : w6.cell? ⟨wr.heap.size, 4, none⟩ = some (.int .i64 xd) := (by rw [Lib.cell_of_heap hf6]; rfl); have d5 : w6.cell? ⟨wr.heap.size, 5, none⟩ = some (.int .i64 xe) := (by rw [Lib.cell_of_heap hf6]; rfl); go_wp2_with fail)
                | fail "no")
              all_goals (
                have HB6 := Lib.hid ((HB4.out.drew).trans (hb6.mono (by rw [← HGP.out]; exact HB4.out.size)))
                have HO6 := Lib.hid ((HO4.out.below (Below.refl w4.heap.size w4).drew).below hb6)
                have HP6 := Lib.hid (own_kept (own_kept HP4.out (Below.refl w4.heap.size w4).drew) hb6)
                have hs6 : wr.heap.size < w6.heap.size := (Array.getElem?_eq_some_iff.1 hf6).1
                have hvl : ∀ z, (Value.slice VA (keepF l st q).length VC).ownBlock = some z → z ≠ wr.heap.size := fun z hz => by have := (HOU.out.ownlt hz).2; omega
                obtain ⟨w7, hw7, b7, k7, s7, o7, t7, u7'⟩ := six_ex (.int .i64 xo) (.int .i64 (aimA xo xa (ev : Int))) (.int .i64 (aimB xo xb (ev : Int))) (.int .i64 xc) (.int .i64 xd) (.int .i64 xe) hf6
                rw [← hw7]
                have HO7 := Lib.hid (HO6.out.iiK (w' := w7) (by omega) (fun z hz => k7 z (hvl z hz)))
                have HP7 := Lib.hid (own_heap HP6.out (w' := w7) (by omega) (fun z hz => k7 z (by injection hz with hz; change gp = z at hz; omega)))
                have HB7 := Lib.hid (show Below gp w w7 from ⟨o7.trans HB6.out.os, t7.trans HB6.out.tape, u7'.trans HB6.out.output, by have := HB6.out.size; omega, fun z hz => (k7 z (by omega)).trans (HB6.out.block z hz)⟩)
                have hs7 : wr.heap.size < w7.heap.size := by omega
                clear hf6 hb6 d0 d1 d2 d3 d4 d5 f0 f1 f2 f3 f4 f5 hw7 k7 s7 o7 t7 u7' hvl
                have d0 : w7.cell? ⟨wr.heap.size, 0, none⟩ = some (.int .i64 xo) := by rw [Lib.cell_of_heap b7]; rfl
                have d1 : w7.cell? ⟨wr.heap.size, 1, none⟩ = some (.int .i64 (aimA xo xa (ev : Int))) := by rw [Lib.cell_of_heap b7]; rfl
                have d2 : w7.cell? ⟨wr.heap.size, 2, none⟩ = some (.int .i64 (aimB xo xb (ev : Int))) := by rw [Lib.cell_of_heap b7]; rfl
                have d3 : w7.cell? ⟨wr.heap.size, 3, none⟩ = some (.int .i64 xc) := by rw [Lib.cell_of_heap b7]; rfl
                have d4 : w7.cell? ⟨wr.heap.size, 4, none⟩ = some (.int .i64 xd) := by rw [Lib.cell_of_heap b7]; rfl
                have d5 : w7.cell? ⟨wr.heap.size, 5, none⟩ = some (.int .i64 xe) := by rw [Lib.cell_of_heap b7]; rfl
                clear b7 p0
                go_wp2_with (first
                  | (at_builtin; refine wpList_append_Own (S := II.sh) rfl _ _ 121 rfl gp 126 j0 _ 48 Try.underlying121 hj jz0 jz1 jz2 rfl (by show 0 < 6; omega) (· < gp) (.slice VA (keepF l st q).length VC) (keepF l st q) rfl (HO7.out.below (al _)) _ _ 1 1 _ _ [(⟨xo, aimA xo xa (ev : Int), aimB xo xb (ev : Int), xc, xd, xe⟩ : II)] rfl (Rd.one _ _ _ 6 rfl _ (by simp)) (by simp) rfl (Shp.all1 (II.intro (v := ⟨xo, aimA xo xa (ev : Int), aimB xo xb (ev : Int), xc, xd, xe⟩) (HXB.out ev HEV.out).1 (HXB.out ev HEV.out).2.1 (HXB.out ev HEV.out).2.2.1 (HXB.out ev HEV.out).2.2.2.1 (HXB.out ev HEV.out).2.2.2.2.1 (HXB.out ev HEV.out).2.2.2.2.2)) (by unfold maxLen; omega) (by omega) (by have := hs7; simp; omega) ?_; intro A5 c5 w5 hown5 hgrow5 hob5)
                  | fail "no")
                have HO5 := Lib.hid hown5
                have HNE5 := Lib.hid (show (Value.slice A5 ((keepF l st q).length + 1) c5).ownBlock ≠ some gp from fun e => by
                  rcases hob5 with h | h
                  · exact HNE.out (h.symm.trans e)
                  · rw [h] at e; injection e with e; simp at e; have := hs7; omega)
                have HP5 := Lib.hid ((own_kept HP7.out (al (.cells _ 126))).kept hgrow5 (.inr fun e => HNE.out e.symm))
                have HB5 := Lib.hid ((HB7.out.alloc (by have := hs7; omega) (.cells _ 126)).grown hgrow5 (by have := hs7; simp; omega) (fun z hz => (HOU.out.ownlt hz).1))
                clear hown5 hgrow5 hob5
                go_wp2_with fail
                go_roundw
                case rel => exact ⟨q + 1, by omega, by go_num, by rw [HKE.out]; exact HO5, HNE5, HP5, HB5⟩
                case measure => simp [intOf]; omega)
        · obtain rfl : q = k := by omega
          go_wp2_with fail
          go_ret
          refine ⟨VA, _, VC, rfl, ?_, HOU.out.capR, by rw [HGP.out]; exact HBQ.out⟩
          rw [show keepV l st = keepF l st q by unfold keepV; rw [← HN.out], HGP.out]
          exact InsM.of_own HOU.out
set_option maxHeartbeats 2000000 in
theorem keep2_any (A : Option Addr) (n c gb : Nat) (l : List II) (st : Nat → Bool) (w : World) (h : InsR w w.heap.size A n l) (hl : InB l) (hn : n ≤ 1000000)
    (hst : ∀ W, Below w.heap.size w W → ∀ k, k < n → Calls Try.prog 97 #[.int .i64 (k : Int), .pointer (some ⟨gb, 0, none⟩)] W fun e w' => e = .returned (.bool (st k)) ∧ Below W.heap.size W w') :
    Calls Try.prog 95 #[.slice A n c, .func (.func 97) #[] #[.pointer (some ⟨gb, 0, none⟩)]] w fun e w' => ∃ A' m c', e = .returned (.slice A' m c') ∧ InsM w' (fun b => w.heap.size ≤ b ∧ b < w'.heap.size) A' m (keepV l st) ∧ CapR A' m c' ∧ Below w.heap.size w w' := by
  obtain ⟨i0, hi, hz0, hz1, hz2⟩ := info_parts info_i64
  obtain ⟨j0, hj, jz0, jz1, jz2⟩ := info_parts info_ins
  have HI := Lib.hid h
  have HL := Lib.hid hl
  have HN := Lib.hid h.1
  have HST := Lib.hid hst
  have hmade : (madeCells (Value.int .i64 0).cells ((n + 1) * 1)).toList = plc st (n + 1) 0 := by
    rw [Nat.mul_one, plc_zero]
    exact made_ints (n + 1)
  clear h hl hst
  go_enter Try.func95, Try.ntmps95
  go_wp2_with (at_make; refine wpList_make_full _ rfl _ _ 31 rfl w.heap.size 3 i0 (.int .i64 0) 1 Try.underlying31 hi hz0 hz1 .i64 .i64 _ _ (n + 1) rfl rfl (by go_num) (by go_num) (by rw [hz2]; omega) (by unfold maxLen; omega) (Nat.le_refl _) ?_; intro w1 hown hgrow; rw [hmade] at hown)
  have HB1 := Lib.hid ((Below.refl w.heap.size w).grown hgrow (Nat.le_refl _) (fun q e => by cases e))
  have HO1 := Lib.hid hown
  clear hown hgrow hmade
  generalize hgs : w.heap.size = gp at *
  have HGP := Lib.hid hgs
  clear hgs
  go_loopw [6, 19] (fun v i wr => ∃ k : Nat, k ≤ n ∧ i = .int .i64 (k : Int) ∧ v = .int .i64 ((cntSt st k : Nat) : Int) ∧ Hid (wr.ownsRow gp 3 1 (.slice (some ⟨gp, 0, none⟩) (n + 1) (n + 1)) (n + 1) (plc st (n + 1) k)) ∧ Hid (Below gp w wr)) (fun _ i _ => n - (intOf i).toNat)
  case atStart => exact ⟨0, Nat.zero_le _, rfl, rfl, HO1, HB1⟩
  case round =>
    obtain ⟨k, hk, rfl, rfl, HOR, HBR⟩ := hrel
    by_cases hlt : k < n
    · obtain ⟨u, hu⟩ := plc_any (st := st) (n := n + 1) (k := k) (j := k) (by omega)
      obtain ⟨k0, k1, _, k2⟩ := own1_cell (k := k) HOR.out hu
      have HO2 := Lib.hid (own1_set HOR.out (k := k) (.int .i64 ((cntSt st k : Nat) : Int)))
      rw [plc_set] at HO2
      have HB2 := Lib.hid (HBR.out.setCell (p := ⟨gp, k, none⟩) (Nat.le_refl _) (.int .i64 ((cntSt st k : Nat) : Int)))
      have hkn : k < n + 1 := by omega
      have hcl : cntSt st k ≤ 1000000 := Nat.le_trans (cq_le st k) (by omega)
      have HCS := Lib.hid (show cntSt st (k + 1) = cntSt st k + (if st k = true then 1 else 0) from rfl)
      generalize cntSt st k = cv at *
      clear hu
      go_wp2_with fail
      refine Calls.mono (HST.out _ HB2.out k hlt) ?_
      rintro e w2 ⟨rfl, hb2⟩
      have HB3 := Lib.hid (HB2.out.trans (hb2.mono (by have := HB2.out.size; have h2 := HGP.out; omega)))
      have HO3 := Lib.hid (own_kept HO2.out hb2)
      clear hb2
      cases hsk : st k with
      | true =>
        rw [hsk] at HCS
        clear hsk
        go_wp2_with fail
        go_roundw
        case rel => exact ⟨k + 1, by omega, by go_num, by rw [HCS.out]; go_num, HO3, HB3⟩
        case measure => simp [intOf]; omega
      | false =>
        rw [hsk] at HCS
        clear hsk
        go_wp2_with fail
        go_roundw
        case rel => exact ⟨k + 1, by omega, by go_num, by rw [HCS.out]; go_num, HO3, HB3⟩
        case measure => simp [intOf]; omega
    · obtain rfl : k = n := by omega
      go_wp2_with fail
      go_loopw [34, 8] (fun i v wr => ∃ q : Nat, q ≤ k ∧ i = .int .i64 (q : Int) ∧ Hid (Own II.sh 126 wr gp (· < gp) v (keepF l st q)) ∧ Hid (v.ownBlock ≠ some gp) ∧ Hid (wr.ownsRow gp 3 1 (.slice (some ⟨gp, 0, none⟩) (k + 1) (k + 1)) (k + 1) (plc st (k + 1) k)) ∧ Hid (Below gp w wr)) (fun i _ _ => k - (intOf i).toNat)
      case atStart => exact ⟨0, Nat.zero_le _, rfl, Own.nil, Lib.hid (fun e => by cases e), HOR, HBR⟩
      case round =>
        obtain ⟨q, hq, rfl, HOU, HNE, HOP, HBQ⟩ := hrel
        obtain ⟨VA, VC, hv⟩ := HOU.out.form
        subst hv
        by_cases hql : q < k
        · obtain ⟨x, hx⟩ : ∃ x, l[q]? = some x := ⟨_, List.getElem?_eq_getElem (by rw [← HN.out]; exact hql)⟩
          obtain ⟨b, off, hA, hb, e0, e1, e2, e3, e4, e5⟩ := (HI.out.below HBQ.out).at hx
          have HX := Lib.hid hx
          have HBD := Lib.hid (HI.out.bd (List.mem_of_getElem? hx))
          have HTG := Lib.hid (show tgV x = if tgtB x.o = true then some (tgtN x.o x.a x.b) else none from rfl)
          have HKS := Lib.hid (keepF_step (st := st) hx)
          have hfl : (keepF l st q).length ≤ 1000000 := by rw [keepF_len q (by have := HN.out; omega)]; exact Nat.le_trans (cq_le st q) (by omega)
          subst hA
          obtain ⟨xo, xa, xb, xc, xd, xe⟩ := x
          simp only at e0 e1 e2 e3 e4 e5 HBD HTG
          have hbw : b < wr.heap.size := Nat.lt_of_lt_of_le (by rw [HGP.out]; exact hb) HBQ.out.size
          clear hx
          have hgpw : gp < wr.heap.size := (own1_cell (k := 0) HOP.out (plc_at (st := st) (by omega) (by omega))).2.2.2
          have HBA := Lib.hid (HBQ.out.alloc (Nat.le_of_lt hgpw) (.cells #[.int .i64 xo, .int .i64 xa, .int .i64 xb, .int .i64 xc, .int .i64 xd, .int .i64 xe] 126))
          go_wp2_with fail
          refine Calls.mono (HST.out _ HBA.out q hql) ?_
          rintro e w3 ⟨rfl, hb3⟩
          have HB3 := Lib.hid (HBA.out.trans (hb3.mono (by rw [← HGP.out]; exact HBA.out.size)))
          have hf3 := (hb3.block wr.heap.size (by simp)).trans (heap_alloc_new wr _)
          have HF3 := Lib.hid hf3
          have HO3 := Lib.hid ((HOU.out.below (al (.cells #[.int .i64 xo, .int .i64 xa, .int .i64 xb, .int .i64 xc, .int .i64 xd, .int .i64 xe] 126))).below hb3)
          have HP3 := Lib.hid (own_kept (own_kept HOP.out (al (.cells #[.int .i64 xo, .int .i64 xa, .int .i64 xb, .int .i64 xc, .int .i64 xd, .int .i64 xe] 126))) hb3)
          have hs3 : wr.heap.size < w3.heap.size := (Array.getElem?_eq_some_iff.1 hf3).1
          clear hb3
          cases hsk : st q with
          | false =>
            have HKE := Lib.hid (show keepF l st (q + 1) = keepF l st q by rw [HKS.out, hsk]; simp)
            clear hsk hf3
            go_wp2_with fail
            go_roundw
            case rel => exact ⟨q + 1, by omega, by go_num, by rw [HKE.out]; exact HO3, HNE, HP3, HB3⟩
            case measure => simp [intOf]; omega
          | true =>
            have d0 : w3.cell? ⟨wr.heap.size, 0, none⟩ = some (.int .i64 xo) := by rw [Lib.cell_of_heap hf3]; rfl
            have d1 : w3.cell? ⟨wr.heap.size, 1, none⟩ = some (.int .i64 xa) := by rw [Lib.cell_of_heap hf3]; rfl
            have d2 : w3.cell? ⟨wr.heap.size, 2, none⟩ = some (.int .i64 xb) := by rw [Lib.cell_of_heap hf3]; rfl
            have d3 : w3.cell? ⟨wr.heap.size, 3, none⟩ = some (.int .i64 xc) := by rw [Lib.cell_of_heap hf3]; rfl
            have d4 : w3.cell? ⟨wr.heap.size, 4, none⟩ = some (.int .i64 xd) := by rw [Lib.cell_of_heap hf3]; rfl
            have d5 : w3.cell? ⟨wr.heap.size, 5, none⟩ = some (.int .i64 xe) := by rw [Lib.cell_of_heap hf3]; rfl
            have HKT := Lib.hid (show keepF l st (q + 1) = keepF l st q ++ [keepI st ⟨xo, xa, xb, xc, xd, xe⟩] by rw [HKS.out, hsk]; simp)
            clear hsk hf3
            go_wp2_with fail
            refine Calls.mono (guardTarget_any xo xa xb xc xd xe _) ?_
            rintro e w4 ⟨rfl, hb4⟩
            have HB4 := Lib.hid (HB3.out.trans (hb4.mono (by rw [← HGP.out]; exact HB3.out.size)))
            have hf4 := (hb4.block wr.heap.size hs3).trans HF3.out
            have HF4 := Lib.hid hf4
            have HO4 := Lib.hid (HO3.out.below hb4)
            have HP4 := Lib.hid (own_kept HP3.out hb4)
            have hs4 : wr.heap.size < w4.heap.size := (Array.getElem?_eq_some_iff.1 hf4).1
            clear hb4 d0 d1 d2 d3 d4 d5
            have d0 : w4.cell? ⟨wr.heap.size, 0, none⟩ = some (.int .i64 xo) := by rw [Lib.cell_of_heap hf4]; rfl
            have d1 : w4.cell? ⟨wr.heap.size, 1, none⟩ = some (.int .i64 xa) := by rw [Lib.cell_of_heap hf4]; rfl
            have d2 : w4.cell? ⟨wr.heap.size, 2, none⟩ = some (.int .i64 xb) := by rw [Lib.cell_of_heap hf4]; rfl
            have d3 : w4.cell? ⟨wr.heap.size, 3, none⟩ = some (.int .i64 xc) := by rw [Lib.cell_of_heap hf4]; rfl
            have d4 : w4.cell? ⟨wr.heap.size, 4, none⟩ = some (.int .i64 xd) := by rw [Lib.cell_of_heap hf4]; rfl
            have d5 : w4.cell? ⟨wr.heap.size, 5, none⟩ = some (.int .i64 xe) := by rw [Lib.cell_of_heap hf4]; rfl
            clear hf4
            cases htb : tgtB xo with
            | false =>
              have HKE := Lib.hid (show keepF l st (q + 1) = keepF l st q ++ [⟨xo, xa, xb, xc, xd, xe⟩] by rw [HKT.out]; unfold keepI; rw [HTG.out, htb]; rfl)
              clear htb
              go_wp2_with (first
                | (at_builtin; refine wpList_append_Own (S := II.sh) rfl _ _ 121 rfl gp 126 j0 _ 48 Try.underlying121 hj jz0 jz1 jz2 rfl (by show 0 < 6; omega) (· < gp) (.slice VA (keepF l st q).length VC) (keepF l st q) rfl (HO4.out.below (al _)) _ _ 1 1 _ _ [(⟨xo, xa, xb, xc, xd, xe⟩ : II)] rfl (Rd.one _ _ _ 6 rfl _ (by simp)) (by simp) rfl (Shp.all1 (II.intro (v := ⟨xo, xa, xb, xc, xd, xe⟩) (HBD.out).1 (HBD.out).2.1 (HBD.out).2.2.1 (HBD.out).2.2.2.1 (HBD.out).2.2.2.2.1 (HBD.out).2.2.2.2.2)) (by unfold maxLen; omega) (by omega) (by have := hs4; simp; omega) ?_; intro A5 c5 w5 hown5 hgrow5 hob5)
                | fail "no")
              have HO5 := Lib.hid hown5
              have HNE5 := Lib.hid (show (Value.slice A5 ((keepF l st q).length + 1) c5).ownBlock ≠ some gp from fun e => by
                rcases hob5 with h | h
                · exact HNE.out (h.symm.trans e)
                · rw [h] at e; injection e with e; simp at e; have := hs4; omega)
              have HP5 := Lib.hid ((own_kept HP4.out (al (.cells _ 126))).kept hgrow5 (.inr fun e => HNE.out e.symm))
              have HB5 := Lib.hid ((HB4.out.alloc (by have := hs4; omega) (.cells _ 126)).grown hgrow5 (by have := hs4; simp; omega) (fun z hz => (HOU.out.ownlt hz).1))
              clear hown5 hgrow5 hob5
              go_wp2_with fail
              go_roundw
              case rel => exact ⟨q + 1, by omega, by go_num, by rw [HKE.out]; exact HO5, HNE5, HP5, HB5⟩
              case measure => simp [intOf]; omega
            | true =>
              have htg : tgV ⟨xo, xa, xb, xc, xd, xe⟩ = some (tgtN xo xa xb) := by rw [HTG.out, htb]; rfl
              have htl := HL.out _ (List.mem_of_getElem? HX.out) _ htg
              obtain ⟨t, ht⟩ : ∃ t : Nat, tgtN xo xa xb = (t : Int) := ⟨(tgtN xo xa xb).toNat, by omega⟩
              rw [ht] at htl htg
              have htn : t < k := by have := HN.out; omega
              have htk : t < k + 1 := by omega
              have htki : (t : Int) < (k : Int) + 1 := by omega
              obtain ⟨p0, _, _, _⟩ := own1_cell (k := t) HP4.out (plc_at (st := st) htn htk)
              have HEV := Lib.hid (show cntSt st t ≤ 1000000 from Nat.le_trans (cq_le st t) (by omega))
              have HKE := Lib.hid (show keepF l st (q + 1) = keepF l st q ++ [⟨xo, aimA xo xa (cntSt st t : Int), aimB xo xb (cntSt st t : Int), xc, xd, xe⟩] by
                rw [HKT.out]
                congr 2
                unfold keepI
                rw [htg]
                simp only [Int.toNat_natCast, aimV_eq])
              have HXB := Lib.hid (show ∀ p : Nat, p ≤ 1000000 → (-9223372036854775808 ≤ xo ∧ xo ≤ 9223372036854775807) ∧ (-9223372036854775808 ≤ aimA xo xa (p : Int) ∧ aimA xo xa (p : Int) ≤ 9223372036854775807) ∧ (-9223372036854775808 ≤ aimB xo xb (p : Int) ∧ aimB xo xb (p : Int) ≤ 9223372036854775807) ∧ (-9223372036854775808 ≤ xc ∧ xc ≤ 9223372036854775807) ∧ (-9223372036854775808 ≤ xd ∧ xd ≤ 9223372036854775807) ∧ (-9223372036854775808 ≤ xe ∧ xe ≤ 9223372036854775807) from fun p hp => by
                have := HBD.out
                unfold aimA aimB
                split <;> omega)
              clear htl htg htb
              generalize cntSt st t = ev at *
              rw [ht]
              clear ht
              go_wp2_with fail
              go_region_law (first
                | (go_simp; (go_at_call 129); refine (aim_any xo xa xb xc xd xe (ev : Int) _).mono ?_; rintro e w6 ⟨rfl, hb6⟩; have hf6 := (hb6.block wr.heap.size hs4).trans HF4.out; have f0 := Lib.frozen_of_heap hf6 0; have f1 := Lib.frozen_of_heap hf6 1; have f2 := Lib.frozen_of_heap hf6 2; have f3 := Lib.frozen_of_heap hf6 3; have f4 := Lib.frozen_of_heap hf6 4; have f5 := Lib.frozen_of_heap hf6 5; have d0 : w6.cell? ⟨wr.heap.size, 0, none⟩ = some (.int .i64 xo) := (by rw [Lib.cell_of_heap hf6]; rfl); have d1 : w6.cell? ⟨wr.heap.size, 1, none⟩ = some (.int .i64 xa) := (by rw [Lib.cell_of_heap hf6]; rfl); have d2 : w6.cell? ⟨wr.heap.size, 2, none⟩ = some (.int .i64 xb) := (by rw [Lib.cell_of_heap hf6]; rfl); have d3 : w6.cell? ⟨wr.heap.size, 3, none⟩ = some (.int .i64 xc) := (by rw [Lib.cell_of_heap hf6]; rfl); have d4 : w6.cell? ⟨wr.heap.size, 4, none⟩ = some (.int .i64 xd) := (by rw [Lib.cell_of_heap hf6]; rfl); have d5 : w6.cell? ⟨wr.heap.size, 5, none⟩ = some (.int .i64 xe) := (by rw [Lib.cell_of_heap hf6]; rfl); go_wp2_with fail)
                | fail "no")
              all_goals (
                have HB6 := Lib.hid ((HB4.out.drew).trans (hb6.mono (by rw [← HGP.out]; exact HB4.out.size)))
                have HO6 := Lib.hid ((HO4.out.below (Below.refl w4.heap.size w4).drew).below hb6)
                have HP6 := Lib.hid (own_kept (own_kept HP4.out (Below.refl w4.heap.size w4).drew) hb6)
                have hs6 : wr.heap.size < w6.heap.size := (Array.getElem?_eq_some_iff.1 hf6).1
                have hvl : ∀ z, (Value.slice VA (keepF l st q).length VC).ownBlock = some z → z ≠ wr.heap.size := fun z hz => by have := (HOU.out.ownlt hz).2; omega
                obtain ⟨w7, hw7, b7, k7, s7, o7, t7, u7'⟩ := six_ex (.int .i64 xo) (.int .i64 (aimA xo xa (ev : Int))) (.int .i64 (aimB xo xb (ev : Int))) (.int .i64 xc) (.int .i64 xd) (.int .i64 xe) hf6
                rw [← hw7]
                have HO7 := Lib.hid (HO6.out.iiK (w' := w7) (by omega) (fun z hz => k7 z (hvl z hz)))
                have HP7 := Lib.hid (own_heap HP6.out (w' := w7) (by omega) (fun z hz => k7 z (by injection hz with hz; change gp = z at hz; omega)))
                have HB7 := Lib.hid (show Below gp w w7 from ⟨o7.trans HB6.out.os, t7.trans HB6.out.tape, u7'.trans HB6.out.output, by have := HB6.out.size; omega, fun z hz => (k7 z (by omega)).trans (HB6.out.block z hz)⟩)
                have hs7 : wr.heap.size < w7.heap.size := by omega
                clear hf6 hb6 d0 d1 d2 d3 d4 d5 f0 f1 f2 f3 f4 f5 hw7 k7 s7 o7 t7 u7' hvl
                have d0 : w7.cell? ⟨wr.heap.size, 0, none⟩ = some (.int .i64 xo) := by rw [Lib.cell_of_heap b7]; rfl
                have d1 : w7.cell? ⟨wr.heap.size, 1, none⟩ = some (.int .i64 (aimA xo xa (ev : Int))) := by rw [Lib.cell_of_heap b7]; rfl
                have d2 : w7.cell? ⟨wr.heap.size, 2, none⟩ = some (.int .i64 (aimB xo xb (ev : Int))) := by rw [Lib.cell_of_heap b7]; rfl
                have d3 : w7.cell? ⟨wr.heap.size, 3, none⟩ = some (.int .i64 xc) := by rw [Lib.cell_of_heap b7]; rfl
                have d4 : w7.cell? ⟨wr.heap.size, 4, none⟩ = some (.int .i64 xd) := by rw [Lib.cell_of_heap b7]; rfl
                have d5 : w7.cell? ⟨wr.heap.size, 5, none⟩ = some (.int .i64 xe) := by rw [Lib.cell_of_heap b7]; rfl
                clear b7 p0
                go_wp2_with (first
                  | (at_builtin; refine wpList_append_Own (S := II.sh) rfl _ _ 121 rfl gp 126 j0 _ 48 Try.underlying121 hj jz0 jz1 jz2 rfl (by show 0 < 6; omega) (· < gp) (.slice VA (keepF l st q).length VC) (keepF l st q) rfl (HO7.out.below (al _)) _ _ 1 1 _ _ [(⟨xo, aimA xo xa (ev : Int), aimB xo xb (ev : Int), xc, xd, xe⟩ : II)] rfl (Rd.one _ _ _ 6 rfl _ (by simp)) (by simp) rfl (Shp.all1 (II.intro (v := ⟨xo, aimA xo xa (ev : Int), aimB xo xb (ev : Int), xc, xd, xe⟩) (HXB.out ev HEV.out).1 (HXB.out ev HEV.out).2.1 (HXB.out ev HEV.out).2.2.1 (HXB.out ev HEV.out).2.2.2.1 (HXB.out ev HEV.out).2.2.2.2.1 (HXB.out ev HEV.out).2.2.2.2.2)) (by unfold maxLen; omega) (by omega) (by have := hs7; simp; omega) ?_; intro A5 c5 w5 hown5 hgrow5 hob5)
                  | fail "no")
                have HO5 := Lib.hid hown5
                have HNE5 := Lib.hid (show (Value.slice A5 ((keepF l st q).length + 1) c5).ownBlock ≠ some gp from fun e => by
                  rcases hob5 with h | h
                  · exact HNE.out (h.symm.trans e)
                  · rw [h] at e; injection e with e; simp at e; have := hs7; omega)
                have HP5 := Lib.hid ((own_kept HP7.out (al (.cells _ 126))).kept hgrow5 (.inr fun e => HNE.out e.symm))
                have HB5 := Lib.hid ((HB7.out.alloc (by have := hs7; omega) (.cells _ 126)).grown hgrow5 (by have := hs7; simp; omega) (fun z hz => (HOU.out.ownlt hz).1))
                clear hown5 hgrow5 hob5
                go_wp2_with fail
                go_roundw
                case rel => exact ⟨q + 1, by omega, by go_num, by rw [HKE.out]; exact HO5, HNE5, HP5, HB5⟩
                case measure => simp [intOf]; omega)
        · obtain rfl : q = k := by omega
          go_wp2_with fail
          go_ret
          refine ⟨VA, _, VC, rfl, ?_, HOU.out.capR, by rw [HGP.out]; exact HBQ.out⟩
          rw [show keepV l st = keepF l st q by unfold keepV; rw [← HN.out], HGP.out]
          exact InsM.of_own HOU.out
end Go.Proofs.Ytapbdfcihheecaa
