/- The document's 'reached'. Conditions: the list fits what comes in. -/
import Derived.Test.YtapbdfcihheecaaSqI
set_option maxRecDepth 100000
namespace Go.Proofs.Ytapbdfcihheecaa
open Go.ChangeShapes Go.WideShapes Go.ChangeAt Go.RowKit
/-- What has been met. -/
structure Mt (l : List II) (S : List Bool) : Prop where
  len : S.length = l.length
  z : S[0]? = some true
  rch : ∀ k : Nat, S[k]? = some true → Rch l k
/-- Before place j nothing is missed. -/
def ClB (l : List II) (S : List Bool) (j : Nat) : Prop := ∀ k : Nat, k < j → S[k]? = some true → ∀ q : Nat, (q : Int) ∈ nextV l k → S[q]? = some true
theorem Mt.start (l : List II) (h : Gd l) : Mt l ((List.replicate l.length false).set 0 true) := ⟨(start_rch l h).len, (start_rch l h).z, (start_rch l h).rch⟩
theorem Mt.done {l : List II} {S : List Bool} (h : Mt l S) (hc : ClB l S l.length) : S = seenV l :=
  seen_uniq h.len h.z h.rch fun k hk => hc k (by rw [← h.len]; exact (List.getElem?_eq_some_iff.1 hk).1) hk
theorem Mt.set {l : List II} {S : List Bool} {k q : Nat} (h : Mt l S) (hk : S[k]? = some true) (hq : (q : Int) ∈ nextV l k) : Mt l (S.set q true) :=
  ⟨by simpa using h.len, set_true h.z, fun j hj => by
    by_cases hjq : q = j
    · subst hjq; exact .step (h.rch k hk) hq
    · rw [List.getElem?_set_ne hjq] at hj
      exact h.rch j hj⟩
/-- In a round: nothing new and nothing missed so far, or something new. -/
def MtI (l : List II) (N : Nat) (S : List Bool) (b : Bool) (j : Nat) : Prop := Mt l S ∧ ((b = false ∧ nfal S = N ∧ ClB l S j) ∨ (b = true ∧ nfal S < N))
theorem MtI.skip {l : List II} {N : Nat} {S : List Bool} {b : Bool} {j : Nat} (h : MtI l N S b j) (hj : S[j]? = some true → ∀ q : Nat, (q : Int) ∈ nextV l j → S[q]? = some true) : MtI l N S b (j + 1) := by
  refine ⟨h.1, ?_⟩
  rcases h.2 with ⟨h1, h2, h3⟩ | h1
  · refine .inl ⟨h1, h2, fun k hk => ?_⟩
    by_cases hkj : k < j
    · exact h3 k hkj
    · obtain rfl : k = j := by omega
      exact hj
  · exact .inr h1
theorem MtI.new {l : List II} {N : Nat} {S : List Bool} {b : Bool} {j i k q : Nat} (h : MtI l N S b j) (hk : S[k]? = some true) (hq : (q : Int) ∈ nextV l k) (hf : S[q]? = some false) : MtI l N (S.set q true) true i := by
  refine ⟨h.1.set hk hq, .inr ⟨rfl, ?_⟩⟩
  have := nfal_set hf
  rcases h.2 with ⟨_, h2, _⟩ | ⟨_, h2⟩ <;> omega
def boolN : Value → Nat
  | .bool true => 1
  | _ => 0
theorem reached_any (A : Option Addr) (n c : Nat) (l : List II) (w : World) (h : InsR w w.heap.size A n l) (hg : Gd l) (hn : n ≤ 1000000) :
    Calls Try.prog 106 #[.slice A n c] w fun e w' => ∃ g, e = .returned (.slice (some ⟨g, 0, none⟩) n n) ∧ w'.ownsRow w.heap.size 4 1 (.slice (some ⟨g, 0, none⟩) n n) n ((seenV l).map Value.bool) ∧ Below w.heap.size w w' := by
  have HI := Lib.hid h
  have HG := Lib.hid hg
  have hn0 : 0 < n := by rw [h.1]; exact hg.n0
  have HN := Lib.hid h.1
  clear h hg
  obtain ⟨ib, hbi, hbz0, hbz1, hbz2⟩ := info_parts info_bool
  go_enter Try.func106, Try.ntmps106
  have hmade : (madeCells (Value.bool false).cells (n * 1)).toList = (List.replicate n false).map Value.bool := by
    rw [Nat.mul_one]
    exact made_bools n
  go_wp2_with (at_make; refine wpList_make_full _ rfl _ _ 141 rfl w.heap.size 4 ib (.bool false) 1 Try.underlying141 hbi hbz0 hbz1 .i64 .i64 _ _ n rfl rfl rfl rfl (by rw [hbz2]; omega) (by unfold maxLen; omega) (Nat.le_refl _) ?_; intro w1 hown hgrow; rw [hmade] at hown; have HOS := Lib.hid hown; obtain ⟨s0, s1, _, hsl⟩ := own1_cell (k := 0) hown (u := .bool false) (by rw [List.getElem?_map, List.getElem?_replicate, if_pos hn0]; rfl))
  have HB1 := Lib.hid (((Below.refl w.heap.size w).grown hgrow (Nat.le_refl _) (fun q e => by cases e)).setCell (p := ⟨w.heap.size, 0, none⟩) (Nat.le_refl _) (.bool true))
  have HS0 := Lib.hid (own1_set HOS.out (k := 0) (.bool true))
  clear hown hgrow
  generalize hgs : w.heap.size = gs at *
  have HGS := Lib.hid hgs
  clear hgs
  generalize w1.setCell ⟨gs, 0, none⟩ (.bool true) = WW at *
  have hst := Mt.start l HG.out
  rw [← HN.out] at hst
  rw [← List.map_set] at HS0
  have HST := Lib.hid hst
  clear hst
  go_loopw [4] (fun v wr => ∃ (S : List Bool) (b : Bool), v = .bool b ∧ Hid (Mt l S) ∧ Hid (b = false → ClB l S l.length) ∧ Hid (wr.ownsRow gs 4 1 (.slice (some ⟨gs, 0, none⟩) n n) n (S.map Value.bool)) ∧ Hid (Below gs w wr)) (fun v wr => 2 * falAt gs wr + boolN v)
  case atStart => exact ⟨_, true, rfl, HST, Lib.hid (fun e => by cases e), HS0, HB1⟩
  case round =>
    obtain ⟨S, b, rfl, HRV, HCL, HOW, HBR⟩ := hrel
    cases b with
    | false =>
      go_wp2_with fail
      go_ret
      have := HOW.out
      rw [HRV.out.done (HCL.out (by trivial))] at this
      exact ⟨gs, rfl, by rw [HGS.out]; exact this, by rw [HGS.out]; exact HBR.out⟩
    | true =>
      have HMX := Lib.hid (show falAt gs wr = nfal S from falAt_own HOW.out)
      go_wp2_with fail
      go_loopw [17, 4] (fun i v wr => ∃ (k : Nat) (S2 : List Bool) (b2 : Bool), k ≤ n ∧ i = .int .i64 (k : Int) ∧ v = .bool b2 ∧ Hid (MtI l (nfal S) S2 b2 k) ∧ Hid (wr.ownsRow gs 4 1 (.slice (some ⟨gs, 0, none⟩) n n) n (S2.map Value.bool)) ∧ Hid (Below gs w wr)) (fun i _ _ => n - (intOf i).toNat)
      case atStart => exact ⟨0, S, false, Nat.zero_le _, rfl, rfl, Lib.hid ⟨HRV.out, .inl ⟨rfl, rfl, fun j hj => by omega⟩⟩, HOW, HBR⟩
      case round =>
        obtain ⟨k, S2, b2, hk, rfl, rfl, HMI, HOX, HBQ⟩ := hrel
        generalize wr = wi at *
        by_cases hlt : k < n
        · obtain ⟨x, hx⟩ : ∃ x, l[k]? = some x := ⟨_, List.getElem?_eq_getElem (by rw [← HN.out]; exact hlt)⟩
          obtain ⟨b, off, hA, hb, e0, e1, e2, e3, e4, e5⟩ := (HI.out.below HBQ.out).at hx
          have HX := Lib.hid hx
          have HNV := Lib.hid (show nextV l k = nextI k x by unfold nextV; rw [hx])
          obtain ⟨bk, hbk⟩ : ∃ b, S2[k]? = some b := ⟨_, List.getElem?_eq_getElem (by rw [HMI.out.1.len, ← HN.out]; exact hlt)⟩
          obtain ⟨c0, _, hgw, hgw2⟩ := own1_cell (k := k) HOX.out (u := .bool bk) (by rw [List.getElem?_map, hbk]; rfl)
          have HBK := Lib.hid hbk
          have hlti : (k : Int) < (n : Int) := by omega
          have hbw : b < wi.heap.size := by have := HBQ.out.size; omega
          have HBXX := Lib.hid (heap_alloc_new wi (.cells #[.int .i64 x.o, .int .i64 x.a, .int .i64 x.b, .int .i64 x.c, .int .i64 x.d, .int .i64 x.e] 126))
          have HO1 := Lib.hid (own_kept HOX.out (al (.cells #[.int .i64 x.o, .int .i64 x.a, .int .i64 x.b, .int .i64 x.c, .int .i64 x.d, .int .i64 x.e] 126)))
          have HB1' := Lib.hid (HBQ.out.alloc (by omega) (.cells #[.int .i64 x.o, .int .i64 x.a, .int .i64 x.b, .int .i64 x.c, .int .i64 x.d, .int .i64 x.e] 126))
          subst hA
          clear hx hbk
          cases bk with
          | false =>
            have HNX := Lib.hid (HMI.out.skip (fun h => by rw [HBK.out] at h; cases h))
            go_wp2_with fail
            go_roundw
            case rel => exact ⟨k + 1, S2, b2, by omega, by go_num, rfl, HNX, HO1, HB1'⟩
            case measure => simp [intOf]; omega
          | true =>
            go_wp2_with fail
            refine Calls.mono (refTargetOf_any x.o x.a x.b x.c x.d x.e _) ?_
            rintro e w3 ⟨rfl, hb3⟩
            have HB3 := Lib.hid (HB1'.out.trans (hb3.mono (by simp; omega)))
            have HO3 := Lib.hid (own_kept HO1.out hb3)
            have hbx3 := (hb3.block wi.heap.size (by simp)).trans HBXX.out
            have HTG := Lib.hid (show tgV x = if tgtB x.o = true then some (tgtN x.o x.a x.b) else none from rfl)
            have HTX := Lib.hid hbx3
            clear hb3 e0 e1 e2 e3 e4 e5 c0
            cases htb : tgtB x.o with
            | false =>
              have HT0 := Lib.hid (show ∀ t : Nat, tgV x = some (t : Int) → S2[t]? = some true from fun t h => by rw [HTG.out, htb] at h; cases h)
              clear htb HTG
              generalize tgtN x.o x.a x.b = tn at *
              go_upto_region 13 with (fail)
              have d0 : w3.cell? ⟨wi.heap.size, 0, none⟩ = some (.int .i64 x.o) := by rw [Lib.cell_of_heap hbx3]; rfl
              have hbz : wi.heap.size < w3.heap.size := (Array.getElem?_eq_some_iff.1 hbx3).1
              rcases stop_cases x with ⟨hs, hc⟩ | ⟨hs, h1, h2, h3⟩
              · have HNX := Lib.hid (HMI.out.skip (fun _ q hq => by
                  rw [HNV.out] at hq
                  unfold nextI at hq
                  rw [hs] at hq
                  simp only [if_true, List.append_nil] at hq
                  cases htg : tgV x with
                  | none => rw [htg] at hq; simp at hq
                  | some t => rw [htg] at hq; simp at hq; exact HT0.out q (by rw [htg, hq])))
                clear hs
                rcases hc with h1 | ⟨h1, h2⟩ | ⟨h1, h2, h3⟩
                all_goals (
                  go_wp2_with fail
                  go_roundw
                  case rel => exact ⟨k + 1, S2, b2, by omega, by go_num, rfl, HNX, HO3, HB3⟩
                  case measure => simp [intOf]; omega)
              · have hmem : ((k + 1 : Nat) : Int) ∈ nextV l k := by rw [HNV.out]; unfold nextI; rw [hs]; simp
                have hkn := (next_in HG.out hmem).2
                have hk1 : k + 1 < n := by have := HN.out; omega
                have hk1i : (k : Int) + 1 < (n : Int) := by omega
                obtain ⟨bq, hbq⟩ : ∃ b, (S2)[k + 1]? = some b := ⟨_, List.getElem?_eq_getElem (by rw [HMI.out.1.len]; have := HN.out; omega)⟩
                obtain ⟨c1, f1, _, hgw4⟩ := own1_cell (k := k + 1) HO3.out (u := .bool bq) (by rw [List.getElem?_map, hbq]; rfl)
                have HMEM := Lib.hid hmem
                have HBQQ := Lib.hid hbq
                have HSS := Lib.hid hs
                clear hmem hbq hs hkn
                cases bq with
                | true =>
                  have HNX := Lib.hid (HMI.out.skip (fun _ q hq => by
                    rw [HNV.out] at hq
                    unfold nextI at hq
                    rw [HSS.out] at hq
                    rcases List.mem_append.1 hq with hq | hq
                    · cases htg : tgV x with
                      | none => rw [htg] at hq; simp at hq
                      | some t => rw [htg] at hq; simp at hq; exact HT0.out q (by rw [htg, hq])
                    · simp at hq
                      obtain rfl : q = k + 1 := by omega
                      exact HBQQ.out))
                  go_wp2_with fail
                  go_roundw
                  case rel => exact ⟨k + 1, S2, b2, by omega, by go_num, rfl, HNX, HO3, HB3⟩
                  case measure => simp [intOf]; omega
                | false =>
                  have HNX := Lib.hid (HMI.out.new (i := k + 1) HBK.out HMEM.out HBQQ.out)
                  have HO9 := Lib.hid (own1_set HO3.out (k := k + 1) (.bool true))
                  rw [← List.map_set] at HO9
                  go_wp2_with fail
                  go_roundw
                  case rel => exact ⟨k + 1, _, true, by omega, by go_num, rfl, HNX, HO9, Lib.hid (HB3.out.setCell (p := ⟨gs, k + 1, none⟩) (Nat.le_refl _) (.bool true))⟩
                  case measure => simp [intOf]; omega
            | true =>
              have htg : tgV x = some (tgtN x.o x.a x.b) := by rw [HTG.out, htb]; rfl
              have htl := HG.out.inb _ (List.mem_of_getElem? HX.out) _ htg
              obtain ⟨t, ht⟩ : ∃ t : Nat, tgtN x.o x.a x.b = (t : Int) := ⟨(tgtN x.o x.a x.b).toNat, by omega⟩
              rw [ht] at htl htg
              have htn : t < n := by have := HN.out; omega
              have hti : (t : Int) < (n : Int) := by omega
              have HTV := Lib.hid htg
              have HTM := Lib.hid (show ((t : Nat) : Int) ∈ nextV l k by rw [HNV.out]; unfold nextI; rw [htg]; simp)
              obtain ⟨bt, hbt⟩ : ∃ b, S2[t]? = some b := ⟨_, List.getElem?_eq_getElem (by rw [HMI.out.1.len, ← HN.out]; exact htn)⟩
              obtain ⟨p0, p1, _, hgw3⟩ := own1_cell (k := t) HO3.out (u := .bool bt) (by rw [List.getElem?_map, hbt]; rfl)
              have HBT := Lib.hid hbt
              rw [ht]
              clear ht htb HTG htl htg hbt
              cases bt with
              | true =>
                have HT0 := Lib.hid (show ∀ u : Nat, tgV x = some (u : Int) → S2[u]? = some true from fun u h => by
                  rw [HTV.out] at h
                  injection h with h
                  obtain rfl : t = u := by omega
                  exact HBT.out)
                go_upto_region 13 with (fail)
                have d0 : w3.cell? ⟨wi.heap.size, 0, none⟩ = some (.int .i64 x.o) := by rw [Lib.cell_of_heap hbx3]; rfl
                have hbz : wi.heap.size < w3.heap.size := (Array.getElem?_eq_some_iff.1 hbx3).1
                rcases stop_cases x with ⟨hs, hc⟩ | ⟨hs, h1, h2, h3⟩
                · have HNX := Lib.hid (HMI.out.skip (fun _ q hq => by
                    rw [HNV.out] at hq
                    unfold nextI at hq
                    rw [hs] at hq
                    simp only [if_true, List.append_nil] at hq
                    cases htg : tgV x with
                    | none => rw [htg] at hq; simp at hq
                    | some t => rw [htg] at hq; simp at hq; exact HT0.out q (by rw [htg, hq])))
                  clear hs
                  rcases hc with h1 | ⟨h1, h2⟩ | ⟨h1, h2, h3⟩
                  all_goals (
                    go_wp2_with fail
                    go_roundw
                    case rel => exact ⟨k + 1, S2, b2, by omega, by go_num, rfl, HNX, HO3, HB3⟩
                    case measure => simp [intOf]; omega)
                · have hmem : ((k + 1 : Nat) : Int) ∈ nextV l k := by rw [HNV.out]; unfold nextI; rw [hs]; simp
                  have hkn := (next_in HG.out hmem).2
                  have hk1 : k + 1 < n := by have := HN.out; omega
                  have hk1i : (k : Int) + 1 < (n : Int) := by omega
                  obtain ⟨bq, hbq⟩ : ∃ b, (S2)[k + 1]? = some b := ⟨_, List.getElem?_eq_getElem (by rw [HMI.out.1.len]; have := HN.out; omega)⟩
                  obtain ⟨c1, f1, _, hgw4⟩ := own1_cell (k := k + 1) HO3.out (u := .bool bq) (by rw [List.getElem?_map, hbq]; rfl)
                  have HMEM := Lib.hid hmem
                  have HBQQ := Lib.hid hbq
                  have HSS := Lib.hid hs
                  clear hmem hbq hs hkn
                  cases bq with
                  | true =>
                    have HNX := Lib.hid (HMI.out.skip (fun _ q hq => by
                      rw [HNV.out] at hq
                      unfold nextI at hq
                      rw [HSS.out] at hq
                      rcases List.mem_append.1 hq with hq | hq
                      · cases htg : tgV x with
                        | none => rw [htg] at hq; simp at hq
                        | some t => rw [htg] at hq; simp at hq; exact HT0.out q (by rw [htg, hq])
                      · simp at hq
                        obtain rfl : q = k + 1 := by omega
                        exact HBQQ.out))
                    go_wp2_with fail
                    go_roundw
                    case rel => exact ⟨k + 1, S2, b2, by omega, by go_num, rfl, HNX, HO3, HB3⟩
                    case measure => simp [intOf]; omega
                  | false =>
                    have HNX := Lib.hid (HMI.out.new (i := k + 1) HBK.out HMEM.out HBQQ.out)
                    have HO9 := Lib.hid (own1_set HO3.out (k := k + 1) (.bool true))
                    rw [← List.map_set] at HO9
                    go_wp2_with fail
                    go_roundw
                    case rel => exact ⟨k + 1, _, true, by omega, by go_num, rfl, HNX, HO9, Lib.hid (HB3.out.setCell (p := ⟨gs, k + 1, none⟩) (Nat.le_refl _) (.bool true))⟩
                    case measure => simp [intOf]; omega
              | false =>
                have HM5 := Lib.hid (HMI.out.new (i := k) HBK.out HTM.out HBT.out)
                have HO5 := Lib.hid (own1_set HO3.out (k := t) (.bool true))
                rw [← List.map_set] at HO5
                have HB5 := Lib.hid (HB3.out.setCell (p := ⟨gs, t, none⟩) (Nat.le_refl _) (.bool true))
                have hbx5 := (Below.heap_setCell (a := ⟨gs, t, none⟩) w3 (.bool true) wi.heap.size (by show wi.heap.size ≠ gs; omega)).trans hbx3
                have HK5 := Lib.hid (set_true (q := t) HBK.out)
                have HT0 := Lib.hid (show ∀ u : Nat, tgV x = some (u : Int) → (S2.set t true)[u]? = some true from fun u h => by
                  rw [HTV.out] at h
                  injection h with h
                  obtain rfl : t = u := by omega
                  rw [List.getElem?_set_self (by rw [HMI.out.1.len, ← HN.out]; exact htn)])
                go_upto_region 13 with (fail)
                clear p0 p1
                generalize w3.setCell ⟨gs, t, none⟩ (.bool true) = w5 at *
                generalize S2.set t true = S5 at *
                have d0 : w5.cell? ⟨wi.heap.size, 0, none⟩ = some (.int .i64 x.o) := by rw [Lib.cell_of_heap hbx5]; rfl
                have hbz : wi.heap.size < w5.heap.size := (Array.getElem?_eq_some_iff.1 hbx5).1
                rcases stop_cases x with ⟨hs, hc⟩ | ⟨hs, h1, h2, h3⟩
                · have HNX := Lib.hid (HM5.out.skip (fun _ q hq => by
                    rw [HNV.out] at hq
                    unfold nextI at hq
                    rw [hs] at hq
                    simp only [if_true, List.append_nil] at hq
                    cases htg : tgV x with
                    | none => rw [htg] at hq; simp at hq
                    | some t => rw [htg] at hq; simp at hq; exact HT0.out q (by rw [htg, hq])))
                  clear hs
                  rcases hc with h1 | ⟨h1, h2⟩ | ⟨h1, h2, h3⟩
                  all_goals (
                    go_wp2_with fail
                    go_roundw
                    case rel => exact ⟨k + 1, S5, true, by omega, by go_num, rfl, HNX, HO5, HB5⟩
                    case measure => simp [intOf]; omega)
                · have hmem : ((k + 1 : Nat) : Int) ∈ nextV l k := by rw [HNV.out]; unfold nextI; rw [hs]; simp
                  have hkn := (next_in HG.out hmem).2
                  have hk1 : k + 1 < n := by have := HN.out; omega
                  have hk1i : (k : Int) + 1 < (n : Int) := by omega
                  obtain ⟨bq, hbq⟩ : ∃ b, (S5)[k + 1]? = some b := ⟨_, List.getElem?_eq_getElem (by rw [HM5.out.1.len]; have := HN.out; omega)⟩
                  obtain ⟨c1, f1, _, hgw4⟩ := own1_cell (k := k + 1) HO5.out (u := .bool bq) (by rw [List.getElem?_map, hbq]; rfl)
                  have HMEM := Lib.hid hmem
                  have HBQQ := Lib.hid hbq
                  have HSS := Lib.hid hs
                  clear hmem hbq hs hkn
                  cases bq with
                  | true =>
                    have HNX := Lib.hid (HM5.out.skip (fun _ q hq => by
                      rw [HNV.out] at hq
                      unfold nextI at hq
                      rw [HSS.out] at hq
                      rcases List.mem_append.1 hq with hq | hq
                      · cases htg : tgV x with
                        | none => rw [htg] at hq; simp at hq
                        | some t => rw [htg] at hq; simp at hq; exact HT0.out q (by rw [htg, hq])
                      · simp at hq
                        obtain rfl : q = k + 1 := by omega
                        exact HBQQ.out))
                    go_wp2_with fail
                    go_roundw
                    case rel => exact ⟨k + 1, S5, true, by omega, by go_num, rfl, HNX, HO5, HB5⟩
                    case measure => simp [intOf]; omega
                  | false =>
                    have HNX := Lib.hid (HM5.out.new (i := k + 1) HK5.out HMEM.out HBQQ.out)
                    have HO9 := Lib.hid (own1_set HO5.out (k := k + 1) (.bool true))
                    rw [← List.map_set] at HO9
                    go_wp2_with fail
                    go_roundw
                    case rel => exact ⟨k + 1, _, true, by omega, by go_num, rfl, HNX, HO9, Lib.hid (HB5.out.setCell (p := ⟨gs, k + 1, none⟩) (Nat.le_refl _) (.bool true))⟩
                    case measure => simp [intOf]; omega
        · obtain rfl : k = n := by omega
          have HM9 := Lib.hid (show falAt gs wi = nfal S2 from falAt_own HOX.out)
          go_wp2_with fail
          go_roundw
          case rel => exact ⟨S2, b2, rfl, Lib.hid HMI.out.1, Lib.hid (fun hb => by
            rcases HMI.out.2 with ⟨_, _, h3⟩ | ⟨h1, _⟩
            · rw [← HN.out]; exact h3
            · rw [h1] at hb; cases hb), HOX, HBQ⟩
          case measure =>
            rw [HM9.out, HMX.out]
            rcases HMI.out.2 with ⟨h1, h2, _⟩ | ⟨h1, h2⟩
            · subst h1; simp [boolN]; omega
            · subst h1; simp [boolN]; omega
end Go.Proofs.Ytapbdfcihheecaa
