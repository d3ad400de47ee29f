/- The document's 'ShowValue': what it answers. Conditions: the value's bulk. -/
import Derived.Test.YtkkehbfceabhmaaShow
import Derived.Test.YtkkehbfceabhmaaMapI
import Derived.Test.YtkkehbfceabhmaaDecimal
import Derived.Test.YtkkehbfceabhmaaAnyInv
set_option maxRecDepth 20000
namespace Go.Proofs.Ytkkehbfceabhmaa
open Go.ChangeShapes Go.WideShapes Go.ChangeAt Go.RowKit
theorem getM_setM (l : List (Int × Value)) (k : Int) (v : Value) (q : Int) : getM (setM l k v) q = if k = q then some v else getM l q := by
  induction l with
  | nil => simp [setM, getM]
  | cons p r ih =>
    obtain ⟨a, x⟩ := p
    simp only [setM]
    by_cases h : a = k
    · subst h
      simp only [if_true, getM]
      by_cases h2 : a = q <;> simp [h2]
    · simp only [h, if_false, getM, ih]
      by_cases h2 : a = q
      · subst h2
        simp [Ne.symm h]
      · simp [h2]
def pick (b : Bool) (v : Value) : Value := bif b then v else undef
theorem pick_t (v : Value) : pick true v = v := rfl
/-- The words that are in the map. -/
def wantM (n : Int) (s : ByteArray) (b4 b7 b10 b11 b12 b13 : Bool) (q : Int) : Option Value :=
  if q = 1 then (if b4 then some (.string (decS n)) else none) else if q = 3 then (if b7 then some (.string s) else none) else if q = 5 then (if b10 then some (.string s) else none) else
  if q = 4 then (if b11 then some (.string ⟨#[110, 105, 108]⟩) else none) else if q = 7 then (if b12 then some (.string ⟨#[112, 111, 105, 110, 116, 101, 114]⟩) else none) else if q = 8 then (if b13 then some (.string ⟨#[102, 117, 110, 99]⟩) else none) else none
theorem want_set_4 {n : Int} {s : ByteArray} {b7 b10 b11 b12 b13 : Bool} (q : Int) : (if 1 = q then some (Value.string (decS n)) else wantM n s false b7 b10 b11 b12 b13 q) = wantM n s true b7 b10 b11 b12 b13 q := by
  unfold wantM
  by_cases h : 1 = q
  · subst h; simp
  · rw [if_neg h]
    by_cases h2 : q = 1
    · exact absurd h2.symm h
    · simp [h2]
theorem want_set_7 {n : Int} {s : ByteArray} {b4 b10 b11 b12 b13 : Bool} (q : Int) : (if 3 = q then some (Value.string s) else wantM n s b4 false b10 b11 b12 b13 q) = wantM n s b4 true b10 b11 b12 b13 q := by
  unfold wantM
  by_cases h : 3 = q
  · subst h; simp
  · rw [if_neg h]
    by_cases h2 : q = 3
    · exact absurd h2.symm h
    · simp [h2]
theorem want_set_10 {n : Int} {s : ByteArray} {b4 b7 b11 b12 b13 : Bool} (q : Int) : (if 5 = q then some (Value.string s) else wantM n s b4 b7 false b11 b12 b13 q) = wantM n s b4 b7 true b11 b12 b13 q := by
  unfold wantM
  by_cases h : 5 = q
  · subst h; simp
  · rw [if_neg h]
    by_cases h2 : q = 5
    · exact absurd h2.symm h
    · simp [h2]
theorem want_set_11 {n : Int} {s : ByteArray} {b4 b7 b10 b12 b13 : Bool} (q : Int) : (if 4 = q then some (Value.string ⟨#[110, 105, 108]⟩) else wantM n s b4 b7 b10 false b12 b13 q) = wantM n s b4 b7 b10 true b12 b13 q := by
  unfold wantM
  by_cases h : 4 = q
  · subst h; simp
  · rw [if_neg h]
    by_cases h2 : q = 4
    · exact absurd h2.symm h
    · simp [h2]
theorem want_set_12 {n : Int} {s : ByteArray} {b4 b7 b10 b11 b13 : Bool} (q : Int) : (if 7 = q then some (Value.string ⟨#[112, 111, 105, 110, 116, 101, 114]⟩) else wantM n s b4 b7 b10 b11 false b13 q) = wantM n s b4 b7 b10 b11 true b13 q := by
  unfold wantM
  by_cases h : 7 = q
  · subst h; simp
  · rw [if_neg h]
    by_cases h2 : q = 7
    · exact absurd h2.symm h
    · simp [h2]
theorem want_set_13 {n : Int} {s : ByteArray} {b4 b7 b10 b11 b12 : Bool} (q : Int) : (if 8 = q then some (Value.string ⟨#[102, 117, 110, 99]⟩) else wantM n s b4 b7 b10 b11 b12 false q) = wantM n s b4 b7 b10 b11 b12 true q := by
  unfold wantM
  by_cases h : 8 = q
  · subst h; simp
  · rw [if_neg h]
    by_cases h2 : q = 8
    · exact absurd h2.symm h
    · simp [h2]
/-- The frame, by what is done. -/
@[reducible] def shF (v0 : Value) (g : Nat) (n : Int) (s : ByteArray) (m : Nat) (b0 b1 b2 b3 b5 b6 b8 b9 b14 b15 : Bool) : Array Value :=
  #[v0, .pointer (some ⟨g, 0, none⟩), .string ⟨#[]⟩, pick b15 (.map (some m)), undef, undef, undef, pick b0 (.map (some m)), pick b1 (.pointer (some ⟨g, 1, none⟩)), pick b2 (.int .i64 n), pick b3 (.string (decS n)), pick b5 (.pointer (some ⟨g, 2, none⟩)), pick b6 (.string s), pick b8 (.pointer (some ⟨g, 2, none⟩)), pick b9 (.string s), pick b14 (.map (some m)),
    undef, undef, undef, undef, undef, undef, undef, undef, undef, undef, undef, undef, undef, undef, undef, undef, undef, undef, undef, undef, undef, undef, undef, undef, undef, undef, undef, undef, undef, undef, undef, undef]
def ShS (W : World) (g : Nat) (k n : Int) (s : ByteArray) (A : Option Addr) (len cap : Nat) (w' : World) : Prop :=
  w'.cell? ⟨g, 0, none⟩ = some (.int .i64 k) ∧ w'.cell? ⟨g, 1, none⟩ = some (.int .i64 n) ∧ w'.cell? ⟨g, 2, none⟩ = some (.string s) ∧ w'.cell? ⟨g, 3, none⟩ = some (.slice A len cap) ∧ Below W.heap.size W w'
def ShI (v0 : Value) (W : World) (g : Nat) (k n : Int) (s : ByteArray) (A : Option Addr) (len cap : Nat) (L : Array Bool) (a : Act) (w : World) : Prop :=
  ∃ (b0 b1 b2 b3 b4 b5 b6 b7 b8 b9 b10 b11 b12 b13 b14 b15 : Bool) (m : Nat), L = #[b0, b1, b2, b3, b4, b5, b6, b7, b8, b9, b10, b11, b12, b13, b14, b15] ∧ a = { tmps := shF v0 g n s m b0 b1 b2 b3 b5 b6 b8 b9 b14 b15, defers := [] } ∧ ShS W g k n s A len cap w ∧
    (b0 = true → W.heap.size ≤ m ∧ ∃ l, MapIs w m l ∧ ∀ q, getM l q = wantM n s b4 b7 b10 b11 b12 b13 q) ∧ (b0 = false → b4 = false ∧ b7 = false ∧ b10 = false ∧ b11 = false ∧ b12 = false ∧ b13 = false ∧ b14 = false ∧ b15 = false)
theorem ShS.mk {W w1 w2 : World} {g : Nat} {k n : Int} {s : ByteArray} {A : Option Addr} {len cap : Nat} (h : ShS W g k n s A len cap w1) (hg : g < W.heap.size) (hb : Below W.heap.size w1 w2) : ShS W g k n s A len cap w2 := by
  obtain ⟨a, b, c, d, e⟩ := h
  exact ⟨(hb.cell (p := ⟨g, 0, none⟩) hg).trans a, (hb.cell (p := ⟨g, 1, none⟩) hg).trans b, (hb.cell (p := ⟨g, 2, none⟩) hg).trans c, (hb.cell (p := ⟨g, 3, none⟩) hg).trans d, e.trans hb⟩
theorem ShS.size {W w1 : World} {g : Nat} {k n : Int} {s : ByteArray} {A : Option Addr} {len cap : Nat} (h : ShS W g k n s A len cap w1) : W.heap.size ≤ w1.heap.size := h.2.2.2.2.size
theorem wp_insert_i {P : Program} {w : World} {o : Oper} {a : Act} {K : Act → World → Prop} {Q : Exit → Act → World → Prop} (m x v : Operand) (t : TypeId) (hop : o.op = Op.insert t m x v) (hd : o.dst = none) (kt e : TypeId) (q : IntKind) (ht : P.underlying t = some (.map kt e)) (hk : P.underlying kt = some (.int q))
    (b : Nat) (l : List (Int × Value)) (hm : a.eval m = .map (some b)) (h : MapIs w b l) (k : Int) (val : Value) (hx : a.eval x = .int .i64 k) (hv : a.eval v = val)
    (hK : ∀ w', MapIs w' b (setM l k val) → w.grownBy w' (some b) → K a w') : o.wp P a w K Q := by
  obtain ⟨w', hrun, r1, r2⟩ := h.insert ht hk k val
  unfold Oper.wp
  simp [execOp, hop, hm, hx, hv, hrun, Result.andThen, Oper.upon]
  simpa [Act.put, hd] using hK w' r1 r2
theorem nums_take {l : List Int} {j : Nat} {z : Int} (h : l[j]? = some z) : numsB (l.take (j + 1)) = if j = 0 then dB z else numsB (l.take j) ++ 32 :: dB z := by
  have hj : j < l.length := (List.getElem?_eq_some_iff.1 h).1
  unfold numsB
  rw [List.take_add_one, h]
  simp only [Option.toList, List.map_append, List.map_cons, List.map_nil]
  rw [join_snoc]
  by_cases h0 : j = 0
  · subst h0; simp
  · rw [if_neg h0, if_neg (by
      intro e
      have hl : ((l.take j).map dB).length = j := by rw [List.length_map, List.length_take]; omega
      rw [e] at hl
      exact h0 hl.symm)]
set_option maxHeartbeats 4000000 in
theorem refShow_t (k n : Int) (s : ByteArray) (A : Option Addr) (l0 : List Int) (cap : Nat) (hn : -9223372036854775808 ≤ n ∧ n ≤ 9223372036854775807) (w : World) (hrd : Rd w w.heap.size 1 A l0.length (l0.map (Value.int .i64))) (hz : ∀ z ∈ l0, -9223372036854775808 ≤ z ∧ z ≤ 9223372036854775807) (hlen : l0.length ≤ 1048576) :
    Calls Try.prog 26 #[val k n s A l0.length cap] w fun e w' => e = .returned (.string (showS ⟨k, n, s, l0⟩)) ∧ Below w.heap.size w w' := by
  have HZ := Lib.hid hz
  have HR := Lib.hid hrd
  clear hz hrd
  generalize hln : l0.length = len at *
  have HL := Lib.hid hln
  clear hln
  have hmm := @run_makeMap Try.prog
  have hpt := pick_t
  have HNN := Lib.hid hn
  clear hn
  go_enter Try.func26, Try.ntmps26
  go_wp2_with fail
  generalize hW : w.alloc (Obj.cells #[Value.int .i64 k, Value.int .i64 n, Value.string s, Value.slice A len cap] 39) = W
  have hWb : Below w.heap.size w W := by rw [← hW]; exact al _
  have hg : w.heap.size < W.heap.size := by rw [← hW]; simp
  have hI : ShS W w.heap.size k n s A len cap W := by
    unfold ShS
    rw [← hW]; simp; exact Below.refl _ _
  clear hW
  refine wp_region_any (by kernel_rfl) ?_
  refine wpAny_inv (ShI (val k n s A len cap) W w.heap.size k n s A len cap) ?done ?step _ _ _ _ (by simp) (by simp [left]) ?init
  case init => exact ⟨false, false, false, false, false, false, false, false, false, false, false, false, false, false, false, false, 0, rfl, rfl, ⟨hI.1, hI.2.1, hI.2.2.1, hI.2.2.2.1, hI.2.2.2.2.drew⟩, by simp, by simp⟩
  case done =>
    rintro L a w' ⟨b0, b1, b2, b3, b4, b5, b6, b7, b8, b9, b10, b11, b12, b13, b14, b15, m, rfl, rfl, hS, h1, h2⟩ hs hr
    have hall : b0 = true ∧ b1 = true ∧ b2 = true ∧ b3 = true ∧ b4 = true ∧ b5 = true ∧ b6 = true ∧ b7 = true ∧ b8 = true ∧ b9 = true ∧ b10 = true ∧ b11 = true ∧ b12 = true ∧ b13 = true ∧ b14 = true ∧ b15 = true := by
      have hno : ∀ i, i ∉ Region.ready Region.Mode.any _ _ := fun i hi => by rw [hr] at hi; cases hi
      have q0 := hno 0
      have q1 := hno 1
      have q5 := hno 5
      have q8 := hno 8
      have q2 := hno 2
      have q3 := hno 3
      have q6 := hno 6
      have q9 := hno 9
      have q4 := hno 4
      have q7 := hno 7
      have q10 := hno 10
      have q11 := hno 11
      have q12 := hno 12
      have q13 := hno 13
      have q14 := hno 14
      have q15 := hno 15
      clear hno hr hs
      simp [Region.ready, List.mem_filter, Region.binds] at q0 q1 q2 q3 q4 q5 q6 q7 q8 q9 q10 q11 q12 q13 q14 q15
      simp_all
    obtain ⟨rfl, rfl, rfl, rfl, rfl, rfl, rfl, rfl, rfl, rfl, rfl, rfl, rfl, rfl, rfl, rfl⟩ := hall
    obtain ⟨hm, l, hl, hq⟩ := h1 rfl
    have hWw : Below w.heap.size w w' := sq hWb hS.2.2.2.2
    obtain ⟨c0, c1, c2, c3, _⟩ := hS
    simp only [shF, pick_t]
    clear hs hr h1 h2 hI
    by_cases h2 : k = 2
    · subst h2
      by_cases h0 : n = 0
      · have HS := Lib.hid (show showS ⟨2, n, s, l0⟩ = ⟨#[102, 97, 108, 115, 101]⟩ by subst h0; rfl)
        go_wp2_with fail
        go_ret
        exact ⟨by rw [HS.out]; rfl, hWw⟩
      · have HS := Lib.hid (show showS ⟨2, n, s, l0⟩ = ⟨#[116, 114, 117, 101]⟩ by simp [showS, h0])
        go_wp2_with fail
        go_ret
        exact ⟨by rw [HS.out]; rfl, hWw⟩
    have g2 := ne_test h2
    by_cases h6 : k = 6
    · subst h6
      clear hl hq hm
      go_wp2_with fail
      go_loopw [4, 28] (fun sv i wr => ∃ (j : Nat) (T : ByteArray), j ≤ len ∧ i = .int .i64 j ∧ sv = .string T ∧ T = ⟨(91 :: numsB (l0.take j)).toArray⟩ ∧ Below w.heap.size w wr) (fun _ i _ => len - (intOf i).toNat)
      case atStart => exact ⟨0, _, Nat.zero_le _, rfl, rfl, rfl, hWw⟩
      case round =>
        obtain ⟨j, T, hj, rfl, rfl, hT, hbel⟩ := hrel
        have hnl := numsB_len (l0.take j) (fun z hz => HZ.out z (List.mem_of_mem_take hz))
        have hTs : T.size ≤ 22020097 := by
          have h1 : T.size = (numsB (l0.take j)).length + 1 := by rw [hT]; show (91 :: numsB (l0.take j)).toArray.size = _; simp
          rw [List.length_take] at hnl
          have := HL.out
          omega
        have HT := Lib.hid hT
        clear hnl hT
        by_cases hlt : j < len
        · obtain ⟨b, off, rfl, hb', hc1⟩ := cellI HR.out hlt
          have hc2 := (hbel.cell (p := ⟨b, off + j, none⟩) hb').trans hc1
          have hzk := HZ.out (l0.getD j 0) (by
            rw [List.getD_eq_getElem?_getD, List.getElem?_eq_getElem (by have := HL.out; omega)]
            exact List.getElem_mem _)
          have hgj := Lib.hid (show l0[j]? = some (l0.getD j 0) by rw [List.getD_eq_getElem?_getD, List.getElem?_eq_getElem (by have := HL.out; omega)]; rfl)
          generalize l0.getD j 0 = z at *
          have HZk := Lib.hid hzk
          have hzs := dB_size z HZk.out
          clear hzk hc1
          by_cases h0 : j = 0
          · have h0p : ¬ 0 < j := by omega
            have H0 := Lib.hid h0
            clear h0
            go_wp2_with fail
            refine (refDecimal_any z HZk.out _).mono ?_
            rintro e w2 ⟨rfl, hb2⟩
            go_wp2_with fail
            refine ⟨⟨j + 1, _, by omega, by go_num, rfl, ?_, below_more hbel hb2⟩, by simp [intOf]; omega⟩
            rw [nums_take hgj.out, if_pos H0.out, HT.out, H0.out]
            exact mk_app' [91] (dB z)
          · have h0p : 0 < j := by omega
            have H0 := Lib.hid h0
            clear h0
            go_wp2_with fail
            refine (refDecimal_any z HZk.out _).mono ?_
            rintro e w2 ⟨rfl, hb2⟩
            go_wp2_with fail
            refine ⟨⟨j + 1, _, by omega, by go_num, rfl, ?_, below_more hbel hb2⟩, by simp [intOf]; omega⟩
            rw [nums_take hgj.out, if_neg H0.out, HT.out]
            exact (congrArg (· ++ _) (mk_app' (91 :: numsB (l0.take j)) [32])).trans ((mk_app' _ (dB z)).trans (by simp))
        · have HE := Lib.hid (show T ++ ⟨#[93]⟩ = showS ⟨6, n, s, l0⟩ by
            rw [HT.out, List.take_of_length_le (by have := HL.out; omega)]
            exact mk_app' (91 :: numsB l0) [93])
          go_wp2_with fail
          go_ret
          exact ⟨by rw [← HE.out]; rfl, hbel⟩
    have g6 := ne_test h6
    have hlk : (Instr.lookup 97 (.map (some m)) (.int .i64 k) false).run Try.prog w' = .ok (.string (showS ⟨k, n, s, l0⟩)) w' := by
      by_cases hin : k = 1 ∨ k = 3 ∨ k = 5 ∨ k = 4 ∨ k = 7 ∨ k = 8
      · refine hl.lookup1_ok Try.underlying97 Try.underlying3 ?_
        rw [hq]
        rcases hin with rfl | rfl | rfl | rfl | rfl | rfl <;> simp [wantM, showS]
      · rw [showS_other (x := ⟨k, n, s, l0⟩) (fun e => hin (.inl e)) h2 (fun e => hin (.inr (.inl e))) (fun e => hin (.inr (.inr (.inr (.inl e))))) (fun e => hin (.inr (.inr (.inl e)))) h6 (fun e => hin (.inr (.inr (.inr (.inr (.inl e)))))) (fun e => hin (.inr (.inr (.inr (.inr (.inr e))))))]
        refine hl.lookup1_no Try.underlying97 Try.underlying3 (by kernel_rfl) ?_
        rw [hq]
        simp only [not_or] at hin
        simp [wantM, hin]
    clear h2 h6 hl hq
    go_wp2_with fail
    go_ret
    exact ⟨rfl, hWw⟩
  case step =>
    rintro L a w' i ⟨b0, b1, b2, b3, b4, b5, b6, b7, b8, b9, b10, b11, b12, b13, b14, b15, m, rfl, rfl, hS, h1, h2⟩ hs hi
    have hi16 := (ready_mem hi).1
    simp only [List.size_toArray, List.length_cons, List.length_nil] at hi16
    obtain rfl | rfl | rfl | rfl | rfl | rfl | rfl | rfl | rfl | rfl | rfl | rfl | rfl | rfl | rfl | rfl : i = 0 ∨ i = 1 ∨ i = 2 ∨ i = 3 ∨ i = 4 ∨ i = 5 ∨ i = 6 ∨ i = 7 ∨ i = 8 ∨ i = 9 ∨ i = 10 ∨ i = 11 ∨ i = 12 ∨ i = 13 ∨ i = 14 ∨ i = 15 := by omega
    · simp [Region.ready, List.mem_filter, Region.binds] at hi
      subst hi
      obtain ⟨rfl, rfl, rfl, rfl, rfl, rfl, rfl, rfl⟩ := h2 rfl
      clear hs hi16
      refine wpOp_run rfl rfl ?_
      go_simp
      exact ⟨true, b1, b2, b3, false, b5, b6, false, b8, b9, false, false, false, false, false, false, w'.heap.size, rfl, rfl, hS.mk hg ((Below.refl _ _).alloc hS.size _), fun _ => ⟨hS.size, [], MapIs.made _, fun q => by simp [getM, wantM]⟩, by simp⟩
    · simp [Region.ready, List.mem_filter, Region.binds] at hi
      subst hi
      clear hs hi16
      refine wpOp_run rfl rfl ?_
      go_simp
      exact ⟨b0, true, b2, b3, b4, b5, b6, b7, b8, b9, b10, b11, b12, b13, b14, b15, m, rfl, rfl, hS, h1, h2⟩
    · simp [Region.ready, List.mem_filter, Region.binds] at hi
      obtain ⟨rfl, rfl⟩ := hi
      clear hs hi16
      obtain ⟨c0, c1, c2, c3, hB⟩ := hS
      refine wpOp_run rfl rfl ?_
      go_simp
      exact ⟨b0, true, true, b3, b4, b5, b6, b7, b8, b9, b10, b11, b12, b13, b14, b15, m, rfl, rfl, ⟨c0, c1, c2, c3, hB⟩, h1, h2⟩
    · simp [Region.ready, List.mem_filter, Region.binds] at hi
      obtain ⟨rfl, rfl⟩ := hi
      clear hs hi16
      refine wpOp_run rfl rfl ?_
      go_simp
      refine (refDecimal_any n HNN.out _).mono ?_
      rintro e w2 ⟨rfl, hb2⟩
      go_simp
      exact ⟨b0, b1, true, true, b4, b5, b6, b7, b8, b9, b10, b11, b12, b13, b14, b15, m, rfl, rfl, hS.mk hg (hb2.mono hS.size), fun h => (h1 h).imp id fun ⟨l, hl, hq⟩ => ⟨l, hl.below hb2 hl.lt, hq⟩, h2⟩
    · simp [Region.ready, List.mem_filter, Region.binds] at hi
      obtain ⟨rfl, rfl, rfl⟩ := hi
      obtain ⟨hm, l, hl, hq⟩ := h1 rfl
      clear hs hi16
      refine wpOp_run rfl rfl (wp_insert_i _ _ _ 97 rfl rfl 3 9 .i64 Try.underlying97 Try.underlying3 m l rfl hl 1 (.string (decS n)) rfl rfl fun w5 hM5 hg5 => ?_)
      exact ⟨true, b1, b2, true, true, b5, b6, b7, b8, b9, b10, b11, b12, b13, b14, b15, m, rfl, rfl, hS.mk hg ((Below.refl _ _).grown hg5 hS.size (fun k e => by injection e with e; omega)), fun _ => ⟨hm, _, hM5, fun q => by rw [getM_setM, hq]; exact want_set_4 q⟩, fun h => by cases h⟩
    · simp [Region.ready, List.mem_filter, Region.binds] at hi
      subst hi
      clear hs hi16
      refine wpOp_run rfl rfl ?_
      go_simp
      exact ⟨b0, b1, b2, b3, b4, true, b6, b7, b8, b9, b10, b11, b12, b13, b14, b15, m, rfl, rfl, hS, h1, h2⟩
    · simp [Region.ready, List.mem_filter, Region.binds] at hi
      obtain ⟨rfl, rfl⟩ := hi
      clear hs hi16
      obtain ⟨c0, c1, c2, c3, hB⟩ := hS
      refine wpOp_run rfl rfl ?_
      go_simp
      exact ⟨b0, b1, b2, b3, b4, true, true, b7, b8, b9, b10, b11, b12, b13, b14, b15, m, rfl, rfl, ⟨c0, c1, c2, c3, hB⟩, h1, h2⟩
    · simp [Region.ready, List.mem_filter, Region.binds] at hi
      obtain ⟨rfl, rfl, rfl⟩ := hi
      obtain ⟨hm, l, hl, hq⟩ := h1 rfl
      clear hs hi16
      refine wpOp_run rfl rfl (wp_insert_i _ _ _ 97 rfl rfl 3 9 .i64 Try.underlying97 Try.underlying3 m l rfl hl 3 (.string s) rfl rfl fun w5 hM5 hg5 => ?_)
      exact ⟨true, b1, b2, b3, b4, b5, true, true, b8, b9, b10, b11, b12, b13, b14, b15, m, rfl, rfl, hS.mk hg ((Below.refl _ _).grown hg5 hS.size (fun k e => by injection e with e; omega)), fun _ => ⟨hm, _, hM5, fun q => by rw [getM_setM, hq]; exact want_set_7 q⟩, fun h => by cases h⟩
    · simp [Region.ready, List.mem_filter, Region.binds] at hi
      subst hi
      clear hs hi16
      refine wpOp_run rfl rfl ?_
      go_simp
      exact ⟨b0, b1, b2, b3, b4, b5, b6, b7, true, b9, b10, b11, b12, b13, b14, b15, m, rfl, rfl, hS, h1, h2⟩
    · simp [Region.ready, List.mem_filter, Region.binds] at hi
      obtain ⟨rfl, rfl⟩ := hi
      clear hs hi16
      obtain ⟨c0, c1, c2, c3, hB⟩ := hS
      refine wpOp_run rfl rfl ?_
      go_simp
      exact ⟨b0, b1, b2, b3, b4, b5, b6, b7, true, true, b10, b11, b12, b13, b14, b15, m, rfl, rfl, ⟨c0, c1, c2, c3, hB⟩, h1, h2⟩
    · simp [Region.ready, List.mem_filter, Region.binds] at hi
      obtain ⟨rfl, rfl, rfl⟩ := hi
      obtain ⟨hm, l, hl, hq⟩ := h1 rfl
      clear hs hi16
      refine wpOp_run rfl rfl (wp_insert_i _ _ _ 97 rfl rfl 3 9 .i64 Try.underlying97 Try.underlying3 m l rfl hl 5 (.string s) rfl rfl fun w5 hM5 hg5 => ?_)
      exact ⟨true, b1, b2, b3, b4, b5, b6, b7, b8, true, true, b11, b12, b13, b14, b15, m, rfl, rfl, hS.mk hg ((Below.refl _ _).grown hg5 hS.size (fun k e => by injection e with e; omega)), fun _ => ⟨hm, _, hM5, fun q => by rw [getM_setM, hq]; exact want_set_10 q⟩, fun h => by cases h⟩
    · simp [Region.ready, List.mem_filter, Region.binds] at hi
      obtain ⟨rfl, rfl⟩ := hi
      obtain ⟨hm, l, hl, hq⟩ := h1 rfl
      clear hs hi16
      refine wpOp_run rfl rfl (wp_insert_i _ _ _ 97 rfl rfl 3 9 .i64 Try.underlying97 Try.underlying3 m l rfl hl 4 (.string ⟨#[110, 105, 108]⟩) rfl rfl fun w5 hM5 hg5 => ?_)
      exact ⟨true, b1, b2, b3, b4, b5, b6, b7, b8, b9, b10, true, b12, b13, b14, b15, m, rfl, rfl, hS.mk hg ((Below.refl _ _).grown hg5 hS.size (fun k e => by injection e with e; omega)), fun _ => ⟨hm, _, hM5, fun q => by rw [getM_setM, hq]; exact want_set_11 q⟩, fun h => by cases h⟩
    · simp [Region.ready, List.mem_filter, Region.binds] at hi
      obtain ⟨rfl, rfl⟩ := hi
      obtain ⟨hm, l, hl, hq⟩ := h1 rfl
      clear hs hi16
      refine wpOp_run rfl rfl (wp_insert_i _ _ _ 97 rfl rfl 3 9 .i64 Try.underlying97 Try.underlying3 m l rfl hl 7 (.string ⟨#[112, 111, 105, 110, 116, 101, 114]⟩) rfl rfl fun w5 hM5 hg5 => ?_)
      exact ⟨true, b1, b2, b3, b4, b5, b6, b7, b8, b9, b10, b11, true, b13, b14, b15, m, rfl, rfl, hS.mk hg ((Below.refl _ _).grown hg5 hS.size (fun k e => by injection e with e; omega)), fun _ => ⟨hm, _, hM5, fun q => by rw [getM_setM, hq]; exact want_set_12 q⟩, fun h => by cases h⟩
    · simp [Region.ready, List.mem_filter, Region.binds] at hi
      obtain ⟨rfl, rfl⟩ := hi
      obtain ⟨hm, l, hl, hq⟩ := h1 rfl
      clear hs hi16
      refine wpOp_run rfl rfl (wp_insert_i _ _ _ 97 rfl rfl 3 9 .i64 Try.underlying97 Try.underlying3 m l rfl hl 8 (.string ⟨#[102, 117, 110, 99]⟩) rfl rfl fun w5 hM5 hg5 => ?_)
      exact ⟨true, b1, b2, b3, b4, b5, b6, b7, b8, b9, b10, b11, b12, true, b14, b15, m, rfl, rfl, hS.mk hg ((Below.refl _ _).grown hg5 hS.size (fun k e => by injection e with e; omega)), fun _ => ⟨hm, _, hM5, fun q => by rw [getM_setM, hq]; exact want_set_13 q⟩, fun h => by cases h⟩
    · simp [Region.ready, List.mem_filter, Region.binds] at hi
      obtain ⟨rfl, rfl, rfl, rfl, rfl, rfl, rfl, rfl, rfl, rfl, rfl, rfl, rfl, rfl, rfl⟩ := hi
      clear hs hi16
      refine wpOp_run rfl rfl ?_
      go_simp
      exact ⟨true, true, true, true, true, true, true, true, true, true, true, true, true, true, true, b15, m, rfl, rfl, hS, h1, fun h => by cases h⟩
    · simp [Region.ready, List.mem_filter, Region.binds] at hi
      obtain ⟨rfl, hi⟩ := hi
      have hall : b0 = true ∧ b1 = true ∧ b2 = true ∧ b3 = true ∧ b4 = true ∧ b5 = true ∧ b6 = true ∧ b7 = true ∧ b8 = true ∧ b9 = true ∧ b10 = true ∧ b11 = true ∧ b12 = true ∧ b13 = true ∧ b14 = true := by simp_all
      obtain ⟨rfl, rfl, rfl, rfl, rfl, rfl, rfl, rfl, rfl, rfl, rfl, rfl, rfl, rfl, rfl⟩ := hall
      clear hs hi16 hi
      refine wpOp_run rfl rfl ?_
      go_simp
      exact ⟨true, true, true, true, true, true, true, true, true, true, true, true, true, true, true, true, m, rfl, rfl, hS, h1, fun h => by cases h⟩
theorem refShow_any (x : VV) (A : Option Addr) (c : Nat) (w : World) (h : VV.sh.rd w (· < w.heap.size) [.int .i64 x.k, .int .i64 x.n, .string x.s, .slice A x.l.length c] x) (hb : x.bulk ≤ 1048576) :
    Calls Try.prog 26 #[val x.k x.n x.s A x.l.length c] w fun e w' => e = .returned (.string (showS x)) ∧ Below w.heap.size w w' := by
  obtain ⟨A', c', he, hr, hlc, hcm, hA, hk, hn, hz⟩ := VV.elim h
  simp at he
  obtain ⟨rfl, rfl⟩ := he
  exact refShow_t x.k x.n x.s A x.l c hn w hr hz (by unfold VV.bulk at hb; omega)
end Go.Proofs.Ytkkehbfceabhmaa
