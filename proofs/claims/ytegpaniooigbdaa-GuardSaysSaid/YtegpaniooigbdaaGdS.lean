/- 'guard.right'. Conditions: the function fits what comes in. -/
import Derived.Test.YtegpaniooigbdaaGdR
set_option maxRecDepth 100000
namespace Go.Proofs.Ytegpaniooigbdaa
open Go.ChangeShapes Go.WideShapes Go.ChangeAt Go.RowKit
/-- An instruction's cells. -/
structure IC (w : World) (b off j : Nat) (x : II) : Prop where
  e0 : w.cell? ⟨b, off + j * 6, none⟩ = some (.int .i64 x.o)
  e1 : w.cell? ⟨b, off + j * 6 + 1, none⟩ = some (.int .i64 x.a)
  e2 : w.cell? ⟨b, off + j * 6 + 2, none⟩ = some (.int .i64 x.b)
  e3 : w.cell? ⟨b, off + j * 6 + 3, none⟩ = some (.int .i64 x.c)
  e4 : w.cell? ⟨b, off + j * 6 + 4, none⟩ = some (.int .i64 x.d)
  e5 : w.cell? ⟨b, off + j * 6 + 5, none⟩ = some (.int .i64 x.e)
theorem IC.keep {w w' : World} {b off j : Nat} {x : II} (h : IC w b off j x) (hk : ∀ o, w'.cell? ⟨b, o, none⟩ = w.cell? ⟨b, o, none⟩) : IC w' b off j x :=
  ⟨(hk _).trans h.e0, (hk _).trans h.e1, (hk _).trans h.e2, (hk _).trans h.e3, (hk _).trans h.e4, (hk _).trans h.e5⟩
theorem ins_cells {w : World} {B n : Nat} {A : Option Addr} {ess : List (List Value)} {l : List II} (hr : RdM w (· < B) II.sh.size A n ess.flatten) (ha : II.sh.all w (· < B) ess l) (hn : n = l.length) (h0 : 0 < n) :
    ∃ b off, A = some ⟨b, off, none⟩ ∧ b < B ∧ ∀ j x, l[j]? = some x → IC w b off j x := by
  obtain ⟨b, off, rfl, hb, _⟩ := hr.2 h0
  refine ⟨b, off, rfl, hb, fun j x hx => ?_⟩
  obtain ⟨b', off', e, _, e0, e1, e2, e3, e4, e5⟩ := ins_at hr ha hn hx
  injection e with e
  injection e with h1 h2
  subst h1 h2
  exact ⟨e0, e1, e2, e3, e4, e5⟩
theorem after_cases (l : List II) (k : Nat) (x : II) :
    (afterF x.o = 0 ∧ afterOk l k x = true) ∨ (afterF x.o ≠ 0 ∧ l.length ≤ k + 1 ∧ afterOk l k x = false) ∨
    (∃ y, l[k + 1]? = some y ∧ k + 1 < l.length ∧ afterF x.o ≠ 0 ∧ y.o ≠ afterF x.o ∧ afterOk l k x = false) ∨
    (∃ y, l[k + 1]? = some y ∧ k + 1 < l.length ∧ afterF x.o ≠ 0 ∧ y.o = afterF x.o ∧ afterOk l k x = true) := by
  unfold afterOk
  by_cases h : afterF x.o = 0
  · exact .inl ⟨h, by simp [h]⟩
  · right
    by_cases hl : k + 1 < l.length
    · right
      have hy := List.getElem?_eq_getElem hl
      by_cases e : l[k + 1].o = afterF x.o
      · exact .inr ⟨_, hy, hl, h, e, by rw [hy]; simp [e]⟩
      · exact .inl ⟨_, hy, hl, h, e, by rw [hy]; simp [e, h]⟩
    · exact .inl ⟨h, by omega, by rw [List.getElem?_eq_none (by omega)]; simp [h]⟩
def sameI (y : II) (r : Int × Int × Int × Int) : Bool := decide (y.o = 24 ∧ y.a = r.1 ∧ y.b = r.2.1 ∧ y.c = r.2.2.1 ∧ y.d = r.2.2.2 ∧ y.e = 0)
theorem ahead_cases (l : List II) (k : Nat) (hk : k < l.length) (x : II) :
    (needV x.o x.a x.b x.c x.d = none ∧ aheadOk l k x = true) ∨ (∃ r, needV x.o x.a x.b x.c x.d = some r ∧ (
      (k < 2 ∧ aheadOk l k x = false) ∨ (∃ p q, 2 ≤ k ∧ l[k - 1]? = some p ∧ l[k - 2]? = some q ∧ (
        (p.o ≠ 25 ∧ aheadOk l k x = false) ∨ (p.o = 25 ∧ sameI q r = false ∧ aheadOk l k x = false) ∨ (p.o = 25 ∧ sameI q r = true ∧ aheadOk l k x = (!tgtIn l (k : Int) && !tgtIn l ((k : Int) - 1))))))) := by
  unfold aheadOk
  cases hv : needV x.o x.a x.b x.c x.d with
  | none => exact .inl ⟨rfl, rfl⟩
  | some r =>
    right
    refine ⟨r, rfl, ?_⟩
    simp only
    by_cases h2 : k < 2
    · exact .inl ⟨h2, by rw [decide_eq_false (show ¬ 2 ≤ k by omega)]; rfl⟩
    · right
      have h1 := List.getElem?_eq_getElem (show k - 1 < l.length by omega)
      have h2' := List.getElem?_eq_getElem (show k - 2 < l.length by omega)
      refine ⟨_, _, by omega, h1, h2', ?_⟩
      rw [h1, h2', decide_eq_true (show 2 ≤ k by omega)]
      simp only [Bool.true_and]
      by_cases hp : l[k - 1].o = 25
      · right
        rw [decide_eq_true hp, Bool.true_and]
        cases hs : sameI l[k - 2] r with
        | false => exact .inl ⟨hp, rfl, by unfold sameI at hs; rw [hs]; rfl⟩
        | true => exact .inr ⟨hp, rfl, by unfold sameI at hs; rw [hs]; rfl⟩
      · exact .inl ⟨hp, by rw [decide_eq_false hp]; rfl⟩
section
variable (nm : ByteArray) (pa sl ca : Int) (IA : Option Addr) (n ic : Nat) (l : List II)
set_option maxHeartbeats 4000000 in
theorem right_any (B k gb : Nat) (w : World) (hB : B ≤ w.heap.size) (hn : n = l.length) (hl : n ≤ 20000) (hk : k < n) (ess : List (List Value)) (hr : RdM w (· < B) II.sh.size IA n ess.flatten) (ha : II.sh.all w (· < B) ess l) (hm : MapIs w gb (goalsM l)) :
    Calls Try.prog 90 #[.agg #[.string nm, .int .i64 pa, .int .i64 sl, .int .i64 ca, .slice IA n ic], .int .i64 (k : Int), .map (some gb)] w fun e w' => e = .returned (.bool (rightB l k)) ∧ Below w.heap.size w w' := by
  have HN := Lib.hid hn
  obtain ⟨ib, ioff, rfl, hib, hcs⟩ := ins_cells hr ha hn (by omega)
  have hkl : k < l.length := by omega
  have HCS := Lib.hid hcs
  have HM := Lib.hid hm
  have hx := List.getElem?_eq_getElem hkl
  obtain ⟨e0, e1, e2, e3, e4, e5⟩ := hcs k _ hx
  have HRB := Lib.hid (show rightB l k = (afterOk l k l[k] && aheadOk l k l[k]) by unfold rightB; rw [hx])
  have HAF := Lib.hid (after_cases l k l[k])
  have HAH := Lib.hid (ahead_cases l k hkl l[k])
  generalize l[k] = x at *
  obtain ⟨x0, x1, x2, x3, x4, x5⟩ := x
  simp only at e0 e1 e2 e3 e4 e5 HAF HAH
  have HNB := Lib.hid (fun w => (need_both x0 x1 x2 x3 x4 x5 w).1)
  have hki : (k : Int) < (n : Int) := by omega
  have hibw : ib < w.heap.size := by omega
  clear hcs hx hr ha hm hn
  have haf := HAF.out
  rw [← HN.out] at haf
  clear HAF
  generalize hafv : afterF x0 = af at *
  have HAFV := Lib.hid hafv
  clear hafv
  rcases haf with ⟨h1, h2⟩ | ⟨h1, h3, h2⟩ | ⟨y, hy, h3, h1, h4, h2⟩ | ⟨y, hy, h3, h1, h4, h2⟩
  rotate_left
  · have HV := Lib.hid (show rightB l k = false by rw [HRB.out, h2]; rfl)
    have b1 : (af != 0) = true := by simpa using h1
    clear h1 h2
    go_enter Try.func90, Try.ntmps90
    go_wp2_with (go_at_call 131; refine (guardAfter_any x0 _).mono ?_; rintro e w3 ⟨rfl, rfl⟩; rw [HAFV.out])
    go_ret
    exact ⟨by rw [HV.out]; rfl, sq (al _) (al _)⟩
  · have HV := Lib.hid (show rightB l k = false by rw [HRB.out, h2]; rfl)
    have b1 : (af != 0) = true := by simpa using h1
    obtain ⟨g0, _, _, _, _, _⟩ := HCS.out (k + 1) y hy
    have b2 : (y.o != af) = true := by simpa using h4
    generalize y.o = yo at *
    clear h1 h2 h4 hy
    go_enter Try.func90, Try.ntmps90
    go_wp2_with (go_at_call 131; refine (guardAfter_any x0 _).mono ?_; rintro e w3 ⟨rfl, rfl⟩; rw [HAFV.out])
    go_ret
    exact ⟨by rw [HV.out]; rfl, sq (al _) (al _)⟩
  rotate_left
  all_goals
    rw [h2, Bool.true_and] at HRB
    clear h2
    try (have b1 : (af != 0) = true := by simpa using h1)
    try (have b1 : (af != 0) = false := by simpa using h1)
    try (have g0 := (HCS.out (k + 1) y hy).e0)
    try (have b2 : (y.o != af) = false := by simpa using h4)
    try (generalize y.o = yo at *)
    clear h1
    try clear h4
    try clear hy
    rcases HAH.out with ⟨hv, ho⟩ | ⟨⟨ra, rb, rc, rd⟩, hv, hrest⟩
    · have hI : needI x0 x1 x2 x3 x4 = ins 0 0 0 0 0 0 := by unfold needI; rw [hv]
      have hb : needB x0 x1 x2 x3 x4 = false := by unfold needB; rw [hv]; rfl
      rw [hI, hb] at HNB
      have HV := Lib.hid (HRB.out.trans ho)
      clear hI hb hv ho
      go_enter Try.func90, Try.ntmps90
      go_wp2_with (first
        | (go_at_call 131; refine (guardAfter_any x0 _).mono ?_; rintro e w3 ⟨rfl, rfl⟩; rw [HAFV.out])
        | (go_at_call 132; refine (HNB.out _).mono ?_; rintro e w4 ⟨rfl, hb4⟩; have HB4 := Lib.hid (sq (sq (al _) (al _)) hb4); clear hb4))
      go_ret
      exact ⟨by rw [HV.out]; rfl, al2 HB4.out _⟩
    · have hI : needI x0 x1 x2 x3 x4 = ins 24 ra rb rc rd 0 := by unfold needI; rw [hv]
      have hb : needB x0 x1 x2 x3 x4 = true := by unfold needB; rw [hv]; rfl
      rw [hI, hb] at HNB
      clear hI hb hv
      have hneq := fun (q0 q1 q2 q3 q4 q5 : Int) w => ins_neq q0 q1 q2 q3 q4 q5 24 ra rb rc rd 0 w
      have HNQ := Lib.hid hneq
      have HRE := Lib.hid hrest
      clear hneq hrest
      go_enter Try.func90, Try.ntmps90
      go_wp2_with (first
        | (go_at_call 131; refine (guardAfter_any x0 _).mono ?_; rintro e w3 ⟨rfl, rfl⟩; rw [HAFV.out])
        | (go_at_call 132; refine (HNB.out _).mono ?_; rintro e w4 ⟨rfl, hb4⟩; have HB4 := Lib.hid (sq (sq (al _) (al _)) hb4); have f4 : w4.cell? ⟨w.heap.size, 4, none⟩ = some (.slice (some ⟨ib, ioff, none⟩) n ic) := (hb4.cell (p := ⟨w.heap.size, 4, none⟩) (by simp; omega)).trans (by simp [go_sem]); have hz4 : w.heap.size < w4.heap.size := Nat.lt_of_lt_of_le (by simp; omega) hb4.size; clear hb4))
      have hib4 : ib < w4.heap.size := by omega
      have HC4 := Lib.hid (fun j x hx => (HCS.out j x hx).keep (w' := w4) (fun o => HB4.out.cell (p := ⟨ib, o, none⟩) hibw))
      have HM4 := Lib.hid (HM.out.below HB4.out HM.out.lt)
      clear e0 e1 e2 e3 e4 e5
      try clear g0
      try clear b2
      rcases HRE.out with ⟨h2, ho⟩ | ⟨p, q, h2, hp, hq, ⟨hpo, ho⟩ | ⟨hpo, hs, ho⟩ | ⟨hpo, hs, ho⟩⟩
      · have HV := Lib.hid (HRB.out.trans ho)
        have h2i : (k : Int) < 2 := by omega
        clear ho
        go_quiet (fail)
        go_wp2_with fail
        go_ret
        exact ⟨by rw [HV.out]; rfl, dr (al2 HB4.out _) _⟩
      · have HV := Lib.hid (HRB.out.trans ho)
        have h2i : decide ((k : Int) < 2) = false := by simp; omega
        have c0 := (HC4.out (k - 1) p hp).e0
        have bp : (p.o != 25) = true := by simpa using hpo
        have hk1 : IntKind.i64.wrap ((k : Int) - 1) = (k : Int) - 1 := IntWalk.i64_in _ (by omega)
        have hk2 : ((k : Int) - 1).toNat = k - 1 := by omega
        have hk3 : 0 ≤ (k : Int) - 1 := by omega
        have hk4 : (k : Int) - 1 < (n : Int) := by omega
        generalize p.o = po at *
        clear ho hpo hp hq
        go_quiet (fail)
        go_wp2_with fail
        go_ret
        exact ⟨by rw [HV.out]; rfl, dr (al2 HB4.out _) _⟩
      · have HV := Lib.hid (HRB.out.trans ho)
        have h2i : decide ((k : Int) < 2) = false := by simp; omega
        have c0 := (HC4.out (k - 1) p hp).e0
        rw [hpo] at c0
        obtain ⟨q0, q1, q2, q3, q4, q5⟩ := q
        obtain ⟨d0, d1, d2, d3, d4, d5⟩ := HC4.out (k - 2) _ hq
        simp only at d0 d1 d2 d3 d4 d5
        have hk1 : IntKind.i64.wrap ((k : Int) - 1) = (k : Int) - 1 := IntWalk.i64_in _ (by omega)
        have hk2 : ((k : Int) - 1).toNat = k - 1 := by omega
        have hk3 : 0 ≤ (k : Int) - 1 := by omega
        have hk4 : (k : Int) - 1 < (n : Int) := by omega
        have hj1 : IntKind.i64.wrap ((k : Int) - 2) = (k : Int) - 2 := IntWalk.i64_in _ (by omega)
        have hj2 : ((k : Int) - 2).toNat = k - 2 := by omega
        have hj3 : 0 ≤ (k : Int) - 2 := by omega
        have hj4 : (k : Int) - 2 < (n : Int) := by omega
        have e6 : decide (q0 = 24 ∧ q1 = ra ∧ q2 = rb ∧ q3 = rc ∧ q4 = rd ∧ q5 = 0) = false := hs
        have hnq := HNQ.out q0 q1 q2 q3 q4 q5
        rw [e6] at hnq
        unfold ins at hnq
        simp only [Bool.not_false] at hnq
        clear ho hpo hp hq hs e6
        go_quiet (fail)
        go_wp2_with fail
        go_ret
        exact ⟨by rw [HV.out]; rfl, dr (al2 HB4.out _) _⟩
      · have HV := Lib.hid (HRB.out.trans ho)
        have h2i : decide ((k : Int) < 2) = false := by simp; omega
        have c0 := (HC4.out (k - 1) p hp).e0
        rw [hpo] at c0
        obtain ⟨q0, q1, q2, q3, q4, q5⟩ := q
        obtain ⟨d0, d1, d2, d3, d4, d5⟩ := HC4.out (k - 2) _ hq
        simp only at d0 d1 d2 d3 d4 d5
        have hk1 : IntKind.i64.wrap ((k : Int) - 1) = (k : Int) - 1 := IntWalk.i64_in _ (by omega)
        have hk2 : ((k : Int) - 1).toNat = k - 1 := by omega
        have hk3 : 0 ≤ (k : Int) - 1 := by omega
        have hk4 : (k : Int) - 1 < (n : Int) := by omega
        have hj1 : IntKind.i64.wrap ((k : Int) - 2) = (k : Int) - 2 := IntWalk.i64_in _ (by omega)
        have hj2 : ((k : Int) - 2).toNat = k - 2 := by omega
        have hj3 : 0 ≤ (k : Int) - 2 := by omega
        have hj4 : (k : Int) - 2 < (n : Int) := by omega
        have e6 : decide (q0 = 24 ∧ q1 = ra ∧ q2 = rb ∧ q3 = rc ∧ q4 = rd ∧ q5 = 0) = true := hs
        have hnq := HNQ.out q0 q1 q2 q3 q4 q5
        rw [e6] at hnq
        unfold ins at hnq
        simp only [Bool.not_true] at hnq
        clear ho hpo hp hq hs e6
        go_quiet (fail)
        clear hk1 hk2 hk3 hk4 hj1 hj2 hj3 hj4
        generalize hwq : World.drewN _ nq = wq
        have HQ := Lib.hid (show MapIs wq gb (goalsM l) by subst hwq; exact HM4.out.alloc _)
        have HBQ := Lib.hid (show Below w.heap.size w wq by subst hwq; exact dr (al2 HB4.out _) _)
        clear hwq
        cases t1 : tgtIn l (k : Int) with
        | false =>
          have T1 := Lib.hid t1
          cases t2 : tgtIn l ((k : Int) - 1) with
          | false =>
            have T2 := Lib.hid t2
            rw [t1, t2] at HV
            clear t1 t2
            go_wp2_with (first
              | (at_lookup; refine wpList_lookup_i_no rfl _ _ 156 rfl 3 172 .i64 Try.underlying156 Try.underlying3 gb _ rfl (by first | exact HQ.out | exact HQ.out.alloc _) (k : Int) (Value.agg #[]) rfl (by kernel_rfl) (goals_none T1.out) ?_)
              | (at_lookup; refine wpList_lookup_i_no rfl _ _ 156 rfl 3 172 .i64 Try.underlying156 Try.underlying3 gb _ rfl (by first | exact HQ.out | exact HQ.out.alloc _) ((k : Int) - 1) (Value.agg #[]) rfl (by kernel_rfl) (goals_none T2.out) ?_))
            go_ret
            exact ⟨by rw [HV.out]; rfl, al2 (al2 HBQ.out _) _⟩
          | true =>
            have T2 := Lib.hid t2
            rw [t1, t2] at HV
            clear t1 t2
            go_wp2_with (first
              | (at_lookup; refine wpList_lookup_i_no rfl _ _ 156 rfl 3 172 .i64 Try.underlying156 Try.underlying3 gb _ rfl (by first | exact HQ.out | exact HQ.out.alloc _) (k : Int) (Value.agg #[]) rfl (by kernel_rfl) (goals_none T1.out) ?_)
              | (at_lookup; refine wpList_lookup_i_ok rfl _ _ 156 rfl 3 172 .i64 Try.underlying156 Try.underlying3 gb _ rfl (by first | exact HQ.out | exact HQ.out.alloc _) ((k : Int) - 1) (Value.agg #[]) rfl (goals_some T2.out) ?_))
            go_ret
            exact ⟨by rw [HV.out]; rfl, al2 (al2 HBQ.out _) _⟩
        | true =>
          have T1 := Lib.hid t1
          cases t2 : tgtIn l ((k : Int) - 1) with
          | false =>
            have T2 := Lib.hid t2
            rw [t1, t2] at HV
            clear t1 t2
            go_wp2_with (first
              | (at_lookup; refine wpList_lookup_i_ok rfl _ _ 156 rfl 3 172 .i64 Try.underlying156 Try.underlying3 gb _ rfl (by first | exact HQ.out | exact HQ.out.alloc _) (k : Int) (Value.agg #[]) rfl (goals_some T1.out) ?_)
              | (at_lookup; refine wpList_lookup_i_no rfl _ _ 156 rfl 3 172 .i64 Try.underlying156 Try.underlying3 gb _ rfl (by first | exact HQ.out | exact HQ.out.alloc _) ((k : Int) - 1) (Value.agg #[]) rfl (by kernel_rfl) (goals_none T2.out) ?_))
            go_ret
            exact ⟨by rw [HV.out]; rfl, al2 (al2 HBQ.out _) _⟩
          | true =>
            have T2 := Lib.hid t2
            rw [t1, t2] at HV
            clear t1 t2
            go_wp2_with (first
              | (at_lookup; refine wpList_lookup_i_ok rfl _ _ 156 rfl 3 172 .i64 Try.underlying156 Try.underlying3 gb _ rfl (by first | exact HQ.out | exact HQ.out.alloc _) (k : Int) (Value.agg #[]) rfl (goals_some T1.out) ?_)
              | (at_lookup; refine wpList_lookup_i_ok rfl _ _ 156 rfl 3 172 .i64 Try.underlying156 Try.underlying3 gb _ rfl (by first | exact HQ.out | exact HQ.out.alloc _) ((k : Int) - 1) (Value.agg #[]) rfl (goals_some T2.out) ?_))
            go_ret
            exact ⟨by rw [HV.out]; rfl, al2 (al2 HBQ.out _) _⟩
end
end Go.Proofs.Ytegpaniooigbdaa
