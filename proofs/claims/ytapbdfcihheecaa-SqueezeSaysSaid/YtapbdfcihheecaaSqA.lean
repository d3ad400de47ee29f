/- squeeze's 'aim', 'idle', 'end', and the document's 'turned'; copies and comparisons of lists of instructions. Conditions: the lists fit what comes in. -/
import Derived.Test.YtapbdfcihheecaaSqQ
import Derived.Test.YtapbdfcihheecaaCdK
import Derived.Test.YtapbdfcihheecaaGdP
import Derived.Deep.QuietTactic
import Derived.BigQuiet
import Derived.Lib.LazyBuf
set_option maxRecDepth 100000
namespace Go.Proofs.Ytapbdfcihheecaa
open Go.ChangeShapes Go.WideShapes Go.ChangeAt Go.RowKit
/-- A list of instructions in memory. -/
def InsR (w : World) (B : Nat) (A : Option Addr) (n : Nat) (l : List II) : Prop := n = l.length ∧ ∃ ess, RdM w (· < B) II.sh.size A n ess.flatten ∧ II.sh.all w (· < B) ess l
section
variable {w w' : World} {B B' n : Nat} {A : Option Addr} {l : List II}
theorem InsR.below (h : InsR w B A n l) (hb : Below B w w') : InsR w' B A n l := by
  obtain ⟨hn, ess, r, a⟩ := h
  exact ⟨hn, ess, r.keep fun p hp => hb.cell hp, a.keep fun p hp => hb.cell hp⟩
theorem InsR.more (h : InsR w B A n l) (hB : B ≤ B') : InsR w B' A n l := by
  obtain ⟨hn, ess, r, a⟩ := h
  exact ⟨hn, ess, r.more fun b hb => by omega, a.more fun b hb => by omega⟩
theorem InsR.into (h : InsR w B A n l) (hB : B ≤ w.heap.size) (hb : Below w.heap.size w w') : InsR w' w'.heap.size A n l := (h.below (hb.mono hB)).more (Nat.le_trans hB hb.size)
theorem InsR.at (h : InsR w B A n l) {i : Nat} {x : II} (hx : l[i]? = some x) :
    ∃ b off, A = some ⟨b, off, none⟩ ∧ b < B ∧ w.cell? ⟨b, off + i * 6, none⟩ = some (.int .i64 x.o) ∧ w.cell? ⟨b, off + i * 6 + 1, none⟩ = some (.int .i64 x.a) ∧ w.cell? ⟨b, off + i * 6 + 2, none⟩ = some (.int .i64 x.b) ∧ w.cell? ⟨b, off + i * 6 + 3, none⟩ = some (.int .i64 x.c) ∧ w.cell? ⟨b, off + i * 6 + 4, none⟩ = some (.int .i64 x.d) ∧ w.cell? ⟨b, off + i * 6 + 5, none⟩ = some (.int .i64 x.e) := by
  obtain ⟨hn, ess, r, a⟩ := h
  exact ins_at r a hn hx
theorem InsR.nil : InsR w B A 0 [] := ⟨rfl, [], RdM.nil, ⟨rfl, fun i c x h => by simp at h⟩⟩
theorem InsR.of_own {t : TypeId} {base : Nat} {E : Nat → Prop} {c : Nat} (h : Own II.sh t w base E (.slice A n c) l) : InsR w w.heap.size A n l := by
  obtain ⟨A', c', ess, e, _, _, _, hr, ha⟩ := h.read
  simp at e
  obtain ⟨rfl, rfl, rfl⟩ := e
  exact ⟨rfl, ess, hr, ha⟩
theorem InsR.bd (h : InsR w B A n l) {x : II} (hx : x ∈ l) : (-9223372036854775808 ≤ x.o ∧ x.o ≤ 9223372036854775807) ∧ (-9223372036854775808 ≤ x.a ∧ x.a ≤ 9223372036854775807) ∧ (-9223372036854775808 ≤ x.b ∧ x.b ≤ 9223372036854775807) ∧ (-9223372036854775808 ≤ x.c ∧ x.c ≤ 9223372036854775807) ∧ (-9223372036854775808 ≤ x.d ∧ x.d ≤ 9223372036854775807) ∧ (-9223372036854775808 ≤ x.e ∧ x.e ≤ 9223372036854775807) := by
  obtain ⟨hn, ess, r, a⟩ := h
  obtain ⟨i, hi, he⟩ := List.mem_iff_getElem.1 hx
  have h1 := a.2 i (ess[i]'(by rw [a.1]; exact hi)) x (List.getElem?_eq_getElem _) (by rw [List.getElem?_eq_getElem hi, he])
  exact (II.elim h1).2
end
/-- The same, and where the rows lie. -/
def InsM (w : World) (M : Nat → Prop) (A : Option Addr) (n : Nat) (l : List II) : Prop := n = l.length ∧ ∃ ess, RdM w M II.sh.size A n ess.flatten ∧ II.sh.all w M ess l
theorem InsM.r {w : World} {M : Nat → Prop} {B n : Nat} {A : Option Addr} {l : List II} (h : InsM w M A n l) (hM : ∀ b, M b → b < B) : InsR w B A n l := by
  obtain ⟨hn, ess, r, a⟩ := h
  exact ⟨hn, ess, r.more hM, a.more hM⟩
theorem InsM.more {w : World} {M M' : Nat → Prop} {n : Nat} {A : Option Addr} {l : List II} (h : InsM w M A n l) (hM : ∀ b, M b → M' b) : InsM w M' A n l := by
  obtain ⟨hn, ess, r, a⟩ := h
  exact ⟨hn, ess, r.more hM, a.more hM⟩
theorem InsM.keep {w w' : World} {M : Nat → Prop} {n : Nat} {A : Option Addr} {l : List II} (h : InsM w M A n l) (hk : ∀ p : Addr, M p.block → w'.cell? p = w.cell? p) : InsM w' M A n l := by
  obtain ⟨hn, ess, r, a⟩ := h
  exact ⟨hn, ess, r.keep hk, a.keep hk⟩
theorem InsM.of_own {w : World} {t : TypeId} {base n c : Nat} {E : Nat → Prop} {A : Option Addr} {l : List II} (h : Own II.sh t w base E (.slice A n c) l) : InsM w (fun b => base ≤ b ∧ b < w.heap.size) A n l := by
  obtain ⟨A', c', ess, e, hown, hall⟩ := h
  injection e with e1 e2 e3
  subst e1 e2 e3
  refine ⟨rfl, ess, RdM.of_own hown, hall.1, fun i c x hc hx => ?_⟩
  obtain ⟨rfl, q0, q1, q2, q3, q4, q5⟩ := II.elim (hall.2 i c x hc hx)
  exact II.intro q0 q1 q2 q3 q4 q5
def aimA (o a p : Int) : Int := if o = 27 ∨ o = 38 then a else p
def aimB (o b p : Int) : Int := if o = 27 ∨ o = 38 then p else b
theorem aimV_eq (o a b c d e p : Int) : aimV ⟨o, a, b, c, d, e⟩ p = ⟨o, aimA o a p, aimB o b p, c, d, e⟩ := by
  unfold aimV aimA aimB
  by_cases h : o = 27 ∨ o = 38
  · simp [h]
  · simp [h]
theorem aim_any (o a b c d e p : Int) (w : World) : Calls Try.prog 129 #[.agg #[.int .i64 o, .int .i64 a, .int .i64 b, .int .i64 c, .int .i64 d, .int .i64 e], .int .i64 p] w fun x w' => x = .returned (.agg #[.int .i64 o, .int .i64 (aimA o a p), .int .i64 (aimB o b p), .int .i64 c, .int .i64 d, .int .i64 e]) ∧ Below w.heap.size w w' := by
  go_enter Try.func129, Try.ntmps129
  by_cases h1 : o = 27
  · subst h1
    go_wp2_with fail
    refine bodyPost_ret (v := .agg #[.int .i64 27, .int .i64 a, .int .i64 p, .int .i64 c, .int .i64 d, .int .i64 e]) (by simp [results, Try.results129, go_sem]) rfl ⟨by simp [aimA, aimB], sq (al _) (al _)⟩
  · have b1 : (o == 27) = false := by simpa using h1
    by_cases h2 : o = 38
    · subst h2
      go_wp2_with fail
      refine bodyPost_ret (v := .agg #[.int .i64 38, .int .i64 a, .int .i64 p, .int .i64 c, .int .i64 d, .int .i64 e]) (by simp [results, Try.results129, go_sem]) rfl ⟨by simp [aimA, aimB], sq (al _) (al _)⟩
    · have b2 : (o == 38) = false := by simpa using h2
      go_wp2_with fail
      refine bodyPost_ret (v := .agg #[.int .i64 o, .int .i64 p, .int .i64 b, .int .i64 c, .int .i64 d, .int .i64 e]) (by simp [results, Try.results129, go_sem]) rfl ⟨by simp [aimA, aimB, h1, h2], sq (al _) (al _)⟩
theorem turned_any (o a b c d e p : Int) (w : World) : Calls Try.prog 104 #[.agg #[.int .i64 o, .int .i64 a, .int .i64 b, .int .i64 c, .int .i64 d, .int .i64 e], .int .i64 p] w fun x w' => x = .returned (.agg #[.int .i64 o, .int .i64 (aimA o a p), .int .i64 (aimB o b p), .int .i64 c, .int .i64 d, .int .i64 e]) ∧ Below w.heap.size w w' := by
  go_enter Try.func104, Try.ntmps104
  by_cases h1 : o = 27
  · subst h1
    go_wp2_with fail
    refine bodyPost_ret (v := .agg #[.int .i64 27, .int .i64 a, .int .i64 p, .int .i64 c, .int .i64 d, .int .i64 e]) (by simp [results, Try.results104, go_sem]) rfl ⟨by simp [aimA, aimB], sq (al _) (al _)⟩
  · have b1 : (o == 27) = false := by simpa using h1
    by_cases h2 : o = 38
    · subst h2
      go_wp2_with fail
      refine bodyPost_ret (v := .agg #[.int .i64 38, .int .i64 a, .int .i64 p, .int .i64 c, .int .i64 d, .int .i64 e]) (by simp [results, Try.results104, go_sem]) rfl ⟨by simp [aimA, aimB], sq (al _) (al _)⟩
    · have b2 : (o == 38) = false := by simpa using h2
      go_wp2_with fail
      refine bodyPost_ret (v := .agg #[.int .i64 o, .int .i64 p, .int .i64 b, .int .i64 c, .int .i64 d, .int .i64 e]) (by simp [results, Try.results104, go_sem]) rfl ⟨by simp [aimA, aimB, h1, h2], sq (al _) (al _)⟩
theorem idle_any (o a b c d e : Int) (k : Nat) (w : World) (hk : k ≤ 140737488351232) : Calls Try.prog 98 #[.agg #[.int .i64 o, .int .i64 a, .int .i64 b, .int .i64 c, .int .i64 d, .int .i64 e], .int .i64 (k : Int)] w fun x w' => x = .returned (.bool (idleI ⟨o, a, b, c, d, e⟩ k)) ∧ Below w.heap.size w w' := by
  go_enter Try.func98, Try.ntmps98
  by_cases h1 : o = 6
  · subst h1
    go_wp2_with fail
    all_goals
      go_returns
      exact ⟨by simp_all [idleI], al _⟩
  · have b1 : (o == 6) = false := by simpa using h1
    by_cases h2 : o = 26
    · subst h2
      go_wp2_with fail
      all_goals
        go_returns
        exact ⟨by simp_all [idleI], al _⟩
    · have b2 : (o == 26) = false := by simpa using h2
      go_wp2_with fail
      all_goals
        go_returns
        exact ⟨by simp [idleI, b1, b2], al _⟩
theorem end_any (A : Option Addr) (n c t : Nat) (l : List II) (w : World) (h : InsR w w.heap.size A n l) (hl : InB l) (ht : t < n) (hn : n ≤ 140737488351232) :
    Calls Try.prog 130 #[.slice A n c, .int .i64 (t : Int)] w fun e w' => e = .returned (.int .i64 ((endV l t : Nat) : Int)) ∧ w' = w := by
  have HN := Lib.hid h.1
  have HI := Lib.hid h
  have HL := Lib.hid hl
  clear h hl
  go_enter Try.func130, Try.ntmps130
  go_wp2_with fail
  go_loop [5, 9] (fun at' i => ∃ k p : Nat, k ≤ n ∧ i = .int .i64 (k : Int) ∧ at' = .int .i64 (p : Int) ∧ p < n ∧ Hid (endF l (n - k) p = endF l n t)) (fun _ i => n - (intOf i).toNat)
  case atStart => exact ⟨0, t, Nat.zero_le _, rfl, rfl, ht, Lib.hid rfl⟩
  case round =>
    obtain ⟨k, p, hk, rfl, rfl, hp, HE⟩ := hrel
    by_cases hlt : k < n
    · have hpl : p < l.length := by have := HN.out; omega
      obtain ⟨x, hx⟩ : ∃ x, l[p]? = some x := ⟨_, List.getElem?_eq_getElem hpl⟩
      obtain ⟨b, off, rfl, hb, e0, e1, _, _, _, _⟩ := HI.out.at hx
      have hisj : isJ l p = (x.o == 26) := by unfold isJ; rw [hx]
      have hnx : nxJ l p = x.a.toNat := by unfold nxJ; rw [hx]
      have HEQ := Lib.hid (show endF l (n - k) p = if isJ l p = true then endF l (n - (k + 1)) (nxJ l p) else some p by rw [show n - k = (n - (k + 1)) + 1 by omega, endF])
      by_cases hj : x.o = 26
      · have hj2 : isJ l p = true := by rw [hisj]; simpa using hj
        obtain ⟨_, hx2, _, _, htg, _⟩ := isJ_some hj2
        rw [hx] at hx2
        injection hx2 with hx2
        subst hx2
        have hb2 := HL.out x (List.mem_of_getElem? hx) _ htg
        have HPQ := Lib.hid (show endF l (n - (k + 1)) x.a.toNat = endF l n t by rw [← HE.out, HEQ.out, if_pos hj2, hnx])
        have hb0 : (x.o != 26) = false := by simpa using hj
        have hlen := HN.out
        obtain ⟨xo, xa, xb, xc, xd, xe⟩ := x
        simp only at *
        obtain ⟨q, rfl⟩ : ∃ q : Nat, xa = (q : Int) := ⟨xa.toNat, by omega⟩
        have hq : q < n := by omega
        clear hb2 hx hisj hnx htg hj hlen hj2 hpl
        go_wp2_with fail
        go_round
        case rel => exact ⟨k + 1, q, by omega, by go_num, rfl, hq, by rw [Int.toNat_natCast] at HPQ; exact HPQ⟩
        case measure => simp [intOf]; omega
      · have hj2 : isJ l p = false := by rw [hisj]; simpa using hj
        have HRS := Lib.hid (show endV l t = p by unfold endV; rw [← HN.out, ← HE.out, HEQ.out, hj2]; rfl)
        have hb0 : (x.o != 26) = true := by simpa using hj
        obtain ⟨xo, xa, xb, xc, xd, xe⟩ := x
        simp only at *
        clear hx hisj hnx hj hj2 hpl
        go_wp2_with fail
        go_ret
        exact ⟨by rw [HRS.out]; rfl, rfl⟩
    · obtain rfl : k = n := by omega
      have HRS := Lib.hid (show endV l t = t by unfold endV; rw [← HN.out, ← HE.out, Nat.sub_self]; rfl)
      go_wp2_with fail
      go_ret
      exact ⟨by rw [HRS.out]; rfl, rfl⟩
theorem bnd_flat {w : World} {M : Nat → Prop} {ess : List (List Value)} {l : List II} (a : II.sh.all w M ess l) : ∀ u ∈ ess.flatten, u.oneCell' = true := a.oneCell
theorem insClone_any (A : Option Addr) (n c : Nat) (l : List II) (w : World) (h : InsR w w.heap.size A n l) (hn : n ≤ 1000000) :
    Calls Try.prog 62 #[.slice A n c] w fun e w' => ∃ A' c', e = .returned (.slice A' n c') ∧ Own II.sh 126 w' w.heap.size (· < w.heap.size) (.slice A' n c') l ∧ Below w.heap.size w w' := by
  obtain ⟨i0, hi, hz0, hz1, hz2⟩ := info_parts info_ins
  obtain ⟨hln, ess, hr, ha⟩ := h
  rcases A with _ | ad
  · have h0 : n = 0 := by
      rcases Nat.eq_zero_or_pos n with h0 | h0
      · exact h0
      · obtain ⟨b, off, e, _⟩ := hr.2 h0; cases e
    subst h0
    obtain rfl : l = [] := List.eq_nil_of_length_eq_zero hln.symm
    have heq : ∀ W, (binOp .eql 121 (.slice none 0 c) (.slice none 0 0)).run Try.prog W = .ok (.bool true) W := fun W => run_eql_slice_nil W _ _ _ _ _ Try.underlying121
    clear hr ha hln hn
    go_enter Try.func62, Try.ntmps62
    go_wp2_with fail
    go_ret
    exact ⟨none, 0, rfl, Own.nil, Below.refl _ _⟩
  · have HA := Lib.hid ha
    have HR := Lib.hid hr
    have HLN := Lib.hid hln
    clear ha hr hln
    have heq : ∀ W, (binOp .eql 121 (.slice (some ad) n c) (.slice none 0 0)).run Try.prog W = .ok (.bool false) W := fun W => run_eql_slice_nil W _ _ _ _ _ Try.underlying121
    go_enter Try.func62, Try.ntmps62
    have hown0 : (w.alloc (.cells #[] 126)).ownsRow w.heap.size 126 6 (.slice (some ⟨w.heap.size, 0, none⟩) 0 0) 0 [] := ⟨rfl, .inr ⟨w.heap.size, 0, #[], rfl, Nat.le_refl _, heap_alloc_new w _, Nat.le_refl _, by unfold maxLen; omega, rfl, rfl⟩⟩
    go_wp2_with (at_builtin; refine wpList_append_rd _ rfl _ _ 121 rfl w.heap.size 126 i0 _ 6 48 Try.underlying121 hi hz0 hz1 hz2 rfl (by omega) (.slice (some ⟨w.heap.size, 0, none⟩) 0 0) 0 [] rfl hown0 w.heap.size (some ad) n c ess.flatten rfl ((HR.out.rd (fun _ h => h)).alloc (Nat.le_refl _) _) (bnd_flat HA.out) (by unfold maxLen; omega) (by omega) (by simp) ?_; intro A' c' w' hown hgrow _)
    go_ret
    rw [Nat.zero_add, List.nil_append] at hown
    refine ⟨A', c', rfl, ?_, (al _).grown hgrow (by simp) fun q hq => by injection hq with hq; show w.heap.size ≤ q; rw [← hq]; exact Nat.le_refl _⟩
    rw [HLN.out] at hown ⊢
    refine ⟨A', c', ess, rfl, hown, HA.out.1, fun i c x hc hx => ?_⟩
    obtain ⟨rfl, q0, q1, q2, q3, q4, q5⟩ := II.elim (HA.out.2 i c x hc hx)
    exact II.intro q0 q1 q2 q3 q4 q5
theorem ii_ext {x y : II} (h0 : x.o = y.o) (h1 : x.a = y.a) (h2 : x.b = y.b) (h3 : x.c = y.c) (h4 : x.d = y.d) (h5 : x.e = y.e) : x = y := by
  cases x; cases y; simp only at *; subst h0 h1 h2 h3 h4 h5; rfl
theorem insEqual_any (A A' : Option Addr) (n n' c c' : Nat) (x y : List II) (w : World) (hx : InsR w w.heap.size A n x) (hy : InsR w w.heap.size A' n' y) (hn : n ≤ 1000000) :
    Calls Try.prog 64 #[.slice A n c, .slice A' n' c'] w fun e w' => (∃ b, e = .returned (.bool b) ∧ (b = true ↔ x = y)) ∧ ∃ m, w' = w.drewN m := by
  have HX := Lib.hid hx
  have HY := Lib.hid hy
  have HLX := Lib.hid hx.1
  have HLY := Lib.hid hy.1
  clear hx hy
  go_enter Try.func64, Try.ntmps64
  by_cases hne : n = n'
  · subst hne
    go_wp2_with fail
    go_loopw [13] (fun i wr => ∃ k m : Nat, k ≤ n ∧ i = .int .i64 k ∧ Hid (∀ j, j < k → x[j]? = y[j]?) ∧ wr = w.drewN m) (fun i _ => n - (intOf i).toNat)
    case atStart => exact ⟨0, 0, Nat.zero_le _, rfl, Lib.hid (fun j hj => by omega), rfl⟩
    case round =>
      obtain ⟨k, m, hk, rfl, HT, rfl⟩ := hrel
      by_cases hlt : k < n
      · obtain ⟨p, hp⟩ : ∃ p, x[k]? = some p := ⟨_, List.getElem?_eq_getElem (by have := HLX.out; omega)⟩
        obtain ⟨q, hq⟩ : ∃ q, y[k]? = some q := ⟨_, List.getElem?_eq_getElem (by have := HLY.out; omega)⟩
        obtain ⟨b, off, rfl, hb, e0, e1, e2, e3, e4, e5⟩ := HX.out.at hp
        obtain ⟨b', off', rfl, hb', f0, f1, f2, f3, f4, f5⟩ := HY.out.at hq
        have HP := Lib.hid hp
        have HQ := Lib.hid hq
        obtain ⟨p0, p1, p2, p3, p4, p5⟩ := p
        obtain ⟨q0, q1, q2, q3, q4, q5⟩ := q
        simp only at e0 e1 e2 e3 e4 e5 f0 f1 f2 f3 f4 f5
        clear hp hq
        by_cases he : p0 = q0 ∧ p1 = q1 ∧ p2 = q2 ∧ p3 = q3 ∧ p4 = q4 ∧ p5 = q5
        · have hneq : ∀ W, (binOp .neq 126 (.agg #[.int .i64 p0, .int .i64 p1, .int .i64 p2, .int .i64 p3, .int .i64 p4, .int .i64 p5]) (.agg #[.int .i64 q0, .int .i64 q1, .int .i64 q2, .int .i64 q3, .int .i64 q4, .int .i64 q5])).run Try.prog W = .ok (.bool false) W := fun W => by
            have := ins_neq p0 p1 p2 p3 p4 p5 q0 q1 q2 q3 q4 q5 W
            rw [decide_eq_true he] at this
            exact this
          have HNX := Lib.hid (show ∀ j, j < k + 1 → x[j]? = y[j]? from fun j hj => by
            by_cases hjk : j < k
            · exact HT.out j hjk
            · obtain rfl : j = k := by omega
              rw [HP.out, HQ.out]
              exact congrArg some (ii_ext he.1 he.2.1 he.2.2.1 he.2.2.2.1 he.2.2.2.2.1 he.2.2.2.2.2))
          clear he
          go_wp2_with fail
          go_quiet (fail)
          go_wp2_with fail
          go_roundw
          case rel => exact ⟨k + 1, _, by omega, by go_num, HNX, rfl⟩
          case measure => simp [intOf]; omega
        · have hneq : ∀ W, (binOp .neq 126 (.agg #[.int .i64 p0, .int .i64 p1, .int .i64 p2, .int .i64 p3, .int .i64 p4, .int .i64 p5]) (.agg #[.int .i64 q0, .int .i64 q1, .int .i64 q2, .int .i64 q3, .int .i64 q4, .int .i64 q5])).run Try.prog W = .ok (.bool true) W := fun W => by
            have := ins_neq p0 p1 p2 p3 p4 p5 q0 q1 q2 q3 q4 q5 W
            rw [decide_eq_false he] at this
            exact this
          have HNE := Lib.hid (show ¬ x = y by
            intro h
            have h1 := HP.out
            rw [h, HQ.out] at h1
            injection h1 with h1
            injection h1 with h2 h3 h4 h5 h6 h7
            exact he ⟨h2.symm, h3.symm, h4.symm, h5.symm, h6.symm, h7.symm⟩)
          clear he
          go_wp2_with fail
          go_quiet (fail)
          go_wp2_with fail
          go_ret
          exact ⟨⟨false, rfl, ⟨fun h => (by cases h), fun h => absurd h HNE.out⟩⟩, _, by rw [World.drewN_drewN]⟩
      · have HE := Lib.hid (show x = y from List.ext_getElem? fun j => by
          by_cases hj : j < n
          · exact HT.out j (by omega)
          · rw [List.getElem?_eq_none (by have := HLX.out; omega), List.getElem?_eq_none (by have := HLY.out; omega)])
        go_wp2_with fail
        go_ret
        exact ⟨⟨true, rfl, ⟨fun _ => HE.out, fun _ => rfl⟩⟩, _, rfl⟩
  · have HN := Lib.hid (show ¬ x = y by intro h; have h1 := HLX.out; have h2 := HLY.out; rw [h] at h1; omega)
    go_wp2_with fail
    go_ret
    exact ⟨⟨false, rfl, ⟨fun h => (by cases h), fun h => absurd h HN.out⟩⟩, 0, rfl⟩
end Go.Proofs.Ytapbdfcihheecaa
