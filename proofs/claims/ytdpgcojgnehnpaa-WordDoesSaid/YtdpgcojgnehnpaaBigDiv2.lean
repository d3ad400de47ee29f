/- Numbers of any size: divided, where both fit 64 bits. Conditions: none. -/
import Derived.Test.YtdpgcojgnehnpaaBigRight
import Derived.Test.YtdpgcojgnehnpaaCmpA
import Derived.Deep.RegionHeld3
import Derived.Deep.QuietTactic
import Derived.BigQuiet
set_option maxRecDepth 20000
namespace Go.Proofs.Ytdpgcojgnehnpaa
open Go.ChangeShapes Go.WideShapes Go.ChangeAt Go.RowKit
theorem plain_any (A : Option Addr) (n c N : Nat) (hn : n = (wds N).length) (hN : N < 18446744073709551616) (w : World) (B : Nat) (h : Rd w B 1 A n (u32s (wds N))) :
    Calls Try.prog 173 #[.slice A n c] w fun e w' => e = .returned (.int .u64 (N : Int)) ∧ w' = w := by
  by_cases h0 : N = 0
  · subst h0
    rw [wds_zero] at hn h
    obtain rfl : n = 0 := hn
    clear h
    go_enter Try.func173, Try.ntmps173
    go_wp2_with fail
    go_ret
    exact ⟨rfl, rfl⟩
  · by_cases h1 : N < 4294967296
    · rw [wds_one h1 h0] at hn h
      obtain rfl : n = 1 := hn
      obtain ⟨b, off, rfl, hc⟩ := cell32 h (show 0 < 1 by omega)
      rw [Nat.add_zero] at hc
      have hc' : w.cell? ⟨b, off, none⟩ = some (.int .u32 (N : Int)) := hc
      clear h hc
      go_enter Try.func173, Try.ntmps173
      go_wp2_with fail
      go_ret
      exact ⟨rfl, rfl⟩
    · have e2 : wds N = [N % 4294967296, N / 4294967296] := by
        rw [wds_pos h0, wds_one (by omega) (by omega)]
      rw [e2] at hn h
      obtain rfl : n = 2 := hn
      obtain ⟨b, off, rfl, hc⟩ := cell32 h (show 0 < 2 by omega)
      obtain ⟨b', off', e, hd⟩ := cell32 h (show 1 < 2 by omega)
      injection e with e
      injection e with e e'
      subst e e'
      rw [Nat.add_zero] at hc
      obtain ⟨x, hx⟩ : ∃ x, x = N % 4294967296 := ⟨_, rfl⟩
      obtain ⟨y, hy⟩ : ∃ y, y = N / 4294967296 := ⟨_, rfl⟩
      have hc' : w.cell? ⟨b, off, none⟩ = some (.int .u32 (x : Int)) := by rw [hx]; exact hc
      have hd' : w.cell? ⟨b, off + 1, none⟩ = some (.int .u32 (y : Int)) := by rw [hy]; exact hd
      have hO := or_hi x y (by omega) (by omega)
      rw [show x + 4294967296 * y = N by omega] at hO
      have hxl : x < 4294967296 := by omega
      have hyl : y < 4294967296 := by omega
      clear h hc hd hx hy
      go_enter Try.func173, Try.ntmps173
      go_wp2_with fail
      go_ret
      exact ⟨rfl, rfl⟩
/-- Words that stand in memory that is new. -/
def WOk (Q : Nat) (w : World) (A : Option Addr) (c : Nat) (w' : World) : Prop :=
  Rd w' w'.heap.size 1 A (wds Q).length (u32s (wds Q)) ∧ (wds Q).length ≤ c ∧ (∀ b off, A = some ⟨b, off, none⟩ → w.heap.size ≤ b) ∧ Below w.heap.size w w'
theorem words_n (U : Nat) (hU : U < 18446744073709551616) (w : World) : Calls Try.prog 174 #[.int .u64 (U : Int)] w fun e w' => ∃ A c, e = .returned (.slice A (wds U).length c) ∧ WOk U w A c w' :=
  (words_any U U rfl hU w).mono fun _ _ ⟨A, c, h1, h2, h3, h4, h5⟩ => ⟨A, c, h1, h2, h3, h4, h5⟩
theorem words_z (z : Int) (U : Nat) (hz : z = (U : Int)) (hU : U < 18446744073709551616) (w : World) : Calls Try.prog 174 #[.int .u64 z] w fun e w' => ∃ A c, e = .returned (.slice A (wds U).length c) ∧ WOk U w A c w' := by
  subst hz
  exact words_n U hU w
theorem WOk.below {Q : Nat} {w w' : World} {A : Option Addr} {c : Nat} (h : WOk Q w A c w') : Below w.heap.size w w' := h.2.2.2
theorem WOk.none (w : World) : WOk 0 w none 0 w := ⟨by rw [wds_zero]; exact Rd.nil, by rw [wds_zero]; simp, (fun _ _ e => by cases e), Below.refl _ _⟩
theorem WOk.of_own {Q : Nat} {w w1 : World} {e : TypeId} {A : Option Addr} {n c : Nat} (hn : n = (wds Q).length) (h : w1.ownsRow w.heap.size e 1 (.slice A n c) n (u32s (wds Q))) (hb : Below w.heap.size w w1) : WOk Q w A c w1 := by
  subst hn
  refine ⟨Rd.of_own h, ?_, ?_, hb⟩
  · rcases h.2 with ⟨h1, h2⟩ | ⟨g, cap, cur, h1, _, _, hnc, _⟩
    · omega
    · simp at h1; omega
  · rintro b off rfl
    rcases h.2 with ⟨h1, _⟩ | ⟨g, cap, cur, h1, hg, _⟩
    · simp at h1
    · simp at h1; omega
/-- A quotient and a rest, both in memory that is new. -/
def DPost (Q R : Nat) (w : World) (e : Ending) (w' : World) : Prop :=
  ∃ A c A' c', e = .returned (.tuple #[.slice A (wds Q).length c, .slice A' (wds R).length c']) ∧ WOk Q w A c w' ∧ WOk R w A' c' w'
theorem DPost.two {Q R : Nat} {w w1 w2 : World} {A A' : Option Addr} {c c' : Nat} (h : WOk Q w A c w1) (h' : WOk R w1 A' c' w2) : DPost Q R w (.returned (.tuple #[.slice A (wds Q).length c, .slice A' (wds R).length c'])) w2 := by
  obtain ⟨a1, a2, a3, a4⟩ := h
  obtain ⟨b1, b2, b3, b4⟩ := h'
  exact ⟨A, c, A', c', rfl, ⟨a1.into (Nat.le_refl _) b4, a2, a3, sq a4 b4⟩, ⟨b1, b2, fun b off e => Nat.le_trans a4.size (b3 b off e), sq a4 b4⟩⟩
theorem WOk.undrew {Q : Nat} {w w' : World} {A : Option Addr} {c : Nat} (h : WOk Q w.drew A c w') : WOk Q w A c w' :=
  ⟨h.1, h.2.1, h.2.2.1, sq (Below.refl _ _).drew h.2.2.2⟩
theorem DPost.into {Q R : Nat} {w W w' : World} {e : Ending} (hb : Below w.heap.size w W) (h : DPost Q R W e w') : DPost Q R w e w' := by
  obtain ⟨A, c, A', c', e, ⟨a1, a2, a3, a4⟩, ⟨b1, b2, b3, b4⟩⟩ := h
  exact ⟨A, c, A', c', e, ⟨a1, a2, fun b off e => Nat.le_trans hb.size (a3 b off e), sq hb a4⟩, ⟨b1, b2, fun b off e => Nat.le_trans hb.size (b3 b off e), sq hb b4⟩⟩
theorem below_step {W w1 w2 : World} (h : Below W.heap.size W w1) (hb : Below w1.heap.size w1 w2) : Below W.heap.size W w2 := sq h hb
set_option maxHeartbeats 1000000 in
theorem div2_any (A A2 : Option Addr) (n n2 c c2 N M : Nat) (hn : n = (wds N).length) (hn2 : n2 = (wds M).length) (hN : N < 18446744073709551616) (hM : M < 18446744073709551616) (hM0 : M ≠ 0) (w : World) (h : Rd w w.heap.size 1 A n (u32s (wds N))) (h2 : Rd w w.heap.size 1 A2 n2 (u32s (wds M))) :
    Calls Try.prog 110 #[.slice A n c, .slice A2 n2 c2] w (DPost (N / M) (N % M) w) := by
  have hl : n ≤ 2 := by rw [hn]; exact wds_len (k := 2) (by omega)
  have hl2 : n2 ≤ 2 := by rw [hn2]; exact wds_len (k := 2) (by omega)
  have hm0 : n2 ≠ 0 := by rw [hn2]; exact fun e => hM0 (wds_nil.1 (List.eq_nil_of_length_eq_zero e))
  have g0 : ((n2 : Int) == 0) = false := by simp; omega
  have HN := Lib.hid (And.intro hn hn2)
  have HR := Lib.hid (And.intro h h2)
  clear h h2
  by_cases hlt : N < M
  · have HQ := Lib.hid (And.intro (Nat.div_eq_of_lt hlt) (Nat.mod_eq_of_lt hlt))
    have HC := Lib.hid (cmpN_lt hlt)
    clear hn hn2
    go_enter Try.func110, Try.ntmps110
    go_wp2_with fail
    refine (cmp_any A A2 n n2 c c2 N M HN.out.1 HN.out.2 w _ _ HR.out.1 HR.out.2 (by omega) (by omega)).mono ?_
    rintro e w1 ⟨rfl, m, rfl⟩
    rw [HC.out]
    go_wp2_with fail
    refine (twin_any A n c (wds N) _ (HR.out.1.drewN m) (by omega)).mono ?_
    rintro e w2 ⟨A', c', rfl, hown, hb⟩
    go_wp2_with fail
    go_ret2
    rw [HQ.out.1, HQ.out.2]
    have h5 := WOk.of_own HN.out.1 hown hb
    rw [HN.out.1]
    refine ⟨none, 0, A', c', by rw [wds_zero]; rfl, ?_, h5.1, h5.2.1, fun b off e => Nat.le_trans (by simp) (h5.2.2.1 b off e), sq (dr (Below.refl _ _) m) hb⟩
    exact ⟨by rw [wds_zero]; exact Rd.nil, by rw [wds_zero]; simp, (fun _ _ e => by cases e), sq (dr (Below.refl _ _) m) hb⟩
  · have hc0 : 0 ≤ cmpN N M := by unfold cmpN; rw [if_neg hlt]; split <;> omega
    obtain ⟨Q, hQ⟩ : ∃ Q, Q = N / M := ⟨_, rfl⟩
    obtain ⟨R, hR⟩ : ∃ R, R = N % M := ⟨_, rfl⟩
    have hq : (N : Int) / (M : Int) = (Q : Int) := by rw [hQ]; simp
    have hr : (N : Int) % (M : Int) = (R : Int) := by rw [hR]; simp
    have hQl : Q < 18446744073709551616 := by rw [hQ]; exact Nat.lt_of_le_of_lt (Nat.div_le_self _ _) hN
    have hRl : R < 18446744073709551616 := by rw [hR]; exact Nat.lt_of_le_of_lt (Nat.mod_le _ _) hN
    have hMi : ¬ ((M : Int) = 0) := by omega
    have HQR := Lib.hid (And.intro hQ hR)
    have hrt : (N : Int).tmod (M : Int) = (R : Int) := by rw [← hr]; exact Int.tmod_eq_emod_of_nonneg (by omega)
    have hqw : IntKind.u64.wrap (Q : Int) = (Q : Int) := wrapU _ (by omega) (by omega)
    clear hQ hR hn hn2
    generalize hcc : cmpN N M = C at *
    have HCC := Lib.hid hcc
    clear hcc
    go_enter Try.func110, Try.ntmps110
    go_wp2_with fail
    refine (cmp_any A A2 n n2 c c2 N M HN.out.1 HN.out.2 w _ _ HR.out.1 HR.out.2 (by omega) (by omega)).mono ?_
    rintro e w1 ⟨rfl, m, rfl⟩
    rw [HCC.out]
    go_wp2_with fail
    refine (plain_any A n c N HN.out.1 hN _ _ (HR.out.1.drewN m)).mono ?_
    rintro e w2 ⟨rfl, rfl⟩
    go_wp2_with fail
    refine (plain_any A2 n2 c2 M HN.out.2 hM _ _ (HR.out.2.drewN m)).mono ?_
    rintro e w2 ⟨rfl, rfl⟩
    go_wp2_with fail
    generalize hW : w.drewN m = W at *
    have hWb : Below w.heap.size w W := by rw [← hW]; exact dr (Below.refl _ _) m
    have hId : Below W.heap.size W W.drew := (Below.refl _ _).drew
    go_region_held3 (fun w' => Below W.heap.size W w')
      (first | exact hId | exact sq (by assumption) (WOk.below (by assumption)) | exact Below.drew (by assumption))
      (first
        | (go_at_call 174; refine (words_z _ _ (by first | with_reducible rfl | exact hqw | exact hrt) (by with_reducible assumption) _).mono ?_; rintro e w1 ⟨A3, c3, rfl, hok⟩))
    go_wp2
    go_ret2
    rw [← HQR.out.1, ← HQR.out.2]
    exact DPost.into hWb (DPost.two (WOk.undrew (by assumption)) (by assumption))
end Go.Proofs.Ytdpgcojgnehnpaa
