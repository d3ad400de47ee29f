/- The player's 'event': a call, a return, recover, an exit. Conditions: what holds of all states that are come to. -/
import Derived.Test.YtapofohbngkekaaPnR
import Derived.Test.YtapofohbngkekaaEndsA
set_option maxRecDepth 100000
namespace Go.Proofs.Ytapofohbngkekaa
open Go.ChangeShapes Go.WideShapes Go.ChangeAt Go.RowKit
@[reducible] def evA (v : EV) (A : Option Addr) (len cap : Nat) : Value := .agg #[.int .i64 v.kind, .int .i64 v.n, .int .i64 v.k, .int .i64 v.vn, .string v.s, .slice A len cap]
@[reducible] def evC (v : EV) (A : Option Addr) (len cap : Nat) : Array Value := #[.int .i64 v.kind, .int .i64 v.n, .int .i64 v.k, .int .i64 v.vn, .string v.s, .slice A len cap]
def EvP (base P : Nat) (s : ST) (tl : List TL) (v : EV) (w : World) (e : Ending) (w' : World) : Prop :=
  ((e = .returned (.int .i64 13) ∧ EvR s v none) ∨ (e = .returned (.int .i64 0) ∧ ∃ r l, EvR s v (some (r, l)) ∧ PL base P r (tl ++ l) w')) ∧ Below base w w'
section
variable (base P k : Nat) (s : ST) (tl : List TL) (v : EV) (A : Option Addr) (len cap : Nat) (w : World) (h : PL base P s tl w) (hi : Bd (k + 1) k s) (hlv : Lv s) (hk : k ≤ 50000) (hl : tl.length ≤ 800000)
include h hi hlv hk hl
set_option maxHeartbeats 4000000 in
theorem event_call (h1 : v.kind = 1) : Calls Try.prog 41 #[.pointer (some ⟨P, 0, none⟩), evA v A len cap] w (EvP base P s tl v w) := by
  obtain ⟨fv, pv, tv, ds, hc⟩ := h
  obtain ⟨fs, f, hf, _⟩ := hlv.top
  have HK := Lib.hid h1
  have HBD := Lib.hid hi
  have HF := Lib.hid hf
  have HC := Lib.hid hc
  have HL := Lib.hid hl
  obtain ⟨ek, en, vk, vn, vs⟩ := v
  simp only at h1
  subst h1
  clear hc hi hl hlv hf
  go_enter Try.func41, Try.ntmps41
  go_wp2_with fail
  have HC0 := Lib.hid (HC.out.below (al (.cells #[.int .i64 1, .int .i64 en, .int .i64 vk, .int .i64 vn, .string vs, .slice A len cap] 51)))
  have HB0 := Lib.hid ((Below.refl base w).alloc HC.out.base_le (.cells #[.int .i64 1, .int .i64 en, .int .i64 vk, .int .i64 vn, .string vs, .slice A len cap] 51))
  refine Calls.mono (begin_any base P s tl 0 (-1) _ _ _ _ _ HC0.out (by have := HL.out; omega) HBD.out.fr (Nat.le_trans HBD.out.next (by omega))) ?_
  rintro e w3 ⟨⟨h3, rfl, h3'⟩ | ⟨h3, rfl, fv3, h3'⟩, hb3⟩
  · have H3 := Lib.hid h3'
    have H33 := Lib.hid h3
    have HB3 := Lib.hid (HB0.out.trans hb3)
    clear h3' hb3 h3
    go_wp2_with fail
    go_ret
    refine ⟨.inr ⟨rfl, _, _, .fin HF.out ?_, H3.out⟩, HB3.out⟩
    unfold evV
    rw [if_pos rfl, if_pos H33.out]
  · have HP3 := Lib.hid h3'
    have H33 := Lib.hid h3
    have HB3 := Lib.hid (HB0.out.trans hb3)
    obtain ⟨F, c, es, d, _, _, rfl, _, hFz, _, _, ht⟩ := FrO.top (show FrO w3 base fv3 (s.fr ++ [⟨s.next, 0, -1, 0, []⟩]) _ from h3'.fr)
    have d0 := h3'.boxc.1
    have hfl : s.fr.length ≤ 30 := HBD.out.fr
    have HT := Lib.hid ht
    clear h3' hb3 h3 ht
    go_wp2_with fail
    refine Calls.mono (top_any P F s.fr.length c w3 d0 (by omega)) ?_
    rintro e w4 ⟨rfl, hb4⟩
    have t0 := (HT.out.below hb4 hFz).c0
    have HP4 := Lib.hid (HP3.out.below hb4)
    have HB4 := Lib.hid (HB3.out.trans (hb4.mono HP3.out.base_le))
    clear hb4 HP3 HB3
    go_wp2_with fail
    refine Calls.mono (tell_any base P _ tl (tl3 1 s.next 0) w4 ⟨_, _, _, _, HP4.out⟩ (by have := HL.out; omega) HP4.out.base_le) ?_
    rintro e w5 ⟨rfl, h5, hb5⟩
    have H5 := Lib.hid h5
    have HB5 := Lib.hid (HB4.out.trans hb5)
    clear h5 hb5
    go_wp2_with fail
    go_ret
    refine ⟨.inr ⟨rfl, _, _, .fin HF.out ?_, H5.out⟩, HB5.out⟩
    unfold evV
    rw [if_pos rfl, if_neg H33.out]
set_option maxHeartbeats 4000000 in
theorem event_return (h1 : v.kind = 2) : Calls Try.prog 41 #[.pointer (some ⟨P, 0, none⟩), evA v A len cap] w (EvP base P s tl v w) := by
  obtain ⟨fv, pv, tv, ds, hc⟩ := h
  obtain ⟨fs, f, hf, _⟩ := hlv.top
  have HK := Lib.hid (ev_keeps (e := v) hi hlv hf).2
  have HEV := Lib.hid (show evV s fs f v = .go (stFr s (fs ++ [phF f 1])) [] by unfold evV; rw [if_neg (by omega), if_pos h1])
  have HBD := Lib.hid hi
  have HF := Lib.hid hf
  have HL := Lib.hid hl
  have hfr := hc.fr
  rw [hf] at hfr
  obtain ⟨F, c, es, d, rfl, hel, rfl, hF, hFz, hcl, hcm, ht⟩ := hfr.top
  have HC := Lib.hid hc
  have hfl : fs.length ≤ 29 := by have := hi.fr; rw [hf] at this; simp at this; omega
  obtain ⟨ek, en, vk, vn, vs⟩ := v
  simp only at h1
  subst h1
  clear hc hi hl hlv hf hfr ht
  go_enter Try.func41, Try.ntmps41
  go_wp2_with fail
  have HC0 := Lib.hid (HC.out.below (al (.cells #[.int .i64 2, .int .i64 en, .int .i64 vk, .int .i64 vn, .string vs, .slice A len cap] 51)))
  have HB0 := Lib.hid ((Below.refl base w).alloc HC.out.base_le (.cells #[.int .i64 2, .int .i64 en, .int .i64 vk, .int .i64 vn, .string vs, .slice A len cap] 51))
  refine Calls.mono (top_any P F fs.length c _ HC0.out.boxc.1 (by omega)) ?_
  rintro e w1 ⟨rfl, hb1⟩
  have HC1 := Lib.hid (HC0.out.below hb1)
  have HB1 := Lib.hid (HB0.out.trans (hb1.mono HC0.out.base_le))
  clear hb1 HC HC0 HB0
  obtain ⟨F4, c4, es4, dg4, e5, _, e4, hF4, hFz4, _, _, ht4⟩ := FrO.top (show FrO w1 base _ (fs ++ [f]) _ by rw [← HF.out]; exact HC1.out.fr)
  injection e4 with e4 _ e4'
  injection e4 with e4
  injection e4 with e4
  subst e4 e4'
  have g3 := ht4.c3
  have gz := ht4.z (fs.length * 5 + 3)
  clear ht4 e5
  go_wp2_with fail
  have HC5 := Lib.hid (HC1.out.ph HF.out 1)
  rw [HF.out, setPh_snoc] at HC5
  have HB5 := Lib.hid (HB1.out.setCell (p := ⟨F, fs.length * 5 + 3, none⟩) hF (.int .i64 1))
  obtain ⟨k1, k2, _⟩ := HK.out _ _ HEV.out
  refine Calls.mono (settle_any base P (k + 1) (k + 1) _ tl _ ⟨_, _, _, _, HC5.out⟩ k2 k1 (by omega) (by omega) (by have := HL.out; omega)) ?_
  rintro e w6 ⟨rfl, ⟨r, l, hr, hp⟩, hb6⟩
  have HR := Lib.hid (EvR.go HF.out HEV.out hr)
  have HP := Lib.hid hp
  have HB6 := Lib.hid (HB5.out.trans hb6)
  clear hr hp hb6 k1 k2
  go_wp2_with fail
  go_ret
  exact ⟨.inr ⟨rfl, _, _, HR.out, HP.out⟩, HB6.out⟩
set_option maxHeartbeats 4000000 in
theorem event_recover (h1 : v.kind = 5) : Calls Try.prog 41 #[.pointer (some ⟨P, 0, none⟩), evA v A len cap] w (EvP base P s tl v w) := by
  obtain ⟨fv, pv, tv, ds, hc⟩ := h
  obtain ⟨fs, f, hf, _⟩ := hlv.top
  have HEV := Lib.hid (show evV s fs f v = recS s f by unfold evV; rw [if_neg (by omega), if_neg (by omega), if_neg (by omega), if_neg (by omega), if_pos h1])
  have HBD := Lib.hid hi
  have HF := Lib.hid hf
  have HL := Lib.hid hl
  have HC := Lib.hid hc
  obtain ⟨ek, en, vk, vn, vs⟩ := v
  simp only at h1
  subst h1
  clear hc hi hl hlv hf
  go_enter Try.func41, Try.ntmps41
  go_wp2_with fail
  have HC0 := Lib.hid (HC.out.below (al (.cells #[.int .i64 5, .int .i64 en, .int .i64 vk, .int .i64 vn, .string vs, .slice A len cap] 51)))
  have HB0 := Lib.hid ((Below.refl base w).alloc HC.out.base_le (.cells #[.int .i64 5, .int .i64 en, .int .i64 vk, .int .i64 vn, .string vs, .slice A len cap] 51))
  refine Calls.mono (recover_any base P s tl fs f _ ⟨_, _, _, _, HC0.out⟩ HF.out HBD.out.ok (Nat.le_trans HBD.out.pn (by omega)) HBD.out.fr (by have := HL.out; omega)) ?_
  rintro e w6 ⟨rfl, ⟨r, l, hr, hp⟩, hb6⟩
  have HR := Lib.hid (EvR.fin HF.out (HEV.out.trans hr))
  have HP := Lib.hid hp
  have HB6 := Lib.hid (HB0.out.trans hb6)
  clear hr hp hb6
  go_wp2_with fail
  go_ret
  exact ⟨.inr ⟨rfl, _, _, HR.out, HP.out⟩, HB6.out⟩
set_option maxHeartbeats 4000000 in
theorem event_exit (h1 : v.kind = 6) : Calls Try.prog 41 #[.pointer (some ⟨P, 0, none⟩), evA v A len cap] w (EvP base P s tl v w) := by
  have _ := hk
  obtain ⟨fv, pv, tv, ds, hc⟩ := h
  obtain ⟨fs, f, hf, _⟩ := hlv.top
  have HEV := Lib.hid (show evV s fs f v = .fin (overS s 3 (v.n % 256)) [tl3 7 3 0] by unfold evV; rw [if_neg (by omega), if_neg (by omega), if_neg (by omega), if_neg (by omega), if_neg (by omega), if_pos h1])
  have HBD := Lib.hid hi
  have HF := Lib.hid hf
  have HL := Lib.hid hl
  have HC := Lib.hid hc
  obtain ⟨ek, en, vk, vn, vs⟩ := v
  simp only at h1
  subst h1
  clear hc hi hl hlv hf
  go_enter Try.func41, Try.ntmps41
  go_wp2_with fail
  have HC0 := Lib.hid (HC.out.below (al (.cells #[.int .i64 6, .int .i64 en, .int .i64 vk, .int .i64 vn, .string vs, .slice A len cap] 51)))
  have HB0 := Lib.hid ((Below.refl base w).alloc HC.out.base_le (.cells #[.int .i64 6, .int .i64 en, .int .i64 vk, .int .i64 vn, .string vs, .slice A len cap] 51))
  rw [and255]
  refine Calls.mono (over_any base P s tl 3 (en % 256) _ ⟨_, _, _, _, HC0.out⟩ (by have := HL.out; omega)) ?_
  rintro e w6 ⟨rfl, hp, hb6⟩
  have HP := Lib.hid hp
  have HB6 := Lib.hid (HB0.out.trans hb6)
  clear hp hb6
  go_wp2_with fail
  go_ret
  exact ⟨.inr ⟨rfl, _, _, .fin HF.out HEV.out, HP.out⟩, HB6.out⟩
set_option maxHeartbeats 4000000 in
theorem event_bad (h1 : ¬ v.kind = 1 ∧ ¬ v.kind = 2 ∧ ¬ v.kind = 3 ∧ ¬ v.kind = 4 ∧ ¬ v.kind = 5 ∧ ¬ v.kind = 6) : Calls Try.prog 41 #[.pointer (some ⟨P, 0, none⟩), evA v A len cap] w (EvP base P s tl v w) := by
  have _ := And.intro hi (And.intro hk hl)
  obtain ⟨fv, pv, tv, ds, hc⟩ := h
  obtain ⟨fs, f, hf, _⟩ := hlv.top
  obtain ⟨q1, q2, q3, q4, q5, q6⟩ := h1
  have HEV := Lib.hid (show evV s fs f v = .bad by unfold evV; rw [if_neg q1, if_neg q2, if_neg q3, if_neg q4, if_neg q5, if_neg q6])
  have HF := Lib.hid hf
  have HC := Lib.hid hc
  have b1 : (v.kind == 1) = false := by simpa using q1
  have b2 : (v.kind == 2) = false := by simpa using q2
  have b3 : (v.kind == 3) = false := by simpa using q3
  have b4 : (v.kind == 4) = false := by simpa using q4
  have b5 : (v.kind == 5) = false := by simpa using q5
  have b6 : (v.kind == 6) = false := by simpa using q6
  clear hc hi hl hlv hf q1 q2 q3 q4 q5 q6
  go_enter Try.func41, Try.ntmps41
  go_wp2_with fail
  go_ret
  exact ⟨.inl ⟨rfl, .bad HF.out HEV.out⟩, (Below.refl base w).alloc HC.out.base_le _⟩
end
end Go.Proofs.Ytapofohbngkekaa
