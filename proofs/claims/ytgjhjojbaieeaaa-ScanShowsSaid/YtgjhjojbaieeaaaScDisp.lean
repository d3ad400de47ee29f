/- The cutter's 'token': names, numbers, texts, signs. Conditions: none. -/
import Derived.Test.YtgjhjojbaieeaaaScTok
set_option maxRecDepth 20000
namespace Go.Proofs.Ytgjhjojbaieeaaa
open Go.ChangeShapes Go.WideShapes Go.ChangeAt Go.RowKit
theorem hasPfx_q (s pf : ByteArray) (w : World) (q n : Nat) : Calls Try.prog 99 #[.string s, .string pf] (w.drewN (q + n)) fun e w'' => e = .returned (.bool (pfxB s pf)) ∧ ∃ m, w'' = w.drewN (q + m) :=
  (hasPrefix_any s pf _).mono fun _ _ ⟨h1, h2⟩ => ⟨h1, n, h2⟩
theorem hasPfx_is {b : Bool} (s pf : ByteArray) (w : World) (q n : Nat) (h : pfxB s pf = b) : Calls Try.prog 99 #[.string s, .string pf] (w.drewN (q + n)) fun e w'' => e = .returned (.bool b) ∧ ∃ m, w'' = w.drewN (q + m) := by
  subst h
  exact hasPfx_q s pf w q n
theorem rest_of (src : ByteArray) (p : Nat) : (src.extract p src.size).data.toList = src.data.toList.drop p := by
  rw [extract_list]
  show (src.data.toList.take src.size).drop p = _
  rw [List.take_of_length_le (show src.data.toList.length ≤ src.size from Nat.le_refl _)]
theorem pfx_iff (src : ByteArray) (p : Nat) : pfxB (src.extract p src.size) ⟨#[47, 47]⟩ = decide ((src.data.toList.drop p).take 2 = [47, 47]) := by
  have h1 : (src.extract p src.size).extract 0 2 = ⟨((src.data.toList.drop p).take 2).toArray⟩ := by rw [extract_list, rest_of]; simp
  have h2 : (src.extract p src.size).size = (src.data.toList.drop p).length := by rw [← rest_of]; rfl
  unfold pfxB
  rw [show (ByteArray.mk #[47, 47]).size = 2 from rfl, h1, h2]
  by_cases h : (src.data.toList.drop p).take 2 = [47, 47]
  · have h3 : 2 ≤ (src.data.toList.drop p).length := by
      have := congrArg List.length h
      rw [List.length_take] at this
      simp only [List.length_cons, List.length_nil] at this
      omega
    rw [h, decide_eq_true h3]
    simp
  · rw [decide_eq_false h]
    have : (⟨((src.data.toList.drop p).take 2).toArray⟩ : ByteArray) ≠ ⟨#[47, 47]⟩ := fun e => h (by
      have := congrArg (fun b : ByteArray => b.data.toList) e
      simpa using this)
    rw [decide_eq_false this, Bool.and_false]
/-- What is known of the first byte where a token begins. -/
structure Plain (b : UInt8) : Prop where
  n10 : b ≠ 10
  n32 : b ≠ 32
  n9 : b ≠ 9
  n13 : b ≠ 13
theorem nb {b d : UInt8} (h : b ≠ d) (n : Int) (hn : n = (d.toNat : Int)) : ((b.toNat : Int) == n) = false := by subst hn; exact eq_c h
set_option maxHeartbeats 2000000 in
theorem token_name (g : Nat) (src : ByteArray) (p : Nat) (T : List Tk) (w : World) (hcu : CuS w g src p T) (hT : T.length ≤ 2000) (hsz : src.size ≤ 8000) (hp : p < src.size) (hb : Plain src[p]) (hcm : (src.data.toList.drop p).take 2 ≠ [47, 47]) (hL : isL src[p] = true) :
    Calls Try.prog 61 #[.pointer (some ⟨g, 0, none⟩)] w (MP g src p w (nameR src p T)) := by
  have HC := Lib.hid hcu
  obtain ⟨A, C, hcu⟩ := hcu
  have c0 := hcu.c0
  have c1 := hcu.c1
  have hpi : (p : Int) < (src.size : Int) := by omega
  have n10 := nb hb.n10 10 rfl
  have n32 := nb hb.n32 32 rfl
  have n9 := nb hb.n9 9 rfl
  have n13 := nb hb.n13 13 rfl
  have hpf : pfxB (src.extract p src.size) ⟨#[47, 47]⟩ = false := by rw [pfx_iff]; exact decide_eq_false hcm
  have hpi2 : (p : Int) ≤ (src.size : Int) := by omega
  have HPF := Lib.hid hpf
  clear hcu hb hcm hpf
  generalize hcc : src[p] = b at *
  go_enter Try.func61, Try.ntmps61
  go_wp2_with fail
  go_quiet (fail)
  go_wp2_with fail
  go_quiet (exact hasPfx_is _ _ _ _ _ HPF.out)
  go_wp2_with (go_at_call 100; refine (letter_any b _).mono ?_; rintro e w1 ⟨rfl, rfl⟩; rw [hL])
  refine (name_any g src p T _ (HC.out.below (dr (Below.refl _ _) _)) hT hsz hp).mono ?_
  intro e w3 hmp
  rcases hmp.cases with ⟨rfl, x, hx, hc3, hb3⟩ | ⟨cd, hx, rfl, hb3⟩
  · have H3 := Lib.hid (And.intro hc3 hb3)
    clear hc3 hb3 hmp
    go_wp2_with fail
    go_end0
    try rw [hx]
    exact ⟨rfl, H3.out.1, (dr (Below.refl _ _) _ : Below g _ _).trans H3.out.2⟩
  · unfold stopE
    go_wp2_with fail
    try rw [hx]
    exact ⟨rfl, rfl, (dr (Below.refl _ _) _ : Below g _ _).trans hb3⟩
set_option maxHeartbeats 2000000 in
theorem token_number (g : Nat) (src : ByteArray) (p : Nat) (T : List Tk) (w : World) (hcu : CuS w g src p T) (hT : T.length ≤ 2000) (hsz : src.size ≤ 8000) (hp : p < src.size) (hb : Plain src[p]) (hcm : (src.data.toList.drop p).take 2 ≠ [47, 47]) (hL : isL src[p] = false) (hD : isD src[p] = true) :
    Calls Try.prog 61 #[.pointer (some ⟨g, 0, none⟩)] w (MP g src p w (numR src p T)) := by
  have HC := Lib.hid hcu
  obtain ⟨A, C, hcu⟩ := hcu
  have c0 := hcu.c0
  have c1 := hcu.c1
  have hpi : (p : Int) < (src.size : Int) := by omega
  have n10 := nb hb.n10 10 rfl
  have n32 := nb hb.n32 32 rfl
  have n9 := nb hb.n9 9 rfl
  have n13 := nb hb.n13 13 rfl
  have hpf : pfxB (src.extract p src.size) ⟨#[47, 47]⟩ = false := by rw [pfx_iff]; exact decide_eq_false hcm
  have hpi2 : (p : Int) ≤ (src.size : Int) := by omega
  have HPF := Lib.hid hpf
  clear hcu hb hcm hpf
  generalize hcc : src[p] = b at *
  go_enter Try.func61, Try.ntmps61
  go_wp2_with fail
  go_quiet (fail)
  go_wp2_with fail
  go_quiet (exact hasPfx_is _ _ _ _ _ HPF.out)
  go_wp2_with (first | (go_at_call 100; refine (letter_any b _).mono ?_; rintro e w1 ⟨rfl, rfl⟩; rw [hL]) | (go_at_call 102; refine (digit_any b _).mono ?_; rintro e w1 ⟨rfl, rfl⟩; rw [hD]))
  refine (number_any g src p T _ (HC.out.below (dr (Below.refl _ _) _)) hT hsz hp).mono ?_
  intro e w3 hmp
  rcases hmp.cases with ⟨rfl, x, hx, hc3, hb3⟩ | ⟨cd, hx, rfl, hb3⟩
  · have H3 := Lib.hid (And.intro hc3 hb3)
    clear hc3 hb3 hmp
    go_wp2_with fail
    go_end0
    try rw [hx]
    exact ⟨rfl, H3.out.1, (dr (Below.refl _ _) _ : Below g _ _).trans H3.out.2⟩
  · unfold stopE
    go_wp2_with fail
    try rw [hx]
    exact ⟨rfl, rfl, (dr (Below.refl _ _) _ : Below g _ _).trans hb3⟩
set_option maxHeartbeats 2000000 in
theorem token_text (g : Nat) (src : ByteArray) (p : Nat) (T : List Tk) (w : World) (hcu : CuS w g src p T) (hT : T.length ≤ 2000) (hsz : src.size ≤ 8000) (hp : p < src.size) (hb : Plain src[p]) (hcm : (src.data.toList.drop p).take 2 ≠ [47, 47]) (h34 : src[p] = 34) :
    Calls Try.prog 61 #[.pointer (some ⟨g, 0, none⟩)] w (MP g src p w (textR src p T)) := by
  have HC := Lib.hid hcu
  obtain ⟨A, C, hcu⟩ := hcu
  have c0 := hcu.c0
  have c1 := hcu.c1
  have hpi : (p : Int) < (src.size : Int) := by omega
  have n10 := nb hb.n10 10 rfl
  have n32 := nb hb.n32 32 rfl
  have n9 := nb hb.n9 9 rfl
  have n13 := nb hb.n13 13 rfl
  have hpf : pfxB (src.extract p src.size) ⟨#[47, 47]⟩ = false := by rw [pfx_iff]; exact decide_eq_false hcm
  have hpi2 : (p : Int) ≤ (src.size : Int) := by omega
  have hL : isL src[p] = false := by rw [h34]; decide
  have hD : isD src[p] = false := by rw [h34]; decide
  have H34 := Lib.hid h34
  have e34 : ((src[p].toNat : Int) == 34) = true := by rw [h34]; rfl
  clear h34
  have HPF := Lib.hid hpf
  clear hcu hb hcm hpf
  generalize hcc : src[p] = b at *
  go_enter Try.func61, Try.ntmps61
  go_wp2_with fail
  go_quiet (fail)
  go_wp2_with fail
  go_quiet (exact hasPfx_is _ _ _ _ _ HPF.out)
  go_wp2_with (first | (go_at_call 100; refine (letter_any b _).mono ?_; rintro e w1 ⟨rfl, rfl⟩; rw [hL]) | (go_at_call 102; refine (digit_any b _).mono ?_; rintro e w1 ⟨rfl, rfl⟩; rw [hD]))
  refine (text_any g src p T _ (HC.out.below (dr (Below.refl _ _) _)) hT hsz hp (by rw [hcc]; exact H34.out)).mono ?_
  intro e w3 hmp
  rcases hmp.cases with ⟨rfl, x, hx, hc3, hb3⟩ | ⟨cd, hx, rfl, hb3⟩
  · have H3 := Lib.hid (And.intro hc3 hb3)
    clear hc3 hb3 hmp
    go_wp2_with fail
    go_end0
    try rw [hx]
    exact ⟨rfl, H3.out.1, (dr (Below.refl _ _) _ : Below g _ _).trans H3.out.2⟩
  · unfold stopE
    go_wp2_with fail
    try rw [hx]
    exact ⟨rfl, rfl, (dr (Below.refl _ _) _ : Below g _ _).trans hb3⟩
def signR (src : ByteArray) (p : Nat) (T : List Tk) : Except Int (Nat × List Tk) := if signV (src.data.toList.drop p) = [] then .error 2 else putR src p (signV (src.data.toList.drop p)).length T 4
theorem sign_is {S : ByteArray} (s : ByteArray) (w : World) (q n : Nat) (h : (⟨(signV s.data.toList).toArray⟩ : ByteArray) = S) : Calls Try.prog 106 #[.string s] (w.drewN (q + n)) fun e w'' => e = .returned (.string S) ∧ ∃ m, w'' = w.drewN (q + m) := by
  subst h
  exact quiet_of2 (sign_any s _)
theorem signV_facts (L : List UInt8) : signV L = L.take (signV L).length ∧ (signV L).length ≤ L.length ∧ ∀ c ∈ signV L, c ≠ 10 := by
  unfold signV
  split
  · rename_i h
    refine ⟨by rw [List.length_take]; rcases Nat.le_total 2 L.length with h9 | h9; rw [Nat.min_eq_left h9]; rw [Nat.min_eq_right h9, List.take_of_length_le h9, List.take_of_length_le (Nat.le_refl _)], by rw [List.length_take]; omega, ?_⟩
    simp only [sg2, List.mem_cons, List.not_mem_nil, or_false] at h
    rcases h with h | h | h | h | h | h | h | h | h <;> (rw [h]; decide)
  · split
    · rename_i h
      cases L with
      | nil => exact absurd rfl h.2
      | cons c r =>
        refine ⟨by simp, by simp, ?_⟩
        intro d hd
        simp at hd
        subst hd
        rintro rfl
        exact absurd (show sg1.contains 10 = true from h.1) (by decide)
    · simp
set_option maxHeartbeats 2000000 in
theorem token_semi (g : Nat) (src : ByteArray) (p : Nat) (T : List Tk) (w : World) (hcu : CuS w g src p T) (hT : T.length ≤ 2000) (hsz : src.size ≤ 8000) (hp : p < src.size) (hb : Plain src[p]) (hcm : (src.data.toList.drop p).take 2 ≠ [47, 47]) (h59 : src[p] = 59) :
    Calls Try.prog 61 #[.pointer (some ⟨g, 0, none⟩)] w (MP g src p w (putR src p 1 T 6)) := by
  have HC := Lib.hid hcu
  obtain ⟨A, C, hcu⟩ := hcu
  have c0 := hcu.c0
  have c1 := hcu.c1
  have hpi : (p : Int) < (src.size : Int) := by omega
  have n10 := nb hb.n10 10 rfl
  have n32 := nb hb.n32 32 rfl
  have n9 := nb hb.n9 9 rfl
  have n13 := nb hb.n13 13 rfl
  have hpf : pfxB (src.extract p src.size) ⟨#[47, 47]⟩ = false := by rw [pfx_iff]; exact decide_eq_false hcm
  have hpi2 : (p : Int) ≤ (src.size : Int) := by omega
  have e34 : ((src[p].toNat : Int) == 34) = false := by rw [h59]; rfl
  have hL : isL src[p] = false := by rw [h59]; decide
  have hD : isD src[p] = false := by rw [h59]; decide
  have HS := Lib.hid (show (⟨#[59]⟩ : ByteArray) = ⟨((src.data.toList.drop p).take 1).toArray⟩ by rw [byl_drop src p hp, h59]; rfl)
  have HPl := Lib.hid (place_one hp (by rw [h59]; decide))
  have e59 : ((src[p].toNat : Int) == 59) = true := by rw [h59]; rfl
  clear h59
  have HPF := Lib.hid hpf
  clear hcu hb hcm hpf
  generalize hcc : src[p] = b at *
  go_enter Try.func61, Try.ntmps61
  go_wp2_with fail
  go_quiet (fail)
  go_wp2_with fail
  go_quiet (exact hasPfx_is _ _ _ _ _ HPF.out)
  go_wp2_with (first | (go_at_call 100; refine (letter_any b _).mono ?_; rintro e w1 ⟨rfl, rfl⟩; rw [hL]) | (go_at_call 102; refine (digit_any b _).mono ?_; rintro e w1 ⟨rfl, rfl⟩; rw [hD]))
  refine (putS g src p 1 6 ((src.data.toList.drop p).take 1) ⟨#[59]⟩ 1 T _ HS.out rfl (HC.out.below (dr (Below.refl _ _) _)) hT hsz (by omega) (by omega) HPl.out).mono ?_
  intro e w3 hmp
  rcases hmp.cases with ⟨rfl, x, hx, hc3, hb3⟩ | ⟨cd, hx, rfl, hb3⟩
  · have H3 := Lib.hid (And.intro hc3 hb3)
    clear hc3 hb3 hmp
    go_wp2_with fail
    go_end0
    unfold putR
    rw [hx]
    exact ⟨rfl, H3.out.1, (dr (Below.refl _ _) _ : Below g _ _).trans H3.out.2⟩
  · unfold stopE
    go_wp2_with fail
    unfold putR
    rw [hx]
    exact ⟨rfl, rfl, (dr (Below.refl _ _) _ : Below g _ _).trans hb3⟩
set_option maxHeartbeats 2000000 in
theorem token_sign (g : Nat) (src : ByteArray) (p : Nat) (T : List Tk) (w : World) (hcu : CuS w g src p T) (hT : T.length ≤ 2000) (hsz : src.size ≤ 8000) (hp : p < src.size) (hb : Plain src[p]) (hcm : (src.data.toList.drop p).take 2 ≠ [47, 47]) (hL : isL src[p] = false) (hD : isD src[p] = false) (h34 : src[p] ≠ 34) (h59 : src[p] ≠ 59) :
    Calls Try.prog 61 #[.pointer (some ⟨g, 0, none⟩)] w (MP g src p w (signR src p T)) := by
  have HC := Lib.hid hcu
  obtain ⟨A, C, hcu⟩ := hcu
  have c0 := hcu.c0
  have c1 := hcu.c1
  have hpi : (p : Int) < (src.size : Int) := by omega
  have n10 := nb hb.n10 10 rfl
  have n32 := nb hb.n32 32 rfl
  have n9 := nb hb.n9 9 rfl
  have n13 := nb hb.n13 13 rfl
  have hpf : pfxB (src.extract p src.size) ⟨#[47, 47]⟩ = false := by rw [pfx_iff]; exact decide_eq_false hcm
  have hpi2 : (p : Int) ≤ (src.size : Int) := by omega
  have e34 := nb h34 34 rfl
  have e59 := nb h59 59 rfl
  have c2 := hcu.c2
  have c3 := hcu.c3
  have HSV := Lib.hid (signV_facts (src.data.toList.drop p))
  have hst : (⟨(signV (src.extract p src.size).data.toList).toArray⟩ : ByteArray) = ⟨(signV (src.data.toList.drop p)).toArray⟩ := by rw [rest_of]
  have HST := Lib.hid hst
  clear h34 h59 hst
  have HPF := Lib.hid hpf
  clear hcu hb hcm hpf
  generalize hcc : src[p] = b at *
  go_enter Try.func61, Try.ntmps61
  go_wp2_with fail
  go_quiet (fail)
  go_wp2_with fail
  go_quiet (exact hasPfx_is _ _ _ _ _ HPF.out)
  go_wp2_with (first | (go_at_call 100; refine (letter_any b _).mono ?_; rintro e w1 ⟨rfl, rfl⟩; rw [hL]) | (go_at_call 102; refine (digit_any b _).mono ?_; rintro e w1 ⟨rfl, rfl⟩; rw [hD]))
  go_quiet (exact sign_is _ _ _ _ HST.out)
  by_cases h0 : signV (src.data.toList.drop p) = []
  · have HR := Lib.hid (show signR src p T = .error 2 by unfold signR; rw [if_pos h0])
    rw [h0]
    go_wp2_with fail
    refine (fail_any g _ _ 2 _ (by exact c2) (by exact c3)).mono ?_
    rintro e w3 ⟨rfl, m, rfl⟩
    unfold stopE
    go_wp2_with fail
    rw [HR.out]
    exact ⟨rfl, rfl, dr (Below.refl _ _) _⟩
  · have HR := Lib.hid (show signR src p T = putR src p (signV (src.data.toList.drop p)).length T 4 by unfold signR; rw [if_neg h0])
    obtain ⟨f1, f2, f3⟩ := HSV.out
    have HS := Lib.hid (show (⟨(signV (src.data.toList.drop p)).toArray⟩ : ByteArray) = ⟨((src.data.toList.drop p).take (signV (src.data.toList.drop p)).length).toArray⟩ by rw [← f1])
    have HPl := Lib.hid (place_step (L := src.data.toList) (p := p) f2 (by rw [← f1]; exact f3))
    have hln : (signV (src.data.toList.drop p)).length ≤ 8000 := by rw [drop_len] at f2; omega
    obtain ⟨X, hX⟩ : ∃ X : ByteArray, (⟨(signV (src.data.toList.drop p)).toArray⟩ : ByteArray) = X := ⟨_, rfl⟩
    have hXs : X.size = (signV (src.data.toList.drop p)).length := by rw [← hX]; rfl
    have hX0 : (X.toList == []) = false := by rw [← hX, toList_mk]; exact beq_eq_false_iff_ne.2 h0
    rw [hX] at HS ⊢
    clear f1 f2 f3 h0 hX
    generalize (signV (src.data.toList.drop p)).length = n at *
    go_wp2_with fail
    refine (putS g src p n 4 ((src.data.toList.drop p).take n) X _ T _ HS.out rfl (HC.out.below (dr (Below.refl _ _) _)) hT hsz (by omega) hln HPl.out).mono ?_
    intro e w3 hmp
    rcases hmp.cases with ⟨rfl, x, hx, hc3, hb3⟩ | ⟨cd, hx, rfl, hb3⟩
    · have H3 := Lib.hid (And.intro hc3 hb3)
      clear hc3 hb3 hmp
      go_wp2_with fail
      go_end0
      rw [HR.out]
      unfold putR
      rw [hx]
      exact ⟨rfl, H3.out.1, (dr (Below.refl _ _) _ : Below g _ _).trans H3.out.2⟩
    · unfold stopE
      go_wp2_with fail
      rw [HR.out]
      unfold putR
      rw [hx]
      exact ⟨rfl, rfl, (dr (Below.refl _ _) _ : Below g _ _).trans hb3⟩
theorem llen_place {L : List UInt8} {p i : Nat} (hi : i ≤ llen (L.drop p)) : place (L.take (p + i)) = ((place (L.take p)).1, (place (L.take p)).2 + i) := by
  have h1 := tw_len (fun c => !decide (c = 10)) (L.drop p)
  refine place_step (Nat.le_trans hi h1) fun c hc => ?_
  have h2 : c ∈ (L.drop p).take (llen (L.drop p)) := by
    have := List.take_subset_take_left (L.drop p) hi
    exact this hc
  unfold llen at h2
  rw [tw_take] at h2
  have := tw_all c h2
  simpa using this
set_option maxHeartbeats 2000000 in
theorem token_remark (g : Nat) (src : ByteArray) (p : Nat) (T : List Tk) (w : World) (hcu : CuS w g src p T) (hsz : src.size ≤ 8000) (hp : p < src.size) (hb : Plain src[p]) (hcm : (src.data.toList.drop p).take 2 = [47, 47]) :
    Calls Try.prog 61 #[.pointer (some ⟨g, 0, none⟩)] w (MP g src p w (.ok (p + llen (src.data.toList.drop p), T))) := by
  obtain ⟨A, C, hcu⟩ := hcu
  have c0 := hcu.c0
  have c1 := hcu.c1
  have hpb := pl_bound src p hsz
  have hpi : (p : Int) < (src.size : Int) := by omega
  have n10 := nb hb.n10 10 rfl
  have n32 := nb hb.n32 32 rfl
  have n9 := nb hb.n9 9 rfl
  have n13 := nb hb.n13 13 rfl
  have hpf : pfxB (src.extract p src.size) ⟨#[47, 47]⟩ = true := by rw [pfx_iff]; exact decide_eq_true hcm
  have hpi2 : (p : Int) ≤ (src.size : Int) := by omega
  have HPF := Lib.hid hpf
  have HCu := Lib.hid hcu
  clear hcu hb hcm hpf
  generalize hcc : src[p] = b at *
  generalize hpl : place (src.data.toList.take p) = pl at *
  have HPl := Lib.hid hpl
  clear hpl
  go_enter Try.func61, Try.ntmps61
  go_wp2_with fail
  go_quiet (fail)
  go_wp2_with fail
  go_quiet (exact hasPfx_is _ _ _ _ _ HPF.out)
  go_wp2_with fail
  go_loopg [] (src.size - p) (fun k wr => ∃ i : Nat, k + (p + i) = src.size ∧ Hid (i ≤ llen (src.data.toList.drop p)) ∧ Cu wr g src ((p : Int) + (i : Int)) pl.1 ((pl.2 : Int) + (i : Int)) (.slice A T.length C) T ∧ Below g w wr)
  case atStart => exact ⟨0, by omega, Lib.hid (Nat.zero_le _), by simpa using HCu.out.drewN _, by rw [World.drewN_drewN]; exact dr (Below.refl _ _) _⟩
  case round =>
    obtain ⟨i, hk, HI, hc, hbel⟩ := hrel
    obtain ⟨j, hj⟩ : ∃ j, j = p + i := ⟨_, rfl⟩
    have hji : (p : Int) + (i : Int) = (j : Int) := by omega
    rw [hji] at hc
    have d0 := hc.c0
    have d1 := hc.c1
    have d3 := hc.c3
    have f1 := hc.fz 1
    have f3 := hc.fz 3
    have HJ := Lib.hid hj
    have HH := Lib.hid (And.intro hc hbel)
    have hjs : j ≤ src.size := by omega
    have HK := Lib.hid hk
    have hil : i ≤ 8000 := by omega
    clear hc hbel hj hji c0 c1 hk
    by_cases hlt : j < src.size
    · have HG := Lib.hid (src_get src p i j HJ.out hlt)
      generalize hcj : src[j] = c at *
      by_cases h10 : c = 10
      · have HE := Lib.hid (show llen (src.data.toList.drop p) = i from Nat.le_antisymm (tw_stop HG.out (by simp [h10])) HI.out)
        have e10 : ((c.toNat : Int) != 10) = false := by rw [h10]; rfl
        have hji : (j : Int) < (src.size : Int) := by omega
        go_wp2_with fail
        go_quiet (fail)
        go_wp2_with fail
        go_end0
        refine ⟨rfl, ⟨A, C, ?_⟩, dr HH.out.2 _⟩
        show Cu _ g src ((p + llen (src.data.toList.drop p) : Nat) : Int) _ _ _ _
        rw [HE.out, llen_place HI.out, HPl.out, ← HJ.out]
        exact HH.out.1.drewN _
      · have HI2 := Lib.hid (tw_step (P := fun c => !decide (c = 10)) HI.out HG.out (by simp [h10]))
        have e10 : ((c.toNat : Int) != 10) = true := neq_c (d := 10) h10
        have hji : (j : Int) < (src.size : Int) := by omega
        go_wp2_with fail
        go_quiet (fail)
        go_wp2_with fail
        go_roundg (gk - 1)
        case measure => have := HK.out; have := HJ.out; omega
        case rel =>
          refine ⟨i + 1, by have := HK.out; have := HJ.out; omega, HI2, ?_, ((dr HH.out.2 _).setCell (Nat.le_refl _) _).setCell (Nat.le_refl _) _⟩
          have h5 := ((HH.out.1.drewN nq).set1 ((j : Int) + 1)).set3 ((pl.2 : Int) + (i : Int) + 1)
          rw [show (p : Int) + ((i + 1 : Nat) : Int) = (j : Int) + 1 by have := HJ.out; omega, show (pl.2 : Int) + ((i + 1 : Nat) : Int) = (pl.2 : Int) + (i : Int) + 1 by omega]
          exact h5
    · have HE := Lib.hid (show llen (src.data.toList.drop p) = i from Nat.le_antisymm (by have h := tw_len (fun c => !decide (c = 10)) (src.data.toList.drop p); rw [drop_len] at h; unfold llen; have := HJ.out; omega) HI.out)
      have hji : ¬ (j : Int) < (src.size : Int) := by omega
      go_wp2_with fail
      go_quiet (fail)
      go_wp2_with fail
      go_end0
      refine ⟨rfl, ⟨A, C, ?_⟩, dr HH.out.2 _⟩
      show Cu _ g src ((p + llen (src.data.toList.drop p) : Nat) : Int) _ _ _ _
      rw [HE.out, llen_place HI.out, HPl.out, ← HJ.out]
      exact HH.out.1.drewN _
end Go.Proofs.Ytgjhjojbaieeaaa
