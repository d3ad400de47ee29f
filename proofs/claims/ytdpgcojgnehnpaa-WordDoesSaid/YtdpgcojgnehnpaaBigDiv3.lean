/- Numbers of any size: divided by 2^64, word by word. Conditions: none. -/
import Derived.Test.YtdpgcojgnehnpaaBigKn
import Derived.Laws.CopyOwn
import Derived.Deep.QuietTactic
import Derived.BigQuiet
set_option maxRecDepth 20000
namespace Go.Proofs.Ytdpgcojgnehnpaa
open Go.ChangeShapes Go.WideShapes Go.ChangeAt Go.RowKit
theorem div_lt (A A2 : Option Addr) (n n2 c c2 N M : Nat) (hn : n = (wds N).length) (hn2 : n2 = (wds M).length) (hlt : N < M) (hl : n ≤ 1000000) (hl2 : n2 ≤ 1000000) (w : World) (h : Rd w w.heap.size 1 A n (u32s (wds N))) (h2 : Rd w w.heap.size 1 A2 n2 (u32s (wds M))) :
    Calls Try.prog 110 #[.slice A n c, .slice A2 n2 c2] w (DPost (N / M) (N % M) w) := by
  have hm0 : n2 ≠ 0 := by rw [hn2]; exact fun e => by have := wds_nil.1 (List.eq_nil_of_length_eq_zero e); omega
  have g0 : ((n2 : Int) == 0) = false := by simp; omega
  have HN := Lib.hid (And.intro hn hn2)
  have HR := Lib.hid (And.intro h h2)
  have HQ := Lib.hid (And.intro (Nat.div_eq_of_lt hlt) (Nat.mod_eq_of_lt hlt))
  have HC := Lib.hid (cmpN_lt hlt)
  clear hn hn2 h h2
  go_enter Try.func110, Try.ntmps110
  go_wp2_with fail
  refine (cmp_any A A2 n n2 c c2 N M HN.out.1 HN.out.2 w _ _ HR.out.1 HR.out.2 (by omega) (by omega)).mono ?_
  rintro e w1 ⟨rfl, m, rfl⟩
  rw [HC.out]
  go_wp2_with fail
  refine (twin_any A n c (wds N) _ (HR.out.1.drewN m) (by omega)).mono ?_
  rintro e w2 ⟨A', c', rfl, hown, hb⟩
  go_wp2_with fail
  go_ret2
  rw [HQ.out.1, HQ.out.2]
  have h5 := WOk.of_own HN.out.1 hown hb
  rw [HN.out.1]
  refine ⟨none, 0, A', c', by rw [wds_zero]; rfl, ?_, h5.1, h5.2.1, fun b off e => Nat.le_trans (by simp) (h5.2.2.1 b off e), sq (dr (Below.refl _ _) m) hb⟩
  exact ⟨by rw [wds_zero]; exact Rd.nil, by rw [wds_zero]; simp, (fun _ _ e => by cases e), sq (dr (Below.refl _ _) m) hb⟩
theorem addr_add (b o j : Nat) : (⟨b, o, none⟩ : Addr).add j = ⟨b, o + j, none⟩ := by unfold Addr.add; split <;> simp_all
theorem set_same {l : List Nat} {k x : Nat} (h : l.getD k 0 = x) (hk : k < l.length) : l.set k x = l := by
  rw [List.getD, List.getElem?_eq_getElem hk] at h
  rw [← show l[k] = x from h]
  simp
/-! ### 2^64 -/
def M64 : Nat := 18446744073709551616
theorem wds_M64 : wds M64 = [0, 0, 1] := by
  unfold M64
  rw [wds_pos (by omega), wds_pos (by omega), wds_one (by omega) (by omega)]
theorem wl_M64 : wl M64 = 65 := by
  unfold wl
  rw [wds_M64]
  show (3 - 1) * 32 + bl 1 = 65
  rw [bl_pos (by omega), bl_zero]
theorem wds_M95 : wds (M64 * 2 ^ (32 * 0 + 31)) = [0, 0, 2147483648] := by
  unfold M64
  rw [show 18446744073709551616 * 2 ^ (32 * 0 + 31) = 39614081257132168796771975168 by decide, wds_pos (by omega), wds_pos (by omega), wds_one (by omega) (by omega)]
set_option maxHeartbeats 4000000 in
theorem div64_ge (A A2 : Option Addr) (n n2 c c2 N : Nat) (hn : n = (wds N).length) (hn2 : n2 = (wds M64).length) (hge : M64 ≤ N) (hl : n ≤ 1000) (w : World) (h : Rd w w.heap.size 1 A n (u32s (wds N))) (h2 : Rd w w.heap.size 1 A2 n2 (u32s (wds M64))) :
    Calls Try.prog 110 #[.slice A n c, .slice A2 n2 c2] w (DPost (N / M64) (N % M64) w) := by
  obtain ⟨i0, hi, hz0, hz1, hz3⟩ := info_parts info_u32
  have hn3 : 3 ≤ n := by
    rcases Nat.lt_or_ge n 3 with h3 | h3
    · exfalso
      have := wds_len_lt (a := N) (b := M64) (by rw [wds_M64, ← hn]; exact h3)
      omega
    · exact h3
  obtain rfl : n2 = 3 := by rw [hn2, wds_M64]; rfl
  have hc0 : 0 ≤ cmpN N M64 := by unfold cmpN; rw [if_neg (by omega)]; split <;> omega
  have HN := Lib.hid (And.intro hn hn2)
  have HR := Lib.hid (And.intro h h2)
  have HGE := Lib.hid hge
  clear hn hn2 h h2 hge
  generalize hcc : cmpN N M64 = C at *
  have HCC := Lib.hid hcc
  clear hcc
  go_enter Try.func110, Try.ntmps110
  go_wp2_with fail
  refine (cmp_any A A2 n 3 c c2 N M64 HN.out.1 HN.out.2 w _ _ HR.out.1 HR.out.2 (by omega) (by omega)).mono ?_
  rintro e w1 ⟨rfl, m, rfl⟩
  rw [HCC.out]
  go_wp2_with fail
  refine (length_any A2 3 c2 M64 HN.out.2 _ _ (HR.out.2.drewN m) (by omega)).mono ?_
  rintro e w2 ⟨rfl, rfl⟩
  rw [wl_M64]
  go_wp2_with fail
  refine (left_any A2 3 c2 (wds M64) HN.out.2 (wds_lt _) _ (HR.out.2.drewN m) (by omega) _ 0 31 (by decide) (by decide) (by omega)).mono ?_
  rintro e w2 ⟨Av, cv, rfl, hrv, hlv, hAv, hbv⟩
  rw [wv_wds, wds_M95] at hrv hlv ⊢
  have hBv : Below w.heap.size w w2 := sq (dr (Below.refl _ _) m) hbv
  have HRv := Lib.hid hrv
  clear hbv hrv
  go_wp2_with (at_make; refine wpList_make_full _ rfl _ _ 97 rfl w2.heap.size 190 i0 (.int .u32 0) 1 Try.underlying97 hi hz0 hz1 .i64 .i64 _ _ (n + 2) rfl rfl (by go_num) (by go_num) (by rw [hz3]; omega) (by unfold maxLen; omega) (Nat.le_refl _) ?_; intro w3 hown hgrow)
  rw [made_u32s] at hown
  have hB3 : Below w2.heap.size w2 w3 := (Below.refl _ _).grown hgrow (Nat.le_refl _) (by simp)
  refine (left_any A n c (wds N) HN.out.1 (wds_lt _) _ (((HR.out.1.into (Nat.le_refl _) hBv)).into (Nat.le_refl _) hB3) (by omega) _ 0 31 (by decide) (by decide) (by omega)).mono ?_
  rintro e w4 ⟨Au, cu, rfl, hru, hlu, hAu, hbu⟩
  obtain ⟨U0, hU0⟩ : ∃ U0, U0 = wds (wv (wds N) * 2 ^ (32 * 0 + 31)) := ⟨_, rfl⟩
  rw [← hU0] at hru hlu ⊢
  have hq : U0.length ≤ n + 1 := by
    rw [hU0]
    refine wds_len ?_
    have h1 := wv_lt (wds_lt N)
    rw [← HN.out.1] at h1
    rw [Nat.pow_succ]
    exact Nat.lt_of_le_of_lt (Nat.mul_le_mul_left _ (show 2 ^ (32 * 0 + 31) ≤ 4294967296 by decide)) (Nat.mul_lt_mul_of_pos_right h1 (by omega))
  have hq0 : 0 < U0.length := by
    rw [List.length_pos_iff]
    intro e
    rw [hU0] at e
    have := wds_nil.1 e
    rw [wv_wds] at this
    have := HGE.out
    unfold M64 at this
    omega
  obtain ⟨U, hU⟩ : ∃ U, U = U0 ++ List.replicate (n + 2 - U0.length) 0 := ⟨_, rfl⟩
  have hUl : U.length = n + 2 := by rw [hU]; simp; omega
  have hUd : ∀ d ∈ U, d < 4294967296 := by
    rw [hU]
    intro d hd
    rcases List.mem_append.1 hd with hd | hd
    · rw [hU0] at hd; exact wds_lt _ d hd
    · rw [(List.mem_replicate.1 hd).2]; omega
  have hUv : wv U = N * 2 ^ 31 := by
    rw [hU, wv_app, wv_rep, hU0, wv_wds, wv_wds]; simp
  have hUn : U.getD (n + 1) 0 = 0 := by
    rw [hU, List.getD, List.getElem?_append_right hq, List.getElem?_replicate]
    split <;> rfl
  have HU := Lib.hid (And.intro hUl (And.intro hUd (And.intro hUv hUn)))
  have HU0 := Lib.hid (And.intro hU0 hU)
  have hrow4 : Row w4 w2.heap.size (List.replicate (n + 2) 0) := by
    have := Row.of_own hown
    exact this.below (by have := this.lt; exact this) hbu
  have hB4 : Below w2.heap.size w2 w4 := hB3.trans (hbu.mono hB3.size)
  obtain ⟨bu, ou, rfl, hcu⟩ : ∃ bu ou, Au = some ⟨bu, ou, none⟩ ∧ ∀ j v, (u32s U0)[j]? = some v → w4.cell? ((⟨bu, ou, none⟩ : Addr).add j) = some v := by
    obtain ⟨b, off, e, _, hc⟩ := hru.2 hq0
    exact ⟨b, off, e, fun j v h => by rw [addr_add]; exact hc j v h⟩
  obtain ⟨q, hqq⟩ : ∃ q, q = U0.length := ⟨_, rfl⟩
  rw [← hqq] at hlu hq hq0 ⊢
  have HQ := Lib.hid hqq
  clear hU0 hU hUl hUd hUv hUn hru hqq hown hgrow
  obtain ⟨w5, hcopy, hrow5, hB5⟩ : ∃ w5, (Builtin.copy_ #[97, 97] 3 #[.slice (some ⟨w2.heap.size, 0, none⟩) (n + 2) (n + 2), .slice (some ⟨bu, ou, none⟩) q cu]).run Try.prog w4 = .ok (.int .i64 (q : Int)) w5 ∧ Row w5 w2.heap.size U ∧ Below w2.heap.size w2 w5 := by
    have h5 := run_copy_row (P := Try.prog) w4 97 97 3 190 w2.heap.size 0 (n + 2) (n + 2) ⟨bu, ou, none⟩ q cu (u32s (List.replicate (n + 2) 0)).toArray 190 (u32s U0) Try.underlying97 (by kernel_rfl) hrow4 (by rw [u32s_len, ← HQ.out]; exact (Nat.min_eq_left (by omega)).symm) hcu (by simp [← HQ.out]; omega) (u32s_one _)
    refine ⟨_, h5.trans (by rw [u32s_len, ← HQ.out]; rfl), ?_, below_setRow hB4 (Nat.le_refl _) _⟩
    unfold Row
    rw [setRow_heap w4 _ _ _ _ _ hrow4, HU0.out.2, ← HQ.out]
    simp [u32s]
  have HCP := Lib.hid (And.intro hrow5 hB5)
  clear hrow5 hB5 hcu
  obtain ⟨bv, ov, rfl, hv0⟩ := cell32 HRv.out (show 0 < 3 by omega)
  obtain ⟨bv', ov', e1, hv1⟩ := cell32 HRv.out (show 1 < 3 by omega)
  injection e1 with e1
  injection e1 with e1 e2
  subst e1 e2
  obtain ⟨bv', ov', e1, hv2⟩ := cell32 HRv.out (show 2 < 3 by omega)
  injection e1 with e1
  injection e1 with e1 e2
  subst e1 e2
  have hbvl : bv < w2.heap.size := World.block_lt_of_cell? w2 _ hv0
  have hv0' : w2.cell? ⟨bv, ov, none⟩ = some (.int .u32 0) := hv0
  have hv1' : w2.cell? ⟨bv, ov + 1, none⟩ = some (.int .u32 0) := hv1
  have hv2' : w2.cell? ⟨bv, ov + 2, none⟩ = some (.int .u32 2147483648) := hv2
  have HVC : Hid (∀ wr, Below w2.heap.size w2 wr → wr.cell? ⟨bv, ov, none⟩ = some (.int .u32 0) ∧ wr.cell? ⟨bv, ov + 1, none⟩ = some (.int .u32 0) ∧ wr.cell? ⟨bv, ov + 2, none⟩ = some (.int .u32 2147483648)) :=
    Lib.hid fun wr hb => ⟨(hb.cell (p := ⟨bv, ov, none⟩) hbvl).trans hv0', (hb.cell (p := ⟨bv, ov + 1, none⟩) hbvl).trans hv1', (hb.cell (p := ⟨bv, ov + 2, none⟩) hbvl).trans hv2'⟩
  clear hv0 hv1 hv2 hv0' hv1' hv2' hrow4 hB4 hbu hB3 hAu hlu
  obtain ⟨p, hp1, hp2⟩ : ∃ p, n ≤ p + 1 ∧ p + 1 ≤ n := ⟨n - 1, by omega, by omega⟩
  go_wp2_with (at_make; refine wpList_make_full _ rfl _ _ 97 rfl w5.heap.size 190 i0 (.int .u32 0) 1 Try.underlying97 hi hz0 hz1 .i64 .i64 _ _ p rfl rfl (by go_num) (by go_num) (by rw [hz3]; omega) (by unfold maxLen; omega) (Nat.le_refl _) ?_; intro w6 hown6 hgrow6)
  rw [made_u32s] at hown6
  have hB6 : Below w5.heap.size w5 w6 := (Below.refl _ _).grown hgrow6 (Nat.le_refl _) (by simp)
  have hrowu : Row w6 w2.heap.size U := HCP.out.1.below HCP.out.1.lt hB6
  have hrowq : Row w6 w5.heap.size (List.replicate p 0) := Row.of_own hown6
  have hB26 : Below w2.heap.size w2 w6 := HCP.out.2.trans (hB6.mono HCP.out.2.size)
  have hguq : w2.heap.size < w5.heap.size := HCP.out.1.lt
  obtain ⟨_, c1', c2'⟩ := HVC.out w6 hB26
  have HROWS := Lib.hid (And.intro hrowu (And.intro hrowq hB26))
  clear hrowu hrowq hB26 hown6 hgrow6
  have hs2 : w.heap.size ≤ w2.heap.size := hBv.size
  generalize w2.heap.size = gu at *
  generalize w5.heap.size = gq at *
  clear hcopy HCP hB6 HRv hbvl hAv hq hq0 HQ HU0
  have hKs := Kn.start HU.out.1 hn3 HU.out.2.2.2
  rw [show n - 1 = p by omega] at hKs
  have HKs := Lib.hid hKs
  clear hKs
  go_quiet (fail)
  go_wp2_with fail
  go_loopw [18] (fun j wr => ∃ (J R : Nat) (t : List Nat), j = .int .i64 ((J : Int) - 1) ∧ J ≤ p ∧ Hid (Kn U n J t R) ∧ Row wr gu (U.take (J + 2) ++ R :: List.replicate (p - J) 0) ∧ Row wr gq (List.replicate J 0 ++ t) ∧ Below gu w2 wr) (fun j _ => (intOf j + 1).toNat)
  case atStart => exact ⟨p, 0, [], by go_num, Nat.le_refl _, Lib.hid HKs.out.1, by rw [HKs.out.2]; exact HROWS.out.1, by rw [List.append_nil]; exact HROWS.out.2.1, dr HROWS.out.2.2 _⟩
  case round =>
    obtain ⟨J, R, t, rfl, hJ, HK, hru, hrq, hbel⟩ := hrel
    obtain ⟨wo, rfl⟩ : ∃ wo : World, wo = wr := ⟨_, rfl⟩
    rcases J with _ | j
    · rw [show ((0 : Nat) : Int) - 1 = -1 from rfl]
      rw [List.replicate_zero, List.nil_append] at hrq
      have hfin := HK.out.done HU.out.2.1 HU.out.1 hn3 HU.out.2.2.1
      rw [show n - 1 = p - 0 by omega] at hfin
      have HFin := Lib.hid hfin
      have htl : p = t.length := by have := HK.out.1; omega
      have HTL := Lib.hid htl
      have hul : (U.take (0 + 2) ++ R :: List.replicate (p - 0) 0).length = n + 2 := by simp [HU.out.1]; omega
      have HUL := Lib.hid hul
      have HRU := Lib.hid hru
      have HRQ := Lib.hid hrq
      have HBW := Lib.hid (show Below w.heap.size w wo from hBv.trans (hbel.mono hs2))
      clear hfin htl hul hru hrq
      obtain ⟨T, hT⟩ : ∃ T, T = U.take (0 + 2) ++ R :: List.replicate (p - 0) 0 := ⟨_, rfl⟩
      rw [← hT] at HRU HUL
      have hTv : wv T / 2 ^ (32 * 0 + 31) = N % M64 ∧ ∀ x ∈ T, x < 4294967296 := by rw [hT]; exact HFin.out.2
      have HTV := Lib.hid hTv
      clear hTv hT
      have htd : ∀ x ∈ t, x < 4294967296 := HK.out.2.1
      have HTD := Lib.hid htd
      clear htd
      have hgu8 : gu < wo.heap.size := HRU.out.lt
      have hgq8 : gq < wo.heap.size := HRQ.out.lt
      have hr1 : Rd wo wo.heap.size 1 (some ⟨gq, 0, none⟩) p (u32s t) := Rd.of_own (HRQ.out.own (Nat.zero_le _) HTL.out (by omega))
      have hr2 : Rd wo wo.heap.size 1 (some ⟨gu, 0, none⟩) (n + 2) (u32s T) := Rd.of_own (HRU.out.own (Nat.zero_le _) HUL.out.symm (by omega))
      go_wp2_with fail
      refine (trim_any (some ⟨gq, 0, none⟩) p p t HTL.out HTD.out _ _ hr1 (by omega) (Nat.le_refl _)).mono ?_
      rintro e w7 ⟨rfl, ⟨m7, rfl⟩, hr3⟩
      have H3 := Lib.hid hr3
      clear hr3
      go_wp2_with fail
      refine (trim_any (some ⟨gu, 0, none⟩) (n + 2) (n + 2) T HUL.out.symm HTV.out.2 _ _ (hr2.drewN m7) (by omega) (Nat.le_refl _)).mono ?_
      rintro e w7 ⟨rfl, ⟨m8, rfl⟩, hr4⟩
      rw [World.drewN_drewN] at hr4
      have H4 := Lib.hid hr4
      have hl4 : (wds (wv T)).length ≤ n + 2 := wds_len (by have := wv_lt HTV.out.2; rwa [HUL.out] at this)
      have hl3 : (wds (wv t)).length ≤ p := wds_len (by have := wv_lt HTD.out; rwa [← HTL.out] at this)
      clear hr4
      go_wp2_with fail
      refine (right_any (some ⟨gu, 0, none⟩) _ (n + 2) (wds (wv T)) rfl (wds_lt _) _ H4.out (by omega) 31 0 31 (by decide) (by decide) (by omega)).mono ?_
      rintro e w8 ⟨A8, c8, rfl, hr5, hl5, hA5, hb5⟩
      rw [wv_wds, HTV.out.1] at hr5 hl5 ⊢
      have H5 := Lib.hid hr5
      clear hr5
      go_wp2_with fail
      go_ret2
      have hB8 : Below w.heap.size w (wo.drewN (m7 + m8)) := dr HBW.out _
      have hB9 := sq hB8 hb5
      have hs8 := hB8.size
      have hqv : wv t = N / M64 := HFin.out.1
      have h33 : Rd (wo.drewN (m7 + m8)) (wo.drewN (m7 + m8)).heap.size 1 (some ⟨gq, 0, none⟩) (wds (wv t)).length (u32s (wds (wv t))) := H3.out
      rw [← hqv]
      exact ⟨_, p, A8, c8, rfl, ⟨h33.into (Nat.le_refl _) hb5, hl3, fun b off e => by injection e with e; injection e with e; omega, hB9⟩, ⟨H5.out, hl5, fun b off e => Nat.le_trans hs8 (hA5 b off e), hB9⟩⟩
    · obtain ⟨g, r, f1, f2, f3, f4, HK2⟩ := HK.out.facts HU.out.2.1 HU.out.1 (by omega)
      have hx := getD_lt HU.out.2.1 (j + 2)
      have hy := getD_lt HU.out.2.1 (j + 1)
      have hz := getD_lt HU.out.2.1 j
      obtain ⟨P, lo, hP, hlo, hxl, hPR⟩ := kn_nums f1 f2 hx
      obtain ⟨L0, hL0⟩ : ∃ L0, L0 = U.take (j + 1 + 2) ++ R :: List.replicate (p - (j + 1)) 0 := ⟨_, rfl⟩
      have hLl : L0.length = n + 2 := by rw [hL0]; simp [HU.out.1]; omega
      have hG3 : L0.getD (j + 3) 0 = R := by rw [hL0]; exact kn_get0 (by have := HU.out.1; omega)
      have hG2 : L0.getD (j + 2) 0 = U.getD (j + 2) 0 := by rw [hL0]; exact kn_get (by have := HU.out.1; omega) (by omega)
      have hG1 : L0.getD (j + 1) 0 = U.getD (j + 1) 0 := by rw [hL0]; exact kn_get (by have := HU.out.1; omega) (by omega)
      have hG0 : L0.getD j 0 = U.getD j 0 := by rw [hL0]; exact kn_get (by have := HU.out.1; omega) (by omega)
      have hS : (L0.set (j + 2) r).set (j + 3) 0 = U.take (j + 2) ++ r :: List.replicate (p - j) 0 := by
        rw [hL0, show p - j = (p - (j + 1)) + 1 by omega]
        exact kn_set (by have := HU.out.1; omega)
      rw [← hL0] at hru
      have HG := Lib.hid (And.intro hG3 (And.intro hG2 (And.intro hG1 (And.intro hG0 hLl))))
      have HSS := Lib.hid hS
      have HK3 := Lib.hid HK2
      obtain ⟨H, hH⟩ : ∃ H, H = R * 4294967296 + U.getD (j + 2) 0 := ⟨_, rfl⟩
      have hO1 := or32 R _ (by omega) hx
      rw [← hH] at hO1
      have hO2 := or32 r _ (by omega) hy
      obtain ⟨Z, hZ⟩ : ∃ Z, Z = r * 4294967296 + U.getD (j + 1) 0 := ⟨_, rfl⟩
      rw [← hZ] at hO2
      generalize U.getD (j + 2) 0 = x at *
      generalize U.getD (j + 1) 0 = y at *
      generalize U.getD j 0 = z0 at *
      clear hG3 hG2 hG1 hG0 hLl hS hL0 HK2
      have ej : ((j + 1 : Nat) : Int) - 1 = (j : Int) := by omega
      have k3 : ((j : Int) + 3).toNat = j + 3 := by omega
      have k2 : ((j : Int) + 3 - 1).toNat = j + 2 := by omega
      have k1 : ((j : Int) + 3 - 2).toNat = j + 1 := by omega
      have b3 : (j : Int) + 3 < (n : Int) + 2 := by omega
      have b2 : (j : Int) + 3 - 1 < (n : Int) + 2 := by omega
      have b1 : (j : Int) + 3 - 2 < (n : Int) + 2 := by omega
      have b0 : 0 ≤ (j : Int) + 3 - 1 := by omega
      have b00 : 0 ≤ (j : Int) + 3 - 2 := by omega
      have hwR : IntKind.u64.wrap ((R : Int) * 4294967296) = (R : Int) * 4294967296 := by rw [IntKind.wrap_u64]; omega
      have hwr : IntKind.u64.wrap ((r : Int) * 4294967296) = (r : Int) * 4294967296 := by rw [IntKind.wrap_u64]; omega
      have hHg : (H : Int) / 2147483648 = (g : Int) := by omega
      have hHr : (H : Int) % 2147483648 = (r : Int) := by omega
      have hHt : (H : Int).tmod 2147483648 = (r : Int) := by rw [Int.tmod_eq_emod_of_nonneg (by omega)]; exact hHr
      have hwg : IntKind.u64.wrap (g : Int) = (g : Int) := wrapU _ (by omega) (by omega)
      have hw0 : IntKind.u64.wrap 0 = 0 := by decide
      have hl6 : L0.length ≤ 1000000 := by rw [HG.out.2.2.2.2]; omega
      have cu3 := hru.cell (k := j + 3) (by rw [HG.out.2.2.2.2]; omega) hl6
      have cu2 := hru.cell (k := j + 2) (by rw [HG.out.2.2.2.2]; omega) hl6
      have cu1 := hru.cell (k := j + 1) (by rw [HG.out.2.2.2.2]; omega) hl6
      rw [HG.out.1] at cu3
      rw [HG.out.2.1] at cu2
      rw [HG.out.2.2.1] at cu1
      have HF := Lib.hid (And.intro hH (And.intro hP (And.intro hlo (And.intro hxl (And.intro hPR f1)))))
      have HL6 := Lib.hid hl6
      clear hH hP hlo hxl hPR f1 hZ hl6
      rw [ej]
      go_wp2_with fail
      go_quiet (fail)
      go_wp2_with fail
      go_quiet (fail)
      go_wp2_with fail
      go_loopw [20, 21] (fun g' r' wr => g' = .int .u64 (g : Int) ∧ r' = .int .u64 (r : Int) ∧ ∃ m, wr = wo.drewN m) (fun _ _ _ => 0)
      case atStart => exact ⟨by first | rfl | (simp; omega), by first | rfl | (simp; omega), _, by rw [World.drewN_drewN]⟩
      case round =>
        obtain ⟨rfl, rfl, m9, rfl⟩ := hrel
        clear hO1 hwR cu3 cu2 hHg hHr hHt
        go_wp2_with fail
        clear hwr cu1 k1 b1 b00 b2 b0
        obtain ⟨Q0, hQ0⟩ : ∃ Q0, Q0 = List.replicate (j + 1) 0 ++ t := ⟨_, rfl⟩
        rw [← hQ0] at hrq
        have HQ0 := Lib.hid hQ0
        clear hQ0
        go_loopw [22, 23, 24] (fun c d i wr => ∃ (k c' : Nat) (L : List Nat), i = .int .i64 (k : Int) ∧ k ≤ 3 ∧ d = .int .u64 0 ∧ c = .int .u64 (c' : Int) ∧ ((k < 3 ∧ c' = 0 ∧ L = L0) ∨ (k = 3 ∧ c' = R ∧ L = L0.set (j + 2) r)) ∧ Row wr gu L ∧ Row wr gq Q0 ∧ Below gu w2 wr) (fun _ _ i _ => 3 - (intOf i).toNat)
        case atStart => exact ⟨0, 0, L0, rfl, by omega, rfl, rfl, .inl ⟨by omega, rfl, rfl⟩, hru.drew _, hrq.drew _, dr hbel _⟩
        case round =>
          obtain ⟨k, c', L, rfl, hk, rfl, rfl, hcase, hru2, hrq2, hbel2⟩ := hrel
          clear hru hrq hbel
          have hl6 := HL6.out
          have hgu : gu ≠ gq := by omega
          rcases hcase with ⟨hk3, hc', hL⟩ | ⟨hk3, hc', hL⟩
          · subst hc'
            rw [hL] at hru2
            obtain ⟨v0, v1, v2⟩ := HVC.out wr hbel2
            have fz : ∀ k, wr.frozen? ⟨gu, k, none⟩ = false := fun k => hru2.frozen k hl6
            have k012 : k = 0 ∨ k = 1 ∨ k = 2 := by omega
            clear hL hl6
            rcases k012 with rfl | rfl | rfl
            · rw [show ((0 : Nat) : Int) = 0 from rfl]
              have fz0 := fz j
              have cu0 := hru2.cell (k := j) (by rw [HG.out.2.2.2.2]; omega) HL6.out
              rw [HG.out.2.2.2.1] at cu0
              have hm0 : (z0 : Int) % 4294967296 = (z0 : Int) := by omega
              have hd0 : (z0 : Int) / 9223372036854775808 = 0 := by omega
              have hwz : IntKind.u64.wrap (z0 : Int) = (z0 : Int) := wrapU _ (by omega) (by omega)
              have hj3 : (j : Int) < (n : Int) + 2 := by omega
              have HRow := Lib.hid (hru2.set j z0 HL6.out)
              rw [set_same HG.out.2.2.2.1 (by rw [HG.out.2.2.2.2]; omega)] at HRow
              clear fz hru2 v1 v2
              go_wp2
              go_roundw
              case rel => exact ⟨1, 0, L0, rfl, by omega, rfl, rfl, .inl ⟨by omega, rfl, rfl⟩, HRow.out, hrq2.other _ _ (by simp; omega), hbel2.setCell (Nat.le_refl _) _⟩
              case measure => simp [intOf]
            · rw [show ((1 : Nat) : Int) = 1 from rfl]
              have e1j : ((1 : Int) + (j : Int)).toNat = j + 1 := by omega
              have fz0 := fz (j + 1)
              have cu0 := hru2.cell (k := j + 1) (by rw [HG.out.2.2.2.2]; omega) HL6.out
              rw [HG.out.2.2.1] at cu0
              have hm0 : (y : Int) % 4294967296 = (y : Int) := by omega
              have hd0 : (y : Int) / 9223372036854775808 = 0 := by omega
              have hwz : IntKind.u64.wrap (y : Int) = (y : Int) := wrapU _ (by omega) (by omega)
              have hj3 : 1 + (j : Int) < (n : Int) + 2 := by omega
              have HRow := Lib.hid (hru2.set (j + 1) y HL6.out)
              rw [set_same HG.out.2.2.1 (by rw [HG.out.2.2.2.2]; omega)] at HRow
              clear fz hru2 v0 v2
              go_wp2
              go_roundw
              case rel => exact ⟨2, 0, L0, rfl, by omega, rfl, rfl, .inl ⟨by omega, rfl, rfl⟩, HRow.out, hrq2.other _ _ (by simp; omega), hbel2.setCell (Nat.le_refl _) _⟩
              case measure => simp [intOf]
            · rw [show ((2 : Nat) : Int) = 2 from rfl]
              have e1j : ((2 : Int) + (j : Int)).toNat = j + 2 := by omega
              have fz0 := fz (j + 2)
              have cu0 := hru2.cell (k := j + 2) (by rw [HG.out.2.2.2.2]; omega) HL6.out
              rw [HG.out.2.1] at cu0
              obtain ⟨_, hP, hlo, hxl, hPR, _⟩ := HF.out
              have hPi : (g : Int) * 2147483648 = (P : Int) := by omega
              have hwP : IntKind.u64.wrap (P : Int) = (P : Int) := wrapU _ (by omega) (by omega)
              have hPl : (P : Int) % 4294967296 = (lo : Int) := by omega
              have hPR2 : (P : Int) / 4294967296 = (R : Int) := by omega
              have hxr : (x : Int) - (lo : Int) = (r : Int) := by omega
              have hm0 : (r : Int) % 4294967296 = (r : Int) := by omega
              have hd0 : (r : Int) / 9223372036854775808 = 0 := by omega
              have hwz : IntKind.u64.wrap (r : Int) = (r : Int) := wrapU _ (by omega) (by omega)
              have hj3 : 2 + (j : Int) < (n : Int) + 2 := by omega
              have HRow := Lib.hid (hru2.set (j + 2) r HL6.out)
              clear fz hru2 v0 v1 hP hlo hxl hPR
              go_wp2
              go_roundw
              case rel => exact ⟨3, R, _, rfl, by omega, rfl, rfl, .inr ⟨rfl, rfl, rfl⟩, HRow.out, hrq2.other _ _ (by simp; omega), hbel2.setCell (Nat.le_refl _) _⟩
              case measure => simp [intOf]
          · subst hk3
            subst hc'
            rw [hL] at hru2
            rw [show ((3 : Nat) : Int) = 3 from rfl]
            have hlen : (L0.set (j + 2) r).length = n + 2 := by rw [List.length_set]; exact HG.out.2.2.2.2
            have cu3 := hru2.cell (k := j + 3) (by omega) (by omega)
            rw [getD_set_ne (by omega), HG.out.1] at cu3
            have fz3 := hru2.frozen (j + 3) (by omega)
            have hR0 := hru2.set (j + 3) 0 (by omega)
            rw [HSS.out] at hR0
            have hq6 : Q0.length = p := by
              rw [HQ0.out]
              have := HK.out.1
              simp; omega
            have cq := (hrq2.other ⟨gu, j + 3, none⟩ (.int .u32 0) (by simp; omega)).cell (k := j) (by omega) (by omega)
            have fq := (hrq2.other ⟨gu, j + 3, none⟩ (.int .u32 0) (by simp; omega)).frozen j (by omega)
            have hqs := (hrq2.other ⟨gu, j + 3, none⟩ (.int .u32 0) (by simp; omega)).set j g (by omega)
            rw [HQ0.out, rep_set] at hqs
            have HR0 := Lib.hid (hR0.other ⟨gq, j, none⟩ (.int .u32 (g : Int)) (by simp; omega))
            have HQS := Lib.hid hqs
            have hgm : (g : Int) % 4294967296 = (g : Int) := by omega
            have hjp : (j : Int) < (p : Int) := by omega
            clear hL hlen hR0 hqs hq6
            go_wp2
            go_roundw
            case rel => exact ⟨j, r, g :: t, rfl, by omega, Lib.hid HK3.out, HR0.out, HQS.out, (hbel2.setCell (Nat.le_refl _) _).setCell (by simp; omega) _⟩
            case measure => simp [intOf]
end Go.Proofs.Ytdpgcojgnehnpaa
