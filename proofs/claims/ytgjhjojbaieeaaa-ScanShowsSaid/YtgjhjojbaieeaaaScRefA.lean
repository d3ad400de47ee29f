/- The document's 'closes' and 'placeOf', 'spotAt'. Conditions: none. -/
import Derived.Test.YtgjhjojbaieeaaaScA
import Derived.Deep.QuietTactic
import Derived.BigQuiet
import Derived.Test.YtgjhjojbaieeaaaScLine
set_option maxRecDepth 20000
namespace Go.Proofs.Ytgjhjojbaieeaaa
open Go.ChangeShapes Go.WideShapes Go.ChangeAt Go.RowKit
def clW : List (List UInt8) := [[41], [93], [125], [98, 114, 101, 97, 107], [99, 111, 110, 116, 105, 110, 117, 101], [114, 101, 116, 117, 114, 110], [116, 114, 117, 101], [102, 97, 108, 115, 101], [110, 105, 108], [105, 110, 116], [98, 111, 111, 108], [115, 116, 114, 105, 110, 103], [97, 110, 121]]
theorem clW_cut : cutG 32 (ByteArray.mk #[41, 32, 93, 32, 125, 32, 98, 114, 101, 97, 107, 32, 99, 111, 110, 116, 105, 110, 117, 101, 32, 114, 101, 116, 117, 114, 110, 32, 116, 114, 117, 101, 32, 102, 97, 108, 115, 101, 32, 110, 105, 108, 32, 105, 110, 116, 32, 98, 111, 111, 108, 32, 115, 116, 114, 105, 110, 103, 32, 97, 110, 121]).data.toList [] = clW := by decide +kernel
theorem cutAt_cl (w : World) : Calls Try.prog 109 #[.string ⟨#[41, 32, 93, 32, 125, 32, 98, 114, 101, 97, 107, 32, 99, 111, 110, 116, 105, 110, 117, 101, 32, 114, 101, 116, 117, 114, 110, 32, 116, 114, 117, 101, 32, 102, 97, 108, 115, 101, 32, 110, 105, 108, 32, 105, 110, 116, 32, 98, 111, 111, 108, 32, 115, 116, 114, 105, 110, 103, 32, 97, 110, 121]⟩, .int .u8 32] w fun e w' => ∃ g c, e = .returned (.slice (some ⟨g, 0, none⟩) 13 c) ∧ Rd w' w'.heap.size 1 (some ⟨g, 0, none⟩) 13 (strs clW) ∧ Below w.heap.size w w' := by
  have h := cutAt_any ⟨#[41, 32, 93, 32, 125, 32, 98, 114, 101, 97, 107, 32, 99, 111, 110, 116, 105, 110, 117, 101, 32, 114, 101, 116, 117, 114, 110, 32, 116, 114, 117, 101, 32, 102, 97, 108, 115, 101, 32, 110, 105, 108, 32, 105, 110, 116, 32, 98, 111, 111, 108, 32, 115, 116, 114, 105, 110, 103, 32, 97, 110, 121]⟩ 32 32 rfl (by decide +kernel) w
  rw [clW_cut] at h
  refine h.mono ?_
  rintro e w' ⟨A, c, rfl, hown, hb⟩
  obtain ⟨g, cap, hv, _⟩ := hown.form (by decide)
  injection hv with hA _ hc
  subst hA hc
  exact ⟨g, _, rfl, Rd.of_own hown, hb⟩
def clB (l : List UInt8) : Bool := clW.any fun x => l == x
theorem clW_len : clW.length = 13 := rfl
set_option maxHeartbeats 800000 in
theorem closes_word (k l c : Int) (hk : k = 4 ∨ k = 5) (s : ByteArray) (w : World) : Calls Try.prog 65 #[.agg #[.int .i64 k, .string s, .int .i64 l, .int .i64 c]] w fun e w' => e = .returned (.bool (clB s.toList)) ∧ Below w.heap.size w w' := by
  rcases hk with rfl | rfl
  all_goals
    go_enter Try.func65, Try.ntmps65
    go_wp2_with fail
    refine (cutAt_cl _).mono ?_
    rintro e w1 ⟨g, cc, rfl, hr, hb⟩
    have hb' := hb
    generalize hw2 : World.alloc w _ = w2 at hb'
    have hcs : w2.cell? ⟨w.heap.size, 1, none⟩ = some (.string s) := by subst hw2; simp [go_sem]
    have hlt2 : w.heap.size < w2.heap.size := by subst hw2; simp
    have hcell : w1.cell? ⟨w.heap.size, 1, none⟩ = some (.string s) := (hb'.cell (p := ⟨w.heap.size, 1, none⟩) hlt2).trans hcs
    have hbw : Below w.heap.size w w1 := by subst hw2; exact sq (al _) hb
    clear hcs hlt2 hb' hb hw2 w2
    generalize hgg : w.heap.size = gg at *
    go_wp2_with fail
    go_loop [28] (fun i => ∃ k : Nat, k ≤ 13 ∧ i = .int .i64 k ∧ Hid ((clW.take k).any (fun x => s.toList == x) = false)) (fun i => 13 - (intOf i).toNat)
    case atStart => exact ⟨0, by omega, rfl, rfl⟩
    case round =>
      obtain ⟨k, hk, rfl, hn⟩ := hrel
      by_cases hlt : k < 13
      · have hw : k < clW.length := by rw [clW_len]; exact hlt
        obtain ⟨b, off, u, hA, _, hu, hc⟩ := hr.at1 hlt
        have hu' := strs_get hw hu
        injection hA with hA
        injection hA with hA1 hA2
        subst hA1 hA2 hu'
        clear hu
        rw [Nat.zero_add] at hc
        by_cases ht : (s.toList == clW[k]) = true
        · have HT : (clW[k] == s.toList) = true := by rw [beq_iff_eq]; exact (beq_iff_eq.1 ht).symm
          have HY := Lib.hid (any_yes clW hw ht)
          clear ht
          go_wp2
          go_ret
          exact ⟨by unfold clB; rw [HY.out]; rfl, hbw⟩
        · have ht' : (s.toList == clW[k]) = false := by simpa using ht
          have HT : (clW[k] == s.toList) = false := by
            rw [beq_eq_false_iff_ne] at ht' ⊢; exact fun e => ht' e.symm
          have HY := Lib.hid (any_take clW hw hn.out ht')
          clear ht ht'
          go_wp2
          go_round
          case rel => exact ⟨k + 1, by omega, by go_num, HY⟩
          case measure => simp [intOf]; omega
      · go_wp2
        go_ret
        have e : k = 13 := by omega
        subst e
        exact ⟨by unfold clB; rw [← hn.out]; rfl, hbw⟩
theorem closes_plain (k l c : Int) (hk : ¬ (k = 4 ∨ k = 5)) (s : ByteArray) (w : World) : Calls Try.prog 65 #[.agg #[.int .i64 k, .string s, .int .i64 l, .int .i64 c]] w fun e w' => e = .returned (.bool (decide (k = 1) || decide (k = 2) || decide (k = 3))) ∧ Below w.heap.size w w' := by
  by_cases h1 : k = 1 ∨ k = 2 ∨ k = 3
  · rcases h1 with rfl | rfl | rfl
    all_goals
      go_enter Try.func65, Try.ntmps65
      go_wp2_with fail
      go_ret
      exact ⟨rfl, al _⟩
  · have g1 : (k == 1) = false := by simp; omega
    have g2 : (k == 2) = false := by simp; omega
    have g3 : (k == 3) = false := by simp; omega
    have g4 : (k != 4) = true := by simp; omega
    have g5 : (k != 5) = true := by simp; omega
    have HE := Lib.hid (show (decide (k = 1) || decide (k = 2) || decide (k = 3)) = false by simp; omega)
    clear h1 hk
    go_enter Try.func65, Try.ntmps65
    go_wp2_with fail
    go_ret
    exact ⟨by rw [HE.out]; rfl, al _⟩
set_option maxHeartbeats 800000 in
theorem placeOf_any (src : ByteArray) (at_ : Nat) (ha : at_ ≤ src.size) (hs : src.size ≤ 8000) (w : World) : Calls Try.prog 64 #[.string src, .int .i64 (at_ : Int)] w fun e w' => e = .returned (.tuple #[.int .i64 ((place (src.data.toList.take at_)).1 : Int), .int .i64 ((place (src.data.toList.take at_)).2 : Int)]) ∧ w' = w := by
  go_enter Try.func64, Try.ntmps64
  go_wp2_with fail
  go_loop [6, 7, 8] (fun a b i => ∃ k : Nat, k ≤ at_ ∧ i = .int .i64 k ∧ a = .int .i64 ((place (src.data.toList.take k)).1 : Int) ∧ b = .int .i64 ((place (src.data.toList.take k)).2 : Int)) (fun _ _ i => at_ - (intOf i).toNat)
  case atStart => exact ⟨0, by omega, rfl, rfl, rfl⟩
  case round =>
    obtain ⟨k, hk, rfl, rfl, rfl⟩ := hrel
    by_cases hlt : k < at_
    · have hl : k < src.size := by omega
      have hkl : k < src.data.toList.length := by simpa using hl
      have hst : place (src.data.toList.take (k + 1)) = placeF (place (src.data.toList.take k)) src[k] := by
        rw [List.take_succ_eq_append_getElem hkl, place_snoc]
        rfl
      have hp := place_pos (src.data.toList.take k)
      have hpl : (src.data.toList.take k).length ≤ src.size := by rw [List.length_take]; exact Nat.min_le_right _ _
      have hb1 : (place (src.data.toList.take k)).1 ≤ 8001 := by omega
      have hb2 : (place (src.data.toList.take k)).2 ≤ 8001 := by omega
      have HST := Lib.hid hst
      clear hst hp hpl
      generalize place (src.data.toList.take k) = pl at *
      obtain ⟨l, c⟩ := pl
      dsimp only at hb1 hb2 HST
      generalize hcc : src[k] = b at *
      by_cases h10 : b = 10
      · have e10 : ((b.toNat : Int) == 10) = true := by rw [h10]; rfl
        have HS2 := Lib.hid (show place (src.data.toList.take (k + 1)) = (l + 1, 1) by rw [HST.out]; unfold placeF; rw [if_pos h10])
        go_wp2
        go_round
        case rel => exact ⟨k + 1, by omega, by go_num, by rw [HS2.out]; go_num, by rw [HS2.out]; rfl⟩
        case measure => simp [intOf]; omega
      · have e10 : ((b.toNat : Int) == 10) = false := by
          rw [beq_eq_false_iff_ne]; intro e; apply h10; apply UInt8.toNat_inj.1; exact_mod_cast e
        have HS2 := Lib.hid (show place (src.data.toList.take (k + 1)) = (l, c + 1) by rw [HST.out]; unfold placeF; rw [if_neg h10])
        go_wp2
        go_round
        case rel => exact ⟨k + 1, by omega, by go_num, by rw [HS2.out], by rw [HS2.out]; go_num⟩
        case measure => simp [intOf]; omega
    · have e : k = at_ := by omega
      subst e
      go_wp2
      go_ret2
      exact ⟨rfl, rfl⟩
theorem spotAt_any (src : ByteArray) (at_ : Nat) (e0 : Int) (ha : at_ ≤ src.size) (hs : src.size ≤ 8000) (w : World) : Calls Try.prog 66 #[.string src, .int .i64 (at_ : Int), .int .i64 e0] w fun e w' => e = .returned (.agg #[.int .i64 e0, .int .i64 ((place (src.data.toList.take at_)).1 : Int), .int .i64 ((place (src.data.toList.take at_)).2 : Int)]) ∧ Below w.heap.size w w' := by
  go_enter Try.func66, Try.ntmps66
  go_wp2_with fail
  refine (placeOf_any src at_ ha hs _).mono ?_
  rintro e w1 ⟨rfl, rfl⟩
  go_wp2_with fail
  exact bodyPost_ret (v := .agg #[.int .i64 e0, .int .i64 ((place (src.data.toList.take at_)).1 : Int), .int .i64 ((place (src.data.toList.take at_)).2 : Int)]) (by simp [results, Try.results66, go_sem]) rfl ⟨rfl, al _⟩
def sgW : List (List UInt8) := [[43], [45], [42], [47], [37], [38], [124], [94], [60, 60], [62, 62], [38, 38], [124, 124], [61, 61], [33, 61], [60], [60, 61], [62], [62, 61], [61], [58, 61], [40], [41], [123], [125], [91], [93], [44], [58], [33]]
theorem sgW_cut : cutG 32 (ByteArray.mk #[43, 32, 45, 32, 42, 32, 47, 32, 37, 32, 38, 32, 124, 32, 94, 32, 60, 60, 32, 62, 62, 32, 38, 38, 32, 124, 124, 32, 61, 61, 32, 33, 61, 32, 60, 32, 60, 61, 32, 62, 32, 62, 61, 32, 61, 32, 58, 61, 32, 40, 32, 41, 32, 123, 32, 125, 32, 91, 32, 93, 32, 44, 32, 58, 32, 33]).data.toList [] = sgW := by decide +kernel
theorem cutAt_sg (w : World) : Calls Try.prog 109 #[.string ⟨#[43, 32, 45, 32, 42, 32, 47, 32, 37, 32, 38, 32, 124, 32, 94, 32, 60, 60, 32, 62, 62, 32, 38, 38, 32, 124, 124, 32, 61, 61, 32, 33, 61, 32, 60, 32, 60, 61, 32, 62, 32, 62, 61, 32, 61, 32, 58, 61, 32, 40, 32, 41, 32, 123, 32, 125, 32, 91, 32, 93, 32, 44, 32, 58, 32, 33]⟩, .int .u8 32] w fun e w' => ∃ g c, e = .returned (.slice (some ⟨g, 0, none⟩) 29 c) ∧ Rd w' w'.heap.size 1 (some ⟨g, 0, none⟩) 29 (strs sgW) ∧ Below w.heap.size w w' := by
  have h := cutAt_any ⟨#[43, 32, 45, 32, 42, 32, 47, 32, 37, 32, 38, 32, 124, 32, 94, 32, 60, 60, 32, 62, 62, 32, 38, 38, 32, 124, 124, 32, 61, 61, 32, 33, 61, 32, 60, 32, 60, 61, 32, 62, 32, 62, 61, 32, 61, 32, 58, 61, 32, 40, 32, 41, 32, 123, 32, 125, 32, 91, 32, 93, 32, 44, 32, 58, 32, 33]⟩ 32 32 rfl (by decide +kernel) w
  rw [sgW_cut] at h
  refine h.mono ?_
  rintro e w' ⟨A, c, rfl, hown, hb⟩
  obtain ⟨g, cap, hv, _⟩ := hown.form (by decide)
  injection hv with hA _ hc
  subst hA hc
  exact ⟨g, _, rfl, Rd.of_own hown, hb⟩
/-- One sign more looked at. -/
def bestF (L b x : List UInt8) : List UInt8 := if b.length < x.length ∧ x.length ≤ L.length ∧ L.take x.length = x then x else b
theorem best_fold (L : List UInt8) : ∀ (W : List (List UInt8)) (b : List UInt8), b <+: L → (W.foldl (bestF L) b) <+: L ∧ (W.foldl (bestF L) b ∈ W ∨ W.foldl (bestF L) b = b) ∧ b.length ≤ (W.foldl (bestF L) b).length ∧ ∀ x ∈ W, x <+: L → x.length ≤ (W.foldl (bestF L) b).length
  | [], b, h => ⟨h, .inr rfl, Nat.le_refl _, fun _ h => nomatch h⟩
  | x :: W, b, h => by
    rw [List.foldl_cons]
    have h1 : bestF L b x <+: L := by
      unfold bestF
      split
      · rename_i hx
        rw [← hx.2.2]
        exact List.take_prefix _ _
      · exact h
    have h2 : b.length ≤ (bestF L b x).length := by unfold bestF; split <;> omega
    have h3 : x <+: L → x.length ≤ (bestF L b x).length := by
      intro hx
      unfold bestF
      split
      · exact Nat.le_refl _
      · rename_i hn
        rcases Nat.lt_or_ge b.length x.length with h5 | h5
        · exact absurd ⟨h5, hx.length_le, (List.prefix_iff_eq_take.1 hx).symm⟩ hn
        · exact h5
    have h4 : bestF L b x = x ∨ bestF L b x = b := by unfold bestF; split <;> simp
    obtain ⟨r1, r2, r3, r4⟩ := best_fold L W (bestF L b x) h1
    refine ⟨r1, ?_, by omega, ?_⟩
    · rcases r2 with r2 | r2
      · exact .inl (List.mem_cons_of_mem _ r2)
      · rw [r2]
        rcases h4 with h4 | h4
        · rw [h4]; exact .inl List.mem_cons_self
        · exact .inr h4
    · intro y hy hyl
      rcases List.mem_cons.1 hy with rfl | hy
      · exact Nat.le_trans (h3 hyl) r3
      · exact r4 y hy hyl
theorem sgW_two : ∀ x ∈ sgW, (x.length = 2 ∧ x ∈ sg2) ∨ (x.length = 1 ∧ sg1.contains (x.headD 0) = true) := by decide +kernel
theorem sg2_in : ∀ x ∈ sg2, x ∈ sgW ∧ x.length = 2 := by decide +kernel
theorem sg1_in : ∀ c ∈ sg1, [c] ∈ sgW := by decide +kernel
theorem signV_facts2 (L : List UInt8) : signV L <+: L ∧ (signV L ∈ sgW ∨ signV L = []) ∧ ∀ x ∈ sgW, x <+: L → x.length ≤ (signV L).length := by
  unfold signV
  split
  · rename_i h
    have h2 := sg2_in _ h
    refine ⟨List.take_prefix _ _, .inl h2.1, fun x hx _ => ?_⟩
    rw [h2.2]
    rcases sgW_two x hx with h3 | h3 <;> omega
  · rename_i h
    have hno : ∀ x ∈ sgW, x <+: L → x.length = 1 ∧ sg1.contains (x.headD 0) = true := by
      intro x hx hp
      rcases sgW_two x hx with h3 | h3
      · exfalso
        apply h
        have := List.prefix_iff_eq_take.1 hp
        rw [h3.1] at this
        rw [← this]
        exact h3.2
      · exact h3
    split
    · rename_i h1
      cases L with
      | nil => exact absurd rfl h1.2
      | cons c R =>
        refine ⟨List.take_prefix _ _, .inl ?_, fun x hx hp => ?_⟩
        · exact sg1_in c (by simpa using h1.1)
        · rw [(hno x hx hp).1]; simp
    · rename_i h1
      refine ⟨List.nil_prefix, .inr rfl, fun x hx hp => ?_⟩
      exfalso
      obtain ⟨h3, h4⟩ := hno x hx hp
      cases x with
      | nil => cases h3
      | cons d x =>
        cases L with
        | nil => simpa using hp.length_le
        | cons c R =>
          apply h1
          have : d = c := by have := List.cons_prefix_cons.1 hp; exact this.1
          subst this
          exact ⟨h4, by simp⟩
theorem best_sign (L : List UInt8) : sgW.foldl (bestF L) [] = signV L := by
  obtain ⟨a1, a2, _, a4⟩ := best_fold L sgW [] List.nil_prefix
  obtain ⟨b1, b2, b3⟩ := signV_facts2 L
  have hl : (sgW.foldl (bestF L) []).length = (signV L).length := by
    apply Nat.le_antisymm
    · rcases a2 with a2 | a2
      · exact b3 _ a2 a1
      · rw [a2]; exact Nat.zero_le _
    · rcases b2 with b2 | b2
      · exact a4 _ b2 b1
      · rw [b2]; exact Nat.zero_le _
  rw [List.prefix_iff_eq_take.1 a1, List.prefix_iff_eq_take.1 b1, hl]
theorem fold_take {α β : Type} (f : β → α → β) (b : β) (W : List α) (k : Nat) (hk : k < W.length) : (W.take (k + 1)).foldl f b = f ((W.take k).foldl f b) W[k] := by
  rw [List.take_succ_eq_append_getElem hk, List.foldl_append]
  rfl
theorem sgW_len : sgW.length = 29 := rfl
set_option maxHeartbeats 2000000 in
theorem signAt_any (s : ByteArray) (w : World) : Calls Try.prog 115 #[.string s] w fun e w' => e = .returned (.string ⟨(signV s.data.toList).toArray⟩) ∧ Below w.heap.size w w' := by
  go_enter Try.func115, Try.ntmps115
  go_wp2_with fail
  refine (cutAt_sg _).mono ?_
  rintro e w1 ⟨g, c, rfl, hr, hb⟩
  go_wp2_with fail
  go_loop [3, 8] (fun b i => ∃ (k : Nat) (B : ByteArray), k ≤ 29 ∧ i = .int .i64 k ∧ b = .string B ∧ B.size ≤ 2 ∧ Hid (B.data.toList = (sgW.take k).foldl (bestF s.data.toList) [])) (fun _ i => 29 - (intOf i).toNat)
  case atStart => exact ⟨0, ⟨#[]⟩, by omega, rfl, rfl, by decide, rfl⟩
  case round =>
    obtain ⟨k, B, hk, rfl, rfl, hB2, hn⟩ := hrel
    by_cases hlt : k < 29
    · have hw : k < sgW.length := by rw [sgW_len]; exact hlt
      obtain ⟨b, off, u, hA, _, hu, hc⟩ := hr.at1 hlt
      have hu' := strs_get hw hu
      injection hA with hA
      injection hA with hA1 hA2
      subst hA1 hA2 hu'
      clear hu
      rw [Nat.zero_add] at hc
      obtain ⟨x, hx⟩ : ∃ x, x = sgW[k] := ⟨_, rfl⟩
      have hxl : x.length ≤ 2 := by rcases sgW_two x (by rw [hx]; exact List.getElem_mem hw) with h | h <;> omega
      have HF := Lib.hid (fold_take (bestF s.data.toList) [] sgW k hw)
      rw [show sgW.getD k [] = sgW[k] by simp [List.getD_eq_getElem?_getD, List.getElem?_eq_getElem hw]] at hc
      rw [← hx] at HF hc
      obtain ⟨X, hX⟩ : ∃ X, X = (ByteArray.mk x.toArray) := ⟨_, rfl⟩
      rw [← hX] at hc
      have hXs : X.size = x.length := by rw [hX]; rfl
      have HX := Lib.hid hX
      have HXS := Lib.hid hXs
      have hX2 : X.size ≤ 2 := by omega
      have hBl := Lib.hid (show B.size = B.data.toList.length from rfl)
      have HN := hn
      clear hx hX hXs hn
      have stay : ∀ (_ : ¬ (B.size < X.size ∧ X.size ≤ s.size ∧ s.data.toList.take X.size = X.data.toList)), Hid (B.data.toList = (sgW.take (k + 1)).foldl (bestF s.data.toList) []) := fun h => Lib.hid (by
        rw [HF.out, ← HN.out]
        unfold bestF
        rw [if_neg]
        rw [← hBl.out, ← HXS.out]
        have e1 : x = X.data.toList := by rw [HX.out]
        rw [e1]
        exact h)
      have go : ∀ (_ : B.size < X.size ∧ X.size ≤ s.size ∧ s.data.toList.take X.size = X.data.toList), Hid (X.data.toList = (sgW.take (k + 1)).foldl (bestF s.data.toList) []) := fun h => Lib.hid (by
        rw [HF.out, ← HN.out]
        unfold bestF
        have e1 : x = X.data.toList := by rw [HX.out]
        rw [if_pos]
        · exact e1.symm
        · rw [← hBl.out, ← HXS.out, e1]
          exact h)
      have HSt := Lib.hid stay
      have HGo := Lib.hid go
      clear stay go
      by_cases h1 : B.size < X.size
      · by_cases h2 : X.size ≤ s.size
        · have hex : (s.extract 0 X.size).toList = s.data.toList.take X.size := by rw [ByteArray.toList_eq, ext_list]; simp
          have hxx : X.toList = X.data.toList := by rw [ByteArray.toList_eq]
          by_cases h3 : s.data.toList.take X.size = X.data.toList
          · have HY := HGo.out ⟨h1, h2, h3⟩
            have ht : ((s.extract 0 X.size).toList == X.toList) = true := by rw [hex, hxx, h3, beq_self_eq_true]
            clear hex hxx h3
            go_wp2_with fail
            exact ⟨⟨k + 1, X, by omega, by go_num, rfl, hX2, HY⟩, by simp [intOf]; omega⟩
          · have HY := HSt.out fun h => h3 h.2.2
            have ht : ((s.extract 0 X.size).toList == X.toList) = false := by rw [hex, hxx, beq_eq_false_iff_ne]; exact h3
            clear hex hxx h3
            go_wp2_with fail
            exact ⟨⟨k + 1, B, by omega, by go_num, rfl, hB2, HY⟩, by simp [intOf]; omega⟩
        · have HY := HSt.out fun h => h2 h.2.1
          go_wp2_with fail
          exact ⟨⟨k + 1, B, by omega, by go_num, rfl, hB2, HY⟩, by simp [intOf]; omega⟩
      · have HY := HSt.out fun h => h1 h.1
        go_wp2_with fail
        exact ⟨⟨k + 1, B, by omega, by go_num, rfl, hB2, HY⟩, by simp [intOf]; omega⟩
    · go_wp2
      go_ret
      have e : k = 29 := by omega
      subst e
      exact ⟨by rw [← best_sign, show sgW = sgW.take 29 from rfl, ← hn.out]; rfl, hb⟩
end Go.Proofs.Ytgjhjojbaieeaaa
