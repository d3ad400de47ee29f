/- ScR: ScSign ScTok ScDisp ScAll ScRun ScRefE ScRefT ScLaw Shw1. Conditions: each text's own. -/
import Derived.Test.YtjegfimagjmpdaaGreatDoorScP
import Derived.Deep.LoopGhost
import Derived.Defers
import Derived.Recover
import Derived.Laws.Pointers
import Derived.Deep.RegionLaw
import Derived.Test.YtjegfimagjmpdaaGreatDoorBase
section
/- 'scan.sign'. Conditions: none. -/
set_option maxRecDepth 20000
namespace Go.Proofs.YtjegfimagjmpdaaGreatDoor
open Go.ChangeShapes Go.WideShapes Go.ChangeAt Go.RowKit
theorem idx_iff (l : List UInt8) (c : UInt8) : (0 ≤ Lib.indexByte l c) ↔ c ∈ l := by
  induction l with
  | nil => simp [Lib.indexByte]
  | cons b l ih =>
    have hge := Lib.indexByte_ge l c
    simp only [Lib.indexByte]
    by_cases h : b = c
    · simp [h]
    · have h2 : (b == c) = false := by simp [h]
      have h3 : c ≠ b := fun e => h e.symm
      rw [h2, if_neg (by simp), List.mem_cons]
      simp only [h3, false_or]
      rw [← ih]
      split
      · rename_i h4
        simp at h4
        omega
      · rename_i h4
        simp at h4
        omega
theorem idx_sg (c : UInt8) (w : World) : Calls Tryz.prog 17 #[.string ⟨#[43, 45, 42, 47, 37, 38, 124, 94, 60, 62, 61, 40, 41, 123, 125, 91, 93, 44, 58, 33]⟩, .int .u8 (c.toNat : Int)] w fun e w' => (∃ z : Int, e = .returned (.int .i64 z) ∧ (0 ≤ z ↔ c ∈ sg1)) ∧ w' = w := by
  refine (Tryz.strings_IndexByte _ _ _).mono ?_
  rintro e w2 ⟨rfl, rfl⟩
  refine ⟨⟨_, rfl, ?_⟩, rfl⟩
  have hun : ((c.toNat : Int)).toNat.toUInt8 = c := by simp
  rw [hun]
  exact idx_iff sg1 c
theorem two_of {L : List UInt8} {s : ByteArray} (hL : s.data.toList = L) : (s.extract 0 2).toList = L.take 2 := by
  rw [ByteArray.toList_eq, extract_list, hL]; simp
theorem headD_of {s : ByteArray} (h : 0 < s.size) : s.data.toList.headD 0 = s[0] := by
  have := head_get s 0 h
  simpa using this
theorem sign_empty (s : ByteArray) (h : s.size = 0) (w : World) : Calls Tryz.prog 100 #[.string s] w fun e w' => e = .returned (.string ⟨(signV s.data.toList).toArray⟩) ∧ ∃ n, w' = w.drewN n := by
  obtain rfl : s = ByteArray.empty := by
    apply ByteArray.ext
    exact Array.eq_empty_of_size_eq_zero h
  go_enter Tryz.func100, Tryz.ntmps100
  go_wp2
  go_ret
  exact ⟨rfl, 0, rfl⟩
set_option maxHeartbeats 2000000 in
theorem sign_two (s : ByteArray) (h2 : 2 ≤ s.size) (hm : s.data.toList.take 2 ∈ sg2) (w : World) : Calls Tryz.prog 100 #[.string s] w fun e w' => e = .returned (.string ⟨(signV s.data.toList).toArray⟩) ∧ ∃ n, w' = w.drewN n := by
  have hX : s.extract 0 2 = ⟨(s.data.toList.take 2).toArray⟩ := by rw [extract_list]; simp
  have HV := Lib.hid (show signV s.data.toList = s.data.toList.take 2 by unfold signV; rw [if_pos hm])
  have h2i : 2 ≤ (s.size : Int) := by omega
  simp only [sg2, List.mem_cons, List.not_mem_nil, or_false] at hm
  rcases hm with hm | hm | hm | hm | hm | hm | hm | hm | hm
  all_goals
    rw [hm] at hX HV
    clear hm
    go_enter Tryz.func100, Tryz.ntmps100
    go_wp2
    go_ret
    exact ⟨by rw [HV.out]; rfl, 0, rfl⟩
set_option maxHeartbeats 2000000 in
theorem sign_one (s : ByteArray) (h0 : 0 < s.size) (hb : ∀ X ∈ sg2, (2 ≤ s.size → ((s.extract 0 2).toList == X) = false)) (hm : s.data.toList.take 2 ∉ sg2) (w : World) : Calls Tryz.prog 100 #[.string s] w fun e w' => e = .returned (.string ⟨(signV s.data.toList).toArray⟩) ∧ ∃ n, w' = w.drewN n := by
  have hX1 : s.extract 0 1 = ⟨(s.data.toList.take 1).toArray⟩ := by rw [extract_list]; simp
  have hhd := headD_of h0
  have hne : s.data.toList ≠ [] := fun e => by
    have : s.data.toList.length = 0 := by rw [e]; rfl
    have h9 : s.data.toList.length = s.size := rfl
    omega
  have hse : (s.toList == []) = false := by rw [ByteArray.toList_eq]; exact beq_eq_false_iff_ne.2 hne
  have hse2 : ¬ s.toList = [] := by rw [ByteArray.toList_eq]; exact hne
  have b0 := hb [60, 60] (by simp [sg2])
  have b1 := hb [62, 62] (by simp [sg2])
  have b2 := hb [38, 38] (by simp [sg2])
  have b3 := hb [124, 124] (by simp [sg2])
  have b4 := hb [61, 61] (by simp [sg2])
  have b5 := hb [33, 61] (by simp [sg2])
  have b6 := hb [60, 61] (by simp [sg2])
  have b7 := hb [62, 61] (by simp [sg2])
  have b8 := hb [58, 61] (by simp [sg2])
  clear hb
  by_cases h2 : 2 ≤ s.size
  · have c0 := b0 h2
    have c1 := b1 h2
    have c2 := b2 h2
    have c3 := b3 h2
    have c4 := b4 h2
    have c5 := b5 h2
    have c6 := b6 h2
    have c7 := b7 h2
    have c8 := b8 h2
    clear b0 b1 b2 b3 b4 b5 b6 b7 b8
    have h2i : 2 ≤ (s.size : Int) := by omega
    by_cases hc : (s[0]'h0) ∈ sg1
    · have HV := Lib.hid (show s.extract 0 1 = ⟨(signV s.data.toList).toArray⟩ by
        rw [hX1]; unfold signV; rw [if_neg hm, if_pos ⟨by rw [List.contains_iff_mem, hhd]; exact hc, hne⟩])
      clear hm hhd hne hX1
      generalize hcc : s[0]'h0 = c at *
      have HC := Lib.hid hc
      clear hc
      go_enter Tryz.func100, Tryz.ntmps100
      go_wp2_with (go_at_call 17; refine (idx_sg c _).mono ?_; rintro e w2 ⟨⟨z, rfl, hz⟩, rfl⟩; have hz0 := hz.2 HC.out; clear hz)
      go_ret
      exact ⟨by rw [← HV.out]; rfl, 0, rfl⟩
    · have HV := Lib.hid (show signV s.data.toList = [] by
        unfold signV; rw [if_neg hm, if_neg (by rw [List.contains_iff_mem, hhd]; exact fun h => hc h.1)])
      clear hm hhd hne hX1
      generalize hcc : s[0]'h0 = c at *
      have HC := Lib.hid hc
      clear hc
      go_enter Tryz.func100, Tryz.ntmps100
      go_wp2_with (go_at_call 17; refine (idx_sg c _).mono ?_; rintro e w2 ⟨⟨z, rfl, hz⟩, rfl⟩; have hz0 := mt hz.1 HC.out; clear hz)
      go_ret
      exact ⟨by rw [HV.out]; rfl, 0, rfl⟩
  · clear b0 b1 b2 b3 b4 b5 b6 b7 b8
    have h2i : ¬ 2 ≤ (s.size : Int) := by omega
    by_cases hc : (s[0]'h0) ∈ sg1
    · have HV := Lib.hid (show s.extract 0 1 = ⟨(signV s.data.toList).toArray⟩ by
        rw [hX1]; unfold signV; rw [if_neg hm, if_pos ⟨by rw [List.contains_iff_mem, hhd]; exact hc, hne⟩])
      clear hm hhd hne hX1
      generalize hcc : s[0]'h0 = c at *
      have HC := Lib.hid hc
      clear hc
      go_enter Tryz.func100, Tryz.ntmps100
      go_wp2_with (go_at_call 17; refine (idx_sg c _).mono ?_; rintro e w2 ⟨⟨z, rfl, hz⟩, rfl⟩; have hz0 := hz.2 HC.out; clear hz)
      go_ret
      exact ⟨by rw [← HV.out]; rfl, 0, rfl⟩
    · have HV := Lib.hid (show signV s.data.toList = [] by
        unfold signV; rw [if_neg hm, if_neg (by rw [List.contains_iff_mem, hhd]; exact fun h => hc h.1)])
      clear hm hhd hne hX1
      generalize hcc : s[0]'h0 = c at *
      have HC := Lib.hid hc
      clear hc
      go_enter Tryz.func100, Tryz.ntmps100
      go_wp2_with (go_at_call 17; refine (idx_sg c _).mono ?_; rintro e w2 ⟨⟨z, rfl, hz⟩, rfl⟩; have hz0 := mt hz.1 HC.out; clear hz)
      go_ret
      exact ⟨by rw [HV.out]; rfl, 0, rfl⟩
theorem sign_any (s : ByteArray) (w : World) : Calls Tryz.prog 100 #[.string s] w fun e w' => e = .returned (.string ⟨(signV s.data.toList).toArray⟩) ∧ ∃ n, w' = w.drewN n := by
  by_cases h0 : s.size = 0
  · exact sign_empty s h0 w
  · by_cases hm : s.data.toList.take 2 ∈ sg2
    · refine sign_two s ?_ hm w
      have hl : (s.data.toList.take 2).length = 2 := by
        simp only [sg2, List.mem_cons, List.not_mem_nil, or_false] at hm
        rcases hm with hm | hm | hm | hm | hm | hm | hm | hm | hm <;> (rw [hm]; rfl)
      rw [List.length_take] at hl
      have h9 : s.data.toList.length = s.size := rfl
      omega
    · refine sign_one s (by omega) (fun X hX h2 => ?_) hm w
      rw [two_of rfl, beq_eq_false_iff_ne]
      exact fun e => hm (e ▸ hX)
end Go.Proofs.YtjegfimagjmpdaaGreatDoor
end
section
/- The cutter's 'token': a line's end, a blank. Conditions: none. -/
set_option maxRecDepth 20000
namespace Go.Proofs.YtjegfimagjmpdaaGreatDoor
open Go.ChangeShapes Go.WideShapes Go.ChangeAt Go.RowKit
section
variable {w : World} {g : Nat} {src : ByteArray} {p l c : Int} {v : Value} {T : List Tk}
theorem Cu.set1 (h : Cu w g src p l c v T) (q : Int) : Cu (w.setCell ⟨g, 1, none⟩ (.int .i64 q)) g src q l c v T := by
  refine ⟨?_, World.cell?_setCell_same _ _ _ h.c1, ?_, ?_, ?_, fun k => by simpa using h.fz k, own_cell h.row (by simp) _⟩
  · rw [World.cell?_setCell_other _ _ _ _ (by simp)]; exact h.c0
  · rw [World.cell?_setCell_other _ _ _ _ (by simp)]; exact h.c2
  · rw [World.cell?_setCell_other _ _ _ _ (by simp)]; exact h.c3
  · rw [World.cell?_setCell_other _ _ _ _ (by simp)]; exact h.c4
theorem Cu.set2 (h : Cu w g src p l c v T) (q : Int) : Cu (w.setCell ⟨g, 2, none⟩ (.int .i64 q)) g src p q c v T := by
  refine ⟨?_, ?_, World.cell?_setCell_same _ _ _ h.c2, ?_, ?_, fun k => by simpa using h.fz k, own_cell h.row (by simp) _⟩
  · rw [World.cell?_setCell_other _ _ _ _ (by simp)]; exact h.c0
  · rw [World.cell?_setCell_other _ _ _ _ (by simp)]; exact h.c1
  · rw [World.cell?_setCell_other _ _ _ _ (by simp)]; exact h.c3
  · rw [World.cell?_setCell_other _ _ _ _ (by simp)]; exact h.c4
theorem Cu.set3 (h : Cu w g src p l c v T) (q : Int) : Cu (w.setCell ⟨g, 3, none⟩ (.int .i64 q)) g src p l q v T := by
  refine ⟨?_, ?_, ?_, World.cell?_setCell_same _ _ _ h.c3, ?_, fun k => by simpa using h.fz k, own_cell h.row (by simp) _⟩
  · rw [World.cell?_setCell_other _ _ _ _ (by simp)]; exact h.c0
  · rw [World.cell?_setCell_other _ _ _ _ (by simp)]; exact h.c1
  · rw [World.cell?_setCell_other _ _ _ _ (by simp)]; exact h.c2
  · rw [World.cell?_setCell_other _ _ _ _ (by simp)]; exact h.c4
theorem Cu.drewN (h : Cu w g src p l c v T) (n : Nat) : Cu (w.drewN n) g src p l c v T := ⟨h.c0, h.c1, h.c2, h.c3, h.c4, h.fz, h.row⟩
end
theorem eqc {c d : UInt8} {n : Int} (hn : n = (d.toNat : Int)) : (((c.toNat : Int) == n) = decide (c = d)) := by
  subst hn
  by_cases h : c = d
  · subst h; simp
  · rw [decide_eq_false h]; exact eq_c h
theorem token_nl (g : Nat) (src : ByteArray) (p : Nat) (T : List Tk) (w : World) (hcu : CuS w g src p T) (hT : T.length ≤ 2000) (hsz : src.size ≤ 8000) (hp : p < src.size) (hb : src[p] = 10) :
    Calls Tryz.prog 90 #[.pointer (some ⟨g, 0, none⟩)] w (MP g src p w (semiR src p (p + 1) T)) := by
  have HC := Lib.hid hcu
  have HPl := Lib.hid (place_nl (L := src.data.toList) (p := p) hp (by rw [head_get src p hp]; exact hb))
  obtain ⟨A, C, hcu⟩ := hcu
  have c0 := hcu.c0
  have c1 := hcu.c1
  have hgl : g < w.heap.size := World.block_lt_of_cell? w ⟨g, 0, none⟩ c0
  have hpb := pl_bound src p hsz
  have hpi : (p : Int) < (src.size : Int) := by omega
  have hb2 : ((src[p].toNat : Nat) : Int) = 10 := by rw [hb]; rfl
  clear hcu hb
  go_enter Tryz.func90, Tryz.ntmps90
  go_wp2_with fail
  go_quiet (fail)
  go_wp2_with fail
  refine (lineEnd_any g src p T _ (HC.out.below (dr (Below.refl _ _) _)) hT hsz (by omega)).mono ?_
  intro e w1 hmp
  cases hs : semiT src.data.toList p T with
  | none =>
    rw [show semiR src p p T = .error 15 by unfold semiR; rw [hs]] at hmp
    obtain ⟨rfl, hb1⟩ := hmp
    unfold stopE
    go_wp2_with fail
    rw [show semiR src p (p + 1) T = .error 15 by unfold semiR; rw [hs]]
    exact ⟨rfl, rfl, (dr (Below.refl _ _) _ : Below g _ _).trans hb1⟩
  | some T' =>
    rw [show semiR src p p T = .ok (p, T') by unfold semiR; rw [hs]] at hmp
    have HS := Lib.hid (show semiR src p (p + 1) T = .ok (p + 1, T') by unfold semiR; rw [hs])
    obtain ⟨rfl, ⟨A1, C1, hc1⟩, hb1⟩ := hmp
    have d1 := hc1.c1
    have d2 := hc1.c2
    have d3 := hc1.c3
    have f1 := hc1.fz 1
    have f2 := hc1.fz 2
    have f3 := hc1.fz 3
    have HC1 := Lib.hid (And.intro hc1 hb1)
    clear hc1 hb1
    generalize hpl : place (src.data.toList.take p) = pl at *
    obtain ⟨l, c⟩ := pl
    simp only at d2 d3 hpb
    go_wp2_with fail
    go_end0
    rw [HS.out]
    refine ⟨rfl, ⟨A1, C1, ?_⟩, (((dr (Below.refl _ _) _ : Below g _ _).trans HC1.out.2).setCell (Nat.le_refl _) _ |>.setCell (Nat.le_refl _) _ |>.setCell (Nat.le_refl _) _)⟩
    have := ((HC1.out.1.set1 ((p : Int) + 1)).set2 ((l : Int) + 1)).set3 1
    rw [HPl.out]
    exact this
theorem place_one {src : ByteArray} {p : Nat} (hp : p < src.size) (hb : src[p] ≠ 10) : place (src.data.toList.take (p + 1)) = ((place (src.data.toList.take p)).1, (place (src.data.toList.take p)).2 + 1) := by
  refine place_step (by rw [drop_len]; omega) ?_
  rw [byl_drop src p hp]
  intro c hc
  simp at hc
  subst hc
  exact hb
theorem token_blank (g : Nat) (src : ByteArray) (p : Nat) (T : List Tk) (w : World) (hcu : CuS w g src p T) (hsz : src.size ≤ 8000) (hp : p < src.size) (hb : src[p] = 32 ∨ src[p] = 9 ∨ src[p] = 13) :
    Calls Tryz.prog 90 #[.pointer (some ⟨g, 0, none⟩)] w (MP g src p w (.ok (p + 1, T))) := by
  have HPl := Lib.hid (place_one hp (by rcases hb with h | h | h <;> (rw [h]; decide)))
  obtain ⟨A, C, hcu⟩ := hcu
  have c0 := hcu.c0
  have c1 := hcu.c1
  have c3 := hcu.c3
  have f1 := hcu.fz 1
  have f3 := hcu.fz 3
  have hpb := pl_bound src p hsz
  have hpi : (p : Int) < (src.size : Int) := by omega
  have HCu := Lib.hid hcu
  clear hcu
  generalize hpl : place (src.data.toList.take p) = pl at *
  obtain ⟨l, c⟩ := pl
  simp only at c3 hpb
  have fin : ∀ n, MP g src p w (.ok (p + 1, T)) (.returned (.tuple #[])) ((((w.drewN n).setCell ⟨g, 1, none⟩ (.int .i64 ((p : Int) + 1))).setCell ⟨g, 3, none⟩ (.int .i64 ((c : Int) + 1)))) := fun n => by
    refine ⟨rfl, ⟨A, C, ?_⟩, ((dr (Below.refl _ _) _ : Below g _ _).setCell (Nat.le_refl _) _).setCell (Nat.le_refl _) _⟩
    rw [HPl.out]
    exact ((HCu.out.drewN n).set1 ((p : Int) + 1)).set3 ((c : Int) + 1)
  have HF := Lib.hid fin
  clear fin
  have h9 : ((src[p].toNat : Nat) : Int) = 32 ∨ ((src[p].toNat : Nat) : Int) = 9 ∨ ((src[p].toNat : Nat) : Int) = 13 := by
    rcases hb with h | h | h <;> rw [h]
    · exact .inl rfl
    · exact .inr (.inl rfl)
    · exact .inr (.inr rfl)
  clear hb
  rcases h9 with h9 | h9 | h9
  all_goals
    go_enter Tryz.func90, Tryz.ntmps90
    go_wp2_with fail
    go_quiet (fail)
    go_wp2_with fail
    go_end0
    exact HF.out _
end Go.Proofs.YtjegfimagjmpdaaGreatDoor
end
section
/- The cutter's 'token': names, numbers, texts, signs. Conditions: none. -/
set_option maxRecDepth 20000
namespace Go.Proofs.YtjegfimagjmpdaaGreatDoor
open Go.ChangeShapes Go.WideShapes Go.ChangeAt Go.RowKit
theorem hasPfx_q (s pf : ByteArray) (w : World) (q n : Nat) : Calls Tryz.prog 93 #[.string s, .string pf] (w.drewN (q + n)) fun e w'' => e = .returned (.bool (pfxB s pf)) ∧ ∃ m, w'' = w.drewN (q + m) :=
  (hasPrefix_any s pf _).mono fun _ _ ⟨h1, h2⟩ => ⟨h1, n, h2⟩
theorem hasPfx_is {b : Bool} (s pf : ByteArray) (w : World) (q n : Nat) (h : pfxB s pf = b) : Calls Tryz.prog 93 #[.string s, .string pf] (w.drewN (q + n)) fun e w'' => e = .returned (.bool b) ∧ ∃ m, w'' = w.drewN (q + m) := by
  subst h
  exact hasPfx_q s pf w q n
theorem rest_of (src : ByteArray) (p : Nat) : (src.extract p src.size).data.toList = src.data.toList.drop p := by
  rw [extract_list]
  show (src.data.toList.take src.size).drop p = _
  rw [List.take_of_length_le (show src.data.toList.length ≤ src.size from Nat.le_refl _)]
theorem pfx_iff (src : ByteArray) (p : Nat) : pfxB (src.extract p src.size) ⟨#[47, 47]⟩ = decide ((src.data.toList.drop p).take 2 = [47, 47]) := by
  have h1 : (src.extract p src.size).extract 0 2 = ⟨((src.data.toList.drop p).take 2).toArray⟩ := by rw [extract_list, rest_of]; simp
  have h2 : (src.extract p src.size).size = (src.data.toList.drop p).length := by rw [← rest_of]; rfl
  unfold pfxB
  rw [show (ByteArray.mk #[47, 47]).size = 2 from rfl, h1, h2]
  by_cases h : (src.data.toList.drop p).take 2 = [47, 47]
  · have h3 : 2 ≤ (src.data.toList.drop p).length := by
      have := congrArg List.length h
      rw [List.length_take] at this
      simp only [List.length_cons, List.length_nil] at this
      omega
    rw [h, decide_eq_true h3]
    simp
  · rw [decide_eq_false h]
    have : (⟨((src.data.toList.drop p).take 2).toArray⟩ : ByteArray) ≠ ⟨#[47, 47]⟩ := fun e => h (by
      have := congrArg (fun b : ByteArray => b.data.toList) e
      simpa using this)
    rw [decide_eq_false this, Bool.and_false]
/-- What is known of the first byte where a token begins. -/
structure Plain (b : UInt8) : Prop where
  n10 : b ≠ 10
  n32 : b ≠ 32
  n9 : b ≠ 9
  n13 : b ≠ 13
theorem nb {b d : UInt8} (h : b ≠ d) (n : Int) (hn : n = (d.toNat : Int)) : ((b.toNat : Int) == n) = false := by subst hn; exact eq_c h
set_option maxHeartbeats 2000000 in
theorem token_name (g : Nat) (src : ByteArray) (p : Nat) (T : List Tk) (w : World) (hcu : CuS w g src p T) (hT : T.length ≤ 2000) (hsz : src.size ≤ 8000) (hp : p < src.size) (hb : Plain src[p]) (hcm : (src.data.toList.drop p).take 2 ≠ [47, 47]) (hL : isL src[p] = true) :
    Calls Tryz.prog 90 #[.pointer (some ⟨g, 0, none⟩)] w (MP g src p w (nameR src p T)) := by
  have HC := Lib.hid hcu
  obtain ⟨A, C, hcu⟩ := hcu
  have c0 := hcu.c0
  have c1 := hcu.c1
  have hpi : (p : Int) < (src.size : Int) := by omega
  have n10 := nb hb.n10 10 rfl
  have n32 := nb hb.n32 32 rfl
  have n9 := nb hb.n9 9 rfl
  have n13 := nb hb.n13 13 rfl
  have hpf : pfxB (src.extract p src.size) ⟨#[47, 47]⟩ = false := by rw [pfx_iff]; exact decide_eq_false hcm
  have hpi2 : (p : Int) ≤ (src.size : Int) := by omega
  have HPF := Lib.hid hpf
  clear hcu hb hcm hpf
  generalize hcc : src[p] = b at *
  go_enter Tryz.func90, Tryz.ntmps90
  go_wp2_with fail
  go_quiet (fail)
  go_wp2_with fail
  go_quiet (exact hasPfx_is _ _ _ _ _ HPF.out)
  go_wp2_with (go_at_call 94; refine (letter_any b _).mono ?_; rintro e w1 ⟨rfl, rfl⟩; rw [hL])
  refine (name_any g src p T _ (HC.out.below (dr (Below.refl _ _) _)) hT hsz hp).mono ?_
  intro e w3 hmp
  rcases hmp.cases with ⟨rfl, x, hx, hc3, hb3⟩ | ⟨cd, hx, rfl, hb3⟩
  · have H3 := Lib.hid (And.intro hc3 hb3)
    clear hc3 hb3 hmp
    go_wp2_with fail
    go_end0
    try rw [hx]
    exact ⟨rfl, H3.out.1, (dr (Below.refl _ _) _ : Below g _ _).trans H3.out.2⟩
  · unfold stopE
    go_wp2_with fail
    try rw [hx]
    exact ⟨rfl, rfl, (dr (Below.refl _ _) _ : Below g _ _).trans hb3⟩
set_option maxHeartbeats 2000000 in
theorem token_number (g : Nat) (src : ByteArray) (p : Nat) (T : List Tk) (w : World) (hcu : CuS w g src p T) (hT : T.length ≤ 2000) (hsz : src.size ≤ 8000) (hp : p < src.size) (hb : Plain src[p]) (hcm : (src.data.toList.drop p).take 2 ≠ [47, 47]) (hL : isL src[p] = false) (hD : isD src[p] = true) :
    Calls Tryz.prog 90 #[.pointer (some ⟨g, 0, none⟩)] w (MP g src p w (numR src p T)) := by
  have HC := Lib.hid hcu
  obtain ⟨A, C, hcu⟩ := hcu
  have c0 := hcu.c0
  have c1 := hcu.c1
  have hpi : (p : Int) < (src.size : Int) := by omega
  have n10 := nb hb.n10 10 rfl
  have n32 := nb hb.n32 32 rfl
  have n9 := nb hb.n9 9 rfl
  have n13 := nb hb.n13 13 rfl
  have hpf : pfxB (src.extract p src.size) ⟨#[47, 47]⟩ = false := by rw [pfx_iff]; exact decide_eq_false hcm
  have hpi2 : (p : Int) ≤ (src.size : Int) := by omega
  have HPF := Lib.hid hpf
  clear hcu hb hcm hpf
  generalize hcc : src[p] = b at *
  go_enter Tryz.func90, Tryz.ntmps90
  go_wp2_with fail
  go_quiet (fail)
  go_wp2_with fail
  go_quiet (exact hasPfx_is _ _ _ _ _ HPF.out)
  go_wp2_with (first | (go_at_call 94; refine (letter_any b _).mono ?_; rintro e w1 ⟨rfl, rfl⟩; rw [hL]) | (go_at_call 96; refine (digit_any b _).mono ?_; rintro e w1 ⟨rfl, rfl⟩; rw [hD]))
  refine (number_any g src p T _ (HC.out.below (dr (Below.refl _ _) _)) hT hsz hp).mono ?_
  intro e w3 hmp
  rcases hmp.cases with ⟨rfl, x, hx, hc3, hb3⟩ | ⟨cd, hx, rfl, hb3⟩
  · have H3 := Lib.hid (And.intro hc3 hb3)
    clear hc3 hb3 hmp
    go_wp2_with fail
    go_end0
    try rw [hx]
    exact ⟨rfl, H3.out.1, (dr (Below.refl _ _) _ : Below g _ _).trans H3.out.2⟩
  · unfold stopE
    go_wp2_with fail
    try rw [hx]
    exact ⟨rfl, rfl, (dr (Below.refl _ _) _ : Below g _ _).trans hb3⟩
set_option maxHeartbeats 2000000 in
theorem token_text (g : Nat) (src : ByteArray) (p : Nat) (T : List Tk) (w : World) (hcu : CuS w g src p T) (hT : T.length ≤ 2000) (hsz : src.size ≤ 8000) (hp : p < src.size) (hb : Plain src[p]) (hcm : (src.data.toList.drop p).take 2 ≠ [47, 47]) (h34 : src[p] = 34) :
    Calls Tryz.prog 90 #[.pointer (some ⟨g, 0, none⟩)] w (MP g src p w (textR src p T)) := by
  have HC := Lib.hid hcu
  obtain ⟨A, C, hcu⟩ := hcu
  have c0 := hcu.c0
  have c1 := hcu.c1
  have hpi : (p : Int) < (src.size : Int) := by omega
  have n10 := nb hb.n10 10 rfl
  have n32 := nb hb.n32 32 rfl
  have n9 := nb hb.n9 9 rfl
  have n13 := nb hb.n13 13 rfl
  have hpf : pfxB (src.extract p src.size) ⟨#[47, 47]⟩ = false := by rw [pfx_iff]; exact decide_eq_false hcm
  have hpi2 : (p : Int) ≤ (src.size : Int) := by omega
  have hL : isL src[p] = false := by rw [h34]; decide
  have hD : isD src[p] = false := by rw [h34]; decide
  have H34 := Lib.hid h34
  have e34 : ((src[p].toNat : Int) == 34) = true := by rw [h34]; rfl
  clear h34
  have HPF := Lib.hid hpf
  clear hcu hb hcm hpf
  generalize hcc : src[p] = b at *
  go_enter Tryz.func90, Tryz.ntmps90
  go_wp2_with fail
  go_quiet (fail)
  go_wp2_with fail
  go_quiet (exact hasPfx_is _ _ _ _ _ HPF.out)
  go_wp2_with (first | (go_at_call 94; refine (letter_any b _).mono ?_; rintro e w1 ⟨rfl, rfl⟩; rw [hL]) | (go_at_call 96; refine (digit_any b _).mono ?_; rintro e w1 ⟨rfl, rfl⟩; rw [hD]))
  refine (text_any g src p T _ (HC.out.below (dr (Below.refl _ _) _)) hT hsz hp (by rw [hcc]; exact H34.out)).mono ?_
  intro e w3 hmp
  rcases hmp.cases with ⟨rfl, x, hx, hc3, hb3⟩ | ⟨cd, hx, rfl, hb3⟩
  · have H3 := Lib.hid (And.intro hc3 hb3)
    clear hc3 hb3 hmp
    go_wp2_with fail
    go_end0
    try rw [hx]
    exact ⟨rfl, H3.out.1, (dr (Below.refl _ _) _ : Below g _ _).trans H3.out.2⟩
  · unfold stopE
    go_wp2_with fail
    try rw [hx]
    exact ⟨rfl, rfl, (dr (Below.refl _ _) _ : Below g _ _).trans hb3⟩
def signR (src : ByteArray) (p : Nat) (T : List Tk) : Except Int (Nat × List Tk) := if signV (src.data.toList.drop p) = [] then .error 2 else putR src p (signV (src.data.toList.drop p)).length T 4
theorem sign_is {S : ByteArray} (s : ByteArray) (w : World) (q n : Nat) (h : (⟨(signV s.data.toList).toArray⟩ : ByteArray) = S) : Calls Tryz.prog 100 #[.string s] (w.drewN (q + n)) fun e w'' => e = .returned (.string S) ∧ ∃ m, w'' = w.drewN (q + m) := by
  subst h
  exact quiet_of2 (sign_any s _)
theorem signV_facts (L : List UInt8) : signV L = L.take (signV L).length ∧ (signV L).length ≤ L.length ∧ ∀ c ∈ signV L, c ≠ 10 := by
  unfold signV
  split
  · rename_i h
    refine ⟨by rw [List.length_take]; rcases Nat.le_total 2 L.length with h9 | h9; rw [Nat.min_eq_left h9]; rw [Nat.min_eq_right h9, List.take_of_length_le h9, List.take_of_length_le (Nat.le_refl _)], by rw [List.length_take]; omega, ?_⟩
    simp only [sg2, List.mem_cons, List.not_mem_nil, or_false] at h
    rcases h with h | h | h | h | h | h | h | h | h <;> (rw [h]; decide)
  · split
    · rename_i h
      cases L with
      | nil => exact absurd rfl h.2
      | cons c r =>
        refine ⟨by simp, by simp, ?_⟩
        intro d hd
        simp at hd
        subst hd
        rintro rfl
        exact absurd (show sg1.contains 10 = true from h.1) (by decide)
    · simp
set_option maxHeartbeats 2000000 in
theorem token_semi (g : Nat) (src : ByteArray) (p : Nat) (T : List Tk) (w : World) (hcu : CuS w g src p T) (hT : T.length ≤ 2000) (hsz : src.size ≤ 8000) (hp : p < src.size) (hb : Plain src[p]) (hcm : (src.data.toList.drop p).take 2 ≠ [47, 47]) (h59 : src[p] = 59) :
    Calls Tryz.prog 90 #[.pointer (some ⟨g, 0, none⟩)] w (MP g src p w (putR src p 1 T 6)) := by
  have HC := Lib.hid hcu
  obtain ⟨A, C, hcu⟩ := hcu
  have c0 := hcu.c0
  have c1 := hcu.c1
  have hpi : (p : Int) < (src.size : Int) := by omega
  have n10 := nb hb.n10 10 rfl
  have n32 := nb hb.n32 32 rfl
  have n9 := nb hb.n9 9 rfl
  have n13 := nb hb.n13 13 rfl
  have hpf : pfxB (src.extract p src.size) ⟨#[47, 47]⟩ = false := by rw [pfx_iff]; exact decide_eq_false hcm
  have hpi2 : (p : Int) ≤ (src.size : Int) := by omega
  have e34 : ((src[p].toNat : Int) == 34) = false := by rw [h59]; rfl
  have hL : isL src[p] = false := by rw [h59]; decide
  have hD : isD src[p] = false := by rw [h59]; decide
  have HS := Lib.hid (show (⟨#[59]⟩ : ByteArray) = ⟨((src.data.toList.drop p).take 1).toArray⟩ by rw [byl_drop src p hp, h59]; rfl)
  have HPl := Lib.hid (place_one hp (by rw [h59]; decide))
  have e59 : ((src[p].toNat : Int) == 59) = true := by rw [h59]; rfl
  clear h59
  have HPF := Lib.hid hpf
  clear hcu hb hcm hpf
  generalize hcc : src[p] = b at *
  go_enter Tryz.func90, Tryz.ntmps90
  go_wp2_with fail
  go_quiet (fail)
  go_wp2_with fail
  go_quiet (exact hasPfx_is _ _ _ _ _ HPF.out)
  go_wp2_with (first | (go_at_call 94; refine (letter_any b _).mono ?_; rintro e w1 ⟨rfl, rfl⟩; rw [hL]) | (go_at_call 96; refine (digit_any b _).mono ?_; rintro e w1 ⟨rfl, rfl⟩; rw [hD]))
  refine (putS g src p 1 6 ((src.data.toList.drop p).take 1) ⟨#[59]⟩ 1 T _ HS.out rfl (HC.out.below (dr (Below.refl _ _) _)) hT hsz (by omega) (by omega) HPl.out).mono ?_
  intro e w3 hmp
  rcases hmp.cases with ⟨rfl, x, hx, hc3, hb3⟩ | ⟨cd, hx, rfl, hb3⟩
  · have H3 := Lib.hid (And.intro hc3 hb3)
    clear hc3 hb3 hmp
    go_wp2_with fail
    go_end0
    unfold putR
    rw [hx]
    exact ⟨rfl, H3.out.1, (dr (Below.refl _ _) _ : Below g _ _).trans H3.out.2⟩
  · unfold stopE
    go_wp2_with fail
    unfold putR
    rw [hx]
    exact ⟨rfl, rfl, (dr (Below.refl _ _) _ : Below g _ _).trans hb3⟩
set_option maxHeartbeats 2000000 in
theorem token_sign (g : Nat) (src : ByteArray) (p : Nat) (T : List Tk) (w : World) (hcu : CuS w g src p T) (hT : T.length ≤ 2000) (hsz : src.size ≤ 8000) (hp : p < src.size) (hb : Plain src[p]) (hcm : (src.data.toList.drop p).take 2 ≠ [47, 47]) (hL : isL src[p] = false) (hD : isD src[p] = false) (h34 : src[p] ≠ 34) (h59 : src[p] ≠ 59) :
    Calls Tryz.prog 90 #[.pointer (some ⟨g, 0, none⟩)] w (MP g src p w (signR src p T)) := by
  have HC := Lib.hid hcu
  obtain ⟨A, C, hcu⟩ := hcu
  have c0 := hcu.c0
  have c1 := hcu.c1
  have hpi : (p : Int) < (src.size : Int) := by omega
  have n10 := nb hb.n10 10 rfl
  have n32 := nb hb.n32 32 rfl
  have n9 := nb hb.n9 9 rfl
  have n13 := nb hb.n13 13 rfl
  have hpf : pfxB (src.extract p src.size) ⟨#[47, 47]⟩ = false := by rw [pfx_iff]; exact decide_eq_false hcm
  have hpi2 : (p : Int) ≤ (src.size : Int) := by omega
  have e34 := nb h34 34 rfl
  have e59 := nb h59 59 rfl
  have c2 := hcu.c2
  have c3 := hcu.c3
  have HSV := Lib.hid (signV_facts (src.data.toList.drop p))
  have hst : (⟨(signV (src.extract p src.size).data.toList).toArray⟩ : ByteArray) = ⟨(signV (src.data.toList.drop p)).toArray⟩ := by rw [rest_of]
  have HST := Lib.hid hst
  clear h34 h59 hst
  have HPF := Lib.hid hpf
  clear hcu hb hcm hpf
  generalize hcc : src[p] = b at *
  go_enter Tryz.func90, Tryz.ntmps90
  go_wp2_with fail
  go_quiet (fail)
  go_wp2_with fail
  go_quiet (exact hasPfx_is _ _ _ _ _ HPF.out)
  go_wp2_with (first | (go_at_call 94; refine (letter_any b _).mono ?_; rintro e w1 ⟨rfl, rfl⟩; rw [hL]) | (go_at_call 96; refine (digit_any b _).mono ?_; rintro e w1 ⟨rfl, rfl⟩; rw [hD]))
  go_quiet (exact sign_is _ _ _ _ HST.out)
  by_cases h0 : signV (src.data.toList.drop p) = []
  · have HR := Lib.hid (show signR src p T = .error 2 by unfold signR; rw [if_pos h0])
    rw [h0]
    go_wp2_with fail
    refine (fail_any g _ _ 2 _ (by exact c2) (by exact c3)).mono ?_
    rintro e w3 ⟨rfl, m, rfl⟩
    unfold stopE
    go_wp2_with fail
    rw [HR.out]
    exact ⟨rfl, rfl, dr (Below.refl _ _) _⟩
  · have HR := Lib.hid (show signR src p T = putR src p (signV (src.data.toList.drop p)).length T 4 by unfold signR; rw [if_neg h0])
    obtain ⟨f1, f2, f3⟩ := HSV.out
    have HS := Lib.hid (show (⟨(signV (src.data.toList.drop p)).toArray⟩ : ByteArray) = ⟨((src.data.toList.drop p).take (signV (src.data.toList.drop p)).length).toArray⟩ by rw [← f1])
    have HPl := Lib.hid (place_step (L := src.data.toList) (p := p) f2 (by rw [← f1]; exact f3))
    have hln : (signV (src.data.toList.drop p)).length ≤ 8000 := by rw [drop_len] at f2; omega
    obtain ⟨X, hX⟩ : ∃ X : ByteArray, (⟨(signV (src.data.toList.drop p)).toArray⟩ : ByteArray) = X := ⟨_, rfl⟩
    have hXs : X.size = (signV (src.data.toList.drop p)).length := by rw [← hX]; rfl
    have hX0 : (X.toList == []) = false := by rw [← hX, toList_mk]; exact beq_eq_false_iff_ne.2 h0
    rw [hX] at HS ⊢
    clear f1 f2 f3 h0 hX
    generalize (signV (src.data.toList.drop p)).length = n at *
    go_wp2_with fail
    refine (putS g src p n 4 ((src.data.toList.drop p).take n) X _ T _ HS.out rfl (HC.out.below (dr (Below.refl _ _) _)) hT hsz (by omega) hln HPl.out).mono ?_
    intro e w3 hmp
    rcases hmp.cases with ⟨rfl, x, hx, hc3, hb3⟩ | ⟨cd, hx, rfl, hb3⟩
    · have H3 := Lib.hid (And.intro hc3 hb3)
      clear hc3 hb3 hmp
      go_wp2_with fail
      go_end0
      rw [HR.out]
      unfold putR
      rw [hx]
      exact ⟨rfl, H3.out.1, (dr (Below.refl _ _) _ : Below g _ _).trans H3.out.2⟩
    · unfold stopE
      go_wp2_with fail
      rw [HR.out]
      unfold putR
      rw [hx]
      exact ⟨rfl, rfl, (dr (Below.refl _ _) _ : Below g _ _).trans hb3⟩
theorem llen_place {L : List UInt8} {p i : Nat} (hi : i ≤ llen (L.drop p)) : place (L.take (p + i)) = ((place (L.take p)).1, (place (L.take p)).2 + i) := by
  have h1 := tw_len (fun c => !decide (c = 10)) (L.drop p)
  refine place_step (Nat.le_trans hi h1) fun c hc => ?_
  have h2 : c ∈ (L.drop p).take (llen (L.drop p)) := by
    have := List.take_subset_take_left (L.drop p) hi
    exact this hc
  unfold llen at h2
  rw [tw_take] at h2
  have := tw_all c h2
  simpa using this
set_option maxHeartbeats 2000000 in
theorem token_remark (g : Nat) (src : ByteArray) (p : Nat) (T : List Tk) (w : World) (hcu : CuS w g src p T) (hsz : src.size ≤ 8000) (hp : p < src.size) (hb : Plain src[p]) (hcm : (src.data.toList.drop p).take 2 = [47, 47]) :
    Calls Tryz.prog 90 #[.pointer (some ⟨g, 0, none⟩)] w (MP g src p w (.ok (p + llen (src.data.toList.drop p), T))) := by
  obtain ⟨A, C, hcu⟩ := hcu
  have c0 := hcu.c0
  have c1 := hcu.c1
  have hpb := pl_bound src p hsz
  have hpi : (p : Int) < (src.size : Int) := by omega
  have n10 := nb hb.n10 10 rfl
  have n32 := nb hb.n32 32 rfl
  have n9 := nb hb.n9 9 rfl
  have n13 := nb hb.n13 13 rfl
  have hpf : pfxB (src.extract p src.size) ⟨#[47, 47]⟩ = true := by rw [pfx_iff]; exact decide_eq_true hcm
  have hpi2 : (p : Int) ≤ (src.size : Int) := by omega
  have HPF := Lib.hid hpf
  have HCu := Lib.hid hcu
  clear hcu hb hcm hpf
  generalize hcc : src[p] = b at *
  generalize hpl : place (src.data.toList.take p) = pl at *
  have HPl := Lib.hid hpl
  clear hpl
  go_enter Tryz.func90, Tryz.ntmps90
  go_wp2_with fail
  go_quiet (fail)
  go_wp2_with fail
  go_quiet (exact hasPfx_is _ _ _ _ _ HPF.out)
  go_wp2_with fail
  go_loopg [] (src.size - p) (fun k wr => ∃ i : Nat, k + (p + i) = src.size ∧ Hid (i ≤ llen (src.data.toList.drop p)) ∧ Cu wr g src ((p : Int) + (i : Int)) pl.1 ((pl.2 : Int) + (i : Int)) (.slice A T.length C) T ∧ Below g w wr)
  case atStart => exact ⟨0, by omega, Lib.hid (Nat.zero_le _), by simpa using HCu.out.drewN _, by rw [World.drewN_drewN]; exact dr (Below.refl _ _) _⟩
  case round =>
    obtain ⟨i, hk, HI, hc, hbel⟩ := hrel
    obtain ⟨j, hj⟩ : ∃ j, j = p + i := ⟨_, rfl⟩
    have hji : (p : Int) + (i : Int) = (j : Int) := by omega
    rw [hji] at hc
    have d0 := hc.c0
    have d1 := hc.c1
    have d3 := hc.c3
    have f1 := hc.fz 1
    have f3 := hc.fz 3
    have HJ := Lib.hid hj
    have HH := Lib.hid (And.intro hc hbel)
    have hjs : j ≤ src.size := by omega
    have HK := Lib.hid hk
    have hil : i ≤ 8000 := by omega
    clear hc hbel hj hji c0 c1 hk
    by_cases hlt : j < src.size
    · have HG := Lib.hid (src_get src p i j HJ.out hlt)
      generalize hcj : src[j] = c at *
      by_cases h10 : c = 10
      · have HE := Lib.hid (show llen (src.data.toList.drop p) = i from Nat.le_antisymm (tw_stop HG.out (by simp [h10])) HI.out)
        have e10 : ((c.toNat : Int) != 10) = false := by rw [h10]; rfl
        have hji : (j : Int) < (src.size : Int) := by omega
        go_wp2_with fail
        go_quiet (fail)
        go_wp2_with fail
        go_end0
        refine ⟨rfl, ⟨A, C, ?_⟩, dr HH.out.2 _⟩
        show Cu _ g src ((p + llen (src.data.toList.drop p) : Nat) : Int) _ _ _ _
        rw [HE.out, llen_place HI.out, HPl.out, ← HJ.out]
        exact HH.out.1.drewN _
      · have HI2 := Lib.hid (tw_step (P := fun c => !decide (c = 10)) HI.out HG.out (by simp [h10]))
        have e10 : ((c.toNat : Int) != 10) = true := neq_c (d := 10) h10
        have hji : (j : Int) < (src.size : Int) := by omega
        go_wp2_with fail
        go_quiet (fail)
        go_wp2_with fail
        go_roundg (gk - 1)
        case measure => have := HK.out; have := HJ.out; omega
        case rel =>
          refine ⟨i + 1, by have := HK.out; have := HJ.out; omega, HI2, ?_, ((dr HH.out.2 _).setCell (Nat.le_refl _) _).setCell (Nat.le_refl _) _⟩
          have h5 := ((HH.out.1.drewN nq).set1 ((j : Int) + 1)).set3 ((pl.2 : Int) + (i : Int) + 1)
          rw [show (p : Int) + ((i + 1 : Nat) : Int) = (j : Int) + 1 by have := HJ.out; omega, show (pl.2 : Int) + ((i + 1 : Nat) : Int) = (pl.2 : Int) + (i : Int) + 1 by omega]
          exact h5
    · have HE := Lib.hid (show llen (src.data.toList.drop p) = i from Nat.le_antisymm (by have h := tw_len (fun c => !decide (c = 10)) (src.data.toList.drop p); rw [drop_len] at h; unfold llen; have := HJ.out; omega) HI.out)
      have hji : ¬ (j : Int) < (src.size : Int) := by omega
      go_wp2_with fail
      go_quiet (fail)
      go_wp2_with fail
      go_end0
      refine ⟨rfl, ⟨A, C, ?_⟩, dr HH.out.2 _⟩
      show Cu _ g src ((p + llen (src.data.toList.drop p) : Nat) : Int) _ _ _ _
      rw [HE.out, llen_place HI.out, HPl.out, ← HJ.out]
      exact HH.out.1.drewN _
end Go.Proofs.YtjegfimagjmpdaaGreatDoor
end
section
/- The cutter's 'token' is the plain step. Conditions: none. -/
set_option maxRecDepth 20000
namespace Go.Proofs.YtjegfimagjmpdaaGreatDoor
open Go.ChangeShapes Go.WideShapes Go.ChangeAt Go.RowKit
theorem nx_put {src : ByteArray} {p n : Nat} {T : List Tk} {k : Int} (h : stepS (src.data.toList.drop p) = .tok k n) : nx src.data.toList p T = putR src p n T k := by
  unfold nx putR addR
  rw [h]
  all_goals
    dsimp only
    cases addT src.data.toList p T k ((src.data.toList.drop p).take n) <;> rfl
theorem nx_err {src : ByteArray} {p : Nat} {T : List Tk} {c : Int} (h : stepS (src.data.toList.drop p) = .err c) : nx src.data.toList p T = .error c := by
  unfold nx
  rw [h]
theorem nx_skip {src : ByteArray} {p n : Nat} {T : List Tk} (h : stepS (src.data.toList.drop p) = .skip n) : nx src.data.toList p T = .ok (p + n, T) := by
  unfold nx
  rw [h]
theorem nx_nl {src : ByteArray} {p : Nat} {T : List Tk} (h : stepS (src.data.toList.drop p) = .nl) : nx src.data.toList p T = semiR src p (p + 1) T := by
  unfold nx semiR
  rw [h]
  all_goals
    dsimp only
    cases semiT src.data.toList p T <;> rfl
theorem token_any (g : Nat) (src : ByteArray) (p : Nat) (T : List Tk) (w : World) (hcu : CuS w g src p T) (hT : T.length ≤ 2000) (hsz : src.size ≤ 8000) (hp : p < src.size) :
    Calls Tryz.prog 90 #[.pointer (some ⟨g, 0, none⟩)] w (MP g src p w (nx src.data.toList p T)) := by
  have hhd := head_get src p hp
  by_cases h10 : src[p] = 10
  · rw [nx_nl (by unfold stepS; simp only [hhd]; rw [if_pos h10])]
    exact token_nl g src p T w hcu hT hsz hp h10
  by_cases hbl : src[p] = 32 ∨ src[p] = 9 ∨ src[p] = 13
  · rw [nx_skip (by unfold stepS; simp only [hhd]; rw [if_neg h10, if_pos hbl])]
    exact token_blank g src p T w hcu hsz hp hbl
  have hpl : Plain src[p] := ⟨h10, fun h => hbl (.inl h), fun h => hbl (.inr (.inl h)), fun h => hbl (.inr (.inr h))⟩
  by_cases hcm : (src.data.toList.drop p).take 2 = [47, 47]
  · rw [nx_skip (by unfold stepS; simp only [hhd]; rw [if_neg h10, if_neg hbl, if_pos hcm])]
    exact token_remark g src p T w hcu hsz hp hpl hcm
  cases hL : isL src[p] with
  | true =>
    have e : nx src.data.toList p T = nameR src p T := by
      unfold nameR
      by_cases h16 : 16 < alen (src.data.toList.drop p)
      · rw [if_pos h16]
        exact nx_err (by unfold stepS; simp only [hhd]; rw [if_neg h10, if_neg hbl, if_neg hcm, if_pos hL, if_pos h16])
      · rw [if_neg h16]
        exact nx_put (by unfold stepS; simp only [hhd]; rw [if_neg h10, if_neg hbl, if_neg hcm, if_pos hL, if_neg h16])
    rw [e]
    exact token_name g src p T w hcu hT hsz hp hpl hcm hL
  | false =>
    have hLn : ¬ isL src[p] = true := by rw [hL]; simp
    cases hD : isD src[p] with
    | true =>
      have e : nx src.data.toList p T = numR src p T := by
        unfold numR
        split
        · rename_i h
          exact nx_err (by unfold stepS; simp only [hhd]; rw [if_neg h10, if_neg hbl, if_neg hcm, if_neg hLn, if_pos hD, if_pos h])
        · rename_i h
          exact nx_put (by unfold stepS; simp only [hhd]; rw [if_neg h10, if_neg hbl, if_neg hcm, if_neg hLn, if_pos hD, if_neg h])
      rw [e]
      exact token_number g src p T w hcu hT hsz hp hpl hcm hL hD
    | false =>
      have hDn : ¬ isD src[p] = true := by rw [hD]; simp
      by_cases h34 : src[p] = 34
      · have e : nx src.data.toList p T = textR src p T := by
          unfold textR
          split
          · rename_i h
            exact nx_err (by unfold stepS; simp only [hhd]; rw [if_neg h10, if_neg hbl, if_neg hcm, if_neg hLn, if_neg hDn, if_pos h34, if_pos h])
          · rename_i h
            exact nx_put (by unfold stepS; simp only [hhd]; rw [if_neg h10, if_neg hbl, if_neg hcm, if_neg hLn, if_neg hDn, if_pos h34, if_neg h])
        rw [e]
        exact token_text g src p T w hcu hT hsz hp hpl hcm h34
      · by_cases h59 : src[p] = 59
        · rw [nx_put (k := 6) (n := 1) (by unfold stepS; simp only [hhd]; rw [if_neg h10, if_neg hbl, if_neg hcm, if_neg hLn, if_neg hDn, if_neg h34, if_pos h59])]
          exact token_semi g src p T w hcu hT hsz hp hpl hcm h59
        · have e : nx src.data.toList p T = signR src p T := by
            unfold signR
            split
            · rename_i h
              exact nx_err (by unfold stepS; simp only [hhd]; rw [if_neg h10, if_neg hbl, if_neg hcm, if_neg hLn, if_neg hDn, if_neg h34, if_neg h59, if_pos h])
            · rename_i h
              exact nx_put (by unfold stepS; simp only [hhd]; rw [if_neg h10, if_neg hbl, if_neg hcm, if_neg hLn, if_neg hDn, if_neg h34, if_neg h59, if_neg h])
          rw [e]
          exact token_sign g src p T w hcu hT hsz hp hpl hcm hL hD h34 h59
/-! ### the plain step goes on, and stays within bounds -/
theorem addT_len {L : List UInt8} {p : Nat} {T T' : List Tk} {k : Int} {s : List UInt8} (h : addT L p T k s = some T') (hT : T.length ≤ 2000) : T'.length ≤ 2000 := by
  unfold addT at h
  split at h
  · cases h
  · injection h with h
    subst h
    simp
    omega
theorem semiT_len {L : List UInt8} {p : Nat} {T T' : List Tk} (h : semiT L p T = some T') (hT : T.length ≤ 2000) : T'.length ≤ 2000 := by
  unfold semiT at h
  split at h
  · exact addT_len h hT
  · injection h with h
    subst h
    exact hT
theorem isA_pos {L : List UInt8} (hne : L ≠ []) (h : isA (L.headD 0) = true) : 0 < alen L := by
  cases L with
  | nil => exact absurd rfl hne
  | cons c r =>
    unfold alen
    rw [List.takeWhile_cons_of_pos (by simpa using h)]
    simp
theorem textLen_le (L : List UInt8) : textLen L ≤ L.length := by
  cases L with
  | nil => simp [textLen]
  | cons c r =>
    rw [textLen]
    split
    · simp
    · split
      · simp
      · simp; omega
theorem step_len {L : List UInt8} (hne : L ≠ []) : (∀ n, stepS L = .skip n → 0 < n ∧ n ≤ L.length) ∧ (∀ k n, stepS L = .tok k n → 0 < n ∧ n ≤ L.length) := by
  have h1 : 1 ≤ L.length := List.length_pos_iff.2 hne
  have ha : alen L ≤ L.length := tw_len _ _
  have hl : llen L ≤ L.length := tw_len _ _
  have hs := (signV_facts L).2.1
  have ht := textLen_le L
  unfold stepS
  simp only
  refine ⟨fun n h => ?_, fun k n h => ?_⟩
  · split at h
    · cases h
    · split at h
      · injection h with h; omega
      · split at h
        · rename_i hn _ hcm
          injection h with h
          subst h
          refine ⟨?_, hl⟩
          cases L with
          | nil => exact absurd rfl hne
          | cons c r =>
            unfold llen
            rw [List.takeWhile_cons_of_pos (by simpa using hn)]
            simp
        · repeat' split at h
          all_goals cases h
  · split at h
    · cases h
    · split at h
      · cases h
      · split at h
        · cases h
        · split at h
          · rename_i hL
            have hpos := isA_pos hne (by unfold isA; rw [hL]; rfl)
            split at h
            · cases h
            · injection h with _ h; omega
          · split at h
            · rename_i hD
              have hpos := isA_pos hne (by unfold isA; rw [hD]; simp)
              split at h
              · cases h
              · injection h with _ h; omega
            · split at h
              · split at h
                · cases h
                · injection h with _ h; omega
              · split at h
                · injection h with _ h; omega
                · split at h
                  · cases h
                  · rename_i hsg
                    injection h with _ h
                    have := List.length_pos_iff.2 hsg
                    omega
theorem nx_ok {src : ByteArray} {p p' : Nat} {T T' : List Tk} (hp : p < src.size) (hT : T.length ≤ 2000) (h : nx src.data.toList p T = .ok (p', T')) : p < p' ∧ p' ≤ src.size ∧ T'.length ≤ 2000 := by
  have hne : src.data.toList.drop p ≠ [] := fun e => by
    have := drop_len src p
    rw [e] at this
    simp at this
    omega
  obtain ⟨h1, h2⟩ := step_len hne
  have hd := drop_len src p
  cases hs : stepS (src.data.toList.drop p) with
  | nl =>
    rw [nx_nl hs] at h
    unfold semiR at h
    split at h
    · cases h
    · rename_i T'' hT''
      injection h with h
      injection h with e1 e2
      subst e1 e2
      exact ⟨by omega, by omega, semiT_len hT'' hT⟩
  | skip n =>
    rw [nx_skip hs] at h
    injection h with h
    injection h with e1 e2
    subst e1 e2
    have := h1 n hs
    exact ⟨by omega, by omega, hT⟩
  | tok k n =>
    rw [nx_put hs] at h
    unfold putR addR at h
    split at h
    · cases h
    · rename_i T'' hT''
      injection h with h
      injection h with e1 e2
      subst e1 e2
      have := h2 k n hs
      exact ⟨by omega, by omega, addT_len hT'' hT⟩
  | err c =>
    rw [nx_err hs] at h
    cases h
end Go.Proofs.YtjegfimagjmpdaaGreatDoor
end
section
/- 'scan.Tokens'. Conditions: none. -/
set_option maxRecDepth 20000
namespace Go.Proofs.YtjegfimagjmpdaaGreatDoor
open Go.ChangeShapes Go.WideShapes Go.ChangeAt Go.RowKit
/-- The results behind a panic. -/
def caught (w : World) (a b : Nat) (code l c : Int) : World := ((((w.setCell ⟨a, 0, none⟩ (.slice none 0 0)).setCell ⟨b, 0, none⟩ (.int .i64 code)).setCell ⟨b, 1, none⟩ (.int .i64 l)).setCell ⟨b, 2, none⟩ (.int .i64 c))
theorem catch_idle (a b : Nat) (w : World) :
    CallsD Tryz.prog 89 #[.pointer (some ⟨a, 0, none⟩), .pointer (some ⟨b, 0, none⟩)] .returning w fun e u' w' => e = .returned (.tuple #[]) ∧ u' = .returning ∧ w' = w := by
  refine callsD_of_wpS Tryz.func89 rfl fun c₀ cs hu => ?_
  apply wpS_seq
  apply wpS_region
  simp [wpOpsS, go_sem, recoverD, hu, Tryz.ntmps89, Exit.thenS]
  apply wpS_seq
  apply wpS_region
  simp [wpOpsS, go_sem, Exit.thenS]
  refine wpS_cond (t := false) (by simp [Act.eval, Array.replicate]) ?_
  simp only [Bool.false_eq_true, if_false]
  refine wpS_of_wp (wp_skip ?_)
  cases c₀
  simp_all [bodyPostS, results, Tryz.results89]
theorem catch_panicking (a b : Nat) (hab : a ≠ b) (x x0 x1 x2 : Value) (code l c : Int) (older : List PanicEntry) (w : World) (ha : w.cell? ⟨a, 0, none⟩ = some x) (h0 : w.cell? ⟨b, 0, none⟩ = some x0) (h1 : w.cell? ⟨b, 1, none⟩ = some x1) (h2 : w.cell? ⟨b, 2, none⟩ = some x2)
    (fa : w.frozen? ⟨a, 0, none⟩ = false) (f0 : w.frozen? ⟨b, 0, none⟩ = false) (f1 : w.frozen? ⟨b, 1, none⟩ = false) (f2 : w.frozen? ⟨b, 2, none⟩ = false) :
    CallsD Tryz.prog 89 #[.pointer (some ⟨a, 0, none⟩), .pointer (some ⟨b, 0, none⟩)] (.panicking ({ v := stopV code l c, recovered := false } :: older)) w fun e u' w' => e = .returned (.tuple #[]) ∧ u' = .panicking ({ v := stopV code l c, recovered := true } :: older) ∧ ∃ n, w' = caught (w.drewN n) a b code l c := by
  refine callsD_of_wpS Tryz.func89 rfl fun c₀ cs hu => ?_
  apply wpS_seq
  apply wpS_region
  unfold stopV at hu ⊢
  simp [wpOpsS, go_sem, recoverD, hu, Tryz.ntmps89, Exit.thenS]
  apply wpS_seq
  apply wpS_region
  simp [wpOpsS, go_sem, Exit.thenS]
  refine wpS_cond (t := true) (by simp [Act.eval, Array.replicate]) ?_
  simp only [if_true]
  refine wpS_of_wp ?_
  have hta : ∀ (v : Value) (w : World), (Instr.typeAssert (Value.iface 135 v) 20 135 false).run Tryz.prog w = .ok v w := fun v w => by kernel_rfl
  have hfl : ∀ w, (Instr.field 135 (.agg #[.int .i64 code, .int .i64 l, .int .i64 c]) 0).run Tryz.prog w = .ok (.agg #[.int .i64 code, .int .i64 l, .int .i64 c]) w := fun w => by kernel_rfl
  generalize hfr : (#[Value.pointer (some ⟨a, 0, none⟩), Value.pointer (some ⟨b, 0, none⟩)] ++ _ : Array Value) = fr
  have hfr2 : fr = #[.pointer (some ⟨a, 0, none⟩), .pointer (some ⟨b, 0, none⟩), .iface 135 (.agg #[.int .i64 code, .int .i64 l, .int .i64 c]), .iface 135 (.agg #[.int .i64 code, .int .i64 l, .int .i64 c]), .iface 135 (.agg #[.int .i64 code, .int .i64 l, .int .i64 c]), .bool true, undef, undef, undef] := by rw [← hfr]; rfl
  subst hfr2
  clear hfr
  go_region
  simp [bodyPostS, results, Tryz.results89]
  exact ⟨1, rfl⟩
theorem tokens_long (src : ByteArray) (w : World) (h : 8000 < src.size) : Calls Tryz.prog 76 #[.string src] w fun e w' => e = .returned (.tuple #[.slice none 0 0, .agg #[.int .i64 1, .int .i64 0, .int .i64 0]]) ∧ Below w.heap.size w w' := by
  go_enter_defers Tryz.func76, Tryz.ntmps76
  go_wp2
  unfold bodyPostD
  simp [Leaves, results, Tryz.results76, go_sem]
  exact sq (al _) (al _)
/-- What 'Tokens' comes to. -/
def TP (src : ByteArray) (e : Ending) (w' : World) : Prop :=
  ∃ R, Runs src.data.toList 0 [] R ∧ match R with
  | .ok T => ∃ A C, e = .returned (.tuple #[.slice A T.length C, .agg #[.int .i64 0, .int .i64 0, .int .i64 0]]) ∧ Rd w' w'.heap.size 4 A T.length (tkC T) ∧ T.length ≤ 2000
  | .bad c p => e = .returned (.tuple #[.slice none 0 0, .agg #[.int .i64 c, .int .i64 (p.1 : Int), .int .i64 (p.2 : Int)]])
theorem set4 {a w : World} {g : Nat} (h : Below g a w) (v0 v1 v2 v3 : Value) : Below g a ((((w.setCell ⟨g, 0, none⟩ v0).setCell ⟨g + 1, 0, none⟩ v1).setCell ⟨g + 1, 1, none⟩ v2).setCell ⟨g + 1, 2, none⟩ v3) :=
  Below.setCell (Below.setCell (Below.setCell (Below.setCell h (p := ⟨g, 0, none⟩) (Nat.le_refl g) v0) (p := ⟨g + 1, 0, none⟩) (Nat.le_succ g) v1) (p := ⟨g + 1, 1, none⟩) (Nat.le_succ g) v2) (p := ⟨g + 1, 2, none⟩) (Nat.le_succ g) v3
/-- The cells of the results, still nothing in them. -/
structure RC (w : World) (g : Nat) : Prop where
  r0 : w.cell? ⟨g, 0, none⟩ = some (.slice none 0 0)
  r1 : w.cell? ⟨g + 1, 0, none⟩ = some (.int .i64 0)
  r2 : w.cell? ⟨g + 1, 1, none⟩ = some (.int .i64 0)
  r3 : w.cell? ⟨g + 1, 2, none⟩ = some (.int .i64 0)
  z0 : w.frozen? ⟨g, 0, none⟩ = false
  z1 : w.frozen? ⟨g + 1, 0, none⟩ = false
  z2 : w.frozen? ⟨g + 1, 1, none⟩ = false
  z3 : w.frozen? ⟨g + 1, 2, none⟩ = false
theorem RC.below {w w' : World} {g : Nat} (h : RC w g) (hb : Below (g + 1 + 1) w w') : RC w' g :=
  ⟨(hb.cell (p := ⟨g, 0, none⟩) (show g < g + 1 + 1 by omega)).trans h.r0, (hb.cell (p := ⟨g + 1, 0, none⟩) (show g + 1 < g + 1 + 1 by omega)).trans h.r1, (hb.cell (p := ⟨g + 1, 1, none⟩) (show g + 1 < g + 1 + 1 by omega)).trans h.r2, (hb.cell (p := ⟨g + 1, 2, none⟩) (show g + 1 < g + 1 + 1 by omega)).trans h.r3,
    (hb.frozen (p := ⟨g, 0, none⟩) (show g < g + 1 + 1 by omega)).trans h.z0, (hb.frozen (p := ⟨g + 1, 0, none⟩) (show g + 1 < g + 1 + 1 by omega)).trans h.z1, (hb.frozen (p := ⟨g + 1, 1, none⟩) (show g + 1 < g + 1 + 1 by omega)).trans h.z2, (hb.frozen (p := ⟨g + 1, 2, none⟩) (show g + 1 < g + 1 + 1 by omega)).trans h.z3⟩
set_option maxHeartbeats 2000000 in
theorem tokens_any (src : ByteArray) (w : World) (hsz : src.size ≤ 8000) : Calls Tryz.prog 76 #[.string src] w fun e w' => TP src e w' ∧ Below w.heap.size w w' := by
  have hmf : ∀ (fn : Fn) (first cap : Array Value) (w : World), (Instr.makeFunc fn first cap).run Tryz.prog w = .ok (.func fn first cap) w := fun _ _ _ _ => rfl
  have hn0 : ¬ 8000 < (src.size : Int) := by omega
  go_enter_defers Tryz.func76, Tryz.ntmps76
  go_wp2_with fail
  generalize hw3 : World.alloc _ (Obj.cells #[Value.string src, _, _, _, _] _) = w3
  have hb3 : Below w.heap.size w w3 ∧ w3.heap.size = w.heap.size + 3 := by subst hw3; exact ⟨sq (sq (al _) (al _)) (al _), by simp⟩
  have hcu3 : CuS w3 (w.heap.size + 1 + 1) src 0 [] := by
    subst hw3
    refine ⟨none, 0, by simp [go_sem], by simp [go_sem], by simp [go_sem, place], by simp [go_sem, place], by simp [go_sem], fun k => ?_, World.ownsRow_nil _ _ _ _⟩
    simp [go_sem]
  have hrc : RC w3 w.heap.size := by subst hw3; constructor <;> simp [go_sem]
  clear hw3
  generalize hg : w.heap.size = g at *
  go_loopg [] (src.size - 0) (fun k wr => ∃ (p : Nat) (T : List Tk), k + p = src.size ∧ T.length ≤ 2000 ∧ Hid (∀ R, Runs src.data.toList p T R → Runs src.data.toList 0 [] R) ∧ CuS wr (g + 1 + 1) src p T ∧ Below (g + 1 + 1) w3 wr)
  case atStart => exact ⟨0, [], by omega, by simp, Lib.hid fun _ h => h, hcu3, Below.refl _ _⟩
  case round =>
    obtain ⟨p, T, hk, hT, HR, hcu, hbel⟩ := hrel
    have HH := Lib.hid (And.intro hcu hbel)
    obtain ⟨A, C, hc⟩ := hcu
    have d0 := hc.c0
    have d1 := hc.c1
    clear hc hbel
    by_cases hp : p < src.size
    · have hpi : (p : Int) < (src.size : Int) := by omega
      go_wp2_with fail
      refine (token_any (g + 1 + 1) src p T wr HH.out.1 hT hsz hp).mono ?_
      generalize hnx : nx src.data.toList p T = r
      rintro e w4 hm
      rcases r with c | ⟨p', T'⟩
      · obtain ⟨rfl, hb4⟩ := hm
        have HB := Lib.hid (HH.out.2.trans hb4)
        have hrc4 := hrc.below HB.out
        clear hb4
        unfold stopE
        go_wp2_with fail
        unfold bodyPostD
        have hb4' := HB.out
        refine leaves_cons (f := 89) (args := #[.pointer (some ⟨g, 0, none⟩), .pointer (some ⟨g + 1, 0, none⟩)]) (by simp) (by simp [go_sem]) ?_
        refine (catch_panicking g (g + 1) (by omega) _ _ _ _ _ _ _ [] w4 hrc4.r0 hrc4.r1 hrc4.r2 hrc4.r3 hrc4.z0 hrc4.z1 hrc4.z2 hrc4.z3).mono ?_
        rintro e u' w'' ⟨rfl, rfl, n, rfl⟩
        unfold caught
        simp [Leaves, settle, results, Tryz.results76, go_sem, hrc4.r0, hrc4.r1, hrc4.r2, hrc4.r3]
        refine ⟨⟨_, HR.out _ (.bad (by simpa using hp) hnx), rfl⟩, ?_⟩
        rw [hg]
        exact set4 (dr (hb3.1.trans (hb4'.mono (by omega))) n) _ _ _ _
      · obtain ⟨rfl, hcu4, hb4⟩ := hm
        obtain ⟨hlt, hle, hT'⟩ := nx_ok hp hT hnx
        have HB := Lib.hid (HH.out.2.trans hb4)
        clear hb4
        have HC4 := Lib.hid hcu4
        clear hcu4
        go_wp2_with fail
        go_roundg (src.size - p')
        case measure => omega
        case rel => exact ⟨p', T', by omega, hT', Lib.hid fun R hR => HR.out R (.step (by simpa using hp) hnx hR), HC4.out, HB.out⟩
    · have hpi : ¬ (p : Int) < (src.size : Int) := by omega
      go_wp2_with fail
      refine (lineEnd_any (g + 1 + 1) src p T wr HH.out.1 hT hsz (by omega)).mono ?_
      unfold semiR
      generalize hsm : semiT src.data.toList p T = r
      rintro e w4 hm
      rcases r with _ | T'
      · obtain ⟨rfl, hb4⟩ := hm
        have HB := Lib.hid (HH.out.2.trans hb4)
        have hrc4 := hrc.below HB.out
        clear hb4
        unfold stopE
        go_wp2_with fail
        unfold bodyPostD
        have hb4' := HB.out
        refine leaves_cons (f := 89) (args := #[.pointer (some ⟨g, 0, none⟩), .pointer (some ⟨g + 1, 0, none⟩)]) (by simp) (by simp [go_sem]) ?_
        refine (catch_panicking g (g + 1) (by omega) _ _ _ _ _ _ _ [] w4 hrc4.r0 hrc4.r1 hrc4.r2 hrc4.r3 hrc4.z0 hrc4.z1 hrc4.z2 hrc4.z3).mono ?_
        rintro e u' w'' ⟨rfl, rfl, n, rfl⟩
        unfold caught
        simp [Leaves, settle, results, Tryz.results76, go_sem, hrc4.r0, hrc4.r1, hrc4.r2, hrc4.r3]
        refine ⟨⟨_, HR.out _ (.full (by simpa using hp) hsm), rfl⟩, ?_⟩
        rw [hg]
        exact set4 (dr (hb3.1.trans (hb4'.mono (by omega))) n) _ _ _ _
      · obtain ⟨rfl, hcu4, hb4⟩ := hm
        have HB := Lib.hid (HH.out.2.trans hb4)
        have HC4 := Lib.hid hcu4
        obtain ⟨A4, C4, hc4⟩ := hcu4
        have e4 := hc4.c4
        have HC5 := Lib.hid hc4
        obtain ⟨r0, r1, r2, r3, z0, z1, z2, z3⟩ := hrc.below HB.out
        clear hc4 hb4
        go_wp2_with fail
        unfold bodyPostD
        refine leaves_cons (f := 89) (args := #[.pointer (some ⟨g, 0, none⟩), .pointer (some ⟨g + 1, 0, none⟩)]) (by simp) (by simp [go_sem]) ?_
        refine (catch_idle g (g + 1) _).mono ?_
        rintro e u' w'' ⟨rfl, rfl, rfl⟩
        simp [Leaves, settle, results, Tryz.results76, go_sem, r0, r1, r2, r3]
        refine ⟨⟨_, HR.out _ (.fin (by simp; omega) hsm), A4, C4, rfl, ?_, semiT_len hsm hT⟩, ?_⟩
        · exact Rd.of_own (own_cell (own_cell (own_cell (own_cell HC5.out.row (a := ⟨g, 0, none⟩) (show g < g + 1 + 1 + 1 by omega) _) (a := ⟨g + 1, 0, none⟩) (show g + 1 < g + 1 + 1 + 1 by omega) _) (a := ⟨g + 1, 1, none⟩) (show g + 1 < g + 1 + 1 + 1 by omega) _) (a := ⟨g + 1, 2, none⟩) (show g + 1 < g + 1 + 1 + 1 by omega) _)
        · rw [hg]
          exact set4 (hb3.1.trans (HB.out.mono (by omega))) _ _ _ _
end Go.Proofs.YtjegfimagjmpdaaGreatDoor
end
section
/- The document's 'Tokens': ahead of its walk. Conditions: none. -/
set_option maxRecDepth 20000
namespace Go.Proofs.YtjegfimagjmpdaaGreatDoor
open Go.ChangeShapes Go.WideShapes Go.ChangeAt Go.RowKit
/-- The document's cutter: the source at block g, the list at block g+2. -/
structure RT (w : World) (g : Nat) (src : ByteArray) (v : Value) (T : List Tk) : Prop where
  c0 : w.cell? ⟨g, 0, none⟩ = some (.string src)
  c4 : w.cell? ⟨g + 2, 0, none⟩ = some v
  f4 : w.frozen? ⟨g + 2, 0, none⟩ = false
  row : w.ownsRow (g + 3) 125 4 v T.length (tkC T)
theorem RT.grew {W w : World} {g n : Nat} {V : Value} {xs : List Value} {o : Obj} (hr : W.ownsRow (g + 3) 125 4 V n xs) (h : (W.alloc o).grownBy w V.ownBlock) (hg : g + 2 < W.heap.size) : Below (g + 3) W w := by
  refine (Below.alloc (Below.refl (g + 3) W) (by omega) o).grown h (by simp; omega) ?_
  intro q hq
  rcases hr.2 with ⟨rfl, _⟩ | ⟨g', cap, cur, rfl, hb, _⟩
  · cases hq
  · simp [Value.ownBlock] at hq; omega
/-- The result's cells, as they were at first. -/
structure SC (w : World) (g : Nat) : Prop where
  r1 : w.cell? ⟨g + 1, 0, none⟩ = some (.int .i64 0)
  r2 : w.cell? ⟨g + 1, 1, none⟩ = some (.int .i64 0)
  r3 : w.cell? ⟨g + 1, 2, none⟩ = some (.int .i64 0)
  z1 : w.frozen? ⟨g + 1, 0, none⟩ = false
  z2 : w.frozen? ⟨g + 1, 1, none⟩ = false
  z3 : w.frozen? ⟨g + 1, 2, none⟩ = false
theorem SC.below {w w' : World} {g : Nat} (h : SC w g) (hb : Below (g + 2) w w') : SC w' g :=
  ⟨(hb.cell (p := ⟨g + 1, 0, none⟩) (show g + 1 < g + 2 by omega)).trans h.r1, (hb.cell (p := ⟨g + 1, 1, none⟩) (show g + 1 < g + 2 by omega)).trans h.r2, (hb.cell (p := ⟨g + 1, 2, none⟩) (show g + 1 < g + 2 by omega)).trans h.r3,
    (hb.frozen (p := ⟨g + 1, 0, none⟩) (show g + 1 < g + 2 by omega)).trans h.z1, (hb.frozen (p := ⟨g + 1, 1, none⟩) (show g + 1 < g + 2 by omega)).trans h.z2, (hb.frozen (p := ⟨g + 1, 2, none⟩) (show g + 1 < g + 2 by omega)).trans h.z3⟩
/-- Where the loop stands. -/
def AtR (src : ByteArray) (p : Nat) (T : List Tk) : Prop :=
  (p ≤ src.size ∧ ∀ R, Runs src.data.toList p T R → Runs src.data.toList 0 [] R) ∨ (p = src.size + 1 ∧ Runs src.data.toList 0 [] (.ok T))
/-- The last token is one that the signs and words of the language allow. -/
def LastG (T : List Tk) : Prop := ∀ t, T.getLast? = some t → (t.k = 4 → t.s.data.toList ∈ sgW) ∧ (t.k = 5 → wordB t.s.data.toList = true)
theorem own_into {w w' : World} {base : Nat} {e : TypeId} {size : Nat} {v : Value} {n : Nat} {xs : List Value} (h : w.ownsRow base e size v n xs) (hb : Below w.heap.size w w') : w'.ownsRow base e size v n xs := by
  refine ⟨h.1, ?_⟩
  rcases h.2 with h2 | ⟨q, cap, cur, e, hq, hh, r⟩
  · exact .inl h2
  · refine .inr ⟨q, cap, cur, e, hq, ?_, r⟩
    rw [hb.block q ?_]
    · exact hh
    · rcases Nat.lt_or_ge q w.heap.size with h5 | h5
      · exact h5
      · rw [Array.getElem?_eq_none h5] at hh; cases hh
theorem RT.lt {w : World} {g : Nat} {src : ByteArray} {v : Value} {T : List Tk} (h : RT w g src v T) : g + 2 < w.heap.size := World.block_lt_of_cell? w ⟨g + 2, 0, none⟩ h.c4
theorem RT.into {w w' : World} {g : Nat} {src : ByteArray} {v : Value} {T : List Tk} (h : RT w g src v T) (hb : Below w.heap.size w w') : RT w' g src v T := by
  have hg := h.lt
  exact ⟨(hb.cell (p := ⟨g, 0, none⟩) (show g < w.heap.size by omega)).trans h.c0, (hb.cell (p := ⟨g + 2, 0, none⟩) hg).trans h.c4, (hb.frozen (p := ⟨g + 2, 0, none⟩) hg).trans h.f4, own_into h.row hb⟩
theorem RT.last {w : World} {g : Nat} {src : ByteArray} {A : Option Addr} {C : Nat} {T0 : List Tk} {t : Tk} (h : RT w g src (.slice A (T0.length + 1) C) (T0 ++ [t])) :
    ∃ b, A = some ⟨b, 0, none⟩ ∧ w.cell? ⟨b, T0.length * 4, none⟩ = some (.int .i64 t.k) ∧ w.cell? ⟨b, T0.length * 4 + 1, none⟩ = some (.string t.s) ∧ w.cell? ⟨b, T0.length * 4 + 2, none⟩ = some (.int .i64 t.l) ∧ w.cell? ⟨b, T0.length * 4 + 3, none⟩ = some (.int .i64 t.c) := by
  have hr := Rd.of_own (by simpa using h.row : w.ownsRow (g + 3) 125 4 (.slice A (T0.length + 1) C) (T0.length + 1) (tkC (T0 ++ [t])))
  obtain ⟨b, off, e, _, hc⟩ := hr.2 (by omega)
  have h0 : off = 0 := by
    rcases h.row.2 with ⟨h1, _⟩ | ⟨q, cap, cur, h1, _⟩
    · simp at h1
    · simp at h1
      rw [e] at h1
      simp at h1
      exact h1.1.2
  subst h0
  refine ⟨b, e, ?_, ?_, ?_, ?_⟩
  · have := hc (T0.length * 4) (.int .i64 t.k) (by rw [show T0 ++ [t] = T0 ++ [⟨t.k, t.s, t.l, t.c⟩] from rfl, tkC_snoc, List.getElem?_append_right (by rw [tkC_len]; omega), tkC_len]; simp)
    simpa using this
  · have := hc (T0.length * 4 + 1) (.string t.s) (by rw [show T0 ++ [t] = T0 ++ [⟨t.k, t.s, t.l, t.c⟩] from rfl, tkC_snoc, List.getElem?_append_right (by rw [tkC_len]; omega), tkC_len, Nat.add_sub_cancel_left]; rfl)
    simpa using this
  · have := hc (T0.length * 4 + 2) (.int .i64 t.l) (by rw [show T0 ++ [t] = T0 ++ [⟨t.k, t.s, t.l, t.c⟩] from rfl, tkC_snoc, List.getElem?_append_right (by rw [tkC_len]; omega), tkC_len, Nat.add_sub_cancel_left]; rfl)
    simpa using this
  · have := hc (T0.length * 4 + 3) (.int .i64 t.c) (by rw [show T0 ++ [t] = T0 ++ [⟨t.k, t.s, t.l, t.c⟩] from rfl, tkC_snoc, List.getElem?_append_right (by rw [tkC_len]; omega), tkC_len, Nat.add_sub_cancel_left]; rfl)
    simpa using this
theorem RT.slice {w : World} {g : Nat} {src : ByteArray} {v : Value} {T : List Tk} (h : RT w g src v T) : ∃ A C, v = .slice A T.length C := own_form h.row
/-! ### closes -/
theorem cl_sign : ∀ x ∈ sgW, clW.any (fun y => x == y) = endsT 4 x := by decide +kernel
theorem cl_word : ∀ x ∈ words, clW.any (fun y => x == y) = endsT 5 x := by decide +kernel
theorem word_mem {l : List UInt8} (h : wordB l = true) : l ∈ words := by
  unfold wordB at h
  rw [List.any_eq_true] at h
  obtain ⟨x, hx, he⟩ := h
  rw [beq_iff_eq.1 he]
  exact hx
/-! ### where the loop goes on -/
theorem stepS_nl {src : ByteArray} {p : Nat} (hp : p < src.size) (h : src[p] = 10) : stepS (src.data.toList.drop p) = .nl := by
  unfold stepS
  dsimp only
  rw [if_pos (by rw [head_get src p hp]; exact h)]
theorem AtR.semi {src : ByteArray} {p : Nat} {T T' : List Tk} (h : AtR src p T) (hp : p = src.size ∨ ∃ h : p < src.size, src[p] = 10) (hs : semiT src.data.toList p T = some T') : AtR src (p + 1) T' := by
  rcases h with ⟨_, h⟩ | ⟨h, _⟩
  · rcases hp with hp | ⟨hp, h10⟩
    · exact .inr ⟨by omega, h _ (.fin (by simp; omega) hs)⟩
    · refine .inl ⟨by omega, fun R hR => h _ (.step (by simpa using hp) ?_ hR)⟩
      rw [nx_nl (stepS_nl hp h10)]
      unfold semiR
      rw [hs]
  · rcases hp with hp | ⟨hp, _⟩ <;> omega
theorem AtR.full {src : ByteArray} {p : Nat} {T : List Tk} (h : AtR src p T) (hp : p = src.size ∨ ∃ h : p < src.size, src[p] = 10) (hs : semiT src.data.toList p T = none) : Runs src.data.toList 0 [] (.bad 15 (place (src.data.toList.take p))) := by
  rcases h with ⟨_, h⟩ | ⟨h, _⟩
  · rcases hp with hp | ⟨hp, h10⟩
    · exact h _ (.full (by simp; omega) hs)
    · refine h _ (.bad (by simpa using hp) ?_)
      rw [nx_nl (stepS_nl hp h10)]
      unfold semiR
      rw [hs]
  · rcases hp with hp | ⟨hp, _⟩ <;> omega
theorem AtR.ok {src : ByteArray} {p p' : Nat} {T T' : List Tk} (h : AtR src p T) (hp : p < src.size) (hT : T.length ≤ 2000) (hn : nx src.data.toList p T = .ok (p', T')) : AtR src p' T' := by
  rcases h with ⟨_, h⟩ | ⟨h, _⟩
  · exact .inl ⟨(nx_ok hp hT hn).2.1, fun R hR => h _ (.step (by simpa using hp) hn hR)⟩
  · omega
theorem AtR.err {src : ByteArray} {p : Nat} {T : List Tk} {c : Int} (h : AtR src p T) (hp : p < src.size) (hn : nx src.data.toList p T = .error c) : Runs src.data.toList 0 [] (.bad c (place (src.data.toList.take p))) := by
  rcases h with ⟨_, h⟩ | ⟨h, _⟩
  · exact h _ (.bad (by simpa using hp) hn)
  · omega
theorem LastG.semi (T : List Tk) (s : ByteArray) (l c : Int) : LastG (T ++ [⟨6, s, l, c⟩]) := by
  intro t ht
  rw [List.getLast?_concat] at ht
  injection ht with ht
  subst ht
  exact ⟨fun h => by have h' : (6 : Int) = 4 := h; exact absurd h' (by decide), fun h => by have h' : (6 : Int) = 5 := h; exact absurd h' (by decide)⟩
theorem step_good {L : List UInt8} {k : Int} {n : Nat} (h : stepS L = .tok k n) : (k = 4 → L.take n ∈ sgW) ∧ (k = 5 → wordB (L.take n) = true) := by
  have hs := signV_facts2 L
  unfold stepS at h
  dsimp only at h
  refine ⟨fun hk => ?_, fun hk => ?_⟩
  all_goals
    subst hk
    repeat' split at h
    all_goals first
      | cases h; done
      | (injection h with h1 h2
         first
           | (exfalso; revert h1; decide)
           | (subst h2; first | assumption | (rw [← List.prefix_iff_eq_take.1 hs.1]; exact hs.2.1.resolve_right (by assumption)))
           | (subst h2; simp_all))
end Go.Proofs.YtjegfimagjmpdaaGreatDoor
end
section
/- The document's 'Tokens'. Conditions: none. -/
set_option maxRecDepth 20000
namespace Go.Proofs.YtjegfimagjmpdaaGreatDoor
open Go.ChangeShapes Go.WideShapes Go.ChangeAt Go.RowKit
end Go.Proofs.YtjegfimagjmpdaaGreatDoor
end
section
/- Tokens compared; the law of 'scan.Tokens'. Conditions: none. -/
set_option maxRecDepth 20000
namespace Go.Proofs.YtjegfimagjmpdaaGreatDoor
open Go.ChangeShapes Go.WideShapes Go.ChangeAt Go.RowKit
theorem tkC_get {T : List Tk} {i : Nat} {t : Tk} (h : T[i]? = some t) : (tkC T)[i * 4]? = some (.int .i64 t.k) ∧ (tkC T)[i * 4 + 1]? = some (.string t.s) ∧ (tkC T)[i * 4 + 2]? = some (.int .i64 t.l) ∧ (tkC T)[i * 4 + 3]? = some (.int .i64 t.c) := by
  obtain ⟨hi, he⟩ := List.getElem?_eq_some_iff.1 h
  have e : T = T.take i ++ (t :: T.drop (i + 1)) := by
    rw [← he, ← List.drop_eq_getElem_cons hi, List.take_append_drop]
  have hl : (tkC (T.take i)).length = i * 4 := by rw [tkC_len, List.length_take, Nat.min_eq_left (by omega)]
  have e2 : tkC T = tkC (T.take i) ++ ([.int .i64 t.k, .string t.s, .int .i64 t.l, .int .i64 t.c] ++ tkC (T.drop (i + 1))) := by
    conv => lhs; rw [e]
    unfold tkC
    rw [List.flatMap_append, List.flatMap_cons]
  rw [e2]
  refine ⟨?_, ?_, ?_, ?_⟩
  all_goals
    rw [List.getElem?_append_right (by omega), hl]
    simp
/-- The cells of token i. -/
theorem Rd.tok {w : World} {B n : Nat} {A : Option Addr} {T : List Tk} {i : Nat} {t : Tk} (h : Rd w B 4 A n (tkC T)) (hn : n = T.length) (ht : T[i]? = some t) :
    ∃ b off, A = some ⟨b, off, none⟩ ∧ b < B ∧ w.cell? ⟨b, off + i * 4, none⟩ = some (.int .i64 t.k) ∧ w.cell? ⟨b, off + i * 4 + 1, none⟩ = some (.string t.s) ∧ w.cell? ⟨b, off + i * 4 + 2, none⟩ = some (.int .i64 t.l) ∧ w.cell? ⟨b, off + i * 4 + 3, none⟩ = some (.int .i64 t.c) := by
  obtain ⟨hi, _⟩ := List.getElem?_eq_some_iff.1 ht
  obtain ⟨b, off, e, hb, hc⟩ := h.2 (by omega)
  obtain ⟨g0, g1, g2, g3⟩ := tkC_get ht
  exact ⟨b, off, e, hb, hc _ _ g0, hc _ _ g1, hc _ _ g2, hc _ _ g3⟩
/-- What both answer. -/
def TV (src : ByteArray) (v : Value) (s : Value) (w' : World) : Prop :=
  (8000 < src.size ∧ v = .slice none 0 0 ∧ s = .agg #[.int .i64 1, .int .i64 0, .int .i64 0]) ∨
  (src.size ≤ 8000 ∧ ∃ R, Runs src.data.toList 0 [] R ∧ match R with
  | .ok T => ∃ A C, v = .slice A T.length C ∧ s = .agg #[.int .i64 0, .int .i64 0, .int .i64 0] ∧ Rd w' w'.heap.size 4 A T.length (tkC T) ∧ T.length ≤ 2000
  | .bad c p => v = .slice none 0 0 ∧ s = .agg #[.int .i64 c, .int .i64 (p.1 : Int), .int .i64 (p.2 : Int)])
theorem TV.of {src : ByteArray} {e : Ending} {w' : World} (hs : src.size ≤ 8000) (h : TP src e w') : ∃ v a b c, e = .returned (.tuple #[v, .agg #[.int .i64 a, .int .i64 b, .int .i64 c]]) ∧ TV src v (.agg #[.int .i64 a, .int .i64 b, .int .i64 c]) w' := by
  obtain ⟨R, hr, h⟩ := h
  cases R with
  | ok T =>
    obtain ⟨A, C, rfl, h2, h3⟩ := h
    exact ⟨_, _, _, _, rfl, .inr ⟨hs, _, hr, A, C, rfl, rfl, h2, h3⟩⟩
  | bad c p => exact ⟨_, _, _, _, h, .inr ⟨hs, _, hr, rfl, rfl⟩⟩
theorem tokensV (src : ByteArray) (w : World) : Calls Tryz.prog 76 #[.string src] w fun e w' => (∃ v a b c, e = .returned (.tuple #[v, .agg #[.int .i64 a, .int .i64 b, .int .i64 c]]) ∧ TV src v (.agg #[.int .i64 a, .int .i64 b, .int .i64 c]) w') ∧ Below w.heap.size w w' := by
  by_cases h : 8000 < src.size
  · exact (tokens_long src w h).mono fun e w' ⟨he, hb⟩ => ⟨⟨_, _, _, _, he, .inl ⟨h, rfl, rfl⟩⟩, hb⟩
  · exact (tokens_any src w (by omega)).mono fun e w' ⟨he, hb⟩ => ⟨TV.of (by omega) he, hb⟩
/-- Both answers are alike. -/
theorem TV.both {src : ByteArray} {v s v' s' : Value} {w w' w2 : World} (h : TV src v s w) (h' : TV src v' s' w') (hb : Below w.heap.size w w2) (hb' : Below w'.heap.size w' w2) :
    s = s' ∧ ∃ A B n C D T, v = .slice A n C ∧ v' = .slice B n D ∧ n = List.length T ∧ n ≤ 2000 ∧ Rd w2 w2.heap.size 4 A n (tkC T) ∧ Rd w2 w2.heap.size 4 B n (tkC T) := by
  have hnil : ∀ (W : World), Rd W W.heap.size 4 none 0 (tkC []) := fun W => ⟨by simp [tkC], fun h => absurd h (by omega)⟩
  rcases h with ⟨h, rfl, rfl⟩ | ⟨h, R, hr, hm⟩
  · rcases h' with ⟨h', rfl, rfl⟩ | ⟨h', _⟩
    · exact ⟨rfl, none, none, 0, 0, 0, [], rfl, rfl, rfl, by omega, hnil _, hnil _⟩
    · omega
  · rcases h' with ⟨h', rfl, rfl⟩ | ⟨h', R', hr', hm'⟩
    · omega
    · have := hr.same hr'
      subst this
      cases R with
      | ok T =>
        obtain ⟨A, C, rfl, rfl, r1, hl⟩ := hm
        obtain ⟨B, D, rfl, rfl, r2, _⟩ := hm'
        exact ⟨rfl, A, B, T.length, C, D, T, rfl, rfl, rfl, hl, (r1.below hb).more hb.size, (r2.below hb').more hb'.size⟩
      | bad c p =>
        obtain ⟨rfl, rfl⟩ := hm
        obtain ⟨rfl, rfl⟩ := hm'
        exact ⟨rfl, none, none, 0, 0, 0, [], rfl, rfl, rfl, by omega, hnil _, hnil _⟩
end Go.Proofs.YtjegfimagjmpdaaGreatDoor
end
section
/- 'scan.whole' and the document's 'one'. Conditions: none. -/
set_option maxRecDepth 20000
namespace Go.Proofs.YtjegfimagjmpdaaGreatDoor
open Go.ChangeShapes Go.WideShapes Go.ChangeAt Go.RowKit
open Go
/-- Is a text wholly one token of a kind? -/
def oneB (k : Int) (L : List UInt8) : Bool := decide (L ≠ [] ∧ L.length ≤ 8000 ∧ ¬ L.take 2 = [47, 47] ∧ tokR L = (k, (L.length : Int), 0))
theorem addT_pre {L : List UInt8} {p : Nat} {T T' : List Tk} {k : Int} {s : List UInt8} (h : addT L p T k s = some T') : T' = T ++ [tkAt L p k s] := by
  unfold addT at h
  split at h
  · cases h
  · injection h with h
    exact h.symm
theorem semiT_pre {L : List UInt8} {p : Nat} {T T' : List Tk} (h : semiT L p T = some T') : T' = T ∨ (lastEnds T = true ∧ T' = T ++ [tkAt L p 6 [59]]) := by
  unfold semiT at h
  split at h
  · rename_i hl
    exact .inr ⟨hl, addT_pre h⟩
  · injection h with h
    exact .inl h.symm
/-- One step keeps the tokens; the first one is made by a token's step. -/
theorem nx_pre {L : List UInt8} {p p' : Nat} {T T' : List Tk} (h : nx L p T = .ok (p', T')) : T <+: T' ∧ (T = [] → T' = [] ∨ ∃ k n, stepS (L.drop p) = .tok k n ∧ T' = [tkAt L p k ((L.drop p).take n)]) := by
  unfold nx at h
  split at h
  · split at h
    · cases h
    · rename_i T'' hT
      injection h with h
      injection h with h1 h2
      subst h2
      rcases semiT_pre hT with rfl | ⟨hl, rfl⟩
      · exact ⟨List.prefix_refl _, fun e => .inl e⟩
      · exact ⟨List.prefix_append _ _, fun e => by subst e; cases hl⟩
  · injection h with h
    injection h with h1 h2
    subst h2
    exact ⟨List.prefix_refl _, fun e => .inl e⟩
  · rename_i k n hst
    split at h
    · cases h
    · rename_i T'' hT
      injection h with h
      injection h with h1 h2
      subst h2
      have := addT_pre hT
      subst this
      exact ⟨List.prefix_append _ _, fun e => by subst e; exact .inr ⟨k, n, hst, rfl⟩⟩
  · cases h
theorem runs_pre {L : List UInt8} {p : Nat} {T : List Tk} {R : Res} (h : Runs L p T R) : ∀ T', R = .ok T' → T <+: T' ∧ (T = [] → T' = [] ∨ ∃ q k n, q < L.length ∧ stepS (L.drop q) = .tok k n ∧ T'.head? = some (tkAt L q k ((L.drop q).take n))) := by
  induction h with
  | @step p p' T T1 R h1 h2 _ ih =>
    intro T' e
    obtain ⟨a, b⟩ := ih T' e
    obtain ⟨c, d⟩ := nx_pre h2
    refine ⟨c.trans a, fun e0 => ?_⟩
    rcases d e0 with e1 | ⟨k, n, e1, e2⟩
    · exact b e1
    · right
      refine ⟨p, k, n, h1, e1, ?_⟩
      rw [e2] at a
      obtain ⟨r, rfl⟩ := a
      rfl
  | bad => intro T' e; cases e
  | @fin p T T1 h1 h2 =>
    intro T' e
    injection e with e
    subst e
    rcases semiT_pre h2 with rfl | ⟨hl, rfl⟩
    · exact ⟨List.prefix_refl _, fun e => .inl e⟩
    · exact ⟨List.prefix_append _ _, fun e => by subst e; cases hl⟩
  | full => intro T' e; cases e
theorem tokR_of_step {L : List UInt8} {k : Int} {n : Nat} (h : stepS L = .tok k n) : tokR L = (k, (n : Int), 0) ∧ ¬ L.take 2 = [47, 47] := by
  have h1 : ¬ L.headD 0 = 10 := by
    intro e; unfold stepS at h; rw [if_pos e] at h; cases h
  have h2 : ¬ (L.headD 0 = 32 ∨ L.headD 0 = 9 ∨ L.headD 0 = 13) := by
    intro e; unfold stepS at h; dsimp only at h; rw [if_neg h1, if_pos e] at h; cases h
  have h3 : ¬ L.take 2 = [47, 47] := by
    intro e; unfold stepS at h; dsimp only at h; rw [if_neg h1, if_neg h2, if_pos e] at h; cases h
  refine ⟨?_, h3⟩
  rcases tokR_step h1 h2 h3 with ⟨k', n', e1, e2⟩ | ⟨c, e1, _⟩
  · rw [h] at e1
    injection e1 with e1 e3
    subst e1 e3
    exact e2
  · rw [h] at e1
    cases e1
theorem sg_blank {L : List UInt8} (h : L.headD 0 = 10 ∨ L.headD 0 = 32 ∨ L.headD 0 = 9 ∨ L.headD 0 = 13) : signV L = [] := by
  unfold signV
  have h2 : L.take 2 ∉ sg2 := by
    intro hm
    have h3 : ∀ x ∈ sg2, x.headD 0 ≠ 10 ∧ x.headD 0 ≠ 32 ∧ x.headD 0 ≠ 9 ∧ x.headD 0 ≠ 13 := by decide +kernel
    have h4 := h3 _ hm
    have h5 : (L.take 2).headD 0 = L.headD 0 := by cases L <;> rfl
    rw [h5] at h4
    rcases h with h | h | h | h
    · exact h4.1 h
    · exact h4.2.1 h
    · exact h4.2.2.1 h
    · exact h4.2.2.2 h
  rw [if_neg h2, if_neg]
  rintro ⟨h3, _⟩
  rcases h with h | h | h | h <;> rw [h] at h3 <;> revert h3 <;> decide
theorem tokR_blank {L : List UInt8} (h : L.headD 0 = 10 ∨ L.headD 0 = 32 ∨ L.headD 0 = 9 ∨ L.headD 0 = 13) : tokR L = (0, 0, 2) := by
  unfold tokR
  have hs := sg_blank h
  have h1 : isL (L.headD 0) = false := by rcases h with h | h | h | h <;> rw [h] <;> decide
  have h2 : isD (L.headD 0) = false := by rcases h with h | h | h | h <;> rw [h] <;> decide
  have h3 : ¬ L.headD 0 = 34 := by rcases h with h | h | h | h <;> rw [h] <;> decide
  have h4 : ¬ L.headD 0 = 59 := by rcases h with h | h | h | h <;> rw [h] <;> decide
  rw [if_neg (by rw [h1]; decide), if_neg (by rw [h2]; decide), if_neg h3, if_neg h4, if_pos hs]
theorem step_of_tokR {L : List UInt8} {k : Int} {n : Nat} (h : tokR L = (k, (n : Int), 0)) (h3 : ¬ L.take 2 = [47, 47]) : stepS L = .tok k n := by
  have hb : ¬ (L.headD 0 = 10 ∨ L.headD 0 = 32 ∨ L.headD 0 = 9 ∨ L.headD 0 = 13) := by
    intro e
    rw [tokR_blank e] at h
    injection h with _ h
    injection h with _ h
    cases h
  rcases tokR_step (fun e => hb (.inl e)) (fun e => hb (.inr e)) h3 with ⟨k', n', e1, e2⟩ | ⟨c, e1, e2, hc⟩
  · rw [h] at e2
    injection e2 with e2 e3
    injection e3 with e3 _
    have e3 : n = n' := by omega
    subst e2 e3
    exact e1
  · rw [h] at e2
    injection e2 with _ e2
    injection e2 with _ e2
    exact absurd e2.symm hc
/-- What 'whole' looks at. -/
def wholeT (k : Int) (L : List UInt8) (T : List Tk) : Bool :=
  match T with
  | [] => false
  | t :: r => decide (r.length ≤ 1) && (decide (t.k = k) && decide (t.s.data.toList = L)) && (decide (r.length = 0) || endsT t.k t.s.data.toList)
theorem whole_one {k : Int} {L : List UInt8} (h8 : L.length ≤ 8000) {T : List Tk} (h : Runs L 0 [] (.ok T)) : wholeT k L T = oneB k L := by
  obtain ⟨_, hh⟩ := runs_pre h T rfl
  have hone : oneB k L = true → wholeT k L T = true := by
    intro ho
    unfold oneB at ho
    obtain ⟨hne, _, h2, h3⟩ := of_decide_eq_true ho
    have hst := step_of_tokR h3 h2
    have hpos : 0 < L.length := List.length_pos_iff.2 hne
    have hnx : nx L 0 [] = .ok (L.length, [tkAt L 0 k L]) := by
      unfold nx
      rw [List.drop_zero, hst]
      simp [addT]
    have hfin : semiT L L.length [tkAt L 0 k L] = some (if lastEnds [tkAt L 0 k L] = true then [tkAt L 0 k L, tkAt L L.length 6 [59]] else [tkAt L 0 k L]) := by
      unfold semiT addT
      split
      · simp
      · rfl
    have := Runs.same h (.step hpos hnx (.fin (Nat.le_refl _) hfin))
    injection this with this
    subst this
    have he : lastEnds [tkAt L 0 k L] = endsT k L := by simp [lastEnds, tkAt]
    rw [he]
    split
    · rename_i hl
      simp [wholeT, tkAt, hl]
    · simp [wholeT, tkAt]
  have hrev : wholeT k L T = true → oneB k L = true := by
    intro hw
    cases T with
    | nil => cases hw
    | cons t r =>
      unfold wholeT at hw
      simp only [Bool.and_eq_true, decide_eq_true_eq] at hw
      obtain ⟨⟨_, hk, hs⟩, _⟩ := hw
      rcases hh rfl with e | ⟨q, k', n, hq, hst, e⟩
      · cases e
      · rw [List.head?_cons] at e
        injection e with e
        subst e
        have hk' : k' = k := hk
        subst hk'
        have hs' : (L.drop q).take n = L := hs
        have hl := congrArg List.length hs'
        rw [List.length_take, List.length_drop] at hl
        have hq0 : q = 0 := by omega
        subst hq0
        rw [List.drop_zero] at hst
        obtain ⟨a, b⟩ := tokR_of_step hst
        have hne : L ≠ [] := by intro e; subst e; simp at hq
        have hn := (step_len hne).2 _ _ hst
        have hnl : n = L.length := by omega
        subst hnl
        unfold oneB
        exact decide_eq_true ⟨hne, h8, b, a⟩
  cases h1 : oneB k L with
  | true => exact hone h1
  | false =>
    cases h2 : wholeT k L T with
    | false => rfl
    | true => rw [hrev h2] at h1; cases h1
theorem bad_one {k : Int} {L : List UInt8} {c : Int} {pl : Nat × Nat} (h : Runs L 0 [] (.bad c pl)) : oneB k L = false := by
  cases ho : oneB k L with
  | false => rfl
  | true =>
    unfold oneB at ho
    obtain ⟨hne, _, h2, h3⟩ := of_decide_eq_true ho
    have hst := step_of_tokR h3 h2
    have hpos : 0 < L.length := List.length_pos_iff.2 hne
    have hnx : nx L 0 [] = .ok (L.length, [tkAt L 0 k L]) := by
      unfold nx
      rw [List.drop_zero, hst]
      simp [addT]
    have hfin : semiT L L.length [tkAt L 0 k L] = some (if lastEnds [tkAt L 0 k L] = true then [tkAt L 0 k L, tkAt L L.length 6 [59]] else [tkAt L 0 k L]) := by
      unfold semiT addT
      split
      · simp
      · rfl
    have := Runs.same h (.step hpos hnx (.fin (Nat.le_refl _) hfin))
    cases this
/-- A line's end as a token. -/
theorem one_semi (L : List UInt8) : oneB 6 L = decide (L = [59]) := by
  by_cases h : L = [59]
  · subst h; decide +kernel
  · rw [decide_eq_false h]
    unfold oneB
    apply decide_eq_false
    rintro ⟨hne, _, _, ht⟩
    apply h
    unfold tokR at ht
    by_cases h59 : L.headD 0 = 59
    · rw [h59] at ht
      have e1 : isL 59 = false := by decide
      have e2 : isD 59 = false := by decide
      rw [if_neg (by rw [e1]; decide), if_neg (by rw [e2]; decide), if_neg (by decide), if_pos rfl] at ht
      injection ht with _ ht
      injection ht with ht _
      cases L with
      | nil => exact absurd rfl hne
      | cons c r =>
        simp at ht h59
        rw [h59]
        have : r = [] := by
          cases r with
          | nil => rfl
          | cons d r => simp at ht; omega
        rw [this]
    · exfalso
      split at ht
      · split at ht
        · injection ht with ht _; cases ht
        · split at ht
          all_goals injection ht with ht _; cases ht
      · split at ht
        · split at ht
          all_goals injection ht with ht _; cases ht
        · split at ht
          · split at ht
            all_goals injection ht with ht _; cases ht
          · split at ht
            all_goals injection ht with ht _; cases ht
theorem one_long {k : Int} {L : List UInt8} (h : 8000 < L.length) : oneB k L = false := by
  unfold oneB
  apply decide_eq_false
  rintro ⟨_, h1, _⟩
  omega
theorem wholeT_cons (k : Int) (L : List UInt8) (t : Tk) (r : List Tk) : wholeT k L (t :: r) = (decide (r.length ≤ 1) && (decide (t.k = k) && decide (t.s.data.toList = L)) && (decide (r.length = 0) || endsT t.k t.s.data.toList)) := rfl
open Go
def kAt (T : List Tk) (i : Nat) : Int := (T.getD i ⟨0, ⟨#[]⟩, 0, 0⟩).k
def sAt (T : List Tk) (i : Nat) : List UInt8 := (T.getD i ⟨0, ⟨#[]⟩, 0, 0⟩).s.data.toList
theorem kAt_of {T : List Tk} {i : Nat} {t : Tk} (h : T[i]? = some t) : kAt T i = t.k := by simp [kAt, List.getD, h]
theorem sAt_of {T : List Tk} {i : Nat} {t : Tk} (h : T[i]? = some t) : sAt T i = t.s.data.toList := by simp [sAt, List.getD, h]
/-- What stands ahead of token k. -/
def gapP (T : List Tk) (k : Nat) : List UInt8 := if 0 < k ∧ kAt T (k - 1) ≠ 6 then [32] else []
/-- The text of the first k tokens. -/
def outP (T : List Tk) : Nat → List UInt8
  | 0 => []
  | k + 1 => outP T k ++ gapP T k ++ sAt T k ++ (if kAt T k = 6 then [10] else [])
def okTo (T : List Tk) (k : Nat) : Prop := ∀ i < k, oneB (kAt T i) (sAt T i) = true
theorem okTo_next {T : List Tk} {k : Nat} (h : okTo T k) (h1 : oneB (kAt T k) (sAt T k) = true) : okTo T (k + 1) := fun i hi => by
  rcases Nat.lt_or_ge i k with h2 | h2
  · exact h i h2
  · obtain rfl : i = k := by omega
    exact h1
theorem one_len {k : Int} {L : List UInt8} (h : oneB k L = true) : L.length ≤ 8000 := by
  unfold oneB at h
  exact (of_decide_eq_true h).2.1
theorem outP_len {T : List Tk} : ∀ {k : Nat}, okTo T k → (outP T k).length ≤ k * 8002
  | 0, _ => by simp [outP]
  | k + 1, h => by
    have ih := outP_len (T := T) (k := k) fun i hi => h i (by omega)
    have h1 := one_len (h k (by omega))
    have h2 : (gapP T k).length ≤ 1 := by unfold gapP; split <;> simp
    have h3 : (if kAt T k = 6 then [10] else [] : List UInt8).length ≤ 1 := by split <;> simp
    rw [outP]
    simp only [List.length_append]
    omega
/-- What both answer. -/
def showV (T : List Tk) (v : Value) : Prop :=
  (2000 < T.length ∧ v = .tuple #[.string ⟨#[]⟩, .int .i64 15]) ∨
  (T.length ≤ 2000 ∧ ¬ okTo T T.length ∧ v = .tuple #[.string ⟨#[]⟩, .int .i64 13]) ∨
  (T.length ≤ 2000 ∧ okTo T T.length ∧ 8000 < (outP T T.length).length ∧ v = .tuple #[.string ⟨#[]⟩, .int .i64 1]) ∨
  (T.length ≤ 2000 ∧ okTo T T.length ∧ (outP T T.length).length ≤ 8000 ∧ v = .tuple #[.string ⟨(outP T T.length).toArray⟩, .int .i64 0])
theorem showV_same {T : List Tk} {v v' : Value} (h : showV T v) (h' : showV T v') : v = v' := by
  rcases h with ⟨a, rfl⟩ | ⟨a, b, rfl⟩ | ⟨a, b, c, rfl⟩ | ⟨a, b, c, rfl⟩ <;> rcases h' with ⟨a', rfl⟩ | ⟨a', b', rfl⟩ | ⟨a', b', c', rfl⟩ | ⟨a', b', c', rfl⟩ <;> first | rfl | (exfalso; omega) | exact absurd b' b | exact absurd b b' | skip
theorem showV_a : showV [⟨1, ⟨#[97]⟩, 0, 0⟩] (.tuple #[.string ⟨#[97]⟩, .int .i64 0]) := by
  have h1 : okTo [⟨1, ⟨#[97]⟩, 0, 0⟩] 1 := by
    intro i hi
    obtain rfl : i = 0 := by omega
    decide +kernel
  exact .inr (.inr (.inr ⟨by simp, h1, by decide +kernel, rfl⟩))
end Go.Proofs.YtjegfimagjmpdaaGreatDoor
end
