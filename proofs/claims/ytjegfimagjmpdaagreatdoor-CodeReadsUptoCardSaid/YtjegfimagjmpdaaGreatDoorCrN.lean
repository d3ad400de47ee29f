/- 'code.numbers' and the document's 'numbersOf'. Conditions: the library's own number stands in its cell; the text is at most as long as the bound. -/
import Derived.Test.YtjegfimagjmpdaaGreatDoorCrM
import Derived.Test.YtjegfimagjmpdaaGreatDoorShelf
set_option maxRecDepth 100000
namespace Go.Proofs.YtjegfimagjmpdaaGreatDoor
open Go.ChangeShapes Go.WideShapes Go.ChangeAt Go.RowKit
theorem info_int : (Tryz.prog.info? 3).map (fun i => (i.zero, i.size, i.bytes)) = some (some (.int .i64 0), 1, 8) := by kernel_rfl
/-- What is read of pieces so far. -/
def Ns (T : List (List UInt8)) (k : Nat) (acc : List Int) : Prop := acc.length = k ∧ (∀ z ∈ acc, I6 z) ∧ numsL T = (numsL (T.drop k)).map (acc ++ ·)
theorem Ns.zero (T : List (List UInt8)) : Ns T 0 [] := ⟨rfl, fun _ h => by simp at h, by simp⟩
theorem Ns.no {T : List (List UInt8)} {k : Nat} {acc : List Int} (h : Ns T k acc) {p : List UInt8} (hp : T[k]? = some p) (hr : rd (byt ⟨p.toArray⟩) = none) : numsL T = none := by
  obtain ⟨hk, e⟩ := List.getElem?_eq_some_iff.1 hp
  rw [h.2.2, List.drop_eq_getElem_cons hk, e]
  unfold numsL
  rw [hr]
  rfl
theorem Ns.next {T : List (List UInt8)} {k : Nat} {acc : List Int} (h : Ns T k acc) {p : List UInt8} (hp : T[k]? = some p) {z : Int} (hr : rd (byt ⟨p.toArray⟩) = some z) : Ns T (k + 1) (acc ++ [z]) := by
  obtain ⟨hk, e⟩ := List.getElem?_eq_some_iff.1 hp
  refine ⟨by simp [h.1], fun y hy => ?_, ?_⟩
  · rcases List.mem_append.1 hy with hy | hy
    · exact h.2.1 y hy
    · rw [List.mem_singleton.1 hy]
      exact (rd_some.1 hr).2
  · rw [h.2.2, List.drop_eq_getElem_cons hk, e]
    conv => lhs; unfold numsL
    rw [hr]
    cases numsL (T.drop (k + 1)) with
    | none => rfl
    | some y => simp
theorem Ns.fin {T : List (List UInt8)} {k : Nat} {acc : List Int} (h : Ns T k acc) (hk : T.length ≤ k) : numsL T = some acc := by
  rw [h.2.2, List.drop_eq_nil_of_le hk]
  simp [numsL]
theorem strs_at {T : List (List UInt8)} {j : Nat} {p : List UInt8} (h : T[j]? = some p) : (strs T)[j]? = some (.string ⟨p.toArray⟩) := by
  unfold strs
  rw [List.getElem?_map, h]
  rfl
/-- What numbers come out. -/
def NuP (n : Nat) (o : Option (List Int)) (w : World) (e : Ending) (w' : World) : Prop :=
  ((o = none ∧ e = .returned (.tuple #[.slice none 0 0, .bool false])) ∨ ∃ (zs : List Int) (A : Option Addr) (c : Nat), o = some zs ∧ zs.length = n ∧ (∀ z ∈ zs, I6 z) ∧ e = .returned (.tuple #[.slice A n c, .bool true]) ∧ Rd w' w'.heap.size 1 A n (zs.map (Value.int .i64))) ∧ Below w.heap.size w w'
set_option maxHeartbeats 4000000 in
theorem codeNumbers_any (s : ByteArray) (n : Nat) (nz m : Int) (w : World) (hm : w.cell? ⟨0, 0, none⟩ = some (.int .i64 m)) (hs : s.size ≤ 1048576) (hn : n = 3 ∨ n = 5) (hnz : nz = (n : Int)) (hb : s.data.toList = [] ∨ ∃ B, s.data.toList = 32 :: B) :
    Calls Tryz.prog 18 #[.string s, .int .i64 nz] w (NuP n (numM n s.data.toList) w) := by
  obtain ⟨i0, hi, hz0, hz1, hz2⟩ := info_parts info_int
  have HSP := Lib.hid (Tryz.strings_Split s ⟨#[32]⟩ m w (by omega) hm (by decide))
  obtain ⟨P, hP⟩ : ∃ P, P = cutG 32 s.data.toList [] := ⟨_, rfl⟩
  have hle : (Lib.splitB ⟨#[32]⟩ 0 (Lib.countB s ⟨#[32]⟩) s).map Value.string = strs P := by rw [hP]; exact split_eq s 32
  have hct : Lib.countB s ⟨#[32]⟩ + 1 = P.length := by
    have h1 := Lib.splitB_all ⟨#[32]⟩ (by decide) 0 (Lib.countB s ⟨#[32]⟩) s rfl
    have h2 := congrArg List.length hle
    unfold strs at h2
    rw [List.length_map, List.length_map] at h2
    omega
  have hPl : P.length ≤ 1048577 := by
    have := Lib.countB_le ⟨#[32]⟩ (by decide) s.size s (Nat.le_refl _)
    omega
  have HNM := Lib.hid (show numM n s.data.toList = if P.length = n + 1 ∧ P.head? = some [] then numsL P.tail else none by rw [hP]; rfl)
  have h0 : P.head? = some [] := by
    rcases hb with h | ⟨B, h⟩ <;> rw [hP, h] <;> rfl
  rw [hct, hle] at HSP
  have HP0 := Lib.hid h0
  obtain ⟨k, hk⟩ : ∃ k, k = P.length := ⟨_, rfl⟩
  rw [← hk] at HSP hPl
  have HK := Lib.hid hk
  clear hP hle hct h0 hk hb hs hm
  subst hnz
  go_enter Tryz.func18, Tryz.ntmps18
  go_wp2_with fail
  refine HSP.out.mono ?_
  rintro e w1 ⟨rfl, rfl⟩
  have hpc : ∀ j p, P[j]? = some p → (w.alloc (.cells (strs P).toArray 9)).cell? ⟨w.heap.size, j, none⟩ = some (.string ⟨p.toArray⟩) := by
    intro j p hp
    have := strs_at hp
    simp [go_sem]
    simpa using this
  have hb1 : Below w.heap.size w (w.alloc (.cells (strs P).toArray 9)) := al _
  have hs1 : w.heap.size < (w.alloc (.cells (strs P).toArray 9)).heap.size := by simp
  generalize w.alloc (.cells (strs P).toArray 9) = w1 at *
  have HPC := Lib.hid hpc
  have HB1 := Lib.hid hb1
  clear hpc hb1 HSP
  by_cases hkn : k = n + 1
  · obtain ⟨T, hT⟩ : ∃ T, P = [] :: T := by
      have h := HP0.out
      cases P with
      | nil => simp at h
      | cons a T => exact ⟨T, by rw [show a = [] from by simpa using h]⟩
    have HN2 := Lib.hid (show numM n s.data.toList = numsL T by
      rw [HNM.out, if_pos ⟨by rw [← HK.out]; exact hkn, HP0.out⟩, hT]
      rfl)
    have HTL := Lib.hid (show T.length = n by have := HK.out; rw [hT, hkn] at this; simp at this; omega)
    have HTC := Lib.hid (fun j p (hp : T[j]? = some p) => HPC.out (1 + j) p (by rw [hT, Nat.add_comm]; exact hp))
    have p0 : w1.cell? ⟨w.heap.size, 0, none⟩ = some (.string ⟨#[]⟩) := HPC.out 0 [] (by rw [hT]; rfl)
    clear HNM HP0 HPC
    have hgw := hs1
    generalize hg : w.heap.size = g at *
    have HG := Lib.hid hg
    clear hg
    have core : ∀ (nz : Int) (_ : nz = (n : Int)) (k : Nat), k = n + 1 → True := fun _ _ _ _ => trivial
    clear core
    rcases hn with rfl | rfl
    all_goals
      obtain rfl := hkn
      go_wp2_with fail
      go_loopw [7, 28] (fun lv i wr => ∃ (k q : Nat) (acc : List Int) (A : Option Addr) (C : Nat), i = .int .i64 (k : Int) ∧ k ≤ T.length ∧ lv = .slice A q C ∧ q = k ∧ Hid (Ns T k acc) ∧ wr.ownsRow w1.heap.size 3 1 (.slice A q C) q (acc.map (Value.int .i64)) ∧ Below w1.heap.size w1 wr) (fun _ i _ => T.length - (intOf i).toNat)
      case atStart => exact ⟨0, 0, [], none, 0, rfl, Nat.zero_le _, rfl, rfl, Lib.hid (Ns.zero T), World.ownsRow_nil _ _ _ _, Below.refl _ _⟩
      case round =>
        obtain ⟨k, q, acc, A, C, rfl, hk, rfl, rfl, HNS, hown, hbel⟩ := hrel
        have HOW := Lib.hid hown
        have HBE := Lib.hid hbel
        have htl := HTL.out
        by_cases hlt : q < T.length
        · obtain ⟨p, hp⟩ : ∃ p, T[q]? = some p := ⟨T[q], List.getElem?_eq_getElem hlt⟩
          have hpc := HTC.out q p hp
          rw [← hbel.cell (p := ⟨g, 1 + q, none⟩) hgw] at hpc
          have HP := Lib.hid hp
          rw [htl] at hlt
          clear hp hown hbel
          go_wp2_with fail
          refine (wordRead_any _ _).mono ?_
          rintro e w2 ⟨rfl, hb2⟩
          have HB2 := Lib.hid (HBE.out.trans (hb2.mono HBE.out.size))
          have HO2 := Lib.hid (own_stay HOW.out fun b hk => hb2.block b (HOW.out.lt b hk).2)
          have hbs := HB2.out.size
          clear hb2
          cases hrd : rd (byt ⟨p.toArray⟩) with
          | none =>
            have HZ := Lib.hid (HNS.out.no HP.out hrd)
            rw [readV_none hrd]
            clear hrd
            go_wp2_with fail
            go_returns
            exact ⟨.inl ⟨HN2.out.trans HZ.out, rfl⟩, by rw [HG.out]; exact HB1.out.trans (HB2.out.mono (Nat.le_of_lt hs1))⟩
          | some v =>
            have HZ := Lib.hid (HNS.out.next HP.out hrd)
            rw [readV_some hrd]
            clear hrd
            go_wp2_with (at_builtin; refine wpList_append_rd _ rfl _ _ 39 rfl w1.heap.size 3 i0 _ 1 8 Tryz.underlying39 hi hz0 hz1 hz2 rfl (by omega) _ _ _ rfl (HO2.out.alloc _) _ _ 1 1 [_] rfl (Rd.lit1 _ _ _) (one1 rfl) (by unfold maxLen; omega) (by omega) (by simp; omega) ?_; intro A3 c3 w3 hown3 hgrow3 _)
            have HB4 := Lib.hid ((HB2.out.alloc hbs _).grown hgrow3 (by simp; omega) (fun q hq => (HO2.out.lt q hq).1))
            have HOW4 := Lib.hid hown3
            clear hgrow3 hown3
            exact ⟨⟨q + 1, q + 1, acc ++ [v], A3, c3, by go_num, by omega, rfl, rfl, HZ, by rw [List.map_append]; exact HOW4.out, HB4.out⟩, by simp [intOf]; omega⟩
        · obtain rfl : q = T.length := by omega
          have HZ := Lib.hid (HNS.out.fin (Nat.le_refl _))
          have hal := HNS.out.1
          clear hlt
          generalize hq : T.length = q at *
          obtain rfl : q = _ := htl
          clear hown hbel
          go_wp2_with fail
          go_returns
          exact ⟨.inr ⟨acc, A, C, HN2.out.trans HZ.out, hal, HNS.out.2.1, rfl, Rd.of_own HOW.out⟩, by rw [HG.out]; exact HB1.out.trans (HBE.out.mono (Nat.le_of_lt hs1))⟩
  · have HN2 := Lib.hid (show numM n s.data.toList = none by rw [HNM.out]; exact if_neg fun h => hkn (by rw [HK.out]; exact h.1))
    have HB2 := Lib.hid HB1.out
    clear HNM HP0 HPC
    rcases hn with rfl | rfl
    all_goals
      first
        | have hne : ((k : Int) != 4) = true := by rw [bne_iff_ne]; omega
        | have hne : ((k : Int) != 6) = true := by rw [bne_iff_ne]; omega
      go_wp2_with fail
      go_returns
      exact ⟨.inl ⟨HN2.out, rfl⟩, HB2.out⟩
set_option maxHeartbeats 4000000 in
theorem numbersOf_any (A0 : Option Addr) (n c0 : Nat) (T : List (List UInt8)) (w : World) (hr : Rd w w.heap.size 1 A0 n (strs T)) (hn : n = T.length) (hl : n ≤ 1048577) : Calls Tryz.prog 12 #[.slice A0 n c0] w (NuP n (numsL T) w) := by
  obtain ⟨i0, hi, hz0, hz1, hz2⟩ := info_parts info_int
  have HR := Lib.hid hr
  have HTL := Lib.hid hn
  clear hr hn
  go_enter Tryz.func12, Tryz.ntmps12
  go_wp2_with fail
  go_loopw [4, 11] (fun lv i wr => ∃ (k q : Nat) (acc : List Int) (A : Option Addr) (C : Nat), i = .int .i64 (k : Int) ∧ k ≤ n ∧ lv = .slice A q C ∧ q = k ∧ Hid (Ns T k acc) ∧ wr.ownsRow w.heap.size 3 1 (.slice A q C) q (acc.map (Value.int .i64)) ∧ Below w.heap.size w wr) (fun _ i _ => n - (intOf i).toNat)
  case atStart => exact ⟨0, 0, [], none, 0, rfl, Nat.zero_le _, rfl, rfl, Lib.hid (Ns.zero T), World.ownsRow_nil _ _ _ _, Below.refl _ _⟩
  case round =>
    obtain ⟨k, q, acc, A, C, rfl, hk, rfl, rfl, HNS, hown, hbel⟩ := hrel
    have HOW := Lib.hid hown
    have HBE := Lib.hid hbel
    by_cases hlt : q < n
    · obtain ⟨p, hp⟩ : ∃ p, T[q]? = some p := ⟨T[q]'(by rw [← HTL.out]; exact hlt), List.getElem?_eq_getElem _⟩
      obtain ⟨lb, lo, hA, hlb, hlc⟩ := HR.out.2 (by omega)
      subst hA
      have hpc := hlc q _ (strs_at hp)
      rw [← hbel.cell (p := ⟨lb, lo + q, none⟩) hlb] at hpc
      have HP := Lib.hid hp
      clear hp hown hbel hlc
      go_wp2_with fail
      refine (readNumber_any _ _).mono ?_
      rintro e w2 ⟨rfl, hb2⟩
      have HB2 := Lib.hid (HBE.out.trans (hb2.mono HBE.out.size))
      have HO2 := Lib.hid (own_stay HOW.out fun b hk => hb2.block b (HOW.out.lt b hk).2)
      have hbs := HB2.out.size
      clear hb2
      cases hrd : rd (byt ⟨p.toArray⟩) with
      | none =>
        have HZ := Lib.hid (HNS.out.no HP.out hrd)
        rw [readV_none hrd]
        clear hrd
        go_wp2_with fail
        go_returns
        exact ⟨.inl ⟨HZ.out, rfl⟩, HB2.out⟩
      | some v =>
        have HZ := Lib.hid (HNS.out.next HP.out hrd)
        rw [readV_some hrd]
        clear hrd
        go_wp2_with (at_builtin; refine wpList_append_rd _ rfl _ _ 39 rfl w.heap.size 3 i0 _ 1 8 Tryz.underlying39 hi hz0 hz1 hz2 rfl (by omega) _ _ _ rfl (HO2.out.alloc _) _ _ 1 1 [_] rfl (Rd.lit1 _ _ _) (one1 rfl) (by unfold maxLen; omega) (by omega) (by simp; omega) ?_; intro A3 c3 w3 hown3 hgrow3 _)
        have HB4 := Lib.hid ((HB2.out.alloc hbs _).grown hgrow3 (by simp; omega) (fun q hq => (HO2.out.lt q hq).1))
        have HOW4 := Lib.hid hown3
        clear hgrow3 hown3
        exact ⟨⟨q + 1, q + 1, acc ++ [v], A3, c3, by go_num, by omega, rfl, rfl, HZ, by rw [List.map_append]; exact HOW4.out, HB4.out⟩, by simp [intOf]; omega⟩
    · have HZ := Lib.hid (HNS.out.fin (by have := HTL.out; omega))
      have hal := HNS.out.1
      obtain rfl : q = n := by omega
      clear hown hbel hlt
      go_wp2_with fail
      go_returns
      exact ⟨.inr ⟨acc, A, C, HZ.out, hal, HNS.out.2.1, rfl, Rd.of_own HOW.out⟩, HBE.out⟩
end Go.Proofs.YtjegfimagjmpdaaGreatDoor
