/- 'fault.numbers'. Conditions: the lengths. -/
import Derived.Test.YtgjhjojbaieeaaaDoorFrQ
import Derived.Test.YtgjhjojbaieeaaaDoorPfxC
import Derived.Test.YtgjhjojbaieeaaaDoorShelf
set_option maxRecDepth 20000
namespace Go.Proofs.YtgjhjojbaieeaaaDoor
open Go.ChangeShapes Go.WideShapes Go.ChangeAt Go.RowKit
theorem info_int : (Tryd.prog.info? 3).map (fun i => (i.zero, i.size, i.bytes)) = some (some (.int .i64 0), 1, 8) := by kernel_rfl
theorem ext_l (s : ByteArray) (a b : Nat) : (s.extract a b).data.toList = (s.data.toList.take b).drop a := by
  rw [ByteArray.data_extract, Array.toList_extract]
  simp [List.drop_take]
theorem pfx_no {s p : ByteArray} (h : pfxB s p = false) : strip p.data.toList s.data.toList = none := by
  cases hs : strip p.data.toList s.data.toList with
  | none => rfl
  | some t =>
    have e := strip_some.1 hs
    exfalso
    have h1 : p.size ≤ s.size := by
      have := congrArg List.length e
      rw [List.length_append] at this
      have a : s.data.toList.length = s.size := rfl
      have b : p.data.toList.length = p.size := rfl
      omega
    have h2 : s.extract 0 p.size = p := by
      apply ByteArray.ext
      apply Array.ext'
      rw [ext_l, e]
      rw [List.drop_zero, show p.size = p.data.toList.length from rfl, List.take_left]
    unfold pfxB at h
    rw [decide_eq_true h1, decide_eq_true h2] at h
    cases h
theorem pfx_yes {s p : ByteArray} (h : pfxB s p = true) : strip p.data.toList s.data.toList = some (cutP s p).data.toList := by
  have hc : cutP s p = s.extract p.size s.size := by unfold cutP; rw [if_pos h]
  unfold pfxB at h
  rw [Bool.and_eq_true, decide_eq_true_eq, decide_eq_true_eq] at h
  rw [strip_some, hc, ext_l]
  have h2 := congrArg (fun x => x.data.toList) h.2
  simp only [ext_l, List.drop_zero] at h2
  rw [List.take_of_length_le (show s.data.toList.length ≤ s.size from Nat.le_refl _)]
  conv => lhs; rw [← List.take_append_drop p.size s.data.toList, h2]
theorem cutP_le (s p : ByteArray) : (cutP s p).size ≤ s.size := by
  unfold cutP
  split
  · rw [ByteArray.size_extract]; omega
  · exact Nat.le_refl _
def lst (s : ByteArray) : List UInt8 := s.data.toList
/-- What 'numbers' comes to. -/
def NP (s : ByteArray) (L : List ByteArray) (w : World) (e : Ending) (w' : World) : Prop :=
  ((e = .returned (.tuple #[.slice none 0 0, .bool false]) ∧ numP (L.map lst) s.data.toList = none) ∨
   (∃ (A : Option Addr) (C : Nat) (l : List Int), e = .returned (.tuple #[.slice A l.length C, .bool false]) ∧ numP (L.map lst) s.data.toList = none) ∨
   (∃ (A : Option Addr) (C : Nat) (l : List Int), e = .returned (.tuple #[.slice A l.length C, .bool true]) ∧ Rd w' w'.heap.size 1 A l.length (l.map (Value.int .i64)) ∧ numP (L.map lst) s.data.toList = some l ∧ l.length + 1 = L.length)) ∧ Below w.heap.size w w'
/-- Where the loop stands. -/
def NG (s : ByteArray) (L : List ByteArray) (k : Nat) (S : ByteArray) (acc : List Int) : Prop :=
  (k = 0 ∧ S = s ∧ acc = []) ∨ (0 < k ∧ numP (L.map lst) s.data.toList = numGo ((L.map lst).drop k) S.data.toList acc ∧ acc.length + 1 = k)
theorem NG.first {s p S' : ByteArray} {L : List ByteArray} {S : ByteArray} {acc : List Int} (h : NG s L 0 S acc) (hp : L[0]? = some p) (hs : strip p.data.toList S.data.toList = some S'.data.toList) : NG s L (0 + 1) S' acc := by
  rcases h with ⟨_, rfl, rfl⟩ | ⟨h, _⟩
  · refine .inr ⟨by omega, ?_, rfl⟩
    cases L with
    | nil => cases hp
    | cons a L =>
      injection hp with hp
      subst hp
      rw [List.map_cons, numP, show lst a = a.data.toList from rfl, hs]
      rfl
  · omega
theorem NG.first_no {s p : ByteArray} {L : List ByteArray} {S : ByteArray} {acc : List Int} (h : NG s L 0 S acc) (hp : L[0]? = some p) (hs : strip p.data.toList S.data.toList = none) : numP (L.map lst) s.data.toList = none := by
  rcases h with ⟨_, rfl, rfl⟩ | ⟨h, _⟩
  · cases L with
    | nil => cases hp
    | cons a L =>
      injection hp with hp
      subst hp
      rw [List.map_cons, numP, show lst a = a.data.toList from rfl, hs]
  · omega
theorem drop_map {L : List ByteArray} {j : Nat} {p : ByteArray} (hp : L[j]? = some p) : (L.map lst).drop j = p.data.toList :: (L.map lst).drop (j + 1) := by
  obtain ⟨hj, e⟩ := List.getElem?_eq_some_iff.1 hp
  rw [List.drop_eq_getElem_cons (by simpa using hj), List.getElem_map, e]
  rfl
theorem NG.num_no {s p : ByteArray} {L : List ByteArray} {S : ByteArray} {acc : List Int} {j : Nat} (h : NG s L (j + 1) S acc) (hp : L[j + 1]? = some p) (hr : rdB (S.data.toList.take (mlen S.data.toList)) = none) : numP (L.map lst) s.data.toList = none := by
  rcases h with ⟨h, _⟩ | ⟨_, h, _⟩
  · omega
  · rw [h, drop_map hp, numGo, hr]
theorem NG.cut_no {s p : ByteArray} {L : List ByteArray} {S : ByteArray} {acc : List Int} {j : Nat} {v : Int} (h : NG s L (j + 1) S acc) (hp : L[j + 1]? = some p) (hr : rdB (S.data.toList.take (mlen S.data.toList)) = some v) (hs : strip p.data.toList (S.data.toList.drop (mlen S.data.toList)) = none) : numP (L.map lst) s.data.toList = none := by
  rcases h with ⟨h, _⟩ | ⟨_, h, _⟩
  · omega
  · rw [h, drop_map hp, numGo, hr]
    simp only [hs]
theorem NG.next {s p S' : ByteArray} {L : List ByteArray} {S : ByteArray} {acc : List Int} {j : Nat} {v : Int} (h : NG s L (j + 1) S acc) (hp : L[j + 1]? = some p) (hr : rdB (S.data.toList.take (mlen S.data.toList)) = some v) (hs : strip p.data.toList (S.data.toList.drop (mlen S.data.toList)) = some S'.data.toList) : NG s L (j + 1 + 1) S' (acc ++ [v]) := by
  rcases h with ⟨h, _⟩ | ⟨_, h, h2⟩
  · omega
  · refine .inr ⟨by omega, ?_, by simp; omega⟩
    rw [h, drop_map hp, numGo, hr]
    simp only [hs]
theorem NG.fin {s : ByteArray} {L : List ByteArray} {S : ByteArray} {acc : List Int} {k : Nat} (h : NG s L k S acc) (hk : k = L.length) (h0 : 0 < k) : numP (L.map lst) s.data.toList = (if S.data.toList = [] then some acc else none) ∧ acc.length + 1 = L.length := by
  rcases h with ⟨h, _⟩ | ⟨_, h, h2⟩
  · omega
  · rw [h, List.drop_eq_nil_of_le (by simp; omega), numGo]
    exact ⟨rfl, by omega⟩
theorem tw_step {P : UInt8 → Bool} : ∀ {l : List UInt8} {i : Nat} {x : UInt8}, i ≤ (l.takeWhile P).length → l[i]? = some x → P x = true → i + 1 ≤ (l.takeWhile P).length
  | [], i, x, _, hx, _ => by simp at hx
  | a :: l, 0, x, h, hx, hp => by
    simp at hx
    subst hx
    rw [List.takeWhile_cons_of_pos hp]
    simp
  | a :: l, i + 1, x, h, hx, hp => by
    rw [List.takeWhile_cons] at h ⊢
    split at h
    · rename_i ha
      rw [if_pos ha]
      simp at h ⊢
      exact tw_step h (by simpa using hx) hp
    · simp at h
theorem tw_stop {P : UInt8 → Bool} : ∀ {l : List UInt8} {i : Nat} {x : UInt8}, l[i]? = some x → P x = false → (l.takeWhile P).length ≤ i
  | [], i, x, hx, _ => by simp at hx
  | a :: l, 0, x, hx, hp => by
    simp at hx
    subst hx
    rw [List.takeWhile_cons_of_neg (by simp [hp])]
    simp
  | a :: l, i + 1, x, hx, hp => by
    rw [List.takeWhile_cons]
    split
    · simp
      exact tw_stop (by simpa using hx) hp
    · simp
theorem tw_len (P : UInt8 → Bool) (l : List UInt8) : (l.takeWhile P).length ≤ l.length := (List.takeWhile_sublist P).length_le
theorem byl_g (s : ByteArray) (k : Nat) (h : k < s.size) : s.data.toList[k]? = some s[k] := by
  rw [List.getElem?_eq_getElem (show k < s.data.toList.length from h)]; rfl
theorem isM_cases (c : UInt8) : (isM c = true ∧ (c = 45 ∨ (c ≠ 45 ∧ 48 ≤ c.toNat ∧ c.toNat ≤ 57))) ∨ (isM c = false ∧ c ≠ 45 ∧ (c.toNat < 48 ∨ (48 ≤ c.toNat ∧ 57 < c.toNat))) := by
  unfold isM
  by_cases h : c = 45
  · subst h; exact .inl ⟨by decide, .inl rfl⟩
  · by_cases h2 : 48 ≤ c.toNat ∧ c.toNat ≤ 57
    · exact .inl ⟨by simp [h2], .inr ⟨h, h2⟩⟩
    · exact .inr ⟨by simp [h]; omega, h, by omega⟩
theorem nb45 {c : UInt8} (h : c ≠ 45) : ((c.toNat : Int) == 45) = false := by
  rw [beq_eq_false_iff_ne]
  intro e
  apply h
  apply UInt8.toNat_inj.1
  exact_mod_cast e
theorem below_2 {B : Nat} {w wr w2 : World} (hb : Below B w wr) (h2 : Below wr.heap.size wr w2) (hB : B ≤ wr.heap.size) : Below B w w2 := hb.trans (h2.mono hB)
theorem own_2 {w w2 : World} {base : Nat} {e : TypeId} {size n : Nat} {v : Value} {xs : List Value} (h : w.ownsRow base e size v n xs) (hb : Below w.heap.size w w2) : w2.ownsRow base e size v n xs := by
  obtain ⟨h1, h2⟩ := h
  refine ⟨h1, h2.imp id ?_⟩
  rintro ⟨g, cap, cur, hv, hg, hh, r⟩
  exact ⟨g, cap, cur, hv, hg, (hb.block g (Array.getElem?_eq_some_iff.1 hh).1).trans hh, r⟩
set_option maxHeartbeats 4000000 in
theorem numbers_any (s form : ByteArray) (L : List ByteArray) (m : Int) (w : World) (hc : Lib.countB form ⟨#[35]⟩ + 1 = L.length) (hL : Lib.splitB ⟨#[35]⟩ 0 (Lib.countB form ⟨#[35]⟩) form = L) (hl1 : L.length ≤ 3) (hm : w.cell? ⟨0, 0, none⟩ = some (.int .i64 m)) (hs : s.size ≤ 140737488351232) (hf : form.size < 4294967281) :
    Calls Tryd.prog 10 #[.string s, .string form] w (NP s L w) := by
  obtain ⟨i0, hi, hz0, hz1, hz2⟩ := info_parts info_int
  have HSP := Lib.hid (Tryd.strings_Split form ⟨#[35]⟩ m w hf hm (by decide))
  rw [hc, hL] at HSP
  have HL1 := Lib.hid hc
  clear hc hL hf hm
  obtain ⟨n, hn⟩ : ∃ n, n = L.length := ⟨_, rfl⟩
  rw [← hn] at HSP hl1 HL1
  have HN := Lib.hid hn
  clear hn
  go_enter Tryd.func10, Tryd.ntmps10
  go_wp2_with fail
  refine HSP.out.mono ?_
  rintro e w1 ⟨rfl, rfl⟩
  have hpc : ∀ j p, L[j]? = some p → (w.alloc (.cells (L.map Value.string).toArray 9)).cell? ⟨w.heap.size, j, none⟩ = some (.string p) := by
    intro j p hp
    have := List.getElem?_map (f := Value.string) (l := L) (i := j)
    rw [hp] at this
    simp [go_sem]
    simpa using this
  generalize hw1 : w.alloc (.cells (L.map Value.string).toArray 9) = w1 at hpc
  have hb1 : Below w.heap.size w w1 := by subst hw1; exact al _
  have hs1 : w.heap.size < w1.heap.size := by subst hw1; simp
  have HPC := Lib.hid hpc
  have HW1 := Lib.hid hw1
  have HB1 := Lib.hid hb1
  clear hpc hw1 hb1 HSP
  go_wp2_with fail
  clear HW1
  generalize hg : w.heap.size = g at *
  go_loopw [0, 6, 17] (fun sv lv i wr => ∃ (k : Nat) (S : ByteArray) (acc : List Int) (q : Nat) (A : Option Addr) (C : Nat), i = .int .i64 (k : Int) ∧ k ≤ n ∧ sv = .string S ∧ lv = .slice A q C ∧ Hid (q = acc.length) ∧ q ≤ 3 ∧ Hid (NG s L k S acc) ∧ wr.ownsRow w1.heap.size 3 1 (.slice A q C) q (acc.map (Value.int .i64)) ∧ Below w1.heap.size w1 wr ∧ S.size ≤ 140737488351232) (fun _ _ i _ => n - (intOf i).toNat)
  case atStart => exact ⟨0, s, [], 0, none, 0, rfl, Nat.zero_le _, rfl, rfl, rfl, by omega, Lib.hid (.inl ⟨rfl, rfl, rfl⟩), World.ownsRow_nil _ _ _ _, Below.refl _ _, hs⟩
  case round =>
    obtain ⟨k, S, acc, q, A, C, rfl, hk, rfl, rfl, HQ, hq3, HNG, hown, hbel, hS⟩ := hrel
    have HRB := Lib.hid (fun (W : World) (h : Below w1.heap.size wr W) => (HB1.out.trans ((hbel.trans h).mono (Nat.le_of_lt hs1))))
    have HOW := Lib.hid hown
    have HBE := Lib.hid hbel
    by_cases hlt : k < n
    · obtain ⟨p, hp⟩ : ∃ p, L[k]? = some p := by
        have := HN.out
        exact ⟨L[k], List.getElem?_eq_getElem (by omega)⟩
      have hpc := HPC.out k p hp
      rw [← hbel.cell (p := ⟨g, k, none⟩) hs1] at hpc
      have HP := Lib.hid hp
      have hki : (k : Int) < (n : Int) := by omega
      clear hp hown hbel
      rcases k with _ | j
      · go_wp2_with fail
        refine (cutPrefix_any S p _).mono ?_
        rintro e w2 ⟨rfl, rfl⟩
        cases hpf : pfxB S p with
        | false =>
          have HE := Lib.hid (HNG.out.first_no HP.out (pfx_no hpf))
          clear hpf
          go_wp2_with fail
          go_returns
          exact ⟨.inl ⟨rfl, HE.out⟩, by rw [hg]; exact HRB.out _ (Below.refl _ _)⟩
        | true =>
          have HE := Lib.hid (HNG.out.first HP.out (pfx_yes hpf))
          have hcs := cutP_le S p
          generalize cutP S p = S2 at *
          clear hpf
          go_wp2_with fail
          exact ⟨⟨0 + 1, S2, acc, q, A, C, by go_num, by omega, rfl, rfl, HQ, hq3, HE, HOW.out, HBE.out, by omega⟩, by simp [intOf]; omega⟩
      · have hj0 : (0 : Int) < ((j + 1 : Nat) : Int) := by omega
        go_wp2_with fail
        go_loop [9] (fun a => ∃ i : Nat, a = .int .i64 (i : Int) ∧ i ≤ S.size ∧ Hid (i ≤ mlen S.data.toList)) (fun a => S.size - (intOf a).toNat)
        case atStart => exact ⟨0, rfl, by omega, Lib.hid (Nat.zero_le _)⟩
        case round =>
          obtain ⟨i, rfl, hi1, HI⟩ := hrel
          by_cases hx : ∃ h : i < S.size, isM S[i] = true
          · obtain ⟨hlt2, hM⟩ := hx
            have HI2 := Lib.hid (tw_step (P := isM) HI.out (byl_g S i hlt2) hM)
            rcases isM_cases S[i] with ⟨_, h45 | ⟨h45, h48, h57⟩⟩ | ⟨h, _⟩
            · have e45 : ((S[i].toNat : Int) == 45) = true := by rw [h45]; rfl
              clear h45 hM
              generalize hcc : S[i] = cc at *
              go_wp2_with fail
              exact ⟨⟨i + 1, by go_num, by omega, HI2⟩, by simp [intOf]; omega⟩
            · have e45 : ((S[i].toNat : Int) == 45) = false := nb45 h45
              have e48 : (48 : Int) ≤ (S[i].toNat : Int) := by omega
              have e57 : (S[i].toNat : Int) ≤ 57 := by omega
              clear h45 hM
              generalize hcc : S[i] = cc at *
              go_wp2_with fail
              exact ⟨⟨i + 1, by go_num, by omega, HI2⟩, by simp [intOf]; omega⟩
            · rw [hM] at h; cases h
          · have hx2 : (¬ i < S.size) ∨ ∃ h : i < S.size, isM S[i] = false ∧ ((S[i].toNat : Int) == 45) = false ∧ ((S[i].toNat < 48) ∨ (48 ≤ S[i].toNat ∧ 57 < S[i].toNat)) := by
              by_cases hlt2 : i < S.size
              · rcases isM_cases S[i] with ⟨h, _⟩ | ⟨h, h45, h3⟩
                · exact absurd ⟨hlt2, h⟩ hx
                · exact .inr ⟨hlt2, h, nb45 h45, h3⟩
              · exact .inl hlt2
            have HE : Hid (mlen S.data.toList = i) := Lib.hid (by
              rcases hx2 with h | ⟨h, h1, _⟩
              · have h3 := tw_len isM S.data.toList
                have h4 : S.data.toList.length = S.size := rfl
                have h5 := HI.out
                unfold mlen at h5 ⊢
                omega
              · exact Nat.le_antisymm (tw_stop (byl_g S i h) h1) HI.out)
            clear hx
            have HT1 := Lib.hid (show byt (S.extract 0 i) = (S.data.toList.take i).map UInt8.toNat by unfold byt; rw [ext_l, List.drop_zero])
            have HT2 := Lib.hid (show (S.extract i S.size).data.toList = S.data.toList.drop i by rw [ext_l, List.take_of_length_le (show S.data.toList.length ≤ S.size from Nat.le_refl _)])
            have hxs : (S.extract i S.size).size ≤ S.size := by rw [ByteArray.size_extract]; omega
            have hIN := HNG.out
            have HN0 := Lib.hid (fun (hr : rdB (S.data.toList.take i) = none) => hIN.num_no HP.out (by rw [HE.out]; exact hr))
            have HN1 := Lib.hid (fun (v : Int) (hr : rdB (S.data.toList.take i) = some v) (hs : strip p.data.toList (S.data.toList.drop i) = none) => hIN.cut_no HP.out (by rw [HE.out]; exact hr) (by rw [HE.out]; exact hs))
            have HN2 := Lib.hid (fun (v : Int) (S' : ByteArray) (hr : rdB (S.data.toList.take i) = some v) (hs : strip p.data.toList (S.data.toList.drop i) = some S'.data.toList) => hIN.next HP.out (by rw [HE.out]; exact hr) (by rw [HE.out]; exact hs))
            have hql : q = j := by
              have h1 := HQ.out
              rcases hIN with ⟨h, _⟩ | ⟨_, _, h⟩ <;> omega
            have HQL := Lib.hid hql
            have hi2 : (i : Int) ≤ (S.size : Int) := by omega
            clear hIN hql
            have hx3 : (¬ i < S.size) ∨ (∃ h : i < S.size, ((S[i].toNat : Int) == 45) = false ∧ S[i].toNat < 48) ∨ (∃ h : i < S.size, ((S[i].toNat : Int) == 45) = false ∧ 48 ≤ S[i].toNat ∧ 57 < S[i].toNat) := by
              rcases hx2 with h | ⟨h, _, h2, h3 | h3⟩
              · exact .inl h
              · exact .inr (.inl ⟨h, h2, h3⟩)
              · exact .inr (.inr ⟨h, h2, h3⟩)
            clear hx2
            have core : ∀ (W : World), Below w1.heap.size w1 W → True := fun _ _ => trivial
            clear core
            obtain ⟨X, hX⟩ : ∃ X, X = S.extract 0 i := ⟨_, rfl⟩
            obtain ⟨Y, hY⟩ : ∃ Y, Y = S.extract i S.size := ⟨_, rfl⟩
            rw [← hX] at HT1
            rw [← hY] at HT2 hxs
            have hX' := hX.symm
            have hY' := hY.symm
            clear hX hY
            rcases hx3 with h | ⟨h, e45, e48⟩ | ⟨h, e45, e48, e57⟩
            all_goals
              try generalize hcc : S[i] = cc at *
              go_wp2_with fail
              refine (wordRead_any X _).mono ?_
              rintro e w2 ⟨rfl, hb2⟩
              have hb3 : Below w1.heap.size w1 w2 := below_2 HBE.out hb2 HBE.out.size
              have HB3 := Lib.hid hb3
              have hown := own_2 HOW.out hb2
              have hp2 := HPC.out (j + 1) p HP.out
              have hbs := hb3.size
              clear hb2
              cases hrd : rd (byt X) with
              | none =>
                have HZ := Lib.hid (HN0.out (by unfold rdB; rw [← HT1.out]; exact hrd))
                rw [readV_none hrd]
                clear hrd
                go_wp2_with fail
                go_returns
                exact ⟨.inl ⟨rfl, HZ.out⟩, by rw [hg]; exact HB1.out.trans (HB3.out.mono (Nat.le_of_lt hs1))⟩
              | some v =>
                have HRD := Lib.hid (show rdB (S.data.toList.take i) = some v by unfold rdB; rw [← HT1.out]; exact hrd)
                rw [readV_some hrd]
                clear hrd
                go_wp2_with (at_builtin; refine wpList_append_rd _ rfl _ _ 30 rfl w1.heap.size 3 i0 _ 1 8 Tryd.underlying30 hi hz0 hz1 hz2 rfl (by omega) _ _ _ rfl (hown.alloc _) _ _ 1 1 [_] rfl (Rd.lit1 _ _ _) (one1 rfl) (by unfold maxLen; omega) (by omega) (by simp; omega) ?_; intro A3 c3 w3 hown3 hgrow3 _)
                refine (cutPrefix_any Y p _).mono ?_
                rintro e w4 ⟨rfl, rfl⟩
                have HB4 := Lib.hid ((hb3.alloc hbs _).grown hgrow3 (by simp; omega) (fun q hq => (hown.lt q hq).1))
                have HOW4 := Lib.hid hown3
                clear hgrow3 hown3 hb3 hown
                cases hpf : pfxB Y p with
                | false =>
                  have HZ := Lib.hid (HN1.out v HRD.out (by rw [← HT2.out]; exact pfx_no hpf))
                  clear hpf
                  go_wp2_with fail
                  go_returns
                  exact ⟨.inl ⟨rfl, HZ.out⟩, by rw [hg]; exact HB1.out.trans (HB4.out.mono (Nat.le_of_lt hs1))⟩
                | true =>
                  have HZ := Lib.hid (HN2.out v (cutP Y p) HRD.out (by rw [← HT2.out]; exact pfx_yes hpf))
                  have hcs := cutP_le Y p
                  have HQ4 := Lib.hid (show q + 1 = (acc ++ [v]).length by rw [List.length_append, ← HQ.out]; rfl)
                  have hq4 : q + 1 ≤ 3 := by have := HQL.out; omega
                  generalize cutP Y p = S2 at *
                  clear hpf
                  go_wp2_with fail
                  exact ⟨⟨j + 1 + 1, S2, acc ++ [v], q + 1, A3, c3, by go_num, by omega, rfl, rfl, HQ4, hq4, HZ, by rw [List.map_append]; exact HOW4.out, HB4.out, by omega⟩, by simp [intOf]; omega⟩
    · have HF := Lib.hid (HNG.out.fin (by have := HN.out; omega) (by have := HL1.out; omega))
      have HSl := Lib.hid (show S.toList = S.data.toList by rw [ByteArray.toList_eq])
      by_cases he : S.data.toList = []
      · have ht : S.toList.isEmpty = true := by rw [HSl.out, he]; rfl
        have HE := Lib.hid he
        clear he
        go_wp2_with fail
        go_returns
        have h2 := HF.out
        rw [if_pos HE.out] at h2
        have hql := HQ.out
        subst hql
        exact ⟨.inr (.inr ⟨A, C, acc, rfl, Rd.of_own HOW.out, h2.1, h2.2⟩), by rw [hg]; exact HRB.out _ (Below.refl _ _)⟩
      · have ht : S.toList.isEmpty = false := by
          rw [HSl.out]
          cases hx : S.data.toList with
          | nil => exact absurd hx he
          | cons a b => rfl
        have HE := Lib.hid he
        clear he
        go_wp2_with fail
        go_returns
        have h2 := HF.out
        rw [if_neg HE.out] at h2
        have hql := HQ.out
        subst hql
        exact ⟨.inr (.inl ⟨A, C, acc, rfl, h2.1⟩), by rw [hg]; exact HRB.out _ (Below.refl _ _)⟩
end Go.Proofs.YtgjhjojbaieeaaaDoor
