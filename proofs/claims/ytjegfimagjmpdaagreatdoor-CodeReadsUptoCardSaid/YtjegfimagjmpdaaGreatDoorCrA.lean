/- A line of a code's text, as the program reads it; the whole text. Conditions: none. -/
import Derived.Test.YtjegfimagjmpdaaGreatDoorCrP
import Derived.Test.YtjegfimagjmpdaaGreatDoorCutLf
import Derived.Test.YtjegfimagjmpdaaGreatDoorCdN
import Derived.Lib.SplitLaws
set_option maxRecDepth 100000
namespace Go.Proofs.YtjegfimagjmpdaaGreatDoor
open Go.ChangeShapes Go.WideShapes Go.ChangeAt Go.RowKit
theorem cutG_none {c : UInt8} : ∀ (s cur : List UInt8), c ∉ s → cutG c s cur = [cur ++ s]
  | [], cur, _ => by simp [cutG]
  | b :: s, cur, h => by
    have hb : b ≠ c := fun e => h (by rw [e]; simp)
    simp only [cutG, hb, if_false]
    rw [cutG_none s (cur ++ [b]) (fun e => h (by simp [e]))]
    simp
theorem cutG_at {c : UInt8} : ∀ (A cur B : List UInt8), c ∉ A → cutG c (A ++ c :: B) cur = (cur ++ A) :: cutG c B []
  | [], cur, B, _ => by simp [cutG]
  | b :: A, cur, B, h => by
    have hb : b ≠ c := fun e => h (by rw [e]; simp)
    rw [List.cons_append]
    simp only [cutG, hb, if_false]
    rw [cutG_at A (cur ++ [b]) B (fun e => h (by simp [e]))]
    simp
theorem cutG_pos (c : UInt8) (s : List UInt8) : ∃ a t, cutG c s [] = a :: t := by
  by_cases h : c ∈ s
  · obtain ⟨A, B, rfl, hA⟩ := List.eq_append_cons_of_mem h
    exact ⟨_, _, cutG_at A [] B hA⟩
  · exact ⟨_, _, cutG_none s [] h⟩
theorem cutG_two {c : UInt8} {l a b : List UInt8} {t : List (List UInt8)} (h : cutG c l [] = a :: b :: t) : ∃ B, l = a ++ c :: B ∧ c ∉ a ∧ cutG c B [] = b :: t := by
  by_cases hc : c ∈ l
  · obtain ⟨A, B, rfl, hA⟩ := List.eq_append_cons_of_mem hc
    rw [cutG_at A [] B hA, List.nil_append] at h
    injection h with h1 h2
    subst h1
    exact ⟨B, rfl, hA, h2⟩
  · rw [cutG_none l [] hc] at h
    injection h with _ h
    cases h
/-- All cuts of a text at a byte. -/
theorem splitK_cut (c : UInt8) : ∀ (n : Nat) (s : List UInt8), s.length ≤ n → Lib.splitK [c] 0 (Lib.count s [c]) s = cutG c s []
  | n, s, hn => by
    by_cases hc : c ∈ s
    · obtain ⟨A, B, rfl, hA⟩ := List.eq_append_cons_of_mem hc
      have hi : Lib.index (A ++ c :: B) [c] = (A.length : Int) := by rw [Lib.index_one]; exact ixb_yes hA
      have hd : (A ++ c :: B).drop (A.length + 1) = B := by
        rw [List.drop_append, List.drop_of_length_le (by omega)]
        simp
      rw [cutG_at A [] B hA, Lib.count_hit (by simp) hi, List.length_singleton, hd, Nat.add_comm 1]
      have hm : (Lib.index (A ++ c :: B) [c] == -1) = false := by rw [hi, beq_eq_false_iff_ne]; omega
      unfold Lib.splitK
      rw [if_neg (by rw [hm]; decide), hi]
      simp only [Int.toNat_natCast, Nat.add_zero, List.length_singleton, hd, List.take_left, List.nil_append]
      cases n with
      | zero => simp at hn
      | succ n => rw [splitK_cut c n B (by simp at hn; omega)]
    · have hi : Lib.index s [c] = -1 := by rw [Lib.index_one]; exact ixb_no hc
      rw [cutG_none s [] hc, Lib.count_miss hi]
      rfl
theorem split_cut (s : ByteArray) (c : UInt8) : (Lib.splitB ⟨#[c]⟩ 0 (Lib.countB s ⟨#[c]⟩) s).map (·.data.toList) = cutG c s.data.toList [] := by
  rw [Lib.splitB_data]
  exact splitK_cut c _ _ (Nat.le_refl _)
theorem split_eq (s : ByteArray) (c : UInt8) : (Lib.splitB ⟨#[c]⟩ 0 (Lib.countB s ⟨#[c]⟩) s).map Value.string = strs (cutG c s.data.toList []) := by
  rw [← split_cut]
  unfold strs
  rw [List.map_map]
  rfl
/-- What 'numbers' comes to. -/
def numM (n : Nat) (l : List UInt8) : Option (List Int) := if (cutG 32 l []).length = n + 1 ∧ (cutG 32 l []).head? = some [] then numsL (cutG 32 l []).tail else none
theorem numM_at (n : Nat) (B : List UInt8) : numM n (32 :: B) = if (cutG 32 B []).length = n then numsL (cutG 32 B []) else none := by
  unfold numM
  simp [cutG]
theorem numM_no (n : Nat) : numM (n + 1) [] = none := by
  unfold numM
  simp [cutG]
theorem numsL_len : ∀ (l : List (List UInt8)) (z : List Int), numsL l = some z → z.length = l.length
  | [], z, h => by injection h with h; subst h; rfl
  | p :: r, z, h => by
    unfold numsL at h
    split at h
    · cases h
    · cases hr : numsL r with
      | none => rw [hr] at h; cases h
      | some y =>
        rw [hr] at h
        injection h with h
        subst h
        simp [numsL_len r y hr]
/-- The word's number. -/
def opW (o : List UInt8) : Option Nat := ((List.range 41).map (· + 1)).find? fun k => decide (wordL k = o)
theorem words_two : ∀ a : Fin 42, ∀ b : Fin 42, 0 < a.1 → 0 < b.1 → wordL a.1 = wordL b.1 → a.1 = b.1 := by decide +kernel
theorem opW_some {o : List UInt8} {k : Nat} (h1 : 1 ≤ k) (h2 : k ≤ 41) (h : wordL k = o) : opW o = some k := by
  cases hf : opW o with
  | none =>
    have := List.find?_eq_none.1 hf k (List.mem_map.2 ⟨k - 1, List.mem_range.2 (by omega), by omega⟩)
    simp [h] at this
  | some j =>
    have h3 := List.find?_some hf
    have h4 := List.mem_of_find?_eq_some hf
    obtain ⟨i, hi, rfl⟩ := List.mem_map.1 h4
    have hi := List.mem_range.1 hi
    have h3 : wordL (i + 1) = o := by simpa using h3
    rw [← h] at h3
    have := words_two ⟨i + 1, by omega⟩ ⟨k, by omega⟩ (by simp) (by simp; omega) h3
    simp at this
    rw [this]
theorem opW_none {o : List UInt8} (h : ∀ k, 1 ≤ k → k ≤ 41 → wordL k ≠ o) : opW o = none := by
  unfold opW
  rw [List.find?_eq_none]
  intro k hk
  obtain ⟨i, hi, rfl⟩ := List.mem_map.1 hk
  have hi := List.mem_range.1 hi
  simpa using h (i + 1) (by omega) (by omega)
theorem opW_in {o : List UInt8} {k : Nat} (h : opW o = some k) : 1 ≤ k ∧ k ≤ 41 ∧ wordL k = o := by
  have h3 := List.find?_some h
  obtain ⟨i, hi, rfl⟩ := List.mem_map.1 (List.mem_of_find?_eq_some h)
  have hi := List.mem_range.1 hi
  exact ⟨by omega, by omega, by simpa using h3⟩
section
variable {op : List UInt8 → Option Nat} {st : Bool} {K : KK} {l r A B : List UInt8}
theorem line_text (q : List UInt8) (hu : unq [] = none) : lineC op true K ([116, 101, 120, 116, 32] ++ q) = match unq q with | none => none | some t => if K.funcs ≠ [] then none else some { K with texts := K.texts ++ [⟨t.toArray⟩] } := by
  cases q with
  | nil =>
    rw [hu]
    have h1 : isTx ([116, 101, 120, 116, 32] ++ []) = false := by decide
    unfold lineC
    rw [if_neg (by rw [h1]; decide)]
    rfl
  | cons c q =>
    unfold lineC
    rw [if_pos (tx_line (by simp))]
    simp only [show ([116, 101, 120, 116, 32] ++ c :: q).drop 5 = c :: q from rfl, true_and]
    cases unq (c :: q) <;> rfl
theorem line_o (h : isTx l = false) : lineC op st K l = lineO op K l := by
  unfold lineC
  rw [if_neg (by rw [h]; decide)]
theorem line_func_no (h : (32 : UInt8) ∉ r) : lineC op st K ([102, 117, 110, 99, 32] ++ r) = none := by
  rw [line_o (fn_line r)]
  unfold lineO
  have e : cutG 32 ([102, 117, 110, 99, 32] ++ r) [] = [102, 117, 110, 99] :: cutG 32 r [] := cutG_at [102, 117, 110, 99] [] r (by decide)
  rw [e, cutG_none r [] h]
theorem line_func (h : (32 : UInt8) ∉ A) : lineC op st K ([102, 117, 110, 99, 32] ++ (A ++ 32 :: B)) = match numM 3 (32 :: B) with | some [p, s, c] => some { K with funcs := K.funcs ++ [⟨⟨A.toArray⟩, p, s, c, []⟩] } | _ => none := by
  rw [line_o (fn_line _), numM_at]
  unfold lineO
  have e : cutG 32 ([102, 117, 110, 99, 32] ++ (A ++ 32 :: B)) [] = [102, 117, 110, 99] :: A :: cutG 32 B [] := by
    have := cutG_at (c := 32) [102, 117, 110, 99] [] (A ++ 32 :: B) (by decide)
    rw [cutG_at A [] B h] at this
    exact this
  rw [e]
  generalize cutG 32 B [] = P
  match P with
  | [] => rfl
  | [_] => rfl
  | [_, _] => rfl
  | [x, y, z] => rfl
  | [_, _, _, _] => rfl
  | [_, _, _, _, _] => rfl
  | [a, b, c, d, e, f] =>
    show (if _ then _ else _) = _
    rw [if_neg (by simp)]
    rfl
  | _ :: _ :: _ :: _ :: _ :: _ :: _ :: t => simp
theorem line_ins_no (h : K.funcs = [] ∨ (32 : UInt8) ∉ r) : lineC op st K ([32, 32] ++ r) = none := by
  rw [line_o (in_line r)]
  unfold lineO
  have e : cutG 32 ([32, 32] ++ r) [] = [] :: [] :: cutG 32 r [] := by simp [cutG]
  rw [e]
  rcases h with h | h
  · split
    · rename_i h1
      injection h1 with h1 _
      rw [← h1, if_neg (by decide)]
    · rw [if_neg (by simp [h])]
    · rfl
  · rw [cutG_none r [] h]
theorem line_ins (hf : K.funcs ≠ []) (h : (32 : UInt8) ∉ A) : lineC op st K ([32, 32] ++ (A ++ 32 :: B)) = match op A, numM 5 (32 :: B) with | some k, some [z1, z2, z3, z4, z5] => some { K with funcs := addIns K.funcs ⟨(k : Int), z1, z2, z3, z4, z5⟩ } | _, _ => none := by
  rw [line_o (in_line _), numM_at]
  unfold lineO
  have e : cutG 32 ([32, 32] ++ (A ++ 32 :: B)) [] = [] :: [] :: A :: cutG 32 B [] := by
    have : cutG 32 ([32, 32] ++ (A ++ 32 :: B)) [] = [] :: [] :: cutG 32 (A ++ 32 :: B) [] := by simp [cutG]
    rw [this, cutG_at A [] B h]
    rfl
  rw [e]
  generalize cutG 32 B [] = P
  match P with
  | [] => cases op A <;> rfl
  | [_] => cases op A <;> rfl
  | [a, b] =>
    show (if _ then _ else _) = _
    rw [if_neg (by decide)]
    cases op A <;> rfl
  | [_, _, _] => cases op A <;> rfl
  | [_, _, _, _] => cases op A <;> rfl
  | [x1, x2, x3, x4, x5] =>
    show (if _ then _ else _) = _
    rw [if_pos ⟨rfl, rfl, hf⟩]
    rfl
  | _ :: _ :: _ :: _ :: _ :: _ :: t => cases op A <;> simp
/-- What begins by none of the three is no line. -/
theorem line_else (h1 : ∀ t, l ≠ [116, 101, 120, 116, 32] ++ t) (h2 : ∀ t, l ≠ [102, 117, 110, 99, 32] ++ t) (h3 : ∀ t, l ≠ [32, 32] ++ t) : lineC op st K l = none := by
  have ht : isTx l = false := by
    cases hi : isTx l with
    | false => rfl
    | true =>
      exfalso
      have := of_decide_eq_true hi
      obtain ⟨h4, h5⟩ := this
      by_cases hc : (32 : UInt8) ∈ l
      · obtain ⟨A, B, rfl, hA⟩ := List.eq_append_cons_of_mem hc
        rw [cutG_at A [] B hA] at h4
        have h4 : A = [116, 101, 120, 116] := by simpa using h4
        subst h4
        exact h1 B rfl
      · rw [cutG_none l [] hc] at h4
        have h4 : l = [116, 101, 120, 116] := by simpa using h4
        subst h4
        simp at h5
  rw [line_o ht]
  unfold lineO
  split
  · rename_i a n x y z hc
    obtain ⟨B, hl, _⟩ := cutG_two hc
    rw [if_neg]
    rintro rfl
    exact h2 B hl
  · rename_i a b o x1 x2 x3 x4 x5 hc
    obtain ⟨B, hl, _, hc2⟩ := cutG_two hc
    obtain ⟨B', hl2, _⟩ := cutG_two hc2
    rw [if_neg]
    rintro ⟨rfl, rfl, _⟩
    rw [hl2] at hl
    exact h3 B' hl
  · rfl
/-- How much a code holds. -/
def cntK (K : KK) : Nat := K.texts.length + (K.funcs.map fun f => 1 + f.ins.length).sum
theorem cnt_add (fs : List FF) (x : II) : ((addIns fs x).map fun f => 1 + f.ins.length).sum ≤ (fs.map fun f => 1 + f.ins.length).sum + 1 := by
  unfold addIns
  cases hl : fs.getLast? with
  | none =>
    have : fs = [] := List.getLast?_eq_none_iff.1 hl
    subst this
    simp
  | some f =>
    obtain ⟨ys, rfl⟩ := List.getLast?_eq_some_iff.1 hl
    simp only [List.dropLast_concat, List.map_append, List.sum_append, Option.map_some, Option.toList_some, List.map_cons, List.map_nil, List.sum_cons, List.sum_nil, List.length_append, List.length_singleton]
    omega
theorem cnt_line {K' : KK} (h : lineC op st K l = some K') : cntK K' ≤ cntK K + 1 := by
  unfold lineC at h
  unfold cntK
  split at h
  · split at h
    · cases h
    · split at h
      · cases h
      · injection h with h
        subst h
        simp
        omega
  · unfold lineO at h
    split at h
    · split at h
      · split at h
        · injection h with h
          subst h
          simp
          omega
        · cases h
      · cases h
    · split at h
      · split at h
        · injection h with h
          subst h
          rename_i k z1 z2 z3 z4 z5 _ _
          have := cnt_add K.funcs ⟨(k : Int), z1, z2, z3, z4, z5⟩
          simp only
          omega
        · cases h
      · cases h
    · cases h
end
/-- What the program reads of a text's pieces: the last is to be empty. -/
def goT (op : List UInt8 → Option Nat) : KK → List (List UInt8) → Option KK
  | _, [] => none
  | K, [x] => if x = [] then some K else none
  | K, l :: m :: r => (lineC op true K l).bind fun K' => goT op K' (m :: r)
theorem goT_last {op : List UInt8 → Option Nat} {x : List UInt8} : ∀ (Q : List (List UInt8)) (K : KK), goT op K (Q ++ [x]) = if x = [] then foldC op true K Q else none
  | [], K => rfl
  | [l], K => by
    show (lineC op true K l).bind (fun K' => goT op K' [x]) = _
    unfold foldC
    cases lineC op true K l with
    | none => simp
    | some K1 => rfl
  | l :: m :: r, K => by
    have ih := goT_last (op := op) (x := x) (m :: r)
    show (lineC op true K l).bind (fun K' => goT op K' (m :: r ++ [x])) = _
    rw [show foldC op true K (l :: m :: r) = (lineC op true K l).bind fun K' => foldC op true K' (m :: r) from rfl]
    cases lineC op true K l with
    | none => simp
    | some K1 => exact ih K1
theorem goT_no {op : List UInt8 → Option Nat} {K : KK} {s : List UInt8} (h0 : s ≠ []) (h : (10 : UInt8) ∉ s) : goT op K (cutG 10 s []) = none := by
  rw [cutG_none s [] h]
  show (if _ then _ else _) = _
  rw [if_neg (by simpa using h0)]
theorem goT_end {op : List UInt8 → Option Nat} {K : KK} : goT op K (cutG 10 [] []) = some K := rfl
theorem goT_step {op : List UInt8 → Option Nat} {K : KK} {A B : List UInt8} (h : (10 : UInt8) ∉ A) : goT op K (cutG 10 (A ++ 10 :: B) []) = (lineC op true K A).bind fun K' => goT op K' (cutG 10 B []) := by
  rw [cutG_at A [] B h]
  obtain ⟨a, t, e⟩ := cutG_pos 10 B
  rw [e]
  rfl
theorem quoC_nl {c : UInt8} {a : List UInt8} (h : quoC c = some a) : (10 : UInt8) ∉ a := by
  unfold quoC at h
  split at h
  · rename_i hc
    injection h with h
    subst h
    rcases hc with rfl | rfl <;> decide
  · split at h
    · injection h with h
      subst h
      decide
    · rename_i hc
      split at h
      · injection h with h
        subst h
        decide
      · split at h
        · injection h with h
          subst h
          simpa using fun e => hc e.symm
        · cases h
theorem quoL_nl : ∀ {l a : List UInt8}, quoL l = some a → (10 : UInt8) ∉ a
  | [], a, h => by injection h with h; subst h; simp
  | c :: r, a, h => by
    unfold quoL at h
    cases hc : quoC c with
    | none => rw [hc] at h; cases h
    | some x =>
      cases hr : quoL r with
      | none => rw [hc, hr] at h; cases h
      | some y =>
        rw [hc, hr] at h
        injection h with h
        subst h
        simp [quoC_nl hc, quoL_nl hr]
theorem nm_nl {L : List UInt8} (h : nmB L = true) : (10 : UInt8) ∉ L := by
  by_cases h0 : L = []
  · subst h0; simp
  · rw [nm_tok h0] at h
    have ht := of_decide_eq_true h
    have hL : isL (L.headD 0) = true := by
      cases hl : isL (L.headD 0) with
      | true => rfl
      | false =>
        exfalso
        cases hd : isD (L.headD 0) with
        | true =>
          rw [tokR_num hl hd] at ht
          split at ht <;> · injection ht with ht _; cases ht
        | false =>
          rw [tokR_else (by unfold isA; rw [hl, hd]; rfl)] at ht
          repeat' split at ht
          all_goals · injection ht with ht _; cases ht
    rw [tokR_name hL] at ht
    split at ht
    · injection ht with ht _; cases ht
    · injection ht with _ ht
      injection ht with ht _
      have hal : (L.takeWhile isA).length = L.length := by
        have : alen L = L.length := by exact_mod_cast ht
        exact this
      have e : L.takeWhile isA = L := (List.takeWhile_prefix isA).eq_of_length hal
      intro hm
      rw [← e] at hm
      have := List.all_eq_true.1 (List.all_takeWhile (p := isA) (l := L)) 10 hm
      revert this
      decide
theorem dL_nl (n : Int) : (10 : UInt8) ∉ dL n := by
  unfold dL
  rw [decS_data]
  intro h
  obtain ⟨d, hd, e⟩ := List.mem_map.1 h
  have e2 : d % 256 = 10 := by
    have := congrArg UInt8.toNat e
    simpa using this
  rcases decL_byte n d hd with h | h <;> omega
theorem blL_nl (l : List Int) : (10 : UInt8) ∉ blL l := by
  unfold blL
  intro h
  obtain ⟨n, _, h⟩ := List.mem_flatMap.1 h
  rcases List.mem_cons.1 h with h | h
  · cases h
  · exact dL_nl n h
theorem word_nl : ∀ k, k < 42 → (10 : UInt8) ∉ wordL k := by decide +kernel
theorem lines_nl {K : KK} (h : (soundV K).1 = 0) : (∀ l ∈ linK K, (10 : UInt8) ∉ l) ∧ ∀ t ∈ K.texts, (quoT t).data.toList ≠ [] := by
  have hs := Snd.of h
  have hq : ∀ t ∈ K.texts, ∃ q, quoL t.data.toList = some q ∧ (quoT t).data.toList = 34 :: q ++ [34] := fun t ht => by
    have h1 := hs.tx t ht
    have h2 := quoE_len h1
    unfold quoE at h1
    rw [if_neg (by omega)] at h1
    unfold quoT
    rw [if_neg (by omega)]
    cases hq : quoL t.data.toList with
    | none => rw [hq] at h1; cases h1
    | some q => exact ⟨q, rfl, rfl⟩
  refine ⟨fun l hl => ?_, fun t ht => ?_⟩
  · unfold linK at hl
    rcases List.mem_append.1 hl with hl | hl
    · obtain ⟨t, ht, rfl⟩ := List.mem_map.1 hl
      obtain ⟨q, h1, h2⟩ := hq t ht
      rw [h2]
      have := quoL_nl h1
      simp [this]
    · obtain ⟨f, hf, hl⟩ := List.mem_flatMap.1 hl
      obtain ⟨k, hk, he⟩ := List.mem_iff_getElem.1 hf
      have hkf : K.funcs[k]? = some f := by rw [List.getElem?_eq_getElem hk, he]
      rcases List.mem_cons.1 hl with rfl | hl
      · have h1 := nm_nl (head_ok (hs.hd k f hkf)).1
        have h2 := blL_nl [f.params, f.slots, f.caps]
        simp only [List.mem_append, not_or]
        exact ⟨⟨by decide, h1⟩, h2⟩
      · obtain ⟨x, hx, rfl⟩ := List.mem_map.1 hl
        obtain ⟨i, hi, hxe⟩ := List.mem_iff_getElem.1 hx
        have ho := insE_op (hs.fn k f hkf i x (by rw [List.getElem?_eq_getElem hi, hxe]))
        have h1 := word_nl x.o.toNat (by omega)
        have h2 := blL_nl [x.a, x.b, x.c, x.d, x.e]
        simp only [List.mem_append, not_or]
        exact ⟨⟨by decide, h1⟩, h2⟩
  · obtain ⟨q, _, h2⟩ := hq t ht
    rw [h2]
    simp
/-- What a text's code is. -/
def readC (s : List UInt8) : Option KK := chkC s (goT opW ⟨[], []⟩ (cutG 10 s []))
/-- The document's way to it. -/
theorem readC_doc {s x : List UInt8} {Q : List (List UInt8)} (hQ : cutG 10 s [] = Q ++ [x]) : chkC s (foldC opW false ⟨[], []⟩ Q) = readC s := by
  unfold readC
  rw [hQ, goT_last]
  by_cases hx : x = []
  · subst hx
    rw [if_pos rfl]
    exact (readC_same opW hQ fun K hK => lines_nl hK).symm
  · rw [if_neg hx]
    cases hf : foldC opW false ⟨[], []⟩ Q with
    | none => rfl
    | some K =>
      show (if _ then _ else _) = _
      rw [if_neg]
      · rfl
      · rintro ⟨h1, h2⟩
        have h3 := cut_lines (linK K) (lines_nl h1).1
        rw [← show_lines, h2, hQ] at h3
        have h4 := congrArg List.getLast? h3
        rw [List.getLast?_concat, List.getLast?_concat] at h4
        injection h4 with h4
        exact hx h4
end Go.Proofs.YtjegfimagjmpdaaGreatDoor
