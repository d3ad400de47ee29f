/- Tx: Cut WordsA B8 Qu Unq TextA Text Read QuoA Quote. Conditions: each text's own. -/
import Derived.Test.YtjegfimagjmpdaaGreatDoorBase
import Derived.Handy
import Derived.WalkKit
import Derived.Test.YtjegfimagjmpdaaGreatDoorShelf
section
/- The document's cutAt: the pieces of a text between a byte, in new memory. Conditions: the text is shorter than 2^42 bytes. -/
set_option maxRecDepth 20000
namespace Go.Proofs.YtjegfimagjmpdaaGreatDoor
open Go.ChangeShapes Go.WideShapes Go.ChangeAt Go.RowKit

/-! ### The plain law -/
/-- The pieces of a list between a byte; cur: what is gathered of the piece that is open. -/
def cutG (sep : UInt8) : List UInt8 → List UInt8 → List (List UInt8)
  | [], cur => [cur]
  | c :: r, cur => if c = sep then cur :: cutG sep r [] else cutG sep r (cur ++ [c])
theorem cutG_sep {sep : UInt8} {L : List UInt8} {k f : Nat} (hk : k < L.length) (h : L[k] = sep) :
    cutG sep (L.drop k) ((L.take k).drop f) = (L.take k).drop f :: cutG sep (L.drop (k + 1)) ((L.take (k + 1)).drop (k + 1)) := by
  rw [List.drop_eq_getElem_cons hk]
  simp only [cutG, h, if_true]
  have e : (L.take (k + 1)).drop (k + 1) = [] := List.drop_eq_nil_of_le (by simp; omega)
  rw [e]
theorem cutG_no {sep : UInt8} {L : List UInt8} {k f : Nat} (hk : k < L.length) (hf : f ≤ k) (h : L[k] ≠ sep) :
    cutG sep (L.drop k) ((L.take k).drop f) = cutG sep (L.drop (k + 1)) ((L.take (k + 1)).drop f) := by
  rw [List.drop_eq_getElem_cons hk]
  simp only [cutG, h, if_false]
  rw [List.take_succ_eq_append_getElem hk, List.drop_append_of_le_length (by simp; omega)]
theorem cutG_end {sep : UInt8} {L : List UInt8} {k : Nat} (hk : L.length ≤ k) (cur : List UInt8) : cutG sep (L.drop k) cur = [cur] := by
  rw [List.drop_eq_nil_of_le hk]; rfl
theorem extract_list (s : ByteArray) (a b : Nat) : s.extract a b = ⟨((s.data.toList.take b).drop a).toArray⟩ := by
  apply ByteArray.ext
  apply Array.ext'
  rw [ByteArray.data_extract, Array.toList_extract]
  simp [List.drop_take]
theorem get_list (s : ByteArray) (k : Nat) (h : k < s.size) : s.data.toList[k]'(by simpa using h) = s[k] := rfl

theorem info_str : (Tryz.prog.info? 9).map (fun i => (i.zero, i.size, i.bytes)) = some (some (.string ByteArray.empty), 1, 16) := by kernel_rfl

def strs (l : List (List UInt8)) : List Value := l.map fun x => .string ⟨x.toArray⟩
theorem strs_snoc (l : List (List UInt8)) (s : ByteArray) (a b : Nat) : strs (l ++ [(s.data.toList.take b).drop a]) = strs l ++ [.string (s.extract a b)] := by
  simp [strs, extract_list]
theorem strs_one (l : List (List UInt8)) : ∀ u ∈ strs l, u.oneCell' = true := fun u hu => by
  obtain ⟨x, _, rfl⟩ := List.mem_map.1 hu
  rfl

/-- What holds at the head of round k. -/
def CutAt (s : ByteArray) (sep : UInt8) (w : World) (wr : World) (l f i : Value) : Prop :=
  ∃ (k g c : Nat) (A : Option Addr) (ps : List (List UInt8)), i = .int .i64 k ∧ f = .int .i64 g ∧ l = .slice A ps.length c ∧ wr.ownsRow w.heap.size 9 1 l ps.length (strs ps) ∧ Below w.heap.size w wr ∧ ps.length ≤ k ∧
    (k ≤ s.size ∧ g ≤ k ∧ ps ++ cutG sep (s.data.toList.drop k) ((s.data.toList.take k).drop g) = cutG sep s.data.toList [] ∨ k = s.size + 1 ∧ ps = cutG sep s.data.toList [])

theorem CutAt.piece {s : ByteArray} {sep : UInt8} {w wr w1 : World} {k g c c1 : Nat} {A A1 : Option Addr} {ps : List (List UInt8)}
    (hown : wr.ownsRow w.heap.size 9 1 (.slice A ps.length c) ps.length (strs ps)) (hb : Below w.heap.size w wr) (hpk : ps.length ≤ k) (hks : k ≤ s.size) (hgk : g ≤ k)
    (hinv : ps ++ cutG sep (s.data.toList.drop k) ((s.data.toList.take k).drop g) = cutG sep s.data.toList []) {o : Obj}
    (hown1 : w1.ownsRow w.heap.size 9 1 (.slice A1 (ps.length + 1) c1) (ps.length + 1) (strs ps ++ [.string (s.extract g k)]))
    (hg1 : (wr.alloc o).grownBy w1 (Value.slice A ps.length c).ownBlock) (hc : k = s.size ∨ ∃ h : k < s.size, s[k] = sep) :
    CutAt s sep w w1 (.slice A1 (ps.length + 1) c1) (.int .i64 ((k : Int) + 1)) (.int .i64 ((k : Int) + 1)) := by
  refine ⟨k + 1, k + 1, c1, A1, ps ++ [(s.data.toList.take k).drop g], by simp, by simp, by simp, ?_, ?_, by simp; omega, ?_⟩
  · rw [strs_snoc, List.length_append]
    exact hown1
  · exact (hb.alloc hb.size o).grown hg1 (by have := hb.size; simp; omega) (fun q hq => (hown.lt q hq).1)
  · rcases hc with rfl | ⟨h, hs⟩
    · right
      refine ⟨rfl, ?_⟩
      rw [← hinv, cutG_end (by simp)]
    · left
      refine ⟨by omega, Nat.le_refl _, ?_⟩
      rw [← hinv, cutG_sep (k := k) (f := g) (by simpa using h) ((get_list s k h).trans hs)]
      simp
theorem CutAt.skip {s : ByteArray} {sep : UInt8} {w wr : World} {k g c : Nat} {A : Option Addr} {ps : List (List UInt8)}
    (hown : wr.ownsRow w.heap.size 9 1 (.slice A ps.length c) ps.length (strs ps)) (hb : Below w.heap.size w wr) (hpk : ps.length ≤ k) (hgk : g ≤ k)
    (hinv : ps ++ cutG sep (s.data.toList.drop k) ((s.data.toList.take k).drop g) = cutG sep s.data.toList []) (h : k < s.size) (hs : s[k] ≠ sep) :
    CutAt s sep w wr (.slice A ps.length c) (.int .i64 g) (.int .i64 ((k : Int) + 1)) := by
  refine ⟨k + 1, g, c, A, ps, by simp, rfl, rfl, hown, hb, by omega, .inl ⟨by omega, by omega, ?_⟩⟩
  rw [← hinv, cutG_no (k := k) (f := g) (by simpa using h) hgk (by rw [get_list s k h]; exact hs)]

set_option maxHeartbeats 400000 in
theorem cutAt_any (s : ByteArray) (d : Int) (sep : UInt8) (hd : Hid (d = sep.toNat)) (hs : s.size ≤ 4398046511104) (w : World) :
    Calls Tryz.prog 10 #[.string s, .int .u8 d] w fun e w' => ∃ A c, e = .returned (.slice A (cutG sep s.data.toList []).length c) ∧ w'.ownsRow w.heap.size 9 1 (.slice A (cutG sep s.data.toList []).length c) (cutG sep s.data.toList []).length (strs (cutG sep s.data.toList [])) ∧ Below w.heap.size w w' := by
  obtain ⟨i0, hi, hz0, hz1, hz2⟩ := info_parts info_str
  go_enter Tryz.func10, Tryz.ntmps10
  go_wp2_with fail
  go_loopw [5, 6, 7] (fun l f i wr => CutAt s sep w wr l f i) (fun _ _ i _ => s.size + 2 - (intOf i).toNat)
  case atStart => exact ⟨0, 0, 0, none, [], rfl, rfl, rfl, World.ownsRow_nil _ _ _ _, Below.refl _ _, Nat.le_refl _, .inl ⟨Nat.zero_le _, Nat.le_refl _, by simp⟩⟩
  case round =>
    obtain ⟨k, g, c, A, ps, rfl, rfl, rfl, hown, hb, hpk, hcase⟩ := hrel
    rcases hcase with ⟨hks, hgk, hinv⟩ | ⟨hk, hps⟩
    · rcases Nat.lt_or_ge k s.size with hlt | hge
      · by_cases hc : s[k] = sep
        · have HB : (((s[k]).toNat : Int) == d) = true := by rw [hd.out, hc]; simp
          have HN : ((k : Int) == (s.size : Int)) = false := by simp; omega
          have Hinv := Lib.hid hinv
          have Hc := Lib.hid (show k = s.size ∨ ∃ h : k < s.size, s[k] = sep from .inr ⟨hlt, hc⟩)
          clear hinv hd hc
          go_wp2_with ((at_builtin; refine wpList_append_rd _ rfl (.tmp 25) (.tmp 30) 23 rfl w.heap.size 9 i0 _ 1 16 Tryz.underlying23 hi hz0 hz1 hz2 rfl (by omega) (.slice A ps.length c) ps.length (strs ps) rfl (hown.alloc _) (wr.heap.size + 1) (some ⟨wr.heap.size, 0, none⟩) 1 1 [.string (s.extract g k)] rfl (Rd.lit1 _ _ _) (one1 rfl) (by unfold maxLen; omega) (by omega) (by have := hb.size; simp; omega) ?_; intro A1 c1 w1 hown1 hg1 hat1))
          exact ⟨CutAt.piece hown hb hpk hks hgk Hinv.out hown1 hg1 Hc.out, by simp [intOf]; omega⟩
        · have HB : (((s[k]).toNat : Int) == d) = false := by
            rw [hd.out]
            simp only [beq_eq_false_iff_ne, ne_eq, Int.natCast_inj]
            exact fun h => hc (UInt8.toNat_inj.1 h)
          have HN : ((k : Int) == (s.size : Int)) = false := by simp; omega
          have Hinv := Lib.hid hinv
          have Hc := Lib.hid hc
          clear hinv hd hc
          go_wp2_with fail
          exact ⟨CutAt.skip hown hb hpk hgk Hinv.out hlt Hc.out, by simp [intOf]; omega⟩
      · have HN : ((k : Int) == (s.size : Int)) = true := by simp; omega
        have Hinv := Lib.hid hinv
        have Hc := Lib.hid (show k = s.size ∨ ∃ h : k < s.size, s[k] = sep from .inl (by omega))
        clear hinv hd
        go_wp2_with ((at_builtin; refine wpList_append_rd _ rfl (.tmp 25) (.tmp 30) 23 rfl w.heap.size 9 i0 _ 1 16 Tryz.underlying23 hi hz0 hz1 hz2 rfl (by omega) (.slice A ps.length c) ps.length (strs ps) rfl (hown.alloc _) (wr.heap.size + 1) (some ⟨wr.heap.size, 0, none⟩) 1 1 [.string (s.extract g k)] rfl (Rd.lit1 _ _ _) (one1 rfl) (by unfold maxLen; omega) (by omega) (by have := hb.size; simp; omega) ?_; intro A1 c1 w1 hown1 hg1 hat1))
        exact ⟨CutAt.piece hown hb hpk hks hgk Hinv.out hown1 hg1 Hc.out, by simp [intOf]; omega⟩
    · have Hk := Lib.hid hk
      have Hps := Lib.hid hps
      have hk' : s.size < k := by omega
      clear hk hps hd
      go_wp2_with fail
      go_ret
      exact ⟨A, c, by rw [← Hps.out]; rfl, by rw [← Hps.out]; exact hown, hb⟩
theorem strs_get {W : List (List UInt8)} {k : Nat} {u : Value} (hk : k < W.length) (h : (strs W)[k]? = some u) : u = .string ⟨(W.getD k []).toArray⟩ := by
  rw [strs, List.getElem?_map, List.getElem?_eq_getElem hk] at h
  simpa [List.getD, hk] using h.symm
theorem own_kept {w w2 : World} {base : Nat} {e : TypeId} {size n : Nat} {v : Value} {xs : List Value} (h : w.ownsRow base e size v n xs) (hb : Below w.heap.size w w2) : w2.ownsRow base e size v n xs := by
  obtain ⟨h1, h2⟩ := h
  refine ⟨h1, h2.imp id ?_⟩
  rintro ⟨g, cap, cur, hv, hg, hh, r⟩
  exact ⟨g, cap, cur, hv, hg, (hb.block g (Array.getElem?_eq_some_iff.1 hh).1).trans hh, r⟩
theorem below_more {w wr w2 : World} (hb : Below w.heap.size w wr) (h2 : Below wr.heap.size wr w2) : Below w.heap.size w w2 :=
  hb.trans ⟨h2.os, h2.tape, h2.output, h2.size, fun k hk => h2.block k (by have := hb.size; omega)⟩
end Go.Proofs.YtjegfimagjmpdaaGreatDoor
end
section
/- 'scan.Word' and the document's Reserved answer alike. Conditions: none. -/
namespace Go.Proofs.YtjegfimagjmpdaaGreatDoor
open Go.ChangeShapes Go.WideShapes Go.ChangeAt Go.RowKit

def words : List (List UInt8) := [[102, 117, 110, 99], [118, 97, 114], [105, 102], [101, 108, 115, 101], [102, 111, 114], [98, 114, 101, 97, 107], [99, 111, 110, 116, 105, 110, 117, 101], [114, 101, 116, 117, 114, 110], [100, 101, 102, 101, 114], [116, 114, 117, 101], [102, 97, 108, 115, 101], [110, 105, 108], [105, 110, 116], [98, 111, 111, 108], [115, 116, 114, 105, 110, 103], [97, 110, 121]]
theorem words_cut : cutG 32 (ByteArray.mk #[102, 117, 110, 99, 32, 118, 97, 114, 32, 105, 102, 32, 101, 108, 115, 101, 32, 102, 111, 114, 32, 98, 114, 101, 97, 107, 32, 99, 111, 110, 116, 105, 110, 117, 101, 32, 114, 101, 116, 117, 114, 110, 32, 100, 101, 102, 101, 114, 32, 116, 114, 117, 101, 32, 102, 97, 108, 115, 101, 32, 110, 105, 108, 32, 105, 110, 116, 32, 98, 111, 111, 108, 32, 115, 116, 114, 105, 110, 103, 32, 97, 110, 121]).data.toList [] = words := by decide +kernel

theorem cutAt_words (w : World) : Calls Tryz.prog 10 #[.string ⟨#[102, 117, 110, 99, 32, 118, 97, 114, 32, 105, 102, 32, 101, 108, 115, 101, 32, 102, 111, 114, 32, 98, 114, 101, 97, 107, 32, 99, 111, 110, 116, 105, 110, 117, 101, 32, 114, 101, 116, 117, 114, 110, 32, 100, 101, 102, 101, 114, 32, 116, 114, 117, 101, 32, 102, 97, 108, 115, 101, 32, 110, 105, 108, 32, 105, 110, 116, 32, 98, 111, 111, 108, 32, 115, 116, 114, 105, 110, 103, 32, 97, 110, 121]⟩, .int .u8 32] w fun e w' => ∃ g c, e = .returned (.slice (some ⟨g, 0, none⟩) 16 c) ∧ Rd w' w'.heap.size 1 (some ⟨g, 0, none⟩) 16 (strs words) ∧ Below w.heap.size w w' := by
  have h := cutAt_any ⟨#[102, 117, 110, 99, 32, 118, 97, 114, 32, 105, 102, 32, 101, 108, 115, 101, 32, 102, 111, 114, 32, 98, 114, 101, 97, 107, 32, 99, 111, 110, 116, 105, 110, 117, 101, 32, 114, 101, 116, 117, 114, 110, 32, 100, 101, 102, 101, 114, 32, 116, 114, 117, 101, 32, 102, 97, 108, 115, 101, 32, 110, 105, 108, 32, 105, 110, 116, 32, 98, 111, 111, 108, 32, 115, 116, 114, 105, 110, 103, 32, 97, 110, 121]⟩ 32 32 rfl (by decide +kernel) w
  rw [words_cut] at h
  refine h.mono ?_
  rintro e w' ⟨A, c, rfl, hown, hb⟩
  obtain ⟨g, cap, hv, _⟩ := hown.form (by decide)
  injection hv with hA _ hc
  subst hA hc
  exact ⟨g, _, rfl, Rd.of_own hown, hb⟩

def wordB (l : List UInt8) : Bool := words.any fun x => l == x
theorem words_len : words.length = 16 := rfl
theorem any_take {l : List UInt8} {k : Nat} (W : List (List UInt8)) (hk : k < W.length) (h : (W.take k).any (fun x => l == x) = false) (h2 : (l == W[k]) = false) : (W.take (k + 1)).any (fun x => l == x) = false := by
  rw [List.take_succ_eq_append_getElem hk, List.any_append, h]
  simp [h2]
theorem any_yes {l : List UInt8} {k : Nat} (W : List (List UInt8)) (hk : k < W.length) (h2 : (l == W[k]) = true) : W.any (fun x => l == x) = true :=
  List.any_eq_true.2 ⟨W[k], List.getElem_mem hk, h2⟩
theorem toList_mk (l : List UInt8) : (ByteArray.mk l.toArray).toList = l := by rw [ByteArray.toList_eq]
set_option maxHeartbeats 400000 in
theorem refReserved_any (s : ByteArray) (w : World) : Calls Tryz.prog 83 #[.string s] w fun e w' => e = .returned (.bool (wordB s.toList)) ∧ Below w.heap.size w w' := by
  go_enter Tryz.func83, Tryz.ntmps83
  go_wp2_with fail
  refine (cutAt_words _).mono ?_
  rintro e w1 ⟨g, c, rfl, hr, hb⟩
  go_wp2_with fail
  go_loop [7] (fun i => ∃ k : Nat, k ≤ 16 ∧ i = .int .i64 k ∧ Hid ((words.take k).any (fun x => s.toList == x) = false)) (fun i => 16 - (intOf i).toNat)
  case atStart => exact ⟨0, by omega, rfl, rfl⟩
  case round =>
    obtain ⟨k, hk, rfl, hn⟩ := hrel
    by_cases hlt : k < 16
    · have hw : k < words.length := by rw [words_len]; exact hlt
      obtain ⟨b, off, u, hA, _, hu, hc⟩ := hr.at1 hlt
      have hu' := strs_get hw hu
      injection hA with hA
      injection hA with hA1 hA2
      subst hA1 hA2 hu'
      clear hu
      rw [Nat.zero_add] at hc
      by_cases ht : (s.toList == words[k]) = true
      · have HT : (words[k] == s.toList) = true := by rw [beq_iff_eq]; exact (beq_iff_eq.1 ht).symm
        have HY := Lib.hid (any_yes words hw ht)
        clear ht
        go_wp2
        go_ret
        exact ⟨by unfold wordB; rw [HY.out]; rfl, hb⟩
      · have ht' : (s.toList == words[k]) = false := by simpa using ht
        have HT : (words[k] == s.toList) = false := by
          rw [beq_eq_false_iff_ne] at ht' ⊢; exact fun e => ht' e.symm
        have HY := Lib.hid (any_take words hw hn.out ht')
        clear ht ht'
        go_wp2
        go_round
        case rel => exact ⟨k + 1, by omega, by go_num, HY⟩
        case measure => simp [intOf]; omega
    · go_wp2
      go_ret
      have e : k = 16 := by omega
      subst e
      exact ⟨by unfold wordB; rw [← hn.out]; rfl, hb⟩
set_option maxHeartbeats 800000 in
theorem scanWord_any (s : ByteArray) (w : World) : Calls Tryz.prog 103 #[.string s] w fun e w' => e = .returned (.bool (wordB s.toList)) ∧ w' = w := by
  go_enter Tryz.func103, Tryz.ntmps103
  go_wp2
  all_goals
    go_ret
    refine ⟨?_, rfl⟩
    simp_all [wordB, words]
end Go.Proofs.YtjegfimagjmpdaaGreatDoor
end
section
/- Texts as lists of bytes, in memory. Conditions: none. -/
set_option maxRecDepth 20000
namespace Go.Proofs.YtjegfimagjmpdaaGreatDoor
open Go.ChangeShapes Go.WideShapes Go.ChangeAt Go.RowKit
def n8 (l : List UInt8) : List Int := l.map fun c => (c.toNat : Int)
/-- Bytes, as values. -/
def b8 (l : List UInt8) : List Value := l.map fun c => Value.int .u8 (c.toNat : Int)
theorem b8_eq (l : List UInt8) : b8 l = (n8 l).map (Value.int .u8) := by simp [b8, n8]
theorem b8_one (l : List UInt8) : ∀ u ∈ b8 l, u.oneCell' = true := by
  intro u hu
  obtain ⟨_, _, rfl⟩ := List.mem_map.1 hu
  rfl
@[simp] theorem b8_len (l : List UInt8) : (b8 l).length = l.length := by simp [b8]
@[simp] theorem b8_app (l m : List UInt8) : b8 (l ++ m) = b8 l ++ b8 m := by simp [b8]
@[simp] theorem b8_cons (a : UInt8) (m : List UInt8) : b8 (a :: m) = .int .u8 (a.toNat : Int) :: b8 m := by simp [b8]
theorem b8_nil : b8 [] = [] := rfl
theorem b8_get {l : List UInt8} {k : Nat} (h : k < l.length) : (b8 l)[k]? = some (.int .u8 (l[k].toNat : Int)) := by simp [b8, h]
theorem strOf_n8 (l : List UInt8) : strOfNums (n8 l) = ⟨l.toArray⟩ := by
  unfold strOfNums n8
  simp [Function.comp_def]
/-- 'string(b)' of bytes. -/
theorem run_str_b8 {P : Program} {w : World} {B n c : Nat} {A : Option Addr} {l : List UInt8} (h : Rd w B 1 A n (b8 l)) (src e dst : TypeId) (hs : P.underlying src = some (.slice e)) (he : P.underlying e = some (.int .u8)) (hd : P.underlying dst = some .string) :
    (convert src dst (.slice A n c)).run P w = .ok (.string ⟨l.toArray⟩) w := by
  rw [← strOf_n8]
  exact run_str_rd (b8_eq l ▸ h) src e dst hs he hd
/-- A text's bytes. -/
theorem byl_get (s : ByteArray) (k : Nat) (h : k < s.size) : s.data.toList[k]? = some s[k] := by
  rw [List.getElem?_eq_getElem (show k < s.data.toList.length from h)]; rfl
theorem byl_take (s : ByteArray) (k : Nat) (h : k < s.size) : s.data.toList.take (k + 1) = s.data.toList.take k ++ [s[k]] := by
  rw [List.take_succ_eq_append_getElem (show k < s.data.toList.length from h)]; rfl
theorem byl_drop (s : ByteArray) (k : Nat) (h : k < s.size) : s.data.toList.drop k = s[k] :: s.data.toList.drop (k + 1) := by
  rw [List.drop_eq_getElem_cons (show k < s.data.toList.length from h)]; rfl
theorem ext_one (s : ByteArray) (k : Nat) (h : k < s.size) : s.extract k (k + 1) = ⟨#[s[k]]⟩ := by
  apply ByteArray.ext
  apply Array.ext'
  rw [ByteArray.data_extract, Array.toList_extract]
  simp only [List.extract, Nat.add_sub_cancel_left]
  rw [List.take_one, List.head?_drop, byl_get s k h]
  rfl
theorem ext_list (s : ByteArray) (a b : Nat) : (s.extract a b).data.toList = (s.data.toList.take b).drop a := by
  rw [ByteArray.data_extract, Array.toList_extract]
  simp [List.drop_take]
theorem u8_ne {a b : UInt8} (h : a ≠ b) : a.toNat ≠ b.toNat := fun e => h (UInt8.toNat_inj.1 e)
end Go.Proofs.YtjegfimagjmpdaaGreatDoor
end
section
/- Plain: quoted texts, as lists of bytes. Conditions: none. -/
namespace Go.Proofs.YtjegfimagjmpdaaGreatDoor
open Go
/-- Can a byte be written as it is? -/
def okB (c : UInt8) : Bool := decide (32 ≤ c.toNat) && decide (c.toNat ≤ 126)
/-- What a backslash and a byte say. -/
def escOf (c : UInt8) : Option UInt8 := if c = 110 then some 10 else if c = 116 then some 9 else if c = 34 then some 34 else if c = 92 then some 92 else none
/-- What a quoted text says, from behind the first quote on, and what stands behind the last one. -/
def dec : List UInt8 → Option (List UInt8 × List UInt8)
  | [] => none
  | [c] => if c = 34 then some ([], []) else none
  | c :: e :: r => if c = 34 then some ([], e :: r) else if c = 92 then (escOf e).bind fun x => (dec r).map fun p => (x :: p.1, p.2) else if okB c = true then (dec (e :: r)).map fun p => (c :: p.1, p.2) else none
/-- What stands between the quotes, read whole. -/
def decAll : List UInt8 → Option (List UInt8)
  | [] => some []
  | [c] => if c = 34 ∨ c = 92 then none else if okB c = true then some [c] else none
  | c :: e :: r => if c = 34 then none else if c = 92 then (escOf e).bind fun x => (decAll r).map (x :: ·) else if okB c = true then (decAll (e :: r)).map (c :: ·) else none
theorem dec_in : ∀ (n : Nat) (l : List UInt8), l.length ≤ n → ∀ m, dec (l ++ [34]) = some (m, []) ↔ decAll l = some m := by
  intro n
  induction n with
  | zero =>
    intro l h m
    obtain rfl : l = [] := List.eq_nil_of_length_eq_zero (by omega)
    simp [dec, decAll]
  | succ n ih =>
    intro l h m
    match l with
    | [] => simp [dec, decAll]
    | [c] =>
      have e0 : escOf 34 = some 34 := by decide
      simp only [List.cons_append, List.nil_append, dec, decAll, e0]
      by_cases h1 : c = 34
      · simp [h1]
      · by_cases h2 : c = 92
        · simp [h2]
        · by_cases h3 : okB c = true
          · simp [h1, h2, h3]
          · simp [h1, h2, h3]
    | c :: e :: r =>
      have h1 := ih r (by simp at h; omega)
      have h2 := ih (e :: r) (by simp at h ⊢; omega)
      have e1 : dec (c :: e :: r ++ [34]) = if c = 34 then some ([], e :: r ++ [34]) else if c = 92 then (escOf e).bind fun x => (dec (r ++ [34])).map fun p => (x :: p.1, p.2) else if okB c = true then (dec (e :: r ++ [34])).map fun p => (c :: p.1, p.2) else none := by
        simp only [List.cons_append]; rw [dec]
      rw [e1, decAll]
      by_cases g1 : c = 34
      · simp [g1]
      · rw [if_neg g1, if_neg g1]
        by_cases g2 : c = 92
        · rw [if_pos g2, if_pos g2]
          cases escOf e with
          | none => simp
          | some x =>
            simp only [Option.bind_some, Option.map_eq_some_iff]
            constructor
            · rintro ⟨⟨a, b⟩, ha, hb⟩
              simp only [Prod.mk.injEq] at hb
              obtain ⟨rfl, rfl⟩ := hb
              exact ⟨a, (h1 a).1 ha, rfl⟩
            · rintro ⟨a, ha, rfl⟩
              exact ⟨(a, []), (h1 a).2 ha, rfl⟩
        · rw [if_neg g2, if_neg g2]
          by_cases g3 : okB c = true
          · rw [if_pos g3, if_pos g3]
            simp only [Option.map_eq_some_iff]
            constructor
            · rintro ⟨⟨a, b⟩, ha, hb⟩
              simp only [Prod.mk.injEq] at hb
              obtain ⟨rfl, rfl⟩ := hb
              exact ⟨a, (h2 a).1 ha, rfl⟩
            · rintro ⟨a, ha, rfl⟩
              exact ⟨(a, []), (h2 a).2 ha, rfl⟩
          · rw [if_neg g3, if_neg g3]; simp
theorem dec_last : ∀ (n : Nat) (l : List UInt8), l.length ≤ n → ∀ m, dec l = some (m, []) → ∃ a, l = a ++ [34] := by
  intro n
  induction n with
  | zero =>
    intro l h m hd
    obtain rfl : l = [] := List.eq_nil_of_length_eq_zero (by omega)
    simp [dec] at hd
  | succ n ih =>
    intro l h m hd
    match l with
    | [] => simp [dec] at hd
    | [c] =>
      rw [dec] at hd
      by_cases h1 : c = 34
      · exact ⟨[], by simp [h1]⟩
      · simp [h1] at hd
    | c :: e :: r =>
      rw [dec] at hd
      by_cases g1 : c = 34
      · simp [g1] at hd
      · rw [if_neg g1] at hd
        by_cases g2 : c = 92
        · rw [if_pos g2] at hd
          cases he : escOf e with
          | none => rw [he] at hd; simp at hd
          | some x =>
            rw [he] at hd
            simp only [Option.bind_some, Option.map_eq_some_iff, Prod.mk.injEq] at hd
            obtain ⟨⟨p1, p2⟩, hp, _, rfl⟩ := hd
            obtain ⟨a, rfl⟩ := ih r (by simp at h; omega) _ hp
            exact ⟨c :: e :: a, by simp⟩
        · rw [if_neg g2] at hd
          by_cases g3 : okB c = true
          · rw [if_pos g3] at hd
            simp only [Option.map_eq_some_iff, Prod.mk.injEq] at hd
            obtain ⟨⟨p1, p2⟩, hp, _, rfl⟩ := hd
            obtain ⟨a, ha⟩ := ih (e :: r) (by simp at h ⊢; omega) _ hp
            exact ⟨c :: a, by rw [ha]; simp⟩
          · rw [if_neg g3] at hd; simp at hd
theorem dec_len : ∀ (n : Nat) (l : List UInt8), l.length ≤ n → ∀ m t, dec l = some (m, t) → m.length + t.length < l.length := by
  intro n
  induction n with
  | zero =>
    intro l h m t hd
    obtain rfl : l = [] := List.eq_nil_of_length_eq_zero (by omega)
    simp [dec] at hd
  | succ n ih =>
    intro l h m t hd
    match l with
    | [] => simp [dec] at hd
    | [c] =>
      rw [dec] at hd
      by_cases h1 : c = 34
      · simp [h1] at hd; obtain ⟨rfl, rfl⟩ := hd; simp
      · simp [h1] at hd
    | c :: e :: r =>
      rw [dec] at hd
      by_cases g1 : c = 34
      · simp [g1] at hd; obtain ⟨rfl, rfl⟩ := hd; simp
      · rw [if_neg g1] at hd
        by_cases g2 : c = 92
        · rw [if_pos g2] at hd
          cases he : escOf e with
          | none => rw [he] at hd; simp at hd
          | some x =>
            rw [he] at hd
            simp only [Option.bind_some, Option.map_eq_some_iff, Prod.mk.injEq] at hd
            obtain ⟨⟨p1, p2⟩, hp, rfl, rfl⟩ := hd
            have := ih r (by simp at h; omega) _ _ hp
            simp; omega
        · rw [if_neg g2] at hd
          by_cases g3 : okB c = true
          · rw [if_pos g3] at hd
            simp only [Option.map_eq_some_iff, Prod.mk.injEq] at hd
            obtain ⟨⟨p1, p2⟩, hp, rfl, rfl⟩ := hd
            have := ih (e :: r) (by simp at h ⊢; omega) _ _ hp
            simp at *; omega
          · rw [if_neg g3] at hd; simp at hd
/-- What is gathered, ahead of what is still to be read. -/
def ahead (out : List UInt8) (p : Option (List UInt8 × List UInt8)) : Option (List UInt8 × List UInt8) := p.map fun q => (out ++ q.1, q.2)
theorem ahead_nil (p : Option (List UInt8 × List UInt8)) : ahead [] p = p := by cases p <;> simp [ahead]
/-- How many bytes a quoted text has at the begin of a list; 0: it is wrong. -/
def textLen : List UInt8 → Nat
  | [] => 0
  | _ :: r => match dec r with
    | none => 0
    | some (m, t) => if 200 < m.length then 0 else 1 + r.length - t.length
/-- What a quoted text says. -/
def unq : List UInt8 → Option (List UInt8)
  | [] => none
  | c :: r => if c = 34 then match dec r with
    | some (m, []) => if 200 < m.length then none else some m
    | _ => none else none
/-- A byte in quotes. -/
def quoC (c : UInt8) : Option (List UInt8) := if c = 34 ∨ c = 92 then some [92, c] else if c = 10 then some [92, 110] else if c = 9 then some [92, 116] else if okB c = true then some [c] else none
/-- Bytes in quotes, without the quotes. -/
def quoL : List UInt8 → Option (List UInt8)
  | [] => some []
  | c :: r => (quoC c).bind fun a => (quoL r).map (a ++ ·)
theorem quoL_app (l m : List UInt8) : quoL (l ++ m) = (quoL l).bind fun a => (quoL m).map (a ++ ·) := by
  induction l with
  | nil => simp [quoL]
  | cons c r ih =>
    simp only [List.cons_append, quoL, ih]
    cases quoC c with
    | none => simp
    | some a =>
      cases quoL r with
      | none => simp
      | some b => cases quoL m <;> simp
theorem quoL_snoc (l : List UInt8) (c : UInt8) : quoL (l ++ [c]) = (quoL l).bind fun a => (quoC c).map (a ++ ·) := by
  rw [quoL_app]
  simp only [quoL]
  cases quoC c <;> simp
theorem quoC_len {c : UInt8} {a : List UInt8} (h : quoC c = some a) : a.length ≤ 2 := by
  unfold quoC at h
  split at h
  · simp at h; subst h; simp
  · split at h
    · simp at h; subst h; simp
    · split at h
      · simp at h; subst h; simp
      · split at h
        · simp at h; subst h; simp
        · cases h
theorem quoL_len : ∀ {l a : List UInt8}, quoL l = some a → a.length ≤ 2 * l.length
  | [], a, h => by simp [quoL] at h; subst h; simp
  | c :: r, a, h => by
    simp only [quoL, Option.bind_eq_some_iff, Option.map_eq_some_iff] at h
    obtain ⟨b, hb, d, hd, rfl⟩ := h
    have := quoC_len hb
    have := quoL_len hd
    simp; omega
end Go.Proofs.YtjegfimagjmpdaaGreatDoor
end
section
/- 'scan.Unquote' and the document's textAt, Unquote. Conditions: none. -/
set_option maxRecDepth 20000
namespace Go.Proofs.YtjegfimagjmpdaaGreatDoor
open Go.ChangeShapes Go.WideShapes Go.ChangeAt Go.RowKit
/-- What Unquote answers. -/
def unqV (s : ByteArray) : Value := match unq s.data.toList with | none => .tuple #[.string ⟨#[]⟩, .int .i64 4] | some q => .tuple #[.string ⟨q.toArray⟩, .int .i64 0]
theorem unqV_none {s : ByteArray} (h : unq s.data.toList = none) : unqV s = .tuple #[.string ⟨#[]⟩, .int .i64 4] := by unfold unqV; rw [h]
theorem unqV_some {s : ByteArray} {q : List UInt8} (h : unq s.data.toList = some q) : unqV s = .tuple #[.string ⟨q.toArray⟩, .int .i64 0] := by unfold unqV; rw [h]
theorem unq_first {s : ByteArray} (h0 : 0 < s.size) (h : s[0] ≠ 34) : unq s.data.toList = none := by
  have := byl_drop s 0 h0
  rw [List.drop_zero] at this
  rw [this, unq, if_neg h]
theorem unq_short {s : ByteArray} (h : s.size < 2) : unq s.data.toList = none := by
  have hl : s.data.toList.length < 2 := h
  match he : s.data.toList, hl with
  | [], _ => rfl
  | [c], _ => rw [unq]; split <;> rfl
theorem unq_last {s : ByteArray} (h : 2 ≤ s.size) (hc : s[s.size - 1] ≠ 34) : unq s.data.toList = none := by
  have h0 := byl_drop s 0 (by omega)
  rw [List.drop_zero] at h0
  rw [h0, unq]
  split
  · cases hd : dec (s.data.toList.drop (0 + 1)) with
    | none => rfl
    | some p =>
      obtain ⟨m, t⟩ := p
      cases t with
      | nil =>
        exfalso
        obtain ⟨a, ha⟩ := dec_last _ _ (Nat.le_refl _) m hd
        have e1 := byl_get s (s.size - 1) (by omega)
        have e2 : s.data.toList = s[0] :: (a ++ [34]) := by rw [← ha]; exact h0
        have e3 : s.size = a.length + 2 := by
          have : s.data.toList.length = s.size := rfl
          rw [← this, e2]; simp
        rw [e2] at e1
        have e4 : (s[0] :: (a ++ [34]))[a.length + 1]? = some s[s.size - 1] := by rw [← e1]; congr 1; omega
        simp at e4
        exact hc e4.symm
      | cons _ _ => rfl
  · rfl
/-- The bytes between the quotes. -/
theorem unq_in {s : ByteArray} (h : 2 ≤ s.size) (h0 : s[0] = 34) (h1 : s[s.size - 1] = 34) : unq s.data.toList = (decAll (s.extract 1 (s.size - 1)).data.toList).bind fun m => if 200 < m.length then none else some m := by
  have e0 := byl_drop s 0 (by omega)
  rw [List.drop_zero] at e0
  have e1 := byl_drop s (s.size - 1) (by omega)
  have e2 : s.data.toList.drop (s.size - 1 + 1) = [] := List.drop_eq_nil_of_le (show s.data.toList.length ≤ _ by show s.size ≤ _; omega)
  have e3 : s.data.toList.drop 1 = (s.extract 1 (s.size - 1)).data.toList ++ [34] := by
    have hl : (s.data.toList.take (s.size - 1)).length = s.size - 1 := by rw [List.length_take]; show min _ s.size = _; omega
    have hL : s.data.toList = s.data.toList.take (s.size - 1) ++ [34] := by
      conv => lhs; rw [← List.take_append_drop (s.size - 1) s.data.toList, e1, e2, h1]
    rw [ext_list]
    conv => lhs; rw [hL]
    rw [List.drop_append_of_le_length (by omega)]
  rw [e0, unq, if_pos h0]
  show (match dec (s.data.toList.drop 1) with | some (m, []) => _ | _ => none) = _
  rw [e3]
  have key := dec_in _ (s.extract 1 (s.size - 1)).data.toList (Nat.le_refl _)
  cases hd : decAll (s.extract 1 (s.size - 1)).data.toList with
  | some m =>
    rw [(key m).2 hd]
    rfl
  | none =>
    cases hx : dec ((s.extract 1 (s.size - 1)).data.toList ++ [34]) with
    | none => rfl
    | some p =>
      obtain ⟨m, t⟩ := p
      cases t with
      | nil => rw [(key m).1 hx] at hd; cases hd
      | cons _ _ => rfl
/-- What is gathered, ahead of what is still to be read. -/
def aheadA (q : List UInt8) (p : Option (List UInt8)) : Option (List UInt8) := p.map (q ++ ·)
theorem aheadA_nil (p : Option (List UInt8)) : aheadA [] p = p := by cases p <;> simp [aheadA]
theorem decA_plain {s : ByteArray} {k : Nat} (hk : k < s.size) (h1 : s[k] ≠ 34) (h2 : s[k] ≠ 92) (h3 : okB s[k] = true) (q : List UInt8) : aheadA q (decAll (s.data.toList.drop k)) = aheadA (q ++ [s[k]]) (decAll (s.data.toList.drop (k + 1))) := by
  rw [byl_drop s k hk]
  cases h : s.data.toList.drop (k + 1) with
  | nil => simp [decAll, h1, h2, h3, aheadA]
  | cons e r =>
    rw [decAll, if_neg h1, if_neg h2, if_pos h3]
    cases decAll (e :: r) <;> simp [aheadA]
theorem decA_bad {s : ByteArray} {k : Nat} (hk : k < s.size) (h : s[k] = 34 ∨ (s[k] ≠ 92 ∧ okB s[k] = false)) (q : List UInt8) : aheadA q (decAll (s.data.toList.drop k)) = none := by
  rw [byl_drop s k hk]
  cases s.data.toList.drop (k + 1) with
  | nil =>
    rcases h with h | ⟨h, h'⟩
    · simp [decAll, h, aheadA]
    · by_cases h1 : s[k] = 34 <;> simp [decAll, h, h', h1, aheadA]
  | cons e r =>
    rcases h with h | ⟨h, h'⟩
    · rw [decAll, if_pos h]; rfl
    · by_cases h1 : s[k] = 34
      · rw [decAll, if_pos h1]; rfl
      · rw [decAll, if_neg h1, if_neg h, if_neg (by rw [h']; simp)]; rfl
theorem decA_end {s : ByteArray} {k : Nat} (hk : k < s.size) (hk2 : s.size ≤ k + 1) (h : s[k] = 92) (q : List UInt8) : aheadA q (decAll (s.data.toList.drop k)) = none := by
  rw [byl_drop s k hk, List.drop_eq_nil_of_le (show s.data.toList.length ≤ _ from hk2), h]
  rfl
theorem decA_esc {s : ByteArray} {k : Nat} (hk : k + 1 < s.size) (h : s[k] = 92) (q : List UInt8) : aheadA q (decAll (s.data.toList.drop k)) = (escOf s[k + 1]).bind fun x => aheadA (q ++ [x]) (decAll (s.data.toList.drop (k + 1 + 1))) := by
  rw [byl_drop s k (by omega), byl_drop s (k + 1) hk, decAll, if_neg (by rw [h]; decide), if_pos h]
  cases escOf s[k + 1] with
  | none => rfl
  | some x => cases decAll (s.data.toList.drop (k + 1 + 1)) <;> simp [aheadA]
theorem decA_done {s : ByteArray} {k : Nat} (hk : s.size ≤ k) (q : List UInt8) : aheadA q (decAll (s.data.toList.drop k)) = some q := by
  rw [List.drop_eq_nil_of_le (show s.data.toList.length ≤ k from hk)]; simp [decAll, aheadA]
theorem ix_esc {e : UInt8} : (e = 110 → Lib.indexByte [110, 116, 34, 92] e = 0) ∧ (e = 116 → Lib.indexByte [110, 116, 34, 92] e = 1) ∧ (e = 34 → Lib.indexByte [110, 116, 34, 92] e = 2) ∧ (e = 92 → Lib.indexByte [110, 116, 34, 92] e = 3) ∧ (e ≠ 110 → e ≠ 116 → e ≠ 34 → e ≠ 92 → Lib.indexByte [110, 116, 34, 92] e = -1) := by
  refine ⟨?_, ?_, ?_, ?_, ?_⟩
  · rintro rfl; decide +kernel
  · rintro rfl; decide +kernel
  · rintro rfl; decide +kernel
  · rintro rfl; decide +kernel
  · intro h1 h2 h3 h4
    have : ∀ x : UInt8, e ≠ x → (x == e) = false := fun x h => by rw [beq_eq_false_iff_ne]; exact fun q => h q.symm
    simp [Lib.indexByte, this _ h1, this _ h2, this _ h3, this _ h4]
theorem esc_cases (e : UInt8) : e = 110 ∨ e = 116 ∨ e = 34 ∨ e = 92 ∨ (e ≠ 110 ∧ e ≠ 116 ∧ e ≠ 34 ∧ e ≠ 92) := by
  by_cases h1 : e = 110
  · exact .inl h1
  by_cases h2 : e = 116
  · exact .inr (.inl h2)
  by_cases h3 : e = 34
  · exact .inr (.inr (.inl h3))
  by_cases h4 : e = 92
  · exact .inr (.inr (.inr (.inl h4)))
  exact .inr (.inr (.inr (.inr ⟨h1, h2, h3, h4⟩)))
theorem okB_iff (c : UInt8) : okB c = true ↔ 32 ≤ c.toNat ∧ c.toNat ≤ 126 := by unfold okB; simp
theorem unqV_of {s : ByteArray} {X : ByteArray} {q : List UInt8} (hU : unq s.data.toList = (decAll X.data.toList).bind fun m => if 200 < m.length then none else some m) (h : decAll X.data.toList = some q) : (200 < q.length → unqV s = .tuple #[.string ⟨#[]⟩, .int .i64 4]) ∧ (¬ 200 < q.length → unqV s = .tuple #[.string ⟨q.toArray⟩, .int .i64 0]) := by
  rw [h] at hU
  refine ⟨fun hl => unqV_none (by rw [hU, Option.bind_some, if_pos hl]), fun hl => unqV_some (by rw [hU, Option.bind_some, if_neg hl])⟩
theorem unqV_not {s : ByteArray} {X : ByteArray} (hU : unq s.data.toList = (decAll X.data.toList).bind fun m => if 200 < m.length then none else some m) (h : decAll X.data.toList = none) : unqV s = .tuple #[.string ⟨#[]⟩, .int .i64 4] := unqV_none (by rw [hU, h]; rfl)
set_option maxHeartbeats 2000000 in
theorem scanUnquote_any (s : ByteArray) (hs : s.size ≤ 140737488351232) (w : World) : Calls Tryz.prog 16 #[.string s] w fun e w' => e = .returned (unqV s) ∧ Below w.heap.size w w' := by
  obtain ⟨i0, hi, hz0, hz1, hz2⟩ := info_parts info_u8
  by_cases h2 : s.size < 2
  · have HF := Lib.hid (unqV_none (unq_short h2))
    have hd : decide ((s.size : Int) < 2) = true := decide_eq_true (by omega)
    go_enter Tryz.func16, Tryz.ntmps16
    go_wp2_with fail
    go_returns
    exact ⟨by rw [HF.out]; rfl, Below.refl _ _⟩
  · have hd : decide ((s.size : Int) < 2) = false := decide_eq_false (by omega)
    have h20 : 0 < s.size := by omega
    by_cases h0 : s[0] = 34
    · have g0 : ((s[0].toNat : Int) != 34) = false := by rw [h0]; rfl
      have hn : ((s.size : Int) - 1).toNat = s.size - 1 := by omega
      have hb1 : (0 : Int) ≤ (s.size : Int) - 1 := by omega
      by_cases h1 : s[s.size - 1] = 34
      · have gl : ((s[s.size - 1].toNat : Int) != 34) = false := by rw [h1]; rfl
        have HU := Lib.hid (unq_in (by omega) h0 h1)
        clear h1 h0 hd
        have hd : decide ((s.size : Int) < 2) = false := decide_eq_false (by omega)
        go_enter Tryz.func16, Tryz.ntmps16
        go_wp2_with fail
        generalize hX : s.extract 1 (s.size - 1) = X at *
        have hXs : X.size ≤ 140737488351232 := by rw [← hX, ByteArray.size_extract]; omega
        clear hX
        go_loopw [4, 6] (fun out i wr => ∃ (k : Nat) (q : List UInt8) (A : Option Addr) (c : Nat), i = .int .i64 (k : Int) ∧ k ≤ X.size ∧ out = .slice A q.length c ∧ wr.ownsRow w.heap.size 5 1 out q.length (b8 q) ∧ q.length ≤ k ∧ Hid (aheadA q (decAll (X.data.toList.drop k)) = decAll X.data.toList) ∧ Below w.heap.size w wr) (fun _ i _ => X.size - (intOf i).toNat)
        case atStart => exact ⟨0, [], none, 0, rfl, Nat.zero_le _, rfl, World.ownsRow_nil _ _ _ _, Nat.le_refl _, Lib.hid (by rw [aheadA_nil, List.drop_zero]), Below.refl _ _⟩
        case round =>
          obtain ⟨k, q, A, c, rfl, hk, rfl, hown, hqk, hI, hbel⟩ := hrel
          by_cases hlt : k < X.size
          · by_cases hc34 : X[k] = 34
            · have g1 : ((X[k].toNat : Int) == 34) = true := by rw [hc34]; rfl
              have HF := Lib.hid (unqV_not HU.out (hI.out.symm.trans (decA_bad hlt (.inl hc34) q)))
              clear hc34
              go_wp2_with fail
              go_returns
              exact ⟨by rw [HF.out]; rfl, hbel⟩
            · have g1 : ((X[k].toNat : Int) == 34) = false := by have := u8_ne hc34; simp at this ⊢; omega
              by_cases hok : okB X[k] = true
              · have ho := (okB_iff _).1 hok
                have g2 : decide ((X[k].toNat : Int) < 32) = false := decide_eq_false (by omega)
                have g3 : decide ((126 : Int) < (X[k].toNat : Int)) = false := decide_eq_false (by omega)
                clear ho
                by_cases hc92 : X[k] = 92
                · have g4 : ((X[k].toNat : Int) == 92) = true := by rw [hc92]; rfl
                  clear hok hc34
                  by_cases hk1 : k + 1 < X.size
                  · rcases esc_cases X[k + 1] with he | he | he | he | ⟨he1, he2, he3, he4⟩
                    · have gx := ix_esc.1 he
                      have hix : ∀ W : World, (Instr.index 76 (.agg #[.int .u8 10, .int .u8 9, .int .u8 34, .int .u8 92]) (.int .i64 0)).run Tryz.prog W = .ok (.int .u8 10) W := fun W => by kernel_rfl
                      have HE := Lib.hid (hI.out.symm.trans (decA_esc hk1 hc92 q))
                      have HX2 := Lib.hid (show escOf X[k + 1] = some 10 by rw [he]; decide)
                      clear he hc92
                      go_wp2_with (first | (go_at_call 17; refine (Tryz.strings_IndexByte _ _ _).mono ?_; rintro e w2 ⟨rfl, rfl⟩) | (at_builtin; refine wpList_append_rd _ rfl _ _ 58 rfl w.heap.size 5 i0 _ 1 1 Tryz.underlying58 hi hz0 hz1 hz2 rfl (by omega) _ _ _ rfl (hown.alloc _) _ _ 1 1 [_] rfl (Rd.lit1 _ _ _) (one1 rfl) (by unfold maxLen; omega) (by omega) (Nat.le_trans hbel.size (by simp)) ?_; intro A1 c1 w1 hown1 hgrow1 _))
                      go_roundw
                      case rel => exact ⟨k + 1 + 1, q ++ [10], A1, c1, by go_num, by omega, by simp, by rw [b8_app, List.length_append]; exact hown1, by simp; omega, Lib.hid (by have := HE.out; rw [HX2.out] at this; exact this.symm), below_grown (hbel.alloc hbel.size _) (Nat.le_trans hbel.size (by simp)) (hown.alloc _) (Nat.le_refl _) hgrow1⟩
                      case measure => simp [intOf]; omega
                    · have gx := ix_esc.2.1 he
                      have hix : ∀ W : World, (Instr.index 76 (.agg #[.int .u8 10, .int .u8 9, .int .u8 34, .int .u8 92]) (.int .i64 1)).run Tryz.prog W = .ok (.int .u8 9) W := fun W => by kernel_rfl
                      have HE := Lib.hid (hI.out.symm.trans (decA_esc hk1 hc92 q))
                      have HX2 := Lib.hid (show escOf X[k + 1] = some 9 by rw [he]; decide)
                      clear he hc92
                      go_wp2_with (first | (go_at_call 17; refine (Tryz.strings_IndexByte _ _ _).mono ?_; rintro e w2 ⟨rfl, rfl⟩) | (at_builtin; refine wpList_append_rd _ rfl _ _ 58 rfl w.heap.size 5 i0 _ 1 1 Tryz.underlying58 hi hz0 hz1 hz2 rfl (by omega) _ _ _ rfl (hown.alloc _) _ _ 1 1 [_] rfl (Rd.lit1 _ _ _) (one1 rfl) (by unfold maxLen; omega) (by omega) (Nat.le_trans hbel.size (by simp)) ?_; intro A1 c1 w1 hown1 hgrow1 _))
                      go_roundw
                      case rel => exact ⟨k + 1 + 1, q ++ [9], A1, c1, by go_num, by omega, by simp, by rw [b8_app, List.length_append]; exact hown1, by simp; omega, Lib.hid (by have := HE.out; rw [HX2.out] at this; exact this.symm), below_grown (hbel.alloc hbel.size _) (Nat.le_trans hbel.size (by simp)) (hown.alloc _) (Nat.le_refl _) hgrow1⟩
                      case measure => simp [intOf]; omega
                    · have gx := ix_esc.2.2.1 he
                      have hix : ∀ W : World, (Instr.index 76 (.agg #[.int .u8 10, .int .u8 9, .int .u8 34, .int .u8 92]) (.int .i64 2)).run Tryz.prog W = .ok (.int .u8 34) W := fun W => by kernel_rfl
                      have HE := Lib.hid (hI.out.symm.trans (decA_esc hk1 hc92 q))
                      have HX2 := Lib.hid (show escOf X[k + 1] = some 34 by rw [he]; decide)
                      clear he hc92
                      go_wp2_with (first | (go_at_call 17; refine (Tryz.strings_IndexByte _ _ _).mono ?_; rintro e w2 ⟨rfl, rfl⟩) | (at_builtin; refine wpList_append_rd _ rfl _ _ 58 rfl w.heap.size 5 i0 _ 1 1 Tryz.underlying58 hi hz0 hz1 hz2 rfl (by omega) _ _ _ rfl (hown.alloc _) _ _ 1 1 [_] rfl (Rd.lit1 _ _ _) (one1 rfl) (by unfold maxLen; omega) (by omega) (Nat.le_trans hbel.size (by simp)) ?_; intro A1 c1 w1 hown1 hgrow1 _))
                      go_roundw
                      case rel => exact ⟨k + 1 + 1, q ++ [34], A1, c1, by go_num, by omega, by simp, by rw [b8_app, List.length_append]; exact hown1, by simp; omega, Lib.hid (by have := HE.out; rw [HX2.out] at this; exact this.symm), below_grown (hbel.alloc hbel.size _) (Nat.le_trans hbel.size (by simp)) (hown.alloc _) (Nat.le_refl _) hgrow1⟩
                      case measure => simp [intOf]; omega
                    · have gx := ix_esc.2.2.2.1 he
                      have hix : ∀ W : World, (Instr.index 76 (.agg #[.int .u8 10, .int .u8 9, .int .u8 34, .int .u8 92]) (.int .i64 3)).run Tryz.prog W = .ok (.int .u8 92) W := fun W => by kernel_rfl
                      have HE := Lib.hid (hI.out.symm.trans (decA_esc hk1 hc92 q))
                      have HX2 := Lib.hid (show escOf X[k + 1] = some 92 by rw [he]; decide)
                      clear he hc92
                      go_wp2_with (first | (go_at_call 17; refine (Tryz.strings_IndexByte _ _ _).mono ?_; rintro e w2 ⟨rfl, rfl⟩) | (at_builtin; refine wpList_append_rd _ rfl _ _ 58 rfl w.heap.size 5 i0 _ 1 1 Tryz.underlying58 hi hz0 hz1 hz2 rfl (by omega) _ _ _ rfl (hown.alloc _) _ _ 1 1 [_] rfl (Rd.lit1 _ _ _) (one1 rfl) (by unfold maxLen; omega) (by omega) (Nat.le_trans hbel.size (by simp)) ?_; intro A1 c1 w1 hown1 hgrow1 _))
                      go_roundw
                      case rel => exact ⟨k + 1 + 1, q ++ [92], A1, c1, by go_num, by omega, by simp, by rw [b8_app, List.length_append]; exact hown1, by simp; omega, Lib.hid (by have := HE.out; rw [HX2.out] at this; exact this.symm), below_grown (hbel.alloc hbel.size _) (Nat.le_trans hbel.size (by simp)) (hown.alloc _) (Nat.le_refl _) hgrow1⟩
                      case measure => simp [intOf]; omega
                    · have gx := (ix_esc (e := X[k + 1])).2.2.2.2 he1 he2 he3 he4
                      have HF := Lib.hid (unqV_not HU.out (hI.out.symm.trans ((decA_esc hk1 hc92 q).trans (by unfold escOf; rw [if_neg he1, if_neg he2, if_neg he3, if_neg he4]; rfl))))
                      clear he1 he2 he3 he4 hc92
                      go_wp2_with (first | (go_at_call 17; refine (Tryz.strings_IndexByte _ _ _).mono ?_; rintro e w2 ⟨rfl, rfl⟩))
                      go_returns
                      exact ⟨by rw [HF.out]; rfl, hbel⟩
                  · have HF := Lib.hid (unqV_not HU.out (hI.out.symm.trans (decA_end hlt (by omega) hc92 q)))
                    clear hc92
                    go_wp2_with fail
                    go_returns
                    exact ⟨by rw [HF.out]; rfl, hbel⟩
                · have g4 : ((X[k].toNat : Int) == 92) = false := by have := u8_ne hc92; simp at this ⊢; omega
                  have HE := Lib.hid (hI.out.symm.trans (decA_plain hlt hc34 hc92 hok q))
                  clear hc34 hc92 hok
                  go_wp2_with (at_builtin; refine wpList_append_rd _ rfl _ _ 58 rfl w.heap.size 5 i0 _ 1 1 Tryz.underlying58 hi hz0 hz1 hz2 rfl (by omega) _ _ _ rfl (hown.alloc _) _ _ 1 1 [_] rfl (Rd.lit1 _ _ _) (one1 rfl) (by unfold maxLen; omega) (by omega) (Nat.le_trans hbel.size (by simp)) ?_; intro A1 c1 w1 hown1 hgrow1 _)
                  go_roundw
                  case rel => exact ⟨k + 1, q ++ [X[k]], A1, c1, by go_num, by omega, by simp, by rw [b8_app, List.length_append]; exact hown1, by simp; omega, Lib.hid HE.out.symm, below_grown (hbel.alloc hbel.size _) (Nat.le_trans hbel.size (by simp)) (hown.alloc _) (Nat.le_refl _) hgrow1⟩
                  case measure => simp [intOf]; omega
              · have HF := Lib.hid (unqV_not HU.out (hI.out.symm.trans (decA_bad hlt (.inr ⟨fun h => hok (by rw [h]; decide), by simpa using hok⟩) q)))
                have ho : X[k].toNat < 32 ∨ 126 < X[k].toNat := by
                  have := mt (okB_iff _).2 hok; omega
                clear hok hc34
                rcases ho with ho | ho
                · have g2 : decide ((X[k].toNat : Int) < 32) = true := decide_eq_true (by omega)
                  go_wp2_with fail
                  go_returns
                  exact ⟨by rw [HF.out]; rfl, hbel⟩
                · have g2 : decide ((X[k].toNat : Int) < 32) = false := decide_eq_false (by omega)
                  have g3 : decide ((126 : Int) < (X[k].toNat : Int)) = true := decide_eq_true (by omega)
                  go_wp2_with fail
                  go_returns
                  exact ⟨by rw [HF.out]; rfl, hbel⟩
          · have HD := Lib.hid (unqV_of HU.out (hI.out.symm.trans (decA_done (by omega) q)))
            have hx := run_str_b8 (P := Tryz.prog) (c := c) (Rd.of_own hown) 58 5 9 Tryz.underlying58 Tryz.underlying5 Tryz.underlying9
            by_cases hl2 : 200 < q.length
            · have HF := Lib.hid (HD.out.1 hl2)
              go_wp2_with fail
              go_returns
              exact ⟨by rw [HF.out]; rfl, hbel⟩
            · have HF := Lib.hid (HD.out.2 hl2)
              go_wp2_with (simp only [hx])
              go_returns
              exact ⟨by rw [HF.out]; rfl, hbel⟩
      · have gl : ((s[s.size - 1].toNat : Int) != 34) = true := by have := u8_ne h1; simp at this ⊢; omega
        have HF := Lib.hid (unqV_none (unq_last (by omega) h1))
        clear h1 h0
        go_enter Tryz.func16, Tryz.ntmps16
        go_wp2_with fail
        go_returns
        exact ⟨by rw [HF.out]; rfl, Below.refl _ _⟩
    · have g0 : ((s[0].toNat : Int) != 34) = true := by have := u8_ne h0; simp at this ⊢; omega
      have HF := Lib.hid (unqV_none (unq_first h20 h0))
      clear h0
      go_enter Tryz.func16, Tryz.ntmps16
      go_wp2_with fail
      go_returns
      exact ⟨by rw [HF.out]; rfl, Below.refl _ _⟩
end Go.Proofs.YtjegfimagjmpdaaGreatDoor
end
section
/- The document's textAt, Unquote; the law ScanUnquotes. Conditions: none. -/
set_option maxRecDepth 20000
namespace Go.Proofs.YtjegfimagjmpdaaGreatDoor
open Go.ChangeShapes Go.WideShapes Go.ChangeAt Go.RowKit
theorem drop_none {s : ByteArray} {k : Nat} (h : s.size ≤ k) : s.data.toList.drop k = [] := List.drop_eq_nil_of_le (show s.data.toList.length ≤ k from h)
theorem dec_close {s : ByteArray} {k : Nat} (hk : k < s.size) (h : s[k] = 34) : dec (s.data.toList.drop k) = some ([], s.data.toList.drop (k + 1)) := by
  rw [byl_drop s k hk, h]
  cases s.data.toList.drop (k + 1) <;> simp [dec]
theorem dec_plain {s : ByteArray} {k : Nat} (hk : k < s.size) (h1 : s[k] ≠ 34) (h2 : s[k] ≠ 92) (h3 : okB s[k] = true) : dec (s.data.toList.drop k) = (dec (s.data.toList.drop (k + 1))).map fun p => (s[k] :: p.1, p.2) := by
  rw [byl_drop s k hk]
  cases s.data.toList.drop (k + 1) with
  | nil => simp [dec, h1]
  | cons e r => rw [dec, if_neg h1, if_neg h2, if_pos h3]
theorem dec_bad {s : ByteArray} {k : Nat} (hk : k < s.size) (h1 : s[k] ≠ 34) (h2 : s[k] ≠ 92) (h3 : okB s[k] = false) : dec (s.data.toList.drop k) = none := by
  rw [byl_drop s k hk]
  cases s.data.toList.drop (k + 1) with
  | nil => simp [dec, h1]
  | cons e r => rw [dec, if_neg h1, if_neg h2, if_neg (by rw [h3]; simp)]
theorem dec_over {s : ByteArray} {k : Nat} (hk : s.size ≤ k) : dec (s.data.toList.drop k) = none := by rw [drop_none hk]; rfl
theorem dec_lone {s : ByteArray} {k : Nat} (hk : k < s.size) (hk2 : s.size ≤ k + 1) (h : s[k] = 92) : dec (s.data.toList.drop k) = none := by
  rw [byl_drop s k hk, drop_none hk2, h]; rfl
theorem dec_esc {s : ByteArray} {k : Nat} (hk : k + 1 < s.size) (h : s[k] = 92) : dec (s.data.toList.drop k) = (escOf s[k + 1]).bind fun x => (dec (s.data.toList.drop (k + 1 + 1))).map fun p => (x :: p.1, p.2) := by
  rw [byl_drop s k (by omega), byl_drop s (k + 1) hk, dec, if_neg (by rw [h]; decide), if_pos h]
/-- How many bytes are said, and how many stand behind. -/
def cnt (n : Nat) (p : Option (List UInt8 × List UInt8)) : Option (Nat × Nat) := p.map fun q => (n + q.1.length, q.2.length)
theorem cnt_cons (n : Nat) (p : Option (List UInt8 × List UInt8)) (c : UInt8) : cnt n (p.map fun q => (c :: q.1, q.2)) = cnt (n + 1) p := by
  cases p with
  | none => rfl
  | some q => simp only [cnt, Option.map_some, List.length_cons]; congr 2; omega
theorem textLen_none {s : ByteArray} (h : cnt 0 (dec (s.data.toList.drop 1)) = none) : textLen s.data.toList = 0 := by
  rcases Nat.eq_zero_or_pos s.size with h0 | h0
  · have := drop_none (s := s) (k := 0) (by omega)
    rw [List.drop_zero] at this
    rw [this]; rfl
  · have := byl_drop s 0 h0
    rw [List.drop_zero] at this
    rw [this]
    cases hd : dec (s.data.toList.drop (0 + 1)) with
    | none => simp only [textLen, hd]
    | some p => rw [show s.data.toList.drop 1 = s.data.toList.drop (0 + 1) from rfl, hd] at h; cases h
theorem textLen_some {s : ByteArray} {n t : Nat} (h : cnt 0 (dec (s.data.toList.drop 1)) = some (n, t)) : textLen s.data.toList = if 200 < n then 0 else s.size - t := by
  rcases Nat.eq_zero_or_pos s.size with h0 | h0
  · rw [dec_over (by omega)] at h; cases h
  · have := byl_drop s 0 h0
    rw [List.drop_zero] at this
    have hl : (s.data.toList.drop (0 + 1)).length = s.size - 1 := by rw [List.length_drop]; rfl
    rw [this]
    cases hd : dec (s.data.toList.drop (0 + 1)) with
    | none => rw [show s.data.toList.drop 1 = s.data.toList.drop (0 + 1) from rfl, hd] at h; cases h
    | some p =>
      obtain ⟨p1, p2⟩ := p
      rw [show s.data.toList.drop 1 = s.data.toList.drop (0 + 1) from rfl, hd] at h
      simp only [cnt, Option.map_some, Option.some.injEq, Prod.mk.injEq, Nat.zero_add] at h
      obtain ⟨rfl, rfl⟩ := h
      simp only [textLen, hd]
      split
      · rfl
      · rw [hl]; omega
theorem cnt_close {s : ByteArray} {k n : Nat} (hk : k < s.size) (h : s[k] = 34) (hC : cnt n (dec (s.data.toList.drop k)) = cnt 0 (dec (s.data.toList.drop 1))) : textLen s.data.toList = if 200 < n then 0 else k + 1 := by
  rw [dec_close hk h] at hC
  have hl : (s.data.toList.drop (k + 1)).length = s.size - (k + 1) := by rw [List.length_drop]; rfl
  simp only [cnt, Option.map_some, List.length_nil, Nat.add_zero, hl] at hC
  rw [textLen_some hC.symm]
  split
  · rfl
  · omega
theorem cnt_none {s : ByteArray} {k n : Nat} (h : dec (s.data.toList.drop k) = none) (hC : cnt n (dec (s.data.toList.drop k)) = cnt 0 (dec (s.data.toList.drop 1))) : textLen s.data.toList = 0 := by
  rw [h] at hC
  exact textLen_none hC.symm
set_option maxHeartbeats 2000000 in
theorem textAt_any (s : ByteArray) (hs : s.size ≤ 140737488351232) (w : World) : Calls Tryz.prog 27 #[.string s] w fun e w' => e = .returned (.int .i64 ((textLen s.data.toList : Nat) : Int)) ∧ ∃ n, w' = w.drewN n := by
  go_enter Tryz.func27, Tryz.ntmps27
  go_wp2_with fail
  go_loopw [3, 4] (fun said i wr => ∃ k n : Nat, i = .int .i64 (k : Int) ∧ said = .int .i64 (n : Int) ∧ n ≤ k ∧ k ≤ s.size + 1 ∧ Hid (cnt n (dec (s.data.toList.drop k)) = cnt 0 (dec (s.data.toList.drop 1))) ∧ ∃ m, wr = w.drewN m) (fun _ i _ => s.size + 2 - (intOf i).toNat)
  case atStart => exact ⟨1, 0, rfl, rfl, by omega, by omega, Lib.hid rfl, 0, rfl⟩
  case round =>
    obtain ⟨k, n, rfl, rfl, hnk, hk, hC, m, rfl⟩ := hrel
    by_cases hlt : k < s.size
    · by_cases hc34 : s[k] = 34
      · have g1 : ((s[k].toNat : Int) == 34) = true := by rw [hc34]; rfl
        have HF := Lib.hid (cnt_close hlt hc34 hC.out)
        clear hc34
        by_cases hn : 200 < n
        · have HG := Lib.hid (HF.out.trans (if_pos hn))
          go_wp2_with fail
          go_ret
          exact ⟨by rw [HG.out]; rfl, m, rfl⟩
        · have HG := Lib.hid (HF.out.trans (if_neg hn))
          go_wp2_with fail
          go_ret
          exact ⟨by rw [HG.out]; rfl, m, rfl⟩
      · have g1 : ((s[k].toNat : Int) == 34) = false := by have := u8_ne hc34; simp at this ⊢; omega
        by_cases hc92 : s[k] = 92
        · have g2 : ((s[k].toNat : Int) == 92) = true := by rw [hc92]; rfl
          by_cases hk1 : k + 1 < s.size
          · have ge : decide ((s.size : Int) ≤ (k : Int) + 1) = false := decide_eq_false (by omega)
            have hdE := dec_esc hk1 hc92
            rcases esc_cases s[k + 1] with he | he | he | he | ⟨he1, he2, he3, he4⟩
            · have e0 : ((s[k + 1].toNat : Int) != 110) = false := by rw [he]; rfl
              have HE := Lib.hid (show cnt (n + 1) (dec (s.data.toList.drop (k + 1 + 1))) = cnt 0 (dec (s.data.toList.drop 1)) by
                rw [← hC.out, hdE, he, show escOf 110 = some 10 by decide, Option.bind_some, cnt_cons])
              clear hc34 hc92 hdE he
              go_wp2_with fail
              go_roundw
              case rel => exact ⟨k + 1 + 1, n + 1, by go_num, by go_num, by omega, by omega, HE, m, rfl⟩
              case measure => simp [intOf]; omega
            · have e0 : ((s[k + 1].toNat : Int) != 110) = true := by rw [he]; rfl
              have e1 : ((s[k + 1].toNat : Int) != 116) = false := by rw [he]; rfl
              have HE := Lib.hid (show cnt (n + 1) (dec (s.data.toList.drop (k + 1 + 1))) = cnt 0 (dec (s.data.toList.drop 1)) by
                rw [← hC.out, hdE, he, show escOf 116 = some 9 by decide, Option.bind_some, cnt_cons])
              clear hc34 hc92 hdE he
              go_wp2_with fail
              go_roundw
              case rel => exact ⟨k + 1 + 1, n + 1, by go_num, by go_num, by omega, by omega, HE, m, rfl⟩
              case measure => simp [intOf]; omega
            · have e0 : ((s[k + 1].toNat : Int) != 110) = true := by rw [he]; rfl
              have e1 : ((s[k + 1].toNat : Int) != 116) = true := by rw [he]; rfl
              have e2 : ((s[k + 1].toNat : Int) != 34) = false := by rw [he]; rfl
              have HE := Lib.hid (show cnt (n + 1) (dec (s.data.toList.drop (k + 1 + 1))) = cnt 0 (dec (s.data.toList.drop 1)) by
                rw [← hC.out, hdE, he, show escOf 34 = some 34 by decide, Option.bind_some, cnt_cons])
              clear hc34 hc92 hdE he
              go_wp2_with fail
              go_roundw
              case rel => exact ⟨k + 1 + 1, n + 1, by go_num, by go_num, by omega, by omega, HE, m, rfl⟩
              case measure => simp [intOf]; omega
            · have e0 : ((s[k + 1].toNat : Int) != 110) = true := by rw [he]; rfl
              have e1 : ((s[k + 1].toNat : Int) != 116) = true := by rw [he]; rfl
              have e2 : ((s[k + 1].toNat : Int) != 34) = true := by rw [he]; rfl
              have e3 : ((s[k + 1].toNat : Int) != 92) = false := by rw [he]; rfl
              have HE := Lib.hid (show cnt (n + 1) (dec (s.data.toList.drop (k + 1 + 1))) = cnt 0 (dec (s.data.toList.drop 1)) by
                rw [← hC.out, hdE, he, show escOf 92 = some 92 by decide, Option.bind_some, cnt_cons])
              clear hc34 hc92 hdE he
              go_wp2_with fail
              go_roundw
              case rel => exact ⟨k + 1 + 1, n + 1, by go_num, by go_num, by omega, by omega, HE, m, rfl⟩
              case measure => simp [intOf]; omega
            · have HF := Lib.hid (cnt_none (hdE.trans (by unfold escOf; rw [if_neg he1, if_neg he2, if_neg he3, if_neg he4]; rfl)) hC.out)
              have e1 : ((s[k + 1].toNat : Int) != 110) = true := by have := u8_ne he1; simp at this ⊢; omega
              have e2 : ((s[k + 1].toNat : Int) != 116) = true := by have := u8_ne he2; simp at this ⊢; omega
              have e3 : ((s[k + 1].toNat : Int) != 34) = true := by have := u8_ne he3; simp at this ⊢; omega
              have e4 : ((s[k + 1].toNat : Int) != 92) = true := by have := u8_ne he4; simp at this ⊢; omega
              clear hc34 hc92 hdE he1 he2 he3 he4
              go_wp2_with fail
              go_ret
              exact ⟨by rw [HF.out]; rfl, m, rfl⟩
          · have ge : decide ((s.size : Int) ≤ (k : Int) + 1) = true := decide_eq_true (by omega)
            have HF := Lib.hid (cnt_none (dec_lone hlt (by omega) hc92) hC.out)
            clear hc34 hc92
            go_wp2_with fail
            go_ret
            exact ⟨by rw [HF.out]; rfl, m, rfl⟩
        · have g2 : ((s[k].toNat : Int) == 92) = false := by have := u8_ne hc92; simp at this ⊢; omega
          by_cases hok : okB s[k] = true
          · have ho := (okB_iff _).1 hok
            have g3 : decide ((s[k].toNat : Int) < 32) = false := decide_eq_false (by omega)
            have g4 : decide ((126 : Int) < (s[k].toNat : Int)) = false := decide_eq_false (by omega)
            have HE := Lib.hid (show cnt (n + 1) (dec (s.data.toList.drop (k + 1))) = cnt 0 (dec (s.data.toList.drop 1)) by rw [← hC.out, dec_plain hlt hc34 hc92 hok, cnt_cons])
            clear ho hc34 hc92 hok
            go_wp2_with fail
            go_roundw
            case rel => exact ⟨k + 1, n + 1, by go_num, by go_num, by omega, by omega, HE, m, rfl⟩
            case measure => simp [intOf]; omega
          · have HF := Lib.hid (cnt_none (dec_bad hlt hc34 hc92 (by simpa using hok)) hC.out)
            have ho : s[k].toNat < 32 ∨ 126 < s[k].toNat := by
              have := mt (okB_iff _).2 hok; omega
            clear hok hc34 hc92
            rcases ho with ho | ho
            · have g3 : decide ((s[k].toNat : Int) < 32) = true := decide_eq_true (by omega)
              go_wp2_with fail
              go_ret
              exact ⟨by rw [HF.out]; rfl, m, rfl⟩
            · have g3 : decide ((s[k].toNat : Int) < 32) = false := decide_eq_false (by omega)
              have g4 : decide ((126 : Int) < (s[k].toNat : Int)) = true := decide_eq_true (by omega)
              go_wp2_with fail
              go_ret
              exact ⟨by rw [HF.out]; rfl, m, rfl⟩
    · have HF := Lib.hid (cnt_none (dec_over (by omega)) hC.out)
      go_wp2_with fail
      go_ret
      exact ⟨by rw [HF.out]; rfl, m, rfl⟩
/-- Unquote, by textAt. -/
theorem unq_text {s : ByteArray} (h0 : 0 < s.size) (h : s[0] = 34) : (textLen s.data.toList ≠ s.size → unq s.data.toList = none) ∧ (textLen s.data.toList = s.size → ∃ m, dec (s.data.toList.drop 1) = some (m, []) ∧ unq s.data.toList = some m ∧ m.length ≤ 200) := by
  have e0 := byl_drop s 0 h0
  rw [List.drop_zero, Nat.zero_add] at e0
  have hu : unq s.data.toList = match dec (s.data.toList.drop 1) with | some (m, []) => if 200 < m.length then none else some m | _ => none := by
    conv => lhs; rw [e0]
    rw [unq, if_pos h]
    all_goals
      cases dec (s.data.toList.drop 1) with
      | none => rfl
      | some p =>
        obtain ⟨m, t⟩ := p
        cases t <;> rfl
  cases hd : dec (s.data.toList.drop 1) with
  | none =>
    rw [hd] at hu
    have := textLen_none (s := s) (by rw [hd]; rfl)
    exact ⟨fun _ => hu, fun e => by omega⟩
  | some p =>
    obtain ⟨m, t⟩ := p
    rw [hd] at hu
    have ht := textLen_some (s := s) (n := m.length) (t := t.length) (by rw [hd]; simp [cnt])
    have hle := dec_len _ _ (Nat.le_refl _) m t hd
    rw [List.length_drop] at hle
    have e1 : s.data.toList.length = s.size := rfl
    cases t with
    | nil =>
      simp only at hu
      by_cases hl : 200 < m.length
      · rw [if_pos hl] at ht hu
        exact ⟨fun _ => hu, fun e => by omega⟩
      · rw [if_neg hl] at ht hu
        exact ⟨fun e => by simp at ht; omega, fun _ => ⟨m, rfl, hu, by omega⟩⟩
    | cons a r =>
      refine ⟨fun _ => hu, fun e => ?_⟩
      rw [ht] at e
      simp at e hle
      split at e <;> omega
theorem ahead_done {out m : List UInt8} {s : ByteArray} {k : Nat} (hk : k + 1 = s.size) (h : ahead out (dec (s.data.toList.drop k)) = some (m, [])) : out = m := by
  by_cases hc : s[k] = 34
  · rw [dec_close (by omega) hc, drop_none (by omega)] at h
    simpa [ahead] using h
  · rw [byl_drop s k (by omega), drop_none (by omega), dec, if_neg hc] at h
    cases h
theorem ahead_plain {out m : List UInt8} {s : ByteArray} {k : Nat} (hk : k + 1 < s.size) (hc : s[k] ≠ 92) (h : ahead out (dec (s.data.toList.drop k)) = some (m, [])) : ahead (out ++ [s[k]]) (dec (s.data.toList.drop (k + 1))) = some (m, []) := by
  by_cases h34 : s[k] = 34
  · rw [dec_close (by omega) h34] at h
    have hl : (s.data.toList.drop (k + 1)).length = s.size - (k + 1) := by rw [List.length_drop]; rfl
    simp only [ahead, Option.map_some, Option.some.injEq, Prod.mk.injEq] at h
    rw [h.2] at hl
    simp at hl
    omega
  · by_cases hok : okB s[k] = true
    · rw [dec_plain (by omega) h34 hc hok] at h
      rw [← h]
      cases dec (s.data.toList.drop (k + 1)) <;> simp [ahead]
    · rw [dec_bad (by omega) h34 hc (by simpa using hok)] at h; cases h
theorem ahead_esc {out m : List UInt8} {s : ByteArray} {k : Nat} (hk : k + 1 < s.size) (hc : s[k] = 92) (h : ahead out (dec (s.data.toList.drop k)) = some (m, [])) : k + 1 + 1 < s.size ∧ ∃ x, escOf s[k + 1] = some x ∧ ahead (out ++ [x]) (dec (s.data.toList.drop (k + 1 + 1))) = some (m, []) := by
  rw [dec_esc hk hc] at h
  cases he : escOf s[k + 1] with
  | none => rw [he] at h; cases h
  | some x =>
    rw [he, Option.bind_some] at h
    refine ⟨?_, x, rfl, ?_⟩
    · rcases Nat.lt_or_ge (k + 1 + 1) s.size with h2 | h2
      · exact h2
      · rw [dec_over h2] at h; cases h
    · rw [← h]
      cases dec (s.data.toList.drop (k + 1 + 1)) <;> simp [ahead]
theorem ahead_len {out m : List UInt8} {s : ByteArray} {k : Nat} (h : ahead out (dec (s.data.toList.drop k)) = some (m, [])) : out.length ≤ m.length := by
  cases hd : dec (s.data.toList.drop k) with
  | none => rw [hd] at h; cases h
  | some p =>
    rw [hd] at h
    simp only [ahead, Option.map_some, Option.some.injEq, Prod.mk.injEq] at h
    rw [← h.1]; simp
theorem mk_app (a b : List UInt8) : (ByteArray.mk a.toArray ++ ByteArray.mk b.toArray) = ⟨(a ++ b).toArray⟩ := by apply ByteArray.ext; simp
theorem ext_toList {s : ByteArray} {k : Nat} (hk : k < s.size) (c : UInt8) : ((s.extract k (k + 1)).toList == [c]) = decide (s[k] = c) := by
  rw [ext_one s k hk, toList_mk, Bool.eq_iff_iff]; simp
end Go.Proofs.YtjegfimagjmpdaaGreatDoor
end
section
/- 'word.Text' is the decimal text. Conditions: none. -/
set_option maxRecDepth 20000
namespace Go.Proofs.YtjegfimagjmpdaaGreatDoor
open Go.ChangeShapes Go.WideShapes Go.ChangeAt Go.RowKit
def decS (n : Int) : ByteArray := strOf (decL n)
/-- What the loop keeps. -/
def Tr (B : Nat) (W : World) (t : TypeId) (g U : Nat) (x u : Value) (wr : World) : Prop :=
  ∃ (q a : Nat) (l : List Nat) (xs : List Value), x = .int .i64 (a : Int) ∧ u = .int .u64 (q : Int) ∧ q ≤ U ∧ a + l.length = 20 ∧ Tells U q l ∧ wr.ownsRow B t 1 (.slice (some ⟨g, 0, none⟩) 20 20) 20 xs ∧ xs.drop a = u8s l ∧ Below B W wr
theorem Tr.start (W : World) (t : TypeId) (U : Nat) (cs : Array Value) (hc : cs.size = 20) {u : Int} (hu : u = (U : Int)) : Tr W.heap.size W t W.heap.size U (.int .i64 20) (.int .u64 u) (W.alloc (.cells cs t)) := by
  subst hu
  refine ⟨U, 20, [], cs.toList, rfl, rfl, Nat.le_refl _, rfl, Tells.start U, World.ownsRow_lit _ _ 20 (Nat.le_refl _) (by unfold maxLen; omega) (by rw [hc]), ?_, al _⟩
  rw [List.drop_eq_nil_of_le (by simp [hc])]; rfl
theorem set_drop {xs : List Value} {a : Nat} {l : List Nat} {d : Nat} (h : xs.drop (a + 1) = u8s l) (ha : a < xs.length) : (xs.set a (.int .u8 (d : Int))).drop a = u8s (d :: l) := by
  rw [List.drop_set, if_neg (by omega), Nat.sub_self, List.drop_eq_getElem_cons ha, List.set_cons_zero, h, u8s_cons]
theorem Rd.of_drop {w : World} {B g a n m : Nat} {t : TypeId} {xs : List Value} {l : List Nat} (h : w.ownsRow B t 1 (.slice (some ⟨g, 0, none⟩) n n) n xs) (hx : xs.drop a = u8s l) (ha : a + l.length = n) (hm : a + m = n) : Rd w w.heap.size 1 (some ⟨g, a, none⟩) m (u8s l) := by
  refine ⟨by simp; omega, fun _ => ⟨g, a, rfl, (h.lt g rfl).2, fun j u hu => ?_⟩⟩
  have hl : a + j < n * 1 := by
    have := (List.getElem?_eq_some_iff.1 hu).1
    simp at this; omega
  rw [h.cellAt (a + j) hl, ← hu, ← hx, List.getElem?_drop]
theorem run_tail (z : Int) (a g : Nat) (hz : z = a) (h : a < 20) (w : World) : (Instr.sliceAt 82 (.pointer (some ⟨g, 0, none⟩)) (some (.int .i64 z)) none none).run Tryz.prog w = .ok (.slice (some ⟨g, a, none⟩) (20 - a) (20 - a)) w := by
  subst hz
  have hl : Tryz.prog.arrayLen 82 = 20 := by kernel_rfl
  have he : Tryz.prog.elem 82 = 5 := by kernel_rfl
  have hs : (sizeOf 5).run Tryz.prog w = .ok 1 w := by kernel_rfl
  rw [run_sliceAt_array_l w 82 ⟨g, 0, none⟩ (by rw [hl, he]; exact Tryz.underlying82) .i64 (a : Int) (by omega) (by rw [hl]; omega), he, hs, hl]
  simp only [Result.andThen_ok, slicedAt, Int.toNat_natCast, Nat.mul_one]
  rw [if_neg (by omega)]
  rcases Nat.eq_zero_or_pos a with rfl | h0
  · rfl
  · simp [Addr.add, Nat.ne_of_gt h0]
set_option maxHeartbeats 1000000 in
theorem wordText_any (n : Int) (hn : -9223372036854775808 ≤ n ∧ n ≤ 9223372036854775807) (w : World) : Calls Tryz.prog 23 #[.int .i64 n] w fun e w' => e = .returned (.string (decS n)) ∧ Below w.heap.size w w' := by
  have hU : n.natAbs ≤ 9223372036854775808 := by omega
  have h19 := dd_len19 hU
  have hq := Lib.hid (show (n < 0 → IntKind.u64.wrap (-IntKind.u64.wrap n) = (n.natAbs : Int)) ∧ (¬ n < 0 → IntKind.u64.wrap n = (n.natAbs : Int)) by
    rw [IntKind.wrap_u64, IntKind.wrap_u64]; omega)
  go_enter Tryz.func23, Tryz.ntmps23
  by_cases hneg : n < 0 <;>
  (go_wp2_with fail
   go_loopw [4, 5] (fun x u wr => Tr w.heap.size w 82 w.heap.size n.natAbs x u wr) (fun _ u _ => (intOf u).toNat)
   case atStart => exact Tr.start _ _ _ _ rfl (by first | exact hq.out.1 hneg | exact hq.out.2 hneg | omega)
   case round =>
    obtain ⟨q, a, l, xs, rfl, rfl, hqU, hal, HT, hown, hdrop, hbel⟩ := hrel
    have HT' := Lib.hid HT
    have HD := Lib.hid hdrop
    have hlen := HT.len
    have hp := dd_pos q
    clear HT hdrop hq
    obtain ⟨i, rfl⟩ : ∃ i, a = i + 1 + 1 := ⟨a - 2, by omega⟩
    have hxl := hown.1
    simp at hxl
    have hcell := hown.cellAt (i + 1) (by omega)
    rw [List.getElem?_eq_getElem (by omega)] at hcell
    have hfz := hown.frozenAt (i + 1)
    have hcell0 := hown.cellAt i (by omega)
    rw [List.getElem?_eq_getElem (by omega)] at hcell0
    have hfz0 := hown.frozenAt i
    have hsl := run_tail ((i : Int) + 1) (i + 1) w.heap.size (by omega) (by omega)
    have hsl0 := run_tail (i : Int) i w.heap.size rfl (by omega)
    have ed : Value.int .u8 (48 + (q : Int) % 10) = .int .u8 ((48 + q % 10 : Nat) : Int) := by go_num
    have hst := hown.stored (i + 1) (.int .u8 (48 + (q : Int) % 10))
    have hdr : (xs.set (i + 1) (.int .u8 (48 + (q : Int) % 10))).drop (i + 1) = u8s ((48 + q % 10) :: l) := by rw [ed]; exact set_drop HD.out (by omega)
    have HR := Lib.hid hdr
    have HS := Lib.hid hst
    clear ed hst hdr
    by_cases hq10 : q < 10
    · have h0 : (q : Int) / 10 = 0 := by omega
      have hk := HT'.out.done hq10
      have hx : (if n < 0 then 45 :: (48 + q % 10) :: l else (48 + q % 10) :: l) = decL n := by rw [hk]; unfold decL; rfl
      first | rw [if_pos hneg] at hx | rw [if_neg (by omega)] at hx
      have HX := Lib.hid hx
      clear hk hx
      have hst0 := HS.out.1.stored i (.int .u8 45)
      have HS0 := Lib.hid hst0
      clear hst0
      have hc1 := fun h : (48 + q % 10) :: l = decL n => run_str_u8s (P := Tryz.prog) (c := 19 - i) (Rd.of_drop (m := 19 - i) HS.out.1 (h ▸ HR.out) (by rw [← h]; simp; omega) (by omega)) 58 5 9 Tryz.underlying58 Tryz.underlying5 Tryz.underlying9
      have hc2 := fun h : 45 :: (48 + q % 10) :: l = decL n => run_str_u8s (P := Tryz.prog) (c := 20 - i) (Rd.of_drop (m := 20 - i) HS0.out.1 (h ▸ set_drop (d := 45) HR.out (by simp; omega)) (by rw [← h]; simp; omega) (by omega)) 58 5 9 Tryz.underlying58 Tryz.underlying5 Tryz.underlying9
      first | replace hc1 := hc1 HX.out | replace hc2 := hc2 HX.out
      have hn : True := trivial
      go_wp2
      all_goals
        go_ret
        refine ⟨rfl, ?_⟩
        first | exact (hbel.setCell (Nat.le_refl _) _).setCell (Nat.le_refl _) _ | exact hbel.setCell (Nat.le_refl _) _
    · have h0 : ((q : Int) / 10 == 0) = false := by simp; omega
      go_wp2
      go_roundw
      case rel => exact ⟨q / 10, i + 1, (48 + q % 10) :: l, _, by go_num, by go_num, by omega, by simp; omega, HT'.out.step hq10, HS.out.1, HR.out, hbel.setCell (Nat.le_refl _) _⟩
      case measure => simp [intOf]; omega)
end Go.Proofs.YtjegfimagjmpdaaGreatDoor
end
section
/- 'word.Read' answers the number whose text it is. Conditions: none. -/
set_option maxRecDepth 20000
namespace Go.Proofs.YtjegfimagjmpdaaGreatDoor
open Go.ChangeShapes Go.WideShapes Go.ChangeAt Go.RowKit
/-- What Read answers. -/
def readV (s : ByteArray) : Value := match rd (byt s) with | some z => .tuple #[.int .i64 z, .int .i64 0] | none => .tuple #[.int .i64 0, .int .i64 3]
theorem readV_some {s : ByteArray} {z : Int} (h : rd (byt s) = some z) : readV s = .tuple #[.int .i64 z, .int .i64 0] := by unfold readV; rw [h]
theorem readV_none {s : ByteArray} (h : rd (byt s) = none) : readV s = .tuple #[.int .i64 0, .int .i64 3] := by unfold readV; rw [h]
theorem rd_long {s : ByteArray} (h : 20 < s.size) : rd (byt s) = none := by
  rw [rd_none]
  intro z hz e
  have := decL_len (n := z) hz
  rw [e, byt_len] at this
  omega
/-- A text without digits alone. -/
theorem rd_digit {s T : ByteArray} (hT : byt T = (mns (byt s)).2) {k : Nat} (hk : k < T.size) (hd : T[k].toNat < 48 ∨ 57 < T[k].toNat) : rd (byt s) = none := by
  cases h : rd (byt s) with
  | none => rfl
  | some z =>
    have h1 := (rd_readN h).1
    rw [← hT] at h1
    have := digs_take (byt_get T k hk) h1
    omega
theorem rd_text {s : ByteArray} {n : Int} (hn : readN (mns (byt s)).1 (mns (byt s)).2 = n) : (decL n = byt s → rd (byt s) = some n) ∧ (decL n ≠ byt s → rd (byt s) = none) := by
  refine ⟨fun h => rd_some.2 ⟨h, by rw [← hn]; exact readN_in _ _⟩, fun h => ?_⟩
  cases hr : rd (byt s) with
  | none => rfl
  | some z =>
    have h1 := (rd_readN hr).2
    rw [hn] at h1
    subst h1
    exact absurd (rd_some.1 hr).1 h
theorem decS_beq (n : Int) (s : ByteArray) : ((decS n).toList == s.toList) = decide (decL n = byt s) := by
  rw [beq_byt, decS, byt_strOf (fun d hd => by rcases decL_byte n d hd with h | h <;> omega), Bool.eq_iff_iff]
  simp
theorem emod_shift (V U q : Nat) (h : V = U + 18446744073709551616 * q) : (-(V : Int) + 9223372036854775808) % 18446744073709551616 = (-(U : Int) + 9223372036854775808) % 18446744073709551616 := by
  have e : -(V : Int) + 9223372036854775808 = (-(U : Int) + 9223372036854775808) + 18446744073709551616 * (-(q : Int)) := by rw [h]; omega
  rw [e, Int.add_mul_emod_self_left]
theorem neg_wrap (V U : Nat) (hU : U = V % 18446744073709551616) : (-(V : Int) + 9223372036854775808) % 18446744073709551616 - 9223372036854775808 = RowKit.wrap64 (-RowKit.wrap64 (U : Int)) := by
  have h1 : V = U + 18446744073709551616 * (V / 18446744073709551616) := by rw [hU]; exact (Nat.mod_add_div _ _).symm
  rw [emod_shift V U _ h1]
  have h2 : U < 18446744073709551616 := by rw [hU]; exact Nat.mod_lt _ (by omega)
  clear hU h1
  rcases Nat.lt_or_ge U 9223372036854775808 with h | h
  · have e : RowKit.wrap64 (U : Int) = (U : Int) := by unfold RowKit.wrap64; omega
    rw [e]; simp only [RowKit.wrap64]
  · have e : RowKit.wrap64 (U : Int) = (U : Int) - 18446744073709551616 := by unfold RowKit.wrap64; omega
    rw [e]
    have e2 : -((U : Int) - 18446744073709551616) + 9223372036854775808 = (-(U : Int) + 9223372036854775808) + 18446744073709551616 * 1 := by omega
    simp only [RowKit.wrap64]
    rw [e2, Int.add_mul_emod_self_left]
set_option maxHeartbeats 400000 in
theorem wordRead_plain (s : ByteArray) (hs : s.size ≤ 20) (hm : mns (byt s) = (false, byt s)) (hg : s.size = 0 ∨ ∃ h : 0 < s.size, ((s[0].toNat : Int) == 45) = false) (w : World) : Calls Tryz.prog 37 #[.string s] w fun e w' => e = .returned (readV s) ∧ Below w.heap.size w w' := by
  have HNG := Lib.hid (show (mns (byt s)).1 = false by rw [hm])
  have HT := Lib.hid (show byt s = (mns (byt s)).2 by rw [hm])
  clear hm
  rcases hg with h0 | ⟨h00, hg⟩
  · have gd : decide ((0 : Int) < (s.size : Int)) = false := decide_eq_false (by omega)
    have h0' : s.size ≤ 0 := by omega
    clear h0
    go_enter Tryz.func37, Tryz.ntmps37
    go_wp2_with fail
    go_loop [4, 7] (fun u i => ∃ k : Nat, i = .int .i64 (k : Int) ∧ k ≤ s.size ∧ Hid (digs ((byt s).take k) = true) ∧ u = .int .u64 ((dval ((byt s).take k) % 18446744073709551616 : Nat) : Int)) (fun _ i => s.size - (intOf i).toNat)
    case atStart => exact ⟨0, rfl, by omega, Lib.hid rfl, rfl⟩
    case round =>
      obtain ⟨k, rfl, hk, HD, rfl⟩ := hrel
      by_cases hlt : k < s.size
      · by_cases hlo : s[k].toNat < 48
        · have g1 : decide ((s[k].toNat : Int) < 48) = true := decide_eq_true (by omega)
          have HF := Lib.hid (readV_none (rd_digit (T := s) HT.out hlt (.inl hlo)))
          clear hlo
          go_wp2_with fail
          go_returns
          exact ⟨by rw [HF.out]; rfl, Below.refl _ _⟩
        · have g1 : decide ((s[k].toNat : Int) < 48) = false := decide_eq_false (by omega)
          by_cases hhi : 57 < s[k].toNat
          · have g2 : decide ((57 : Int) < (s[k].toNat : Int)) = true := decide_eq_true (by omega)
            have HF := Lib.hid (readV_none (rd_digit (T := s) HT.out hlt (.inr hhi)))
            clear hhi hlo
            go_wp2_with fail
            go_returns
            exact ⟨by rw [HF.out]; rfl, Below.refl _ _⟩
          · have g2 : decide ((57 : Int) < (s[k].toNat : Int)) = false := decide_eq_false (by omega)
            have hd := byt_get s k hlt
            have hsn : (byt s).take (k + 1) = (byt s).take k ++ [s[k].toNat] := by rw [List.take_add_one, hd]; rfl
            have HS := Lib.hid (show dval ((byt s).take (k + 1)) = dval ((byt s).take k) * 10 + (s[k].toNat - 48) by rw [hsn, dval_snoc])
            have HD2 := Lib.hid (show digs ((byt s).take (k + 1)) = true by rw [hsn]; exact digs_snoc HD.out ⟨by omega, by omega⟩)
            generalize dval ((byt s).take k) = V at *
            obtain ⟨U, hU⟩ : ∃ U, U = V % 18446744073709551616 := ⟨_, rfl⟩
            have hlo' : 48 ≤ (s[k].toNat : Int) := by omega
            have hhi' : (s[k].toNat : Int) ≤ 57 := by omega
            have HU := Lib.hid hU
            have hUlt : U < 18446744073709551616 := by rw [hU]; exact Nat.mod_lt _ (by omega)
            rw [← hU]
            clear hU hd hsn hlo hhi
            go_wp2_with fail
            go_round
            case rel =>
              refine ⟨k + 1, by go_num, by omega, HD2, ?_⟩
              rw [HS.out]
              have := HU.out
              first
                | (exfalso; omega)
                | (congr 1; rw [IntKind.wrap_u64, IntKind.wrap_u64]; omega)
            case measure => simp [intOf]; omega
      · have HTT := Lib.hid (show (byt s).take k = byt s from List.take_of_length_le (by rw [byt_len]; omega))
        rw [HTT.out]
        generalize hv : dval (byt s) = V at *
        obtain ⟨U, hU⟩ : ∃ U, U = V % 18446744073709551616 := ⟨_, rfl⟩
        obtain ⟨n, hn⟩ : ∃ n, readN false (byt s) = n := ⟨_, rfl⟩
        have hin := readN_in false (byt s)
        rw [hn] at hin
        unfold inI at hin
        have hr := rd_text (s := s) (n := n) (by rw [HNG.out, ← HT.out]; exact hn)
        have HRT := Lib.hid hr
        have HNV := Lib.hid (show n = RowKit.wrap64 (U : Int) by
          rw [← hn]; unfold readN; rw [hv]
          rw [if_neg (by simp)]; unfold RowKit.wrap64; omega)
        have hUlt : U < 18446744073709551616 := by rw [hU]; exact Nat.mod_lt _ (by omega)
        have hb0 := decS_beq n s
        rw [← hU]
        clear hr hn hv hU
        by_cases he : decL n = byt s
        · rw [decide_eq_true he] at hb0
          have HF := Lib.hid (readV_some (HRT.out.1 he))
          clear he
          go_wp2_with fail
          rw [show RowKit.wrap64 (U : Int) = n from HNV.out.symm]
          refine (wordText_any n hin _).mono ?_
          rintro e w2 ⟨rfl, hb⟩
          go_wp2_with fail
          go_returns
          exact ⟨by rw [HF.out]; rfl, hb⟩
        · rw [decide_eq_false he] at hb0
          have HF := Lib.hid (readV_none (HRT.out.2 he))
          clear he
          go_wp2_with fail
          rw [show RowKit.wrap64 (U : Int) = n from HNV.out.symm]
          refine (wordText_any n hin _).mono ?_
          rintro e w2 ⟨rfl, hb⟩
          go_wp2_with fail
          go_returns
          exact ⟨by rw [HF.out]; rfl, hb⟩
  · have gd : decide ((0 : Int) < (s.size : Int)) = true := decide_eq_true (by omega)
    go_enter Tryz.func37, Tryz.ntmps37
    go_wp2_with fail
    go_loop [4, 7] (fun u i => ∃ k : Nat, i = .int .i64 (k : Int) ∧ k ≤ s.size ∧ Hid (digs ((byt s).take k) = true) ∧ u = .int .u64 ((dval ((byt s).take k) % 18446744073709551616 : Nat) : Int)) (fun _ i => s.size - (intOf i).toNat)
    case atStart => exact ⟨0, rfl, by omega, Lib.hid rfl, rfl⟩
    case round =>
      obtain ⟨k, rfl, hk, HD, rfl⟩ := hrel
      by_cases hlt : k < s.size
      · by_cases hlo : s[k].toNat < 48
        · have g1 : decide ((s[k].toNat : Int) < 48) = true := decide_eq_true (by omega)
          have HF := Lib.hid (readV_none (rd_digit (T := s) HT.out hlt (.inl hlo)))
          clear hlo
          go_wp2_with fail
          go_returns
          exact ⟨by rw [HF.out]; rfl, Below.refl _ _⟩
        · have g1 : decide ((s[k].toNat : Int) < 48) = false := decide_eq_false (by omega)
          by_cases hhi : 57 < s[k].toNat
          · have g2 : decide ((57 : Int) < (s[k].toNat : Int)) = true := decide_eq_true (by omega)
            have HF := Lib.hid (readV_none (rd_digit (T := s) HT.out hlt (.inr hhi)))
            clear hhi hlo
            go_wp2_with fail
            go_returns
            exact ⟨by rw [HF.out]; rfl, Below.refl _ _⟩
          · have g2 : decide ((57 : Int) < (s[k].toNat : Int)) = false := decide_eq_false (by omega)
            have hd := byt_get s k hlt
            have hsn : (byt s).take (k + 1) = (byt s).take k ++ [s[k].toNat] := by rw [List.take_add_one, hd]; rfl
            have HS := Lib.hid (show dval ((byt s).take (k + 1)) = dval ((byt s).take k) * 10 + (s[k].toNat - 48) by rw [hsn, dval_snoc])
            have HD2 := Lib.hid (show digs ((byt s).take (k + 1)) = true by rw [hsn]; exact digs_snoc HD.out ⟨by omega, by omega⟩)
            generalize dval ((byt s).take k) = V at *
            obtain ⟨U, hU⟩ : ∃ U, U = V % 18446744073709551616 := ⟨_, rfl⟩
            have hlo' : 48 ≤ (s[k].toNat : Int) := by omega
            have hhi' : (s[k].toNat : Int) ≤ 57 := by omega
            have HU := Lib.hid hU
            have hUlt : U < 18446744073709551616 := by rw [hU]; exact Nat.mod_lt _ (by omega)
            rw [← hU]
            clear hU hd hsn hlo hhi
            go_wp2_with fail
            go_round
            case rel =>
              refine ⟨k + 1, by go_num, by omega, HD2, ?_⟩
              rw [HS.out]
              have := HU.out
              first
                | (exfalso; omega)
                | (congr 1; rw [IntKind.wrap_u64, IntKind.wrap_u64]; omega)
            case measure => simp [intOf]; omega
      · have HTT := Lib.hid (show (byt s).take k = byt s from List.take_of_length_le (by rw [byt_len]; omega))
        rw [HTT.out]
        generalize hv : dval (byt s) = V at *
        obtain ⟨U, hU⟩ : ∃ U, U = V % 18446744073709551616 := ⟨_, rfl⟩
        obtain ⟨n, hn⟩ : ∃ n, readN false (byt s) = n := ⟨_, rfl⟩
        have hin := readN_in false (byt s)
        rw [hn] at hin
        unfold inI at hin
        have hr := rd_text (s := s) (n := n) (by rw [HNG.out, ← HT.out]; exact hn)
        have HRT := Lib.hid hr
        have HNV := Lib.hid (show n = RowKit.wrap64 (U : Int) by
          rw [← hn]; unfold readN; rw [hv]
          rw [if_neg (by simp)]; unfold RowKit.wrap64; omega)
        have hUlt : U < 18446744073709551616 := by rw [hU]; exact Nat.mod_lt _ (by omega)
        have hb0 := decS_beq n s
        rw [← hU]
        clear hr hn hv hU
        by_cases he : decL n = byt s
        · rw [decide_eq_true he] at hb0
          have HF := Lib.hid (readV_some (HRT.out.1 he))
          clear he
          go_wp2_with fail
          rw [show RowKit.wrap64 (U : Int) = n from HNV.out.symm]
          refine (wordText_any n hin _).mono ?_
          rintro e w2 ⟨rfl, hb⟩
          go_wp2_with fail
          go_returns
          exact ⟨by rw [HF.out]; rfl, hb⟩
        · rw [decide_eq_false he] at hb0
          have HF := Lib.hid (readV_none (HRT.out.2 he))
          clear he
          go_wp2_with fail
          rw [show RowKit.wrap64 (U : Int) = n from HNV.out.symm]
          refine (wordText_any n hin _).mono ?_
          rintro e w2 ⟨rfl, hb⟩
          go_wp2_with fail
          go_returns
          exact ⟨by rw [HF.out]; rfl, hb⟩
set_option maxHeartbeats 400000 in
theorem wordRead_minus (s T : ByteArray) (hs : s.size ≤ 20) (h0 : 0 < s.size) (hc : s[0] = 45) (hT : s.extract 1 s.size = T) (hm : mns (byt s) = (true, byt T)) (w : World) : Calls Tryz.prog 37 #[.string s] w fun e w' => e = .returned (readV s) ∧ Below w.heap.size w w' := by
  have HNG := Lib.hid (show (mns (byt s)).1 = true by rw [hm])
  have HT := Lib.hid (show byt T = (mns (byt s)).2 by rw [hm])
  have hTs : T.size ≤ 20 := by rw [← hT, ByteArray.size_extract]; omega
  have gd : decide ((0 : Int) < (s.size : Int)) = true := decide_eq_true (by omega)
  have g0 : ((s[0].toNat : Int) == 45) = true := by rw [hc]; rfl
  have h1 : (1 : Int) ≤ (s.size : Int) := by omega
  clear hm hc
  go_enter Tryz.func37, Tryz.ntmps37
  go_wp2_with fail
  clear hT
  go_loop [4, 7] (fun u i => ∃ k : Nat, i = .int .i64 (k : Int) ∧ k ≤ T.size ∧ Hid (digs ((byt T).take k) = true) ∧ u = .int .u64 ((dval ((byt T).take k) % 18446744073709551616 : Nat) : Int)) (fun _ i => T.size - (intOf i).toNat)
  case atStart => exact ⟨0, rfl, by omega, Lib.hid rfl, rfl⟩
  case round =>
    obtain ⟨k, rfl, hk, HD, rfl⟩ := hrel
    by_cases hlt : k < T.size
    · by_cases hlo : T[k].toNat < 48
      · have g1 : decide ((T[k].toNat : Int) < 48) = true := decide_eq_true (by omega)
        have HF := Lib.hid (readV_none (rd_digit (T := T) HT.out hlt (.inl hlo)))
        clear hlo
        go_wp2_with fail
        go_returns
        exact ⟨by rw [HF.out]; rfl, Below.refl _ _⟩
      · have g1 : decide ((T[k].toNat : Int) < 48) = false := decide_eq_false (by omega)
        by_cases hhi : 57 < T[k].toNat
        · have g2 : decide ((57 : Int) < (T[k].toNat : Int)) = true := decide_eq_true (by omega)
          have HF := Lib.hid (readV_none (rd_digit (T := T) HT.out hlt (.inr hhi)))
          clear hhi hlo
          go_wp2_with fail
          go_returns
          exact ⟨by rw [HF.out]; rfl, Below.refl _ _⟩
        · have g2 : decide ((57 : Int) < (T[k].toNat : Int)) = false := decide_eq_false (by omega)
          have hd := byt_get T k hlt
          have hsn : (byt T).take (k + 1) = (byt T).take k ++ [T[k].toNat] := by rw [List.take_add_one, hd]; rfl
          have HS := Lib.hid (show dval ((byt T).take (k + 1)) = dval ((byt T).take k) * 10 + (T[k].toNat - 48) by rw [hsn, dval_snoc])
          have HD2 := Lib.hid (show digs ((byt T).take (k + 1)) = true by rw [hsn]; exact digs_snoc HD.out ⟨by omega, by omega⟩)
          generalize dval ((byt T).take k) = V at *
          obtain ⟨U, hU⟩ : ∃ U, U = V % 18446744073709551616 := ⟨_, rfl⟩
          have hlo' : 48 ≤ (T[k].toNat : Int) := by omega
          have hhi' : (T[k].toNat : Int) ≤ 57 := by omega
          have HU := Lib.hid hU
          have hUlt : U < 18446744073709551616 := by rw [hU]; exact Nat.mod_lt _ (by omega)
          rw [← hU]
          clear hU hd hsn hlo hhi
          go_wp2_with fail
          go_round
          case rel =>
            refine ⟨k + 1, by go_num, by omega, HD2, ?_⟩
            rw [HS.out]
            have := HU.out
            first
              | (exfalso; omega)
              | (congr 1; rw [IntKind.wrap_u64, IntKind.wrap_u64]; omega)
          case measure => simp [intOf]; omega
    · have HTT := Lib.hid (show (byt T).take k = byt T from List.take_of_length_le (by rw [byt_len]; omega))
      rw [HTT.out]
      generalize hv : dval (byt T) = V at *
      obtain ⟨U, hU⟩ : ∃ U, U = V % 18446744073709551616 := ⟨_, rfl⟩
      obtain ⟨n, hn⟩ : ∃ n, readN true (byt T) = n := ⟨_, rfl⟩
      have hin := readN_in true (byt T)
      rw [hn] at hin
      unfold inI at hin
      have hr := rd_text (s := s) (n := n) (by rw [HNG.out, ← HT.out]; exact hn)
      have HRT := Lib.hid hr
      have HNV := Lib.hid (show n = RowKit.wrap64 (-RowKit.wrap64 (U : Int)) by
        rw [← hn]; unfold readN; rw [hv]
        rw [if_pos rfl]; exact neg_wrap _ _ hU)
      have hUlt : U < 18446744073709551616 := by rw [hU]; exact Nat.mod_lt _ (by omega)
      have hb0 := decS_beq n s
      rw [← hU]
      clear hr hn hv hU
      by_cases he : decL n = byt s
      · rw [decide_eq_true he] at hb0
        have HF := Lib.hid (readV_some (HRT.out.1 he))
        clear he
        go_wp2_with fail
        rw [show RowKit.wrap64 (-RowKit.wrap64 (U : Int)) = n from HNV.out.symm]
        refine (wordText_any n hin _).mono ?_
        rintro e w2 ⟨rfl, hb⟩
        go_wp2_with fail
        go_returns
        exact ⟨by rw [HF.out]; rfl, hb⟩
      · rw [decide_eq_false he] at hb0
        have HF := Lib.hid (readV_none (HRT.out.2 he))
        clear he
        go_wp2_with fail
        rw [show RowKit.wrap64 (-RowKit.wrap64 (U : Int)) = n from HNV.out.symm]
        refine (wordText_any n hin _).mono ?_
        rintro e w2 ⟨rfl, hb⟩
        go_wp2_with fail
        go_returns
        exact ⟨by rw [HF.out]; rfl, hb⟩
theorem mns_no {s : ByteArray} (h : s.size = 0 ∨ ∃ h : 0 < s.size, s[0] ≠ 45) : mns (byt s) = (false, byt s) := by
  rcases h with h | ⟨h, hc⟩
  · have : byt s = [] := List.eq_nil_of_length_eq_zero (by rw [byt_len]; exact h)
    rw [this]; rfl
  · have := byt_drop s 0 h
    rw [List.drop_zero] at this
    rw [this]
    simp only [mns]
    rw [if_neg (show ¬ s[0].toNat = 45 from fun e => hc (UInt8.toNat_inj.1 e))]
theorem mns_yes {s : ByteArray} (h : 0 < s.size) (hc : s[0] = 45) : mns (byt s) = (true, byt (s.extract 1 s.size)) := by
  have := byt_drop s 0 h
  rw [List.drop_zero] at this
  rw [byt_extract, List.take_of_length_le (by rw [byt_len]; omega)]
  conv => lhs; rw [this]
  simp only [mns]
  rw [if_pos (show s[0].toNat = 45 by rw [hc]; rfl)]
theorem wordRead_any (s : ByteArray) (w : World) : Calls Tryz.prog 37 #[.string s] w fun e w' => e = .returned (readV s) ∧ Below w.heap.size w w' := by
  by_cases hl : 20 < s.size
  · have HF := Lib.hid (readV_none (rd_long hl))
    go_enter Tryz.func37, Tryz.ntmps37
    go_wp2_with fail
    go_returns
    exact ⟨by rw [HF.out]; rfl, Below.refl _ _⟩
  · by_cases h0 : s.size = 0
    · exact wordRead_plain s (by omega) (mns_no (.inl h0)) (.inl h0) w
    · by_cases hc : s[0] = 45
      · exact wordRead_minus s _ (by omega) (by omega) hc rfl (mns_yes (by omega) hc) w
      · exact wordRead_plain s (by omega) (mns_no (.inr ⟨by omega, hc⟩)) (.inr ⟨by omega, by
          rw [beq_eq_false_iff_ne]; intro e; exact hc (UInt8.toNat_inj.1 (by exact_mod_cast e))⟩) w
end Go.Proofs.YtjegfimagjmpdaaGreatDoor
end
section
/- 'scan.Quote': what it answers. Conditions: none. -/
set_option maxRecDepth 20000
namespace Go.Proofs.YtjegfimagjmpdaaGreatDoor
open Go.ChangeShapes Go.WideShapes Go.ChangeAt Go.RowKit
/-- What Quote answers. -/
def quoV (s : ByteArray) : Value := if 200 < s.size then .tuple #[.string ⟨#[]⟩, .int .i64 1] else match quoL s.data.toList with | none => .tuple #[.string ⟨#[]⟩, .int .i64 4] | some q => .tuple #[.string ⟨(34 :: q ++ [34]).toArray⟩, .int .i64 0]
theorem quoV_long {s : ByteArray} (h : 200 < s.size) : quoV s = .tuple #[.string ⟨#[]⟩, .int .i64 1] := by unfold quoV; rw [if_pos h]
theorem quoV_some {s : ByteArray} (h : ¬ 200 < s.size) {q : List UInt8} (hq : quoL s.data.toList = some q) : quoV s = .tuple #[.string ⟨(34 :: q ++ [34]).toArray⟩, .int .i64 0] := by unfold quoV; rw [if_neg h, hq]
theorem quoV_none {s : ByteArray} (h : ¬ 200 < s.size) {k : Nat} (hk : k < s.size) (hc : quoC s[k] = none) : quoV s = .tuple #[.string ⟨#[]⟩, .int .i64 4] := by
  unfold quoV
  have : quoL s.data.toList = none := by
    rw [← List.take_append_drop k s.data.toList, quoL_app, byl_drop s k hk]
    simp only [quoL, hc]
    cases quoL (s.data.toList.take k) <;> simp
  rw [if_neg h, this]
theorem quo_step {s : ByteArray} {k : Nat} (hk : k < s.size) {q a : List UInt8} (h : quoL (s.data.toList.take k) = some q) (hc : quoC s[k] = some a) : quoL (s.data.toList.take (k + 1)) = some (q ++ a) := by
  rw [byl_take s k hk, quoL_snoc, h, hc]; rfl
theorem quo_end {s : ByteArray} {k : Nat} (hk : s.size ≤ k) {q : List UInt8} (h : quoL (s.data.toList.take k) = some q) : quoL s.data.toList = some q := by
  rw [List.take_of_length_le (by simpa using hk)] at h; exact h
theorem quo_len {s : ByteArray} {k : Nat} (hk : k ≤ 200) {q : List UInt8} (h : quoL (s.data.toList.take k) = some q) : q.length ≤ 400 := by
  have := quoL_len h
  rw [List.length_take] at this
  omega
theorem quoC_q {c : UInt8} (h : c = 34 ∨ c = 92) : quoC c = some [92, c] := by unfold quoC; rw [if_pos h]
theorem quoC_n : quoC 10 = some [92, 110] := by decide
theorem quoC_t : quoC 9 = some [92, 116] := by decide
theorem quoC_ok {c : UInt8} (h1 : c ≠ 34) (h2 : c ≠ 92) (h : 32 ≤ c.toNat) (h' : c.toNat ≤ 126) : quoC c = some [c] := by
  unfold quoC
  rw [if_neg (by simp [h1, h2]), if_neg (by rintro rfl; simp at h), if_neg (by rintro rfl; simp at h), if_pos (by simp [okB, h, h'])]
theorem quoC_no {c : UInt8} (h1 : c ≠ 34) (h2 : c ≠ 92) (h3 : c ≠ 10) (h4 : c ≠ 9) (h : ¬ (32 ≤ c.toNat ∧ c.toNat ≤ 126)) : quoC c = none := by
  unfold quoC
  rw [if_neg (by simp [h1, h2]), if_neg h3, if_neg h4, if_neg (by simpa [okB] using h)]
/-- A byte is one of these. -/
theorem byte_cases (c : UInt8) : c = 34 ∨ c = 92 ∨ c = 10 ∨ c = 9 ∨ (c ≠ 34 ∧ c ≠ 92 ∧ c ≠ 10 ∧ c ≠ 9 ∧ 32 ≤ c.toNat ∧ c.toNat ≤ 126) ∨ (c ≠ 34 ∧ c ≠ 92 ∧ c ≠ 10 ∧ c ≠ 9 ∧ c.toNat < 32) ∨ (c ≠ 34 ∧ c ≠ 92 ∧ c ≠ 10 ∧ c ≠ 9 ∧ 126 < c.toNat) := by
  by_cases h1 : c = 34
  · exact .inl h1
  by_cases h2 : c = 92
  · exact .inr (.inl h2)
  by_cases h3 : c = 10
  · exact .inr (.inr (.inl h3))
  by_cases h4 : c = 9
  · exact .inr (.inr (.inr (.inl h4)))
  by_cases h5 : c.toNat < 32
  · exact .inr (.inr (.inr (.inr (.inr (.inl ⟨h1, h2, h3, h4, h5⟩)))))
  by_cases h6 : 126 < c.toNat
  · exact .inr (.inr (.inr (.inr (.inr (.inr ⟨h1, h2, h3, h4, h6⟩)))))
  · exact .inr (.inr (.inr (.inr (.inl ⟨h1, h2, h3, h4, by omega, by omega⟩))))
/-- What the loop keeps. -/
def Qr (B : Nat) (W : World) (s : ByteArray) (out i : Value) (wr : World) : Prop :=
  ∃ (k : Nat) (q : List UInt8) (A : Option Addr) (c : Nat), i = .int .i64 (k : Int) ∧ k ≤ s.size ∧ quoL (s.data.toList.take k) = some q ∧ out = .slice A (1 + q.length) c ∧ wr.ownsRow B 5 1 out (1 + q.length) (b8 (34 :: q)) ∧ Below B W wr
theorem Qr.step {B : Nat} {W wr w1 : World} {s : ByteArray} {k : Nat} {q a : List UInt8} {A A1 : Option Addr} {c c1 m : Nat} {o : Obj} (hk : k < s.size) (hq : quoL (s.data.toList.take k) = some q) (hc : quoC s[k] = some a) (hown : wr.ownsRow B 5 1 (.slice A (1 + q.length) c) (1 + q.length) (b8 (34 :: q))) (hb : Below B W wr) (hB : B ≤ wr.heap.size) (hm : m = a.length)
    (hown1 : w1.ownsRow B 5 1 (.slice A1 (1 + q.length + m) c1) (1 + q.length + m) (b8 (34 :: q) ++ b8 a)) (hg : (wr.alloc o).grownBy w1 (Value.slice A (1 + q.length) c).ownBlock) :
    Qr B W s (.slice A1 (1 + q.length + m) c1) (.int .i64 ((k : Int) + 1)) w1 := by
  subst hm
  refine ⟨k + 1, q ++ a, A1, c1, by go_num, hk, quo_step hk hq hc, by rw [List.length_append, Nat.add_assoc], ?_, below_grown (hb.alloc hB _) (Nat.le_trans hB (by simp)) (hown.alloc _) (Nat.le_refl _) hg⟩
  rw [List.length_append, ← Nat.add_assoc, ← List.cons_append, b8_app]
  exact hown1
set_option maxHeartbeats 1000000 in
theorem scanQuote_any (s : ByteArray) (hs : s.size ≤ 140737488351232) (w : World) : Calls Tryz.prog 21 #[.string s] w fun e w' => e = .returned (quoV s) ∧ Below w.heap.size w w' := by
  obtain ⟨i0, hi, hz0, hz1, hz2⟩ := info_parts info_u8
  by_cases hlong : 200 < s.size
  · have HL := Lib.hid (quoV_long hlong)
    go_enter Tryz.func21, Tryz.ntmps21
    go_wp2_with fail
    go_returns
    exact ⟨by rw [HL.out]; rfl, Below.refl _ _⟩
  · go_enter Tryz.func21, Tryz.ntmps21
    go_wp2_with fail
    go_loopw [4, 5] (fun out i wr => Qr w.heap.size w s out i wr) (fun _ i _ => s.size - (intOf i).toNat)
    case atStart =>
      refine ⟨0, [], _, _, rfl, Nat.zero_le _, rfl, rfl, ?_, al _⟩
      exact World.ownsRow_lit _ _ 1 (Nat.le_refl _) (by unfold maxLen; omega) rfl
    case round =>
      obtain ⟨k, q, A, c, rfl, hk, hq, rfl, hown, hbel⟩ := hrel
      have hql := quo_len (s := s) (k := k) (by omega) hq
      have HQ := Lib.hid hq
      clear hq
      by_cases hlt : k < s.size
      · rcases byte_cases s[k] with hc | hc | hc | hc | ⟨h1, h2, h3, h4, h5, h6⟩ | ⟨h1, h2, h3, h4, h5⟩ | ⟨h1, h2, h3, h4, h5⟩
        · have hT : s[k].toNat = 34 := by rw [hc]; rfl
          have hC := Lib.hid hc
          clear hc
          go_wp2_with (at_builtin; refine wpList_append_rd _ rfl _ _ 58 rfl w.heap.size 5 i0 _ 1 1 Tryz.underlying58 hi hz0 hz1 hz2 rfl (by omega) _ _ _ rfl (hown.alloc _) _ _ 2 2 _ rfl (Rd.lit _ _ _ 2 1 rfl) (by intro u hu; simp at hu; rcases hu with rfl | rfl <;> rfl) (by unfold maxLen; omega) (by omega) (Nat.le_trans hbel.size (by simp)) ?_; intro A1 c1 w1 hown1 hgrow1 _)
          go_roundw
          case rel => exact Qr.step (a := [92, 34]) hlt HQ.out (by have := hC.out; rw [quoC_q (.inl this), this]) hown hbel hbel.size rfl hown1 hgrow1
          case measure => simp [intOf]; omega
        · have hT : s[k].toNat = 92 := by rw [hc]; rfl
          have hC := Lib.hid hc
          clear hc
          go_wp2_with (at_builtin; refine wpList_append_rd _ rfl _ _ 58 rfl w.heap.size 5 i0 _ 1 1 Tryz.underlying58 hi hz0 hz1 hz2 rfl (by omega) _ _ _ rfl (hown.alloc _) _ _ 2 2 _ rfl (Rd.lit _ _ _ 2 1 rfl) (by intro u hu; simp at hu; rcases hu with rfl | rfl <;> rfl) (by unfold maxLen; omega) (by omega) (Nat.le_trans hbel.size (by simp)) ?_; intro A1 c1 w1 hown1 hgrow1 _)
          go_roundw
          case rel => exact Qr.step (a := [92, 92]) hlt HQ.out (by have := hC.out; rw [quoC_q (.inr this), this]) hown hbel hbel.size rfl hown1 hgrow1
          case measure => simp [intOf]; omega
        · have hT : s[k].toNat = 10 := by rw [hc]; rfl
          have hC := Lib.hid hc
          clear hc
          go_wp2_with (at_builtin; refine wpList_append_rd _ rfl _ _ 58 rfl w.heap.size 5 i0 _ 1 1 Tryz.underlying58 hi hz0 hz1 hz2 rfl (by omega) _ _ _ rfl (hown.alloc _) _ _ 2 2 _ rfl (Rd.lit _ _ _ 2 1 rfl) (by intro u hu; simp at hu; rcases hu with rfl | rfl <;> rfl) (by unfold maxLen; omega) (by omega) (Nat.le_trans hbel.size (by simp)) ?_; intro A1 c1 w1 hown1 hgrow1 _)
          go_roundw
          case rel => exact Qr.step (a := [92, 110]) hlt HQ.out (by have := hC.out; rw [this]; exact quoC_n) hown hbel hbel.size rfl hown1 hgrow1
          case measure => simp [intOf]; omega
        · have hT : s[k].toNat = 9 := by rw [hc]; rfl
          have hC := Lib.hid hc
          clear hc
          go_wp2_with (at_builtin; refine wpList_append_rd _ rfl _ _ 58 rfl w.heap.size 5 i0 _ 1 1 Tryz.underlying58 hi hz0 hz1 hz2 rfl (by omega) _ _ _ rfl (hown.alloc _) _ _ 2 2 _ rfl (Rd.lit _ _ _ 2 1 rfl) (by intro u hu; simp at hu; rcases hu with rfl | rfl <;> rfl) (by unfold maxLen; omega) (by omega) (Nat.le_trans hbel.size (by simp)) ?_; intro A1 c1 w1 hown1 hgrow1 _)
          go_roundw
          case rel => exact Qr.step (a := [92, 116]) hlt HQ.out (by have := hC.out; rw [this]; exact quoC_t) hown hbel hbel.size rfl hown1 hgrow1
          case measure => simp [intOf]; omega
        · have g1 : ((s[k].toNat : Int) == 34) = false := by have := u8_ne h1; simp at this ⊢; omega
          have g2 : ((s[k].toNat : Int) == 92) = false := by have := u8_ne h2; simp at this ⊢; omega
          have g3 : ((s[k].toNat : Int) == 10) = false := by have := u8_ne h3; simp at this ⊢; omega
          have g4 : ((s[k].toNat : Int) == 9) = false := by have := u8_ne h4; simp at this ⊢; omega
          have HC := Lib.hid (quoC_ok h1 h2 h5 h6)
          clear h1 h2 h3 h4
          go_wp2_with (at_builtin; refine wpList_append_rd _ rfl _ _ 58 rfl w.heap.size 5 i0 _ 1 1 Tryz.underlying58 hi hz0 hz1 hz2 rfl (by omega) _ _ _ rfl (hown.alloc _) _ _ 1 1 [_] rfl (Rd.lit1 _ _ _) (one1 rfl) (by unfold maxLen; omega) (by omega) (Nat.le_trans hbel.size (by simp)) ?_; intro A1 c1 w1 hown1 hgrow1 _)
          go_roundw
          case rel => exact Qr.step (a := [s[k]]) hlt HQ.out HC.out hown hbel hbel.size rfl hown1 hgrow1
          case measure => simp [intOf]; omega
        · have g1 : ((s[k].toNat : Int) == 34) = false := by have := u8_ne h1; simp at this ⊢; omega
          have g2 : ((s[k].toNat : Int) == 92) = false := by have := u8_ne h2; simp at this ⊢; omega
          have g3 : ((s[k].toNat : Int) == 10) = false := by have := u8_ne h3; simp at this ⊢; omega
          have g4 : ((s[k].toNat : Int) == 9) = false := by have := u8_ne h4; simp at this ⊢; omega
          have HC := Lib.hid (quoV_none hlong hlt (quoC_no h1 h2 h3 h4 (by omega)))
          clear h1 h2 h3 h4
          go_wp2_with fail
          go_returns
          exact ⟨by rw [HC.out]; rfl, hbel⟩
        · have g1 : ((s[k].toNat : Int) == 34) = false := by have := u8_ne h1; simp at this ⊢; omega
          have g2 : ((s[k].toNat : Int) == 92) = false := by have := u8_ne h2; simp at this ⊢; omega
          have g3 : ((s[k].toNat : Int) == 10) = false := by have := u8_ne h3; simp at this ⊢; omega
          have g4 : ((s[k].toNat : Int) == 9) = false := by have := u8_ne h4; simp at this ⊢; omega
          have HC := Lib.hid (quoV_none hlong hlt (quoC_no h1 h2 h3 h4 (by omega)))
          clear h1 h2 h3 h4
          go_wp2_with fail
          go_returns
          exact ⟨by rw [HC.out]; rfl, hbel⟩
      · have HE := Lib.hid (quoV_some hlong (quo_end (by omega) HQ.out))
        go_wp2_with (at_builtin; refine wpList_append_rd _ rfl _ _ 58 rfl w.heap.size 5 i0 _ 1 1 Tryz.underlying58 hi hz0 hz1 hz2 rfl (by omega) _ _ _ rfl (hown.alloc _) _ _ 1 1 [_] rfl (Rd.lit1 _ _ _) (one1 rfl) (by unfold maxLen; omega) (by omega) (Nat.le_trans hbel.size (by simp)) ?_; intro A1 c1 w1 hown1 hgrow1 _)
        have hx := run_str_b8 (P := Tryz.prog) (c := c1) (l := 34 :: q ++ [34]) (by rw [b8_app]; exact Rd.of_own hown1) 58 5 9 Tryz.underlying58 Tryz.underlying5 Tryz.underlying9
        go_wp2_with (simp only [hx])
        go_returns
        exact ⟨by rw [HE.out]; rfl, below_grown (hbel.alloc hbel.size _) (Nat.le_trans hbel.size (by simp)) (hown.alloc _) (Nat.le_refl _) hgrow1⟩
end Go.Proofs.YtjegfimagjmpdaaGreatDoor
end
section
/- 'scan.Quote' and the document's Quote answer alike. Conditions: none. -/
set_option maxRecDepth 20000
namespace Go.Proofs.YtjegfimagjmpdaaGreatDoor
open Go.ChangeShapes Go.WideShapes Go.ChangeAt Go.RowKit
/-- What the document's loop keeps. -/
def Qt (s : ByteArray) (t i : Value) : Prop :=
  ∃ (k : Nat) (q : List UInt8) (T : ByteArray), i = .int .i64 (k : Int) ∧ k ≤ s.size ∧ quoL (s.data.toList.take k) = some q ∧ t = .string T ∧ T = ⟨(34 :: q).toArray⟩
theorem Qt.step {s : ByteArray} {k : Nat} {q a : List UInt8} {T U : ByteArray} (hk : k < s.size) (hq : quoL (s.data.toList.take k) = some q) (hc : quoC s[k] = some a) (hT : T = ⟨(34 :: q).toArray⟩) (hU : U = ⟨a.toArray⟩) : Qt s (.string (T ++ U)) (.int .i64 ((k : Int) + 1)) := by
  subst hT hU
  exact ⟨k + 1, q ++ a, _, by go_num, hk, quo_step hk hq hc, rfl, by rw [mk_app]; rfl⟩
set_option maxHeartbeats 1000000 in
theorem refQuote_any (s : ByteArray) (hs : s.size ≤ 140737488351232) (w : World) : Calls Tryz.prog 30 #[.string s] w fun e w' => e = .returned (quoV s) ∧ ∃ n, w' = w.drewN n := by
  by_cases hlong : 200 < s.size
  · have HL := Lib.hid (quoV_long hlong)
    go_enter Tryz.func30, Tryz.ntmps30
    go_wp2_with fail
    go_returns
    exact ⟨by rw [HL.out]; rfl, 0, rfl⟩
  · go_enter Tryz.func30, Tryz.ntmps30
    go_wp2_with fail
    go_loopw [4, 5] (fun t i wr => Qt s t i ∧ ∃ n, wr = w.drewN n) (fun _ i _ => s.size - (intOf i).toNat)
    case atStart => exact ⟨⟨0, [], _, rfl, Nat.zero_le _, rfl, rfl, rfl⟩, 0, rfl⟩
    case round =>
      obtain ⟨⟨k, q, T, rfl, hk, hq, rfl, hT⟩, n, rfl⟩ := hrel
      have hql := quo_len (s := s) (k := k) (by omega) hq
      have hTl : T.size ≤ 401 := by rw [hT]; show (34 :: q).length ≤ 401; simp; omega
      have HQ := Lib.hid hq
      have HT := Lib.hid hT
      clear hq hT
      by_cases hlt : k < s.size
      · have hX := ext_one s k hlt
        rcases byte_cases s[k] with hc | hc | hc | hc | ⟨h1, h2, h3, h4, h5, h6⟩ | ⟨h1, h2, h3, h4, h5⟩ | ⟨h1, h2, h3, h4, h5⟩
        · have g10 : ((s.extract k (k + 1)).toList == [10]) = false := by rw [hX, toList_mk]; simp; rw [hc]; decide
          have g9 : ((s.extract k (k + 1)).toList == [9]) = false := by rw [hX, toList_mk]; simp; rw [hc]; decide
          have g34 : ((s.extract k (k + 1)).toList == [34]) = true := by rw [hX, toList_mk]; simp; exact hc
          have g92 : ((s.extract k (k + 1)).toList == [92]) = false := by rw [hX, toList_mk]; simp; rw [hc]; decide
          have hC := Lib.hid hc
          have HX := Lib.hid hX
          clear hc hX
          go_wp2_with fail
          go_roundw
          case rel => exact ⟨Qt.step (a := [92, 34]) hlt HQ.out (by have := hC.out; rw [quoC_q (.inl this), this]) HT.out (by rw [HX.out, hC.out]; rfl), n, rfl⟩
          case measure => simp [intOf]; omega
        · have g10 : ((s.extract k (k + 1)).toList == [10]) = false := by rw [hX, toList_mk]; simp; rw [hc]; decide
          have g9 : ((s.extract k (k + 1)).toList == [9]) = false := by rw [hX, toList_mk]; simp; rw [hc]; decide
          have g34 : ((s.extract k (k + 1)).toList == [34]) = false := by rw [hX, toList_mk]; simp; rw [hc]; decide
          have g92 : ((s.extract k (k + 1)).toList == [92]) = true := by rw [hX, toList_mk]; simp; exact hc
          have hC := Lib.hid hc
          have HX := Lib.hid hX
          clear hc hX
          go_wp2_with fail
          go_roundw
          case rel => exact ⟨Qt.step (a := [92, 92]) hlt HQ.out (by have := hC.out; rw [quoC_q (.inr this), this]) HT.out (by rw [HX.out, hC.out]; rfl), n, rfl⟩
          case measure => simp [intOf]; omega
        · have g10 : ((s.extract k (k + 1)).toList == [10]) = true := by rw [hX, toList_mk]; simp; exact hc
          have g9 : ((s.extract k (k + 1)).toList == [9]) = false := by rw [hX, toList_mk]; simp; rw [hc]; decide
          have g34 : ((s.extract k (k + 1)).toList == [34]) = false := by rw [hX, toList_mk]; simp; rw [hc]; decide
          have g92 : ((s.extract k (k + 1)).toList == [92]) = false := by rw [hX, toList_mk]; simp; rw [hc]; decide
          have hC := Lib.hid hc
          have HX := Lib.hid hX
          clear hc hX
          go_wp2_with fail
          go_roundw
          case rel => exact ⟨Qt.step (a := [92, 110]) hlt HQ.out (by have := hC.out; rw [this]; exact quoC_n) HT.out (by rfl), n, rfl⟩
          case measure => simp [intOf]; omega
        · have g10 : ((s.extract k (k + 1)).toList == [10]) = false := by rw [hX, toList_mk]; simp; rw [hc]; decide
          have g9 : ((s.extract k (k + 1)).toList == [9]) = true := by rw [hX, toList_mk]; simp; exact hc
          have g34 : ((s.extract k (k + 1)).toList == [34]) = false := by rw [hX, toList_mk]; simp; rw [hc]; decide
          have g92 : ((s.extract k (k + 1)).toList == [92]) = false := by rw [hX, toList_mk]; simp; rw [hc]; decide
          have hC := Lib.hid hc
          have HX := Lib.hid hX
          clear hc hX
          go_wp2_with fail
          go_roundw
          case rel => exact ⟨Qt.step (a := [92, 116]) hlt HQ.out (by have := hC.out; rw [this]; exact quoC_t) HT.out (by rfl), n, rfl⟩
          case measure => simp [intOf]; omega
        · have g10 : ((s.extract k (k + 1)).toList == [10]) = false := by rw [hX, toList_mk]; simp; exact h3
          have g9 : ((s.extract k (k + 1)).toList == [9]) = false := by rw [hX, toList_mk]; simp; exact h4
          have g34 : ((s.extract k (k + 1)).toList == [34]) = false := by rw [hX, toList_mk]; simp; exact h1
          have g92 : ((s.extract k (k + 1)).toList == [92]) = false := by rw [hX, toList_mk]; simp; exact h2
          have h5' : (32 : Int) ≤ (s[k].toNat : Int) := by omega
          have h6' : (s[k].toNat : Int) ≤ (126 : Int) := by omega
          have hC := Lib.hid (quoC_ok h1 h2 h5 h6)
          have HX := Lib.hid hX
          clear h1 h2 h3 h4 hX
          go_wp2_with fail
          go_roundw
          case rel => exact ⟨Qt.step (a := [s[k]]) hlt HQ.out hC.out HT.out (by rw [HX.out]), n, rfl⟩
          case measure => simp [intOf]; omega
        · have g10 : ((s.extract k (k + 1)).toList == [10]) = false := by rw [hX, toList_mk]; simp; exact h3
          have g9 : ((s.extract k (k + 1)).toList == [9]) = false := by rw [hX, toList_mk]; simp; exact h4
          have g34 : ((s.extract k (k + 1)).toList == [34]) = false := by rw [hX, toList_mk]; simp; exact h1
          have g92 : ((s.extract k (k + 1)).toList == [92]) = false := by rw [hX, toList_mk]; simp; exact h2
          have HC := Lib.hid (quoV_none hlong hlt (quoC_no h1 h2 h3 h4 (by omega)))
          clear h1 h2 h3 h4 hX
          go_wp2_with fail
          go_returns
          exact ⟨by rw [HC.out]; rfl, n, rfl⟩
        · have g10 : ((s.extract k (k + 1)).toList == [10]) = false := by rw [hX, toList_mk]; simp; exact h3
          have g9 : ((s.extract k (k + 1)).toList == [9]) = false := by rw [hX, toList_mk]; simp; exact h4
          have g34 : ((s.extract k (k + 1)).toList == [34]) = false := by rw [hX, toList_mk]; simp; exact h1
          have g92 : ((s.extract k (k + 1)).toList == [92]) = false := by rw [hX, toList_mk]; simp; exact h2
          have HC := Lib.hid (quoV_none hlong hlt (quoC_no h1 h2 h3 h4 (by omega)))
          clear h1 h2 h3 h4 hX
          go_wp2_with fail
          go_returns
          exact ⟨by rw [HC.out]; rfl, n, rfl⟩
      · have HE := Lib.hid (quoV_some hlong (quo_end (by omega) HQ.out))
        have HM := Lib.hid (show T ++ ⟨#[34]⟩ = (⟨(34 :: q ++ [34]).toArray⟩ : ByteArray) by rw [HT.out]; exact mk_app (34 :: q) [34])
        go_wp2_with fail
        go_returns
        exact ⟨by rw [HE.out, ← HM.out]; rfl, n, rfl⟩
end Go.Proofs.YtjegfimagjmpdaaGreatDoor
end
