/- The document's cutAt: the pieces of a text between a byte, in new memory. Conditions: the text is shorter than 2^42 bytes. -/
import Derived.Test.YtgjhjojbaieeaaaBase
import Derived.Handy
set_option maxRecDepth 20000
namespace Go.Proofs.Ytgjhjojbaieeaaa
open Go.ChangeShapes Go.WideShapes Go.ChangeAt Go.RowKit

/-! ### The plain law -/
/-- The pieces of a list between a byte; cur: what is gathered of the piece that is open. -/
def cutG (sep : UInt8) : List UInt8 → List UInt8 → List (List UInt8)
  | [], cur => [cur]
  | c :: r, cur => if c = sep then cur :: cutG sep r [] else cutG sep r (cur ++ [c])
theorem cutG_sep {sep : UInt8} {L : List UInt8} {k f : Nat} (hk : k < L.length) (h : L[k] = sep) :
    cutG sep (L.drop k) ((L.take k).drop f) = (L.take k).drop f :: cutG sep (L.drop (k + 1)) ((L.take (k + 1)).drop (k + 1)) := by
  rw [List.drop_eq_getElem_cons hk]
  simp only [cutG, h, if_true]
  have e : (L.take (k + 1)).drop (k + 1) = [] := List.drop_eq_nil_of_le (by simp; omega)
  rw [e]
theorem cutG_no {sep : UInt8} {L : List UInt8} {k f : Nat} (hk : k < L.length) (hf : f ≤ k) (h : L[k] ≠ sep) :
    cutG sep (L.drop k) ((L.take k).drop f) = cutG sep (L.drop (k + 1)) ((L.take (k + 1)).drop f) := by
  rw [List.drop_eq_getElem_cons hk]
  simp only [cutG, h, if_false]
  rw [List.take_succ_eq_append_getElem hk, List.drop_append_of_le_length (by simp; omega)]
theorem cutG_end {sep : UInt8} {L : List UInt8} {k : Nat} (hk : L.length ≤ k) (cur : List UInt8) : cutG sep (L.drop k) cur = [cur] := by
  rw [List.drop_eq_nil_of_le hk]; rfl
theorem extract_list (s : ByteArray) (a b : Nat) : s.extract a b = ⟨((s.data.toList.take b).drop a).toArray⟩ := by
  apply ByteArray.ext
  apply Array.ext'
  rw [ByteArray.data_extract, Array.toList_extract]
  simp [List.drop_take]
theorem get_list (s : ByteArray) (k : Nat) (h : k < s.size) : s.data.toList[k]'(by simpa using h) = s[k] := rfl

theorem info_str : (Try.prog.info? 9).map (fun i => (i.zero, i.size, i.bytes)) = some (some (.string ByteArray.empty), 1, 16) := by kernel_rfl

def strs (l : List (List UInt8)) : List Value := l.map fun x => .string ⟨x.toArray⟩
theorem strs_snoc (l : List (List UInt8)) (s : ByteArray) (a b : Nat) : strs (l ++ [(s.data.toList.take b).drop a]) = strs l ++ [.string (s.extract a b)] := by
  simp [strs, extract_list]
theorem strs_one (l : List (List UInt8)) : ∀ u ∈ strs l, u.oneCell' = true := fun u hu => by
  obtain ⟨x, _, rfl⟩ := List.mem_map.1 hu
  rfl

/-- What holds at the head of round k. -/
def CutAt (s : ByteArray) (sep : UInt8) (w : World) (wr : World) (l f i : Value) : Prop :=
  ∃ (k g c : Nat) (A : Option Addr) (ps : List (List UInt8)), i = .int .i64 k ∧ f = .int .i64 g ∧ l = .slice A ps.length c ∧ wr.ownsRow w.heap.size 9 1 l ps.length (strs ps) ∧ Below w.heap.size w wr ∧ ps.length ≤ k ∧
    (k ≤ s.size ∧ g ≤ k ∧ ps ++ cutG sep (s.data.toList.drop k) ((s.data.toList.take k).drop g) = cutG sep s.data.toList [] ∨ k = s.size + 1 ∧ ps = cutG sep s.data.toList [])

theorem CutAt.piece {s : ByteArray} {sep : UInt8} {w wr w1 : World} {k g c c1 : Nat} {A A1 : Option Addr} {ps : List (List UInt8)}
    (hown : wr.ownsRow w.heap.size 9 1 (.slice A ps.length c) ps.length (strs ps)) (hb : Below w.heap.size w wr) (hpk : ps.length ≤ k) (hks : k ≤ s.size) (hgk : g ≤ k)
    (hinv : ps ++ cutG sep (s.data.toList.drop k) ((s.data.toList.take k).drop g) = cutG sep s.data.toList []) {o : Obj}
    (hown1 : w1.ownsRow w.heap.size 9 1 (.slice A1 (ps.length + 1) c1) (ps.length + 1) (strs ps ++ [.string (s.extract g k)]))
    (hg1 : (wr.alloc o).grownBy w1 (Value.slice A ps.length c).ownBlock) (hc : k = s.size ∨ ∃ h : k < s.size, s[k] = sep) :
    CutAt s sep w w1 (.slice A1 (ps.length + 1) c1) (.int .i64 ((k : Int) + 1)) (.int .i64 ((k : Int) + 1)) := by
  refine ⟨k + 1, k + 1, c1, A1, ps ++ [(s.data.toList.take k).drop g], by simp, by simp, by simp, ?_, ?_, by simp; omega, ?_⟩
  · rw [strs_snoc, List.length_append]
    exact hown1
  · exact (hb.alloc hb.size o).grown hg1 (by have := hb.size; simp; omega) (fun q hq => (hown.lt q hq).1)
  · rcases hc with rfl | ⟨h, hs⟩
    · right
      refine ⟨rfl, ?_⟩
      rw [← hinv, cutG_end (by simp)]
    · left
      refine ⟨by omega, Nat.le_refl _, ?_⟩
      rw [← hinv, cutG_sep (k := k) (f := g) (by simpa using h) ((get_list s k h).trans hs)]
      simp
theorem CutAt.skip {s : ByteArray} {sep : UInt8} {w wr : World} {k g c : Nat} {A : Option Addr} {ps : List (List UInt8)}
    (hown : wr.ownsRow w.heap.size 9 1 (.slice A ps.length c) ps.length (strs ps)) (hb : Below w.heap.size w wr) (hpk : ps.length ≤ k) (hgk : g ≤ k)
    (hinv : ps ++ cutG sep (s.data.toList.drop k) ((s.data.toList.take k).drop g) = cutG sep s.data.toList []) (h : k < s.size) (hs : s[k] ≠ sep) :
    CutAt s sep w wr (.slice A ps.length c) (.int .i64 g) (.int .i64 ((k : Int) + 1)) := by
  refine ⟨k + 1, g, c, A, ps, by simp, rfl, rfl, hown, hb, by omega, .inl ⟨by omega, by omega, ?_⟩⟩
  rw [← hinv, cutG_no (k := k) (f := g) (by simpa using h) hgk (by rw [get_list s k h]; exact hs)]

set_option maxHeartbeats 400000 in
theorem cutAt_any (s : ByteArray) (d : Int) (sep : UInt8) (hd : Hid (d = sep.toNat)) (hs : s.size ≤ 4398046511104) (w : World) :
    Calls Try.prog 109 #[.string s, .int .u8 d] w fun e w' => ∃ A c, e = .returned (.slice A (cutG sep s.data.toList []).length c) ∧ w'.ownsRow w.heap.size 9 1 (.slice A (cutG sep s.data.toList []).length c) (cutG sep s.data.toList []).length (strs (cutG sep s.data.toList [])) ∧ Below w.heap.size w w' := by
  obtain ⟨i0, hi, hz0, hz1, hz2⟩ := info_parts info_str
  go_enter Try.func109, Try.ntmps109
  go_wp2_with fail
  go_loopw [5, 6, 7] (fun l f i wr => CutAt s sep w wr l f i) (fun _ _ i _ => s.size + 2 - (intOf i).toNat)
  case atStart => exact ⟨0, 0, 0, none, [], rfl, rfl, rfl, World.ownsRow_nil _ _ _ _, Below.refl _ _, Nat.le_refl _, .inl ⟨Nat.zero_le _, Nat.le_refl _, by simp⟩⟩
  case round =>
    obtain ⟨k, g, c, A, ps, rfl, rfl, rfl, hown, hb, hpk, hcase⟩ := hrel
    rcases hcase with ⟨hks, hgk, hinv⟩ | ⟨hk, hps⟩
    · rcases Nat.lt_or_ge k s.size with hlt | hge
      · by_cases hc : s[k] = sep
        · have HB : (((s[k]).toNat : Int) == d) = true := by rw [hd.out, hc]; simp
          have HN : ((k : Int) == (s.size : Int)) = false := by simp; omega
          have Hinv := Lib.hid hinv
          have Hc := Lib.hid (show k = s.size ∨ ∃ h : k < s.size, s[k] = sep from .inr ⟨hlt, hc⟩)
          clear hinv hd hc
          go_wp2_with ((at_builtin; refine wpList_append_rd _ rfl (.tmp 25) (.tmp 30) 81 rfl w.heap.size 9 i0 _ 1 16 Try.underlying81 hi hz0 hz1 hz2 rfl (by omega) (.slice A ps.length c) ps.length (strs ps) rfl (hown.alloc _) (wr.heap.size + 1) (some ⟨wr.heap.size, 0, none⟩) 1 1 [.string (s.extract g k)] rfl (Rd.lit1 _ _ _) (one1 rfl) (by unfold maxLen; omega) (by omega) (by have := hb.size; simp; omega) ?_; intro A1 c1 w1 hown1 hg1 hat1))
          exact ⟨CutAt.piece hown hb hpk hks hgk Hinv.out hown1 hg1 Hc.out, by simp [intOf]; omega⟩
        · have HB : (((s[k]).toNat : Int) == d) = false := by
            rw [hd.out]
            simp only [beq_eq_false_iff_ne, ne_eq, Int.natCast_inj]
            exact fun h => hc (UInt8.toNat_inj.1 h)
          have HN : ((k : Int) == (s.size : Int)) = false := by simp; omega
          have Hinv := Lib.hid hinv
          have Hc := Lib.hid hc
          clear hinv hd hc
          go_wp2_with fail
          exact ⟨CutAt.skip hown hb hpk hgk Hinv.out hlt Hc.out, by simp [intOf]; omega⟩
      · have HN : ((k : Int) == (s.size : Int)) = true := by simp; omega
        have Hinv := Lib.hid hinv
        have Hc := Lib.hid (show k = s.size ∨ ∃ h : k < s.size, s[k] = sep from .inl (by omega))
        clear hinv hd
        go_wp2_with ((at_builtin; refine wpList_append_rd _ rfl (.tmp 25) (.tmp 30) 81 rfl w.heap.size 9 i0 _ 1 16 Try.underlying81 hi hz0 hz1 hz2 rfl (by omega) (.slice A ps.length c) ps.length (strs ps) rfl (hown.alloc _) (wr.heap.size + 1) (some ⟨wr.heap.size, 0, none⟩) 1 1 [.string (s.extract g k)] rfl (Rd.lit1 _ _ _) (one1 rfl) (by unfold maxLen; omega) (by omega) (by have := hb.size; simp; omega) ?_; intro A1 c1 w1 hown1 hg1 hat1))
        exact ⟨CutAt.piece hown hb hpk hks hgk Hinv.out hown1 hg1 Hc.out, by simp [intOf]; omega⟩
    · have Hk := Lib.hid hk
      have Hps := Lib.hid hps
      have hk' : s.size < k := by omega
      clear hk hps hd
      go_wp2_with fail
      go_ret
      exact ⟨A, c, by rw [← Hps.out]; rfl, by rw [← Hps.out]; exact hown, hb⟩
theorem strs_get {W : List (List UInt8)} {k : Nat} {u : Value} (hk : k < W.length) (h : (strs W)[k]? = some u) : u = .string ⟨(W.getD k []).toArray⟩ := by
  rw [strs, List.getElem?_map, List.getElem?_eq_getElem hk] at h
  simpa [List.getD, hk] using h.symm
theorem own_kept {w w2 : World} {base : Nat} {e : TypeId} {size n : Nat} {v : Value} {xs : List Value} (h : w.ownsRow base e size v n xs) (hb : Below w.heap.size w w2) : w2.ownsRow base e size v n xs := by
  obtain ⟨h1, h2⟩ := h
  refine ⟨h1, h2.imp id ?_⟩
  rintro ⟨g, cap, cur, hv, hg, hh, r⟩
  exact ⟨g, cap, cur, hv, hg, (hb.block g (Array.getElem?_eq_some_iff.1 hh).1).trans hh, r⟩
theorem below_more {w wr w2 : World} (hb : Below w.heap.size w wr) (h2 : Below wr.heap.size wr w2) : Below w.heap.size w w2 :=
  hb.trans ⟨h2.os, h2.tape, h2.output, h2.size, fun k hk => h2.block k (by have := hb.size; omega)⟩
end Go.Proofs.Ytgjhjojbaieeaaa
