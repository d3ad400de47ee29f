/- 'pieces' of the document: the pieces of a function's type. Conditions: none. -/
import Derived.Test.YtmbljapjecclaabTyPlain
import Derived.Test.YtmbljapjecclaabTyNil
import Derived.Test.YtmbljapjecclaabCut
set_option maxRecDepth 20000
namespace Go.Proofs.Ytmbljapjecclaab
open Go.ChangeShapes Go.WideShapes Go.ChangeAt Go.RowKit
/-- What 'pieces' leaves. -/
def PieP (o : Option (List ByteArray)) (w : World) (e : Ending) (w' : World) : Prop :=
  (∃ l A c, o = some l ∧ e = .returned (.tuple #[.slice A l.length c, .bool true]) ∧ w'.ownsRow w.heap.size 9 1 (.slice A l.length c) l.length (l.map Value.string) ∧ Below w.heap.size w w') ∨ (o = none ∧ e = .returned (.tuple #[.slice none 0 0, .bool false]) ∧ Below w.heap.size w w')
def PieI (s : ByteArray) (l : List ByteArray) (w wr : World) (lv av : Value) : Prop :=
  ∃ (ps : List ByteArray) (k : Nat) (A : Option Addr) (c : Nat), lv = .slice A ps.length c ∧ av = .int .i64 (k : Int) ∧ wr.ownsRow w.heap.size 9 1 (.slice A ps.length c) ps.length (ps.map Value.string) ∧ Below w.heap.size w wr ∧ Hid (PcI s l ps k)
theorem teV_at {f k p : Nat} {s : ByteArray} (h : tyAt f s k = some p) : teV (ty f (s.extract k s.size).data.toList) = .int .i64 ((p - k : Nat) : Int) := by
  rw [tyAt_ext, Option.map_eq_some_iff] at h
  obtain ⟨n, h1, h2⟩ := h
  rw [teV_some h1, ← h2, Nat.add_sub_cancel]
theorem own_kept {w w2 : World} {base : Nat} {e : TypeId} {size n : Nat} {v : Value} {xs : List Value} (h : w.ownsRow base e size v n xs) (hb : Below w.heap.size w w2) : w2.ownsRow base e size v n xs := by
  obtain ⟨h1, h2⟩ := h
  refine ⟨h1, h2.imp id ?_⟩
  rintro ⟨g, cap, cur, hv, hg, hh, r⟩
  exact ⟨g, cap, cur, hv, hg, (hb.block g (Array.getElem?_eq_some_iff.1 hh).1).trans hh, r⟩
theorem below_more {w wr w2 : World} (hb : Below w.heap.size w wr) (h2 : Below wr.heap.size wr w2) : Below w.heap.size w w2 :=
  hb.trans ⟨h2.os, h2.tape, h2.output, h2.size, fun k hk => h2.block k (by have := hb.size; omega)⟩
theorem PieI.piece {s x : ByteArray} {l ps : List ByteArray} {w wr w1 : World} {A A1 : Option Addr} {c c1 p : Nat} {o : Obj} (hown : wr.ownsRow w.heap.size 9 1 (.slice A ps.length c) ps.length (ps.map Value.string)) (hb : Below w.heap.size w wr)
    (hown1 : w1.ownsRow w.heap.size 9 1 (.slice A1 (ps.length + 1) c1) (ps.length + 1) (ps.map Value.string ++ [.string x])) (hg1 : (wr.alloc o).grownBy w1 (Value.slice A ps.length c).ownBlock) (hi : Hid (PcI s l (ps ++ [x]) p)) :
    PieI s l w w1 (.slice A1 (ps.length + 1) c1) (.int .i64 (p : Int)) := by
  refine ⟨ps ++ [x], p, A1, c1, by simp, rfl, ?_, (hb.alloc hb.size o).grown hg1 (by have := hb.size; simp; omega) (fun q hq => (hown.lt q hq).1), hi⟩
  rw [List.length_append, List.map_append]
  exact hown1
set_option maxHeartbeats 1000000 in
theorem pieces_any (s : ByteArray) (w : World) (hs : s.size ≤ 140737488351232) : Calls Try.prog 57 #[.string s] w (PieP (ptO s) w) := by
  cases hv : tyOk s with
  | false =>
    have HV := Lib.hid hv
    clear hv
    go_enter Try.func57, Try.ntmps57
    go_wp2_with fail
    refine (refValid_any s _ hs).mono ?_
    rintro e w1 ⟨rfl, hb⟩
    rw [HV.out]
    go_wp2_with fail
    go_returns
    exact .inr ⟨ptO_bad HV.out, rfl, hb⟩
  | true =>
    have HV := Lib.hid hv
    have hl : s.size ≤ 100 := by
      unfold tyOk at hv
      rw [Bool.and_eq_true, decide_eq_true_eq] at hv
      exact hv.1
    have h0 : 0 < s.size := by
      unfold tyOk at hv
      rw [Bool.and_eq_true, decide_eq_true_eq, decide_eq_true_eq] at hv
      exact (tyAt_le (Nat.zero_le _) hv.2).1
    clear hv
    by_cases hc : s[0] = 102
    · obtain ⟨l, hp, hi⟩ := ptO_start HV.out h0 hc
      have HP := Lib.hid hp
      have HI := Lib.hid hi
      have HB : (((s[0]).toNat : Int) == 102) = true := by rw [hc]; rfl
      have HB2 : (((s[0]).toNat : Int) != 102) = false := by rw [hc]; rfl
      clear hp hi hc
      obtain ⟨i0, ii, hz0, hz1, hz2⟩ := info_parts info_str
      go_enter Try.func57, Try.ntmps57
      go_wp2_with fail
      refine (refValid_any s _ hs).mono ?_
      rintro e w1 ⟨rfl, hb⟩
      rw [HV.out]
      clear HV
      go_wp2_with fail
      go_loopw [4, 5, 6] (fun lv av _ wr => PieI s l w wr lv av) (fun _ av _ _ => s.size - (intOf av).toNat)
      case atStart => exact ⟨[], 5, none, 0, rfl, rfl, World.ownsRow_nil _ _ _ _, hb, HI⟩
      case round =>
        obtain ⟨ps, k, A, c, rfl, rfl, hown, hbw, HQ⟩ := hrel
        have hlt : k < s.size := HQ.out.lt
        have hps : ps.length ≤ 4 := HQ.out.2.2.1
        by_cases hk : s[k] = 41
        · have HK : (((s[k]).toNat : Int) == 41) = true := by rw [hk]; rfl
          have HE := Lib.hid (HQ.out.close hk)
          clear hk
          go_wp2_with ((at_builtin; refine wpList_append_rd _ rfl (.tmp 41) (.tmp 46) 23 rfl w.heap.size 9 i0 _ 1 16 Try.underlying23 ii hz0 hz1 hz2 rfl (by omega) (.slice A ps.length c) ps.length (ps.map Value.string) rfl (hown.alloc _) (wr.heap.size + 1) (some ⟨wr.heap.size, 0, none⟩) 1 1 [.string (s.extract (k + 1) s.size)] rfl (Rd.lit1 _ _ _) (one1 rfl) (by unfold maxLen; omega) (by omega) (by have := hbw.size; simp; omega) ?_; intro A1 c1 w2 hown1 hg1 hat1))
          go_returns
          refine .inl ⟨l, A1, c1, HP.out, ?_, ?_, (hbw.alloc hbw.size _).grown hg1 (by have := hbw.size; simp; omega) (fun q hq => (hown.lt q hq).1)⟩
          · rw [HE.out, List.length_append]; rfl
          · rw [HE.out, List.length_append, List.map_append]; exact hown1
        · have HK : (((s[k]).toNat : Int) == 41) = false := by
            simp only [beq_eq_false_iff_ne, ne_eq]
            exact fun h => hk (UInt8.toNat_inj.1 (by simpa using Int.ofNat.inj h))
          obtain ⟨k', p, hk', ht, hi', hkp⟩ := HQ.out.next hk
          have hps2 := hi'.2.1
          have HI2 := Lib.hid hi'
          clear hi' hk
          by_cases hm : s[k] = 44
          · have HM : (((s[k]).toNat : Int) == 44) = true := by rw [hm]; rfl
            rw [if_pos hm] at hk'
            subst hk'
            have hsum : (k : Int) + 1 + ((p - (k + 1) : Nat) : Int) = (p : Int) := by omega
            have HT := Lib.hid (teV_at ht)
            clear ht hm
            go_wp2_with fail
            refine (typeEnd_all s.size _ _ (by rw [ext_len (by omega)]; have := HQ.out.2.2.2; omega) (by rw [ext_len (by omega)]; omega)).mono ?_
            rintro e wt ⟨rfl, hbt⟩
            rw [HT.out]
            replace hown := own_kept hown hbt
            replace hbw := below_more hbw hbt
            clear hbt
            go_wp2_with ((at_builtin; refine wpList_append_rd _ rfl (.tmp 29) (.tmp 36) 23 rfl w.heap.size 9 i0 _ 1 16 Try.underlying23 ii hz0 hz1 hz2 rfl (by omega) (.slice A ps.length c) ps.length (ps.map Value.string) rfl (hown.alloc _) (wt.heap.size + 1) (some ⟨wt.heap.size, 0, none⟩) 1 1 [.string (s.extract (k + 1) p)] rfl (Rd.lit1 _ _ _) (one1 rfl) (by unfold maxLen; omega) (by omega) (by have := hbw.size; simp; omega) ?_; intro A1 c1 w2 hown1 hg1 hat1))
            go_roundw
            case rel => exact PieI.piece hown hbw hown1 hg1 HI2
            case measure => simp [intOf]; omega
          · have HM : (((s[k]).toNat : Int) == 44) = false := by
              simp only [beq_eq_false_iff_ne, ne_eq]
              exact fun h => hm (UInt8.toNat_inj.1 (by simpa using Int.ofNat.inj h))
            rw [if_neg hm] at hk'
            subst hk'
            have hsum : (k' : Int) + ((p - k' : Nat) : Int) = (p : Int) := by omega
            have HT := Lib.hid (teV_at ht)
            clear ht hm
            go_wp2_with fail
            refine (typeEnd_all s.size _ _ (by rw [ext_len (by omega)]; have := HQ.out.2.2.2; omega) (by rw [ext_len (by omega)]; omega)).mono ?_
            rintro e wt ⟨rfl, hbt⟩
            rw [HT.out]
            replace hown := own_kept hown hbt
            replace hbw := below_more hbw hbt
            clear hbt
            go_wp2_with ((at_builtin; refine wpList_append_rd _ rfl (.tmp 29) (.tmp 36) 23 rfl w.heap.size 9 i0 _ 1 16 Try.underlying23 ii hz0 hz1 hz2 rfl (by omega) (.slice A ps.length c) ps.length (ps.map Value.string) rfl (hown.alloc _) (wt.heap.size + 1) (some ⟨wt.heap.size, 0, none⟩) 1 1 [.string (s.extract k' p)] rfl (Rd.lit1 _ _ _) (one1 rfl) (by unfold maxLen; omega) (by omega) (by have := hbw.size; simp; omega) ?_; intro A1 c1 w2 hown1 hg1 hat1))
            go_roundw
            case rel => exact PieI.piece hown hbw hown1 hg1 HI2
            case measure => simp [intOf]; omega
    · have HB : (((s[0]).toNat : Int) == 102) = false := by
        simp only [beq_eq_false_iff_ne, ne_eq]
        exact fun h => hc (UInt8.toNat_inj.1 (by simpa using Int.ofNat.inj h))
      have HO := Lib.hid (ptO_other h0 hc)
      clear hc
      go_enter Try.func57, Try.ntmps57
      go_wp2_with fail
      refine (refValid_any s _ hs).mono ?_
      rintro e w1 ⟨rfl, hb⟩
      rw [HV.out]
      go_wp2_with fail
      go_returns
      exact .inr ⟨HO.out, rfl, hb⟩
end Go.Proofs.Ytmbljapjecclaab
