/- 'defers.Order' of a list kept by records. Conditions: what comes in fits. -/
import Derived.Test.YtkkehbfceabhmaaPop
import Derived.Test.YtkkehbfceabhmaaStarted
set_option maxRecDepth 20000
namespace Go.Proofs.Ytkkehbfceabhmaa
open Go.ChangeShapes Go.WideShapes Go.ChangeAt Go.RowKit
def lenOfSl : Value → Nat | .slice _ n _ => n | _ => 0
theorem take_snoc {l : List CC} {k : Nat} (h : k < l.length) : l.take (k + 1) = l.take k ++ [l[k]] := List.take_succ_eq_append_getElem h
theorem drop_rev {l : List CC} {k : Nat} (h : k < l.length) : (l.drop k).reverse = (l.drop (k + 1)).reverse ++ [l[k]] := by
  rw [List.drop_eq_getElem_cons h, List.reverse_cons]
set_option maxHeartbeats 2000000 in
theorem order_f (A : Option Addr) (c : Nat) (l : List CC) (w : World) (h : (Shp.slice CC.sh).rd w (· < w.heap.size) [.slice A l.length c] l) (hf : l.length * 40 ≤ 140737488351232 ∧ ∀ y ∈ l, CC.fits y) :
    Calls Try.prog 27 #[.bool false, .slice A l.length c] w (OrdP false l w) := by
  obtain ⟨j0, hj, jz0, jz1, jz2⟩ := info_parts info_call
  have HL := Lib.hid h
  clear h
  have hf1 := hf.1
  have HF := Lib.hid hf
  clear hf
  generalize hN : l.length = N at *
  have HN := Lib.hid hN
  clear hN
  go_enter Try.func27, Try.ntmps27
  go_wp2_with fail
  go_loopw [6, 7] (fun o r wr => ∃ k : Nat, k ≤ N ∧ (∃ A' c', r = .slice A' k c') ∧ (Shp.slice CC.sh).rd wr (· < wr.heap.size) [r] (l.take k) ∧ Own CC.sh 25 wr w.heap.size (fun _ => False) o (l.drop k).reverse ∧ Below w.heap.size w wr) (fun _ r _ => lenOfSl r)
  case atStart =>
    refine ⟨N, Nat.le_refl _, ⟨_, _, rfl⟩, ?_, ?_, Below.refl _ _⟩
    · rw [List.take_of_length_le (by have := HN.out; omega)]
      exact HL.out
    · rw [List.drop_eq_nil_of_le (by have := HN.out; omega)]
      exact Own.nil
  case round =>
    obtain ⟨k, hk, ⟨A', c', rfl⟩, hrd, hown, hbel⟩ := hrel
    have HO := Lib.hid hown
    have HR := Lib.hid hrd
    clear hown hrd
    rcases Nat.eq_zero_or_pos k with hk0 | hk0
    · subst hk0
      go_wp2_with fail
      refine (defersPop_nil A' c' _).mono ?_
      rintro e w1 ⟨rfl, hb1⟩
      go_wp2_with fail
      go_returns
      refine .inl ⟨(fun h => by cases h), _, rfl, ?_, sq (sq hbel hb1) (al _)⟩
      have hd : (l.drop 0).reverse = l.reverse := by rw [List.drop_zero]
      rw [← hd]
      exact (HO.out.below (sq hb1 (al _))).read
    · obtain ⟨m, hm⟩ : ∃ m, k = m + 1 := ⟨k - 1, by omega⟩
      have hml : m < l.length := by have := HN.out; omega
      have HT := Lib.hid (take_snoc hml)
      have HD := Lib.hid (drop_rev hml)
      generalize hx : l[m] = x at HT HD
      have hxf : CC.fits x := HF.out.2 x (by rw [← hx]; exact List.getElem_mem _)
      have hlen : (l.take m).length = m := by rw [List.length_take]; omega
      have hrd2 : (Shp.slice CC.sh).rd wr (· < wr.heap.size) [.slice A' k c'] (l.take m ++ [x]) := by
        have h1 := HR.out
        rw [hm, HT.out, ← hm] at h1
        exact h1
      have hfit : k * 40 ≤ 140737488351232 ∧ ∀ y ∈ l.take m ++ [x], CC.fits y := ⟨by omega, fun y hy => by
        rcases List.mem_append.1 hy with h | h
        · exact HF.out.2 y (List.mem_of_mem_take h)
        · simp at h; subst h; exact hxf⟩
      have hpop := Lib.hid (defersPop_t A' c' m k (l.take m) x wr hlen hm hrd2 hfit)
      have HM := Lib.hid hm
      have hdl : ((l.drop k).reverse).length + 1 ≤ N := by rw [List.length_reverse, List.length_drop, HN.out]; omega
      have HLm := Lib.hid hlen
      clear hrd2 hfit hxf hlen hx hm hml HR
      go_wp2_with fail
      refine hpop.out.mono ?_
      rintro e w1 ⟨v2, A3, c3, rfl, hown2, hx2, hb1⟩
      have HO2 := Lib.hid hown2.readN
      obtain ⟨A5, c5, hv2⟩ := hown2.form
      rw [HLm.out] at hv2
      subst hv2
      have HB1 := Lib.hid hb1
      have HX2 := Lib.hid hx2
      have hs1 := hb1.size
      have HB2 := Lib.hid (fun o1 o2 => (al2 (sq hb1 (al o1)) o2 : Below wr.heap.size wr ((w1.alloc o1).alloc o2)))
      have HF2 := Lib.hid (fun o1 o2 => HO.out.fresh (HB2.out o1 o2) (CC.sh.more (CC.sh.keep (w' := (w1.alloc o1).alloc o2) hx2 fun p hp => (al2 (al o1) o2 : Below w1.heap.size w1 ((w1.alloc o1).alloc o2)).cell hp.2) fun b hb => ⟨hb.1, by have := hb.2; simp; omega⟩) (fun _ h => h.elim))
      clear hown2 hx2 hpop hb1
      go_wp2_with (at_builtin; refine wpList_append_Own (S := CC.sh) rfl _ _ 22 rfl w.heap.size 25 j0 _ 40 Try.underlying22 hj jz0 jz1 jz2 rfl (by show 0 < 3; omega) (fun _ => False) _ _ rfl (HF2.out _ _).1 _ _ 1 1 _ _ [x] rfl (Rd.one _ _ _ 3 rfl _ (by simp)) (by simp) rfl (HF2.out _ _).2 (by unfold maxLen; omega) (by omega) (by have := hbel.size; simp; omega) ?_; intro A4 c4 w4 hown4 hgrow4 _)
      refine ⟨⟨m, by have := HM.out; omega, ⟨A5, c5, rfl⟩, ?_, ?_, hbel.grown2 HO.out (HB2.out _ _) hgrow4⟩, ?_⟩
      · refine (Shp.slice CC.sh).more ((Shp.slice CC.sh).keep HO2.out fun p hp => World.cell?_of_block ?_) fun b hb => ?_
        · rw [hgrow4.block p.block (by have := hp.2; simp; omega) (fun e => by
            have h1 := (HO.out.ownlt e.symm).2
            have h2 := hp.1
            omega)]
          exact (al2 (al _) _ : Below w1.heap.size w1 _).block p.block hp.2
        · have h1 := hgrow4.size
          have h2 := hb.2
          simp at h1
          omega
      · have e : (l.drop m).reverse = (l.drop k).reverse ++ [x] := by rw [HD.out, ← HM.out]
        rw [e]
        simp only [List.length_reverse, List.length_drop] at hown4 ⊢
        exact hown4
      · show m < k
        have := HM.out
        omega
end Go.Proofs.Ytkkehbfceabhmaa
