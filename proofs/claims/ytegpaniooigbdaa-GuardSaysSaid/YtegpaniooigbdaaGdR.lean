/- 'guard.targets', 'guard.right'. Conditions: the function fits what comes in. -/
import Derived.Test.YtegpaniooigbdaaGdP
import Derived.Test.YtegpaniooigbdaaCdV
set_option maxRecDepth 100000
namespace Go.Proofs.Ytegpaniooigbdaa
open Go.ChangeShapes Go.WideShapes Go.ChangeAt Go.RowKit
theorem goals_none {l : List II} {t : Int} (h : tgtIn l t = false) : getM (goalsM l) t = none := by rw [goals_get, h]; rfl
theorem goals_some {l : List II} {t : Int} (h : tgtIn l t = true) : getM (goalsM l) t = some unitV := by rw [goals_get, h]; rfl
section
variable (nm : ByteArray) (pa sl ca : Int) (IA : Option Addr) (n ic : Nat) (l : List II)
set_option maxHeartbeats 2000000 in
theorem targets_any (B : Nat) (w : World) (hB : B ≤ w.heap.size) (hn : n = l.length) (hl : n ≤ 20000) (ess : List (List Value)) (hr : RdM w (· < B) II.sh.size IA n ess.flatten) (ha : II.sh.all w (· < B) ess l) :
    Calls Try.prog 89 #[.agg #[.string nm, .int .i64 pa, .int .i64 sl, .int .i64 ca, .slice IA n ic]] w fun e w' => ∃ b, e = .returned (.map (some b)) ∧ MapIs w' b (goalsM l) ∧ Below w.heap.size w w' := by
  have HN := Lib.hid hn
  have HR := Lib.hid hr
  have HA := Lib.hid ha
  have hub : ∀ w, (Instr.build 172 #[]).run Try.prog w = .ok unitV w := fun w => by kernel_rfl
  clear hn hr ha
  have hmm := @run_makeMap Try.prog
  go_enter Try.func89, Try.ntmps89
  go_wp2_with fail
  generalize hw0 : (w.alloc (.cells #[.string nm, .int .i64 pa, .int .i64 sl, .int .i64 ca, .slice IA n ic] 130)).alloc (.map #[] 0) = w0
  have HB0 := Lib.hid (show Below w.heap.size w w0 by subst hw0; exact sq (al _) (al _))
  have HM0 := Lib.hid (show MapIs w0 (w.heap.size + 1) [] by
    subst hw0
    have := MapIs.made (w.alloc (.cells #[.string nm, .int .i64 pa, .int .i64 sl, .int .i64 ca, .slice IA n ic] 130))
    simpa using this)
  clear hw0
  go_loopw [12] (fun i wr => ∃ k : Nat, i = .int .i64 (k : Int) ∧ k ≤ n ∧ MapIs wr (w.heap.size + 1) (goalsM (l.take k)) ∧ Below w.heap.size w wr) (fun i _ => n - (intOf i).toNat)
  case atStart => exact ⟨0, rfl, by omega, HM0.out, HB0.out⟩
  case round =>
    obtain ⟨k, rfl, hk, hm, hbel⟩ := hrel
    have HM := Lib.hid hm
    have HBE := Lib.hid hbel
    clear hm hbel
    by_cases hlt : k < n
    · have hkl : k < l.length := by have := HN.out; omega
      have hx := List.getElem?_eq_getElem hkl
      obtain ⟨ib, ioff, rfl, hib, e0, e1, e2, e3, e4, e5⟩ := ins_at (HR.out.keep (w' := wr) fun p hp => HBE.out.cell (Nat.lt_of_lt_of_le hp hB)) (HA.out.keep (w' := wr) fun p hp => HBE.out.cell (Nat.lt_of_lt_of_le hp hB)) HN.out hx
      have hibl : ib < wr.heap.size := Nat.lt_of_lt_of_le (Nat.lt_of_lt_of_le hib hB) HBE.out.size
      have HTK := Lib.hid (show l.take (k + 1) = l.take k ++ [l[k]] by rw [List.take_succ_eq_append_getElem hkl])
      generalize l[k] = x at *
      obtain ⟨x0, x1, x2, x3, x4, x5⟩ := x
      simp only at e0 e1 e2 e3 e4 e5
      have hlti : (k : Int) < (n : Int) := by omega
      clear hx hkl hib
      go_wp2_with fail
      refine (guardTarget_any x0 x1 x2 x3 x4 x5 _).mono ?_
      rintro e w3 ⟨rfl, hb3⟩
      have HB3 := Lib.hid (sq (al _) hb3)
      have HM3 := Lib.hid (HM.out.below HB3.out HM.out.lt)
      have HGS := Lib.hid (goalsM_snoc (l.take k) ⟨x0, x1, x2, x3, x4, x5⟩)
      rw [← HTK.out] at HGS
      clear hb3 e0 e1 e2 e3 e4 e5
      cases hb : tgtB x0 with
      | false =>
        simp only [hb] at HGS
        have HMN := Lib.hid (show MapIs w3 (w.heap.size + 1) (goalsM (l.take (k + 1))) by rw [HGS.out]; exact HM3.out)
        clear hb HGS
        generalize tgtN x0 x1 x2 = tn at *
        go_wp2_with fail
        go_roundw
        case rel => exact ⟨k + 1, by go_num, by omega, HMN.out, HBE.out.trans (HB3.out.mono HBE.out.size)⟩
        case measure => simp [intOf]; omega
      | true =>
        simp only [hb, if_true] at HGS
        clear hb
        generalize tgtN x0 x1 x2 = tn at *
        go_wp2_with (at_mapUpdate; refine wpList_update_i rfl _ _ _ 156 rfl 3 172 .i64 Try.underlying156 Try.underlying3 (w.heap.size + 1) _ rfl HM3.out tn unitV rfl rfl ?_; intro w5 hm5 hg5)
        go_roundw
        case rel => exact ⟨k + 1, by go_num, by omega, by rw [HGS.out]; exact hm5, (HBE.out.trans (HB3.out.mono HBE.out.size)).grown hg5 (Nat.le_trans HBE.out.size HB3.out.size) (fun q hq => by injection hq with hq; omega)⟩
        case measure => simp [intOf]; omega
    · obtain rfl : k = n := by omega
      have HF := Lib.hid (show l.take k = l by rw [HN.out]; exact List.take_length)
      rw [HF.out] at HM
      go_wp2_with fail
      go_ret
      exact ⟨_, rfl, HM.out, HBE.out⟩
end
end Go.Proofs.Ytegpaniooigbdaa
