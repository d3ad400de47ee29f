/- The heap's Collect. Conditions: none. -/
import Derived.Test.YthogfcdgbodccaaHpL
set_option maxRecDepth 100000
namespace Go.Proofs.Ythogfcdgbodccaa
open Go.ChangeShapes Go.WideShapes Go.ChangeAt Go.RowKit
def remB (kp : BK → Bool) (k : Nat) (bs : List BK) : List BK := bs.filter fun b => decide (k ≤ b.at_) || kp b
def frB (kp : BK → Bool) (k : Nat) (bs : List BK) : Nat := usedB ((upB bs k).filter fun b => !kp b)
/-- What is left, and what was let go: told by what is kept. -/
def CollR (t : Int) (bs : List BK) (roots : List (Int × Int)) (r : Nat × List BK) : Prop := ∃ p : BK → Bool, (∀ b ∈ bs, p b = true ↔ Led t bs roots b.at_) ∧ r = (usedB (bs.filter fun b => !p b), bs.filter p)
theorem CollR.same {t : Int} {bs : List BK} {roots : List (Int × Int)} {r s : Nat × List BK} (h : CollR t bs roots r) (k : CollR t bs roots s) : r = s := by
  obtain ⟨p, h1, rfl⟩ := h
  obtain ⟨q, h2, rfl⟩ := k
  have e : ∀ b ∈ bs, p b = q b := fun b hb => by
    have := (h1 b hb).trans (h2 b hb).symm
    cases hp : p b <;> cases hq : q b <;> simp_all
  have e1 : bs.filter p = bs.filter q := List.filter_congr e
  have e2 : bs.filter (fun b => !p b) = bs.filter (fun b => !q b) := List.filter_congr fun b hb => by rw [e b hb]
  rw [e1, e2]
theorem usedB_app (a b : List BK) : usedB (a ++ b) = usedB a + usedB b := by
  induction a with
  | nil => simp [usedB]
  | cons x a ih => show (x.cells.length + 1) + usedB (a ++ b) = (x.cells.length + 1) + usedB a + usedB b; rw [ih]; omega
theorem usedB_filter (p : BK → Bool) (l : List BK) : usedB (l.filter p) ≤ usedB l := by
  induction l with
  | nil => exact Nat.le_refl _
  | cons x l ih =>
    rw [List.filter_cons]
    split
    · show (x.cells.length + 1) + usedB (l.filter p) ≤ (x.cells.length + 1) + usedB l; omega
    · show usedB (l.filter p) ≤ (x.cells.length + 1) + usedB l; omega
theorem rem_zero (kp : BK → Bool) (bs : List BK) : remB kp 0 bs = bs := by
  unfold remB
  exact List.filter_eq_self.2 fun b _ => by simp
theorem rem_same {kp : BK → Bool} {k : Nat} {bs : List BK} (h : ∀ b ∈ bs, b.at_ = k → kp b = true) : remB kp (k + 1) bs = remB kp k bs := by
  unfold remB
  refine List.filter_congr fun b hb => ?_
  by_cases e : b.at_ = k
  · rw [h b hb e]; simp
  · congr 1
    simp only [decide_eq_decide]
    omega
theorem rem_drop {kp : BK → Bool} {k : Nat} {bs : List BK} (h : ∀ b ∈ bs, b.at_ = k → kp b = false) : remB kp (k + 1) bs = (remB kp k bs).filter fun b => b.at_ != k := by
  unfold remB
  rw [List.filter_filter]
  refine List.filter_congr fun b hb => ?_
  by_cases e : b.at_ = k
  · rw [h b hb e, e]; simp
  · have h1 : (b.at_ != k) = true := by simpa using e
    rw [h1]
    simp only [Bool.true_and]
    congr 1
    simp only [decide_eq_decide]
    omega
theorem rem_all {kp : BK → Bool} {lo : Nat} {bs : List BK} {room : Nat} (h : FitB lo bs room) : remB kp room bs = bs.filter kp := by
  unfold remB
  refine List.filter_congr fun b hb => ?_
  have := (h.ge b hb).2
  have h3 : b.fin = b.at_ + 1 + b.cells.length := rfl
  have : decide (room ≤ b.at_) = false := by simp; omega
  rw [this]
  rfl
theorem rem_at {kp : BK → Bool} {lo : Nat} {bs : List BK} {room : Nat} (hf : FitB lo bs room) (k : Nat) : blkAt (remB kp k bs) k = blkAt bs k := by
  cases h : blkAt bs k with
  | none =>
    refine List.find?_eq_none.2 fun b hb => ?_
    exact List.find?_eq_none.1 h b ((List.mem_filter.1 hb).1)
  | some b =>
    obtain ⟨hm, he⟩ := blkAt_mem h
    have hm' : b ∈ remB kp k bs := List.mem_filter.2 ⟨hm, by simp; left; omega⟩
    have := blkAt_of (hf.filter _) hm'
    rw [he] at this
    exact this
theorem fr_none {kp : BK → Bool} {bs : List BK} {k : Nat} (h : blkAt bs k = none) : frB kp (k + 1) bs = frB kp k bs := by
  unfold frB
  rw [upB_none h]
theorem fr_some {kp : BK → Bool} {lo : Nat} {bs : List BK} {room : Nat} (hf : FitB lo bs room) {k : Nat} {b : BK} (h : blkAt bs k = some b) : frB kp (k + 1) bs = frB kp k bs + (if kp b then 0 else b.cells.length + 1) := by
  unfold frB
  rw [upB_some hf h, List.filter_append, usedB_app]
  cases hk : kp b <;> simp [hk, usedB]
theorem fr_all {kp : BK → Bool} {lo : Nat} {bs : List BK} {room : Nat} (hf : FitB lo bs room) : frB kp room bs = usedB (bs.filter fun b => !kp b) := by
  unfold frB
  rw [upB_all hf]
theorem fr_le {kp : BK → Bool} {lo : Nat} {bs : List BK} {room : Nat} (hf : FitB lo bs room) (k : Nat) : frB kp k bs ≤ room := by
  have h1 := usedB_filter (fun b => !kp b) (upB bs k)
  have h2 := usedB_filter (fun b => decide (b.at_ < k)) bs
  have h3 := usedB_le hf
  unfold frB
  unfold upB at h1 ⊢
  omega
/-- A block let go: the rows behind it. -/
theorem HPc.clr {w : World} {base P room : Nat} {bs : List BK} {cells : List (Int × Int)} {shapes : List Int} {cv : Value} {Z S n1 n2 k : Nat} {b : BK} (h : HPc w base P room bs cells shapes cv (.slice (some ⟨Z, 0, none⟩) room n1) (.slice (some ⟨S, 0, none⟩) room n2)) (hb : blkAt bs k = some b) :
    HPc ((w.setCell ⟨Z, k, none⟩ (.int .i64 0)).setCell ⟨S, k, none⟩ (.int .i64 0)) base P room (bs.filter fun b => b.at_ != k) cells (shapes.set k 0) cv (.slice (some ⟨Z, 0, none⟩) room n1) (.slice (some ⟨S, 0, none⟩) room n2) := by
  obtain ⟨hm, he⟩ := blkAt_mem hb
  have hPZ : P ≠ Z := fun e => own_neP h.siz h.box (by decide) (by rw [e]; rfl)
  have hPS : P ≠ S := fun e => own_neP h.sha h.box (by decide) (by rw [e]; rfl)
  have hZS : Z ≠ S := fun e => h.dis Z rfl (by rw [e]; rfl)
  have hsz := szL_rm (fun b => b.at_ != k) k (fun b _ => rfl) h.fit ⟨b, hm, he⟩
  rw [Nat.sub_zero] at hsz
  refine ⟨h.hP, ?_, ?_, ?_, ?_, h.dis, h.lc, by rw [List.length_set]; exact h.ls, h.fit.filter _, h.row.sub (fun b hb => (List.mem_filter.1 hb).1) fun b hb => ?_⟩
  · exact (Below.heap_setCell _ _ _ _ hPS).trans ((Below.heap_setCell _ _ _ _ hPZ).trans h.box)
  · exact own_stay (own_stay h.cel fun b hb => Below.heap_setCell _ _ _ _ (fun e => own_ne h.cel h.siz (by decide) b hb (by rw [e]; rfl))) fun b hb => Below.heap_setCell _ _ _ _ (fun e => own_ne h.cel h.sha (by decide) b hb (by rw [e]; rfl))
  · have := own_setC h.siz (.int .i64 0) (k := k)
    rw [← List.map_set, ← hsz] at this
    exact own_stay this fun b hb => Below.heap_setCell _ _ _ _ (fun e => by injection hb with hb; exact hZS (hb.trans e))
  · have := own_setC (own_stay h.sha fun b hb => Below.heap_setCell w ⟨Z, k, none⟩ (.int .i64 0) _ (fun e => by injection hb with hb; exact hZS (e.symm.trans hb.symm))) (.int .i64 0) (k := k)
    rw [← List.map_set] at this
    exact this
  · have hne := (List.mem_filter.1 hb).2
    rw [List.getElem?_set_ne (by simp at hne; omega)]
/-- Collect's state at the loop's head. -/
structure ClI (M : Nat → Prop) (w wr : World) (P room : Nat) (bs : List BK) (l : List (Int × Value)) (cells : List (Int × Int)) (cv zv sv : Value) (k : Nat) : Prop where
  hp : ∃ shapes, HPc wr 0 P room (remB (fun b => (getM l (b.at_ : Int)).isSome) k bs) cells shapes cv zv sv
  map : MapIs wr w.heap.size l
  ke : Ke M w wr
  le : k ≤ room
set_option maxHeartbeats 8000000 in
theorem collect_any {w : World} {M : Nat → Prop} {P room : Nat} {bs : List BK} (h : HM w M P room bs) (h63 : room ≤ 4000) (A : Option Addr) (n c : Nat) (roots : List (Int × Int)) (hr : Rd w w.heap.size 2 A n (ceL roots)) (hn : n = roots.length) (hn2 : n * 16 ≤ 140737488351232) :
    Calls Try.prog 26 #[.pointer (some ⟨P, 0, none⟩), .slice A n c] w fun e w' => ∃ r, CollR 6 bs roots r ∧ e = .returned (.int .i64 (r.1 : Int)) ∧ HM w' M P room r.2 ∧ Ke M w w' := by
  obtain ⟨cells, shapes, cv, zv, sv, h, hm⟩ := h
  have HC := Lib.hid h
  have HMM := Lib.hid hm
  have HF := Lib.hid h.fit
  have hP : P < w.heap.size := (Array.getElem?_eq_some_iff.1 h.box).1
  have HMK := Lib.hid (mark_any h h63 A n c roots hr hn hn2)
  obtain ⟨A0, n0, rfl⟩ := own_form h.cel
  obtain ⟨A1, n1, rfl⟩ := own_form h.siz
  obtain ⟨A2, n2, rfl⟩ := own_form h.sha
  clear h hr hn hn2 hm
  go_enter Try.func26, Try.ntmps26
  go_wp2_with fail
  refine Calls.mono HMK.out ?_
  rintro e w1 ⟨l, rfl, hsm, hsl, hb1⟩
  obtain ⟨kp, hkp⟩ : ∃ kp : BK → Bool, kp = fun b => (getM l (b.at_ : Int)).isSome := ⟨_, rfl⟩
  have HKP := Lib.hid hkp
  have HSL := Lib.hid (show ∀ b ∈ bs, kp b = true ↔ Led 6 bs roots b.at_ from fun b _ => by rw [hkp]; exact hsl b.at_)
  have HSM := Lib.hid hsm
  have HI0 := Lib.hid (show ClI M w w1 P room bs l cells (.slice A0 room n0) (.slice A1 room n1) (.slice A2 room n2) 0 from ⟨⟨shapes, by rw [rem_zero]; exact HC.out.below hb1⟩, hsm.map, Ke.of hb1, Nat.zero_le _⟩)
  clear hb1 hsm hsl HMK hkp
  go_wp2_with fail
  go_loopw [6, 7] (fun s v wr => ∃ (k : Nat), s = .int .i64 (frB kp k bs : Int) ∧ v = .int .i64 (k : Int) ∧ Hid (ClI M w wr P room bs l cells (.slice A0 room n0) (.slice A1 room n1) (.slice A2 room n2) k)) (fun _ v _ => room - (intOf v).toNat)
  case atStart => exact ⟨0, by simp [frB, upB_zero, usedB], rfl, HI0⟩
  case round =>
    obtain ⟨k, rfl, rfl, HI⟩ := hrel
    obtain ⟨shp, hc⟩ := HI.out.hp
    rw [← HKP.out] at hc
    obtain ⟨d0, d1, d2⟩ := hc.cell0
    have HCK := Lib.hid hc
    by_cases hlt : (k : Int) < (room : Int)
    · have hkr : k < room := by omega
      obtain ⟨Z, n1', e1, d3⟩ := hc.size hkr
      injection e1 with e1 _ e1'
      subst e1 e1'
      have HR2 := Lib.hid (rem_at (kp := kp) HF.out k)
      rw [HR2.out] at d3
      cases hv : blkAt bs k with
      | none =>
        rw [hv] at d3
        simp only at d3
        have HS := Lib.hid (fr_none (kp := kp) hv)
        have HI2 := Lib.hid (show ClI M w wr P room bs l cells (.slice A0 room n0) (.slice (some ⟨Z, 0, none⟩) room n1) (.slice A2 room n2) (k + 1) from ⟨⟨shp, by
          rw [← HKP.out, rem_same (fun b hb e => by
            have := blkAt_of HF.out hb
            rw [e, hv] at this
            cases this)]
          exact HCK.out⟩, HI.out.map, HI.out.ke, by omega⟩)
        clear hv hc
        go_wp2_with fail
        go_roundw
        case rel => exact ⟨k + 1, by rw [HS.out], by simp, HI2⟩
        case measure => simp [intOf]; omega
      | some b => 
        rw [hv] at d3
        simp only at d3
        have HS := Lib.hid (fr_some (kp := kp) HF.out hv)
        have HV := Lib.hid hv
        obtain ⟨hbm, hbe⟩ := blkAt_mem hv
        have hv0 : (((b.cells.length + 1 : Nat) : Int) == 0) = false := by simp; omega
        have HBV := Lib.hid (show ∀ b' ∈ bs, b'.at_ = k → b' = b from fun b' hb' e => by
          have := blkAt_of HF.out hb'
          rw [e, HV.out] at this
          injection this with this
          exact this.symm)
        have hkb : kp b = (getM l (k : Int)).isSome := by rw [HKP.out, ← hbe]
        have HKB := Lib.hid hkb
        have hfl := fr_le (kp := kp) HF.out (k + 1)
        obtain ⟨S, n2', e2, d4, hSl, _⟩ := hc.shape (a := k) (b := b) (HR2.out.trans HV.out)
        injection e2 with e2 _ e2'
        subst e2 e2'
        have hf3 := own_frozen hc.siz k
        have hf4 := own_frozen hc.sha k
        have hZP : Z ≠ P := fun e => own_neP hc.siz hc.box (by decide) (by rw [e]; rfl)
        have hSP : S ≠ P := fun e => own_neP hc.sha hc.box (by decide) (by rw [e]; rfl)
        have hZS : Z ≠ S := fun e => hc.dis Z rfl (by rw [e]; rfl)
        have hmZ : w.heap.size ≠ Z := map_ne_own HI.out.map hc.siz
        have hmS : w.heap.size ≠ S := map_ne_own HI.out.map hc.sha
        have hPZ : P ≠ Z := fun e => hZP e.symm
        have hPS : P ≠ S := fun e => hSP e.symm
        have hSZ : S ≠ Z := fun e => hZS e.symm
        have HKE := Lib.hid (HI.out.ke.alloc (.cells #[] 77))
        have HM3 := Lib.hid (HI.out.map.keepM (w' := wr.alloc (.cells #[] 77)) (Lib.alloc_old _ _ _ HI.out.map.lt))
        have HC3 := Lib.hid (hc.below (al (.cells #[] 77)))
        have hPl : P < wr.heap.size := (Array.getElem?_eq_some_iff.1 hc.box).1
        have hZl : Z < wr.heap.size := (hc.siz.lt Z rfl).2
        clear hv hc hbm hbe hkb
        cases hg : getM l (k : Int) with
        | none =>
          have hlk : (Instr.lookup 75 (.map (some w.heap.size)) (.int .i64 (k : Int)) true).run Try.prog wr = .ok (.tuple #[.agg #[], .bool false]) wr := HI.out.map.lookup_no Try.underlying75 Try.underlying3 (by kernel_rfl) hg
          have hkf : kp b = false := by rw [HKB.out, hg]; rfl
          have HS2 := Lib.hid (show frB kp (k + 1) bs = frB kp k bs + (b.cells.length + 1) by rw [HS.out, hkf]; rfl)
          rw [HS2.out] at hfl
          have HDR := Lib.hid (show remB kp (k + 1) bs = (remB kp k bs).filter fun b => b.at_ != k from rem_drop fun b' hb' e => by rw [HBV.out b' hb' e]; exact hkf)
          have HC4 := Lib.hid ((HCK.out.clr (HR2.out.trans HV.out)).below (al (.cells #[] 77)))
          rw [← HDR.out] at HC4
          have HK4 := Lib.hid (((HI.out.ke.set k (.int .i64 0) (.inl (HMM.out Z (.inr (.inr (.inl rfl)))))).set k (.int .i64 0) (.inl (HMM.out S (.inr (.inr (.inr rfl)))))).alloc (.cells #[] 77))
          have HM4 := Lib.hid (show MapIs (((wr.setCell ⟨Z, k, none⟩ (.int .i64 0)).setCell ⟨S, k, none⟩ (.int .i64 0)).alloc (.cells #[] 77)) w.heap.size l from ((HI.out.map.keepM (Below.heap_setCell _ _ _ _ hmZ)).keepM (Below.heap_setCell _ _ _ _ hmS)).keepM (Lib.alloc_old _ _ _ (by simpa using HI.out.map.lt)))
          have hw1 : IntKind.i64.wrap ((frB kp k bs : Int) + ((b.cells.length + 1 : Nat) : Int)) = ((frB kp k bs + (b.cells.length + 1) : Nat) : Int) := IntWalk.i64_in _ (by omega)
          clear hg hkf hfl
          generalize frB kp k bs + (b.cells.length + 1) = fr2 at hw1 HS2
          generalize frB kp k bs = fr1 at *
          generalize ((b.cells.length + 1 : Nat) : Int) = v at hw1 d3 hv0
          go_wp2_with fail
          go_region_held3 (fun w' => w'.cell? ⟨P, 1, none⟩ = some (.slice (some ⟨Z, 0, none⟩) room n1) ∧ w'.cell? ⟨P, 2, none⟩ = some (.slice (some ⟨S, 0, none⟩) room n2)) (go_keep) (fail)
          have HI2 := Lib.hid (show ClI M w (((wr.setCell ⟨Z, k, none⟩ (.int .i64 0)).setCell ⟨S, k, none⟩ (.int .i64 0)).alloc (.cells #[] 77)).drew P room bs l cells (.slice A0 room n0) (.slice (some ⟨Z, 0, none⟩) room n1) (.slice (some ⟨S, 0, none⟩) room n2) (k + 1) from ⟨⟨_, by rw [← HKP.out]; exact HC4.out.below (Below.refl _ _).drew⟩, HM4.out, HK4.out.drew, by omega⟩)
          clear HC4 HM4 HK4
          generalize (((wr.setCell ⟨Z, k, none⟩ (.int .i64 0)).setCell ⟨S, k, none⟩ (.int .i64 0)).alloc (.cells #[] 77)).drew = w5 at *
          go_wp2_with fail
          go_roundw
          case rel => exact ⟨k + 1, by rw [HS2.out], by simp, HI2⟩
          case measure => simp [intOf]; omega
        | some u =>
          have hun := HSM.out.unit _ _ hg
          subst hun
          have hlk : (Instr.lookup 75 (.map (some w.heap.size)) (.int .i64 (k : Int)) true).run Try.prog wr = .ok (.tuple #[.agg #[], .bool true]) wr := HI.out.map.lookup_ok Try.underlying75 Try.underlying3 hg
          have hkt : kp b = true := by rw [HKB.out, hg]; rfl
          have HS2 := Lib.hid (show frB kp (k + 1) bs = frB kp k bs by rw [HS.out, hkt]; rfl)
          have HI2 := Lib.hid (show ClI M w (wr.alloc (.cells #[] 77)) P room bs l cells (.slice A0 room n0) (.slice (some ⟨Z, 0, none⟩) room n1) (.slice (some ⟨S, 0, none⟩) room n2) (k + 1) from ⟨⟨shp, by
            rw [← HKP.out, rem_same (fun b' hb' e => by rw [HBV.out b' hb' e]; exact hkt)]
            exact HC3.out⟩, HM3.out, HKE.out, by omega⟩)
          clear hg hkt hfl
          generalize ((b.cells.length + 1 : Nat) : Int) = v at d3 hv0
          go_wp2_with fail
          go_roundw
          case rel => exact ⟨k + 1, by rw [HS2.out], by simp, HI2⟩
          case measure => simp [intOf]; omega
    · have HE := Lib.hid (show k = room by have := HI.out.le; omega)
      go_wp2_with fail
      go_ret
      refine ⟨usedB (bs.filter fun b => !kp b), bs.filter kp, ⟨kp, HSL.out, rfl⟩, by rw [HE.out, fr_all HF.out]; rfl, ?_, HI.out.ke⟩
      obtain ⟨shp, hc⟩ := HI.out.hp
      rw [← HKP.out, HE.out, rem_all HF.out] at hc
      exact ⟨_, _, _, _, _, hc, HMM.out⟩
end Go.Proofs.Ythogfcdgbodccaa
