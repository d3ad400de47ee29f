/- The document's 'insWrong'. Printed by gen_cdq.py. Conditions: the numbers' ranges. -/
import Derived.Test.YtjegfimagjmpdaaGreatDoorCdR
import Derived.Test.YtjegfimagjmpdaaGreatDoorBase
import Derived.StillTailTactics
set_option maxRecDepth 100000
namespace Go.Proofs.YtjegfimagjmpdaaGreatDoor
open Go.ChangeShapes Go.WideShapes Go.ChangeAt Go.RowKit
/-- A slice of texts without its first one. -/
theorem tail_slice {w : World} {B n c : Nat} {A : Option Addr} {xs : List Value} (h1 : 1 ≤ n) (hc : n ≤ c) (hr : Rd w B 1 A n xs) : ∃ A1 kn kc, (∀ w, (Instr.slice 23 (.slice A n c) (some (.int .i64 1)) none none).run Tryz.prog w = .ok (.slice A1 kn kc) w) ∧ Rd w B 1 A1 kn xs.tail ∧ kn + 1 = n := by
  have hs : ∀ w, (sizeOf (Tryz.prog.elem 23)).run Tryz.prog w = .ok 1 w := fun w => by kernel_rfl
  refine ⟨if c = 1 then A else A.map (·.add 1), n - 1, c - 1, fun w => ?_, ?_, by omega⟩
  · rw [run_slice_l w 23 A n c Tryz.underlying23 .i64 1 (by omega) (by omega), hs]
    simp [Result.andThen, sliced]
  · refine ⟨by rw [List.length_tail, hr.1]; omega, fun hn => ?_⟩
    obtain ⟨b, off, rfl, hb, hcell⟩ := hr.2 (by omega)
    rw [if_neg (by omega)]
    refine ⟨b, off + 1, by simp [Addr.add], hb, fun j u hu => ?_⟩
    rw [List.getElem?_tail] at hu
    have := hcell (j + 1) u hu
    rw [Nat.add_assoc, Nat.add_comm 1 j]
    exact this
theorem cutAt_rows (w : World) : Calls Tryz.prog 10 #[.string ⟨#[105, 110, 116, 32, 115, 32, 110, 59, 98, 111, 111, 108, 32, 115, 32, 98, 59, 116, 101, 120, 116, 32, 115, 32, 120, 59, 110, 105, 108, 32, 115, 59, 102, 117, 110, 99, 32, 115, 32, 102, 59, 109, 111, 118, 101, 32, 115, 32, 115, 59, 111, 112, 32, 115, 32, 115, 32, 115, 32, 111, 59, 99, 109, 112, 32, 115, 32, 115, 32, 115, 32, 99, 59, 110, 101, 103, 32, 115, 32, 115, 59, 110, 111, 116, 32, 115, 32, 115, 59, 99, 97, 116, 32, 115, 32, 115, 32, 115, 59, 108, 101, 110, 32, 115, 32, 115, 59, 105, 110, 100, 101, 120, 32, 115, 32, 115, 32, 115, 59, 115, 101, 116, 97, 116, 32, 115, 32, 115, 32, 115, 59, 99, 117, 116, 32, 115, 32, 115, 32, 115, 32, 115, 59, 97, 112, 112, 101, 110, 100, 32, 115, 32, 115, 32, 115, 59, 108, 105, 115, 116, 32, 115, 32, 98, 97, 115, 101, 58, 50, 32, 97, 110, 121, 59, 98, 111, 120, 32, 115, 32, 115, 59, 103, 101, 116, 32, 115, 32, 115, 59, 112, 117, 116, 32, 115, 32, 115, 59, 99, 108, 111, 115, 101, 32, 115, 32, 103, 32, 98, 97, 115, 101, 58, 51, 32, 99, 97, 112, 115, 59, 105, 115, 105, 110, 116, 32, 115, 32, 115, 59, 116, 111, 105, 110, 116, 32, 115, 32, 115, 59, 99, 104, 101, 99, 107, 59, 116, 101, 115, 116, 32, 116, 59, 106, 117, 109, 112, 32, 116, 59, 102, 97, 108, 115, 101, 32, 115, 32, 116, 59, 99, 97, 108, 108, 32, 115, 32, 115, 32, 98, 97, 115, 101, 58, 51, 32, 112, 59, 114, 101, 116, 117, 114, 110, 32, 114, 59, 108, 101, 97, 118, 101, 59, 112, 97, 110, 105, 99, 32, 115, 59, 114, 101, 99, 111, 118, 101, 114, 32, 115, 59, 101, 120, 105, 116, 32, 115, 59, 112, 114, 105, 110, 116, 32, 48, 32, 98, 97, 115, 101, 58, 50, 32, 97, 110, 121, 59, 100, 101, 102, 101, 114, 32, 97, 32, 115, 32, 98, 97, 115, 101, 58, 51, 32, 112, 59, 114, 117, 110, 32, 116, 59, 98, 105, 116, 32, 107, 59, 110, 111, 98, 105, 116, 32, 107, 32, 116, 59, 115, 116, 97, 114, 116, 32, 107, 32, 115, 32, 98, 97, 115, 101, 58, 51, 32, 112, 32, 97, 59, 101, 110, 100, 101, 100, 32, 116, 59, 116, 97, 107, 101, 110, 32, 115, 32, 119]⟩, .int .u8 59] w fun e w' => ∃ g c, e = .returned (.slice (some ⟨g, 0, none⟩) 41 c) ∧ Rd w' w'.heap.size 1 (some ⟨g, 0, none⟩) 41 (strs rowsL) ∧ Below w.heap.size w w' := by
  have h := cutAt_any tableB 59 59 (Lib.hid rfl) (by decide +kernel) w
  rw [rows_cut] at h
  refine h.mono ?_
  rintro e w' ⟨A, c, rfl, hown, hb⟩
  obtain ⟨g, cap, hv, _⟩ := hown.form (by decide)
  injection hv with hA _ hc
  subst hA hc
  exact ⟨g, _, rfl, Rd.of_own hown, hb⟩
theorem cutAt_crows (w : World) : Calls Tryz.prog 10 #[.string ⟨#[115, 32, 115, 59, 115, 32, 115, 59, 115, 32, 115, 32, 115, 59, 115, 59, 115, 59, 115, 59, 115, 32, 112, 59, 115, 32, 115, 59, 115, 59, 97, 59, 115, 59, 115]⟩, .int .u8 59] w fun e w' => ∃ g c, e = .returned (.slice (some ⟨g, 0, none⟩) 12 c) ∧ Rd w' w'.heap.size 1 (some ⟨g, 0, none⟩) 12 (strs crowsL) ∧ Below w.heap.size w w' := by
  have h := cutAt_any ctableB 59 59 (Lib.hid rfl) (by decide +kernel) w
  rw [crows_cut] at h
  refine h.mono ?_
  rintro e w' ⟨A, c, rfl, hown, hb⟩
  obtain ⟨g, cap, hv, _⟩ := hown.form (by decide)
  injection hv with hA _ hc
  subst hA hc
  exact ⟨g, _, rfl, Rd.of_own hown, hb⟩
theorem rows_short : ∀ r ∈ rowsL, r.length ≤ 30 := by decide +kernel
theorem crows_short : ∀ r ∈ crowsL, r.length ≤ 30 := by decide +kernel
/-- The words of a row, in memory. -/
theorem cutAt_row (r : List UInt8) (hr : r.length ≤ 30) (w : World) : Calls Tryz.prog 10 #[.string ⟨r.toArray⟩, .int .u8 32] w fun e w' => ∃ A n c, e = .returned (.slice A n c) ∧ n = (cutG 32 r []).length ∧ 1 ≤ n ∧ n ≤ c ∧ RdM w' (fun b => w.heap.size ≤ b ∧ b < w'.heap.size) 1 A n (strs (cutG 32 r [])) ∧ Below w.heap.size w w' := by
  refine (cutAt_any ⟨r.toArray⟩ 32 32 (Lib.hid rfl) (by show r.toArray.size ≤ _; rw [List.size_toArray]; omega) w).mono ?_
  rintro e w' ⟨A, c, rfl, hown, hb⟩
  have e1 : (⟨r.toArray⟩ : ByteArray).data.toList = r := rfl
  rw [e1] at hown ⊢
  have hp : 0 < (cutG 32 r []).length := by
    have : ∀ (L cur : List UInt8), 0 < (cutG 32 L cur).length := by
      intro L
      induction L with
      | nil => intro cur; simp [cutG]
      | cons x y ih => intro cur; unfold cutG; split <;> simp [ih]
    exact this r []
  exact ⟨A, _, c, rfl, rfl, hp, (by
    rcases hown.2 with ⟨h1, h2⟩ | ⟨g, cap, cur, h1, _, _, hnc, _⟩
    · simp at h1; omega
    · simp at h1; omega), RdM.of_own hown, hb⟩
section
variable (FA TA IA : Option Addr) (fc tc ic : Nat) (nm : ByteArray) (pa : Int)
/-- The code's head, the function and the instruction in memory. -/
structure BX (X : CX) (op a b c d e : Int) (g : Nat) (w : World) : Prop where
  z : g + 1 + 1 < w.heap.size
  p0 : w.cell? ⟨g, 0, none⟩ = some (.slice FA X.nf fc)
  p1 : w.cell? ⟨g, 1, none⟩ = some (.slice TA X.nt tc)
  q0 : w.cell? ⟨g + 1, 0, none⟩ = some (.string nm)
  q1 : w.cell? ⟨g + 1, 1, none⟩ = some (.int .i64 pa)
  q2 : w.cell? ⟨g + 1, 2, none⟩ = some (.int .i64 X.sl)
  q3 : w.cell? ⟨g + 1, 3, none⟩ = some (.int .i64 X.ca)
  q4 : w.cell? ⟨g + 1, 4, none⟩ = some (.slice IA X.ni ic)
  r0 : w.cell? ⟨g + 1 + 1, 0, none⟩ = some (.int .i64 op)
  r1 : w.cell? ⟨g + 1 + 1, 1, none⟩ = some (.int .i64 a)
  r2 : w.cell? ⟨g + 1 + 1, 2, none⟩ = some (.int .i64 b)
  r3 : w.cell? ⟨g + 1 + 1, 3, none⟩ = some (.int .i64 c)
  r4 : w.cell? ⟨g + 1 + 1, 4, none⟩ = some (.int .i64 d)
  r5 : w.cell? ⟨g + 1 + 1, 5, none⟩ = some (.int .i64 e)
theorem BX.into {X : CX} {op a b c d e : Int} {g : Nat} {w w' : World} (h : BX FA TA IA fc tc ic nm pa X op a b c d e g w) (hb : Below w.heap.size w w') : BX FA TA IA fc tc ic nm pa X op a b c d e g w' := by
  have l2 := h.z
  have l1 : g + 1 < w.heap.size := by omega
  have l0 : g < w.heap.size := by omega
  exact ⟨Nat.lt_of_lt_of_le l2 hb.size, (hb.cell (p := ⟨g, _, none⟩) l0).trans h.p0, (hb.cell (p := ⟨g, _, none⟩) l0).trans h.p1,
    (hb.cell (p := ⟨g + 1, _, none⟩) l1).trans h.q0, (hb.cell (p := ⟨g + 1, _, none⟩) l1).trans h.q1, (hb.cell (p := ⟨g + 1, _, none⟩) l1).trans h.q2, (hb.cell (p := ⟨g + 1, _, none⟩) l1).trans h.q3, (hb.cell (p := ⟨g + 1, _, none⟩) l1).trans h.q4,
    (hb.cell (p := ⟨g + 1 + 1, _, none⟩) l2).trans h.r0, (hb.cell (p := ⟨g + 1 + 1, _, none⟩) l2).trans h.r1, (hb.cell (p := ⟨g + 1 + 1, _, none⟩) l2).trans h.r2, (hb.cell (p := ⟨g + 1 + 1, _, none⟩) l2).trans h.r3, (hb.cell (p := ⟨g + 1 + 1, _, none⟩) l2).trans h.r4, (hb.cell (p := ⟨g + 1 + 1, _, none⟩) l2).trans h.r5⟩
theorem BX.put {X : CX} {op a b c d e : Int} {g : Nat} {w : World} {p : Addr} (h : BX FA TA IA fc tc ic nm pa X op a b c d e g w) (hp : g + 1 + 1 < p.block) (v : Value) : BX FA TA IA fc tc ic nm pa X op a b c d e g (w.setCell p v) := by
  have key : ∀ q : Addr, q.block < p.block → (w.setCell p v).cell? q = w.cell? q := fun q hq => World.cell?_setCell_other _ _ _ _ (fun e => by subst e; omega)
  exact ⟨by simpa using h.z, (key ⟨g, _, none⟩ (by show g < _; omega)).trans h.p0, (key ⟨g, _, none⟩ (by show g < _; omega)).trans h.p1,
    (key ⟨g + 1, _, none⟩ (by show g + 1 < _; omega)).trans h.q0, (key ⟨g + 1, _, none⟩ (by show g + 1 < _; omega)).trans h.q1, (key ⟨g + 1, _, none⟩ (by show g + 1 < _; omega)).trans h.q2, (key ⟨g + 1, _, none⟩ (by show g + 1 < _; omega)).trans h.q3, (key ⟨g + 1, _, none⟩ (by show g + 1 < _; omega)).trans h.q4,
    (key ⟨g + 1 + 1, _, none⟩ hp).trans h.r0, (key ⟨g + 1 + 1, _, none⟩ hp).trans h.r1, (key ⟨g + 1 + 1, _, none⟩ hp).trans h.r2, (key ⟨g + 1 + 1, _, none⟩ hp).trans h.r3, (key ⟨g + 1 + 1, _, none⟩ hp).trans h.r4, (key ⟨g + 1 + 1, _, none⟩ hp).trans h.r5⟩
theorem BX.start {X : CX} {op a b c d e : Int} {w : World} {ta tb tc' : TypeId} : BX FA TA IA fc tc ic nm pa X op a b c d e w.heap.size (((w.alloc (.cells #[.slice FA X.nf fc, .slice TA X.nt tc] ta)).alloc (.cells #[.string nm, .int .i64 pa, .int .i64 X.sl, .int .i64 X.ca, .slice IA X.ni ic] tb)).alloc (.cells #[.int .i64 op, .int .i64 a, .int .i64 b, .int .i64 c, .int .i64 d, .int .i64 e] tc')) := by
  obtain ⟨k1, k2, k3⟩ := boxed3 (w := w) (Below.refl _ (((w.alloc (.cells #[.slice FA X.nf fc, .slice TA X.nt tc] ta)).alloc (.cells #[.string nm, .int .i64 pa, .int .i64 X.sl, .int .i64 X.ca, .slice IA X.ni ic] tb)).alloc (.cells #[.int .i64 op, .int .i64 a, .int .i64 b, .int .i64 c, .int .i64 d, .int .i64 e] tc')))
  exact ⟨by simp, k1 0 _ rfl, k1 1 _ rfl, k2 0 _ rfl, k2 1 _ rfl, k2 2 _ rfl, k2 3 _ rfl, k2 4 _ rfl, k3 0 _ rfl, k3 1 _ rfl, k3 2 _ rfl, k3 3 _ rfl, k3 4 _ rfl, k3 5 _ rfl⟩
theorem insR_none {X : CX} {op a b c d e : Int} (h : op < 1 ∨ 41 < op) : insR X op a b c d e = 13 := by unfold insR; rw [if_pos h]
theorem all5 {f : Nat → Bool} (h : ∀ j, j < 5 → f j = true) : (List.range 5).all f = true := by
  rw [List.all_eq_true]
  exact fun j hj => h j (List.mem_range.1 hj)
theorem no5 {f : Nat → Bool} {k : Nat} (hk : k < 5) (h : f k = false) : ¬ (List.range 5).all f = true := by
  intro hall
  rw [List.all_eq_true] at hall
  rw [hall k (List.mem_range.2 hk)] at h
  cases h
/-- What the loop reads: the kinds and the numbers. -/
structure LX (KS : List (List UInt8)) (KA : Option Addr) (kn : Nat) (ga : Nat) (nums : Nat → Int) (w : World) : Prop where
  hn : kn = KS.length
  rd : Rd w w.heap.size 1 KA kn (strs KS)
  lt : ga < w.heap.size
  ar : ∀ k < 5, w.cell? ⟨ga, k, none⟩ = some (.int .i64 (nums k))
theorem LX.into {KS : List (List UInt8)} {KA : Option Addr} {kn ga : Nat} {nums : Nat → Int} {w w' : World} (h : LX KS KA kn ga nums w) (hb : Below w.heap.size w w') : LX KS KA kn ga nums w' :=
  ⟨h.hn, h.rd.into (Nat.le_refl _) hb, Nat.lt_of_lt_of_le h.lt hb.size, fun k hk => (hb.cell (p := ⟨ga, k, none⟩) h.lt).trans (h.ar k hk)⟩

set_option maxHeartbeats 8000000 in
theorem insWrong_any (X : CX) (op a b c d e : Int) (w : World) (hX : CXok X) (hc : CapsAt w FA X.nf X.caps) : Calls Tryz.prog 47 #[codeV FA TA fc tc X, fnV IA ic nm pa X, insVal op a b c d e] w fun r w' => r = .returned (.int .i64 (insR X op a b c d e)) ∧ Below w.heap.size w w' := by
  have HFR := Lib.hid (fun k hk n W hc' => fr_all FA TA IA fc tc ic nm pa op a b c d e X n W k hk hX hc')
  have HC := Lib.hid hc
  obtain ⟨nf, nt, ni, sl, ca, caps⟩ := X
  clear hX hc
  unfold codeV fnV insVal at HFR ⊢
  simp only at HFR ⊢
  by_cases hop : op < 1 ∨ 41 < op
  · have HE := Lib.hid (insR_none (X := ⟨nf, nt, ni, sl, ca, caps⟩) (a := a) (b := b) (c := c) (d := d) (e := e) hop)
    rcases Int.lt_or_le op 1 with h1 | h1
    · clear hop
      go_enter Tryz.func47, Tryz.ntmps47
      go_wp2_with fail
      have HBX0 := Lib.hid (BX.start FA TA IA fc tc ic nm pa (X := ⟨nf, nt, ni, sl, ca, caps⟩) (op := op) (a := a) (b := b) (c := c) (d := d) (e := e) (w := w) (ta := 25) (tb := 44) (tc' := 47))
      refine (cutAt_rows _).mono ?_
      rintro r w1 ⟨g1, c1, rfl, hrd, hb1⟩
      have HBX1 := Lib.hid (HBX0.out.into _ _ _ _ _ _ _ _ hb1)
      have HB1 := Lib.hid (sq (sq (sq (al _) (al _)) (al _)) hb1)
      clear HBX0 hb1
      obtain ⟨z, p0, p1, q0, q1, q2, q3, q4, r0, r1, r2, r3, r4, r5⟩ := HBX1.out
      simp only at p0 p1 q2 q3 q4
      go_wp2_with fail
      go_ret
      exact ⟨by rw [HE.out]; rfl, HB1.out⟩
    · have h2 : 41 < op := by omega
      clear hop
      go_enter Tryz.func47, Tryz.ntmps47
      go_wp2_with fail
      have HBX0 := Lib.hid (BX.start FA TA IA fc tc ic nm pa (X := ⟨nf, nt, ni, sl, ca, caps⟩) (op := op) (a := a) (b := b) (c := c) (d := d) (e := e) (w := w) (ta := 25) (tb := 44) (tc' := 47))
      refine (cutAt_rows _).mono ?_
      rintro r w1 ⟨g1, c1, rfl, hrd, hb1⟩
      have HBX1 := Lib.hid (HBX0.out.into _ _ _ _ _ _ _ _ hb1)
      have HB1 := Lib.hid (sq (sq (sq (al _) (al _)) (al _)) hb1)
      clear HBX0 hb1
      obtain ⟨z, p0, p1, q0, q1, q2, q3, q4, r0, r1, r2, r3, r4, r5⟩ := HBX1.out
      simp only at p0 p1 q2 q3 q4
      go_wp2_with fail
      go_ret
      exact ⟨by rw [HE.out]; rfl, HB1.out⟩
  · obtain ⟨q, rfl⟩ : ∃ q : Nat, op = (q : Int) + 1 := ⟨(op - 1).toNat, by omega⟩
    have hq : q < 41 := by omega
    have HIR := Lib.hid (show insR ⟨nf, nt, ni, sl, ca, caps⟩ ((q : Int) + 1) a b c d e = _ from by unfold insR; rw [if_neg hop])
    have h1 : ¬ (q : Int) + 1 < 1 := by omega
    have h2 : ¬ 41 < (q : Int) + 1 := by omega
    have hqi : (q : Int) < 41 := by omega
    have hsub : IntKind.i64.wrap ((q : Int) + 1 - 1) = (q : Int) := by rw [show (q : Int) + 1 - 1 = (q : Int) by omega]; exact IntWalk.i64_in _ (by omega)
    have HROW := Lib.hid (rows_short (rowsL.getD q []) (by rw [List.getD_eq_getElem?_getD, List.getElem?_eq_getElem (show q < rowsL.length from hq)]; exact List.getElem_mem _))
    clear hop
    go_enter Tryz.func47, Tryz.ntmps47
    go_wp2_with fail
    have HBX0 := Lib.hid (BX.start FA TA IA fc tc ic nm pa (X := ⟨nf, nt, ni, sl, ca, caps⟩) (op := ((q : Int) + 1)) (a := a) (b := b) (c := c) (d := d) (e := e) (w := w) (ta := 25) (tb := 44) (tc' := 47))
    refine (cutAt_rows _).mono ?_
    rintro r w1 ⟨g1, c1, rfl, hrd, hb1⟩
    have HBX1 := Lib.hid (HBX0.out.into _ _ _ _ _ _ _ _ hb1)
    have HB1 := Lib.hid (sq (sq (sq (al _) (al _)) (al _)) hb1)
    clear HBX0 hb1
    obtain ⟨z, p0, p1, q0, q1, q2, q3, q4, r0, r1, r2, r3, r4, r5⟩ := HBX1.out
    simp only at p0 p1 q2 q3 q4
    have hrow : w1.cell? ⟨g1, q, none⟩ = some (.string ⟨(rowsL.getD q []).toArray⟩) := by
      obtain ⟨b0, off, u, hA, _, hu, hc0⟩ := hrd.at1 hq
      have hu' := strs_get (by exact hq) hu
      injection hA with hA
      injection hA with hA1 hA2
      subst hA1 hA2 hu'
      rw [Nat.zero_add] at hc0
      exact hc0
    generalize hrw : rowsL.getD q [] = row at *
    have HRW := Lib.hid hrw
    clear hrw hrd
    go_wp2_with fail
    refine (cutAt_row row HROW.out _).mono ?_
    rintro r w2 ⟨KA0, n0, c0, rfl, hn0, h1n, hnc, hrd2m, hb2⟩
    have hrd2 := hrd2m.rd (fun b h => h.2)
    clear hrd2m
    have HBX2 := Lib.hid (HBX1.out.into _ _ _ _ _ _ _ _ hb2)
    have HB2 := Lib.hid (sq HB1.out hb2)
    clear hb2
    clear z p0 p1 q0 q1 q2 q3 q4 r0 r1 r2 r3 r4 r5
    obtain ⟨z, p0, p1, q0, q1, q2, q3, q4, r0, r1, r2, r3, r4, r5⟩ := HBX2.out
    simp only at p0 p1 q2 q3 q4
    obtain ⟨KA, kn, kc, hsl, hrdk, hkn⟩ := tail_slice h1n hnc hrd2
    have HRK := Lib.hid hrdk
    have HN0 := Lib.hid (hkn.trans hn0)
    clear hrd2 hrdk hn0 hrow hkn h1n hnc
    by_cases h24 : (q : Int) + 1 = 24
    · have e24 : ((q : Int) + 1 == 24) = true := by simpa using h24
      rw [if_pos h24] at HIR
      clear h24
      go_wp2_with fail
      refine (num5_any _ _ _ _ _ _ _).mono ?_
      rintro r w3 ⟨rfl, hb3⟩
      have HBX3 := Lib.hid (HBX2.out.into _ _ _ _ _ _ _ _ hb3)
      have HB3 := Lib.hid (sq HB2.out hb3)
      clear hb3
      clear z p0 p1 q0 q1 q2 q3 q4 r0 r1 r2 r3 r4 r5
      obtain ⟨z, p0, p1, q0, q1, q2, q3, q4, r0, r1, r2, r3, r4, r5⟩ := HBX3.out
      simp only at p0 p1 q2 q3 q4
      go_wp2_with fail
      refine (cutAt_crows _).mono ?_
      rintro r w4 ⟨g4, c4, rfl, hrd4, hb4⟩
      have hg3 : w3.heap.size < w4.heap.size := by
        have := hb4.size
        simp at this
        omega
      have HAR := Lib.hid (show ∀ k < 5, w4.cell? ⟨w3.heap.size, k, none⟩ = some (.int .i64 (numsR a b c d e k)) from fun k hk => (hb4.cell (p := ⟨w3.heap.size, k, none⟩) (by simp)).trans (by
        have hk5 : k = 0 ∨ k = 1 ∨ k = 2 ∨ k = 3 ∨ k = 4 := by omega
        rcases hk5 with rfl | rfl | rfl | rfl | rfl <;> simp [go_sem, numsR]))
      have HFZ := Lib.hid (show w4.frozen? ⟨w3.heap.size, 3, none⟩ = false from (hb4.frozen (p := ⟨w3.heap.size, 3, none⟩) (by simp)).trans (by simp [go_sem]))
      have hb34 := sq (al (w := w3) _) hb4
      have HBX4 := Lib.hid (HBX3.out.into _ _ _ _ _ _ _ _ hb34)
      have HB4 := Lib.hid (sq HB3.out hb34)
      clear hb4 hb34
      clear z p0 p1 q0 q1 q2 q3 q4 r0 r1 r2 r3 r4 r5
      obtain ⟨z, p0, p1, q0, q1, q2, q3, q4, r0, r1, r2, r3, r4, r5⟩ := HBX4.out
      simp only at p0 p1 q2 q3 q4
      by_cases hd : d < 1 ∨ 12 < d
      · rw [if_pos hd] at HIR
        rcases Int.lt_or_le d 1 with h3 | h3
        · clear hd
          go_wp2_with fail
          go_ret
          exact ⟨by rw [HIR.out]; rfl, HB4.out⟩
        · have h4 : 12 < d := by omega
          clear hd
          go_wp2_with fail
          go_ret
          exact ⟨by rw [HIR.out]; rfl, HB4.out⟩
      · rw [if_neg hd] at HIR
        obtain ⟨m, rfl⟩ : ∃ m : Nat, d = (m : Int) + 1 := ⟨(d - 1).toNat, by omega⟩
        have hm : m < 12 := by omega
        have h3 : ¬ (m : Int) + 1 < 1 := by omega
        have h4 : ¬ 12 < (m : Int) + 1 := by omega
        have hmi : (m : Int) < 12 := by omega
        have hsubm : IntKind.i64.wrap ((m : Int) + 1 - 1) = (m : Int) := by rw [show (m : Int) + 1 - 1 = (m : Int) by omega]; exact IntWalk.i64_in _ (by omega)
        have HROW4 := Lib.hid (crows_short (crowsL.getD m []) (by rw [List.getD_eq_getElem?_getD, List.getElem?_eq_getElem (show m < crowsL.length from hm)]; exact List.getElem_mem _))
        have HMEM := Lib.hid (ckinds_mem (crowsL.getD m []) (by rw [List.getD_eq_getElem?_getD, List.getElem?_eq_getElem (show m < crowsL.length from hm)]; exact List.getElem_mem _))
        have hrow4 : w4.cell? ⟨g4, m, none⟩ = some (.string ⟨(crowsL.getD m []).toArray⟩) := by
          obtain ⟨b0, off, u, hA, _, hu, hc0⟩ := hrd4.at1 hm
          have hu' := strs_get (by exact hm) hu
          injection hA with hA
          injection hA with hA1 hA2
          subst hA1 hA2 hu'
          rw [Nat.zero_add] at hc0
          exact hc0
        have HKS := Lib.hid (show ckindsOf ((m : Int) + 1) = cutG 32 (crowsL.getD m []) [] by unfold ckindsOf; rw [show ((m : Int) + 1 - 1).toNat = m by omega])
        generalize crowsL.getD m [] = row4 at *
        clear hrd4 hd
        go_wp2_with fail
        refine (cutAt_row row4 HROW4.out _).mono ?_
        rintro r w5 ⟨KA5, n5, c5, rfl, hn5, h1n, hnc, hrd5, hb5⟩
        have hlt5 : w3.heap.size < w5.heap.size := Nat.lt_of_lt_of_le hg3 hb5.size
        have fz : w5.frozen? ⟨w3.heap.size, 3, none⟩ = false := (hb5.frozen (p := ⟨w3.heap.size, 3, none⟩) hg3).trans HFZ.out
        have ar3 : w5.cell? ⟨w3.heap.size, 3, none⟩ = some (.int .i64 ((m : Int) + 1)) := (hb5.cell (p := ⟨w3.heap.size, 3, none⟩) hg3).trans (HAR.out 3 (by omega))
        have HBX5 := Lib.hid (HBX4.out.into _ _ _ _ _ _ _ _ hb5)
        have HB5 := Lib.hid (sq HB4.out hb5)
        have HSZ3 := Lib.hid (show w.heap.size ≤ w3.heap.size from HB3.out.size)
        have HBS := Lib.hid (Below.setCell (HB5.out) (p := ⟨w3.heap.size, 3, none⟩) HB3.out.size (.int .i64 0))
        have HAR5 := Lib.hid (show ∀ k < 5, (w5.setCell ⟨w3.heap.size, 3, none⟩ (.int .i64 0)).cell? ⟨w3.heap.size, k, none⟩ = some (.int .i64 (numsR a b c 0 e k)) from fun k hk => by
          have hk5 : k = 0 ∨ k = 1 ∨ k = 2 ∨ k = 3 ∨ k = 4 := by omega
          have hold := (hb5.cell (p := ⟨w3.heap.size, k, none⟩) hg3).trans (HAR.out k hk)
          by_cases h33 : k = 3
          · subst h33
            rw [World.cell?_setCell_same _ _ _ ar3]
            rfl
          · rw [World.cell?_setCell_other _ _ _ _ (fun e => h33 (by injection e with _ e _; exact e.symm ▸ rfl)), hold]
            rcases hk5 with rfl | rfl | rfl | rfl | rfl <;> first | rfl | omega)
        have HZS := Lib.hid (show (w5.setCell ⟨w3.heap.size, 3, none⟩ (.int .i64 0)).heap.size = w5.heap.size by simp)
        have HRD5 := Lib.hid (show Rd (w5.setCell ⟨w3.heap.size, 3, none⟩ (.int .i64 0)) (w5.setCell ⟨w3.heap.size, 3, none⟩ (.int .i64 0)).heap.size 1 KA5 n5 (strs (cutG 32 row4 [])) by
          rw [HZS.out]
          exact (hrd5.keep (fun p hp => World.cell?_setCell_other _ _ _ _ (fun e => by subst e; have := hp.1; simp at this; omega))).rd (fun b h => h.2))
        have HLX := Lib.hid (LX.mk (KA := KA5) (kn := n5) (KS := cutG 32 row4 []) (ga := w3.heap.size) (nums := numsR a b c 0 e) (w := w5.setCell ⟨w3.heap.size, 3, none⟩ (.int .i64 0)) hn5 HRD5.out (by rw [HZS.out]; exact hlt5) HAR5.out)
        have HBX6 := Lib.hid (HBX5.out.put _ _ _ _ _ _ _ _ (p := ⟨w3.heap.size, 3, none⟩) (by have := HBX3.out.z; show _ < w3.heap.size; omega) (.int .i64 0))
        rw [HKS.out] at HIR
        clear hrd5 h1n hnc hn5
        go_wp2_with fail
        generalize hwl : w5.setCell ⟨w3.heap.size, 3, none⟩ (.int .i64 0) = wl at *
        have HLL := Lib.hid (show w.heap.size ≤ wl.heap.size from HBS.out.size)
        have HCL := Lib.hid (HC.out.into HBS.out)
        clear hwl z p0 p1 q0 q1 q2 q3 q4 r0 r1 r2 r3 r4 r5
        generalize hga : w3.heap.size = ga at *
        clear hga
        go_loopw [11] (fun i wr => ∃ k : Nat, i = .int .i64 (k : Int) ∧ k ≤ 5 ∧ Hid (∀ j, j < k → okR ⟨nf, nt, ni, sl, ca, caps⟩ b c ((m : Int) + 1) (cutG 32 row4 []) (numsR a b c 0 e) j = true) ∧ Below wl.heap.size wl wr) (fun i _ => 5 - (intOf i).toNat)
        case atStart => exact ⟨0, rfl, by omega, Lib.hid (fun j hj => by omega), Below.refl _ _⟩
        case round =>
          obtain ⟨k, rfl, hk, HOK, hbel⟩ := hrel
          have HBE := Lib.hid hbel
          have HBXR := Lib.hid (HBX6.out.into _ _ _ _ _ _ _ _ hbel)
          have HLXR := Lib.hid (HLX.out.into hbel)
          clear hbel
          by_cases hlt : k < 5
          · have hki : (k : Int) < 5 := by omega
            have hark := HLXR.out.ar k hlt
            have HOKD := Lib.hid (show okR ⟨nf, nt, ni, sl, ca, caps⟩ b c ((m : Int) + 1) (cutG 32 row4 []) (numsR a b c 0 e) k = _ from rfl)
            obtain ⟨z, p0, p1, q0, q1, q2, q3, q4, r0, r1, r2, r3, r4, r5⟩ := HBXR.out
            simp only at p0 p1 q2 q3 q4
            by_cases hkn : k < n5
            · have hkni : (k : Int) < (n5 : Int) := by omega
              have hge : decide (n5 ≤ k) = false := by simp; omega
              obtain ⟨kb, koff, u, hKA, hkb, hu, hkc⟩ := HLXR.out.rd.at1 hkn
              have hkl : k < ((cutG 32 row4 [])).length := by have := HLXR.out.hn; omega
              have hu' := strs_get hkl hu
              subst hu' hKA
              have hmem : ((cutG 32 row4 [])).getD k [] ∈ kindsL := HMEM.out _ (by rw [List.getD_eq_getElem?_getD, List.getElem?_eq_getElem hkl]; exact List.getElem_mem _)
              have HOKE := Lib.hid (show okR ⟨nf, nt, ni, sl, ca, caps⟩ b c ((m : Int) + 1) (cutG 32 row4 []) (numsR a b c 0 e) k = fieldR ⟨nf, nt, ni, sl, ca, caps⟩ b c ((m : Int) + 1) (((cutG 32 row4 [])).getD k []) ((numsR a b c 0 e) k) by unfold okR; rw [if_pos hkl])
              have HCALL := Lib.hid (fun (T : WB wr) => HFR.out (((cutG 32 row4 [])).getD k []) hmem ((numsR a b c 0 e) k) T.val ((HCL.out.into HBE.out).into T.bel))
              clear hmem hu hkl HOKD
              generalize (numsR a b c 0 e) k = x0 at *
              generalize ((cutG 32 row4 [])).getD k [] = ks at *
              generalize hfb : fieldR ⟨nf, nt, ni, sl, ca, caps⟩ b c ((m : Int) + 1) ks x0 = fb at *
              clear hfb
              have HBT := fun T : WB wr => HBXR.out.into _ _ _ _ _ _ _ _ T.bel
              have t0 := fun T => (HBT T).p0; have t1 := fun T => (HBT T).p1; have t2 := fun T => (HBT T).q0; have t3 := fun T => (HBT T).q1; have t4 := fun T => (HBT T).q2; have t5 := fun T => (HBT T).q3; have t6 := fun T => (HBT T).q4; have t7 := fun T => (HBT T).r0; have t8 := fun T => (HBT T).r1; have t9 := fun T => (HBT T).r2; have t10 := fun T => (HBT T).r3; have t11 := fun T => (HBT T).r4; have t12 := fun T => (HBT T).r5
              simp only at t0 t1 t4 t5 t6
              have t13 : ∀ T : WB wr, T.val.cell? ⟨ga, k, none⟩ = some (.int .i64 x0) := fun T => (T.bel.cell (p := ⟨ga, k, none⟩) HLXR.out.lt).trans hark
              have t14 : ∀ T : WB wr, T.val.cell? ⟨kb, koff + k, none⟩ = some (.string ⟨ks.toArray⟩) := fun T => (T.bel.cell (p := ⟨kb, koff + k, none⟩) hkb).trans hkc
              clear HBT
              cases fb
              · have HV := Lib.hid (no5 hlt HOKE.out)
                go_wp2_with fail
                (refine wp_region_wb (by kernel_rfl) (by kernel_rfl) ?_; (repeat (first | go_big_quiet_step ((go_at_call 70; exact quietB (HCALL.out _))) | quiet_step ((go_at_call 70; exact quietB (HCALL.out _))))); refine wpQuiet_nil ?_; intro _ hw'; obtain ⟨⟨wq, hbq⟩, hw''⟩ := hw'; subst hw''; (try simp only))
                go_wp2_with fail
                go_ret
                exact ⟨by rw [HIR.out, if_neg HV.out]; rfl, HBS.out.trans ((HBE.out.trans (hbq.mono HBE.out.size)).mono HLL.out)⟩
              · have HOK2 := Lib.hid (show ∀ j, j < k + 1 → okR ⟨nf, nt, ni, sl, ca, caps⟩ b c ((m : Int) + 1) (cutG 32 row4 []) (numsR a b c 0 e) j = true from fun j hj => by
                  rcases Nat.lt_or_ge j k with h3 | h3
                  · exact HOK.out j h3
                  · obtain rfl : j = k := by omega
                    exact HOKE.out)
                go_wp2_with fail
                (refine wp_region_wb (by kernel_rfl) (by kernel_rfl) ?_; (repeat (first | go_big_quiet_step ((go_at_call 70; exact quietB (HCALL.out _))) | quiet_step ((go_at_call 70; exact quietB (HCALL.out _))))); refine wpQuiet_nil ?_; intro _ hw'; obtain ⟨⟨wq, hbq⟩, hw''⟩ := hw'; subst hw''; (try simp only))
                go_wp2_with fail
                go_roundw
                case rel => exact ⟨k + 1, by go_num, by omega, HOK2, HBE.out.trans (hbq.mono HBE.out.size)⟩
                case measure => simp [intOf]; omega
            · have hkni : decide (k < n5) = false := by simp; omega
              have hge : n5 ≤ k := by omega
              have hkl : ¬ k < ((cutG 32 row4 [])).length := by have := HLXR.out.hn; omega
              have HOKE := Lib.hid (show okR ⟨nf, nt, ni, sl, ca, caps⟩ b c ((m : Int) + 1) (cutG 32 row4 []) (numsR a b c 0 e) k = decide ((numsR a b c 0 e) k = 0) by unfold okR; rw [if_neg hkl])
              clear hkl HOKD
              generalize (numsR a b c 0 e) k = x0 at *
              by_cases hx : x0 = 0
              · have ex : (x0 != 0) = false := by simpa using hx
                have HOK2 := Lib.hid (show ∀ j, j < k + 1 → okR ⟨nf, nt, ni, sl, ca, caps⟩ b c ((m : Int) + 1) (cutG 32 row4 []) (numsR a b c 0 e) j = true from fun j hj => by
                  rcases Nat.lt_or_ge j k with h3 | h3
                  · exact HOK.out j h3
                  · obtain rfl : j = k := by omega
                    rw [HOKE.out]; exact decide_eq_true hx)
                clear hx
                go_wp2_with fail
                go_quiet (fail)
                go_wp2_with fail
                go_roundw
                case rel => exact ⟨k + 1, by go_num, by omega, HOK2, dr HBE.out _⟩
                case measure => simp [intOf]; omega
              · have ex : (x0 != 0) = true := by simpa using hx
                have HV := Lib.hid (no5 hlt (HOKE.out.trans (decide_eq_false hx)))
                clear hx
                go_wp2_with fail
                go_quiet (fail)
                go_wp2_with fail
                go_ret
                exact ⟨by rw [HIR.out, if_neg HV.out]; rfl, HBS.out.trans ((dr HBE.out _).mono HLL.out)⟩
          · obtain rfl : k = 5 := by omega
            have HV := Lib.hid (all5 HOK.out)
            rw [show ((5 : Nat) : Int) = 5 from rfl] at *
            go_wp2_with fail
            go_ret
            exact ⟨by rw [HIR.out, if_pos HV.out]; rfl, HBS.out.trans (HBE.out.mono HLL.out)⟩
    · have e24 : ((q : Int) + 1 == 24) = false := by simpa using h24
      rw [if_neg h24] at HIR
      clear h24
      have HKS := Lib.hid (show kindsOf ((q : Int) + 1) = (cutG 32 row []).tail by unfold kindsOf; rw [show ((q : Int) + 1 - 1).toNat = q by omega, HRW.out])
      rw [HKS.out] at HIR
      go_wp2_with fail
      refine (num5_any _ _ _ _ _ _ _).mono ?_
      rintro r w3 ⟨rfl, hb3⟩
      have HBX3w := Lib.hid (HBX2.out.into _ _ _ _ _ _ _ _ hb3)
      have HBX3 := Lib.hid (HBX2.out.into _ _ _ _ _ _ _ _ (sq hb3 (al (.cells #[.int .i64 a, .int .i64 b, .int .i64 c, .int .i64 d, .int .i64 e] 73))))
      have HB3 := Lib.hid (sq HB2.out (sq hb3 (al (.cells #[.int .i64 a, .int .i64 b, .int .i64 c, .int .i64 d, .int .i64 e] 73))))
      have HLX := Lib.hid (LX.mk (KA := KA) (kn := kn) (KS := (cutG 32 row []).tail) (ga := w3.heap.size) (nums := numsR a b c d e) (w := w3.alloc (.cells #[.int .i64 a, .int .i64 b, .int .i64 c, .int .i64 d, .int .i64 e] 73)) (by have := HN0.out; rw [List.length_tail]; omega) (by
          have := HRK.out.into (Nat.le_refl _) (sq hb3 (al (.cells #[.int .i64 a, .int .i64 b, .int .i64 c, .int .i64 d, .int .i64 e] 73)))
          unfold strs at this ⊢
          rw [← List.map_tail] at this
          exact this) (by simp) (fun k hk => by
          have hk5 : k = 0 ∨ k = 1 ∨ k = 2 ∨ k = 3 ∨ k = 4 := by omega
          rcases hk5 with rfl | rfl | rfl | rfl | rfl <;> simp [go_sem, numsR]))
      have hg3 : w.heap.size + 1 + 1 < w3.heap.size := Nat.lt_of_lt_of_le HBX2.out.z hb3.size
      have HMEM := Lib.hid (kinds_mem row (by rw [← HRW.out, List.getD_eq_getElem?_getD, List.getElem?_eq_getElem (show q < rowsL.length from hq)]; exact List.getElem_mem _))
      clear hb3
      clear z p0 p1 q0 q1 q2 q3 q4 r0 r1 r2 r3 r4 r5
      obtain ⟨z, p0, p1, q0, q1, q2, q3, q4, r0, r1, r2, r3, r4, r5⟩ := HBX3w.out
      simp only at p0 p1 q2 q3 q4
      clear HBX3w
      go_wp2_with fail
      generalize hwl : w3.alloc (.cells #[.int .i64 a, .int .i64 b, .int .i64 c, .int .i64 d, .int .i64 e] 73) = wl at *
      have HLL := Lib.hid (show w.heap.size ≤ wl.heap.size from HB3.out.size)
      have HCL := Lib.hid (HC.out.into HB3.out)
      clear hwl z p0 p1 q0 q1 q2 q3 q4 r0 r1 r2 r3 r4 r5
      generalize hga : w3.heap.size = ga at *
      clear hga
      go_loopw [11] (fun i wr => ∃ k : Nat, i = .int .i64 (k : Int) ∧ k ≤ 5 ∧ Hid (∀ j, j < k → okR ⟨nf, nt, ni, sl, ca, caps⟩ b c d ((cutG 32 row []).tail) (numsR a b c d e) j = true) ∧ Below wl.heap.size wl wr) (fun i _ => 5 - (intOf i).toNat)
      case atStart => exact ⟨0, rfl, by omega, Lib.hid (fun j hj => by omega), Below.refl _ _⟩
      case round =>
        obtain ⟨k, rfl, hk, HOK, hbel⟩ := hrel
        have HBE := Lib.hid hbel
        have HBXR := Lib.hid (HBX3.out.into _ _ _ _ _ _ _ _ hbel)
        have HLXR := Lib.hid (HLX.out.into hbel)
        clear hbel
        by_cases hlt : k < 5
        · have hki : (k : Int) < 5 := by omega
          have hark := HLXR.out.ar k hlt
          have HOKD := Lib.hid (show okR ⟨nf, nt, ni, sl, ca, caps⟩ b c d ((cutG 32 row []).tail) (numsR a b c d e) k = _ from rfl)
          obtain ⟨z, p0, p1, q0, q1, q2, q3, q4, r0, r1, r2, r3, r4, r5⟩ := HBXR.out
          simp only at p0 p1 q2 q3 q4
          by_cases hkn : k < kn
          · have hkni : (k : Int) < (kn : Int) := by omega
            have hge : decide (kn ≤ k) = false := by simp; omega
            obtain ⟨kb, koff, u, hKA, hkb, hu, hkc⟩ := HLXR.out.rd.at1 hkn
            have hkl : k < (((cutG 32 row []).tail)).length := by have := HLXR.out.hn; omega
            have hu' := strs_get hkl hu
            subst hu' hKA
            have hmem : (((cutG 32 row []).tail)).getD k [] ∈ kindsL := HMEM.out _ (by rw [List.getD_eq_getElem?_getD, List.getElem?_eq_getElem hkl]; exact List.getElem_mem _)
            have HOKE := Lib.hid (show okR ⟨nf, nt, ni, sl, ca, caps⟩ b c d ((cutG 32 row []).tail) (numsR a b c d e) k = fieldR ⟨nf, nt, ni, sl, ca, caps⟩ b c d ((((cutG 32 row []).tail)).getD k []) ((numsR a b c d e) k) by unfold okR; rw [if_pos hkl])
            have HCALL := Lib.hid (fun (T : WB wr) => HFR.out ((((cutG 32 row []).tail)).getD k []) hmem ((numsR a b c d e) k) T.val ((HCL.out.into HBE.out).into T.bel))
            clear hmem hu hkl HOKD
            generalize (numsR a b c d e) k = x0 at *
            generalize (((cutG 32 row []).tail)).getD k [] = ks at *
            generalize hfb : fieldR ⟨nf, nt, ni, sl, ca, caps⟩ b c d ks x0 = fb at *
            clear hfb
            have HBT := fun T : WB wr => HBXR.out.into _ _ _ _ _ _ _ _ T.bel
            have t0 := fun T => (HBT T).p0; have t1 := fun T => (HBT T).p1; have t2 := fun T => (HBT T).q0; have t3 := fun T => (HBT T).q1; have t4 := fun T => (HBT T).q2; have t5 := fun T => (HBT T).q3; have t6 := fun T => (HBT T).q4; have t7 := fun T => (HBT T).r0; have t8 := fun T => (HBT T).r1; have t9 := fun T => (HBT T).r2; have t10 := fun T => (HBT T).r3; have t11 := fun T => (HBT T).r4; have t12 := fun T => (HBT T).r5
            simp only at t0 t1 t4 t5 t6
            have t13 : ∀ T : WB wr, T.val.cell? ⟨ga, k, none⟩ = some (.int .i64 x0) := fun T => (T.bel.cell (p := ⟨ga, k, none⟩) HLXR.out.lt).trans hark
            have t14 : ∀ T : WB wr, T.val.cell? ⟨kb, koff + k, none⟩ = some (.string ⟨ks.toArray⟩) := fun T => (T.bel.cell (p := ⟨kb, koff + k, none⟩) hkb).trans hkc
            clear HBT
            cases fb
            · have HV := Lib.hid (no5 hlt HOKE.out)
              go_wp2_with fail
              (refine wp_region_wb (by kernel_rfl) (by kernel_rfl) ?_; (repeat (first | go_big_quiet_step ((go_at_call 70; exact quietB (HCALL.out _))) | quiet_step ((go_at_call 70; exact quietB (HCALL.out _))))); refine wpQuiet_nil ?_; intro _ hw'; obtain ⟨⟨wq, hbq⟩, hw''⟩ := hw'; subst hw''; (try simp only))
              go_wp2_with fail
              go_ret
              exact ⟨by rw [HIR.out, if_neg HV.out]; rfl, HB3.out.trans ((HBE.out.trans (hbq.mono HBE.out.size)).mono HLL.out)⟩
            · have HOK2 := Lib.hid (show ∀ j, j < k + 1 → okR ⟨nf, nt, ni, sl, ca, caps⟩ b c d ((cutG 32 row []).tail) (numsR a b c d e) j = true from fun j hj => by
                rcases Nat.lt_or_ge j k with h3 | h3
                · exact HOK.out j h3
                · obtain rfl : j = k := by omega
                  exact HOKE.out)
              go_wp2_with fail
              (refine wp_region_wb (by kernel_rfl) (by kernel_rfl) ?_; (repeat (first | go_big_quiet_step ((go_at_call 70; exact quietB (HCALL.out _))) | quiet_step ((go_at_call 70; exact quietB (HCALL.out _))))); refine wpQuiet_nil ?_; intro _ hw'; obtain ⟨⟨wq, hbq⟩, hw''⟩ := hw'; subst hw''; (try simp only))
              go_wp2_with fail
              go_roundw
              case rel => exact ⟨k + 1, by go_num, by omega, HOK2, HBE.out.trans (hbq.mono HBE.out.size)⟩
              case measure => simp [intOf]; omega
          · have hkni : decide (k < kn) = false := by simp; omega
            have hge : kn ≤ k := by omega
            have hkl : ¬ k < (((cutG 32 row []).tail)).length := by have := HLXR.out.hn; omega
            have HOKE := Lib.hid (show okR ⟨nf, nt, ni, sl, ca, caps⟩ b c d ((cutG 32 row []).tail) (numsR a b c d e) k = decide ((numsR a b c d e) k = 0) by unfold okR; rw [if_neg hkl])
            clear hkl HOKD
            generalize (numsR a b c d e) k = x0 at *
            by_cases hx : x0 = 0
            · have ex : (x0 != 0) = false := by simpa using hx
              have HOK2 := Lib.hid (show ∀ j, j < k + 1 → okR ⟨nf, nt, ni, sl, ca, caps⟩ b c d ((cutG 32 row []).tail) (numsR a b c d e) j = true from fun j hj => by
                rcases Nat.lt_or_ge j k with h3 | h3
                · exact HOK.out j h3
                · obtain rfl : j = k := by omega
                  rw [HOKE.out]; exact decide_eq_true hx)
              clear hx
              go_wp2_with fail
              go_quiet (fail)
              go_wp2_with fail
              go_roundw
              case rel => exact ⟨k + 1, by go_num, by omega, HOK2, dr HBE.out _⟩
              case measure => simp [intOf]; omega
            · have ex : (x0 != 0) = true := by simpa using hx
              have HV := Lib.hid (no5 hlt (HOKE.out.trans (decide_eq_false hx)))
              clear hx
              go_wp2_with fail
              go_quiet (fail)
              go_wp2_with fail
              go_ret
              exact ⟨by rw [HIR.out, if_neg HV.out]; rfl, HB3.out.trans ((dr HBE.out _).mono HLL.out)⟩
        · obtain rfl : k = 5 := by omega
          have HV := Lib.hid (all5 HOK.out)
          rw [show ((5 : Nat) : Int) = 5 from rfl] at *
          go_wp2_with fail
          go_ret
          exact ⟨by rw [HIR.out, if_pos HV.out]; rfl, HB3.out.trans (HBE.out.mono HLL.out)⟩
end
end Go.Proofs.YtjegfimagjmpdaaGreatDoor

