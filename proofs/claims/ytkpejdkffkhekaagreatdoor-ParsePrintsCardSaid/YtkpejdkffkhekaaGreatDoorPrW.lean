/- PrW: PrW PrX PrY PrZ PrV PrU PrT PrS PrI. Conditions: each text's own. -/
import Derived.Test.YtkpejdkffkhekaaGreatDoorPrB
import Derived.Test.YtkpejdkffkhekaaGreatDoorPrQ
import Derived.Test.YtkpejdkffkhekaaGreatDoorShelf
import Derived.Lib.Replace
import Derived.Lib.SplitLaws
import Derived.Lib.CountLaws
import Derived.Deep.RegionHeld3
import Derived.StillTailTactics
import Derived.RegionTactic
import Derived.Deep.RegionLaw
import Derived.Deep.Onto
import Derived.Deep.DeepCutAuto
section
/- The printer: its state, the leaves. Conditions: the tree is a good one. -/
set_option maxRecDepth 100000
namespace Go.Proofs.YtkpejdkffkhekaaGreatDoor
open Go.ChangeShapes Go.WideShapes Go.ChangeAt Go.RowKit
theorem rep_wide : ∀ l : List UInt8, Lib.replaceK [44] [44, 32] (Lib.count l [44]) l = wideL l
  | [] => by
    rw [show Lib.count [] [44] = 0 from rfl]
    rfl
  | b :: l => by
    have ih := rep_wide l
    by_cases hb : b = 44
    · subst hb
      have hix : Lib.index (44 :: l) [44] = ((0 : Nat) : Int) := by rw [Lib.index]; simp [List.isPrefixOf]
      rw [Lib.count_cons_eq, Nat.add_comm, Lib.replaceK_hit _ _ _ _ 0 hix]
      unfold wideL
      rw [if_pos rfl]
      simpa using ih
    · rw [Lib.count_cons_ne b 44 l hb]
      unfold wideL
      rw [if_neg hb]
      have hp : ([44] : List UInt8).isPrefixOf (b :: l) = false := by simp [List.isPrefixOf, Ne.symm hb]
      have hix : Lib.index (b :: l) [44] = if Lib.index l [44] == -1 then -1 else Lib.index l [44] + 1 := by rw [Lib.index, hp]; simp
      cases hc : Lib.count l [44] with
      | zero =>
        rw [hc] at ih
        show b :: l = b :: wideL l
        rw [← ih]
        rfl
      | succ m =>
        rw [hc] at ih
        obtain ⟨i, hi⟩ := Lib.index_of_count (s := l) (old := [44]) (by omega)
        have hi2 : Lib.index (b :: l) [44] = ((i + 1 : Nat) : Int) := by
          rw [hix, hi, if_neg (by rw [beq_iff_eq]; omega)]
          omega
        rw [Lib.replaceK_hit _ _ _ _ i hi] at ih
        rw [Lib.replaceK_hit _ _ _ _ (i + 1) hi2]
        have e2 : i + 1 + [(44 : UInt8)].length = (i + [(44 : UInt8)].length) + 1 := by simp
        rw [e2, List.drop_succ_cons, List.take_succ_cons, ← ih]
        simp
theorem rep_all (l : List UInt8) : Lib.replaceAll l [44] [44, 32] = wideL l := by
  unfold Lib.replaceAll Lib.replace
  rw [if_neg (by decide)]
  have : Lib.replaceNum l [44] (-1) = Lib.count l [44] := by
    unfold Lib.replaceNum
    rw [if_pos (.inl (by decide))]
  rw [this]
  exact rep_wide l
/-- What the printer's functions may lean on: the tree, the library's own number. -/
structure Ev (w0 : World) (A : Option Addr) (c : Nat) (T : List ND) (m : Int) : Prop where
  rd : (Shp.slice ND.sh).rd w0 (· < w0.heap.size) [.slice A T.length c] T
  fit : ∀ x ∈ T, ND.fits x
  good : GoodT T
  ml : w0.cell? ⟨0, 0, none⟩ = some (.int .i64 m)
  pos : 0 < w0.heap.size
/-- The printer in the midst. -/
structure Sx (w0 : World) (g : Nat) (tr : Value) (d : Int) (L : List UInt8) (w : World) : Prop where
  wr : Wr w0.heap.size g tr d L w
  bel : Below w0.heap.size w0 w
section
variable {w0 w w' : World} {g : Nat} {tr : Value} {d : Int} {L : List UInt8}
theorem Sx.lt (h : Sx w0 g tr d L w) : g < w.heap.size := by
  obtain ⟨_, p, v, hbk, _⟩ := h.wr
  exact (Array.getElem?_eq_some_iff.1 hbk).1
theorem Sx.cells (h : Sx w0 g tr d L w) : w.cell? ⟨g, 2, none⟩ = some tr ∧ w.cell? ⟨g, 3, none⟩ = some (.int .i64 d) ∧ w.frozen? ⟨g, 3, none⟩ = false := by
  obtain ⟨_, p, v, hbk, _⟩ := h.wr
  exact ⟨by rw [Lib.cell_of_heap hbk]; rfl, by rw [Lib.cell_of_heap hbk]; rfl, Lib.frozen_of_heap hbk 3⟩
theorem Sx.keep (h : Sx w0 g tr d L w) (hb : Below w.heap.size w w') : Sx w0 g tr d L w' := by
  obtain ⟨hB, p, v, hbk, hp, hown, hne⟩ := h.wr
  refine ⟨⟨hB, p, v, (hb.block g h.lt).trans hbk, hp, own_off hown hne hb.size (fun k _ hk => hb.block k hk), hne⟩, h.bel.trans (hb.mono h.bel.size)⟩
theorem Sx.set (h : Sx w0 g tr d L w) (d' : Int) : Sx w0 g tr d' L (w.setCell ⟨g, 3, none⟩ (.int .i64 d')) := by
  obtain ⟨hB, p, v, hbk, hp, hown, hne⟩ := h.wr
  refine ⟨⟨hB, p, v, wr_put hbk 3 _, hp, own_off hown hne (by simp) (fun k hk _ => Below.heap_setCell _ _ _ _ (by show k ≠ g; exact hk)), hne⟩, h.bel.setCell (p := ⟨g, 3, none⟩) hB _⟩
theorem Sx.to {L' : List UInt8} (h : Sx w0 g tr d L w) (e : L = L') : Sx w0 g tr d L' w := e ▸ h
theorem kptSet (v : Value) : Kpt g w (w.setCell ⟨g, 3, none⟩ v) := (Lib.OthersKept.refl _ _ w).setCell ⟨g, 3, none⟩ rfl _
theorem kptBel (hb : Below w.heap.size w w') : Kpt g w w' := fun k _ hk _ _ => (hb.block k (Array.getElem?_eq_some_iff.1 hk).1).trans hk
/-- A box of another type stays. -/
theorem kptBox (h : Kpt g w w') {k : Nat} {cs : Array Value} {t : TypeId} (hk : w.heap[k]? = some (.cells cs t (0, 0))) (hne : k ≠ g) (ht : t ≠ 5) : w'.heap[k]? = some (.cells cs t (0, 0)) :=
  h k _ hk (fun e => hne (Option.some.inj e)) fun c fz e => ht (by injection e)
end
/-- What a function of the printer leaves. -/
def PrR (w0 : World) (g : Nat) (tr : Value) (d : Int) (L : List UInt8) (w : World) (e : Ending) (w' : World) : Prop :=
  e = .returned (.tuple #[]) ∧ Sx w0 g tr d L w' ∧ Kpt g w w' ∧ w.heap.size ≤ w'.heap.size
theorem wByte {w0 w : World} {g : Nat} {tr : Value} {d : Int} {L : List UInt8} (c : UInt8) (h : Sx w0 g tr d L w) (hl : L.length + 1 ≤ 1099511627776) :
    Calls Tryz.prog 25 #[.pointer (some ⟨g, 0, none⟩), .int .u8 (c.toNat : Int)] w fun e w' => e = .returned .nilIface ∧ Sx w0 g tr d (L ++ [c]) w' ∧ Kpt g w w' ∧ w.heap.size ≤ w'.heap.size := by
  refine (writeByteW c h.wr (by omega) h.bel.size).mono ?_
  rintro e w' ⟨rfl, h1, h2, h3⟩
  exact ⟨rfl, ⟨h1, h.bel.trans h2⟩, h3, h2.size⟩
theorem wStr {w0 w : World} {g : Nat} {tr : Value} {d : Int} {L : List UInt8} (s : ByteArray) (h : Sx w0 g tr d L w) (hl : L.length + s.size ≤ 1099511627776) :
    Calls Tryz.prog 13 #[.pointer (some ⟨g, 0, none⟩), .string s] w fun e w' => e = .returned (.tuple #[.int .i64 s.size, .nilIface]) ∧ Sx w0 g tr d (L ++ txB s) w' ∧ Kpt g w w' ∧ w.heap.size ≤ w'.heap.size := by
  refine (writeStringW s h.wr (by omega) h.bel.size).mono ?_
  rintro e w' ⟨rfl, h1, h2, h3⟩
  exact ⟨rfl, ⟨h1, h.bel.trans h2⟩, h3, h2.size⟩
set_option maxHeartbeats 1000000 in
theorem spaced_any {w : World} {m : Int} (s : ByteArray) (hs : s.size ≤ 1000) (hm : w.cell? ⟨0, 0, none⟩ = some (.int .i64 m)) :
    Calls Tryz.prog 26 #[.string s] w fun e w' => e = .returned (.string ⟨(wideL (txB s)).toArray⟩) ∧ Below w.heap.size w w' := by
  go_enter Tryz.func26, Tryz.ntmps26
  go_wp2_with fail
  refine Calls.mono (Tryz.strings_ReplaceAll s ⟨#[44]⟩ ⟨#[44, 32]⟩ m _ (by omega) hm (by decide) (by have := Lib.count_le s.data.toList [44]; show s.size + Lib.count s.data.toList [44] * 2 ≤ _; have h2 : s.data.toList.length = s.size := rfl; omega)) ?_
  rintro e w1 ⟨rfl, hb⟩
  have HB := Lib.hid hb
  have HR := Lib.hid (rep_all (txB s))
  clear hb
  go_wp2_with fail
  go_ret
  exact ⟨by rw [← HR.out]; rfl, HB.out⟩
set_option maxHeartbeats 1000000 in
theorem line_any {w0 w : World} {g : Nat} {tr : Value} {i : Nat} {L : List UInt8} (h : Sx w0 g tr (i : Int) L w) (hi : i ≤ 100000) (hl : L.length + (i + 1) ≤ 1099511627776) :
    Calls Tryz.prog 15 #[.pointer (some ⟨g, 0, none⟩)] w (PrR w0 g tr (i : Int) (L ++ tabL i) w) := by
  have HS := Lib.hid h
  clear h
  go_enter Tryz.func15, Tryz.ntmps15
  go_wp2_with fail
  refine Calls.mono (wByte 10 HS.out (by omega)) ?_
  rintro e w1 ⟨rfl, h1, hk1, hs1⟩
  have H1 := Lib.hid h1
  have HK1 := Lib.hid hk1
  obtain ⟨_, c3, _⟩ := h1.cells
  clear h1 hk1
  go_wp2_with fail
  clear c3
  go_loopw [10] (fun v wr => ∃ j : Nat, v = .int .i64 (j : Int) ∧ j ≤ i ∧ Hid (Sx w0 g tr (i : Int) (L ++ [10] ++ List.replicate j 9) wr) ∧ Hid (Kpt g w1 wr) ∧ w1.heap.size ≤ wr.heap.size) (fun v _ => i - (intOf v).toNat)
  case atStart => exact ⟨0, rfl, Nat.zero_le _, Lib.hid (by simpa using H1.out), Lib.hid (Lib.OthersKept.refl _ _ _), Nat.le_refl _⟩
  case round =>
    obtain ⟨j, rfl, hj, HX, HK, hsz⟩ := hrel
    by_cases hlt : (j : Int) < (i : Int)
    · go_wp2_with fail
      refine Calls.mono (wByte 9 HX.out (by simp; omega)) ?_
      rintro e w2 ⟨rfl, h2, hk2, hs2⟩
      have H2 := Lib.hid (h2.to (L' := L ++ [10] ++ List.replicate (j + 1) 9) (by rw [List.replicate_succ']; simp))
      have HK2 := Lib.hid (HK.out.trans hk2)
      clear h2 hk2
      go_wp2_with fail
      go_roundw
      case rel => exact ⟨j + 1, by simp, by omega, H2, HK2, by omega⟩
      case measure => simp [intOf]; omega
    · have hji : j = i := by omega
      subst hji
      go_wp2_with fail
      go_end0
      exact ⟨rfl, HX.out.to (by simp [tabL]), HK1.out.trans HK.out, by omega⟩
end Go.Proofs.YtkpejdkffkhekaaGreatDoor
end
section
/- The printer: lists of expressions, operands in brackets. Conditions: the nodes ahead are printed right. -/
set_option maxRecDepth 100000
namespace Go.Proofs.YtkpejdkffkhekaaGreatDoor
open Go.ChangeShapes Go.WideShapes Go.ChangeAt Go.RowKit
theorem comL_cons (a : List UInt8) : ∀ r : List (List UInt8), r ≠ [] → comL (a :: r) = a ++ [44, 32] ++ comL r
  | [], h => absurd rfl h
  | _ :: _, _ => rfl
theorem comL_snoc : ∀ (l : List (List UInt8)) (a : List UInt8), comL (l ++ [a]) = if l = [] then a else comL l ++ [44, 32] ++ a
  | [], a => rfl
  | b :: r, a => by
    have ih := comL_snoc r a
    by_cases hr : r = []
    · subst hr
      simp [comL]
    · rw [List.cons_append, comL_cons b (r ++ [a]) (by simp), ih, if_neg hr, if_neg (by simp), comL_cons b r hr]
      simp
theorem comL_app_le : ∀ (m l : List (List UInt8)), (comL l).length ≤ (comL (l ++ m)).length
  | [], l => by simp
  | a :: m, l => by
    have h1 := comL_app_le m (l ++ [a])
    have h2 := comL_snoc l a
    rw [List.append_assoc] at h1
    refine Nat.le_trans ?_ h1
    rw [h2]
    split
    · rename_i h
      subst h
      simp [comL]
    · simp only [List.length_append]
      omega
theorem comL_take_le (l : List (List UInt8)) (j : Nat) : (comL (l.take j)).length ≤ (comL l).length := by
  have := comL_app_le (l.drop j) (l.take j)
  rwa [List.take_append_drop] at this
/-- A node of the tree, as it lies in memory. -/
structure NodeV (w0 : World) (b off : Nat) (T : List ND) (q : Nat) (A4 : Option Addr) (c4 : Nat) : Prop where
  lt : q < T.length
  hb : b < w0.heap.size
  e0 : w0.cell? ⟨b, off + q * 5, none⟩ = some (.int .i64 (ndT T q).kind)
  e1 : w0.cell? ⟨b, off + q * 5 + 1, none⟩ = some (.string (ndT T q).text)
  e2 : w0.cell? ⟨b, off + q * 5 + 2, none⟩ = some (.string (ndT T q).typ)
  e3 : w0.cell? ⟨b, off + q * 5 + 3, none⟩ = some (.int .i64 (ndT T q).num)
  e4 : w0.cell? ⟨b, off + q * 5 + 4, none⟩ = some (.slice A4 (ndT T q).kids.length c4)
  row : RdM w0 (· < w0.heap.size) 1 A4 (ndT T q).kids.length ((ndT T q).kids.map (Value.int .i64))
  cap : (ndT T q).kids.length ≤ c4 ∧ c4 ≤ maxLen
  nb : -9223372036854775808 ≤ (ndT T q).num ∧ (ndT T q).num ≤ 9223372036854775807
theorem Ev.form {w0 : World} {A : Option Addr} {c : Nat} {T : List ND} {m : Int} (h : Ev w0 A c T m) : ∃ b off, A = some ⟨b, off, none⟩ ∧ T.length ≤ c := by
  obtain ⟨A', c', ess, e, hlc, hcm, _, hr, hall⟩ := h.rd
  simp at e
  obtain ⟨rfl, rfl⟩ := e
  obtain ⟨b, off, cs, x, rfl, hb, hx, hrd, hcell⟩ := Shp.elem hr hall h.good.2.1.1 rfl
  exact ⟨b, off, rfl, hlc⟩
theorem Ev.node {w0 : World} {b off c : Nat} {T : List ND} {m : Int} (h : Ev w0 (some ⟨b, off, none⟩) c T m) {q : Nat} (hq : q < T.length) : ∃ A4 c4, NodeV w0 b off T q A4 c4 := by
  obtain ⟨A', c', ess, e, hlc, hcm, _, hr, hall⟩ := h.rd
  simp at e
  obtain ⟨rfl, rfl⟩ := e
  obtain ⟨b', off', cs, x, eA, hb, hx, hrd, hcell⟩ := Shp.elem hr hall hq rfl
  injection eA with eA
  injection eA with eA eA2
  subst eA eA2
  obtain ⟨A4, c4, rfl, q0, q3, r4, l4, m4, n4, b4⟩ := ND.elim hrd
  have hx2 : ndT T q = x := by
    unfold ndT
    rw [hx]
    rfl
  subst hx2
  exact ⟨A4, c4, hq, hb, hcell 0 _ rfl, hcell 1 _ rfl, hcell 2 _ rfl, hcell 3 _ rfl, hcell 4 _ rfl, r4, ⟨l4, m4⟩, q3⟩
section
variable (w0 : World) (g b off c : Nat) (T : List ND)
@[reducible] def trV : Value := .slice (some ⟨b, off, none⟩) T.length c
/-- Nodes as values. -/
@[reducible] def ndW (x : ND) (A4 : Option Addr) (c4 : Nat) : Value := .agg #[.int .i64 x.kind, .string x.text, .string x.typ, .int .i64 x.num, .slice A4 x.kids.length c4]
/-- 'expr' prints the node q. -/
def ExC (q : Nat) : Prop := ∀ A4 c4, NodeV w0 b off T q A4 c4 → isE (ndT T q).kind = true → ∀ (d : Nat) (L : List UInt8) (w : World), Sx w0 g (trV b off c T) (d : Int) L w → d + q ≤ 9000 → L.length + (prN T q d).length ≤ 1099511627776 →
  Calls Tryz.prog 63 #[.pointer (some ⟨g, 0, none⟩), ndW (ndT T q) A4 c4] w (PrR w0 g (trV b off c T) (d : Int) (L ++ prN T q d) w)
end
set_option maxHeartbeats 4000000 in
theorem kids_any {w0 : World} {g b off c : Nat} {T : List ND} {m : Int} (hev : Ev w0 (some ⟨b, off, none⟩) c T m) (zs : List Nat) (hz : ∀ q ∈ zs, q < T.length ∧ isE (ndT T q).kind = true ∧ ExC w0 g b off c T q) (s : ByteArray) (x0 x3 : Int) (x1 x2 : ByteArray) (A5 : Option Addr) (c5 : Nat) (d : Nat) (hd : ∀ q ∈ zs, d + q ≤ 9000)
    (hrow : RdM w0 (· < w0.heap.size) 1 A5 zs.length (zs.map fun (q : Nat) => Value.int .i64 (q : Int))) (hzl : zs.length ≤ 1000000) {L : List UInt8} {w : World} (h : Sx w0 g (trV b off c T) (d : Int) L w) (hl : L.length + (txB s).length + (comL (zs.map fun q => prN T q d)).length ≤ 1099511627776) :
    Calls Tryz.prog 62 #[.pointer (some ⟨g, 0, none⟩), .string s, .agg #[.int .i64 x0, .string x1, .string x2, .int .i64 x3, .slice A5 zs.length c5]] w (PrR w0 g (trV b off c T) (d : Int) (L ++ txB s ++ comL (zs.map fun q => prN T q d)) w) := by
  have HS := Lib.hid h
  have HE := Lib.hid hev
  have HZ := Lib.hid hz
  have HD := Lib.hid hd
  have HR := Lib.hid hrow
  have hgw := h.lt
  have hs1 : (txB s).length = s.size := rfl
  obtain ⟨n, hn⟩ : ∃ n, n = zs.length := ⟨_, rfl⟩
  rw [← hn] at hzl HR ⊢
  have HN := Lib.hid hn
  have HL := Lib.hid hl
  have hl0 : L.length + s.size ≤ 1099511627776 := by omega
  clear h hev hz hd hrow hn hl hs1
  go_enter Tryz.func62, Tryz.ntmps62
  go_wp2_with fail
  refine Calls.mono (wStr s (HS.out.keep (al _)) hl0) ?_
  rintro e w1 ⟨rfl, h1, hk1, hsz1⟩
  have hbox := kptBox hk1 (heap_alloc_new w _) (by omega) (by decide)
  have b4 : w1.cell? ⟨w.heap.size, 4, none⟩ = some (.slice A5 n c5) := by rw [Lib.cell_of_heap hbox]; rfl
  have H1 := Lib.hid h1
  have HK1 := Lib.hid ((kptBel (g := g) (al (w := w) (.cells #[.int .i64 x0, .string x1, .string x2, .int .i64 x3, .slice A5 n c5] 31))).trans hk1)
  have hw1 : w.heap.size ≤ w1.heap.size := by simp at hsz1; omega
  clear h1 hk1 hbox hsz1
  go_wp2_with fail
  clear b4
  go_loopw [16] (fun v wr => ∃ j : Nat, v = .int .i64 (j : Int) ∧ j ≤ n ∧ Hid (Sx w0 g (trV b off c T) (d : Int) (L ++ txB s ++ comL ((zs.take j).map fun q => prN T q d)) wr) ∧ Hid (Kpt g w wr) ∧ w.heap.size ≤ wr.heap.size) (fun v _ => n - (intOf v).toNat)
  case atStart => exact ⟨0, rfl, Nat.zero_le _, Lib.hid (by simpa [comL] using H1.out), HK1, hw1⟩
  case round =>
    obtain ⟨j, rfl, hj, HX, HK, hsz⟩ := hrel
    by_cases hlt : (j : Int) < (n : Int)
    · have hjz : j < zs.length := by have := HN.out; omega
      obtain ⟨q, hq⟩ : ∃ q, zs[j]? = some q := ⟨_, List.getElem?_eq_getElem hjz⟩
      have hqm : q ∈ zs := List.mem_of_getElem? hq
      obtain ⟨z1, z2, z3⟩ := HZ.out q hqm
      obtain ⟨A4, c4, hnv⟩ := HE.out.node z1
      obtain ⟨b5, o5, rfl, hb5, hcl5⟩ := HR.out.2 (by omega)
      have r0 := (HX.out.bel.cell (p := ⟨b5, o5 + j, none⟩) hb5).trans (hcl5 j (.int .i64 (q : Int)) (by rw [List.getElem?_map, hq]; rfl))
      obtain ⟨t2, _, _⟩ := HX.out.cells
      have HCL := Lib.hid (fun (W : World) (hW : Below w0.heap.size w0 W) => And.intro ((hW.cell (p := ⟨b, off + q * 5, none⟩) hnv.hb).trans hnv.e0) (And.intro ((hW.cell (p := ⟨b, off + q * 5 + 1, none⟩) hnv.hb).trans hnv.e1) (And.intro ((hW.cell (p := ⟨b, off + q * 5 + 2, none⟩) hnv.hb).trans hnv.e2) (And.intro ((hW.cell (p := ⟨b, off + q * 5 + 3, none⟩) hnv.hb).trans hnv.e3) ((hW.cell (p := ⟨b, off + q * 5 + 4, none⟩) hnv.hb).trans hnv.e4)))))
      have HT := Lib.hid (show (zs.take (j + 1)).map (fun q => prN T q d) = (zs.take j).map (fun q => prN T q d) ++ [prN T q d] by rw [List.take_add_one, hq]; simp)
      have HTL := Lib.hid (show (comL ((zs.take (j + 1)).map fun q => prN T q d)).length ≤ (comL (zs.map fun q => prN T q d)).length by rw [List.map_take]; exact comL_take_le _ _)
      have hqT : (q : Int) < (T.length : Int) := by omega
      have HNV := Lib.hid hnv
      have HZ3 := Lib.hid z3
      have HZ2 := Lib.hid z2
      have HQM := Lib.hid hqm
      clear hq hqm z2 z3 hnv hcl5
      by_cases hj0 : 0 < (j : Int)
      · have HNE := Lib.hid (show (zs.take j).map (fun q => prN T q d) ≠ [] by
          intro e
          have := congrArg List.length e
          simp only [List.length_map, List.length_take, List.length_nil] at this
          omega)
        go_wp2_with fail
        refine Calls.mono (wStr ⟨#[44, 32]⟩ HX.out ?_) ?_
        · have h1 := HL.out
          have h2 := HTL.out
          rw [HT.out, comL_snoc, if_neg HNE.out] at h2
          simp only [List.length_append, List.length_cons, List.length_nil] at h2 ⊢
          show _ + 2 ≤ _
          omega
        rintro e w2 ⟨rfl, h2, hk2, hs2⟩
        obtain ⟨k0, k1, k2, k3, k4⟩ := HCL.out _ h2.bel
        obtain ⟨u2, _, _⟩ := h2.cells
        have H2 := Lib.hid h2
        have HK2 := Lib.hid (HK.out.trans hk2)
        clear h2 hk2 r0 t2
        go_wp2_with fail
        refine Calls.mono (HZ3.out _ _ HNV.out HZ2.out d _ _ H2.out (HD.out q HQM.out) ?_) ?_
        · have h1 := HL.out
          have h2 := HTL.out
          rw [HT.out, comL_snoc, if_neg HNE.out] at h2
          have h3 : (txB (⟨#[44, 32]⟩ : ByteArray)).length = 2 := rfl
          simp only [List.length_append, List.length_cons, List.length_nil, h3] at h2 ⊢
          omega
        rintro e w3 ⟨rfl, h3, hk3, hs3⟩
        have H3 := Lib.hid (h3.to (L' := L ++ txB s ++ comL ((zs.take (j + 1)).map fun q => prN T q d)) (by
          rw [HT.out, comL_snoc, if_neg HNE.out, show txB (⟨#[44, 32]⟩ : ByteArray) = [44, 32] from rfl]
          simp only [List.append_assoc]))
        have HK3 := Lib.hid (HK2.out.trans hk3)
        clear h3 hk3 k0 k1 k2 k3 k4 u2
        go_wp2_with fail
        go_roundw
        case rel => exact ⟨j + 1, by simp, by omega, H3, HK3, by omega⟩
        case measure => simp [intOf]; omega
      · have hjz0 : j = 0 := by omega
        subst hjz0
        rw [Nat.add_zero] at r0
        obtain ⟨k0, k1, k2, k3, k4⟩ := HCL.out _ HX.out.bel
        clear hj0
        go_wp2_with fail
        refine Calls.mono (HZ3.out _ _ HNV.out HZ2.out d _ _ HX.out (HD.out q HQM.out) ?_) ?_
        · have h1 := HL.out
          have h2 := HTL.out
          rw [HT.out] at h2
          simp [comL] at h2 ⊢
          omega
        rintro e w3 ⟨rfl, h3, hk3, hs3⟩
        have H3 := Lib.hid (h3.to (L' := L ++ txB s ++ comL ((zs.take (0 + 1)).map fun q => prN T q d)) (by rw [HT.out]; simp [comL]))
        have HK3 := Lib.hid (HK.out.trans hk3)
        clear h3 hk3 k0 k1 k2 k3 k4 t2 r0
        go_wp2_with fail
        go_roundw
        case rel => exact ⟨0 + 1, by simp, by omega, H3, HK3, by omega⟩
        case measure => simp [intOf]; omega
    · have hjn : j = n := by omega
      go_wp2_with fail
      go_end0
      exact ⟨rfl, HX.out.to (by rw [List.take_of_length_le (by have := HN.out; omega), List.append_assoc]), HK.out, hsz⟩
end Go.Proofs.YtkpejdkffkhekaaGreatDoor
end
section
/- The printer: operands in brackets, blocks. Conditions: the nodes ahead are printed right. -/
set_option maxRecDepth 100000
namespace Go.Proofs.YtkpejdkffkhekaaGreatDoor
open Go.ChangeShapes Go.WideShapes Go.ChangeAt Go.RowKit
/-- A kid of a node of a good tree. -/
theorem kid_at {T : List ND} (hg : GoodT T) {k : Nat} (hk : k < T.length) {j : Nat} (hj : j < (ndT T k).kids.length) : ∃ q : Nat, (ndT T k).kids[j]? = some (q : Int) ∧ kidT (ndT T k) j = q ∧ q < k ∧ kidN (ndT T k) j (ndT T q).kind = true := by
  obtain ⟨a, ha⟩ := Option.isSome_iff_exists.1 (laid_all hg.2.1 k hk)
  obtain ⟨h1, h2⟩ := ndT_mem hk
  obtain ⟨hcn, hf⟩ := (startOf_fwd h1).1 ha
  obtain ⟨s, hs⟩ := hf.pre (j + 1) hj
  obtain ⟨q, s', x, g1, g2, g3, _, _, _⟩ := hs
  have hup := (laid_up hg.2.1 k j q (by rw [kidAt_get h1]; exact g1)).1
  refine ⟨q, g1, by unfold kidT; rw [g1]; simp, by omega, ?_⟩
  have := (ndT_mem (T := T) (q := q) (by omega)).1
  rw [g2] at this
  injection this with this
  rw [← this]
  exact g3
theorem cnt_at {T : List ND} (hg : GoodT T) {k : Nat} (hk : k < T.length) : cntN (ndT T k) = true := by
  obtain ⟨a, ha⟩ := Option.isSome_iff_exists.1 (laid_all hg.2.1 k hk)
  exact ((startOf_fwd (ndT_mem hk).1).1 ha).1
theorem prT_kid {T : List ND} {k q i : Nat} (h : q < k) : prT T k q i = prN T q i := prT_eq T k q i h
/-- A kid's number, in whatever world. -/
theorem NodeV.kid {w0 w : World} {b off k c4 j q : Nat} {T : List ND} {A4 : Option Addr} (h : NodeV w0 b off T k A4 c4) (hw : Below w0.heap.size w0 w) (hq : (ndT T k).kids[j]? = some (q : Int)) : ∃ b5 o5, A4 = some ⟨b5, o5, none⟩ ∧ j < (ndT T k).kids.length ∧ b5 < w0.heap.size ∧ w.cell? ⟨b5, o5 + j, none⟩ = some (.int .i64 (q : Int)) := by
  have hj : j < (ndT T k).kids.length := (List.getElem?_eq_some_iff.1 hq).1
  obtain ⟨b5, o5, rfl, hb5, hcl5⟩ := h.row.2 (by omega)
  exact ⟨b5, o5, rfl, hj, hb5, (hw.cell (p := ⟨b5, o5 + j, none⟩) hb5).trans (hcl5 j (.int .i64 (q : Int)) (by rw [List.getElem?_map, hq]; rfl))⟩
/-- A node's cells, in whatever world. -/
theorem NodeV.cells {w0 w : World} {b off k c4 : Nat} {T : List ND} {A4 : Option Addr} (h : NodeV w0 b off T k A4 c4) (hw : Below w0.heap.size w0 w) : w.cell? ⟨b, off + k * 5, none⟩ = some (.int .i64 (ndT T k).kind) ∧ w.cell? ⟨b, off + k * 5 + 1, none⟩ = some (.string (ndT T k).text) ∧ w.cell? ⟨b, off + k * 5 + 2, none⟩ = some (.string (ndT T k).typ) ∧ w.cell? ⟨b, off + k * 5 + 3, none⟩ = some (.int .i64 (ndT T k).num) ∧ w.cell? ⟨b, off + k * 5 + 4, none⟩ = some (.slice A4 (ndT T k).kids.length c4) :=
  ⟨(hw.cell (p := ⟨b, off + k * 5, none⟩) h.hb).trans h.e0, (hw.cell (p := ⟨b, off + k * 5 + 1, none⟩) h.hb).trans h.e1, (hw.cell (p := ⟨b, off + k * 5 + 2, none⟩) h.hb).trans h.e2, (hw.cell (p := ⟨b, off + k * 5 + 3, none⟩) h.hb).trans h.e3, (hw.cell (p := ⟨b, off + k * 5 + 4, none⟩) h.hb).trans h.e4⟩
set_option maxHeartbeats 4000000 in
theorem pwithin_any {w0 : World} {g b off c : Nat} {T : List ND} {q : Nat} (hex : ExC w0 g b off c T q) {A4 : Option Addr} {c4 : Nat} (hnv : NodeV w0 b off T q A4 c4) (hk : isE (ndT T q).kind = true) (br : Bool) {d : Nat} (hd : d + q ≤ 9000) {L : List UInt8} {w : World} (h : Sx w0 g (trV b off c T) (d : Int) L w) (hl : L.length + (brL br (prN T q d)).length ≤ 1099511627776) :
    Calls Tryz.prog 83 #[.pointer (some ⟨g, 0, none⟩), ndW (ndT T q) A4 c4, .bool br] w (PrR w0 g (trV b off c T) (d : Int) (L ++ brL br (prN T q d)) w) := by
  have HS := Lib.hid h
  have HX := Lib.hid hex
  have HNV := Lib.hid hnv
  have HK := Lib.hid hk
  have hgw := h.lt
  have HKB := Lib.hid (kptBel (g := g) (al (w := w) (.cells #[.int .i64 (ndT T q).kind, .string (ndT T q).text, .string (ndT T q).typ, .int .i64 (ndT T q).num, .slice A4 (ndT T q).kids.length c4] 31)))
  have HSA := Lib.hid (HS.out.keep (al (w := w) (.cells #[.int .i64 (ndT T q).kind, .string (ndT T q).text, .string (ndT T q).typ, .int .i64 (ndT T q).num, .slice A4 (ndT T q).kids.length c4] 31)))
  have HL := Lib.hid hl
  clear h hex hnv hk hl
  cases br with
  | false =>
    go_enter Tryz.func83, Tryz.ntmps83
    go_wp2_with fail
    refine Calls.mono (HX.out _ _ HNV.out HK.out d _ _ HSA.out hd HL.out) ?_
    rintro e w1 ⟨rfl, h1, hk1, hs1⟩
    have H1 := Lib.hid h1
    have HK1 := Lib.hid (HKB.out.trans hk1)
    have hw1 : w.heap.size ≤ w1.heap.size := by simp at hs1; omega
    clear h1 hk1 hs1
    go_wp2_with fail
    go_end0
    exact ⟨rfl, H1.out, HK1.out, hw1⟩
  | true =>
    have hl2 : L.length + ((prN T q d).length + 2) ≤ 1099511627776 := by
      have := HL.out
      unfold brL at this
      simp at this
      omega
    go_enter Tryz.func83, Tryz.ntmps83
    go_wp2_with fail
    refine Calls.mono (wByte 40 HSA.out (by omega)) ?_
    rintro e w1 ⟨rfl, h1, hk1, hs1⟩
    have hbox := kptBox hk1 (heap_alloc_new w _) (by omega) (by decide)
    have e0 : w1.cell? ⟨w.heap.size, 0, none⟩ = some (.int .i64 (ndT T q).kind) := by rw [Lib.cell_of_heap hbox]; rfl
    have e1 : w1.cell? ⟨w.heap.size, 1, none⟩ = some (.string (ndT T q).text) := by rw [Lib.cell_of_heap hbox]; rfl
    have e2 : w1.cell? ⟨w.heap.size, 2, none⟩ = some (.string (ndT T q).typ) := by rw [Lib.cell_of_heap hbox]; rfl
    have e3 : w1.cell? ⟨w.heap.size, 3, none⟩ = some (.int .i64 (ndT T q).num) := by rw [Lib.cell_of_heap hbox]; rfl
    have e4 : w1.cell? ⟨w.heap.size, 4, none⟩ = some (.slice A4 (ndT T q).kids.length c4) := by rw [Lib.cell_of_heap hbox]; rfl
    have H1 := Lib.hid h1
    have HK1 := Lib.hid (HKB.out.trans hk1)
    have hw1 : w.heap.size ≤ w1.heap.size := by simp at hs1; omega
    clear h1 hk1 hs1 hbox
    go_wp2_with fail
    refine Calls.mono (HX.out _ _ HNV.out HK.out d _ _ H1.out hd (by simp; omega)) ?_
    rintro e w2 ⟨rfl, h2, hk2, hs2⟩
    have H2 := Lib.hid h2
    have HK2 := Lib.hid (HK1.out.trans hk2)
    clear h2 hk2 e0 e1 e2 e3 e4
    go_wp2_with fail
    refine Calls.mono (wByte 41 H2.out (by simp; omega)) ?_
    rintro e w3 ⟨rfl, h3, hk3, hs3⟩
    have H3 := Lib.hid (h3.to (L' := L ++ brL true (prN T q d)) (by unfold brL; simp))
    have HK3 := Lib.hid (HK2.out.trans hk3)
    clear h3 hk3
    go_wp2_with fail
    go_end0
    exact ⟨rfl, H3.out, HK3.out, by omega⟩
section
variable (w0 : World) (g b off c : Nat) (T : List ND)
/-- 'statement' prints the node q. -/
def StC (q : Nat) : Prop := ∀ A4 c4, NodeV w0 b off T q A4 c4 → (5 ≤ (ndT T q).kind ∧ (ndT T q).kind ≤ 15) → ∀ (d : Nat) (L : List UInt8) (w : World), Sx w0 g (trV b off c T) (d : Int) L w → d + q ≤ 9000 → L.length + (prN T q d).length ≤ 1099511627776 →
  Calls Tryz.prog 46 #[.pointer (some ⟨g, 0, none⟩), ndW (ndT T q) A4 c4] w (PrR w0 g (trV b off c T) (d : Int) (L ++ prN T q d) w)
def BlC (q : Nat) : Prop := ∀ A4 c4, NodeV w0 b off T q A4 c4 → (ndT T q).kind = 5 → ∀ (d : Nat) (L : List UInt8) (w : World), Sx w0 g (trV b off c T) (d : Int) L w → d + q ≤ 9000 → L.length + (prN T q d).length ≤ 1099511627776 →
  Calls Tryz.prog 27 #[.pointer (some ⟨g, 0, none⟩), ndW (ndT T q) A4 c4] w (PrR w0 g (trV b off c T) (d : Int) (L ++ prN T q d) w)
end
/-- The lines of a block, up to the kid j. -/
def linL (T : List ND) (k d j : Nat) : List UInt8 := (((List.range j).map (kidT (ndT T k))).map fun q => tabL (d + 1) ++ prN T q (d + 1)).flatten
theorem linL_succ (T : List ND) (k d j : Nat) : linL T k d (j + 1) = linL T k d j ++ (tabL (d + 1) ++ prN T (kidT (ndT T k) j) (d + 1)) := by
  unfold linL
  rw [List.range_succ]
  simp
theorem linL_le (T : List ND) (k d : Nat) {j n : Nat} (h : j ≤ n) : (linL T k d j).length ≤ (linL T k d n).length := by
  induction n with
  | zero => obtain rfl : j = 0 := by omega
            exact Nat.le_refl _
  | succ n ih =>
    by_cases hj : j = n + 1
    · subst hj; exact Nat.le_refl _
    · have := ih (by omega)
      rw [linL_succ, List.length_append]
      omega
theorem block_txt {T : List ND} (hg : GoodT T) {k : Nat} (hk : k < T.length) (h5 : (ndT T k).kind = 5) (d : Nat) : prN T k d = if (ndT T k).kids.length = 0 then [123, 125] else [123] ++ linL T k d (ndT T k).kids.length ++ tabL d ++ [125] := by
  unfold prN prS
  rw [if_pos h5]
  by_cases h0 : (ndT T k).kids = []
  · rw [if_pos h0, if_pos (by rw [h0]; rfl)]
  · rw [if_neg h0, if_neg (by simpa using h0)]
    congr 3
    unfold linL
    rw [kids_range]
    congr 1
    apply List.map_congr_left
    intro q hq
    obtain ⟨j, hj, rfl⟩ := List.mem_map.1 hq
    obtain ⟨q', _, h2, h3, _⟩ := kid_at hg hk (List.mem_range.1 hj)
    rw [h2, prT_kid h3]
end Go.Proofs.YtkpejdkffkhekaaGreatDoor
end
section
/- The printer: blocks. Conditions: the nodes ahead are printed right. -/
set_option maxRecDepth 100000
namespace Go.Proofs.YtkpejdkffkhekaaGreatDoor
open Go.ChangeShapes Go.WideShapes Go.ChangeAt Go.RowKit
set_option maxHeartbeats 4000000 in
theorem pblock_any {w0 : World} {g b off c : Nat} {T : List ND} {m : Int} (hev : Ev w0 (some ⟨b, off, none⟩) c T m) {k : Nat} (hst : ∀ q, q < k → StC w0 g b off c T q) : BlC w0 g b off c T k := by
  intro A4 c4 hnv h5 d L w h hd hl
  have HE := Lib.hid hev
  have HST := Lib.hid hst
  have HNV := Lib.hid hnv
  have HS := Lib.hid h
  have hgw := h.lt
  have hkT := hnv.lt
  have HTX := Lib.hid (block_txt hev.good hkT h5 d)
  have HL := Lib.hid hl
  have H5 := Lib.hid h5
  obtain ⟨n, hn⟩ : ∃ n, n = (ndT T k).kids.length := ⟨_, rfl⟩
  have HN := Lib.hid hn
  have hncap : n ≤ 17592186043904 := by have h1 := (hev.fit _ (ndT_mem hkT).2).2.2; omega
  have HKB := Lib.hid (kptBel (g := g) (al (w := w) (.cells #[.int .i64 (ndT T k).kind, .string (ndT T k).text, .string (ndT T k).typ, .int .i64 (ndT T k).num, .slice A4 n c4] 31)))
  have HSA := Lib.hid (HS.out.keep (al (w := w) (.cells #[.int .i64 (ndT T k).kind, .string (ndT T k).text, .string (ndT T k).typ, .int .i64 (ndT T k).num, .slice A4 n c4] 31)))
  have hl1 : L.length + 1 ≤ 1099511627776 := by
    have := HL.out
    rw [HTX.out] at this
    split at this
    · simp at this; omega
    · simp only [List.length_append, List.length_cons, List.length_nil] at this; omega
  unfold ndW
  rw [← hn]
  clear h hev hst hnv hl h5 hn
  go_enter Tryz.func27, Tryz.ntmps27
  go_wp2_with fail
  refine Calls.mono (wByte 123 HSA.out hl1) ?_
  rintro e w1 ⟨rfl, h1, hk1, hs1⟩
  have hbox := kptBox hk1 (heap_alloc_new w _) (by omega) (by decide)
  obtain ⟨t2, t3, f3⟩ := h1.cells
  have H1 := Lib.hid h1
  have HK1 := Lib.hid (HKB.out.trans hk1)
  have hw1 : w.heap.size ≤ w1.heap.size := by simp at hs1; omega
  have hwrap : wrap64 ((d : Int) + 1) = (d : Int) + 1 := by unfold RowKit.wrap64; omega
  have H3 := Lib.hid (show Sx w0 g (trV b off c T) ((d + 1 : Nat) : Int) (L ++ [123]) (w1.setCell ⟨g, 3, none⟩ (.int .i64 ((d : Int) + 1))) from H1.out.set ((d + 1 : Nat) : Int))
  have HK3 := Lib.hid (show Kpt g w (w1.setCell ⟨g, 3, none⟩ (.int .i64 ((d : Int) + 1))) from HK1.out.trans (kptSet _))
  have hbox3 := kptBox (kptSet (g := g) (w := w1) (.int .i64 ((d : Int) + 1))) hbox (by omega) (by decide)
  have b4 : (w1.setCell ⟨g, 3, none⟩ (.int .i64 ((d : Int) + 1))).cell? ⟨w.heap.size, 4, none⟩ = some (.slice A4 n c4) := by rw [Lib.cell_of_heap hbox3]; rfl
  have hw3 : w.heap.size < (w1.setCell ⟨g, 3, none⟩ (.int .i64 ((d : Int) + 1))).heap.size := (Array.getElem?_eq_some_iff.1 hbox3).1
  clear h1 hk1 hs1 hbox
  go_wp2_with fail
  clear b4 t2 t3 f3 hwrap
  generalize w1.setCell ⟨g, 3, none⟩ (.int .i64 ((d : Int) + 1)) = w3 at *
  go_loopw [20] (fun v wr => ∃ j : Nat, v = .int .i64 (j : Int) ∧ j ≤ n ∧ Hid (Sx w0 g (trV b off c T) ((d + 1 : Nat) : Int) (L ++ [123] ++ linL T k d j) wr) ∧ Hid (Kpt g w wr) ∧ Hid (wr.heap[w.heap.size]? = some (.cells #[.int .i64 (ndT T k).kind, .string (ndT T k).text, .string (ndT T k).typ, .int .i64 (ndT T k).num, .slice A4 n c4] 31 (0, 0)))) (fun v _ => n - (intOf v).toNat)
  case atStart => exact ⟨0, rfl, Nat.zero_le _, Lib.hid (by simpa [linL] using H3.out), HK3, Lib.hid hbox3⟩
  case round =>
    obtain ⟨j, rfl, hj, HX, HK, HBX⟩ := hrel
    by_cases hlt : (j : Int) < (n : Int)
    · have hn0 : ¬ n = 0 := by omega
      have HTL := Lib.hid (show L.length + (linL T k d (j + 1)).length + 1 ≤ 1099511627776 by
        have h1 := HL.out
        have h2 := linL_le T k d (show j + 1 ≤ n by omega)
        rw [HTX.out, ← HN.out, if_neg hn0] at h1
        simp only [List.length_append, List.length_cons, List.length_nil] at h1
        omega)
      have HLS := Lib.hid (linL_succ T k d j)
      obtain ⟨q, hq, hq2, hqk, hqf⟩ := kid_at HE.out.good hkT (j := j) (by have := HN.out; omega)
      rw [hq2] at HLS
      obtain ⟨b5, o5, rfl, _, hb5, z0⟩ := HNV.out.kid HX.out.bel hq
      obtain ⟨A6, c6, hnq⟩ := HE.out.node (show q < T.length by omega)
      have hqT : (q : Int) < (T.length : Int) := by omega
      have HNQ := Lib.hid hnq
      have HQK := Lib.hid (show 5 ≤ (ndT T q).kind ∧ (ndT T q).kind ≤ 15 by
        unfold kidN at hqf
        rw [H5.out] at hqf
        simpa using hqf)
      have HLN := Lib.hid (line_any HX.out (show d + 1 ≤ 100000 by omega) (by
        have h1 := HTL.out
        rw [HLS.out] at h1
        simp only [List.length_append, List.length_cons, List.length_nil, tabL, List.length_replicate] at h1 ⊢
        omega))
      clear hq hq2 hqf hnq hn0
      go_wp2_with fail
      refine Calls.mono HLN.out ?_
      rintro e w4 ⟨rfl, h4, hk4, hs4⟩
      obtain ⟨u2, _, _⟩ := h4.cells
      obtain ⟨v0, v1, v2, v3, v4⟩ := HNQ.out.cells h4.bel
      have HBX4 := Lib.hid (kptBox hk4 HBX.out (by omega) (by decide))
      have HK4 := Lib.hid (HK.out.trans hk4)
      have HSTC := Lib.hid (HST.out q hqk _ _ HNQ.out HQK.out (d + 1) _ _ h4 (by omega) (by
        have h1 := HTL.out
        rw [HLS.out] at h1
        simp only [List.length_append, List.length_cons, List.length_nil] at h1 ⊢
        omega))
      clear h4 hk4 z0
      go_wp2_with fail
      refine Calls.mono HSTC.out ?_
      rintro e w5 ⟨rfl, h5, hk5, hs5⟩
      have H5' := Lib.hid (h5.to (L' := L ++ [123] ++ linL T k d (j + 1)) (by rw [HLS.out]; simp only [List.append_assoc]))
      have HK5 := Lib.hid (HK4.out.trans hk5)
      have HBX5 := Lib.hid (kptBox hk5 HBX4.out (by omega) (by decide))
      clear h5 hk5 u2 v0 v1 v2 v3 v4
      go_wp2_with fail
      go_roundw
      case rel => exact ⟨j + 1, by simp, by omega, H5', HK5, HBX5⟩
      case measure => simp [intOf]; omega
    · have hjn : j = n := by omega
      subst hjn
      obtain ⟨u2, u3, uf⟩ := HX.out.cells
      have hw9 : wrap64 (((d + 1 : Nat) : Int) - 1) = (d : Int) := by unfold RowKit.wrap64; omega
      have H6 := Lib.hid (show Sx w0 g (trV b off c T) (d : Int) (L ++ [123] ++ linL T k d j) (wr.setCell ⟨g, 3, none⟩ (.int .i64 (d : Int))) from HX.out.set (d : Int))
      have HK6 := Lib.hid (show Kpt g w (wr.setCell ⟨g, 3, none⟩ (.int .i64 (d : Int))) from HK.out.trans (kptSet _))
      have hbox6 := kptBox (kptSet (g := g) (w := wr) (.int .i64 (d : Int))) HBX.out (by omega) (by decide)
      have b4 : (wr.setCell ⟨g, 3, none⟩ (.int .i64 (d : Int))).cell? ⟨w.heap.size, 4, none⟩ = some (.slice A4 j c4) := by rw [Lib.cell_of_heap hbox6]; rfl
      have hw6 : w.heap.size ≤ (wr.setCell ⟨g, 3, none⟩ (.int .i64 (d : Int))).heap.size := Nat.le_of_lt (Array.getElem?_eq_some_iff.1 hbox6).1
      by_cases h0 : 0 < (j : Int)
      · have hn0 : ¬ j = 0 := by omega
        have HFT := Lib.hid (show prN T k d = [123] ++ linL T k d j ++ tabL d ++ [125] by rw [HTX.out, ← HN.out, if_neg hn0])
        have HLF := Lib.hid (show L.length + (1 + (linL T k d j).length + (d + 1) + 1) ≤ 1099511627776 by
          have h1 := HL.out
          rw [HFT.out] at h1
          simp only [List.length_append, List.length_cons, List.length_nil, tabL, List.length_replicate] at h1
          omega)
        have HLN := Lib.hid (line_any H6.out (show d ≤ 100000 by omega) (by have h1 := HLF.out; simp only [List.length_append, List.length_cons, List.length_nil]; omega))
        clear hbox6 hn0 hlt
        go_wp2_with fail
        refine Calls.mono HLN.out ?_
        rintro e w7 ⟨rfl, h7, hk7, hs7⟩
        have HB7 := Lib.hid (wByte 125 h7 (by have h1 := HLF.out; simp only [List.length_append, List.length_cons, List.length_nil, tabL, List.length_replicate]; omega))
        have HK7 := Lib.hid (HK6.out.trans hk7)
        clear h7 hk7
        go_wp2_with fail
        refine Calls.mono HB7.out ?_
        rintro e w8 ⟨rfl, h8, hk8, hs8⟩
        have H8 := Lib.hid (h8.to (L' := L ++ prN T k d) (by rw [HFT.out]; simp only [List.append_assoc]))
        have HK8 := Lib.hid (HK7.out.trans hk8)
        clear h8 hk8
        go_wp2_with fail
        go_end0
        exact ⟨rfl, H8.out, HK8.out, by omega⟩
      · have hj0 : j = 0 := by omega
        subst hj0
        have HFT := Lib.hid (show prN T k d = [123, 125] by rw [HTX.out, ← HN.out, if_pos rfl])
        have HB7 := Lib.hid (wByte 125 H6.out (by have h1 := HL.out; rw [HFT.out] at h1; simp [linL] at h1 ⊢; omega))
        clear hbox6 hlt h0
        go_wp2_with fail
        refine Calls.mono HB7.out ?_
        rintro e w8 ⟨rfl, h8, hk8, hs8⟩
        have H8 := Lib.hid (h8.to (L' := L ++ prN T k d) (by rw [HFT.out]; simp [linL]))
        have HK8 := Lib.hid (HK6.out.trans hk8)
        clear h8 hk8
        go_wp2_with fail
        go_end0
        exact ⟨rfl, H8.out, HK8.out, by omega⟩
end Go.Proofs.YtkpejdkffkhekaaGreatDoor
end
section
/- The printer: calls, indices, pieces. Conditions: the nodes ahead are printed right. -/
set_option maxRecDepth 100000
namespace Go.Proofs.YtkpejdkffkhekaaGreatDoor
open Go.ChangeShapes Go.WideShapes Go.ChangeAt Go.RowKit
section
variable (w0 : World) (g b off c : Nat) (T : List ND)
def BhC (q : Nat) : Prop := ∀ A4 c4, NodeV w0 b off T q A4 c4 → ((ndT T q).kind = 28 ∨ (ndT T q).kind = 29 ∨ (ndT T q).kind = 30) → ∀ (d : Nat) (L : List UInt8) (w : World), Sx w0 g (trV b off c T) (d : Int) L w → d + q ≤ 9000 → L.length + (prN T q d).length ≤ 1099511627776 →
  Calls Tryz.prog 84 #[.pointer (some ⟨g, 0, none⟩), ndW (ndT T q) A4 c4] w (PrR w0 g (trV b off c T) (d : Int) (L ++ prN T q d) w)
end
theorem prN_none {T : List ND} {q d : Nat} (h : (ndT T q).kind = 31) : prN T q d = [] := by
  unfold prN prS
  simp only [h, Int.reduceEq, if_false]
/-- The two places of a piece, up to the place j. -/
def pcL (T : List ND) (q1 q2 d : Nat) : Nat → List UInt8
  | 0 => []
  | 1 => prN T q1 d
  | _ => prN T q1 d ++ [58] ++ prN T q2 d
theorem kids_few {T : List ND} (hg : GoodT T) {k : Nat} (hk : k < T.length) : (ndT T k).kids.length ≤ 4000 := by
  obtain ⟨a, ha⟩ := Option.isSome_iff_exists.1 (laid_all hg.2.1 k hk)
  obtain ⟨hcn, hf⟩ := (startOf_fwd (ndT_mem hk).1).1 ha
  have key : ∀ (m e : Nat), Fwd T (ndT T k) a m e → a + m ≤ e := by
    intro m
    induction m with
    | zero => intro e h; have : e = a := h; omega
    | succ m ih =>
      rintro e ⟨q, s, x, _, _, _, h4, h5, rfl⟩
      have h1 := ih s h4
      have h2 := startOf_le q s h5
      omega
  have := key _ _ hf
  have := hg.1
  omega
theorem kids_pos {T : List ND} (hg : GoodT T) {k : Nat} (hk : k < T.length) : ∀ z ∈ (ndT T k).kids, 0 ≤ z := by
  intro z hz
  obtain ⟨j, hj, rfl⟩ := List.mem_iff_getElem.1 hz
  obtain ⟨q, hq, _⟩ := kid_at hg hk hj
  rw [List.getElem?_eq_getElem hj] at hq
  injection hq with hq
  omega
theorem ints_nat {l : List Int} (h : ∀ z ∈ l, 0 ≤ z) : l.map (Value.int .i64) = (l.map Int.toNat).map fun (q : Nat) => Value.int .i64 (q : Int) := by
  rw [List.map_map]
  apply List.map_congr_left
  intro z hz
  show Value.int .i64 z = Value.int .i64 ((z.toNat : Nat) : Int)
  rw [Int.toNat_of_nonneg (h z hz)]
theorem tail_row {w0 : World} {M : Nat → Prop} {b5 o5 mm : Nat} {kids : List Int} (h : RdM w0 M 1 (some ⟨b5, o5, none⟩) kids.length (kids.map (Value.int .i64))) (hn : kids.length = mm + 1) (hp : ∀ z ∈ kids, 0 ≤ z) : RdM w0 M 1 (some ⟨b5, o5 + 1, none⟩) mm ((kids.map Int.toNat).tail.map fun (q : Nat) => Value.int .i64 (q : Int)) := by
  rw [ints_nat hp] at h
  obtain ⟨b', o', e, hb, hc⟩ := h.2 (by omega)
  injection e with e
  injection e with e1 e2
  subst e1 e2
  refine ⟨by simp; omega, fun _ => ⟨b5, o5 + 1, rfl, hb, fun j u hu => ?_⟩⟩
  rw [show o5 + 1 + j = o5 + (j + 1) by omega]
  refine hc (j + 1) u ?_
  rw [← hu]
  simp only [List.getElem?_map, List.getElem?_tail]
set_option maxHeartbeats 4000000 in
theorem behind_any {w0 : World} {g b off c : Nat} {T : List ND} {m : Int} (hev : Ev w0 (some ⟨b, off, none⟩) c T m) {k : Nat} (hex : ∀ q, q < k → ExC w0 g b off c T q) : BhC w0 g b off c T k := by
  intro A4 c4 hnv hkd d L w h hd hl
  have hkT := hnv.lt
  have hk1 : 0 < (ndT T k).kids.length := by
    have hc := cnt_at hev.good hkT
    unfold cntN at hc
    rcases hkd with e | e | e <;> (rw [e] at hc; simp at hc; omega)
  obtain ⟨q, hq, hq2, hqk, hqf⟩ := kid_at hev.good hkT (j := 0) hk1
  obtain ⟨b5, o5, rfl, _, hb5, z0⟩ := hnv.kid h.bel hq
  obtain ⟨A6, c6, hnq⟩ := hev.node (show q < T.length by omega)
  have hqE : isE (ndT T q).kind = true := by
    unfold kidN at hqf
    rcases hkd with e | e | e <;> (rw [e] at hqf; simpa using hqf)
  have HE := Lib.hid hev
  have HEX := Lib.hid hex
  have HNV := Lib.hid hnv
  have HS := Lib.hid h
  have HL := Lib.hid hl
  have hgw := h.lt
  have hbw : b < w.heap.size := Nat.lt_of_lt_of_le hnq.hb h.bel.size
  have hb5w : b5 < w.heap.size := Nat.lt_of_lt_of_le hb5 h.bel.size
  obtain ⟨t2, _, _⟩ := h.cells
  obtain ⟨v0, v1, v2, v3, v4⟩ := hnq.cells h.bel
  obtain ⟨n, hn⟩ : ∃ n, n = (ndT T k).kids.length := ⟨_, rfl⟩
  have HN := Lib.hid hn
  have hn0 : 0 < n := by rw [hn]; exact hk1
  have hn0i : (0 : Int) < (n : Int) := by omega
  have hqT : (q : Int) < (T.length : Int) := by omega
  unfold ndW
  rw [← hn]
  have HQE := Lib.hid hqE
  have HNQ := Lib.hid hnq
  have HQF := Lib.hid hq
  have HQ2 := Lib.hid hq2
  have HKD := Lib.hid hkd
  rw [Nat.add_zero] at z0
  clear h hev hex hnv hl hn hk1 hq hq2 hqf hnq hqE hkd
  have hne1 : g ≠ w.heap.size + 1 := by omega
  have hne2 : w.heap.size + 1 ≠ g := by omega
  have hne3 : b ≠ w.heap.size + 1 := by omega
  have hne4 : w.heap.size + 1 ≠ b := by omega
  have hne5 : b5 ≠ w.heap.size + 1 := by omega
  have hne6 : w.heap.size + 1 ≠ b5 := by omega
  have hne7 : w.heap.size ≠ w.heap.size + 1 := by omega
  have hne8 : w.heap.size + 1 ≠ w.heap.size := by omega
  go_enter Tryz.func84, Tryz.ntmps84
  go_wp2_with fail
  go_region_held3 (fun W => W.cell? ⟨g, 2, none⟩ = some (trV b off c T) ∧ W.cell? ⟨w.heap.size, 4, none⟩ = some (.slice (some ⟨b5, o5, none⟩) n c4) ∧ W.cell? ⟨b5, o5, none⟩ = some (.int .i64 (q : Int)) ∧ W.cell? ⟨b, off + q * 5, none⟩ = some (.int .i64 (ndT T q).kind) ∧ W.cell? ⟨b, off + q * 5 + 1, none⟩ = some (.string (ndT T q).text) ∧ W.cell? ⟨b, off + q * 5 + 2, none⟩ = some (.string (ndT T q).typ) ∧ W.cell? ⟨b, off + q * 5 + 3, none⟩ = some (.int .i64 (ndT T q).num) ∧ W.cell? ⟨b, off + q * 5 + 4, none⟩ = some (.slice A6 (ndT T q).kids.length c6)) (go_keep) (fail)
  have hz1 : (((w.alloc (.cells #[.int .i64 (ndT T k).kind, .string (ndT T k).text, .string (ndT T k).typ, .int .i64 (ndT T k).num, .slice (some ⟨b5, o5, none⟩) n c4] 31)).alloc (.cells #[.int .i64 (ndT T q).kind, .string (ndT T q).text, .string (ndT T q).typ, .int .i64 (ndT T q).num, .slice A6 (ndT T q).kids.length c6] 31)).drew).heap[w.heap.size]? = some (.cells #[.int .i64 (ndT T k).kind, .string (ndT T k).text, .string (ndT T k).typ, .int .i64 (ndT T k).num, .slice (some ⟨b5, o5, none⟩) n c4] 31 (0, 0)) := (Lib.alloc_old _ _ _ (by simp)).trans (heap_alloc_new w _)
  have hz2 : (((w.alloc (.cells #[.int .i64 (ndT T k).kind, .string (ndT T k).text, .string (ndT T k).typ, .int .i64 (ndT T k).num, .slice (some ⟨b5, o5, none⟩) n c4] 31)).alloc (.cells #[.int .i64 (ndT T q).kind, .string (ndT T q).text, .string (ndT T q).typ, .int .i64 (ndT T q).num, .slice A6 (ndT T q).kids.length c6] 31)).drew).heap[w.heap.size + 1]? = some (.cells #[.int .i64 (ndT T q).kind, .string (ndT T q).text, .string (ndT T q).typ, .int .i64 (ndT T q).num, .slice A6 (ndT T q).kids.length c6] 31 (0, 0)) := by
    have hs : (w.alloc (.cells #[.int .i64 (ndT T k).kind, .string (ndT T k).text, .string (ndT T k).typ, .int .i64 (ndT T k).num, .slice (some ⟨b5, o5, none⟩) n c4] 31)).heap.size = w.heap.size + 1 := by simp
    have := heap_alloc_new (w.alloc (.cells #[.int .i64 (ndT T k).kind, .string (ndT T k).text, .string (ndT T k).typ, .int .i64 (ndT T k).num, .slice (some ⟨b5, o5, none⟩) n c4] 31)) (.cells #[.int .i64 (ndT T q).kind, .string (ndT T q).text, .string (ndT T q).typ, .int .i64 (ndT T q).num, .slice A6 (ndT T q).kids.length c6] 31)
    rw [hs] at this
    exact this
  have hzb : Below w.heap.size w (((w.alloc (.cells #[.int .i64 (ndT T k).kind, .string (ndT T k).text, .string (ndT T k).typ, .int .i64 (ndT T k).num, .slice (some ⟨b5, o5, none⟩) n c4] 31)).alloc (.cells #[.int .i64 (ndT T q).kind, .string (ndT T q).text, .string (ndT T q).typ, .int .i64 (ndT T q).num, .slice A6 (ndT T q).kids.length c6] 31)).drew) := dr (sq (al _) (al _)) _
  generalize (((w.alloc (.cells #[.int .i64 (ndT T k).kind, .string (ndT T k).text, .string (ndT T k).typ, .int .i64 (ndT T k).num, .slice (some ⟨b5, o5, none⟩) n c4] 31)).alloc (.cells #[.int .i64 (ndT T q).kind, .string (ndT T q).text, .string (ndT T q).typ, .int .i64 (ndT T q).num, .slice A6 (ndT T q).kids.length c6] 31)).drew) = wz at *
  have HSZ := Lib.hid (HS.out.keep hzb)
  have HKZ := Lib.hid (kptBel (g := g) hzb)
  have HZ1 := Lib.hid hz1
  have k0 : wz.cell? ⟨w.heap.size + 1, 0, none⟩ = some (.int .i64 (ndT T q).kind) := by rw [Lib.cell_of_heap hz2]; rfl
  have k1 : wz.cell? ⟨w.heap.size + 1, 1, none⟩ = some (.string (ndT T q).text) := by rw [Lib.cell_of_heap hz2]; rfl
  have k2 : wz.cell? ⟨w.heap.size + 1, 2, none⟩ = some (.string (ndT T q).typ) := by rw [Lib.cell_of_heap hz2]; rfl
  have k3 : wz.cell? ⟨w.heap.size + 1, 3, none⟩ = some (.int .i64 (ndT T q).num) := by rw [Lib.cell_of_heap hz2]; rfl
  have k4 : wz.cell? ⟨w.heap.size + 1, 4, none⟩ = some (.slice A6 (ndT T q).kids.length c6) := by rw [Lib.cell_of_heap hz2]; rfl
  have hzs : w.heap.size + 1 < wz.heap.size := (Array.getElem?_eq_some_iff.1 hz2).1
  clear hz1 hz2 hzb t2 v0 v1 v2 v3 v4 z0 hne1 hne2 hne3 hne4 hne5 hne6 hne7 hne8
  obtain ⟨br, hbr⟩ : ∃ br, br = decide ((ndT T q).kind = 27 ∨ (ndT T q).kind = 26) := ⟨_, rfl⟩
  have HBS := Lib.hid (show bsS T (prT T k) (ndT T k) d = brL br (prN T q d) by unfold bsS; rw [HQ2.out, ← hbr, prT_kid hqk])
  have HLB := Lib.hid (show L.length + (brL br (prN T q d)).length + 2 ≤ 1099511627776 by
    have h1 := HL.out
    rw [← HBS.out]
    unfold prN prS at h1
    rcases HKD.out with e | e | e <;> (
      simp only [e, Int.reduceEq, if_true, if_false, List.length_append, List.length_cons, List.length_nil] at h1
      omega))
  have hcase : (br = true ∧ (ndT T q).kind = 27) ∨ (br = true ∧ (ndT T q).kind = 26) ∨ (br = false ∧ ((ndT T q).kind == 27) = false ∧ ((ndT T q).kind == 26) = false) := by
    by_cases h1 : (ndT T q).kind = 27
    · exact .inl ⟨by rw [hbr]; exact decide_eq_true (.inl h1), h1⟩
    · by_cases h2 : (ndT T q).kind = 26
      · exact .inr (.inl ⟨by rw [hbr]; exact decide_eq_true (.inr h2), h2⟩)
      · exact .inr (.inr ⟨by rw [hbr]; exact decide_eq_false (by omega), by simpa using h1, by simpa using h2⟩)
  clear hbr
  have HW := Lib.hid (pwithin_any (HEX.out q hqk) HNQ.out HQE.out br (d := d) (by omega) HSZ.out (by have := HLB.out; omega))
  unfold ndW at HW
  obtain ⟨mm, hmm⟩ : ∃ mm, n = mm + 1 := ⟨n - 1, by omega⟩
  have hcn : n ≤ c4 ∧ c4 ≤ maxLen := by rw [HN.out]; exact HNV.out.cap
  have HZS := Lib.hid (show ((ndT T k).kids.map Int.toNat).tail.length = mm by rw [List.length_tail, List.length_map, ← HN.out, hmm]; rfl)
  have HRW := Lib.hid (tail_row HNV.out.row (by rw [← HN.out, hmm]) (kids_pos HE.out.good hkT))
  have hcc : (c4 = 1 ∧ mm = 0) ∨ ∃ cc, c4 = cc + 2 := by
    by_cases h1 : c4 = 1
    · exact .inl ⟨h1, by omega⟩
    · exact .inr ⟨c4 - 2, by omega⟩
  have hcm : c4 ≤ 9223372036854775807 := by have := hcn.2; unfold maxLen at this; omega
  clear hcn
  obtain ⟨zs, hzs2⟩ : ∃ zs, zs = ((ndT T k).kids.map Int.toNat).tail := ⟨_, rfl⟩
  rw [← hzs2] at HZS HRW
  have hmmb : mm ≤ 1000000 := by
    have := kids_few HE.out.good hkT
    have := HN.out
    omega
  have HZM := Lib.hid (show ∀ p ∈ zs, ∃ j, j + 1 < (ndT T k).kids.length ∧ kidT (ndT T k) (j + 1) = p from fun p hp => by
    rw [hzs2, kids_tail] at hp
    obtain ⟨j, hj, rfl⟩ := List.mem_map.1 hp
    have := List.mem_range.1 hj
    exact ⟨j, by omega, rfl⟩)
  have HZK := Lib.hid (show ∀ p ∈ zs, p < k ∧ d + p ≤ 9000 ∧ p < T.length from fun p hp => by
    obtain ⟨j, hj, rfl⟩ := HZM.out p hp
    obtain ⟨p', _, h2, h3, _⟩ := kid_at HE.out.good hkT hj
    rw [h2]
    exact ⟨h3, by omega, by omega⟩)
  have HZE := Lib.hid (show ∀ p ∈ zs, isE (ndT T p).kind = true ∨ ((ndT T k).kind = 30 ∧ (ndT T p).kind = 31) from fun p hp => by
    obtain ⟨j, hj, rfl⟩ := HZM.out p hp
    obtain ⟨p', _, h2, h3, h4⟩ := kid_at HE.out.good hkT hj
    rw [h2]
    unfold kidN at h4
    rcases HKD.out with e | e | e <;> (rw [e] at h4 ⊢; simp at h4)
    · exact .inl h4
    · exact .inl h4
    · rcases h4 with h4 | h4
      · exact .inl h4
      · exact .inr ⟨rfl, h4⟩)
  have HPM := Lib.hid (show zs.map (fun p => prT T k p d) = zs.map (fun p => prN T p d) from List.map_congr_left fun p hp => prT_kid (HZK.out p hp).1)
  have HT28 := Lib.hid (fun (e : (ndT T k).kind = 28) => show prN T k d = brL br (prN T q d) ++ [40] ++ comL (zs.map fun p => prN T p d) ++ [41] by
    rw [← HPM.out, ← HBS.out, hzs2]
    unfold prN prS
    simp only [e, Int.reduceEq, if_true, if_false])
  have HT29 := Lib.hid (fun (e : (ndT T k).kind = 29) => show prN T k d = brL br (prN T q d) ++ [91] ++ comL (zs.map fun p => prN T p d) ++ [93] by
    have hc := cnt_at HE.out.good hkT
    unfold cntN at hc
    rw [e] at hc
    simp at hc
    rw [← HPM.out, ← HBS.out, hzs2, kids_tail, hc]
    unfold prN prS
    simp only [e, Int.reduceEq, if_true, if_false]
    rfl)
  have HT30 := Lib.hid (fun (e : (ndT T k).kind = 30) => show ∃ q1 q2, zs = [q1, q2] ∧ prN T k d = brL br (prN T q d) ++ [91] ++ prN T q1 d ++ [58] ++ prN T q2 d ++ [93] by
    have hc := cnt_at HE.out.good hkT
    unfold cntN at hc
    rw [e] at hc
    simp at hc
    refine ⟨kidT (ndT T k) 1, kidT (ndT T k) 2, by rw [hzs2, kids_tail, hc]; rfl, ?_⟩
    have h1 := HZK.out (kidT (ndT T k) 1) (by rw [hzs2, kids_tail, hc]; exact List.mem_map.2 ⟨0, by simp, rfl⟩)
    have h2 := HZK.out (kidT (ndT T k) 2) (by rw [hzs2, kids_tail, hc]; exact List.mem_map.2 ⟨1, by simp, rfl⟩)
    rw [← HBS.out, ← prT_kid h1.1, ← prT_kid h2.1]
    unfold prN prS
    simp only [e, Int.reduceEq, if_true, if_false])
  clear hzs2
  subst hmm
  rcases hcase with ⟨rfl, h27⟩ | ⟨rfl, h26⟩ | ⟨rfl, h27, h26⟩
  · rw [h27] at k0 HW
    clear h27
    go_wp2_with fail
    refine Calls.mono HW.out ?_
    rintro e w2 ⟨rfl, h2, hk2, hs2⟩
    have HZ2 := Lib.hid (kptBox hk2 HZ1.out (by omega) (by decide))
    have b4 : w2.cell? ⟨w.heap.size, 4, none⟩ = some (.slice (some ⟨b5, o5, none⟩) (mm + 1) c4) := by rw [Lib.cell_of_heap HZ2.out]; rfl
    have b0 : w2.cell? ⟨w.heap.size, 0, none⟩ = some (.int .i64 (ndT T k).kind) := by rw [Lib.cell_of_heap HZ2.out]; rfl
    have hw2 : w.heap.size + 1 < w2.heap.size := by omega
    have hw3 : w.heap.size < w2.heap.size := by omega
    rcases hcc with ⟨rfl, rfl⟩ | ⟨cc, rfl⟩
    · rcases HKD.out with e | e | e
      · rw [e] at b0
        have HFT := Lib.hid (HT28.out e)
        have HLL := Lib.hid (show L.length + (brL true (prN T q d)).length + 1 + (comL (zs.map fun p => prN T p d)).length + 1 ≤ 1099511627776 by
          have h1 := HL.out
          rw [HFT.out] at h1
          simp only [List.length_append, List.length_cons, List.length_nil] at h1
          omega)
        have hkk := kids_any HE.out zs (fun p hp => ⟨(HZK.out p hp).2.2, by rcases HZE.out p hp with h | ⟨h, _⟩; exact h; (exfalso; omega), HEX.out p (HZK.out p hp).1⟩) ⟨#[40]⟩ 0 0 ⟨#[]⟩ ⟨#[]⟩ (some ⟨b5, o5, none⟩) (0) d (fun p hp => (HZK.out p hp).2.1) (by rw [HZS.out]; exact (by have := HZS.out; rw [List.length_eq_zero_iff.1 this]; exact RdM.nil)) (by rw [HZS.out]; exact hmmb) (h2.keep (al (w := w2) (.cells #[.int .i64 0, .string ⟨#[]⟩, .string ⟨#[]⟩, .int .i64 0, .slice (some ⟨b5, o5, none⟩) 0 (0)] 31))) (by
          have h1 := HLL.out
          have h2 : (txB (⟨#[40]⟩ : ByteArray)).length = 1 := rfl
          simp only [List.length_append] at h1 ⊢
          omega)
        rw [HZS.out] at hkk
        have HKK := Lib.hid hkk
        have HK2 := Lib.hid (HKZ.out.trans (hk2.trans (kptBel (al (w := w2) (.cells #[.int .i64 0, .string ⟨#[]⟩, .string ⟨#[]⟩, .int .i64 0, .slice (some ⟨b5, o5, none⟩) 0 (0)] 31)))))
        clear hkk h2 hk2 k0 k1 k2 k3 k4 e
        go_wp2_with fail
        refine Calls.mono HKK.out ?_
        rintro e w3 ⟨rfl, h3, hk3, hs3⟩
        have HB3 := Lib.hid (wByte 41 h3 (by
          have h1 := HLL.out
          have h2 : (txB (⟨#[40]⟩ : ByteArray)).length = 1 := rfl
          simp only [List.length_append, h2] at h1 ⊢
          omega))
        have HK3 := Lib.hid (HK2.out.trans hk3)
        have hw4 : w.heap.size ≤ w3.heap.size := by simp at hs3; omega
        clear h3 hk3 hs3
        go_wp2_with fail
        refine Calls.mono HB3.out ?_
        rintro e w4 ⟨rfl, h4, hk4, hs4⟩
        have H4 := Lib.hid (h4.to (L' := L ++ prN T k d) (by rw [HFT.out, show txB (⟨#[40]⟩ : ByteArray) = [40] from rfl]; simp only [List.append_assoc]))
        have HK4 := Lib.hid (HK3.out.trans hk4)
        clear h4 hk4
        go_wp2_with fail
        go_end0
        exact ⟨rfl, H4.out, HK4.out, by omega⟩
      · rw [e] at b0
        have HFT := Lib.hid (HT29.out e)
        have HLL := Lib.hid (show L.length + (brL true (prN T q d)).length + 1 + (comL (zs.map fun p => prN T p d)).length + 1 ≤ 1099511627776 by
          have h1 := HL.out
          rw [HFT.out] at h1
          simp only [List.length_append, List.length_cons, List.length_nil] at h1
          omega)
        have hkk := kids_any HE.out zs (fun p hp => ⟨(HZK.out p hp).2.2, by rcases HZE.out p hp with h | ⟨h, _⟩; exact h; (exfalso; omega), HEX.out p (HZK.out p hp).1⟩) ⟨#[91]⟩ 0 0 ⟨#[]⟩ ⟨#[]⟩ (some ⟨b5, o5, none⟩) (0) d (fun p hp => (HZK.out p hp).2.1) (by rw [HZS.out]; exact (by have := HZS.out; rw [List.length_eq_zero_iff.1 this]; exact RdM.nil)) (by rw [HZS.out]; exact hmmb) (h2.keep (al (w := w2) (.cells #[.int .i64 0, .string ⟨#[]⟩, .string ⟨#[]⟩, .int .i64 0, .slice (some ⟨b5, o5, none⟩) 0 (0)] 31))) (by
          have h1 := HLL.out
          have h2 : (txB (⟨#[91]⟩ : ByteArray)).length = 1 := rfl
          simp only [List.length_append] at h1 ⊢
          omega)
        rw [HZS.out] at hkk
        have HKK := Lib.hid hkk
        have HK2 := Lib.hid (HKZ.out.trans (hk2.trans (kptBel (al (w := w2) (.cells #[.int .i64 0, .string ⟨#[]⟩, .string ⟨#[]⟩, .int .i64 0, .slice (some ⟨b5, o5, none⟩) 0 (0)] 31)))))
        clear hkk h2 hk2 k0 k1 k2 k3 k4 e
        go_wp2_with fail
        refine Calls.mono HKK.out ?_
        rintro e w3 ⟨rfl, h3, hk3, hs3⟩
        have HB3 := Lib.hid (wByte 93 h3 (by
          have h1 := HLL.out
          have h2 : (txB (⟨#[91]⟩ : ByteArray)).length = 1 := rfl
          simp only [List.length_append, h2] at h1 ⊢
          omega))
        have HK3 := Lib.hid (HK2.out.trans hk3)
        have hw4 : w.heap.size ≤ w3.heap.size := by simp at hs3; omega
        clear h3 hk3 hs3
        go_wp2_with fail
        refine Calls.mono HB3.out ?_
        rintro e w4 ⟨rfl, h4, hk4, hs4⟩
        have H4 := Lib.hid (h4.to (L' := L ++ prN T k d) (by rw [HFT.out, show txB (⟨#[91]⟩ : ByteArray) = [91] from rfl]; simp only [List.append_assoc]))
        have HK4 := Lib.hid (HK3.out.trans hk4)
        clear h4 hk4
        go_wp2_with fail
        go_end0
        exact ⟨rfl, H4.out, HK4.out, by omega⟩
      · exfalso
        obtain ⟨q1, q2, hzq, _⟩ := HT30.out e
        have := HZS.out
        rw [hzq] at this
        cases this
    · rcases HKD.out with e | e | e
      · rw [e] at b0
        have HFT := Lib.hid (HT28.out e)
        have HLL := Lib.hid (show L.length + (brL true (prN T q d)).length + 1 + (comL (zs.map fun p => prN T p d)).length + 1 ≤ 1099511627776 by
          have h1 := HL.out
          rw [HFT.out] at h1
          simp only [List.length_append, List.length_cons, List.length_nil] at h1
          omega)
        have hkk := kids_any HE.out zs (fun p hp => ⟨(HZK.out p hp).2.2, by rcases HZE.out p hp with h | ⟨h, _⟩; exact h; (exfalso; omega), HEX.out p (HZK.out p hp).1⟩) ⟨#[40]⟩ 0 0 ⟨#[]⟩ ⟨#[]⟩ (some ⟨b5, o5 + 1, none⟩) (cc + 1) d (fun p hp => (HZK.out p hp).2.1) (by rw [HZS.out]; exact HRW.out) (by rw [HZS.out]; exact hmmb) (h2.keep (al (w := w2) (.cells #[.int .i64 0, .string ⟨#[]⟩, .string ⟨#[]⟩, .int .i64 0, .slice (some ⟨b5, o5 + 1, none⟩) mm (cc + 1)] 31))) (by
          have h1 := HLL.out
          have h2 : (txB (⟨#[40]⟩ : ByteArray)).length = 1 := rfl
          simp only [List.length_append] at h1 ⊢
          omega)
        rw [HZS.out] at hkk
        have HKK := Lib.hid hkk
        have HK2 := Lib.hid (HKZ.out.trans (hk2.trans (kptBel (al (w := w2) (.cells #[.int .i64 0, .string ⟨#[]⟩, .string ⟨#[]⟩, .int .i64 0, .slice (some ⟨b5, o5 + 1, none⟩) mm (cc + 1)] 31)))))
        clear hkk h2 hk2 k0 k1 k2 k3 k4 e
        go_wp2_with fail
        refine Calls.mono HKK.out ?_
        rintro e w3 ⟨rfl, h3, hk3, hs3⟩
        have HB3 := Lib.hid (wByte 41 h3 (by
          have h1 := HLL.out
          have h2 : (txB (⟨#[40]⟩ : ByteArray)).length = 1 := rfl
          simp only [List.length_append, h2] at h1 ⊢
          omega))
        have HK3 := Lib.hid (HK2.out.trans hk3)
        have hw4 : w.heap.size ≤ w3.heap.size := by simp at hs3; omega
        clear h3 hk3 hs3
        go_wp2_with fail
        refine Calls.mono HB3.out ?_
        rintro e w4 ⟨rfl, h4, hk4, hs4⟩
        have H4 := Lib.hid (h4.to (L' := L ++ prN T k d) (by rw [HFT.out, show txB (⟨#[40]⟩ : ByteArray) = [40] from rfl]; simp only [List.append_assoc]))
        have HK4 := Lib.hid (HK3.out.trans hk4)
        clear h4 hk4
        go_wp2_with fail
        go_end0
        exact ⟨rfl, H4.out, HK4.out, by omega⟩
      · rw [e] at b0
        have HFT := Lib.hid (HT29.out e)
        have HLL := Lib.hid (show L.length + (brL true (prN T q d)).length + 1 + (comL (zs.map fun p => prN T p d)).length + 1 ≤ 1099511627776 by
          have h1 := HL.out
          rw [HFT.out] at h1
          simp only [List.length_append, List.length_cons, List.length_nil] at h1
          omega)
        have hkk := kids_any HE.out zs (fun p hp => ⟨(HZK.out p hp).2.2, by rcases HZE.out p hp with h | ⟨h, _⟩; exact h; (exfalso; omega), HEX.out p (HZK.out p hp).1⟩) ⟨#[91]⟩ 0 0 ⟨#[]⟩ ⟨#[]⟩ (some ⟨b5, o5 + 1, none⟩) (cc + 1) d (fun p hp => (HZK.out p hp).2.1) (by rw [HZS.out]; exact HRW.out) (by rw [HZS.out]; exact hmmb) (h2.keep (al (w := w2) (.cells #[.int .i64 0, .string ⟨#[]⟩, .string ⟨#[]⟩, .int .i64 0, .slice (some ⟨b5, o5 + 1, none⟩) mm (cc + 1)] 31))) (by
          have h1 := HLL.out
          have h2 : (txB (⟨#[91]⟩ : ByteArray)).length = 1 := rfl
          simp only [List.length_append] at h1 ⊢
          omega)
        rw [HZS.out] at hkk
        have HKK := Lib.hid hkk
        have HK2 := Lib.hid (HKZ.out.trans (hk2.trans (kptBel (al (w := w2) (.cells #[.int .i64 0, .string ⟨#[]⟩, .string ⟨#[]⟩, .int .i64 0, .slice (some ⟨b5, o5 + 1, none⟩) mm (cc + 1)] 31)))))
        clear hkk h2 hk2 k0 k1 k2 k3 k4 e
        go_wp2_with fail
        refine Calls.mono HKK.out ?_
        rintro e w3 ⟨rfl, h3, hk3, hs3⟩
        have HB3 := Lib.hid (wByte 93 h3 (by
          have h1 := HLL.out
          have h2 : (txB (⟨#[91]⟩ : ByteArray)).length = 1 := rfl
          simp only [List.length_append, h2] at h1 ⊢
          omega))
        have HK3 := Lib.hid (HK2.out.trans hk3)
        have hw4 : w.heap.size ≤ w3.heap.size := by simp at hs3; omega
        clear h3 hk3 hs3
        go_wp2_with fail
        refine Calls.mono HB3.out ?_
        rintro e w4 ⟨rfl, h4, hk4, hs4⟩
        have H4 := Lib.hid (h4.to (L' := L ++ prN T k d) (by rw [HFT.out, show txB (⟨#[91]⟩ : ByteArray) = [91] from rfl]; simp only [List.append_assoc]))
        have HK4 := Lib.hid (HK3.out.trans hk4)
        clear h4 hk4
        go_wp2_with fail
        go_end0
        exact ⟨rfl, H4.out, HK4.out, by omega⟩
      · obtain ⟨q1, q2, hzq, hft⟩ := HT30.out e
        have HFT := Lib.hid hft
        have hm2 : mm = 2 := by rw [← HZS.out, hzq]; rfl
        subst hm2
        rw [hzq] at HRW
        rw [e] at b0
        obtain ⟨hqk_q1, hqd_q1, hqT_q1⟩ := HZK.out q1 (by rw [hzq]; simp)
        obtain ⟨hqk_q2, hqd_q2, hqT_q2⟩ := HZK.out q2 (by rw [hzq]; simp)
        obtain ⟨A_1, c_1, hn_1⟩ := HE.out.node hqT_q1
        obtain ⟨A_2, c_2, hn_2⟩ := HE.out.node hqT_q2
        have HN_q1 := Lib.hid hn_1
        have HN_q2 := Lib.hid hn_2
        have HLL := Lib.hid (show L.length + (brL true (prN T q d)).length + 1 + (prN T q1 d).length + 1 + (prN T q2 d).length + 1 ≤ 1099511627776 by
          have h1 := HL.out
          rw [HFT.out] at h1
          simp only [List.length_append, List.length_cons, List.length_nil] at h1
          omega)
        have HB2 := Lib.hid (wByte 91 (h2.keep (al (w := w2) (.cells #[.int .i64 0, .string ⟨#[]⟩, .string ⟨#[]⟩, .int .i64 0, .slice (some ⟨b5, o5 + 1, none⟩) 2 (cc + 1)] 31))) (by have h1 := HLL.out; simp only [List.length_append]; omega))
        have hbz := heap_alloc_new w2 (.cells #[.int .i64 0, .string ⟨#[]⟩, .string ⟨#[]⟩, .int .i64 0, .slice (some ⟨b5, o5 + 1, none⟩) 2 (cc + 1)] 31)
        have HK2 := Lib.hid (HKZ.out.trans (hk2.trans (kptBel (al (w := w2) (.cells #[.int .i64 0, .string ⟨#[]⟩, .string ⟨#[]⟩, .int .i64 0, .slice (some ⟨b5, o5 + 1, none⟩) 2 (cc + 1)] 31)))))
        clear h2 hk2 k0 k1 k2 k3 k4 e hft hn_1 hn_2
        go_wp2_with fail
        refine Calls.mono HB2.out ?_
        rintro e w3 ⟨rfl, h3, hk3, hs3⟩
        have hbx := kptBox hk3 hbz (by omega) (by decide)
        have x4 : w3.cell? ⟨w2.heap.size, 4, none⟩ = some (.slice (some ⟨b5, o5 + 1, none⟩) 2 (cc + 1)) := by rw [Lib.cell_of_heap hbx]; rfl
        have H3 := Lib.hid h3
        have HK3 := Lib.hid (HK2.out.trans hk3)
        have hw4 : w.heap.size ≤ w3.heap.size := by simp at hs3; omega
        clear h3 hk3 hs3 hbz hbx b0 b4
        go_wp2_with fail
        clear x4
        go_loopw [62] (fun v wr => ∃ j : Nat, v = .int .i64 (j : Int) ∧ j ≤ 2 ∧ Hid (Sx w0 g (trV b off c T) (d : Int) (L ++ brL true (prN T q d) ++ [91] ++ pcL T q1 q2 d j) wr) ∧ Hid (Kpt g w wr) ∧ w.heap.size ≤ wr.heap.size) (fun v _ => 2 - (intOf v).toNat)
        case atStart => exact ⟨0, rfl, by omega, Lib.hid (by simpa [pcL] using H3.out), HK3, hw4⟩
        case round =>
          obtain ⟨j, rfl, hj, HX, HK, hsz⟩ := hrel
          obtain ⟨b5', o5', eA, hb5', hcl5⟩ := HRW.out.2 (by omega)
          injection eA with eA
          injection eA with eA eA2
          subst eA eA2
          have hj3 : j = 0 ∨ j = 1 ∨ j = 2 := by omega
          rcases hj3 with rfl | rfl | rfl
          · have r0 : wr.cell? ⟨b5, o5 + 1, none⟩ = some (.int .i64 (q1 : Int)) := (HX.out.bel.cell (p := ⟨b5, o5 + 1, none⟩) hb5').trans (hcl5 0 (.int .i64 (q1 : Int)) rfl)
            obtain ⟨u2, _, _⟩ := HX.out.cells
            obtain ⟨y0, y1, y2, y3, y4⟩ := HN_q1.out.cells HX.out.bel
            have hqi : (q1 : Int) < (T.length : Int) := by omega
            clear hcl5
            rcases HZE.out q1 (by rw [hzq]; simp) with hE | ⟨h30, hN⟩
            · have hne31 : ((ndT T q1).kind != 31) = true := by
                unfold isE at hE
                simp only [decide_eq_true_eq] at hE
                simp
                omega
              have HKX := Lib.hid (HEX.out q1 hqk_q1 _ _ HN_q1.out hE d _ _ HX.out (by omega) (by
                have h1 := HLL.out
                simp only [pcL, List.length_append, List.length_cons, List.length_nil] at h1 ⊢
                omega))
              unfold ndW at HKX
              clear hE
              go_wp2_with fail
              refine Calls.mono HKX.out ?_
              rintro e w6 ⟨rfl, h6, hk6, hs6⟩
              have H6 := Lib.hid (h6.to (L' := L ++ brL true (prN T q d) ++ [91] ++ pcL T q1 q2 d 1) (by simp [pcL]))
              have HK6 := Lib.hid (HK.out.trans hk6)
              clear h6 hk6 y0 y1 y2 y3 y4 u2 r0
              go_wp2_with fail
              go_roundw
              case rel => exact ⟨1, by simp, by omega, H6, HK6, by omega⟩
              case measure => simp [intOf]
            · clear h30
              have HNN := Lib.hid (prN_none (d := d) hN)
              rw [hN] at y0
              clear hN
              have H6 := Lib.hid (show Sx w0 g (trV b off c T) (d : Int) (L ++ brL true (prN T q d) ++ [91] ++ pcL T q1 q2 d 1) _ from HX.out.to (by simp [pcL, HNN.out]))
              go_wp2_with fail
              clear y0 y1 y2 y3 y4 u2 r0
              go_roundw
              case rel => exact ⟨1, by simp, by omega, H6, HK, by omega⟩
              case measure => simp [intOf]
          · have r0' : wr.cell? ⟨b5, o5 + 1 + 1, none⟩ = some (.int .i64 (q2 : Int)) := (HX.out.bel.cell (p := ⟨b5, o5 + 1 + 1, none⟩) hb5').trans (hcl5 1 (.int .i64 (q2 : Int)) rfl)
            have hqi : (q2 : Int) < (T.length : Int) := by omega
            have HBC := Lib.hid (wByte 58 HX.out (by have h1 := HLL.out; simp only [List.length_append, List.length_cons, List.length_nil, pcL]; omega))
            clear hcl5
            go_wp2_with fail
            refine Calls.mono HBC.out ?_
            rintro e w5 ⟨rfl, h5, hk5, hs5⟩
            have r0 := r0'
            clear r0 r0'
            obtain ⟨u2, _, _⟩ := h5.cells
            obtain ⟨y0, y1, y2, y3, y4⟩ := HN_q2.out.cells h5.bel
            have H5 := Lib.hid h5
            have HK5 := Lib.hid (HK.out.trans hk5)
            have r0 : True := trivial
            clear h5 hk5
            rcases HZE.out q2 (by rw [hzq]; simp) with hE | ⟨h30, hN⟩
            · have hne31 : ((ndT T q2).kind != 31) = true := by
                unfold isE at hE
                simp only [decide_eq_true_eq] at hE
                simp
                omega
              have HKX := Lib.hid (HEX.out q2 hqk_q2 _ _ HN_q2.out hE d _ _ H5.out (by omega) (by
                have h1 := HLL.out
                simp only [pcL, List.length_append, List.length_cons, List.length_nil] at h1 ⊢
                omega))
              unfold ndW at HKX
              clear hE
              go_wp2_with fail
              refine Calls.mono HKX.out ?_
              rintro e w6 ⟨rfl, h6, hk6, hs6⟩
              have H6 := Lib.hid (h6.to (L' := L ++ brL true (prN T q d) ++ [91] ++ pcL T q1 q2 d 2) (by simp [pcL]))
              have HK6 := Lib.hid (HK5.out.trans hk6)
              clear h6 hk6 y0 y1 y2 y3 y4 u2 r0
              go_wp2_with fail
              go_roundw
              case rel => exact ⟨2, by simp, by omega, H6, HK6, by omega⟩
              case measure => simp [intOf]
            · clear h30
              have HNN := Lib.hid (prN_none (d := d) hN)
              rw [hN] at y0
              clear hN
              have H6 := Lib.hid (show Sx w0 g (trV b off c T) (d : Int) (L ++ brL true (prN T q d) ++ [91] ++ pcL T q1 q2 d 2) _ from H5.out.to (by simp [pcL, HNN.out]))
              go_wp2_with fail
              clear y0 y1 y2 y3 y4 u2 r0
              go_roundw
              case rel => exact ⟨2, by simp, by omega, H6, HK5, by omega⟩
              case measure => simp [intOf]
          · have HBC := Lib.hid (wByte 93 HX.out (by have h1 := HLL.out; simp only [List.length_append, List.length_cons, List.length_nil, pcL]; omega))
            clear hcl5
            go_wp2_with fail
            refine Calls.mono HBC.out ?_
            rintro e w7 ⟨rfl, h7, hk7, hs7⟩
            have H7 := Lib.hid (h7.to (L' := L ++ prN T k d) (by rw [HFT.out]; simp only [pcL, List.append_assoc]))
            have HK7 := Lib.hid (HK.out.trans hk7)
            clear h7 hk7
            go_wp2_with fail
            go_end0
            exact ⟨rfl, H7.out, HK7.out, by omega⟩
  · rw [h26] at k0 HW
    clear h26
    go_wp2_with fail
    refine Calls.mono HW.out ?_
    rintro e w2 ⟨rfl, h2, hk2, hs2⟩
    have HZ2 := Lib.hid (kptBox hk2 HZ1.out (by omega) (by decide))
    have b4 : w2.cell? ⟨w.heap.size, 4, none⟩ = some (.slice (some ⟨b5, o5, none⟩) (mm + 1) c4) := by rw [Lib.cell_of_heap HZ2.out]; rfl
    have b0 : w2.cell? ⟨w.heap.size, 0, none⟩ = some (.int .i64 (ndT T k).kind) := by rw [Lib.cell_of_heap HZ2.out]; rfl
    have hw2 : w.heap.size + 1 < w2.heap.size := by omega
    have hw3 : w.heap.size < w2.heap.size := by omega
    rcases hcc with ⟨rfl, rfl⟩ | ⟨cc, rfl⟩
    · rcases HKD.out with e | e | e
      · rw [e] at b0
        have HFT := Lib.hid (HT28.out e)
        have HLL := Lib.hid (show L.length + (brL true (prN T q d)).length + 1 + (comL (zs.map fun p => prN T p d)).length + 1 ≤ 1099511627776 by
          have h1 := HL.out
          rw [HFT.out] at h1
          simp only [List.length_append, List.length_cons, List.length_nil] at h1
          omega)
        have hkk := kids_any HE.out zs (fun p hp => ⟨(HZK.out p hp).2.2, by rcases HZE.out p hp with h | ⟨h, _⟩; exact h; (exfalso; omega), HEX.out p (HZK.out p hp).1⟩) ⟨#[40]⟩ 0 0 ⟨#[]⟩ ⟨#[]⟩ (some ⟨b5, o5, none⟩) (0) d (fun p hp => (HZK.out p hp).2.1) (by rw [HZS.out]; exact (by have := HZS.out; rw [List.length_eq_zero_iff.1 this]; exact RdM.nil)) (by rw [HZS.out]; exact hmmb) (h2.keep (al (w := w2) (.cells #[.int .i64 0, .string ⟨#[]⟩, .string ⟨#[]⟩, .int .i64 0, .slice (some ⟨b5, o5, none⟩) 0 (0)] 31))) (by
          have h1 := HLL.out
          have h2 : (txB (⟨#[40]⟩ : ByteArray)).length = 1 := rfl
          simp only [List.length_append] at h1 ⊢
          omega)
        rw [HZS.out] at hkk
        have HKK := Lib.hid hkk
        have HK2 := Lib.hid (HKZ.out.trans (hk2.trans (kptBel (al (w := w2) (.cells #[.int .i64 0, .string ⟨#[]⟩, .string ⟨#[]⟩, .int .i64 0, .slice (some ⟨b5, o5, none⟩) 0 (0)] 31)))))
        clear hkk h2 hk2 k0 k1 k2 k3 k4 e
        go_wp2_with fail
        refine Calls.mono HKK.out ?_
        rintro e w3 ⟨rfl, h3, hk3, hs3⟩
        have HB3 := Lib.hid (wByte 41 h3 (by
          have h1 := HLL.out
          have h2 : (txB (⟨#[40]⟩ : ByteArray)).length = 1 := rfl
          simp only [List.length_append, h2] at h1 ⊢
          omega))
        have HK3 := Lib.hid (HK2.out.trans hk3)
        have hw4 : w.heap.size ≤ w3.heap.size := by simp at hs3; omega
        clear h3 hk3 hs3
        go_wp2_with fail
        refine Calls.mono HB3.out ?_
        rintro e w4 ⟨rfl, h4, hk4, hs4⟩
        have H4 := Lib.hid (h4.to (L' := L ++ prN T k d) (by rw [HFT.out, show txB (⟨#[40]⟩ : ByteArray) = [40] from rfl]; simp only [List.append_assoc]))
        have HK4 := Lib.hid (HK3.out.trans hk4)
        clear h4 hk4
        go_wp2_with fail
        go_end0
        exact ⟨rfl, H4.out, HK4.out, by omega⟩
      · rw [e] at b0
        have HFT := Lib.hid (HT29.out e)
        have HLL := Lib.hid (show L.length + (brL true (prN T q d)).length + 1 + (comL (zs.map fun p => prN T p d)).length + 1 ≤ 1099511627776 by
          have h1 := HL.out
          rw [HFT.out] at h1
          simp only [List.length_append, List.length_cons, List.length_nil] at h1
          omega)
        have hkk := kids_any HE.out zs (fun p hp => ⟨(HZK.out p hp).2.2, by rcases HZE.out p hp with h | ⟨h, _⟩; exact h; (exfalso; omega), HEX.out p (HZK.out p hp).1⟩) ⟨#[91]⟩ 0 0 ⟨#[]⟩ ⟨#[]⟩ (some ⟨b5, o5, none⟩) (0) d (fun p hp => (HZK.out p hp).2.1) (by rw [HZS.out]; exact (by have := HZS.out; rw [List.length_eq_zero_iff.1 this]; exact RdM.nil)) (by rw [HZS.out]; exact hmmb) (h2.keep (al (w := w2) (.cells #[.int .i64 0, .string ⟨#[]⟩, .string ⟨#[]⟩, .int .i64 0, .slice (some ⟨b5, o5, none⟩) 0 (0)] 31))) (by
          have h1 := HLL.out
          have h2 : (txB (⟨#[91]⟩ : ByteArray)).length = 1 := rfl
          simp only [List.length_append] at h1 ⊢
          omega)
        rw [HZS.out] at hkk
        have HKK := Lib.hid hkk
        have HK2 := Lib.hid (HKZ.out.trans (hk2.trans (kptBel (al (w := w2) (.cells #[.int .i64 0, .string ⟨#[]⟩, .string ⟨#[]⟩, .int .i64 0, .slice (some ⟨b5, o5, none⟩) 0 (0)] 31)))))
        clear hkk h2 hk2 k0 k1 k2 k3 k4 e
        go_wp2_with fail
        refine Calls.mono HKK.out ?_
        rintro e w3 ⟨rfl, h3, hk3, hs3⟩
        have HB3 := Lib.hid (wByte 93 h3 (by
          have h1 := HLL.out
          have h2 : (txB (⟨#[91]⟩ : ByteArray)).length = 1 := rfl
          simp only [List.length_append, h2] at h1 ⊢
          omega))
        have HK3 := Lib.hid (HK2.out.trans hk3)
        have hw4 : w.heap.size ≤ w3.heap.size := by simp at hs3; omega
        clear h3 hk3 hs3
        go_wp2_with fail
        refine Calls.mono HB3.out ?_
        rintro e w4 ⟨rfl, h4, hk4, hs4⟩
        have H4 := Lib.hid (h4.to (L' := L ++ prN T k d) (by rw [HFT.out, show txB (⟨#[91]⟩ : ByteArray) = [91] from rfl]; simp only [List.append_assoc]))
        have HK4 := Lib.hid (HK3.out.trans hk4)
        clear h4 hk4
        go_wp2_with fail
        go_end0
        exact ⟨rfl, H4.out, HK4.out, by omega⟩
      · exfalso
        obtain ⟨q1, q2, hzq, _⟩ := HT30.out e
        have := HZS.out
        rw [hzq] at this
        cases this
    · rcases HKD.out with e | e | e
      · rw [e] at b0
        have HFT := Lib.hid (HT28.out e)
        have HLL := Lib.hid (show L.length + (brL true (prN T q d)).length + 1 + (comL (zs.map fun p => prN T p d)).length + 1 ≤ 1099511627776 by
          have h1 := HL.out
          rw [HFT.out] at h1
          simp only [List.length_append, List.length_cons, List.length_nil] at h1
          omega)
        have hkk := kids_any HE.out zs (fun p hp => ⟨(HZK.out p hp).2.2, by rcases HZE.out p hp with h | ⟨h, _⟩; exact h; (exfalso; omega), HEX.out p (HZK.out p hp).1⟩) ⟨#[40]⟩ 0 0 ⟨#[]⟩ ⟨#[]⟩ (some ⟨b5, o5 + 1, none⟩) (cc + 1) d (fun p hp => (HZK.out p hp).2.1) (by rw [HZS.out]; exact HRW.out) (by rw [HZS.out]; exact hmmb) (h2.keep (al (w := w2) (.cells #[.int .i64 0, .string ⟨#[]⟩, .string ⟨#[]⟩, .int .i64 0, .slice (some ⟨b5, o5 + 1, none⟩) mm (cc + 1)] 31))) (by
          have h1 := HLL.out
          have h2 : (txB (⟨#[40]⟩ : ByteArray)).length = 1 := rfl
          simp only [List.length_append] at h1 ⊢
          omega)
        rw [HZS.out] at hkk
        have HKK := Lib.hid hkk
        have HK2 := Lib.hid (HKZ.out.trans (hk2.trans (kptBel (al (w := w2) (.cells #[.int .i64 0, .string ⟨#[]⟩, .string ⟨#[]⟩, .int .i64 0, .slice (some ⟨b5, o5 + 1, none⟩) mm (cc + 1)] 31)))))
        clear hkk h2 hk2 k0 k1 k2 k3 k4 e
        go_wp2_with fail
        refine Calls.mono HKK.out ?_
        rintro e w3 ⟨rfl, h3, hk3, hs3⟩
        have HB3 := Lib.hid (wByte 41 h3 (by
          have h1 := HLL.out
          have h2 : (txB (⟨#[40]⟩ : ByteArray)).length = 1 := rfl
          simp only [List.length_append, h2] at h1 ⊢
          omega))
        have HK3 := Lib.hid (HK2.out.trans hk3)
        have hw4 : w.heap.size ≤ w3.heap.size := by simp at hs3; omega
        clear h3 hk3 hs3
        go_wp2_with fail
        refine Calls.mono HB3.out ?_
        rintro e w4 ⟨rfl, h4, hk4, hs4⟩
        have H4 := Lib.hid (h4.to (L' := L ++ prN T k d) (by rw [HFT.out, show txB (⟨#[40]⟩ : ByteArray) = [40] from rfl]; simp only [List.append_assoc]))
        have HK4 := Lib.hid (HK3.out.trans hk4)
        clear h4 hk4
        go_wp2_with fail
        go_end0
        exact ⟨rfl, H4.out, HK4.out, by omega⟩
      · rw [e] at b0
        have HFT := Lib.hid (HT29.out e)
        have HLL := Lib.hid (show L.length + (brL true (prN T q d)).length + 1 + (comL (zs.map fun p => prN T p d)).length + 1 ≤ 1099511627776 by
          have h1 := HL.out
          rw [HFT.out] at h1
          simp only [List.length_append, List.length_cons, List.length_nil] at h1
          omega)
        have hkk := kids_any HE.out zs (fun p hp => ⟨(HZK.out p hp).2.2, by rcases HZE.out p hp with h | ⟨h, _⟩; exact h; (exfalso; omega), HEX.out p (HZK.out p hp).1⟩) ⟨#[91]⟩ 0 0 ⟨#[]⟩ ⟨#[]⟩ (some ⟨b5, o5 + 1, none⟩) (cc + 1) d (fun p hp => (HZK.out p hp).2.1) (by rw [HZS.out]; exact HRW.out) (by rw [HZS.out]; exact hmmb) (h2.keep (al (w := w2) (.cells #[.int .i64 0, .string ⟨#[]⟩, .string ⟨#[]⟩, .int .i64 0, .slice (some ⟨b5, o5 + 1, none⟩) mm (cc + 1)] 31))) (by
          have h1 := HLL.out
          have h2 : (txB (⟨#[91]⟩ : ByteArray)).length = 1 := rfl
          simp only [List.length_append] at h1 ⊢
          omega)
        rw [HZS.out] at hkk
        have HKK := Lib.hid hkk
        have HK2 := Lib.hid (HKZ.out.trans (hk2.trans (kptBel (al (w := w2) (.cells #[.int .i64 0, .string ⟨#[]⟩, .string ⟨#[]⟩, .int .i64 0, .slice (some ⟨b5, o5 + 1, none⟩) mm (cc + 1)] 31)))))
        clear hkk h2 hk2 k0 k1 k2 k3 k4 e
        go_wp2_with fail
        refine Calls.mono HKK.out ?_
        rintro e w3 ⟨rfl, h3, hk3, hs3⟩
        have HB3 := Lib.hid (wByte 93 h3 (by
          have h1 := HLL.out
          have h2 : (txB (⟨#[91]⟩ : ByteArray)).length = 1 := rfl
          simp only [List.length_append, h2] at h1 ⊢
          omega))
        have HK3 := Lib.hid (HK2.out.trans hk3)
        have hw4 : w.heap.size ≤ w3.heap.size := by simp at hs3; omega
        clear h3 hk3 hs3
        go_wp2_with fail
        refine Calls.mono HB3.out ?_
        rintro e w4 ⟨rfl, h4, hk4, hs4⟩
        have H4 := Lib.hid (h4.to (L' := L ++ prN T k d) (by rw [HFT.out, show txB (⟨#[91]⟩ : ByteArray) = [91] from rfl]; simp only [List.append_assoc]))
        have HK4 := Lib.hid (HK3.out.trans hk4)
        clear h4 hk4
        go_wp2_with fail
        go_end0
        exact ⟨rfl, H4.out, HK4.out, by omega⟩
      · obtain ⟨q1, q2, hzq, hft⟩ := HT30.out e
        have HFT := Lib.hid hft
        have hm2 : mm = 2 := by rw [← HZS.out, hzq]; rfl
        subst hm2
        rw [hzq] at HRW
        rw [e] at b0
        obtain ⟨hqk_q1, hqd_q1, hqT_q1⟩ := HZK.out q1 (by rw [hzq]; simp)
        obtain ⟨hqk_q2, hqd_q2, hqT_q2⟩ := HZK.out q2 (by rw [hzq]; simp)
        obtain ⟨A_1, c_1, hn_1⟩ := HE.out.node hqT_q1
        obtain ⟨A_2, c_2, hn_2⟩ := HE.out.node hqT_q2
        have HN_q1 := Lib.hid hn_1
        have HN_q2 := Lib.hid hn_2
        have HLL := Lib.hid (show L.length + (brL true (prN T q d)).length + 1 + (prN T q1 d).length + 1 + (prN T q2 d).length + 1 ≤ 1099511627776 by
          have h1 := HL.out
          rw [HFT.out] at h1
          simp only [List.length_append, List.length_cons, List.length_nil] at h1
          omega)
        have HB2 := Lib.hid (wByte 91 (h2.keep (al (w := w2) (.cells #[.int .i64 0, .string ⟨#[]⟩, .string ⟨#[]⟩, .int .i64 0, .slice (some ⟨b5, o5 + 1, none⟩) 2 (cc + 1)] 31))) (by have h1 := HLL.out; simp only [List.length_append]; omega))
        have hbz := heap_alloc_new w2 (.cells #[.int .i64 0, .string ⟨#[]⟩, .string ⟨#[]⟩, .int .i64 0, .slice (some ⟨b5, o5 + 1, none⟩) 2 (cc + 1)] 31)
        have HK2 := Lib.hid (HKZ.out.trans (hk2.trans (kptBel (al (w := w2) (.cells #[.int .i64 0, .string ⟨#[]⟩, .string ⟨#[]⟩, .int .i64 0, .slice (some ⟨b5, o5 + 1, none⟩) 2 (cc + 1)] 31)))))
        clear h2 hk2 k0 k1 k2 k3 k4 e hft hn_1 hn_2
        go_wp2_with fail
        refine Calls.mono HB2.out ?_
        rintro e w3 ⟨rfl, h3, hk3, hs3⟩
        have hbx := kptBox hk3 hbz (by omega) (by decide)
        have x4 : w3.cell? ⟨w2.heap.size, 4, none⟩ = some (.slice (some ⟨b5, o5 + 1, none⟩) 2 (cc + 1)) := by rw [Lib.cell_of_heap hbx]; rfl
        have H3 := Lib.hid h3
        have HK3 := Lib.hid (HK2.out.trans hk3)
        have hw4 : w.heap.size ≤ w3.heap.size := by simp at hs3; omega
        clear h3 hk3 hs3 hbz hbx b0 b4
        go_wp2_with fail
        clear x4
        go_loopw [62] (fun v wr => ∃ j : Nat, v = .int .i64 (j : Int) ∧ j ≤ 2 ∧ Hid (Sx w0 g (trV b off c T) (d : Int) (L ++ brL true (prN T q d) ++ [91] ++ pcL T q1 q2 d j) wr) ∧ Hid (Kpt g w wr) ∧ w.heap.size ≤ wr.heap.size) (fun v _ => 2 - (intOf v).toNat)
        case atStart => exact ⟨0, rfl, by omega, Lib.hid (by simpa [pcL] using H3.out), HK3, hw4⟩
        case round =>
          obtain ⟨j, rfl, hj, HX, HK, hsz⟩ := hrel
          obtain ⟨b5', o5', eA, hb5', hcl5⟩ := HRW.out.2 (by omega)
          injection eA with eA
          injection eA with eA eA2
          subst eA eA2
          have hj3 : j = 0 ∨ j = 1 ∨ j = 2 := by omega
          rcases hj3 with rfl | rfl | rfl
          · have r0 : wr.cell? ⟨b5, o5 + 1, none⟩ = some (.int .i64 (q1 : Int)) := (HX.out.bel.cell (p := ⟨b5, o5 + 1, none⟩) hb5').trans (hcl5 0 (.int .i64 (q1 : Int)) rfl)
            obtain ⟨u2, _, _⟩ := HX.out.cells
            obtain ⟨y0, y1, y2, y3, y4⟩ := HN_q1.out.cells HX.out.bel
            have hqi : (q1 : Int) < (T.length : Int) := by omega
            clear hcl5
            rcases HZE.out q1 (by rw [hzq]; simp) with hE | ⟨h30, hN⟩
            · have hne31 : ((ndT T q1).kind != 31) = true := by
                unfold isE at hE
                simp only [decide_eq_true_eq] at hE
                simp
                omega
              have HKX := Lib.hid (HEX.out q1 hqk_q1 _ _ HN_q1.out hE d _ _ HX.out (by omega) (by
                have h1 := HLL.out
                simp only [pcL, List.length_append, List.length_cons, List.length_nil] at h1 ⊢
                omega))
              unfold ndW at HKX
              clear hE
              go_wp2_with fail
              refine Calls.mono HKX.out ?_
              rintro e w6 ⟨rfl, h6, hk6, hs6⟩
              have H6 := Lib.hid (h6.to (L' := L ++ brL true (prN T q d) ++ [91] ++ pcL T q1 q2 d 1) (by simp [pcL]))
              have HK6 := Lib.hid (HK.out.trans hk6)
              clear h6 hk6 y0 y1 y2 y3 y4 u2 r0
              go_wp2_with fail
              go_roundw
              case rel => exact ⟨1, by simp, by omega, H6, HK6, by omega⟩
              case measure => simp [intOf]
            · clear h30
              have HNN := Lib.hid (prN_none (d := d) hN)
              rw [hN] at y0
              clear hN
              have H6 := Lib.hid (show Sx w0 g (trV b off c T) (d : Int) (L ++ brL true (prN T q d) ++ [91] ++ pcL T q1 q2 d 1) _ from HX.out.to (by simp [pcL, HNN.out]))
              go_wp2_with fail
              clear y0 y1 y2 y3 y4 u2 r0
              go_roundw
              case rel => exact ⟨1, by simp, by omega, H6, HK, by omega⟩
              case measure => simp [intOf]
          · have r0' : wr.cell? ⟨b5, o5 + 1 + 1, none⟩ = some (.int .i64 (q2 : Int)) := (HX.out.bel.cell (p := ⟨b5, o5 + 1 + 1, none⟩) hb5').trans (hcl5 1 (.int .i64 (q2 : Int)) rfl)
            have hqi : (q2 : Int) < (T.length : Int) := by omega
            have HBC := Lib.hid (wByte 58 HX.out (by have h1 := HLL.out; simp only [List.length_append, List.length_cons, List.length_nil, pcL]; omega))
            clear hcl5
            go_wp2_with fail
            refine Calls.mono HBC.out ?_
            rintro e w5 ⟨rfl, h5, hk5, hs5⟩
            have r0 := r0'
            clear r0 r0'
            obtain ⟨u2, _, _⟩ := h5.cells
            obtain ⟨y0, y1, y2, y3, y4⟩ := HN_q2.out.cells h5.bel
            have H5 := Lib.hid h5
            have HK5 := Lib.hid (HK.out.trans hk5)
            have r0 : True := trivial
            clear h5 hk5
            rcases HZE.out q2 (by rw [hzq]; simp) with hE | ⟨h30, hN⟩
            · have hne31 : ((ndT T q2).kind != 31) = true := by
                unfold isE at hE
                simp only [decide_eq_true_eq] at hE
                simp
                omega
              have HKX := Lib.hid (HEX.out q2 hqk_q2 _ _ HN_q2.out hE d _ _ H5.out (by omega) (by
                have h1 := HLL.out
                simp only [pcL, List.length_append, List.length_cons, List.length_nil] at h1 ⊢
                omega))
              unfold ndW at HKX
              clear hE
              go_wp2_with fail
              refine Calls.mono HKX.out ?_
              rintro e w6 ⟨rfl, h6, hk6, hs6⟩
              have H6 := Lib.hid (h6.to (L' := L ++ brL true (prN T q d) ++ [91] ++ pcL T q1 q2 d 2) (by simp [pcL]))
              have HK6 := Lib.hid (HK5.out.trans hk6)
              clear h6 hk6 y0 y1 y2 y3 y4 u2 r0
              go_wp2_with fail
              go_roundw
              case rel => exact ⟨2, by simp, by omega, H6, HK6, by omega⟩
              case measure => simp [intOf]
            · clear h30
              have HNN := Lib.hid (prN_none (d := d) hN)
              rw [hN] at y0
              clear hN
              have H6 := Lib.hid (show Sx w0 g (trV b off c T) (d : Int) (L ++ brL true (prN T q d) ++ [91] ++ pcL T q1 q2 d 2) _ from H5.out.to (by simp [pcL, HNN.out]))
              go_wp2_with fail
              clear y0 y1 y2 y3 y4 u2 r0
              go_roundw
              case rel => exact ⟨2, by simp, by omega, H6, HK5, by omega⟩
              case measure => simp [intOf]
          · have HBC := Lib.hid (wByte 93 HX.out (by have h1 := HLL.out; simp only [List.length_append, List.length_cons, List.length_nil, pcL]; omega))
            clear hcl5
            go_wp2_with fail
            refine Calls.mono HBC.out ?_
            rintro e w7 ⟨rfl, h7, hk7, hs7⟩
            have H7 := Lib.hid (h7.to (L' := L ++ prN T k d) (by rw [HFT.out]; simp only [pcL, List.append_assoc]))
            have HK7 := Lib.hid (HK.out.trans hk7)
            clear h7 hk7
            go_wp2_with fail
            go_end0
            exact ⟨rfl, H7.out, HK7.out, by omega⟩
  · skip
    go_wp2_with fail
    refine Calls.mono HW.out ?_
    rintro e w2 ⟨rfl, h2, hk2, hs2⟩
    have HZ2 := Lib.hid (kptBox hk2 HZ1.out (by omega) (by decide))
    have b4 : w2.cell? ⟨w.heap.size, 4, none⟩ = some (.slice (some ⟨b5, o5, none⟩) (mm + 1) c4) := by rw [Lib.cell_of_heap HZ2.out]; rfl
    have b0 : w2.cell? ⟨w.heap.size, 0, none⟩ = some (.int .i64 (ndT T k).kind) := by rw [Lib.cell_of_heap HZ2.out]; rfl
    have hw2 : w.heap.size + 1 < w2.heap.size := by omega
    have hw3 : w.heap.size < w2.heap.size := by omega
    rcases hcc with ⟨rfl, rfl⟩ | ⟨cc, rfl⟩
    · rcases HKD.out with e | e | e
      · rw [e] at b0
        have HFT := Lib.hid (HT28.out e)
        have HLL := Lib.hid (show L.length + (brL false (prN T q d)).length + 1 + (comL (zs.map fun p => prN T p d)).length + 1 ≤ 1099511627776 by
          have h1 := HL.out
          rw [HFT.out] at h1
          simp only [List.length_append, List.length_cons, List.length_nil] at h1
          omega)
        have hkk := kids_any HE.out zs (fun p hp => ⟨(HZK.out p hp).2.2, by rcases HZE.out p hp with h | ⟨h, _⟩; exact h; (exfalso; omega), HEX.out p (HZK.out p hp).1⟩) ⟨#[40]⟩ 0 0 ⟨#[]⟩ ⟨#[]⟩ (some ⟨b5, o5, none⟩) (0) d (fun p hp => (HZK.out p hp).2.1) (by rw [HZS.out]; exact (by have := HZS.out; rw [List.length_eq_zero_iff.1 this]; exact RdM.nil)) (by rw [HZS.out]; exact hmmb) (h2.keep (al (w := w2) (.cells #[.int .i64 0, .string ⟨#[]⟩, .string ⟨#[]⟩, .int .i64 0, .slice (some ⟨b5, o5, none⟩) 0 (0)] 31))) (by
          have h1 := HLL.out
          have h2 : (txB (⟨#[40]⟩ : ByteArray)).length = 1 := rfl
          simp only [List.length_append] at h1 ⊢
          omega)
        rw [HZS.out] at hkk
        have HKK := Lib.hid hkk
        have HK2 := Lib.hid (HKZ.out.trans (hk2.trans (kptBel (al (w := w2) (.cells #[.int .i64 0, .string ⟨#[]⟩, .string ⟨#[]⟩, .int .i64 0, .slice (some ⟨b5, o5, none⟩) 0 (0)] 31)))))
        clear hkk h2 hk2 k0 k1 k2 k3 k4 e
        go_wp2_with fail
        refine Calls.mono HKK.out ?_
        rintro e w3 ⟨rfl, h3, hk3, hs3⟩
        have HB3 := Lib.hid (wByte 41 h3 (by
          have h1 := HLL.out
          have h2 : (txB (⟨#[40]⟩ : ByteArray)).length = 1 := rfl
          simp only [List.length_append, h2] at h1 ⊢
          omega))
        have HK3 := Lib.hid (HK2.out.trans hk3)
        have hw4 : w.heap.size ≤ w3.heap.size := by simp at hs3; omega
        clear h3 hk3 hs3
        go_wp2_with fail
        refine Calls.mono HB3.out ?_
        rintro e w4 ⟨rfl, h4, hk4, hs4⟩
        have H4 := Lib.hid (h4.to (L' := L ++ prN T k d) (by rw [HFT.out, show txB (⟨#[40]⟩ : ByteArray) = [40] from rfl]; simp only [List.append_assoc]))
        have HK4 := Lib.hid (HK3.out.trans hk4)
        clear h4 hk4
        go_wp2_with fail
        go_end0
        exact ⟨rfl, H4.out, HK4.out, by omega⟩
      · rw [e] at b0
        have HFT := Lib.hid (HT29.out e)
        have HLL := Lib.hid (show L.length + (brL false (prN T q d)).length + 1 + (comL (zs.map fun p => prN T p d)).length + 1 ≤ 1099511627776 by
          have h1 := HL.out
          rw [HFT.out] at h1
          simp only [List.length_append, List.length_cons, List.length_nil] at h1
          omega)
        have hkk := kids_any HE.out zs (fun p hp => ⟨(HZK.out p hp).2.2, by rcases HZE.out p hp with h | ⟨h, _⟩; exact h; (exfalso; omega), HEX.out p (HZK.out p hp).1⟩) ⟨#[91]⟩ 0 0 ⟨#[]⟩ ⟨#[]⟩ (some ⟨b5, o5, none⟩) (0) d (fun p hp => (HZK.out p hp).2.1) (by rw [HZS.out]; exact (by have := HZS.out; rw [List.length_eq_zero_iff.1 this]; exact RdM.nil)) (by rw [HZS.out]; exact hmmb) (h2.keep (al (w := w2) (.cells #[.int .i64 0, .string ⟨#[]⟩, .string ⟨#[]⟩, .int .i64 0, .slice (some ⟨b5, o5, none⟩) 0 (0)] 31))) (by
          have h1 := HLL.out
          have h2 : (txB (⟨#[91]⟩ : ByteArray)).length = 1 := rfl
          simp only [List.length_append] at h1 ⊢
          omega)
        rw [HZS.out] at hkk
        have HKK := Lib.hid hkk
        have HK2 := Lib.hid (HKZ.out.trans (hk2.trans (kptBel (al (w := w2) (.cells #[.int .i64 0, .string ⟨#[]⟩, .string ⟨#[]⟩, .int .i64 0, .slice (some ⟨b5, o5, none⟩) 0 (0)] 31)))))
        clear hkk h2 hk2 k0 k1 k2 k3 k4 e
        go_wp2_with fail
        refine Calls.mono HKK.out ?_
        rintro e w3 ⟨rfl, h3, hk3, hs3⟩
        have HB3 := Lib.hid (wByte 93 h3 (by
          have h1 := HLL.out
          have h2 : (txB (⟨#[91]⟩ : ByteArray)).length = 1 := rfl
          simp only [List.length_append, h2] at h1 ⊢
          omega))
        have HK3 := Lib.hid (HK2.out.trans hk3)
        have hw4 : w.heap.size ≤ w3.heap.size := by simp at hs3; omega
        clear h3 hk3 hs3
        go_wp2_with fail
        refine Calls.mono HB3.out ?_
        rintro e w4 ⟨rfl, h4, hk4, hs4⟩
        have H4 := Lib.hid (h4.to (L' := L ++ prN T k d) (by rw [HFT.out, show txB (⟨#[91]⟩ : ByteArray) = [91] from rfl]; simp only [List.append_assoc]))
        have HK4 := Lib.hid (HK3.out.trans hk4)
        clear h4 hk4
        go_wp2_with fail
        go_end0
        exact ⟨rfl, H4.out, HK4.out, by omega⟩
      · exfalso
        obtain ⟨q1, q2, hzq, _⟩ := HT30.out e
        have := HZS.out
        rw [hzq] at this
        cases this
    · rcases HKD.out with e | e | e
      · rw [e] at b0
        have HFT := Lib.hid (HT28.out e)
        have HLL := Lib.hid (show L.length + (brL false (prN T q d)).length + 1 + (comL (zs.map fun p => prN T p d)).length + 1 ≤ 1099511627776 by
          have h1 := HL.out
          rw [HFT.out] at h1
          simp only [List.length_append, List.length_cons, List.length_nil] at h1
          omega)
        have hkk := kids_any HE.out zs (fun p hp => ⟨(HZK.out p hp).2.2, by rcases HZE.out p hp with h | ⟨h, _⟩; exact h; (exfalso; omega), HEX.out p (HZK.out p hp).1⟩) ⟨#[40]⟩ 0 0 ⟨#[]⟩ ⟨#[]⟩ (some ⟨b5, o5 + 1, none⟩) (cc + 1) d (fun p hp => (HZK.out p hp).2.1) (by rw [HZS.out]; exact HRW.out) (by rw [HZS.out]; exact hmmb) (h2.keep (al (w := w2) (.cells #[.int .i64 0, .string ⟨#[]⟩, .string ⟨#[]⟩, .int .i64 0, .slice (some ⟨b5, o5 + 1, none⟩) mm (cc + 1)] 31))) (by
          have h1 := HLL.out
          have h2 : (txB (⟨#[40]⟩ : ByteArray)).length = 1 := rfl
          simp only [List.length_append] at h1 ⊢
          omega)
        rw [HZS.out] at hkk
        have HKK := Lib.hid hkk
        have HK2 := Lib.hid (HKZ.out.trans (hk2.trans (kptBel (al (w := w2) (.cells #[.int .i64 0, .string ⟨#[]⟩, .string ⟨#[]⟩, .int .i64 0, .slice (some ⟨b5, o5 + 1, none⟩) mm (cc + 1)] 31)))))
        clear hkk h2 hk2 k0 k1 k2 k3 k4 e
        go_wp2_with fail
        refine Calls.mono HKK.out ?_
        rintro e w3 ⟨rfl, h3, hk3, hs3⟩
        have HB3 := Lib.hid (wByte 41 h3 (by
          have h1 := HLL.out
          have h2 : (txB (⟨#[40]⟩ : ByteArray)).length = 1 := rfl
          simp only [List.length_append, h2] at h1 ⊢
          omega))
        have HK3 := Lib.hid (HK2.out.trans hk3)
        have hw4 : w.heap.size ≤ w3.heap.size := by simp at hs3; omega
        clear h3 hk3 hs3
        go_wp2_with fail
        refine Calls.mono HB3.out ?_
        rintro e w4 ⟨rfl, h4, hk4, hs4⟩
        have H4 := Lib.hid (h4.to (L' := L ++ prN T k d) (by rw [HFT.out, show txB (⟨#[40]⟩ : ByteArray) = [40] from rfl]; simp only [List.append_assoc]))
        have HK4 := Lib.hid (HK3.out.trans hk4)
        clear h4 hk4
        go_wp2_with fail
        go_end0
        exact ⟨rfl, H4.out, HK4.out, by omega⟩
      · rw [e] at b0
        have HFT := Lib.hid (HT29.out e)
        have HLL := Lib.hid (show L.length + (brL false (prN T q d)).length + 1 + (comL (zs.map fun p => prN T p d)).length + 1 ≤ 1099511627776 by
          have h1 := HL.out
          rw [HFT.out] at h1
          simp only [List.length_append, List.length_cons, List.length_nil] at h1
          omega)
        have hkk := kids_any HE.out zs (fun p hp => ⟨(HZK.out p hp).2.2, by rcases HZE.out p hp with h | ⟨h, _⟩; exact h; (exfalso; omega), HEX.out p (HZK.out p hp).1⟩) ⟨#[91]⟩ 0 0 ⟨#[]⟩ ⟨#[]⟩ (some ⟨b5, o5 + 1, none⟩) (cc + 1) d (fun p hp => (HZK.out p hp).2.1) (by rw [HZS.out]; exact HRW.out) (by rw [HZS.out]; exact hmmb) (h2.keep (al (w := w2) (.cells #[.int .i64 0, .string ⟨#[]⟩, .string ⟨#[]⟩, .int .i64 0, .slice (some ⟨b5, o5 + 1, none⟩) mm (cc + 1)] 31))) (by
          have h1 := HLL.out
          have h2 : (txB (⟨#[91]⟩ : ByteArray)).length = 1 := rfl
          simp only [List.length_append] at h1 ⊢
          omega)
        rw [HZS.out] at hkk
        have HKK := Lib.hid hkk
        have HK2 := Lib.hid (HKZ.out.trans (hk2.trans (kptBel (al (w := w2) (.cells #[.int .i64 0, .string ⟨#[]⟩, .string ⟨#[]⟩, .int .i64 0, .slice (some ⟨b5, o5 + 1, none⟩) mm (cc + 1)] 31)))))
        clear hkk h2 hk2 k0 k1 k2 k3 k4 e
        go_wp2_with fail
        refine Calls.mono HKK.out ?_
        rintro e w3 ⟨rfl, h3, hk3, hs3⟩
        have HB3 := Lib.hid (wByte 93 h3 (by
          have h1 := HLL.out
          have h2 : (txB (⟨#[91]⟩ : ByteArray)).length = 1 := rfl
          simp only [List.length_append, h2] at h1 ⊢
          omega))
        have HK3 := Lib.hid (HK2.out.trans hk3)
        have hw4 : w.heap.size ≤ w3.heap.size := by simp at hs3; omega
        clear h3 hk3 hs3
        go_wp2_with fail
        refine Calls.mono HB3.out ?_
        rintro e w4 ⟨rfl, h4, hk4, hs4⟩
        have H4 := Lib.hid (h4.to (L' := L ++ prN T k d) (by rw [HFT.out, show txB (⟨#[91]⟩ : ByteArray) = [91] from rfl]; simp only [List.append_assoc]))
        have HK4 := Lib.hid (HK3.out.trans hk4)
        clear h4 hk4
        go_wp2_with fail
        go_end0
        exact ⟨rfl, H4.out, HK4.out, by omega⟩
      · obtain ⟨q1, q2, hzq, hft⟩ := HT30.out e
        have HFT := Lib.hid hft
        have hm2 : mm = 2 := by rw [← HZS.out, hzq]; rfl
        subst hm2
        rw [hzq] at HRW
        rw [e] at b0
        obtain ⟨hqk_q1, hqd_q1, hqT_q1⟩ := HZK.out q1 (by rw [hzq]; simp)
        obtain ⟨hqk_q2, hqd_q2, hqT_q2⟩ := HZK.out q2 (by rw [hzq]; simp)
        obtain ⟨A_1, c_1, hn_1⟩ := HE.out.node hqT_q1
        obtain ⟨A_2, c_2, hn_2⟩ := HE.out.node hqT_q2
        have HN_q1 := Lib.hid hn_1
        have HN_q2 := Lib.hid hn_2
        have HLL := Lib.hid (show L.length + (brL false (prN T q d)).length + 1 + (prN T q1 d).length + 1 + (prN T q2 d).length + 1 ≤ 1099511627776 by
          have h1 := HL.out
          rw [HFT.out] at h1
          simp only [List.length_append, List.length_cons, List.length_nil] at h1
          omega)
        have HB2 := Lib.hid (wByte 91 (h2.keep (al (w := w2) (.cells #[.int .i64 0, .string ⟨#[]⟩, .string ⟨#[]⟩, .int .i64 0, .slice (some ⟨b5, o5 + 1, none⟩) 2 (cc + 1)] 31))) (by have h1 := HLL.out; simp only [List.length_append]; omega))
        have hbz := heap_alloc_new w2 (.cells #[.int .i64 0, .string ⟨#[]⟩, .string ⟨#[]⟩, .int .i64 0, .slice (some ⟨b5, o5 + 1, none⟩) 2 (cc + 1)] 31)
        have HK2 := Lib.hid (HKZ.out.trans (hk2.trans (kptBel (al (w := w2) (.cells #[.int .i64 0, .string ⟨#[]⟩, .string ⟨#[]⟩, .int .i64 0, .slice (some ⟨b5, o5 + 1, none⟩) 2 (cc + 1)] 31)))))
        clear h2 hk2 k0 k1 k2 k3 k4 e hft hn_1 hn_2
        go_wp2_with fail
        refine Calls.mono HB2.out ?_
        rintro e w3 ⟨rfl, h3, hk3, hs3⟩
        have hbx := kptBox hk3 hbz (by omega) (by decide)
        have x4 : w3.cell? ⟨w2.heap.size, 4, none⟩ = some (.slice (some ⟨b5, o5 + 1, none⟩) 2 (cc + 1)) := by rw [Lib.cell_of_heap hbx]; rfl
        have H3 := Lib.hid h3
        have HK3 := Lib.hid (HK2.out.trans hk3)
        have hw4 : w.heap.size ≤ w3.heap.size := by simp at hs3; omega
        clear h3 hk3 hs3 hbz hbx b0 b4
        go_wp2_with fail
        clear x4
        go_loopw [62] (fun v wr => ∃ j : Nat, v = .int .i64 (j : Int) ∧ j ≤ 2 ∧ Hid (Sx w0 g (trV b off c T) (d : Int) (L ++ brL false (prN T q d) ++ [91] ++ pcL T q1 q2 d j) wr) ∧ Hid (Kpt g w wr) ∧ w.heap.size ≤ wr.heap.size) (fun v _ => 2 - (intOf v).toNat)
        case atStart => exact ⟨0, rfl, by omega, Lib.hid (by simpa [pcL] using H3.out), HK3, hw4⟩
        case round =>
          obtain ⟨j, rfl, hj, HX, HK, hsz⟩ := hrel
          obtain ⟨b5', o5', eA, hb5', hcl5⟩ := HRW.out.2 (by omega)
          injection eA with eA
          injection eA with eA eA2
          subst eA eA2
          have hj3 : j = 0 ∨ j = 1 ∨ j = 2 := by omega
          rcases hj3 with rfl | rfl | rfl
          · have r0 : wr.cell? ⟨b5, o5 + 1, none⟩ = some (.int .i64 (q1 : Int)) := (HX.out.bel.cell (p := ⟨b5, o5 + 1, none⟩) hb5').trans (hcl5 0 (.int .i64 (q1 : Int)) rfl)
            obtain ⟨u2, _, _⟩ := HX.out.cells
            obtain ⟨y0, y1, y2, y3, y4⟩ := HN_q1.out.cells HX.out.bel
            have hqi : (q1 : Int) < (T.length : Int) := by omega
            clear hcl5
            rcases HZE.out q1 (by rw [hzq]; simp) with hE | ⟨h30, hN⟩
            · have hne31 : ((ndT T q1).kind != 31) = true := by
                unfold isE at hE
                simp only [decide_eq_true_eq] at hE
                simp
                omega
              have HKX := Lib.hid (HEX.out q1 hqk_q1 _ _ HN_q1.out hE d _ _ HX.out (by omega) (by
                have h1 := HLL.out
                simp only [pcL, List.length_append, List.length_cons, List.length_nil] at h1 ⊢
                omega))
              unfold ndW at HKX
              clear hE
              go_wp2_with fail
              refine Calls.mono HKX.out ?_
              rintro e w6 ⟨rfl, h6, hk6, hs6⟩
              have H6 := Lib.hid (h6.to (L' := L ++ brL false (prN T q d) ++ [91] ++ pcL T q1 q2 d 1) (by simp [pcL]))
              have HK6 := Lib.hid (HK.out.trans hk6)
              clear h6 hk6 y0 y1 y2 y3 y4 u2 r0
              go_wp2_with fail
              go_roundw
              case rel => exact ⟨1, by simp, by omega, H6, HK6, by omega⟩
              case measure => simp [intOf]
            · clear h30
              have HNN := Lib.hid (prN_none (d := d) hN)
              rw [hN] at y0
              clear hN
              have H6 := Lib.hid (show Sx w0 g (trV b off c T) (d : Int) (L ++ brL false (prN T q d) ++ [91] ++ pcL T q1 q2 d 1) _ from HX.out.to (by simp [pcL, HNN.out]))
              go_wp2_with fail
              clear y0 y1 y2 y3 y4 u2 r0
              go_roundw
              case rel => exact ⟨1, by simp, by omega, H6, HK, by omega⟩
              case measure => simp [intOf]
          · have r0' : wr.cell? ⟨b5, o5 + 1 + 1, none⟩ = some (.int .i64 (q2 : Int)) := (HX.out.bel.cell (p := ⟨b5, o5 + 1 + 1, none⟩) hb5').trans (hcl5 1 (.int .i64 (q2 : Int)) rfl)
            have hqi : (q2 : Int) < (T.length : Int) := by omega
            have HBC := Lib.hid (wByte 58 HX.out (by have h1 := HLL.out; simp only [List.length_append, List.length_cons, List.length_nil, pcL]; omega))
            clear hcl5
            go_wp2_with fail
            refine Calls.mono HBC.out ?_
            rintro e w5 ⟨rfl, h5, hk5, hs5⟩
            have r0 := r0'
            clear r0 r0'
            obtain ⟨u2, _, _⟩ := h5.cells
            obtain ⟨y0, y1, y2, y3, y4⟩ := HN_q2.out.cells h5.bel
            have H5 := Lib.hid h5
            have HK5 := Lib.hid (HK.out.trans hk5)
            have r0 : True := trivial
            clear h5 hk5
            rcases HZE.out q2 (by rw [hzq]; simp) with hE | ⟨h30, hN⟩
            · have hne31 : ((ndT T q2).kind != 31) = true := by
                unfold isE at hE
                simp only [decide_eq_true_eq] at hE
                simp
                omega
              have HKX := Lib.hid (HEX.out q2 hqk_q2 _ _ HN_q2.out hE d _ _ H5.out (by omega) (by
                have h1 := HLL.out
                simp only [pcL, List.length_append, List.length_cons, List.length_nil] at h1 ⊢
                omega))
              unfold ndW at HKX
              clear hE
              go_wp2_with fail
              refine Calls.mono HKX.out ?_
              rintro e w6 ⟨rfl, h6, hk6, hs6⟩
              have H6 := Lib.hid (h6.to (L' := L ++ brL false (prN T q d) ++ [91] ++ pcL T q1 q2 d 2) (by simp [pcL]))
              have HK6 := Lib.hid (HK5.out.trans hk6)
              clear h6 hk6 y0 y1 y2 y3 y4 u2 r0
              go_wp2_with fail
              go_roundw
              case rel => exact ⟨2, by simp, by omega, H6, HK6, by omega⟩
              case measure => simp [intOf]
            · clear h30
              have HNN := Lib.hid (prN_none (d := d) hN)
              rw [hN] at y0
              clear hN
              have H6 := Lib.hid (show Sx w0 g (trV b off c T) (d : Int) (L ++ brL false (prN T q d) ++ [91] ++ pcL T q1 q2 d 2) _ from H5.out.to (by simp [pcL, HNN.out]))
              go_wp2_with fail
              clear y0 y1 y2 y3 y4 u2 r0
              go_roundw
              case rel => exact ⟨2, by simp, by omega, H6, HK5, by omega⟩
              case measure => simp [intOf]
          · have HBC := Lib.hid (wByte 93 HX.out (by have h1 := HLL.out; simp only [List.length_append, List.length_cons, List.length_nil, pcL]; omega))
            clear hcl5
            go_wp2_with fail
            refine Calls.mono HBC.out ?_
            rintro e w7 ⟨rfl, h7, hk7, hs7⟩
            have H7 := Lib.hid (h7.to (L' := L ++ prN T k d) (by rw [HFT.out]; simp only [pcL, List.append_assoc]))
            have HK7 := Lib.hid (HK.out.trans hk7)
            clear h7 hk7
            go_wp2_with fail
            go_end0
            exact ⟨rfl, H7.out, HK7.out, by omega⟩
end Go.Proofs.YtkpejdkffkhekaaGreatDoor
end
section
/- The printer: expressions. Conditions: the nodes ahead are printed right. -/
set_option maxRecDepth 100000
namespace Go.Proofs.YtkpejdkffkhekaaGreatDoor
open Go.ChangeShapes Go.WideShapes Go.ChangeAt Go.RowKit
section
variable (w0 : World) (g b off c : Nat) (T : List ND)
/-- 'signature' prints the head of the function q. -/
def SgC (q : Nat) : Prop := ∀ A4 c4, NodeV w0 b off T q A4 c4 → ((ndT T q).kind = 2 ∨ (ndT T q).kind = 33) → ∀ (d : Nat) (L : List UInt8) (w : World), Sx w0 g (trV b off c T) (d : Int) L w → d + q ≤ 9000 → L.length + (hdS T (prT T q) (ndT T q) d).length ≤ 1099511627776 →
  Calls Tryz.prog 14 #[.pointer (some ⟨g, 0, none⟩), ndW (ndT T q) A4 c4] w (PrR w0 g (trV b off c T) (d : Int) (L ++ hdS T (prT T q) (ndT T q) d) w)
/-- 'expr' at one node. -/
def ExN (q : Nat) (A4 : Option Addr) (c4 d : Nat) (L : List UInt8) (w : World) : Prop := Calls Tryz.prog 63 #[.pointer (some ⟨g, 0, none⟩), ndW (ndT T q) A4 c4] w (PrR w0 g (trV b off c T) (d : Int) (L ++ prN T q d) w)
end
section
variable {w0 w : World} {g b off c k c4 d : Nat} {T : List ND} {m : Int} {A4 : Option Addr} {L : List UInt8}
set_option maxHeartbeats 4000000 in
theorem expr_nil (e : (ndT T k).kind = 24) (h : Sx w0 g (trV b off c T) (d : Int) L w) (hl : L.length + (prN T k d).length ≤ 1099511627776) : ExN w0 g b off c T k A4 c4 d L w := by
  have HTX := Lib.hid (show prN T k d = [110, 105, 108] by unfold prN prS; simp only [e, Int.reduceEq, if_true, if_false])
  unfold ExN ndW
  have HW := Lib.hid (wStr ⟨#[110, 105, 108]⟩ (h.keep (al (w := w) (.cells #[.int .i64 24, .string (ndT T k).text, .string (ndT T k).typ, .int .i64 (ndT T k).num, .slice A4 (ndT T k).kids.length c4] 31))) (by rw [HTX.out] at hl; exact hl))
  have HK := Lib.hid (kptBel (g := g) (al (w := w) (.cells #[.int .i64 24, .string (ndT T k).text, .string (ndT T k).typ, .int .i64 (ndT T k).num, .slice A4 (ndT T k).kids.length c4] 31)))
  rw [e]
  clear h e hl
  go_enter Tryz.func63, Tryz.ntmps63
  go_wp2_with fail
  refine Calls.mono HW.out ?_
  rintro e w1 ⟨rfl, h1, hk1, hs1⟩
  have H1 := Lib.hid (h1.to (L' := L ++ prN T k d) (by rw [HTX.out]; rfl))
  have HK1 := Lib.hid (HK.out.trans hk1)
  have hw1 : w.heap.size ≤ w1.heap.size := by simp at hs1; omega
  clear h1 hk1 hs1
  go_wp2_with fail
  go_end0
  exact ⟨rfl, H1.out, HK1.out, hw1⟩
set_option maxHeartbeats 4000000 in
theorem expr_behind (hbh : BhC w0 g b off c T k) (hnv : NodeV w0 b off T k A4 c4) (e : (ndT T k).kind = 28 ∨ (ndT T k).kind = 29 ∨ (ndT T k).kind = 30) (h : Sx w0 g (trV b off c T) (d : Int) L w) (hd : d + k ≤ 9000) (hl : L.length + (prN T k d).length ≤ 1099511627776) : ExN w0 g b off c T k A4 c4 d L w := by
  have HW := Lib.hid (hbh _ _ hnv e d _ _ (h.keep (al (w := w) (.cells #[.int .i64 (ndT T k).kind, .string (ndT T k).text, .string (ndT T k).typ, .int .i64 (ndT T k).num, .slice A4 (ndT T k).kids.length c4] 31))) hd hl)
  have HK := Lib.hid (kptBel (g := g) (al (w := w) (.cells #[.int .i64 (ndT T k).kind, .string (ndT T k).text, .string (ndT T k).typ, .int .i64 (ndT T k).num, .slice A4 (ndT T k).kids.length c4] 31)))
  unfold ndW at HW
  unfold ExN ndW
  clear h hbh hnv hl
  rcases e with e | e | e
  all_goals (
    rw [e] at HW HK ⊢
    clear e
    go_enter Tryz.func63, Tryz.ntmps63
    go_wp2_with fail
    refine Calls.mono HW.out ?_
    rintro e w1 ⟨rfl, h1, hk1, hs1⟩
    have H1 := Lib.hid h1
    have HK1 := Lib.hid (HK.out.trans hk1)
    have hw1 : w.heap.size ≤ w1.heap.size := by simp at hs1; omega
    clear h1 hk1 hs1
    go_wp2_with fail
    go_end0
    exact ⟨rfl, H1.out, HK1.out, hw1⟩)
set_option maxHeartbeats 4000000 in
theorem expr_lit (hsg : SgC w0 g b off c T k) (hnv : NodeV w0 b off T k A4 c4) (e : (ndT T k).kind = 33) (h : Sx w0 g (trV b off c T) (d : Int) L w) (hd : d + k ≤ 9000) (hl : L.length + (prN T k d).length ≤ 1099511627776) : ExN w0 g b off c T k A4 c4 d L w := by
  have HTX := Lib.hid (show prN T k d = [102, 117, 110, 99] ++ hdS T (prT T k) (ndT T k) d by unfold prN prS; simp only [e, Int.reduceEq, if_true, if_false])
  have HL := Lib.hid (show L.length + (4 + (hdS T (prT T k) (ndT T k) d).length) ≤ 1099511627776 by
    rw [HTX.out] at hl
    simp only [List.length_append, List.length_cons, List.length_nil] at hl
    omega)
  have HW := Lib.hid (wStr ⟨#[102, 117, 110, 99]⟩ (h.keep (al (w := w) (.cells #[.int .i64 33, .string (ndT T k).text, .string (ndT T k).typ, .int .i64 (ndT T k).num, .slice A4 (ndT T k).kids.length c4] 31))) (by have := HL.out; show L.length + 4 ≤ _; omega))
  have HK := Lib.hid (kptBel (g := g) (al (w := w) (.cells #[.int .i64 33, .string (ndT T k).text, .string (ndT T k).typ, .int .i64 (ndT T k).num, .slice A4 (ndT T k).kids.length c4] 31)))
  have HSG := Lib.hid (fun (W : World) (hW : Sx w0 g (trV b off c T) (d : Int) (L ++ txB ⟨#[102, 117, 110, 99]⟩) W) => hsg _ _ hnv (.inr e) d _ _ hW hd (by have := HL.out; rw [List.length_append]; show L.length + 4 + _ ≤ _; omega))
  unfold ndW at HSG
  unfold ExN ndW
  have hgw := h.lt
  rw [e] at HSG ⊢
  clear h e hl hsg hnv
  go_enter Tryz.func63, Tryz.ntmps63
  go_wp2_with fail
  refine Calls.mono HW.out ?_
  rintro e w1 ⟨rfl, h1, hk1, hs1⟩
  have hbox := kptBox hk1 (heap_alloc_new w _) (by omega) (by decide)
  have b0 : w1.cell? ⟨w.heap.size, 0, none⟩ = some (.int .i64 33) := by rw [Lib.cell_of_heap hbox]; rfl
  have b1 : w1.cell? ⟨w.heap.size, 1, none⟩ = some (.string (ndT T k).text) := by rw [Lib.cell_of_heap hbox]; rfl
  have b2 : w1.cell? ⟨w.heap.size, 2, none⟩ = some (.string (ndT T k).typ) := by rw [Lib.cell_of_heap hbox]; rfl
  have b3 : w1.cell? ⟨w.heap.size, 3, none⟩ = some (.int .i64 (ndT T k).num) := by rw [Lib.cell_of_heap hbox]; rfl
  have b4 : w1.cell? ⟨w.heap.size, 4, none⟩ = some (.slice A4 (ndT T k).kids.length c4) := by rw [Lib.cell_of_heap hbox]; rfl
  have HS2 := Lib.hid (HSG.out w1 h1)
  have HK1 := Lib.hid (HK.out.trans hk1)
  have hw1 : w.heap.size ≤ w1.heap.size := by simp at hs1; omega
  clear h1 hk1 hs1 hbox
  go_wp2_with fail
  refine Calls.mono HS2.out ?_
  rintro e w2 ⟨rfl, h2, hk2, hs2⟩
  have H2 := Lib.hid (h2.to (L' := L ++ prN T k d) (by rw [HTX.out, show txB (⟨#[102, 117, 110, 99]⟩ : ByteArray) = [102, 117, 110, 99] from rfl]; simp only [List.append_assoc]))
  have HK2 := Lib.hid (HK1.out.trans hk2)
  clear h2 hk2
  go_wp2_with fail
  go_end0
  exact ⟨rfl, H2.out, HK2.out, by omega⟩
set_option maxHeartbeats 4000000 in
theorem expr_text (e : (ndT T k).kind = 22) (hq : quoB (ndT T k).text = true) (h : Sx w0 g (trV b off c T) (d : Int) L w) (hl : L.length + (prN T k d).length ≤ 1099511627776) : ExN w0 g b off c T k A4 c4 d L w := by
  have HTX := Lib.hid (show prN T k d = 34 :: ((quoL (txB (ndT T k).text)).getD []) ++ [34] by unfold prN prS; simp only [e, Int.reduceEq, if_true, if_false])
  have hq2 : (ndT T k).text.size ≤ 200 ∧ ∃ a, quoL (txB (ndT T k).text) = some a := by
    unfold quoB at hq
    simp only [Bool.and_eq_true, decide_eq_true_eq] at hq
    exact ⟨hq.1, Option.isSome_iff_exists.1 hq.2⟩
  obtain ⟨hs2, qa, hqa⟩ := hq2
  have hqv : quoV (ndT T k).text = .tuple #[.string ⟨(34 :: qa ++ [34]).toArray⟩, .int .i64 0] := quoV_some (by omega) hqa
  have HTX2 := Lib.hid (show prN T k d = txB ⟨(34 :: qa ++ [34]).toArray⟩ by rw [HTX.out, hqa]; simp [txB])
  have HQ := Lib.hid (fun (W : World) => scanQuote_any (ndT T k).text (by omega) W)
  rw [hqv] at HQ
  have HL := Lib.hid hl
  have HS := Lib.hid h
  unfold ExN ndW
  rw [e]
  clear h e hl hq hqa hqv hs2
  go_enter Tryz.func63, Tryz.ntmps63
  go_wp2_with fail
  refine Calls.mono (HQ.out _) ?_
  rintro e w1 ⟨rfl, hb1⟩
  have HB := Lib.hid (show Below w.heap.size w w1 from sq (al _) hb1)
  have HW := Lib.hid (wStr ⟨(34 :: qa ++ [34]).toArray⟩ (HS.out.keep HB.out) (by have h1 := HL.out; rw [HTX2.out] at h1; exact h1))
  have hw0 : w.heap.size ≤ w1.heap.size := HB.out.size
  clear hb1
  go_wp2_with fail
  refine Calls.mono HW.out ?_
  rintro e w2 ⟨rfl, h2, hk2, hs2⟩
  have H2 := Lib.hid (h2.to (L' := L ++ prN T k d) (by rw [HTX2.out]))
  have HK2 := Lib.hid ((kptBel HB.out).trans hk2)
  clear h2 hk2
  go_wp2_with fail
  go_end0
  exact ⟨rfl, H2.out, HK2.out, by omega⟩
/-- A node's box, just made. -/
theorem box_new (w : World) (x0 x3 : Int) (x1 x2 : ByteArray) (v : Value) : ∃ wb, w.alloc (.cells #[.int .i64 x0, .string x1, .string x2, .int .i64 x3, v] 31) = wb ∧ wb.heap[w.heap.size]? = some (.cells #[.int .i64 x0, .string x1, .string x2, .int .i64 x3, v] 31 (0, 0)) ∧ Below w.heap.size w wb ∧ wb.heap.size = w.heap.size + 1 :=
  ⟨_, rfl, heap_alloc_new w _, al _, by simp⟩
theorem box_cells {wb : World} {n : Nat} {x0 x3 : Int} {x1 x2 : ByteArray} {v : Value} (h : wb.heap[n]? = some (.cells #[.int .i64 x0, .string x1, .string x2, .int .i64 x3, v] 31 (0, 0))) : wb.cell? ⟨n, 0, none⟩ = some (.int .i64 x0) ∧ wb.cell? ⟨n, 1, none⟩ = some (.string x1) ∧ wb.cell? ⟨n, 2, none⟩ = some (.string x2) ∧ wb.cell? ⟨n, 3, none⟩ = some (.int .i64 x3) ∧ wb.cell? ⟨n, 4, none⟩ = some v :=
  ⟨by rw [Lib.cell_of_heap h]; rfl, by rw [Lib.cell_of_heap h]; rfl, by rw [Lib.cell_of_heap h]; rfl, by rw [Lib.cell_of_heap h]; rfl, by rw [Lib.cell_of_heap h]; rfl⟩
set_option maxHeartbeats 4000000 in
theorem expr_name (e : (ndT T k).kind = 25) (h : Sx w0 g (trV b off c T) (d : Int) L w) (hl : L.length + (prN T k d).length ≤ 1099511627776) : ExN w0 g b off c T k A4 c4 d L w := by
  have HTX := Lib.hid (show prN T k d = txB (ndT T k).text by unfold prN prS; simp only [e, Int.reduceEq, if_true, if_false])
  unfold ExN ndW
  rw [e]
  obtain ⟨wb, hwb, hbx, hbl, hbs⟩ := box_new w 25 (ndT T k).num (ndT T k).text (ndT T k).typ (.slice A4 (ndT T k).kids.length c4)
  obtain ⟨b0, b1, b2, b3, b4⟩ := box_cells hbx
  have HW := Lib.hid (wStr (ndT T k).text (h.keep (dr hbl 1)) (by rw [HTX.out] at hl; exact hl))
  have HK := Lib.hid (kptBel (g := g) (dr hbl 1))
  clear h e hl hbx hbl
  go_enter Tryz.func63, Tryz.ntmps63
  go_wp2_with fail
  clear hwb
  go_still_tail 5, (by kernel_rfl)
  change wpList _ _ _ _ _ wb.drew
  go_wp2_with fail
  refine Calls.mono HW.out ?_
  rintro e w1 ⟨rfl, h1, hk1, hs1⟩
  have H1 := Lib.hid (h1.to (L' := L ++ prN T k d) (by rw [HTX.out]))
  have HK1 := Lib.hid (HK.out.trans hk1)
  have hw1 : w.heap.size ≤ w1.heap.size := by simp at hs1; omega
  clear h1 hk1 hs1
  go_wp2_with fail
  go_end0
  exact ⟨rfl, H1.out, HK1.out, hw1⟩
theorem txB_sL (l : List UInt8) : txB ⟨l.toArray⟩ = l := by simp [txB]
set_option maxHeartbeats 4000000 in
theorem expr_int (hnv : NodeV w0 b off T k A4 c4) (e : (ndT T k).kind = 21) (h : Sx w0 g (trV b off c T) (d : Int) L w) (hl : L.length + (prN T k d).length ≤ 1099511627776) : ExN w0 g b off c T k A4 c4 d L w := by
  have HTX := Lib.hid (show prN T k d = txB (decS (ndT T k).num) by unfold prN prS; simp only [e, Int.reduceEq, if_true, if_false])
  unfold ExN ndW
  rw [e]
  obtain ⟨wb, hwb, hbx, hbl, hbs⟩ := box_new w 21 (ndT T k).num (ndT T k).text (ndT T k).typ (.slice A4 (ndT T k).kids.length c4)
  have HBX := Lib.hid (show ∀ W, Below wb.heap.size wb W → W.cell? ⟨w.heap.size, 3, none⟩ = some (.int .i64 (ndT T k).num) from fun W hW => (hW.cell (p := ⟨w.heap.size, 3, none⟩) (by show w.heap.size < _; omega)).trans (box_cells hbx).2.2.2.1)
  have b3 := HBX.out wb (Below.refl _ _)
  have b0 := (box_cells hbx).1
  have HBB := Lib.hid (show ∀ W, Below wb.heap.size wb W → W.heap[w.heap.size]? = some (.cells #[.int .i64 21, .string (ndT T k).text, .string (ndT T k).typ, .int .i64 (ndT T k).num, .slice A4 (ndT T k).kids.length c4] 31 (0, 0)) from fun W hW => (hW.block _ (by omega)).trans hbx)
  have hgw := h.lt
  have HWT := Lib.hid (fun (W : World) => wordText_any (ndT T k).num hnv.nb W)
  have HW := Lib.hid (fun (W : World) (hW : Below w.heap.size w W) => wStr (decS (ndT T k).num) (h.keep hW) (by rw [HTX.out] at hl; exact hl))
  have HBL := Lib.hid hbl
  clear h e hl hbx hbl hnv
  go_enter Tryz.func63, Tryz.ntmps63
  go_wp2_with fail
  clear hwb
  go_region_held3 (fun W => W.cell? ⟨w.heap.size, 3, none⟩ = some (.int .i64 (ndT T k).num)) (go_keep) (first | ((go_at_call 82); refine Calls.mono (HWT.out _) ?_; rintro e w1 ⟨rfl, hb1⟩; have hb9 : Below wb.heap.size wb w1 := ⟨hb1.os, hb1.tape, hb1.output, hb1.size, hb1.block⟩; have b9 := HBX.out w1 hb9) | ((go_at_call 13); refine Calls.mono (HW.out _ (sq HBL.out hb9)) ?_; rintro e w2 ⟨rfl, h2, hk2, hs2⟩; have b99 := (box_cells (kptBox hk2 (HBB.out w1 hb9) (by omega) (by decide))).2.2.2.1))
  have H2 := Lib.hid (h2.to (L' := L ++ prN T k d) (by rw [HTX.out]))
  have HK2 := Lib.hid ((kptBel (sq HBL.out hb9)).trans hk2)
  have hw2 : w.heap.size ≤ w2.heap.size := by have := hb9.size; omega
  clear h2 hk2 b9 b99 b0 b3 hb1 hb9
  go_wp2_with fail
  go_end0
  exact ⟨rfl, H2.out, HK2.out, hw2⟩
set_option maxHeartbeats 4000000 in
theorem expr_list (hev : Ev w0 (some ⟨b, off, none⟩) c T m) (hex : ∀ q, q < k → ExC w0 g b off c T q) (hnv : NodeV w0 b off T k A4 c4) (e : (ndT T k).kind = 32) (h : Sx w0 g (trV b off c T) (d : Int) L w) (hd : d + k ≤ 9000) (hl : L.length + (prN T k d).length ≤ 1099511627776) : ExN w0 g b off c T k A4 c4 d L w := by
  obtain ⟨zs, hzs2⟩ : ∃ zs, zs = (ndT T k).kids.map Int.toNat := ⟨_, rfl⟩
  have hkT := hnv.lt
  have HZM : ∀ p ∈ zs, p < k ∧ p < T.length ∧ isE (ndT T p).kind = true := fun p hp => by
    rw [hzs2, kids_range] at hp
    obtain ⟨j, hj, rfl⟩ := List.mem_map.1 hp
    obtain ⟨p', _, h2, h3, h4⟩ := kid_at hev.good hkT (List.mem_range.1 hj)
    rw [h2]
    unfold kidN at h4
    rw [e] at h4
    exact ⟨h3, by omega, by simpa using h4⟩
  have hzl : zs.length = (ndT T k).kids.length := by rw [hzs2, List.length_map]
  have HTX := Lib.hid (show prN T k d = [91, 93, 105, 110, 116, 123] ++ comL (zs.map fun p => prN T p d) ++ [125] by
    have hpm : zs.map (fun p => prT T k p d) = zs.map (fun p => prN T p d) := List.map_congr_left fun p hp => prT_kid (HZM p hp).1
    rw [← hpm, hzs2]
    unfold prN prS
    simp only [e, Int.reduceEq, if_true, if_false])
  have HL := Lib.hid (show L.length + (6 + (comL (zs.map fun p => prN T p d)).length + 1) ≤ 1099511627776 by
    rw [HTX.out] at hl
    simp only [List.length_append, List.length_cons, List.length_nil] at hl
    omega)
  obtain ⟨wb, hwb, hbx, hbl, hbs⟩ := box_new w 32 (ndT T k).num (ndT T k).text (ndT T k).typ (.slice A4 (ndT T k).kids.length c4)
  obtain ⟨b0, b1, b2, b3, b4⟩ := box_cells hbx
  have hkk := kids_any hev zs (fun p hp => ⟨(HZM p hp).2.1, (HZM p hp).2.2, hex p (HZM p hp).1⟩) ⟨#[91, 93, 105, 110, 116, 123]⟩ 32 (ndT T k).num (ndT T k).text (ndT T k).typ A4 c4 d (fun p hp => by have := (HZM p hp).1; omega) (by rw [hzl, hzs2, ← ints_nat (kids_pos hev.good hkT)]; exact hnv.row) (by rw [hzl]; have := kids_few hev.good hkT; omega) (h.keep hbl) (by
    have h1 := HL.out
    show L.length + 6 + _ ≤ _
    omega)
  rw [hzl] at hkk
  have HKK := Lib.hid hkk
  have HK := Lib.hid (kptBel (g := g) hbl)
  unfold ExN ndW
  rw [e]
  clear h e hl hbx hbl hkk hnv hex hev HZM hzl hzs2
  go_enter Tryz.func63, Tryz.ntmps63
  go_wp2_with fail
  clear hwb
  refine Calls.mono HKK.out ?_
  rintro e w1 ⟨rfl, h1, hk1, hs1⟩
  have HB := Lib.hid (wByte 125 h1 (by have h1 := HL.out; rw [List.length_append, List.length_append]; show L.length + 6 + _ + 1 ≤ _; omega))
  have HK1 := Lib.hid (HK.out.trans hk1)
  clear h1 hk1 b0 b1 b2 b3 b4
  go_wp2_with fail
  refine Calls.mono HB.out ?_
  rintro e w2 ⟨rfl, h2, hk2, hs2⟩
  have H2 := Lib.hid (h2.to (L' := L ++ prN T k d) (by rw [HTX.out, show txB (⟨#[91, 93, 105, 110, 116, 123]⟩ : ByteArray) = [91, 93, 105, 110, 116, 123] from rfl]; simp only [List.append_assoc]))
  have HK2 := Lib.hid (HK1.out.trans hk2)
  clear h2 hk2
  go_wp2_with fail
  go_end0
  exact ⟨rfl, H2.out, HK2.out, by omega⟩
end
end Go.Proofs.YtkpejdkffkhekaaGreatDoor
end
section
/- The printer: expressions with an operand. Conditions: the nodes ahead are printed right. -/
set_option maxRecDepth 100000
namespace Go.Proofs.YtkpejdkffkhekaaGreatDoor
open Go.ChangeShapes Go.WideShapes Go.ChangeAt Go.RowKit
section
variable {w0 w : World} {g b off c k c4 d : Nat} {T : List ND} {m : Int} {A4 : Option Addr} {L : List UInt8}
set_option maxHeartbeats 4000000 in
theorem expr_bool (hev : Ev w0 (some ⟨b, off, none⟩) c T m) (hnv : NodeV w0 b off T k A4 c4) (e : (ndT T k).kind = 23) (h : Sx w0 g (trV b off c T) (d : Int) L w) (hl : L.length + (prN T k d).length ≤ 1099511627776) : ExN w0 g b off c T k A4 c4 d L w := by
  have hn : (ndT T k).num = 0 ∨ (ndT T k).num = 1 := by
    have hc := cnt_at hev.good hnv.lt
    unfold cntN at hc
    rw [e] at hc
    simp at hc
    exact hc.2
  obtain ⟨wb, hwb, hbx, hbl, hbs⟩ := box_new w 23 (ndT T k).num (ndT T k).text (ndT T k).typ (.slice A4 (ndT T k).kids.length c4)
  have b0 := (box_cells hbx).1
  have b3 := (box_cells hbx).2.2.2.1
  have hgw := h.lt
  have HBX := Lib.hid hbx
  have HBL := Lib.hid hbl
  have HS := Lib.hid h
  have HL := Lib.hid hl
  unfold ExN ndW
  rw [e]
  rcases hn with hn | hn
  · have HTX := Lib.hid (show prN T k d = [102, 97, 108, 115, 101] by unfold prN prS; simp only [e, hn, Int.reduceEq, if_true, if_false])
    have HW := Lib.hid (fun (W : World) (hW : Below w.heap.size w W) => wStr ⟨#[102, 97, 108, 115, 101]⟩ (HS.out.keep hW) (by have h1 := HL.out; rw [HTX.out] at h1; exact h1))
    rw [hn] at b3 hwb HBX ⊢
    have hix : ∀ W, (Instr.index 104 (.agg #[.string ⟨#[102, 97, 108, 115, 101]⟩, .string ⟨#[116, 114, 117, 101]⟩]) (.int .i64 0)).run Tryz.prog W = .ok (.string ⟨#[102, 97, 108, 115, 101]⟩) W := fun W => by kernel_rfl
    clear h e hl hbx hbl hnv hev hn
    go_enter Tryz.func63, Tryz.ntmps63
    go_wp2_with fail
    clear hwb
    go_region_held3 (fun W => W.cell? ⟨w.heap.size, 3, none⟩ = some (.int .i64 0)) (go_keep) ((go_at_call 13; refine Calls.mono (HW.out _ (dr HBL.out 1)) ?_; rintro e w2 ⟨rfl, h2, hk2, hs2⟩; have b99 := (box_cells (kptBox hk2 HBX.out (by omega) (by decide))).2.2.2.1))
    have H2 := Lib.hid (h2.to (L' := L ++ prN T k d) (by rw [HTX.out]; rfl))
    have HK2 := Lib.hid ((kptBel (dr HBL.out 1)).trans hk2)
    have hw2 : w.heap.size ≤ w2.heap.size := by simp at hs2; omega
    clear h2 hk2 b99 b0 b3
    go_wp2_with fail
    go_end0
    exact ⟨rfl, H2.out, HK2.out, hw2⟩
  · have HTX := Lib.hid (show prN T k d = [116, 114, 117, 101] by unfold prN prS; simp only [e, hn, Int.reduceEq, if_true, if_false])
    have HW := Lib.hid (fun (W : World) (hW : Below w.heap.size w W) => wStr ⟨#[116, 114, 117, 101]⟩ (HS.out.keep hW) (by have h1 := HL.out; rw [HTX.out] at h1; exact h1))
    rw [hn] at b3 hwb HBX ⊢
    have hix : ∀ W, (Instr.index 104 (.agg #[.string ⟨#[102, 97, 108, 115, 101]⟩, .string ⟨#[116, 114, 117, 101]⟩]) (.int .i64 1)).run Tryz.prog W = .ok (.string ⟨#[116, 114, 117, 101]⟩) W := fun W => by kernel_rfl
    clear h e hl hbx hbl hnv hev hn
    go_enter Tryz.func63, Tryz.ntmps63
    go_wp2_with fail
    clear hwb
    go_region_held3 (fun W => W.cell? ⟨w.heap.size, 3, none⟩ = some (.int .i64 1)) (go_keep) ((go_at_call 13; refine Calls.mono (HW.out _ (dr HBL.out 1)) ?_; rintro e w2 ⟨rfl, h2, hk2, hs2⟩; have b99 := (box_cells (kptBox hk2 HBX.out (by omega) (by decide))).2.2.2.1))
    have H2 := Lib.hid (h2.to (L' := L ++ prN T k d) (by rw [HTX.out]; rfl))
    have HK2 := Lib.hid ((kptBel (dr HBL.out 1)).trans hk2)
    have hw2 : w.heap.size ≤ w2.heap.size := by simp at hs2; omega
    clear h2 hk2 b99 b0 b3
    go_wp2_with fail
    go_end0
    exact ⟨rfl, H2.out, HK2.out, hw2⟩
/-- Two boxes, just made. -/
theorem box_two (w : World) (x0 x3 y0 y3 : Int) (x1 x2 y1 y2 : ByteArray) (v u : Value) : ∃ wb, ((w.alloc (.cells #[.int .i64 x0, .string x1, .string x2, .int .i64 x3, v] 31)).alloc (.cells #[.int .i64 y0, .string y1, .string y2, .int .i64 y3, u] 31)).drew = wb ∧ wb.heap[w.heap.size]? = some (.cells #[.int .i64 x0, .string x1, .string x2, .int .i64 x3, v] 31 (0, 0)) ∧ wb.heap[w.heap.size + 1]? = some (.cells #[.int .i64 y0, .string y1, .string y2, .int .i64 y3, u] 31 (0, 0)) ∧ Below w.heap.size w wb ∧ wb.heap.size = w.heap.size + 2 := by
  refine ⟨_, rfl, (Lib.alloc_old _ _ _ (by simp)).trans (heap_alloc_new w _), ?_, dr (sq (al _) (al _)) _, by simp⟩
  have hs : (w.alloc (.cells #[.int .i64 x0, .string x1, .string x2, .int .i64 x3, v] 31)).heap.size = w.heap.size + 1 := by simp
  have := heap_alloc_new (w.alloc (.cells #[.int .i64 x0, .string x1, .string x2, .int .i64 x3, v] 31)) (.cells #[.int .i64 y0, .string y1, .string y2, .int .i64 y3, u] 31)
  rw [hs] at this
  exact this
set_option maxHeartbeats 4000000 in
theorem expr_unary (hev : Ev w0 (some ⟨b, off, none⟩) c T m) (hex : ∀ q, q < k → ExC w0 g b off c T q) (hnv : NodeV w0 b off T k A4 c4) (e : (ndT T k).kind = 26) (h : Sx w0 g (trV b off c T) (d : Int) L w) (hd : d + k ≤ 9000) (hl : L.length + (prN T k d).length ≤ 1099511627776) : ExN w0 g b off c T k A4 c4 d L w := by
  have hkT := hnv.lt
  have hk1 : 0 < (ndT T k).kids.length := by
    have hc := cnt_at hev.good hkT
    unfold cntN at hc
    rw [e] at hc
    simp at hc
    omega
  obtain ⟨q, hq, hq2, hqk, hqf⟩ := kid_at hev.good hkT (j := 0) hk1
  obtain ⟨b5, o5, rfl, _, hb5, z0⟩ := hnv.kid h.bel hq
  obtain ⟨A6, c6, hnq⟩ := hev.node (show q < T.length by omega)
  have hqE : isE (ndT T q).kind = true := by
    unfold kidN at hqf
    rw [e] at hqf
    simpa using hqf
  have HTX := Lib.hid (show prN T k d = txB (ndT T k).text ++ brL (decide ((ndT T q).kind = 27)) (prN T q d) by
    rw [← prT_kid hqk, ← hq2]
    unfold prN prS
    simp only [e, Int.reduceEq, if_true, if_false])
  have HS := Lib.hid h
  have HL := Lib.hid (show L.length + ((ndT T k).text.size + (brL (decide ((ndT T q).kind = 27)) (prN T q d)).length) ≤ 1099511627776 by rw [HTX.out, List.length_append] at hl; exact hl)
  have HEX := Lib.hid (hex q hqk)
  have hgw := h.lt
  have hbw : b < w.heap.size := Nat.lt_of_lt_of_le hnq.hb h.bel.size
  have hb5w : b5 < w.heap.size := Nat.lt_of_lt_of_le hb5 h.bel.size
  obtain ⟨t2, _, _⟩ := h.cells
  obtain ⟨v0, v1, v2, v3, v4⟩ := hnq.cells h.bel
  have HQE := Lib.hid hqE
  have HNQ := Lib.hid hnq
  rw [Nat.add_zero] at z0
  obtain ⟨n, hn⟩ : ∃ n, n = (ndT T k).kids.length := ⟨_, rfl⟩
  have hn0 : 0 < n := by rw [hn]; exact hk1
  have hn0i : (0 : Int) < (n : Int) := by omega
  have hqT : (q : Int) < (T.length : Int) := by have := hnq.lt; omega
  obtain ⟨wb, hwb, hz1, hz2, hzb, hzs⟩ := box_two w 26 (ndT T k).num (ndT T q).kind (ndT T q).num (ndT T k).text (ndT T k).typ (ndT T q).text (ndT T q).typ (.slice (some ⟨b5, o5, none⟩) n c4) (.slice A6 (ndT T q).kids.length c6)
  have HWB := Lib.hid hwb
  have HZ1 := Lib.hid hz1
  have HZ2 := Lib.hid hz2
  have HZB := Lib.hid hzb
  unfold ExN ndW
  rw [e, ← hn]
  clear h hev hex hnv hl hn hk1 hq hq2 hqf hnq hqE e hwb hz1 hz2 hzb
  have hne1 : g ≠ w.heap.size + 1 := by omega
  have hne2 : w.heap.size + 1 ≠ g := by omega
  have hne3 : b ≠ w.heap.size + 1 := by omega
  have hne4 : w.heap.size + 1 ≠ b := by omega
  have hne5 : b5 ≠ w.heap.size + 1 := by omega
  have hne6 : w.heap.size + 1 ≠ b5 := by omega
  have hne7 : w.heap.size ≠ w.heap.size + 1 := by omega
  have hne8 : w.heap.size + 1 ≠ w.heap.size := by omega
  go_enter Tryz.func63, Tryz.ntmps63
  go_wp2_with fail
  go_region_held3 (fun W => W.cell? ⟨g, 2, none⟩ = some (trV b off c T) ∧ W.cell? ⟨w.heap.size, 4, none⟩ = some (.slice (some ⟨b5, o5, none⟩) n c4) ∧ W.cell? ⟨b5, o5, none⟩ = some (.int .i64 (q : Int)) ∧ W.cell? ⟨b, off + q * 5, none⟩ = some (.int .i64 (ndT T q).kind) ∧ W.cell? ⟨b, off + q * 5 + 1, none⟩ = some (.string (ndT T q).text) ∧ W.cell? ⟨b, off + q * 5 + 2, none⟩ = some (.string (ndT T q).typ) ∧ W.cell? ⟨b, off + q * 5 + 3, none⟩ = some (.int .i64 (ndT T q).num) ∧ W.cell? ⟨b, off + q * 5 + 4, none⟩ = some (.slice A6 (ndT T q).kids.length c6)) (go_keep) (fail)
  rw [HWB.out]
  clear t2 v0 v1 v2 v3 v4 z0 hne1 hne2 hne3 hne4 hne5 hne6 hne7 hne8 HWB
  have b1 := (box_cells HZ1.out).2.1
  have HW := Lib.hid (wStr (ndT T k).text (HS.out.keep (dr HZB.out 1)) (by have := HL.out; omega))
  go_wp2_with fail
  go_still_tail 5, (by kernel_rfl)
  change wpList _ _ _ _ _ wb.drew
  go_wp2_with fail
  refine Calls.mono HW.out ?_
  rintro e w1 ⟨rfl, h1, hk1, hs1⟩
  obtain ⟨k0, k1, k2, k3, k4⟩ := box_cells (kptBox hk1 HZ2.out (by omega) (by decide))
  have HKW := Lib.hid (pwithin_any HEX.out HNQ.out HQE.out (decide ((ndT T q).kind = 27)) (d := d) (by omega) h1 (by have := HL.out; rw [List.length_append]; show L.length + (ndT T k).text.size + _ ≤ _; omega))
  have HK1 := Lib.hid ((kptBel (dr HZB.out 1)).trans hk1)
  have hw1 : w.heap.size ≤ w1.heap.size := by simp at hs1; omega
  clear h1 hk1 hs1 b1
  unfold ndW at HKW
  go_wp2_with fail
  refine Calls.mono HKW.out ?_
  rintro e w2 ⟨rfl, h2, hk2, hs2⟩
  have H2 := Lib.hid (h2.to (L' := L ++ prN T k d) (by rw [HTX.out]; simp only [List.append_assoc]))
  have HK2 := Lib.hid (HK1.out.trans hk2)
  clear h2 hk2 k0 k1 k2 k3 k4
  go_wp2_with fail
  go_end0
  exact ⟨rfl, H2.out, HK2.out, by omega⟩
end
end Go.Proofs.YtkpejdkffkhekaaGreatDoor
end
section
/- The printer: expressions with two operands. Conditions: the nodes ahead are printed right. -/
set_option maxRecDepth 100000
namespace Go.Proofs.YtkpejdkffkhekaaGreatDoor
open Go.ChangeShapes Go.WideShapes Go.ChangeAt Go.RowKit
section
variable {w0 w : World} {g b off c k c4 d : Nat} {T : List ND} {m : Int} {A4 : Option Addr} {L : List UInt8}
theorem box_pair {wb wz : World} {n : Nat} {X Y : Obj} (hbs : wb.heap.size = n + 1) (h : ((wb.alloc X).alloc Y).drew = wz) : wz.heap[n + 1]? = some X ∧ wz.heap[n + 1 + 1]? = some Y ∧ Below wb.heap.size wb wz ∧ wz.heap.size = n + 3 := by
  subst h
  have hs : (wb.alloc X).heap.size = n + 1 + 1 := by simp [hbs]
  have h1 := heap_alloc_new wb X
  have h2 := heap_alloc_new (wb.alloc X) Y
  rw [hbs] at h1
  rw [hs] at h2
  exact ⟨(Lib.alloc_old _ _ _ (by rw [hs]; omega)).trans h1, h2, dr (sq (al _) (al _)) _, by simp [hbs]⟩
/-- The tree's printer between the two operands: its state, the three boxes. -/
structure Bin (w0 : World) (g : Nat) (tr : Value) (d : Int) (w : World) (BK B7 B8 : Array Value) (n7 n8 : Nat) (L : List UInt8) (wx : World) : Prop where
  sx : Sx w0 g tr d L wx
  kp : Kpt g w wx
  bk : wx.heap[w.heap.size]? = some (.cells BK 31 (0, 0))
  b7 : wx.heap[n7]? = some (.cells B7 31 (0, 0))
  b8 : wx.heap[n8]? = some (.cells B8 31 (0, 0))
  h7 : n7 ≠ g
  h8 : n8 ≠ g
  hw : w.heap.size ≠ g
  le : w.heap.size ≤ wx.heap.size
theorem Bin.step {w0 w wx w' : World} {g n7 n8 : Nat} {tr : Value} {d : Int} {BK B7 B8 : Array Value} {L L' : List UInt8} (h : Bin w0 g tr d w BK B7 B8 n7 n8 L wx) (hs : Sx w0 g tr d L' w') (hk : Kpt g wx.drew w') (hz : wx.drew.heap.size ≤ w'.heap.size) : Bin w0 g tr d w BK B7 B8 n7 n8 L' w' := by
  have hz2 : wx.heap.size ≤ w'.heap.size := hz
  have := h.le
  exact ⟨hs, h.kp.trans ((kptBel (dr (Below.refl _ _) 1)).trans hk), kptBox hk h.bk h.hw (by decide), kptBox hk h.b7 h.h7 (by decide), kptBox hk h.b8 h.h8 (by decide), h.h7, h.h8, h.hw, by omega⟩
set_option maxHeartbeats 8000000 in
theorem expr_binary (hev : Ev w0 (some ⟨b, off, none⟩) c T m) (hex : ∀ q, q < k → ExC w0 g b off c T q) (hnv : NodeV w0 b off T k A4 c4) (e : (ndT T k).kind = 27) (h : Sx w0 g (trV b off c T) (d : Int) L w) (hd : d + k ≤ 9000) (hl : L.length + (prN T k d).length ≤ 1099511627776) : ExN w0 g b off c T k A4 c4 d L w := by
  have hkT := hnv.lt
  have hk2 : (ndT T k).kids.length = 2 := by
    have hc := cnt_at hev.good hkT
    unfold cntN at hc
    rw [e] at hc
    simpa using hc
  obtain ⟨q, hq, hq2, hqk, hqf⟩ := kid_at hev.good hkT (j := 0) (by omega)
  obtain ⟨p, hp, hp2, hpk, hpf⟩ := kid_at hev.good hkT (j := 1) (by omega)
  obtain ⟨b5, o5, rfl, _, hb5, z0⟩ := hnv.kid h.bel hq
  obtain ⟨b5', o5', eA, _, _, z1⟩ := hnv.kid h.bel hp
  injection eA with eA
  injection eA with eA eA2
  subst eA eA2
  obtain ⟨A6, c6, hnq⟩ := hev.node (show q < T.length by omega)
  obtain ⟨A7, c7, hnp⟩ := hev.node (show p < T.length by omega)
  have hqE : isE (ndT T q).kind = true := by
    unfold kidN at hqf
    rw [e] at hqf
    simpa using hqf
  have hpE : isE (ndT T p).kind = true := by
    unfold kidN at hpf
    rw [e] at hpf
    simpa using hpf
  obtain ⟨ba, hba⟩ : ∃ ba, ba = decide ((ndT T q).kind = 27 ∧ lvN (ndT T q).text.toList < lvN (ndT T k).text.toList) := ⟨_, rfl⟩
  obtain ⟨bb, hbb⟩ : ∃ bb, bb = decide ((ndT T p).kind = 27 ∧ lvN (ndT T p).text.toList ≤ lvN (ndT T k).text.toList) := ⟨_, rfl⟩
  have HTX := Lib.hid (show prN T k d = brL ba (prN T q d) ++ [32] ++ txB (ndT T k).text ++ [32] ++ brL bb (prN T p d) by
    rw [hba, hbb, ← prT_kid hqk, ← prT_kid hpk, ← hq2, ← hp2]
    unfold prN prS
    simp only [e, Int.reduceEq, if_true, if_false])
  have HS := Lib.hid h
  have HL := Lib.hid (show L.length + (brL ba (prN T q d)).length + 1 + (ndT T k).text.size + 1 + (brL bb (prN T p d)).length ≤ 1099511627776 by
    have h3 : (txB (ndT T k).text).length = (ndT T k).text.size := rfl
    rw [HTX.out] at hl
    simp only [List.length_append, List.length_cons, List.length_nil, h3] at hl
    omega)
  have HEQ := Lib.hid (hex q hqk)
  have HEP := Lib.hid (hex p hpk)
  have hgw := h.lt
  have hbw : b < w.heap.size := Nat.lt_of_lt_of_le hnq.hb h.bel.size
  have hb5w : b5 < w.heap.size := Nat.lt_of_lt_of_le hb5 h.bel.size
  obtain ⟨wb, hwb, hbx, hbl, hbs⟩ := box_new w 27 (ndT T k).num (ndT T k).text (ndT T k).typ (.slice (some ⟨b5, o5, none⟩) 2 c4)
  have hsb := h.keep hbl
  obtain ⟨t2, _, _⟩ := hsb.cells
  obtain ⟨v0, v1, v2, v3, v4⟩ := hnq.cells hsb.bel
  obtain ⟨u0, u1, u2, u3, u4⟩ := hnp.cells hsb.bel
  have b0 := (box_cells hbx).1
  have b4 := (box_cells hbx).2.2.2.2
  have y0 := (hbl.cell (p := ⟨b5, o5 + 0, none⟩) hb5w).trans z0
  have y1 := (hbl.cell (p := ⟨b5, o5 + 1, none⟩) hb5w).trans z1
  have HBX := Lib.hid hbx
  have HBL := Lib.hid hbl
  have HSB := Lib.hid hsb
  have HQE := Lib.hid hqE
  have HPE := Lib.hid hpE
  have HNQ := Lib.hid hnq
  have HNP := Lib.hid hnp
  have HBA := Lib.hid hba
  have HBB := Lib.hid hbb
  rw [Nat.add_zero] at y0
  have hqT : (q : Int) < (T.length : Int) := by have := hnq.lt; omega
  have hpT : (p : Int) < (T.length : Int) := by have := hnp.lt; omega
  unfold ExN ndW
  rw [e, hk2]
  clear h hev hex hnv hl hk2 hq hq2 hqf hnq hqE e hp hp2 hpf hnp hpE hba hbb z0 z1 hbx hbl hsb
  have hn00 : g ≠ wb.heap.size := by omega
  have hm00 : wb.heap.size ≠ g := by omega
  have hp00 : g < wb.heap.size := by omega
  have hn01 : g ≠ wb.heap.size + 1 := by omega
  have hm01 : wb.heap.size + 1 ≠ g := by omega
  have hp01 : g < wb.heap.size + 1 := by omega
  have hn10 : b ≠ wb.heap.size := by omega
  have hm10 : wb.heap.size ≠ b := by omega
  have hp10 : b < wb.heap.size := by omega
  have hn11 : b ≠ wb.heap.size + 1 := by omega
  have hm11 : wb.heap.size + 1 ≠ b := by omega
  have hp11 : b < wb.heap.size + 1 := by omega
  have hn20 : b5 ≠ wb.heap.size := by omega
  have hm20 : wb.heap.size ≠ b5 := by omega
  have hp20 : b5 < wb.heap.size := by omega
  have hn21 : b5 ≠ wb.heap.size + 1 := by omega
  have hm21 : wb.heap.size + 1 ≠ b5 := by omega
  have hp21 : b5 < wb.heap.size + 1 := by omega
  have hn30 : w.heap.size ≠ wb.heap.size := by omega
  have hm30 : wb.heap.size ≠ w.heap.size := by omega
  have hp30 : w.heap.size < wb.heap.size := by omega
  have hn31 : w.heap.size ≠ wb.heap.size + 1 := by omega
  have hm31 : wb.heap.size + 1 ≠ w.heap.size := by omega
  have hp31 : w.heap.size < wb.heap.size + 1 := by omega
  have htl : (txB (⟨#[32]⟩ ++ (ndT T k).text ++ ⟨#[32]⟩)).length = 1 + (ndT T k).text.size + 1 := by
    show (⟨#[32]⟩ ++ (ndT T k).text ++ ⟨#[32]⟩ : ByteArray).size = _
    rw [ByteArray.size_append, ByteArray.size_append]
    rfl
  have HTL := Lib.hid htl
  have HTSP := Lib.hid (show txB (⟨#[32]⟩ ++ (ndT T k).text ++ ⟨#[32]⟩) = [32] ++ txB (ndT T k).text ++ [32] by
    unfold txB
    rw [ByteArray.data_append, ByteArray.data_append]
    simp)
  clear htl
  go_enter Tryz.func63, Tryz.ntmps63
  go_upto_region 19 with (fail)
  go_cut [7, 8] (fun s7 s8 wx => ∃ n7 n8 : Nat, s7 = .pointer (some ⟨n7, 0, none⟩) ∧ s8 = .pointer (some ⟨n8, 0, none⟩) ∧ Hid (Bin w0 g (trV b off c T) (d : Int) w #[.int .i64 27, .string (ndT T k).text, .string (ndT T k).typ, .int .i64 (ndT T k).num, .slice (some ⟨b5, o5, none⟩) 2 c4] #[.int .i64 (ndT T q).kind, .string (ndT T q).text, .string (ndT T q).typ, .int .i64 (ndT T q).num, .slice A6 (ndT T q).kids.length c6] #[.int .i64 (ndT T p).kind, .string (ndT T p).text, .string (ndT T p).typ, .int .i64 (ndT T p).num, .slice A7 (ndT T p).kids.length c7] n7 n8 L wx))
  case first =>
    clear hwb
    go_region_held3 (fun W => W.cell? ⟨g, 2, none⟩ = some (trV b off c T) ∧ W.cell? ⟨w.heap.size, 4, none⟩ = some (.slice (some ⟨b5, o5, none⟩) 2 c4) ∧ W.cell? ⟨b5, o5, none⟩ = some (.int .i64 (q : Int)) ∧ W.cell? ⟨b5, o5 + 1, none⟩ = some (.int .i64 (p : Int)) ∧ (W.cell? ⟨b, off + q * 5, none⟩ = some (.int .i64 (ndT T q).kind) ∧ W.cell? ⟨b, off + q * 5 + 1, none⟩ = some (.string (ndT T q).text) ∧ W.cell? ⟨b, off + q * 5 + 2, none⟩ = some (.string (ndT T q).typ) ∧ W.cell? ⟨b, off + q * 5 + 3, none⟩ = some (.int .i64 (ndT T q).num) ∧ W.cell? ⟨b, off + q * 5 + 4, none⟩ = some (.slice A6 (ndT T q).kids.length c6)) ∧ W.cell? ⟨b, off + p * 5, none⟩ = some (.int .i64 (ndT T p).kind) ∧ W.cell? ⟨b, off + p * 5 + 1, none⟩ = some (.string (ndT T p).text) ∧ W.cell? ⟨b, off + p * 5 + 2, none⟩ = some (.string (ndT T p).typ) ∧ W.cell? ⟨b, off + p * 5 + 3, none⟩ = some (.int .i64 (ndT T p).num) ∧ W.cell? ⟨b, off + p * 5 + 4, none⟩ = some (.slice A7 (ndT T p).kids.length c7)) (go_keep) (fail)
    all_goals (
      generalize hwz : ((wb.alloc _).alloc _).drew = wz
      obtain ⟨hzX, hzY, hzb, hzs⟩ := box_pair hbs hwz
      have HSX := Lib.hid (HSB.out.keep hzb)
      have HKX := Lib.hid (kptBel (g := g) (sq HBL.out hzb))
      have HZK := Lib.hid ((hzb.block w.heap.size (by omega)).trans HBX.out)
      have hwz1 : w.heap.size ≤ wz.heap.size := by omega
      clear hwz hzb t2 v0 v1 v2 v3 v4 u0 u1 u2 u3 u4 b0 b4 y0 y1
      first
      | (have HB7 := Lib.hid (show wz.heap[w.heap.size + 1]? = some (.cells #[.int .i64 (ndT T q).kind, .string (ndT T q).text, .string (ndT T q).typ, .int .i64 (ndT T q).num, .slice A6 (ndT T q).kids.length c6] 31 (0, 0)) from hzX)
         have HB8 := Lib.hid (show wz.heap[w.heap.size + 1 + 1]? = some (.cells #[.int .i64 (ndT T p).kind, .string (ndT T p).text, .string (ndT T p).typ, .int .i64 (ndT T p).num, .slice A7 (ndT T p).kids.length c7] 31 (0, 0)) from hzY)
         have HREL := Lib.hid (show Bin w0 g (trV b off c T) (d : Int) w #[.int .i64 27, .string (ndT T k).text, .string (ndT T k).typ, .int .i64 (ndT T k).num, .slice (some ⟨b5, o5, none⟩) 2 c4] #[.int .i64 (ndT T q).kind, .string (ndT T q).text, .string (ndT T q).typ, .int .i64 (ndT T q).num, .slice A6 (ndT T q).kids.length c6] #[.int .i64 (ndT T p).kind, .string (ndT T p).text, .string (ndT T p).typ, .int .i64 (ndT T p).num, .slice A7 (ndT T p).kids.length c7] (w.heap.size + 1) (w.heap.size + 1 + 1) L wz from ⟨HSX.out, HKX.out, HZK.out, HB7.out, HB8.out, by omega, by omega, by omega, by omega⟩)
         clear hzX hzY
         go_wp2_with fail
         go_meet
         exact ⟨w.heap.size + 1, w.heap.size + 1 + 1, rfl, rfl, HREL⟩)
      | (have HB7 := Lib.hid (show wz.heap[w.heap.size + 1 + 1]? = some (.cells #[.int .i64 (ndT T q).kind, .string (ndT T q).text, .string (ndT T q).typ, .int .i64 (ndT T q).num, .slice A6 (ndT T q).kids.length c6] 31 (0, 0)) from hzY)
         have HB8 := Lib.hid (show wz.heap[w.heap.size + 1]? = some (.cells #[.int .i64 (ndT T p).kind, .string (ndT T p).text, .string (ndT T p).typ, .int .i64 (ndT T p).num, .slice A7 (ndT T p).kids.length c7] 31 (0, 0)) from hzX)
         have HREL := Lib.hid (show Bin w0 g (trV b off c T) (d : Int) w #[.int .i64 27, .string (ndT T k).text, .string (ndT T k).typ, .int .i64 (ndT T k).num, .slice (some ⟨b5, o5, none⟩) 2 c4] #[.int .i64 (ndT T q).kind, .string (ndT T q).text, .string (ndT T q).typ, .int .i64 (ndT T q).num, .slice A6 (ndT T q).kids.length c6] #[.int .i64 (ndT T p).kind, .string (ndT T p).text, .string (ndT T p).typ, .int .i64 (ndT T p).num, .slice A7 (ndT T p).kids.length c7] (w.heap.size + 1 + 1) (w.heap.size + 1) L wz from ⟨HSX.out, HKX.out, HZK.out, HB7.out, HB8.out, by omega, by omega, by omega, by omega⟩)
         clear hzX hzY
         go_wp2_with fail
         go_meet
         exact ⟨w.heap.size + 1 + 1, w.heap.size + 1, rfl, rfl, HREL⟩))
  case rest =>
    obtain ⟨n7, n8, rfl, rfl, HC⟩ := hcut
    clear hwb t2 v0 v1 v2 v3 v4 u0 u1 u2 u3 u4 b0 b4 y0 y1 hn00 hm00 hp00 hn01 hm01 hp01 hn10 hm10 hp10 hn11 hm11 hp11 hn20 hm20 hp20 hn21 hm21 hp21 hn30 hm30 hp30 hn31 hm31 hp31 HBX HBL HSB
    generalize wc = wx at *
    go_upto_region 20 with (fail)
    go_cut [] (fun wx => Hid (Bin w0 g (trV b off c T) (d : Int) w #[.int .i64 27, .string (ndT T k).text, .string (ndT T k).typ, .int .i64 (ndT T k).num, .slice (some ⟨b5, o5, none⟩) 2 c4] #[.int .i64 (ndT T q).kind, .string (ndT T q).text, .string (ndT T q).typ, .int .i64 (ndT T q).num, .slice A6 (ndT T q).kids.length c6] #[.int .i64 (ndT T p).kind, .string (ndT T p).text, .string (ndT T p).typ, .int .i64 (ndT T p).num, .slice A7 (ndT T p).kids.length c7] n7 n8 (L ++ brL ba (prN T q d)) wx))
    case first =>
      rcases (Decidable.em ((ndT T q).kind = 27)).symm with hno | hk27
      · have hbv : ba = false := by rw [HBA.out]; exact decide_eq_false (fun h => hno h.1)
        have kb : ((ndT T q).kind == 27) = false := by simpa using hno
        have HWI := Lib.hid (pwithin_any HEQ.out HNQ.out HQE.out false (d := d) (by omega) (HC.out.sx.keep (dr (Below.refl _ _) 1)) (by have h1 := HL.out; rw [hbv] at h1; (try simp only [List.length_append, List.length_cons, List.length_nil] at h1 ⊢); (try rw [HTL.out]); omega))
        unfold ndW at HWI
        obtain ⟨z0, z1, z2, z3, z4⟩ := box_cells HC.out.b7
        have zt := (box_cells HC.out.bk).2.1
        have HBV := Lib.hid hbv
        clear hbv hno
        go_wp2_with fail
        refine wp_region_still_tail 14 (by kernel_rfl) (by kernel_rfl) ?_
        simp only [List.take_succ_cons, List.take_zero, List.drop_succ_cons, List.drop_zero]
        iterate 14 (with_reducible refine wpStill_step (fun K hK => ?_); go_simp; with_reducible refine hK _ ?_; clear hK K)
        with_reducible refine wpStill_nil ?_
        change wpList _ _ _ _ _ wx.drew
        go_wp2_with fail
        refine Calls.mono HWI.out ?_
        rintro e wn ⟨rfl, hn, hkn, hsn⟩
        have HR := Lib.hid (show Bin w0 g (trV b off c T) (d : Int) w #[.int .i64 27, .string (ndT T k).text, .string (ndT T k).typ, .int .i64 (ndT T k).num, .slice (some ⟨b5, o5, none⟩) 2 c4] #[.int .i64 (ndT T q).kind, .string (ndT T q).text, .string (ndT T q).typ, .int .i64 (ndT T q).num, .slice A6 (ndT T q).kids.length c6] #[.int .i64 (ndT T p).kind, .string (ndT T p).text, .string (ndT T p).typ, .int .i64 (ndT T p).num, .slice A7 (ndT T p).kids.length c7] n7 n8 (L ++ brL ba (prN T q d)) wn by rw [HBV.out]; exact HC.out.step hn hkn hsn)
        clear hn hkn hsn z0 z1 z2 z3 z4 zt
        go_wp2_with fail
        go_meet
        case rel => exact HR
      · have hbv : ba = (decide (lvN (ndT T q).text.toList < lvN (ndT T k).text.toList)) := by rw [HBA.out]; simp [hk27]
        have HWI := Lib.hid (pwithin_any HEQ.out HNQ.out HQE.out (decide (lvN (ndT T q).text.toList < lvN (ndT T k).text.toList)) (d := d) (by omega) (HC.out.sx.keep (dr (Below.refl _ _) 1)) (by have h1 := HL.out; rw [hbv] at h1; (try simp only [List.length_append, List.length_cons, List.length_nil] at h1 ⊢); (try rw [HTL.out]); omega))
        unfold ndW at HWI
        rw [hk27] at HWI
        obtain ⟨z0, z1, z2, z3, z4⟩ := box_cells HC.out.b7
        rw [hk27] at z0
        have zt := (box_cells HC.out.bk).2.1
        have HBV := Lib.hid hbv
        clear hbv
        go_wp2_with fail
        refine wp_region_still_tail 14 (by kernel_rfl) (by kernel_rfl) ?_
        simp only [List.take_succ_cons, List.take_zero, List.drop_succ_cons, List.drop_zero]
        iterate 8 (with_reducible refine wpStill_step (fun K hK => ?_); go_simp; with_reducible refine hK _ ?_; clear hK K)
        (with_reducible refine wpStill_step (fun K hK => ?_); go_simp; with_reducible refine ⟨_, level_any _ _, hK _ ?_⟩; clear hK K)
        iterate 2 (with_reducible refine wpStill_step (fun K hK => ?_); go_simp; with_reducible refine hK _ ?_; clear hK K)
        (with_reducible refine wpStill_step (fun K hK => ?_); go_simp; with_reducible refine ⟨_, level_any _ _, hK _ ?_⟩; clear hK K)
        iterate 2 (with_reducible refine wpStill_step (fun K hK => ?_); go_simp; with_reducible refine hK _ ?_; clear hK K)
        with_reducible refine wpStill_nil ?_
        change wpList _ _ _ _ _ wx.drew
        go_wp2_with fail
        refine Calls.mono HWI.out ?_
        rintro e wn ⟨rfl, hn, hkn, hsn⟩
        have HR := Lib.hid (show Bin w0 g (trV b off c T) (d : Int) w #[.int .i64 27, .string (ndT T k).text, .string (ndT T k).typ, .int .i64 (ndT T k).num, .slice (some ⟨b5, o5, none⟩) 2 c4] #[.int .i64 (ndT T q).kind, .string (ndT T q).text, .string (ndT T q).typ, .int .i64 (ndT T q).num, .slice A6 (ndT T q).kids.length c6] #[.int .i64 (ndT T p).kind, .string (ndT T p).text, .string (ndT T p).typ, .int .i64 (ndT T p).num, .slice A7 (ndT T p).kids.length c7] n7 n8 (L ++ brL ba (prN T q d)) wn by rw [HBV.out]; exact HC.out.step hn hkn hsn)
        clear hn hkn hsn z0 z1 z2 z3 z4 zt
        go_wp2_with fail
        go_meet
        case rel => exact HR
    case rest =>
      clear HBA HC
      generalize wc = wx at *
      have HC := hcut
      clear hcut
      have hts1 : ¬ 9223372036854775807 < 1 + (ndT T k).text.size := by have := HL.out; omega
      have hts2 : ¬ 9223372036854775807 < 1 + (ndT T k).text.size + 1 := by have := HL.out; omega
      have zt := (box_cells HC.out.bk).2.1
      have HWS := Lib.hid (wStr (⟨#[32]⟩ ++ (ndT T k).text ++ ⟨#[32]⟩) (HC.out.sx.keep (dr (Below.refl _ _) 1)) (by have h1 := HL.out; have h2 := HTL.out; simp only [List.length_append, ByteArray.size_append] at h1 ⊢; show _ + (1 + _ + 1) ≤ _; omega))
      go_wp2_with fail
      go_still_tail 7, (by kernel_rfl)
      change wpList _ _ _ _ _ wx.drew
      go_wp2_with fail
      refine Calls.mono HWS.out ?_
      rintro e wy ⟨rfl, hn, hkn, hsn⟩
      have HC2 := Lib.hid (HC.out.step hn hkn hsn)
      clear hn hkn hsn HC HWS zt
      have HC := HC2
      clear HC2
      generalize wy = wx at *
      rcases (Decidable.em ((ndT T p).kind = 27)).symm with hno | hk27
      · have hbv : bb = false := by rw [HBB.out]; exact decide_eq_false (fun h => hno h.1)
        have kb : ((ndT T p).kind == 27) = false := by simpa using hno
        have HWI := Lib.hid (pwithin_any HEP.out HNP.out HPE.out false (d := d) (by omega) (HC.out.sx.keep (dr (Below.refl _ _) 1)) (by have h1 := HL.out; rw [hbv] at h1; (try simp only [List.length_append] at h1 ⊢); (try rw [HTL.out]); omega))
        unfold ndW at HWI
        rw [hbv] at HTX
        obtain ⟨z0, z1, z2, z3, z4⟩ := box_cells HC.out.b8
        have zt := (box_cells HC.out.bk).2.1
        clear hbv hno
        go_wp2_with fail
        refine wp_region_still_tail 14 (by kernel_rfl) (by kernel_rfl) ?_
        simp only [List.take_succ_cons, List.take_zero, List.drop_succ_cons, List.drop_zero]
        iterate 14 (with_reducible refine wpStill_step (fun K hK => ?_); go_simp; with_reducible refine hK _ ?_; clear hK K)
        with_reducible refine wpStill_nil ?_
        change wpList _ _ _ _ _ wx.drew
        go_wp2_with fail
        refine Calls.mono HWI.out ?_
        rintro e wn ⟨rfl, hn, hkn, hsn⟩
        have H9 := Lib.hid (hn.to (L' := L ++ prN T k d) (by rw [HTX.out, HTSP.out]; simp only [List.append_assoc]))
        have HR := Lib.hid (HC.out.step hn hkn hsn)
        clear hn hkn hsn z0 z1 z2 z3 z4 zt
        go_wp2_with fail
        go_end0
        exact ⟨rfl, H9.out, HR.out.kp, HR.out.le⟩
      · have hbv : bb = (decide (lvN (ndT T p).text.toList ≤ lvN (ndT T k).text.toList)) := by rw [HBB.out]; simp [hk27]
        have HWI := Lib.hid (pwithin_any HEP.out HNP.out HPE.out (decide (lvN (ndT T p).text.toList ≤ lvN (ndT T k).text.toList)) (d := d) (by omega) (HC.out.sx.keep (dr (Below.refl _ _) 1)) (by have h1 := HL.out; rw [hbv] at h1; (try simp only [List.length_append] at h1 ⊢); (try rw [HTL.out]); omega))
        unfold ndW at HWI
        rw [hbv] at HTX
        rw [hk27] at HWI
        obtain ⟨z0, z1, z2, z3, z4⟩ := box_cells HC.out.b8
        rw [hk27] at z0
        have zt := (box_cells HC.out.bk).2.1
        clear hbv
        go_wp2_with fail
        refine wp_region_still_tail 14 (by kernel_rfl) (by kernel_rfl) ?_
        simp only [List.take_succ_cons, List.take_zero, List.drop_succ_cons, List.drop_zero]
        iterate 8 (with_reducible refine wpStill_step (fun K hK => ?_); go_simp; with_reducible refine hK _ ?_; clear hK K)
        (with_reducible refine wpStill_step (fun K hK => ?_); go_simp; with_reducible refine ⟨_, level_any _ _, hK _ ?_⟩; clear hK K)
        iterate 2 (with_reducible refine wpStill_step (fun K hK => ?_); go_simp; with_reducible refine hK _ ?_; clear hK K)
        (with_reducible refine wpStill_step (fun K hK => ?_); go_simp; with_reducible refine ⟨_, level_any _ _, hK _ ?_⟩; clear hK K)
        iterate 2 (with_reducible refine wpStill_step (fun K hK => ?_); go_simp; with_reducible refine hK _ ?_; clear hK K)
        with_reducible refine wpStill_nil ?_
        change wpList _ _ _ _ _ wx.drew
        go_wp2_with fail
        refine Calls.mono HWI.out ?_
        rintro e wn ⟨rfl, hn, hkn, hsn⟩
        have H9 := Lib.hid (hn.to (L' := L ++ prN T k d) (by rw [HTX.out, HTSP.out]; simp only [List.append_assoc]))
        have HR := Lib.hid (HC.out.step hn hkn hsn)
        clear hn hkn hsn z0 z1 z2 z3 z4 zt
        go_wp2_with fail
        go_end0
        exact ⟨rfl, H9.out, HR.out.kp, HR.out.le⟩
end
end Go.Proofs.YtkpejdkffkhekaaGreatDoor
end
section
/- The printer: the head of a function. Conditions: the nodes ahead are printed right. -/
set_option maxRecDepth 100000
namespace Go.Proofs.YtkpejdkffkhekaaGreatDoor
open Go.ChangeShapes Go.WideShapes Go.ChangeAt Go.RowKit
/-- The texts of the parameters. -/
def psL (T : List ND) (k n : Nat) : List (List UInt8) := (List.range n).map fun j => parL (ndT T (kidT (ndT T k) j))
theorem psL_succ (T : List ND) (k n : Nat) : psL T k (n + 1) = psL T k n ++ [parL (ndT T (kidT (ndT T k) n))] := by
  unfold psL
  rw [List.range_succ]
  simp
theorem psL_len (T : List ND) (k n : Nat) : (psL T k n).length = n := by simp [psL]
theorem psL_le (T : List ND) (k : Nat) {j n : Nat} (h : j ≤ n) : (comL (psL T k j)).length ≤ (comL (psL T k n)).length := by
  induction n with
  | zero => obtain rfl : j = 0 := by omega
            exact Nat.le_refl _
  | succ n ih =>
    by_cases hj : j = n + 1
    · subst hj; exact Nat.le_refl _
    · have h1 := ih (by omega)
      have h2 := comL_app_le [parL (ndT T (kidT (ndT T k) n))] (psL T k n)
      rw [psL_succ]
      omega
theorem psL_next (T : List ND) (k j : Nat) : comL (psL T k (j + 1)) = comL (psL T k j) ++ (if 0 < j then [44, 32] else []) ++ parL (ndT T (kidT (ndT T k) j)) := by
  rw [psL_succ, comL_snoc]
  by_cases hj : 0 < j
  · rw [if_pos hj, if_neg (fun e => by have := congrArg List.length e; rw [psL_len] at this; simp at this; omega)]
  · obtain rfl : j = 0 := by omega
    rw [if_neg hj, if_pos (show psL T k 0 = [] from rfl)]
    rfl
theorem hd_txt {T : List ND} (hg : GoodT T) {k mN : Nat} (hk : k < T.length) (hm : (ndT T k).num = mN) (hl : (ndT T k).kids.length = mN + 2) (d : Nat) : hdS T (prT T k) (ndT T k) d = [40] ++ comL (psL T k mN) ++ [41, 32] ++ resL (ndT T (kidT (ndT T k) mN)) ++ prN T (kidT (ndT T k) (mN + 1)) d := by
  obtain ⟨q, hq1, hq2, hq3, hq4⟩ := kid_at hg hk (j := mN + 1) (by omega)
  unfold hdS
  rw [hm, show ((mN : Nat) : Int).toNat = mN from rfl, kids_take _ _ (by omega), hq2, prT_kid hq3]
  unfold psL
  rw [List.map_map]
  rfl
/-- A node's box, just made, behind a draw. -/
theorem box_one (w : World) (x0 x3 : Int) (x1 x2 : ByteArray) (v : Value) : ∃ wb, (w.alloc (.cells #[.int .i64 x0, .string x1, .string x2, .int .i64 x3, v] 31)).drew = wb ∧ wb.heap[w.heap.size]? = some (.cells #[.int .i64 x0, .string x1, .string x2, .int .i64 x3, v] 31 (0, 0)) ∧ Below w.heap.size w wb ∧ wb.heap.size = w.heap.size + 1 :=
  ⟨_, rfl, heap_alloc_new w _, dr (al _) _, by simp⟩
set_option maxHeartbeats 8000000 in
theorem sig_any {w0 : World} {g b off c k : Nat} {T : List ND} {m : Int} (hev : Ev w0 (some ⟨b, off, none⟩) c T m) (hbl : ∀ q, q < k → BlC w0 g b off c T q) : SgC w0 g b off c T k := by
  intro A4 c4 hnv hkd d L w h hd hl
  have hkT := hnv.lt
  obtain ⟨mN, hm4, hmn, hml⟩ : ∃ mN : Nat, mN ≤ 4 ∧ (ndT T k).num = mN ∧ (ndT T k).kids.length = mN + 2 := by
    have hc := cnt_at hev.good hkT
    unfold cntN at hc
    refine ⟨(ndT T k).num.toNat, ?_⟩
    rcases hkd with e | e <;> (rw [e] at hc; simp at hc; omega)
  have HKF : ∀ j q, kidN (ndT T k) j q = if j = mN then decide (q = 4) else if j = mN + 1 then decide (q = 5) else decide (q = 3) := by
    intro j q
    unfold kidN
    rw [hmn]
    rcases hkd with e | e <;> (rw [e]; simp only [Int.reduceEq, if_true, if_false, or_true, or_false, Int.natCast_inj]; congr 1; congr 1; simp; omega)
  have HTX := Lib.hid (hd_txt hev.good hkT hmn hml d)
  obtain ⟨nl, hnl⟩ : ∃ nl, nl = mN + 2 := ⟨_, rfl⟩
  obtain ⟨r, hr1, hr2, hr3, hr4⟩ := kid_at hev.good hkT (j := mN) (by omega)
  obtain ⟨p, hp1, hp2, hp3, hp4⟩ := kid_at hev.good hkT (j := mN + 1) (by omega)
  rw [hr2, hp2] at HTX
  rw [HKF] at hr4 hp4
  have hr4 : (ndT T r).kind = 4 := by simpa using hr4
  have hp4 : (ndT T p).kind = 5 := by simpa using hp4
  have HKJ := Lib.hid (fun (j : Nat) (hj : j < mN) => show ∃ q : Nat, (ndT T k).kids[j]? = some (q : Int) ∧ kidT (ndT T k) j = q ∧ q < T.length from by
    obtain ⟨q, h1, h2, h3, _⟩ := kid_at hev.good hkT (j := j) (by omega)
    exact ⟨q, h1, h2, by omega⟩)
  have HE := Lib.hid hev
  have HNV := Lib.hid hnv
  have HS := Lib.hid h
  have HL := Lib.hid hl
  have HBLC := Lib.hid (hbl p hp3)
  obtain ⟨A6, c6, hnr⟩ := hev.node (show r < T.length by omega)
  obtain ⟨A7, c7, hnp⟩ := hev.node (show p < T.length by omega)
  have HNR := Lib.hid hnr
  have HNP := Lib.hid hnp
  have HP4 := Lib.hid hp4
  obtain ⟨b5, o5, rfl, _, hb5, _⟩ := hnv.kid h.bel hr1
  have hrT : (r : Int) < (T.length : Int) := by omega
  have hpT : (p : Int) < (T.length : Int) := by omega
  have hgw := h.lt
  have hbw : b < w.heap.size := Nat.lt_of_lt_of_le hnr.hb h.bel.size
  have hb5w : b5 < w.heap.size := Nat.lt_of_lt_of_le hb5 h.bel.size
  have HPAR := Lib.hid (fun q (hq : q < T.length) => (par_len hev.good hq))
  have HRG := Lib.hid (fun q (hq : q < T.length) => rg_size (good_at hev.good hq))
  have HSP := Lib.hid (fun (s : ByteArray) (hs : s.size ≤ 1000) (W : World) (hW : Below w0.heap.size w0 W) => spaced_any s hs ((hW.cell (p := ⟨0, 0, none⟩) hev.pos).trans hev.ml))
  have HR1 := Lib.hid hr1
  have HPP := Lib.hid hp1
  have HK1 := Lib.hid (kptBel (g := g) (al (w := w) (.cells #[.int .i64 (ndT T k).kind, .string (ndT T k).text, .string (ndT T k).typ, .int .i64 (mN : Int), .slice (some ⟨b5, o5, none⟩) nl c4] 31)))
  have HS1 := Lib.hid (h.keep (al (w := w) (.cells #[.int .i64 (ndT T k).kind, .string (ndT T k).text, .string (ndT T k).typ, .int .i64 (mN : Int), .slice (some ⟨b5, o5, none⟩) nl c4] 31)))
  have hl1 : L.length + (1 + (comL (psL T k mN)).length + 2 + (resL (ndT T r)).length + (prN T p d).length) ≤ 1099511627776 := by
    rw [HTX.out] at hl
    simp only [List.length_append, List.length_cons, List.length_nil] at hl
    omega
  unfold ndW
  rw [hmn, hml, ← hnl]
  clear h hev hnv hl hbl hnr hnp hkd HKF hr1 hr2 hr4 hp1 hp2 hp4 hmn hml hr3
  have hnl2 : mN + 2 ≤ nl := by omega
  clear hnl
  go_enter Tryz.func14, Tryz.ntmps14
  go_wp2_with fail
  refine Calls.mono (wByte 40 HS1.out (by omega)) ?_
  rintro e w1 ⟨rfl, h1, hk1, hs1⟩
  have hbox := kptBox hk1 (heap_alloc_new w _) (by omega) (by decide)
  have b3 : w1.cell? ⟨w.heap.size, 3, none⟩ = some (.int .i64 (mN : Int)) := by rw [Lib.cell_of_heap hbox]; rfl
  have H1 := Lib.hid h1
  have HKP1 := Lib.hid (HK1.out.trans hk1)
  have HBX1 := Lib.hid hbox
  clear h1 hk1 hs1 hbox HK1 HS1
  go_wp2_with fail
  clear b3
  go_loopw [13] (fun v wr => ∃ j : Nat, v = .int .i64 (j : Int) ∧ j ≤ mN ∧ Hid (Sx w0 g (trV b off c T) (d : Int) (L ++ [40] ++ comL (psL T k j)) wr) ∧ Hid (Kpt g w wr) ∧ Hid (wr.heap[w.heap.size]? = some (.cells #[.int .i64 (ndT T k).kind, .string (ndT T k).text, .string (ndT T k).typ, .int .i64 (mN : Int), .slice (some ⟨b5, o5, none⟩) nl c4] 31 (0, 0)))) (fun v _ => mN - (intOf v).toNat)
  case atStart => exact ⟨0, rfl, Nat.zero_le _, Lib.hid (by simpa [comL, psL] using H1.out), HKP1, HBX1⟩
  case round =>
    obtain ⟨j, rfl, hj, HX, HK, HB⟩ := hrel
    by_cases hlt : (j : Int) < (mN : Int)
    · obtain ⟨q, hq1, hq2, hqT0⟩ := HKJ.out j (by omega)
      obtain ⟨A8, c8, hnq⟩ := HE.out.node hqT0
      have HNQ := Lib.hid hnq
      have HQ1 := Lib.hid hq1
      have hqT : (q : Int) < (T.length : Int) := by omega
      have HNX := Lib.hid (psL_next T k j)
      rw [hq2] at HNX
      have HLE := Lib.hid (psL_le T k (show j + 1 ≤ mN by omega))
      have hln : L.length + (1 + (comL (psL T k j)).length + (if 0 < j then [44, 32] else [] : List UInt8).length + (parL (ndT T q)).length) ≤ 1099511627776 := by
        have h1 := HLE.out
        rw [HNX.out, List.length_append, List.length_append] at h1
        omega
      clear hnq hq1 hq2
      by_cases hj0 : 0 < (j : Int)
      · have hjp : 0 < j := by omega
        rw [if_pos hjp] at hln HNX
        simp only [List.length_cons, List.length_nil] at hln
        go_wp2_with fail
        refine Calls.mono (wStr ⟨#[44, 32]⟩ HX.out (by simp only [List.length_append, List.length_cons, List.length_nil]; show _ + 2 ≤ _; omega)) ?_
        rintro e w2 ⟨rfl, h2, hk2, hs2⟩
        have HX2 := Lib.hid (h2.to (L' := L ++ [40] ++ comL (psL T k j) ++ [44, 32]) (by rw [show txB (⟨#[44, 32]⟩ : ByteArray) = [44, 32] from rfl]))
        have HK2 := Lib.hid (HK.out.trans hk2)
        have HB2 := Lib.hid (kptBox hk2 HB.out (by omega) (by decide))
        obtain ⟨Z, hZ⟩ : ∃ Z : List UInt8, Z = [44, 32] := ⟨_, rfl⟩
        have hZl : Z.length = 2 := by rw [hZ]; rfl
        rw [← hZ] at HX2 HNX
        have hln2 : L.length + (1 + (comL (psL T k j)).length + Z.length + (parL (ndT T q)).length) ≤ 1099511627776 := by omega
        clear h2 hk2 hs2 hZ hZl HX HK HB hln
        have hgw2 := HX2.out.lt
        have hbw2 : b < w2.heap.size := by have := (Array.getElem?_eq_some_iff.1 HB2.out).1; omega
        have hb5w2 : b5 < w2.heap.size := by have := (Array.getElem?_eq_some_iff.1 HB2.out).1; omega
        have hww2 : w.heap.size < w2.heap.size := (Array.getElem?_eq_some_iff.1 HB2.out).1
        obtain ⟨t2, _, _⟩ := HX2.out.cells
        obtain ⟨v0, v1, v2, v3, v4⟩ := HNQ.out.cells HX2.out.bel
        have b4 := (box_cells HB2.out).2.2.2.2
        have y0 : w2.cell? ⟨b5, o5 + j, none⟩ = some (.int .i64 (q : Int)) := by
          obtain ⟨b', o', e1, _, _, z0⟩ := HNV.out.kid HX2.out.bel HQ1.out
          injection e1 with e1
          injection e1 with e1 e2
          subst e1 e2
          exact z0
        obtain ⟨wz, hwz, hz1, hzb, hzs⟩ := box_one w2 (ndT T q).kind (ndT T q).num (ndT T q).text (ndT T q).typ (.slice A8 (ndT T q).kids.length c8)
        have HWZ := Lib.hid hwz
        have HZ1 := Lib.hid hz1
        have HZB := Lib.hid hzb
        clear hwz hz1 hzb
        have hne1 : g ≠ w2.heap.size := by omega
        have hne2 : w2.heap.size ≠ g := by omega
        have hne3 : b ≠ w2.heap.size := by omega
        have hne4 : w2.heap.size ≠ b := by omega
        have hne5 : b5 ≠ w2.heap.size := by omega
        have hne6 : w2.heap.size ≠ b5 := by omega
        have hne7 : w.heap.size ≠ w2.heap.size := by omega
        have hne8 : w2.heap.size ≠ w.heap.size := by omega
        have hj00 : (0 : Int) ≤ (j : Int) := by omega
        have hji : (j : Int) < (nl : Int) := by omega
        have hjn2 : j < nl := by omega
        go_wp2_with fail
        go_region_held3 (fun W => W.cell? ⟨g, 2, none⟩ = some (trV b off c T) ∧ W.cell? ⟨w.heap.size, 4, none⟩ = some (.slice (some ⟨b5, o5, none⟩) nl c4) ∧ W.cell? ⟨b5, o5 + j, none⟩ = some (.int .i64 (q : Int)) ∧ W.cell? ⟨b, off + q * 5, none⟩ = some (.int .i64 (ndT T q).kind) ∧ W.cell? ⟨b, off + q * 5 + 1, none⟩ = some (.string (ndT T q).text) ∧ W.cell? ⟨b, off + q * 5 + 2, none⟩ = some (.string (ndT T q).typ) ∧ W.cell? ⟨b, off + q * 5 + 3, none⟩ = some (.int .i64 (ndT T q).num) ∧ W.cell? ⟨b, off + q * 5 + 4, none⟩ = some (.slice A8 (ndT T q).kids.length c8)) (go_keep) (fail)
        rw [HWZ.out]
        clear t2 v0 v1 v2 v3 v4 y0 b4 hne1 hne2 hne3 hne4 hne5 hne6 hne7 hne8 HWZ
        have b1 := (box_cells HZ1.out).2.1
        have b2 := (box_cells HZ1.out).2.2.1
        have hrg := HRG.out q hqT0
        obtain ⟨xw, hxw⟩ : ∃ x : ByteArray, x = ⟨(wideL (txB (ndT T q).typ)).toArray⟩ := ⟨_, rfl⟩
        have hxs : xw.size = (wideL (txB (ndT T q).typ)).length := by rw [hxw]; show (wideL (txB (ndT T q).typ)).toArray.size = _; simp
        have hwl := wideL_len (txB (ndT T q).typ)
        have htl : (txB (ndT T q).typ).length = (ndT T q).typ.size := rfl
        have HSPW := Lib.hid (fun (W : World) (hW : Below wz.heap.size wz W) => HSP.out (ndT T q).typ (by omega) W (HX2.out.bel.trans ((HZB.out.trans (hW.mono HZB.out.size)).mono HX2.out.bel.size)))
        rw [← hxw] at HSPW
        have n1 : ¬ 9223372036854775807 < (ndT T q).text.size + 1 := by omega
        have n2 : ¬ 9223372036854775807 < (ndT T q).text.size + 1 + xw.size := by omega
        have HPT := Lib.hid (show txB ((ndT T q).text ++ ⟨#[32]⟩ ++ xw) = parL (ndT T q) by
          unfold parL
          rw [hxw]
          unfold txB
          rw [ByteArray.data_append, ByteArray.data_append]
          simp)
        have HPL := Lib.hid (show ((ndT T q).text ++ ⟨#[32]⟩ ++ xw).size = (parL (ndT T q)).length by rw [← HPT.out]; rfl)
        have HWR := Lib.hid (fun (W : World) (hW : Below wz.heap.size wz W) => wStr ((ndT T q).text ++ ⟨#[32]⟩ ++ xw) (HX2.out.keep (HZB.out.trans (hW.mono HZB.out.size))) (by rw [HPL.out]; simp only [List.length_append, List.length_cons, List.length_nil]; omega))
        have HBB := Lib.hid (fun (W : World) (hW : Below wz.heap.size wz W) => (hW.block w2.heap.size (by omega)).trans HZ1.out)
        clear hxw hxs hwl htl hrg
        go_wp2_with fail
        go_region_held3 (fun W => W.cell? ⟨w2.heap.size, 1, none⟩ = some (.string (ndT T q).text) ∧ W.cell? ⟨w2.heap.size, 2, none⟩ = some (.string (ndT T q).typ)) (go_keep) (first | ((go_at_call 26); refine Calls.mono (HSPW.out _ (dr (Below.refl _ _) 1)) ?_; rintro e w3 ⟨rfl, hb3⟩; have hb9 : Below wz.heap.size wz w3 := ⟨hb3.os, hb3.tape, hb3.output, hb3.size, hb3.block⟩; have b19 := (box_cells (HBB.out w3 hb9)).2.1; have b29 := (box_cells (HBB.out w3 hb9)).2.2.1) | ((go_at_call 13); refine Calls.mono (HWR.out _ hb9) ?_; rintro e w4 ⟨rfl, h4, hk4, hs4⟩; have b18 := (box_cells (kptBox hk4 (HBB.out w3 hb9) (by omega) (by decide))).2.1; have b28 := (box_cells (kptBox hk4 (HBB.out w3 hb9) (by omega) (by decide))).2.2.1))
        have HX4 := Lib.hid (h4.to (L' := L ++ [40] ++ comL (psL T k (j + 1))) (by rw [HNX.out, HPT.out]; simp only [List.append_assoc]))
        have HK4 := Lib.hid (HK2.out.trans ((kptBel (HZB.out.trans (hb9.mono HZB.out.size))).trans hk4))
        have HB4 := Lib.hid (kptBox hk4 (((HZB.out.trans (hb9.mono HZB.out.size)).block w.heap.size hww2).trans HB2.out) (by omega) (by decide))
        clear h4 hk4 hs4 hb3 hb9 b1 b2 b18 b28 b19 b29
        go_wp2_with fail
        go_roundw
        case rel => exact ⟨j + 1, by simp, by omega, HX4, HK4, HB4⟩
        case measure => simp [intOf]; omega
      · have hjp : ¬ 0 < j := by omega
        obtain rfl : j = 0 := by omega
        rw [if_neg hjp] at hln HNX
        simp only [List.length_nil] at hln
        obtain ⟨Z, hZ⟩ : ∃ Z : List UInt8, Z = [] := ⟨_, rfl⟩
        have hZl : Z.length = 0 := by rw [hZ]; rfl
        have hln2 : L.length + (1 + (comL (psL T k 0)).length + Z.length + (parL (ndT T q)).length) ≤ 1099511627776 := by omega
        have HX2 := Lib.hid (HX.out.to (L' := L ++ [40] ++ comL (psL T k 0) ++ Z) (by rw [hZ]; simp))
        rw [← hZ] at HNX
        have HK2 := HK
        have HB2 := HB
        clear hZ hZl HX HK HB hln hj0
        generalize wr = w2 at *
        have hgw2 := HX2.out.lt
        have hbw2 : b < w2.heap.size := by have := (Array.getElem?_eq_some_iff.1 HB2.out).1; omega
        have hb5w2 : b5 < w2.heap.size := by have := (Array.getElem?_eq_some_iff.1 HB2.out).1; omega
        have hww2 : w.heap.size < w2.heap.size := (Array.getElem?_eq_some_iff.1 HB2.out).1
        obtain ⟨t2, _, _⟩ := HX2.out.cells
        obtain ⟨v0, v1, v2, v3, v4⟩ := HNQ.out.cells HX2.out.bel
        have b4 := (box_cells HB2.out).2.2.2.2
        have y0 : w2.cell? ⟨b5, o5, none⟩ = some (.int .i64 (q : Int)) := by
          obtain ⟨b', o', e1, _, _, z0⟩ := HNV.out.kid HX2.out.bel HQ1.out
          injection e1 with e1
          injection e1 with e1 e2
          subst e1 e2
          simpa using z0
        obtain ⟨wz, hwz, hz1, hzb, hzs⟩ := box_one w2 (ndT T q).kind (ndT T q).num (ndT T q).text (ndT T q).typ (.slice A8 (ndT T q).kids.length c8)
        have HWZ := Lib.hid hwz
        have HZ1 := Lib.hid hz1
        have HZB := Lib.hid hzb
        clear hwz hz1 hzb
        have hne1 : g ≠ w2.heap.size := by omega
        have hne2 : w2.heap.size ≠ g := by omega
        have hne3 : b ≠ w2.heap.size := by omega
        have hne4 : w2.heap.size ≠ b := by omega
        have hne5 : b5 ≠ w2.heap.size := by omega
        have hne6 : w2.heap.size ≠ b5 := by omega
        have hne7 : w.heap.size ≠ w2.heap.size := by omega
        have hne8 : w2.heap.size ≠ w.heap.size := by omega
        have hji : (0 : Int) < (nl : Int) := by omega
        have hjn2 : 0 < nl := by omega
        go_wp2_with fail
        go_region_held3 (fun W => W.cell? ⟨g, 2, none⟩ = some (trV b off c T) ∧ W.cell? ⟨w.heap.size, 4, none⟩ = some (.slice (some ⟨b5, o5, none⟩) nl c4) ∧ W.cell? ⟨b5, o5, none⟩ = some (.int .i64 (q : Int)) ∧ W.cell? ⟨b, off + q * 5, none⟩ = some (.int .i64 (ndT T q).kind) ∧ W.cell? ⟨b, off + q * 5 + 1, none⟩ = some (.string (ndT T q).text) ∧ W.cell? ⟨b, off + q * 5 + 2, none⟩ = some (.string (ndT T q).typ) ∧ W.cell? ⟨b, off + q * 5 + 3, none⟩ = some (.int .i64 (ndT T q).num) ∧ W.cell? ⟨b, off + q * 5 + 4, none⟩ = some (.slice A8 (ndT T q).kids.length c8)) (go_keep) (fail)
        rw [HWZ.out]
        clear t2 v0 v1 v2 v3 v4 y0 b4 hne1 hne2 hne3 hne4 hne5 hne6 hne7 hne8 HWZ
        have b1 := (box_cells HZ1.out).2.1
        have b2 := (box_cells HZ1.out).2.2.1
        have hrg := HRG.out q hqT0
        obtain ⟨xw, hxw⟩ : ∃ x : ByteArray, x = ⟨(wideL (txB (ndT T q).typ)).toArray⟩ := ⟨_, rfl⟩
        have hxs : xw.size = (wideL (txB (ndT T q).typ)).length := by rw [hxw]; show (wideL (txB (ndT T q).typ)).toArray.size = _; simp
        have hwl := wideL_len (txB (ndT T q).typ)
        have htl : (txB (ndT T q).typ).length = (ndT T q).typ.size := rfl
        have HSPW := Lib.hid (fun (W : World) (hW : Below wz.heap.size wz W) => HSP.out (ndT T q).typ (by omega) W (HX2.out.bel.trans ((HZB.out.trans (hW.mono HZB.out.size)).mono HX2.out.bel.size)))
        rw [← hxw] at HSPW
        have n1 : ¬ 9223372036854775807 < (ndT T q).text.size + 1 := by omega
        have n2 : ¬ 9223372036854775807 < (ndT T q).text.size + 1 + xw.size := by omega
        have HPT := Lib.hid (show txB ((ndT T q).text ++ ⟨#[32]⟩ ++ xw) = parL (ndT T q) by
          unfold parL
          rw [hxw]
          unfold txB
          rw [ByteArray.data_append, ByteArray.data_append]
          simp)
        have HPL := Lib.hid (show ((ndT T q).text ++ ⟨#[32]⟩ ++ xw).size = (parL (ndT T q)).length by rw [← HPT.out]; rfl)
        have HWR := Lib.hid (fun (W : World) (hW : Below wz.heap.size wz W) => wStr ((ndT T q).text ++ ⟨#[32]⟩ ++ xw) (HX2.out.keep (HZB.out.trans (hW.mono HZB.out.size))) (by rw [HPL.out]; simp only [List.length_append, List.length_cons, List.length_nil]; omega))
        have HBB := Lib.hid (fun (W : World) (hW : Below wz.heap.size wz W) => (hW.block w2.heap.size (by omega)).trans HZ1.out)
        clear hxw hxs hwl htl hrg
        go_wp2_with fail
        go_region_held3 (fun W => W.cell? ⟨w2.heap.size, 1, none⟩ = some (.string (ndT T q).text) ∧ W.cell? ⟨w2.heap.size, 2, none⟩ = some (.string (ndT T q).typ)) (go_keep) (first | ((go_at_call 26); refine Calls.mono (HSPW.out _ (dr (Below.refl _ _) 1)) ?_; rintro e w3 ⟨rfl, hb3⟩; have hb9 : Below wz.heap.size wz w3 := ⟨hb3.os, hb3.tape, hb3.output, hb3.size, hb3.block⟩; have b19 := (box_cells (HBB.out w3 hb9)).2.1; have b29 := (box_cells (HBB.out w3 hb9)).2.2.1) | ((go_at_call 13); refine Calls.mono (HWR.out _ hb9) ?_; rintro e w4 ⟨rfl, h4, hk4, hs4⟩; have b18 := (box_cells (kptBox hk4 (HBB.out w3 hb9) (by omega) (by decide))).2.1; have b28 := (box_cells (kptBox hk4 (HBB.out w3 hb9) (by omega) (by decide))).2.2.1))
        have HX4 := Lib.hid (h4.to (L' := L ++ [40] ++ comL (psL T k (0 + 1))) (by rw [HNX.out, HPT.out]; simp only [List.append_assoc]))
        have HK4 := Lib.hid (HK2.out.trans ((kptBel (HZB.out.trans (hb9.mono HZB.out.size))).trans hk4))
        have HB4 := Lib.hid (kptBox hk4 (((HZB.out.trans (hb9.mono HZB.out.size)).block w.heap.size hww2).trans HB2.out) (by omega) (by decide))
        clear h4 hk4 hs4 hb3 hb9 b1 b2 b18 b28 b19 b29
        go_wp2_with fail
        go_roundw
        case rel => exact ⟨0 + 1, by simp, by omega, HX4, HK4, HB4⟩
        case measure => simp [intOf]; omega
    · have hjn : j = mN := by omega
      subst hjn
      have HLJ := Lib.hid hl1
      go_wp2_with fail
      refine Calls.mono (wStr ⟨#[41, 32]⟩ HX.out (by simp only [List.length_append, List.length_cons, List.length_nil]; show _ + 2 ≤ _; omega)) ?_
      rintro e w2 ⟨rfl, h2, hk2, hs2⟩
      have HX2 := Lib.hid (h2.to (L' := L ++ [40] ++ comL (psL T k j) ++ [41, 32]) (by rw [show txB (⟨#[41, 32]⟩ : ByteArray) = [41, 32] from rfl]))
      have HK2 := Lib.hid (HK.out.trans hk2)
      have HB2 := Lib.hid (kptBox hk2 HB.out (by omega) (by decide))
      clear h2 hk2 hs2 HX HK HB hlt
      have hgw2 := HX2.out.lt
      have hww2 : w.heap.size < w2.heap.size := (Array.getElem?_eq_some_iff.1 HB2.out).1
      have hbw2 : b < w2.heap.size := by omega
      have hb5w2 : b5 < w2.heap.size := by omega
      obtain ⟨t2, _, _⟩ := HX2.out.cells
      obtain ⟨v0, v1, v2, v3, v4⟩ := HNR.out.cells HX2.out.bel
      have b4 := (box_cells HB2.out).2.2.2.2
      have b3 := (box_cells HB2.out).2.2.2.1
      have y0 : w2.cell? ⟨b5, o5 + j, none⟩ = some (.int .i64 (r : Int)) := by
        obtain ⟨b', o', e1, _, _, z0⟩ := HNV.out.kid HX2.out.bel HR1.out
        injection e1 with e1
        injection e1 with e1 e2
        subst e1 e2
        exact z0
      obtain ⟨wz, hwz, hz1, hzb, hzs⟩ := box_one w2 (ndT T r).kind (ndT T r).num (ndT T r).text (ndT T r).typ (.slice A6 (ndT T r).kids.length c6)
      have HWZ := Lib.hid hwz
      have HZ1 := Lib.hid hz1
      have HZB := Lib.hid hzb
      clear hwz hz1 hzb
      have hne1 : g ≠ w2.heap.size := by omega
      have hne2 : w2.heap.size ≠ g := by omega
      have hne3 : b ≠ w2.heap.size := by omega
      have hne4 : w2.heap.size ≠ b := by omega
      have hne5 : b5 ≠ w2.heap.size := by omega
      have hne6 : w2.heap.size ≠ b5 := by omega
      have hne7 : w.heap.size ≠ w2.heap.size := by omega
      have hne8 : w2.heap.size ≠ w.heap.size := by omega
      have hj00 : (0 : Int) ≤ (j : Int) := by omega
      have hji : (j : Int) < (nl : Int) := by omega
      have hjn2 : j < nl := by omega
      go_wp2_with fail
      go_region_held3 (fun W => W.cell? ⟨g, 2, none⟩ = some (trV b off c T) ∧ W.cell? ⟨w.heap.size, 4, none⟩ = some (.slice (some ⟨b5, o5, none⟩) nl c4) ∧ W.cell? ⟨w.heap.size, 3, none⟩ = some (.int .i64 (j : Int)) ∧ W.cell? ⟨b5, o5 + j, none⟩ = some (.int .i64 (r : Int)) ∧ W.cell? ⟨b, off + r * 5, none⟩ = some (.int .i64 (ndT T r).kind) ∧ W.cell? ⟨b, off + r * 5 + 1, none⟩ = some (.string (ndT T r).text) ∧ W.cell? ⟨b, off + r * 5 + 2, none⟩ = some (.string (ndT T r).typ) ∧ W.cell? ⟨b, off + r * 5 + 3, none⟩ = some (.int .i64 (ndT T r).num) ∧ W.cell? ⟨b, off + r * 5 + 4, none⟩ = some (.slice A6 (ndT T r).kids.length c6)) (go_keep) (fail)
      rw [HWZ.out]
      clear t2 v0 v1 v2 v3 v4 y0 b4 b3 hne1 hne2 hne3 hne4 hne5 hne6 hne7 hne8 HWZ
      have b1 := (box_cells HZ1.out).2.1
      have b2 := (box_cells HZ1.out).2.2.1
      have HXZ := Lib.hid (HX2.out.keep HZB.out)
      have HKZ := Lib.hid (HK2.out.trans (kptBel HZB.out))
      have HBZ := Lib.hid ((HZB.out.block w.heap.size hww2).trans HB2.out)
      have hrg := HRG.out r (by omega)
      obtain ⟨xw, hxw⟩ : ∃ x : ByteArray, x = ⟨(wideL (txB (ndT T r).typ)).toArray⟩ := ⟨_, rfl⟩
      have hxs : xw.size = (wideL (txB (ndT T r).typ)).length := by rw [hxw]; show (wideL (txB (ndT T r).typ)).toArray.size = _; simp
      have hwl := wideL_len (txB (ndT T r).typ)
      have htl : (txB (ndT T r).typ).length = (ndT T r).typ.size := rfl
      have HSPW := Lib.hid (fun (W : World) (hW : Below wz.heap.size wz W) => HSP.out (ndT T r).typ (by omega) W (HXZ.out.bel.trans (hW.mono HXZ.out.bel.size)))
      rw [← hxw] at HSPW
      have n1 : ¬ 9223372036854775807 < 1 + (ndT T r).text.size := by omega
      have n2 : ¬ 9223372036854775807 < 1 + (ndT T r).text.size + 1 := by omega
      have n3 : ¬ 9223372036854775807 < 1 + (ndT T r).text.size + 1 + xw.size := by omega
      have n4 : ¬ 9223372036854775807 < 1 + (ndT T r).text.size + 1 + xw.size + 2 := by omega
      have n5 : ¬ 9223372036854775807 < xw.size + 1 := by omega
      have HBB := Lib.hid (fun (W : World) (hW : Below wz.heap.size wz W) => (hW.block w2.heap.size (by omega)).trans HZ1.out)
      have HXW := Lib.hid hxw
      clear hxw hwl htl
      cases he : emB (ndT T r).text with
      | false =>
        have HRS := Lib.hid (show txB ((⟨#[40]⟩ : ByteArray) ++ (ndT T r).text ++ ⟨#[32]⟩ ++ xw ++ ⟨#[41, 32]⟩) = resL (ndT T r) by
          unfold resL
          rw [if_pos he, HXW.out]
          unfold txB
          rw [ByteArray.data_append, ByteArray.data_append, ByteArray.data_append, ByteArray.data_append]
          simp)
        have hemp : (ndT T r).text.toList.isEmpty = false := he
        have HRL := Lib.hid (show ((⟨#[40]⟩ : ByteArray) ++ (ndT T r).text ++ ⟨#[32]⟩ ++ xw ++ ⟨#[41, 32]⟩).size = (resL (ndT T r)).length by rw [← HRS.out]; rfl)
        have HWR := Lib.hid (fun (W : World) (hW : Below wz.heap.size wz W) => wStr ((⟨#[40]⟩ : ByteArray) ++ (ndT T r).text ++ ⟨#[32]⟩ ++ xw ++ ⟨#[41, 32]⟩) (HXZ.out.keep hW) (by rw [HRL.out]; simp only [List.length_append, List.length_cons, List.length_nil]; omega))
        clear he hrg hxs
        go_wp2_with fail
        go_region_held3 (fun W => W.cell? ⟨w2.heap.size, 1, none⟩ = some (.string (ndT T r).text) ∧ W.cell? ⟨w2.heap.size, 2, none⟩ = some (.string (ndT T r).typ)) (go_keep) (first | ((go_at_call 26); refine Calls.mono (HSPW.out _ (dr (Below.refl _ _) 1)) ?_; rintro e w3 ⟨rfl, hb3⟩; have hb9 : Below wz.heap.size wz w3 := ⟨hb3.os, hb3.tape, hb3.output, hb3.size, hb3.block⟩; have b19 := (box_cells (HBB.out w3 hb9)).2.1; have b29 := (box_cells (HBB.out w3 hb9)).2.2.1) | ((go_at_call 13); refine Calls.mono (HWR.out _ hb9) ?_; rintro e w4 ⟨rfl, h4, hk4, hs4⟩; have b18 := (box_cells (kptBox hk4 (HBB.out w3 hb9) (by omega) (by decide))).2.1; have b28 := (box_cells (kptBox hk4 (HBB.out w3 hb9) (by omega) (by decide))).2.2.1))
        have HX5 := Lib.hid (h4.to (L' := L ++ [40] ++ comL (psL T k j) ++ [41, 32] ++ resL (ndT T r)) (by rw [HRS.out]))
        have HK5 := Lib.hid (HKZ.out.trans ((kptBel hb9).trans hk4))
        have HB5 := Lib.hid (kptBox hk4 ((hb9.block w.heap.size (by omega)).trans HBZ.out) (by omega) (by decide))
        clear h4 hk4 hs4 hb3 hb9 b1 b2 b18 b28 b19 b29 HXZ HKZ HBZ HWR
        generalize w4 = w5 at *
        obtain ⟨t2, _, _⟩ := HX5.out.cells
        obtain ⟨v0, v1, v2, v3, v4⟩ := HNP.out.cells HX5.out.bel
        have b4 := (box_cells HB5.out).2.2.2.2
        have b3 := (box_cells HB5.out).2.2.2.1
        have hsz5 : w.heap.size < w5.heap.size := (Array.getElem?_eq_some_iff.1 HB5.out).1
        have y0 : w5.cell? ⟨b5, o5 + (j + 1), none⟩ = some (.int .i64 (p : Int)) := by
          obtain ⟨b', o', e1, _, _, z0⟩ := HNV.out.kid HX5.out.bel HPP.out
          injection e1 with e1
          injection e1 with e1 e2
          subst e1 e2
          exact z0
        have hwrp : IntKind.i64.wrap ((j : Int) + 1) = (j : Int) + 1 := IntWalk.i64_in _ (by omega)
        have htn : ((j : Int) + 1).toNat = j + 1 := by omega
        have hj01 : (0 : Int) ≤ (j : Int) + 1 := by omega
        have hj11 : (j : Int) + 1 < (nl : Int) := by omega
        have hj12 : j + 1 < nl := by omega
        have HWI := Lib.hid (HBLC.out _ _ HNP.out HP4.out d _ _ (HX5.out.keep (dr (Below.refl _ _) 1)) (by omega) (by have h9 := HLJ.out; simp only [List.length_append, List.length_cons, List.length_nil]; omega))
        unfold ndW at HWI
        rw [HP4.out] at HWI v0
        go_wp2_with fail
        go_still_tail 14, (by kernel_rfl)
        change wpList _ _ _ _ _ w5.drew
        go_wp2_with fail
        refine Calls.mono HWI.out ?_
        rintro e w6 ⟨rfl, h6, hk6, hs6⟩
        have H6 := Lib.hid (h6.to (L' := L ++ hdS T (prT T k) (ndT T k) d) (by rw [HTX.out]; simp only [List.append_assoc]))
        have HK6 := Lib.hid (HK5.out.trans ((kptBel (dr (Below.refl _ _) 1)).trans hk6))
        have hw6 : w.heap.size ≤ w6.heap.size := by have h9 : w5.heap.size ≤ w6.heap.size := hs6; omega
        clear h6 hk6 hs6 hwrp htn t2 v0 v1 v2 v3 v4 b3 b4 y0
        go_wp2_with fail
        go_end0
        exact ⟨rfl, H6.out, HK6.out, hw6⟩
      | true =>
        have hemp : (ndT T r).text.toList.isEmpty = true := he
        cases he2 : emB (ndT T r).typ with
        | false =>
          have HRS := Lib.hid (show txB (xw ++ (⟨#[32]⟩ : ByteArray)) = resL (ndT T r) by
            unfold resL
            rw [if_neg (by rw [he]; decide), if_pos he2, HXW.out]
            unfold txB
            rw [ByteArray.data_append]
            simp)
          have hemp2 : (ndT T r).typ.toList.isEmpty = false := he2
          have HRL := Lib.hid (show (xw ++ (⟨#[32]⟩ : ByteArray)).size = (resL (ndT T r)).length by rw [← HRS.out]; rfl)
          have HWR := Lib.hid (fun (W : World) (hW : Below wz.heap.size wz W) => wStr (xw ++ (⟨#[32]⟩ : ByteArray)) (HXZ.out.keep hW) (by rw [HRL.out]; simp only [List.length_append, List.length_cons, List.length_nil]; omega))
          clear he he2 hrg hxs
          go_wp2_with fail
          go_region_held3 (fun W => W.cell? ⟨w2.heap.size, 1, none⟩ = some (.string (ndT T r).text) ∧ W.cell? ⟨w2.heap.size, 2, none⟩ = some (.string (ndT T r).typ)) (go_keep) (first | ((go_at_call 26); refine Calls.mono (HSPW.out _ (dr (Below.refl _ _) 1)) ?_; rintro e w3 ⟨rfl, hb3⟩; have hb9 : Below wz.heap.size wz w3 := ⟨hb3.os, hb3.tape, hb3.output, hb3.size, hb3.block⟩; have b19 := (box_cells (HBB.out w3 hb9)).2.1; have b29 := (box_cells (HBB.out w3 hb9)).2.2.1) | ((go_at_call 13); refine Calls.mono (HWR.out _ hb9) ?_; rintro e w4 ⟨rfl, h4, hk4, hs4⟩; have b18 := (box_cells (kptBox hk4 (HBB.out w3 hb9) (by omega) (by decide))).2.1; have b28 := (box_cells (kptBox hk4 (HBB.out w3 hb9) (by omega) (by decide))).2.2.1))
          have HX5 := Lib.hid (h4.to (L' := L ++ [40] ++ comL (psL T k j) ++ [41, 32] ++ resL (ndT T r)) (by rw [HRS.out]))
          have HK5 := Lib.hid (HKZ.out.trans ((kptBel hb9).trans hk4))
          have HB5 := Lib.hid (kptBox hk4 ((hb9.block w.heap.size (by omega)).trans HBZ.out) (by omega) (by decide))
          clear h4 hk4 hs4 hb3 hb9 b1 b2 b18 b28 b19 b29 HXZ HKZ HBZ HWR
          generalize w4 = w5 at *
          obtain ⟨t2, _, _⟩ := HX5.out.cells
          obtain ⟨v0, v1, v2, v3, v4⟩ := HNP.out.cells HX5.out.bel
          have b4 := (box_cells HB5.out).2.2.2.2
          have b3 := (box_cells HB5.out).2.2.2.1
          have hsz5 : w.heap.size < w5.heap.size := (Array.getElem?_eq_some_iff.1 HB5.out).1
          have y0 : w5.cell? ⟨b5, o5 + (j + 1), none⟩ = some (.int .i64 (p : Int)) := by
            obtain ⟨b', o', e1, _, _, z0⟩ := HNV.out.kid HX5.out.bel HPP.out
            injection e1 with e1
            injection e1 with e1 e2
            subst e1 e2
            exact z0
          have hwrp : IntKind.i64.wrap ((j : Int) + 1) = (j : Int) + 1 := IntWalk.i64_in _ (by omega)
          have htn : ((j : Int) + 1).toNat = j + 1 := by omega
          have hj01 : (0 : Int) ≤ (j : Int) + 1 := by omega
          have hj11 : (j : Int) + 1 < (nl : Int) := by omega
          have hj12 : j + 1 < nl := by omega
          have HWI := Lib.hid (HBLC.out _ _ HNP.out HP4.out d _ _ (HX5.out.keep (dr (Below.refl _ _) 1)) (by omega) (by have h9 := HLJ.out; simp only [List.length_append, List.length_cons, List.length_nil]; omega))
          unfold ndW at HWI
          rw [HP4.out] at HWI v0
          go_wp2_with fail
          go_still_tail 14, (by kernel_rfl)
          change wpList _ _ _ _ _ w5.drew
          go_wp2_with fail
          refine Calls.mono HWI.out ?_
          rintro e w6 ⟨rfl, h6, hk6, hs6⟩
          have H6 := Lib.hid (h6.to (L' := L ++ hdS T (prT T k) (ndT T k) d) (by rw [HTX.out]; simp only [List.append_assoc]))
          have HK6 := Lib.hid (HK5.out.trans ((kptBel (dr (Below.refl _ _) 1)).trans hk6))
          have hw6 : w.heap.size ≤ w6.heap.size := by have h9 : w5.heap.size ≤ w6.heap.size := hs6; omega
          clear h6 hk6 hs6 hwrp htn t2 v0 v1 v2 v3 v4 b3 b4 y0
          go_wp2_with fail
          go_end0
          exact ⟨rfl, H6.out, HK6.out, hw6⟩
        | true =>
          have HRS := Lib.hid (show resL (ndT T r) = [] by
            unfold resL
            rw [if_neg (by rw [he]; decide), if_neg (by rw [he2]; decide)])
          have hemp2 : (ndT T r).typ.toList.isEmpty = true := he2
          have HX5 := Lib.hid (HXZ.out.to (L' := L ++ [40] ++ comL (psL T k j) ++ [41, 32] ++ resL (ndT T r)) (by rw [HRS.out, List.append_nil]))
          have HK5 := HKZ
          have HB5 := HBZ
          clear he he2 hrg hxs HXZ HKZ HBZ
          generalize wz = w5 at *
          obtain ⟨t2, _, _⟩ := HX5.out.cells
          obtain ⟨v0, v1, v2, v3, v4⟩ := HNP.out.cells HX5.out.bel
          have b4 := (box_cells HB5.out).2.2.2.2
          have b3 := (box_cells HB5.out).2.2.2.1
          have hsz5 : w.heap.size < w5.heap.size := (Array.getElem?_eq_some_iff.1 HB5.out).1
          have y0 : w5.cell? ⟨b5, o5 + (j + 1), none⟩ = some (.int .i64 (p : Int)) := by
            obtain ⟨b', o', e1, _, _, z0⟩ := HNV.out.kid HX5.out.bel HPP.out
            injection e1 with e1
            injection e1 with e1 e2
            subst e1 e2
            exact z0
          have hwrp : IntKind.i64.wrap ((j : Int) + 1) = (j : Int) + 1 := IntWalk.i64_in _ (by omega)
          have htn : ((j : Int) + 1).toNat = j + 1 := by omega
          have hj01 : (0 : Int) ≤ (j : Int) + 1 := by omega
          have hj11 : (j : Int) + 1 < (nl : Int) := by omega
          have hj12 : j + 1 < nl := by omega
          have HWI := Lib.hid (HBLC.out _ _ HNP.out HP4.out d _ _ (HX5.out.keep (dr (Below.refl _ _) 1)) (by omega) (by have h9 := HLJ.out; simp only [List.length_append, List.length_cons, List.length_nil]; omega))
          unfold ndW at HWI
          rw [HP4.out] at HWI v0
          go_wp2_with fail
          go_still_tail 14, (by kernel_rfl)
          change wpList _ _ _ _ _ w5.drew
          go_wp2_with fail
          refine Calls.mono HWI.out ?_
          rintro e w6 ⟨rfl, h6, hk6, hs6⟩
          have H6 := Lib.hid (h6.to (L' := L ++ hdS T (prT T k) (ndT T k) d) (by rw [HTX.out]; simp only [List.append_assoc]))
          have HK6 := Lib.hid (HK5.out.trans ((kptBel (dr (Below.refl _ _) 1)).trans hk6))
          have hw6 : w.heap.size ≤ w6.heap.size := by have h9 : w5.heap.size ≤ w6.heap.size := hs6; omega
          clear h6 hk6 hs6 hwrp htn t2 v0 v1 v2 v3 v4 b3 b4 y0
          go_wp2_with fail
          go_end0
          exact ⟨rfl, H6.out, HK6.out, hw6⟩
end Go.Proofs.YtkpejdkffkhekaaGreatDoor
end
