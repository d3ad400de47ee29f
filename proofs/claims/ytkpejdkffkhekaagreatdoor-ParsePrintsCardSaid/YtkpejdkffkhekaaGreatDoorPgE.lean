/- The document's word on how nodes are laid. Conditions: at most 4000 nodes. -/
import Derived.Test.YtkpejdkffkhekaaGreatDoorPgDb
import Derived.Test.YtkpejdkffkhekaaGreatDoorPgDc
import Derived.Test.YtkpejdkffkhekaaGreatDoorPgB
import Derived.Test.YtkpejdkffkhekaaGreatDoorMapI
import Derived.Laws.IdiomStrings
set_option maxRecDepth 100000
namespace Go.Proofs.YtkpejdkffkhekaaGreatDoor
open Go.ChangeShapes Go.WideShapes Go.ChangeAt Go.RowKit
/-- The map of starts, for the nodes ahead of k. -/
def svN (T : List ND) (j : Nat) : Nat := (startOf T j).getD 0
def metT (T : List ND) (k : Nat) : List (Int × Value) := (List.range k).map fun (j : Nat) => ((j : Int), Value.int .i64 ((svN T j : Nat) : Int))
theorem metT_succ (T : List ND) (k : Nat) : metT T (k + 1) = metT T k ++ [((k : Int), .int .i64 ((svN T k : Nat) : Int))] := by
  unfold metT
  rw [List.range_succ, List.map_append]
  rfl
theorem getM_app_none {l m : List (Int × Value)} {k : Int} (h : getM l k = none) : getM (l ++ m) k = getM m k := by
  induction l with
  | nil => rfl
  | cons p l ih =>
    obtain ⟨a, x⟩ := p
    by_cases hak : a = k
    · simp [getM, hak] at h
    · simp only [getM, hak, if_false] at h
      simp [getM, hak, ih h]
theorem getM_app_some {l m : List (Int × Value)} {k : Int} {v : Value} (h : getM l k = some v) : getM (l ++ m) k = some v := by
  induction l with
  | nil => simp [getM] at h
  | cons p l ih =>
    obtain ⟨a, x⟩ := p
    by_cases hak : a = k
    · simp only [getM, hak, if_true] at h
      simp [getM, hak, h]
    · simp only [getM, hak, if_false] at h
      simp [getM, hak, ih h]
theorem metT_none (T : List ND) (k j : Nat) (h : k ≤ j) : getM (metT T k) (j : Int) = none := by
  induction k with
  | zero => rfl
  | succ k ih =>
    rw [metT_succ, getM_app_none (ih (by omega))]
    simp only [getM]
    rw [if_neg (by omega)]
theorem metT_some (T : List ND) (k j : Nat) (h : j < k) : getM (metT T k) (j : Int) = some (.int .i64 ((svN T j : Nat) : Int)) := by
  induction k with
  | zero => omega
  | succ k ih =>
    rw [metT_succ]
    by_cases hj : j < k
    · exact getM_app_some (ih hj)
    · obtain rfl : j = k := by omega
      rw [getM_app_none (metT_none T j j (Nat.le_refl _))]
      simp only [getM, if_true]
/-- All nodes ahead of k are laid right. -/
def AllN (T : List ND) (k : Nat) : Prop := ∀ j, j < k → (startOf T j).isSome = true
theorem allN_succ {T : List ND} {k a : Nat} (h : AllN T k) (ha : startOf T k = some a) : AllN T (k + 1) := by
  intro j hj
  by_cases hjk : j < k
  · exact h j hjk
  · obtain rfl : j = k := by omega
    rw [ha]; rfl
theorem laidT_iff {T : List ND} {m : Nat} {x : ND} (hm : T.length = m + 1) (hx : T[m]? = some x) (h : AllN T (m + 1)) : LaidT T ↔ x.kind = 1 ∧ svN T m = 0 := by
  have hs := h m (by omega)
  obtain ⟨a, ha⟩ := Option.isSome_iff_exists.1 hs
  have hsv : svN T m = a := by unfold svN; rw [ha]; rfl
  unfold LaidT
  rw [show T.length - 1 = m by omega, hsv, ha, hx]
  constructor
  · rintro ⟨_, ⟨n, h1, h2⟩, h3⟩
    injection h1 with h1
    injection h3 with h3
    rw [h1]
    exact ⟨h2, h3⟩
  · rintro ⟨h1, h2⟩
    exact ⟨by omega, ⟨x, rfl, h1⟩, by rw [h2]⟩
theorem not_laid {T : List ND} {k : Nat} (hk : k < T.length) (h : startOf T k = none) : ¬ LaidT T := fun hl => by
  have := laid_all hl k hk
  rw [h] at this
  cases this
theorem startOf_cnt {T : List ND} {k : Nat} {x : ND} (hx : T[k]? = some x) (h : cntN x = false) : startOf T k = none := by
  rw [startOf_eq]
  unfold stepNd
  rw [hx]
  simp [h]
theorem startOf_back {T : List ND} {k : Nat} {x : ND} (hx : T[k]? = some x) (h : cntN x = true) : backK T (startOf T) x x.kids.length k = startOf T k := by
  rw [startOf_eq T k]
  unfold stepNd
  rw [hx]
  simp [h]
theorem backK_bad {T : List ND} {st : Nat → Option Nat} {n : ND} {i next : Nat} {z : Int} (h1 : n.kids[i]? = some z) (h : ¬ (z + 1 = (next : Int) ∧ 0 ≤ z)) : backK T st n (i + 1) next = none := by
  simp only [backK, h1]
  rw [if_neg h]
theorem backK_fam {T : List ND} {st : Nat → Option Nat} {n m : ND} {i k : Nat} (h1 : n.kids[i]? = some (k : Int)) (h2 : T[k]? = some m) (h3 : kidN n i m.kind = false) : backK T st n (i + 1) (k + 1) = none := by
  simp only [backK, h1]
  rw [if_pos ⟨by omega, by omega⟩]
  simp only [Int.toNat_natCast, h2, h3]
  simp
theorem mayL_ne (x : ND) (i : Nat) : 0 < (mayL x i).length := by
  unfold mayL
  repeat' split
  all_goals simp
theorem mayL_le (x : ND) (i : Nat) : (mayL x i).length ≤ 3 := by
  unfold mayL
  repeat' split
  all_goals simp
theorem bytesRow_at {s : ByteArray} {c j : Nat} {u : UInt8} (h : s.data.toList[j]? = some u) : (bytesRow s c)[j]? = some (.int .u8 (u.toNat : Int)) := by
  unfold bytesRow
  have hj : j < s.data.toList.length := (List.getElem?_eq_some_iff.1 h).1
  rw [Array.getElem?_append_left (by simpa using hj), Array.getElem?_map, ← Array.getElem?_toList, h]
  rfl
theorem bytes_cell {w : World} {s : ByteArray} {c j : Nat} {u : UInt8} {e : TypeId} {r : Nat × Nat} (h : s.data.toList[j]? = some u) : (w.alloc (.cells (bytesRow s c) e r)).drew.cell? ⟨w.heap.size, j, none⟩ = some (.int .u8 (u.toNat : Int)) := by
  have hh : (w.alloc (.cells (bytesRow s c) e r)).drew.heap[w.heap.size]? = some (.cells (bytesRow s c) e r) := heap_alloc_new w _
  rw [Lib.cell_of_heap hh]
  exact bytesRow_at h
/-- What 'laid' answers. -/
def LdR (T : List ND) (w : World) (e : Ending) (w' : World) : Prop := ∃ b, e = .returned (.bool b) ∧ (b = true ↔ LaidT T) ∧ Below w.heap.size w w'
theorem LdR.no {T : List ND} {w w' : World} (h : ¬ LaidT T) (hb : Below w.heap.size w w') : LdR T w (.returned (.bool false)) w' := ⟨false, rfl, ⟨fun h => (by cases h), fun g => absurd g h⟩, hb⟩
theorem LdR.of {T : List ND} {w w' : World} (b : Bool) (h : b = true ↔ LaidT T) (hb : Below w.heap.size w w') : LdR T w (.returned (.bool b)) w' := ⟨b, rfl, h, hb⟩
set_option maxHeartbeats 8000000 in
theorem laid_any {T : List ND} {A : Option Addr} {c : Nat} {w : World} (h : (Shp.slice ND.sh).rd w (· < w.heap.size) [.slice A T.length c] T) (hf : ∀ x ∈ T, ND.fits x) (hn : T.length ≤ 4000) :
    Calls Tryz.prog 17 #[.slice A T.length c] w (LdR T w) := by
  obtain ⟨A', c', ess, e, hlc, hcm, _, hr, hall⟩ := h
  simp at e
  obtain ⟨rfl, rfl⟩ := e
  have HR := Lib.hid hr
  have HA := Lib.hid hall
  have HF := Lib.hid hf
  clear hr hall hf
  obtain ⟨N, hN⟩ : ∃ N, N = T.length := ⟨_, rfl⟩
  rw [← hN] at hlc hn ⊢
  have HN := Lib.hid hN
  clear hN
  have hmm := @run_makeMap Tryz.prog
  go_enter Tryz.func17, Tryz.ntmps17
  go_wp2_with fail
  have HB0 := Lib.hid (al (w := w) (.map #[] 0))
  have HM0 := Lib.hid (MapIs.made w)
  generalize w.alloc (.map #[] 0) = w0 at *
  go_loopw [16] (fun i wr => ∃ (k : Nat), i = .int .i64 (k : Int) ∧ k ≤ N ∧ Hid (AllN T k) ∧ Hid (MapIs wr w.heap.size (metT T k)) ∧ Hid (Below w.heap.size w wr)) (fun i _ => N - (intOf i).toNat)
  case atStart => exact ⟨0, rfl, Nat.zero_le _, Lib.hid (fun j hj => by omega), HM0, HB0⟩
  case round =>
    obtain ⟨k, rfl, hk, HAN, HM, HB⟩ := hrel
    have hgsw : w.heap.size ≤ wr.heap.size := HB.out.size
    by_cases hlt : (k : Int) < (N : Int)
    · obtain ⟨b, off, cs, x, rfl, hb, hx, hrd, hcell⟩ := Shp.elem HR.out HA.out (show k < T.length by have := HN.out; omega) rfl
      obtain ⟨A4, c4, rfl, q0, q3, r4, l4, m4, n4, b4⟩ := ND.elim hrd
      have hww : ∀ o, wr.cell? ⟨b, o, none⟩ = w.cell? ⟨b, o, none⟩ := fun o => HB.out.cell (p := ⟨b, o, none⟩) hb
      have hbr : b < wr.heap.size := by omega
      have e0 := (hww _).trans (hcell 0 _ rfl)
      have e1 := (hww _).trans (hcell 1 _ rfl)
      have e2 := (hww _).trans (hcell 2 _ rfl)
      have e3 := (hww _).trans (hcell 3 _ rfl)
      have e4 := (hww _).trans (hcell 4 _ rfl)
      have hsz : ND.sh.size = 5 := rfl
      rw [hsz] at e0 e1 e2 e3 e4
      simp only [Nat.add_zero] at e0
      have HX := Lib.hid hx
      have HR4 := Lib.hid r4
      have hl8 := (HF.out x (List.mem_of_getElem? hx)).2.2
      have HCT := Lib.hid (fun (W : World) => counts_any (x := x) (A4 := A4) (c4 := c4) (w := W) hl8)
      have HMY := Lib.hid (fun (h : cntN x = true) (i : Nat) (hi : i < x.kids.length) (W : World) => may_any (x := x) (A4 := A4) (c4 := c4) (w := W) h hi)
      unfold CtC at HCT
      unfold MayC at HMY
      obtain ⟨nk, hnk⟩ : ∃ nk, nk = x.kids.length := ⟨_, rfl⟩
      rw [← hnk] at e4 HR4 hl8 HCT HMY
      have HNK := Lib.hid hnk
      clear hsz hcell hx hww hrd r4 q0 q3 b4 n4 l4 m4 hnk
      go_wp2_with fail
      refine Calls.mono (HCT.out _) ?_
      rintro e w3 ⟨rfl, hb3⟩
      have g0 := hb3.cell (p := ⟨wr.heap.size, 0, none⟩) (by simp)
      have g1 := hb3.cell (p := ⟨wr.heap.size, 1, none⟩) (by simp)
      have g2 := hb3.cell (p := ⟨wr.heap.size, 2, none⟩) (by simp)
      have g3 := hb3.cell (p := ⟨wr.heap.size, 3, none⟩) (by simp)
      have g4 := hb3.cell (p := ⟨wr.heap.size, 4, none⟩) (by simp)
      simp [go_sem] at g0 g1 g2 g3 g4
      have hbr3 : Below wr.heap.size wr w3 := sq (al _) hb3
      have HM3 := Lib.hid (HM.out.below hbr3 HM.out.lt)
      have HB3 := Lib.hid (HB.out.trans (hbr3.mono hgsw))
      have hnb : wr.heap.size < w3.heap.size := by have := hb3.size; simp at this; omega
      have hw3 : w.heap.size ≤ w3.heap.size := by omega
      clear hb3 hbr3 e0 e1 e2 e3 e4
      generalize hnbk : wr.heap.size = nb at *
      clear hnbk
      cases hcn : cntN x with
      | false =>
        have HNL := Lib.hid (not_laid (by have := HN.out; omega) (startOf_cnt HX.out hcn))
        clear hcn
        go_wp2_with fail
        go_ret
        exact LdR.no HNL.out HB3.out
      | true =>
        have HCN := Lib.hid hcn
        have HST := Lib.hid (startOf_back HX.out hcn)
        rw [← HNK.out] at HST
        clear hcn
        go_wp2_with fail
        go_loopw [6, 7] (fun v6 v7 wq => ∃ (m nx : Nat) (j : Int), v6 = .int .i64 (nx : Int) ∧ v7 = .int .i64 j ∧ Hid (j + 1 = (m : Int)) ∧ -1 ≤ j ∧ j < (nk : Int) ∧ nx ≤ k ∧ Hid (backK T (startOf T) x m nx = startOf T k) ∧ Hid (Below w3.heap.size w3 wq)) (fun _ v7 _ => (intOf v7 + 1).toNat)
        case atStart => exact ⟨nk, k, _, rfl, rfl, Lib.hid (by omega), by omega, by omega, Nat.le_refl _, HST, Lib.hid (Below.refl _ _)⟩
        case round =>
          obtain ⟨m, nx, j, rfl, rfl, HJ, hj1, hjn, hnx, HBK, HBQ⟩ := hrel
          have l0 := (HBQ.out.cell (p := ⟨nb, 0, none⟩) hnb).trans g0
          have l1 := (HBQ.out.cell (p := ⟨nb, 1, none⟩) hnb).trans g1
          have l2 := (HBQ.out.cell (p := ⟨nb, 2, none⟩) hnb).trans g2
          have l3 := (HBQ.out.cell (p := ⟨nb, 3, none⟩) hnb).trans g3
          have l4 := (HBQ.out.cell (p := ⟨nb, 4, none⟩) hnb).trans g4
          have hwq : w3.heap.size ≤ wr.heap.size := HBQ.out.size
          have HBW := Lib.hid (HB3.out.trans (HBQ.out.mono hw3))
          by_cases hj0 : 0 ≤ j
          · obtain ⟨p, rfl⟩ : ∃ p : Nat, j = (p : Int) := ⟨j.toNat, by omega⟩
            have hmp : m = p + 1 := by have := HJ.out; omega
            subst hmp
            have hpn : p < nk := by omega
            obtain ⟨z, hz⟩ : ∃ z, x.kids[p]? = some z := ⟨_, List.getElem?_eq_getElem (by have := HNK.out; omega)⟩
            obtain ⟨b5, o5, rfl, hb5, hcl5⟩ := HR4.out.2 (by omega)
            have z0 := (HBW.out.cell (p := ⟨b5, o5 + p, none⟩) hb5).trans (hcl5 p (.int .i64 z) (by rw [List.getElem?_map, hz]; rfl))
            have HZ := Lib.hid hz
            clear hcl5 hz hj1 hj0
            have hwx : wrap64 ((nx : Int) - 1) = (nx : Int) - 1 := by unfold RowKit.wrap64; omega
            by_cases hzz : z + 1 = (nx : Int) ∧ 0 ≤ z
            · obtain ⟨q, rfl⟩ : ∃ q : Nat, z = (q : Int) := ⟨z.toNat, by omega⟩
              have hnq : nx = q + 1 := by omega
              subst hnq
              clear hzz hwx
              have hwx : wrap64 (((q + 1 : Nat) : Int) - 1) = (q : Int) := by unfold RowKit.wrap64; omega
              have hqk : q < k := by omega
              obtain ⟨bq, offq, csq, y, eA, hbq, hy, hrdq, hcellq⟩ := Shp.elem HR.out HA.out (show q < T.length by have := HN.out; omega) rfl
              injection eA with eA
              injection eA with eA eA2
              subst eA eA2
              obtain ⟨_, _, rfl, _⟩ := ND.elim hrdq
              have d0 := hcellq 0 _ rfl
              have hsz : ND.sh.size = 5 := rfl
              rw [hsz] at d0
              simp only [Nat.add_zero] at d0
              have HY := Lib.hid hy
              have HD0 := Lib.hid (fun (W : World) (hW : Below w.heap.size w W) => (hW.cell (p := ⟨b, off + q * 5, none⟩) hb).trans d0)
              have HSV := Lib.hid (show startOf T q = some (svN T q) by
                obtain ⟨a, ha⟩ := Option.isSome_iff_exists.1 (HAN.out q hqk)
                unfold svN
                rw [ha]; rfl)
              have HKF := Lib.hid (may_fam x p y.kind)
              have hM := HMY.out HCN.out p hpn
              obtain ⟨s, hs⟩ : ∃ s : ByteArray, s = ⟨(mayL x p).toArray⟩ := ⟨_, rfl⟩
              have hsL : s.data.toList = mayL x p := by rw [hs]
              have hsn : s.size = (mayL x p).length := by rw [hs]; simp [ByteArray.size]
              rw [← hs] at hM
              have HSL := Lib.hid hsL
              have h3 : s.size ≤ 3 := by rw [hsn]; exact mayL_le x p
              have hpos : 0 < s.size := by rw [hsn]; exact mayL_ne x p
              have hposi : ((s.size : Int) == 0) = false := by rw [beq_eq_false_iff_ne]; omega
              have HM1 := Lib.hid hM
              have hcv := fun (W : World) => run_bytes_of_string (P := Tryz.prog) W 9 34 5 s Tryz.underlying9 Tryz.underlying34 Tryz.underlying5
              clear hs hsL hsn hy hrdq hcellq hsz d0 hM
              go_wp2_with fail
              refine Calls.mono (HM1.out _) ?_
              rintro e w4 ⟨rfl, hb4⟩
              have HB4 := Lib.hid (HBQ.out.trans (hb4.mono hwq))
              have k0 := (hb4.cell (p := ⟨nb, 0, none⟩) (show nb < wr.heap.size by omega)).trans l0
              have k1 := (hb4.cell (p := ⟨nb, 1, none⟩) (show nb < wr.heap.size by omega)).trans l1
              have k2 := (hb4.cell (p := ⟨nb, 2, none⟩) (show nb < wr.heap.size by omega)).trans l2
              have k3 := (hb4.cell (p := ⟨nb, 3, none⟩) (show nb < wr.heap.size by omega)).trans l3
              have k4 := (hb4.cell (p := ⟨nb, 4, none⟩) (show nb < wr.heap.size by omega)).trans l4
              have h44 : w3.heap.size ≤ w4.heap.size := HB4.out.size
              clear hb4 l0 l1 l2 l3 l4 z0
              go_wp2_with fail
              refine Calls.mono (HM1.out _) ?_
              rintro e w5 ⟨rfl, hbb5⟩
              have HB5 := Lib.hid (HB4.out.trans (hbb5.mono h44))
              have h55 : w3.heap.size ≤ w5.heap.size := HB5.out.size
              clear hbb5 k0 k1 k2 k3 k4
              go_wp2_with fail
              clear hcv
              have HB6 := Lib.hid (show Below w3.heap.size w3 (w5.alloc (.cells (bytesRow s (grownCap w5 s.size 0 5)) 5 ((bytesRow s (grownCap w5 s.size 0 5)).size, (bytesRow s (grownCap w5 s.size 0 5)).size + 1))).drew from dr (HB5.out.alloc h55 _) _)
              have HBY := Lib.hid (show ∀ (j : Nat) (u : UInt8), (mayL x p)[j]? = some u → (w5.alloc (.cells (bytesRow s (grownCap w5 s.size 0 5)) 5 ((bytesRow s (grownCap w5 s.size 0 5)).size, (bytesRow s (grownCap w5 s.size 0 5)).size + 1))).drew.cell? ⟨w5.heap.size, j, none⟩ = some (.int .u8 (u.toNat : Int)) from fun j u hu => by
                exact bytes_cell (by rw [HSL.out]; exact hu))
              have hg6 : w5.heap.size < (w5.alloc (.cells (bytesRow s (grownCap w5 s.size 0 5)) 5 ((bytesRow s (grownCap w5 s.size 0 5)).size, (bytesRow s (grownCap w5 s.size 0 5)).size + 1))).drew.heap.size := by simp
              generalize (w5.alloc (.cells (bytesRow s (grownCap w5 s.size 0 5)) 5 ((bytesRow s (grownCap w5 s.size 0 5)).size, (bytesRow s (grownCap w5 s.size 0 5)).size + 1))).drew = w6 at *
              have HNS := Lib.hid (show s.size = (mayL x p).length by rw [← HSL.out]; rfl)
              generalize w5.heap.size = g5 at *
              generalize grownCap w5 s.size 0 5 = c5 at *
              generalize s.size = ns at *
              have h66 : w3.heap.size ≤ w6.heap.size := HB6.out.size
              go_loopw [9, 58] (fun ok i wo => ∃ (j : Nat) (r : Bool), ok = .bool r ∧ i = .int .i64 (j : Int) ∧ j ≤ ns ∧ Hid (r = ((mayL x p).take j).any (fun b => b == famU y.kind)) ∧ Hid (Below w6.heap.size w6 wo)) (fun _ i _ => ns - (intOf i).toNat)
              case atStart => exact ⟨0, false, rfl, rfl, Nat.zero_le _, Lib.hid rfl, Lib.hid (Below.refl _ _)⟩
              case round =>
                obtain ⟨j, r, rfl, rfl, hj, HRR, HB7⟩ := hrel
                have HB8 := Lib.hid (HB3.out.trans ((HB6.out.trans (HB7.out.mono h66)).mono hw3))
                by_cases hjn : (j : Int) < (ns : Int)
                · obtain ⟨u, hu⟩ : ∃ u, (mayL x p)[j]? = some u := ⟨_, List.getElem?_eq_getElem (by have := HNS.out; omega)⟩
                  have v0 := (HB7.out.cell (p := ⟨g5, j, none⟩) hg6).trans (HBY.out j u hu)
                  have v1 := HD0.out _ HB8.out
                  have HNX := Lib.hid (show ((mayL x p).take (j + 1)).any (fun b => b == famU y.kind) = (((mayL x p).take j).any (fun b => b == famU y.kind) || (u == famU y.kind)) by
                    rw [List.take_add_one, hu, List.any_append]
                    simp)
                  clear hu
                  have hqN : (q : Int) < (N : Int) := by omega
                  cases r with
                  | true =>
                    have HR2 := Lib.hid (show true = ((mayL x p).take (j + 1)).any (fun b => b == famU y.kind) by rw [HNX.out, ← HRR.out]; rfl)
                    go_wp2_with fail
                    go_roundw
                    case rel => exact ⟨j + 1, true, rfl, by simp, by omega, HR2, HB7⟩
                    case measure => simp [intOf]; omega
                  | false =>
                    go_wp2_with fail
                    refine Calls.mono (family_any y.kind _) ?_
                    rintro e w9 ⟨rfl, rfl⟩
                    have HR2 := Lib.hid (show ((u.toNat : Int) == ((famU y.kind).toNat : Int)) = ((mayL x p).take (j + 1)).any (fun b => b == famU y.kind) by
                      rw [HNX.out, ← HRR.out, Bool.false_or, Bool.eq_iff_iff, beq_iff_eq, beq_iff_eq]
                      constructor
                      · intro h
                        exact UInt8.toNat_inj.1 (by omega)
                      · intro h
                        rw [h])
                    go_wp2_with fail
                    exact ⟨⟨j + 1, _, rfl, by simp, by omega, HR2, HB7⟩, by simp [intOf]; omega⟩
                · have hjl : j = ns := by omega
                  subst hjl
                  have HOK := Lib.hid (show r = kidN x p y.kind by
                    rw [HRR.out, List.take_of_length_le (by have := HNS.out; omega)]
                    exact HKF.out)
                  cases r with
                  | false =>
                    have HNL := Lib.hid (not_laid (by have := HN.out; omega) (show startOf T k = none by rw [← HBK.out]; exact backK_fam HZ.out HY.out HOK.out.symm))
                    clear hjn hj
                    go_wp2_with fail
                    go_ret
                    exact LdR.no HNL.out HB8.out
                  | true =>
                    have hlk : (Instr.lookup 56 (.map (some w.heap.size)) (.int .i64 (q : Int)) false).run Tryz.prog wr = .ok (.int .i64 ((svN T q : Nat) : Int)) wr := ((HM3.out.below HB6.out (by omega)).below HB7.out (by omega)).lookup1_ok Tryz.underlying56 Tryz.underlying3 (metT_some T k q hqk)
                    have HBN := Lib.hid (show backK T (startOf T) x p (svN T q) = startOf T k by rw [← HBK.out]; exact (backK_mk HZ.out HY.out HOK.out.symm HSV.out).symm)
                    have hsq : svN T q ≤ q := startOf_le q _ HSV.out
                    generalize svN T q = sv at *
                    clear hjn hj
                    go_wp2_with fail
                    go_roundw
                    case rel => exact ⟨p, sv, (p : Int) - 1, rfl, by simp, Lib.hid (by omega), by omega, by omega, by omega, HBN, Lib.hid (HB6.out.trans (HB7.out.mono h66))⟩
                    case measure => simp [intOf]
            · have HNL := Lib.hid (not_laid (by have := HN.out; omega) (show startOf T k = none by rw [← HBK.out]; exact backK_bad HZ.out hzz))
              by_cases hz1 : z = (nx : Int) - 1
              · have hn0 : nx = 0 := by omega
                subst hn0
                have hz2 : z = -1 := by omega
                subst hz2
                clear hzz hz1 hwx
                go_wp2_with fail
                go_ret
                exact LdR.no HNL.out HBW.out
              · have hz2 : (z != (nx : Int) - 1) = true := by simpa using hz1
                clear hzz hz1
                go_wp2_with fail
                go_ret
                exact LdR.no HNL.out HBW.out
          · have hj2 : j = -1 := by omega
            subst hj2
            have hm0 : m = 0 := by have := HJ.out; omega
            subst hm0
            have HSK := Lib.hid (show startOf T k = some nx from HBK.out.symm)
            have HMQ := Lib.hid (HM3.out.below HBQ.out (by omega))
            clear hj1 hj0
            go_wp2_with (at_mapUpdate; refine wpList_update_i rfl _ _ _ 56 rfl 3 3 .i64 Tryz.underlying56 Tryz.underlying3 w.heap.size _ rfl HMQ.out (k : Int) (.int .i64 (nx : Int)) rfl rfl ?_; intro w5 hm5 hg5)
            have HM5 := Lib.hid (show MapIs w5 w.heap.size (metT T (k + 1)) by
              rw [getM_setM_none (metT_none T k k (Nat.le_refl _))] at hm5
              rw [metT_succ, show svN T k = nx from by unfold svN; rw [HSK.out]; rfl]
              exact hm5)
            have HB5 := Lib.hid (HBW.out.grown hg5 (by omega) (fun q hq => by injection hq with hq; omega))
            clear hm5 hg5
            go_roundw
            case rel => exact ⟨k + 1, by simp, by omega, Lib.hid (allN_succ HAN.out HSK.out), HM5, HB5⟩
            case measure => simp [intOf]; omega
    · have hkN : k = N := by omega
      subst hkN
      clear hlt hk
      by_cases h0 : 0 < (k : Int)
      · obtain ⟨m, rfl⟩ : ∃ m, k = m + 1 := ⟨k - 1, by omega⟩
        obtain ⟨b, off, cs, x, rfl, hb, hx, hrd, hcell⟩ := Shp.elem HR.out HA.out (show m < T.length by have := HN.out; omega) rfl
        obtain ⟨A4, c4, rfl, q0, q3, r4, l4, m4, n4, b4⟩ := ND.elim hrd
        have e0 := (HB.out.cell (p := ⟨b, off + m * ND.sh.size + 0, none⟩) hb).trans (hcell 0 _ rfl)
        have hsz : ND.sh.size = 5 := rfl
        rw [hsz] at e0
        simp only [Nat.add_zero] at e0
        have HLI := Lib.hid (laidT_iff HN.out.symm hx HAN.out)
        have hlk : (Instr.lookup 56 (.map (some w.heap.size)) (.int .i64 (m : Int)) false).run Tryz.prog wr = .ok (.int .i64 ((svN T m : Nat) : Int)) wr := HM.out.lookup1_ok Tryz.underlying56 Tryz.underlying3 (metT_some T (m + 1) m (by omega))
        have hwm : wrap64 (((m + 1 : Nat) : Int) - 1) = (m : Int) := by unfold RowKit.wrap64; omega
        clear hsz hcell hx hrd r4 q0 q3 b4 n4 l4 m4
        generalize svN T m = sv at *
        by_cases hk1 : x.kind = 1
        · by_cases hs0 : sv = 0
          · have HT := Lib.hid (HLI.out.2 ⟨hk1, hs0⟩)
            rw [hk1] at e0
            subst hs0
            clear hk1
            go_wp2_with fail
            go_ret
            exact LdR.of true ⟨fun _ => HT.out, fun _ => rfl⟩ HB.out
          · have HT := Lib.hid (show ¬ LaidT T from fun h => hs0 (HLI.out.1 h).2)
            have hs1 : ((sv : Int) == 0) = false := by rw [beq_eq_false_iff_ne]; omega
            rw [hk1] at e0
            clear hk1 hs0
            go_wp2_with fail
            go_ret
            exact LdR.no HT.out HB.out
        · have HT := Lib.hid (show ¬ LaidT T from fun h => hk1 (HLI.out.1 h).1)
          have hk2 : (x.kind == 1) = false := by simpa using hk1
          clear hk1
          go_wp2_with fail
          go_ret
          exact LdR.no HT.out HB.out
      · have HT := Lib.hid (show ¬ LaidT T from fun h => by have := h.1; have := HN.out; omega)
        have hk0 : k = 0 := by omega
        subst hk0
        clear h0
        go_wp2_with fail
        go_ret
        exact LdR.no HT.out HB.out
end Go.Proofs.YtkpejdkffkhekaaGreatDoor
