/- PrD: PrD PrE PrF Pr1 PrK Pr5 Pr6 PrG Pr3 Pr2 Pr7 PrL PrM. Conditions: each text's own. -/
import Derived.Test.YtkpejdkffkhekaaGreatDoorPrP
import Derived.Test.YtkpejdkffkhekaaGreatDoorPrW
import Derived.Test.YtkpejdkffkhekaaGreatDoorDecimal
import Derived.Deep.RegionHeld3
import Derived.RegionTactic
import Derived.Deep.RegionLaw
import Derived.Deep.DeepCutAuto
import Derived.Test.YtkpejdkffkhekaaGreatDoorPrJ
import Derived.Test.YtkpejdkffkhekaaGreatDoorPgF
import Derived.Test.YtkpejdkffkhekaaGreatDoorPgI
section
/- The document's printer: the leaves. Conditions: none. -/
set_option maxRecDepth 100000
namespace Go.Proofs.YtkpejdkffkhekaaGreatDoor
open Go.ChangeShapes Go.WideShapes Go.ChangeAt Go.RowKit
def sL (l : List UInt8) : ByteArray := ⟨l.toArray⟩
theorem sL_app (a b : List UInt8) : sL a ++ sL b = sL (a ++ b) := by
  apply ByteArray.ext
  rw [ByteArray.data_append]
  simp [sL]
theorem sL_tx (s : ByteArray) : sL (txB s) = s := by
  apply ByteArray.ext
  simp [sL, txB]
theorem sL_size (l : List UInt8) : (sL l).size = l.length := by
  show l.toArray.size = _
  simp
theorem sL_mk (a : Array UInt8) : (⟨a⟩ : ByteArray) = sL a.toList := by
  apply ByteArray.ext
  simp [sL]
set_option maxHeartbeats 1000000 in
theorem tabs_any (i : Nat) (hi : i ≤ 100000) (w : World) : Calls Tryz.prog 50 #[.int .i64 (i : Int)] w fun e w' => e = .returned (.string (sL (tabL i))) ∧ w' = w := by
  go_enter Tryz.func50, Tryz.ntmps50
  go_wp2_with fail
  go_loopw [0, 3] (fun v s wr => ∃ (j : Nat) (t : ByteArray), v = .int .i64 ((i - j : Nat) : Int) ∧ s = .string t ∧ j ≤ i ∧ t.size ≤ 200000 ∧ Hid (t = sL (tabL j)) ∧ wr = w) (fun v _ _ => (intOf v).toNat)
  case atStart => exact ⟨0, _, rfl, rfl, Nat.zero_le _, by decide, Lib.hid rfl, rfl⟩
  case round =>
    obtain ⟨j, t, rfl, rfl, hj, ht, HT, rfl⟩ := hrel
    by_cases hlt : j < i
    · obtain ⟨r, hr⟩ : ∃ r, i - j = r + 1 := ⟨i - j - 1, by omega⟩
      rw [hr]
      have hrp : (0 : Int) < ((r + 1 : Nat) : Int) := by omega
      have hwr : wrap64 (r : Int) = (r : Int) := by unfold RowKit.wrap64; omega
      have HR := Lib.hid hr
      have hts : t.size = j + 1 := by rw [HT.out, sL_size]; simp [tabL]
      have HN := Lib.hid (show t ++ (⟨#[9]⟩ : ByteArray) = sL (tabL (j + 1)) by
        rw [HT.out, sL_mk, sL_app]
        congr 1
        unfold tabL
        rw [List.replicate_succ']
        rfl)
      have HNS := Lib.hid (show (t ++ (⟨#[9]⟩ : ByteArray)).size ≤ 200000 by rw [ByteArray.size_append, hts]; show j + 1 + 1 ≤ _; omega)
      clear hr hts
      go_wp2_with fail
      go_roundw
      case rel => exact ⟨j + 1, _, by have h9 := HR.out; rw [show i - (j + 1) = r by omega, hwr], rfl, by omega, HNS.out, HN, trivial⟩
      case measure =>
        rw [hwr]
        simp [intOf]
    · obtain rfl : j = i := by omega
      rw [Nat.sub_self]
      go_wp2_with fail
      go_ret
      exact ⟨by rw [← HT.out]; rfl, rfl⟩
theorem wideL_app (a b : List UInt8) : wideL (a ++ b) = wideL a ++ wideL b := by
  induction a with
  | nil => rfl
  | cons c r ih => simp [wideL, ih]
set_option maxHeartbeats 1000000 in
theorem wide_any (s : ByteArray) (hs : s.size ≤ 100000) (w : World) : Calls Tryz.prog 35 #[.string s] w fun e w' => e = .returned (.string (sL (wideL (txB s)))) ∧ w' = w := by
  go_enter Tryz.func35, Tryz.ntmps35
  go_wp2_with fail
  go_loopw [3, 4] (fun v i wr => ∃ (j : Nat) (t : ByteArray), v = .string t ∧ i = .int .i64 (j : Int) ∧ j ≤ s.size ∧ t.size ≤ 2 * j ∧ Hid (t = sL (wideL ((txB s).take j))) ∧ wr = w) (fun _ i _ => s.size - (intOf i).toNat)
  case atStart => exact ⟨0, _, rfl, rfl, Nat.zero_le _, by decide, Lib.hid rfl, rfl⟩
  case round =>
    obtain ⟨j, t, rfl, rfl, hj, ht, HT, rfl⟩ := hrel
    by_cases hlt : j < s.size
    · have hlti : (j : Int) < (s.size : Int) := by omega
      have hexs : (s.extract j (j + 1)).size = 1 := by rw [ByteArray.size_extract]; omega
      have htx : (txB s)[j]? = some s[j] := by
        show s.data.toList[j]? = _
        rw [List.getElem?_eq_getElem (show j < s.data.toList.length from hlt)]
        rfl
      have hexe : s.extract j (j + 1) = sL [s[j]] := by
        apply ByteArray.ext
        apply Array.ext'
        rw [ByteArray.data_extract]
        show (s.data.extract j (j + 1)).toList = [s[j]]
        rw [Array.toList_extract]
        simp only [List.extract_eq_take_drop]
        rw [show j + 1 - j = 1 by omega, List.take_one, List.head?_drop]
        have : s.data.toList[j]? = some s[j] := htx
        rw [this]
        rfl
      have HTK := Lib.hid (show wideL ((txB s).take (j + 1)) = wideL ((txB s).take j) ++ (if s[j] = 44 then [44, 32] else [s[j]]) by
        rw [List.take_add_one, htx, wideL_app]
        simp [wideL])
      by_cases hc : s[j] = 44
      · have hcb : (((s[j]).toNat : Int) == 44) = true := by rw [hc]; rfl
        have HN := Lib.hid (show t ++ s.extract j (j + 1) ++ (⟨#[32]⟩ : ByteArray) = sL (wideL ((txB s).take (j + 1))) by
          rw [HTK.out, HT.out, hexe, sL_mk, sL_app, sL_app, if_pos hc, hc]
          simp)
        have HNS := Lib.hid (show (t ++ s.extract j (j + 1) ++ (⟨#[32]⟩ : ByteArray)).size ≤ 2 * (j + 1) by rw [ByteArray.size_append, ByteArray.size_append, hexs]; show t.size + 1 + 1 ≤ _; omega)
        clear hc htx hexe
        go_wp2_with fail
        go_roundw
        case rel => exact ⟨j + 1, _, rfl, by simp, by omega, HNS.out, HN, trivial⟩
        case measure => simp [intOf]; omega
      · have hcb : (((s[j]).toNat : Int) == 44) = false := by
          rw [beq_eq_false_iff_ne]
          intro h
          exact hc (UInt8.toNat_inj.1 (show (s[j]).toNat = 44 by omega))
        have HN := Lib.hid (show t ++ s.extract j (j + 1) = sL (wideL ((txB s).take (j + 1))) by
          rw [HTK.out, HT.out, hexe, sL_app, if_neg hc])
        have HNS := Lib.hid (show (t ++ s.extract j (j + 1)).size ≤ 2 * (j + 1) by rw [ByteArray.size_append, hexs]; omega)
        clear hc htx hexe
        go_wp2_with fail
        go_roundw
        case rel => exact ⟨j + 1, _, rfl, by simp, by omega, HNS.out, HN, trivial⟩
        case measure => simp [intOf]; omega
    · have hjs : j = s.size := by omega
      subst hjs
      have HF := Lib.hid (show t = sL (wideL (txB s)) by rw [HT.out, List.take_of_length_le (show (txB s).length ≤ s.size from Nat.le_refl _)])
      go_wp2_with fail
      go_ret
      exact ⟨by rw [← HF.out]; rfl, rfl⟩
end Go.Proofs.YtkpejdkffkhekaaGreatDoor
end
section
/- The document's printer: lists of expressions, operands in brackets. Conditions: the nodes ahead are printed right. -/
set_option maxRecDepth 100000
namespace Go.Proofs.YtkpejdkffkhekaaGreatDoor
open Go.ChangeShapes Go.WideShapes Go.ChangeAt Go.RowKit
theorem Ev.nums {w0 : World} {b off c : Nat} {T : List ND} {m : Int} (h : Ev w0 (some ⟨b, off, none⟩) c T m) : ∀ x ∈ T, (-9223372036854775808 ≤ x.num ∧ x.num ≤ 9223372036854775807) := by
  intro x hx
  obtain ⟨q, hq, rfl⟩ := List.mem_iff_getElem.1 hx
  obtain ⟨A4, c4, hnv⟩ := h.node hq
  have : ndT T q = T[q] := by
    unfold ndT
    rw [List.getElem?_eq_getElem hq]
    rfl
  rw [← this]
  exact hnv.nb
theorem pr_bd {T : List ND} (hg : GoodT T) (hb : ∀ x ∈ T, (-9223372036854775808 ≤ x.num ∧ x.num ≤ 9223372036854775807)) {k i : Nat} (hk : k < T.length) (hi : i + k ≤ 9000) : (prN T k i).length ≤ 100000000 := by
  have h1 := pr_len hg hb 9000 k hk i hi
  have h2 := hg.1
  unfold wtN at h1
  have h3 : (k + 1 - svN T k) * (2 * 9000 + 5000) ≤ 4001 * (2 * 9000 + 5000) := Nat.mul_le_mul_right _ (by omega)
  omega
theorem Ev.bd {w0 : World} {b off c : Nat} {T : List ND} {m : Int} (h : Ev w0 (some ⟨b, off, none⟩) c T m) {k i : Nat} (hk : k < T.length) (hi : i + k ≤ 9000) : (prN T k i).length ≤ 100000000 := pr_bd h.good h.nums hk hi
theorem com_bd {l : List (List UInt8)} (h : ∀ a ∈ l, a.length ≤ 100000000) : (comL l).length ≤ l.length * 100000002 := by
  refine Nat.le_trans (comL_len l) ?_
  induction l with
  | nil => exact Nat.zero_le _
  | cons a r ih =>
    have h1 := h a (by simp)
    have h2 := ih (fun x hx => h x (by simp [hx]))
    simp only [List.map_cons, List.sum_cons, List.length_cons]
    omega
section
variable (w0 : World) (b off c : Nat) (T : List ND)
/-- 'exprText' at the node q. -/
def DxC (q : Nat) : Prop := ∀ A4 c4, NodeV w0 b off T q A4 c4 → (isE (ndT T q).kind = true ∨ (ndT T q).kind = 31) → ∀ (d : Nat) (w : World), Below w0.heap.size w0 w → d + q ≤ 9000 →
  Calls Tryz.prog 71 #[trV b off c T, ndW (ndT T q) A4 c4, .int .i64 (d : Int)] w fun e w' => e = .returned (.string (sL (prN T q d))) ∧ Below w.heap.size w w'
end
set_option maxHeartbeats 4000000 in
theorem commas_any {w0 : World} {b off c : Nat} {T : List ND} {m : Int} (hev : Ev w0 (some ⟨b, off, none⟩) c T m) (zs : List Nat) (hz : ∀ q ∈ zs, q < T.length ∧ isE (ndT T q).kind = true ∧ DxC w0 b off c T q) (A5 : Option Addr) (c5 d : Nat) (hd : ∀ q ∈ zs, d + q ≤ 9000)
    (hrow : RdM w0 (· < w0.heap.size) 1 A5 zs.length (zs.map fun (q : Nat) => Value.int .i64 (q : Int))) (hzl : zs.length ≤ 4000) {w : World} (h : Below w0.heap.size w0 w) :
    Calls Tryz.prog 91 #[trV b off c T, .slice A5 zs.length c5, .int .i64 (d : Int)] w fun e w' => e = .returned (.string (sL (comL (zs.map fun q => prN T q d)))) ∧ Below w.heap.size w w' := by
  have HS := Lib.hid h
  have HE := Lib.hid hev
  have HZ := Lib.hid hz
  have HD := Lib.hid hd
  have HR := Lib.hid hrow
  have HBD := Lib.hid (show ∀ j, (comL ((zs.take j).map fun q => prN T q d)).length ≤ 400000008000 from fun j => by
    have h1 := com_bd (l := (zs.take j).map fun q => prN T q d) (fun a ha => by
      obtain ⟨q, hq, rfl⟩ := List.mem_map.1 ha
      have hq2 := List.mem_of_mem_take hq
      exact hev.bd (hz q hq2).1 (hd q hq2))
    have h2 : ((zs.take j).map fun q => prN T q d).length ≤ 4000 := by simp; omega
    have h3 := Nat.mul_le_mul_right 100000002 h2
    omega)
  obtain ⟨n, hn⟩ : ∃ n, n = zs.length := ⟨_, rfl⟩
  rw [← hn] at hzl HR ⊢
  have HN := Lib.hid hn
  clear h hev hz hd hrow hn
  go_enter Tryz.func91, Tryz.ntmps91
  go_wp2_with fail
  go_loopw [7, 12] (fun s v wr => ∃ (j : Nat) (t : ByteArray), s = .string t ∧ v = .int .i64 (j : Int) ∧ j ≤ n ∧ t.size ≤ 400000008000 ∧ Hid (t = sL (comL ((zs.take j).map fun q => prN T q d))) ∧ Hid (Below w.heap.size w wr)) (fun _ v _ => n - (intOf v).toNat)
  case atStart => exact ⟨0, _, rfl, rfl, Nat.zero_le _, by decide, Lib.hid rfl, Lib.hid (Below.refl _ _)⟩
  case round =>
    obtain ⟨j, t, rfl, rfl, hj, ht, HT, HX⟩ := hrel
    by_cases hlt : (j : Int) < (n : Int)
    · have hjz : j < zs.length := by have := HN.out; omega
      obtain ⟨q, hq⟩ : ∃ q, zs[j]? = some q := ⟨_, List.getElem?_eq_getElem hjz⟩
      have hqm : q ∈ zs := List.mem_of_getElem? hq
      obtain ⟨z1, z2, z3⟩ := HZ.out q hqm
      obtain ⟨A4, c4, hnv⟩ := HE.out.node z1
      obtain ⟨b5, o5, rfl, hb5, hcl5⟩ := HR.out.2 (by omega)
      have hbw := HS.out.trans (HX.out.mono HS.out.size)
      have r0 := (hbw.cell (p := ⟨b5, o5 + j, none⟩) hb5).trans (hcl5 j (.int .i64 (q : Int)) (by rw [List.getElem?_map, hq]; rfl))
      obtain ⟨k0, k1, k2, k3, k4⟩ := hnv.cells hbw
      have HTK := Lib.hid (show (zs.take (j + 1)).map (fun q => prN T q d) = (zs.take j).map (fun q => prN T q d) ++ [prN T q d] by rw [List.take_add_one, hq]; simp)
      have hqT : (q : Int) < (T.length : Int) := by omega
      obtain ⟨x, hx⟩ : ∃ x, x = sL (prN T q d) := ⟨_, rfl⟩
      have hxs : x.size ≤ 100000000 := by rw [hx, sL_size]; exact HE.out.bd z1 (HD.out q hqm)
      have HC := Lib.hid (z3 _ _ hnv (.inl z2) d _ hbw (HD.out q hqm))
      rw [← hx] at HC
      have HXX := Lib.hid hx
      clear hq hqm z2 z3 hnv hcl5 hx hbw
      by_cases hj0 : 0 < (j : Int)
      · have HNE := Lib.hid (show (zs.take j).map (fun q => prN T q d) ≠ [] by
          intro e
          have := congrArg List.length e
          simp only [List.length_map, List.length_take, List.length_nil] at this
          omega)
        have HTN := Lib.hid (show t ++ (⟨#[44, 32]⟩ : ByteArray) ++ x = sL (comL ((zs.take (j + 1)).map fun q => prN T q d)) by
          rw [HTK.out, comL_snoc, if_neg HNE.out, HT.out, HXX.out, sL_mk, sL_app, sL_app])
        have HTS := Lib.hid (show (t ++ (⟨#[44, 32]⟩ : ByteArray) ++ x).size ≤ 400000008000 by rw [HTN.out, sL_size]; exact HBD.out _)
        go_wp2_with fail
        refine Calls.mono HC.out ?_
        rintro e w3 ⟨rfl, hb3⟩
        have HX3 := Lib.hid (HX.out.trans (hb3.mono HX.out.size))
        clear hb3 r0 k0 k1 k2 k3 k4
        go_wp2_with fail
        go_roundw
        case rel => exact ⟨j + 1, _, rfl, by simp, by omega, HTS.out, HTN, HX3⟩
        case measure => simp [intOf]; omega
      · have hjz0 : j = 0 := by omega
        subst hjz0
        rw [Nat.add_zero] at r0
        have HTN := Lib.hid (show t ++ x = sL (comL ((zs.take (0 + 1)).map fun q => prN T q d)) by
          rw [HTK.out, HT.out, HXX.out, sL_app]
          simp [comL])
        have HTS := Lib.hid (show (t ++ x).size ≤ 400000008000 by rw [HTN.out, sL_size]; exact HBD.out _)
        clear hj0
        go_wp2_with fail
        refine Calls.mono HC.out ?_
        rintro e w3 ⟨rfl, hb3⟩
        have HX3 := Lib.hid (HX.out.trans (hb3.mono HX.out.size))
        clear hb3 r0 k0 k1 k2 k3 k4
        go_wp2_with fail
        go_roundw
        case rel => exact ⟨0 + 1, _, rfl, by simp, by omega, HTS.out, HTN, HX3⟩
        case measure => simp [intOf]; omega
    · have hjn : j = n := by omega
      have HF := Lib.hid (show t = sL (comL (zs.map fun q => prN T q d)) by rw [HT.out, List.take_of_length_le (by have := HN.out; omega)])
      go_wp2_with fail
      go_ret
      exact ⟨by rw [← HF.out]; rfl, HX.out⟩
set_option maxHeartbeats 4000000 in
theorem bracketed_any {w0 : World} {b off c : Nat} {T : List ND} {m : Int} (hev : Ev w0 (some ⟨b, off, none⟩) c T m) {q : Nat} (hqT : q < T.length) (hk : isE (ndT T q).kind = true) (hdx : DxC w0 b off c T q) (ks : List Int) (hks : ks.length ≤ 2) (b9 o9 c9 d : Nat) (hd : d + q ≤ 9000)
    {w : World} (hb9 : b9 < w.heap.size) (hc9 : ∀ j z, ks[j]? = some z → w.cell? ⟨b9, o9 + j, none⟩ = some (.int .i64 z)) (h : Below w0.heap.size w0 w) :
    Calls Tryz.prog 90 #[trV b off c T, .int .i64 (q : Int), .int .i64 (d : Int), .slice (some ⟨b9, o9, none⟩) ks.length c9] w fun e w' => e = .returned (.string (sL (brL (decide ((ndT T q).kind ∈ ks)) (prN T q d)))) ∧ Below w.heap.size w w' := by
  obtain ⟨A4, c4, hnv⟩ := hev.node hqT
  obtain ⟨k0, k1, k2, k3, k4⟩ := hnv.cells h
  obtain ⟨x, hx⟩ : ∃ x, x = sL (prN T q d) := ⟨_, rfl⟩
  have hxs : x.size ≤ 100000000 := by rw [hx, sL_size]; exact hev.bd hqT hd
  have HC := Lib.hid (hdx _ _ hnv (.inl hk) d _ h hd)
  rw [← hx] at HC
  have HXX := Lib.hid hx
  have HS := Lib.hid h
  have HNV := Lib.hid hnv
  have HC9 := Lib.hid hc9
  obtain ⟨n, hn⟩ : ∃ n, n = ks.length := ⟨_, rfl⟩
  rw [← hn] at hks ⊢
  have HN := Lib.hid hn
  have hqTi : (q : Int) < (T.length : Int) := by omega
  clear h hev hk hdx hc9 hnv hx hn
  go_enter Tryz.func90, Tryz.ntmps90
  go_wp2_with fail
  refine Calls.mono HC.out ?_
  rintro e w1 ⟨rfl, hb1⟩
  have HB1 := Lib.hid hb1
  clear hb1 k0 k1 k2 k3 k4
  go_wp2_with fail
  go_loopw [21] (fun v wr => ∃ j : Nat, v = .int .i64 (j : Int) ∧ j ≤ n ∧ Hid (∀ i z, i < j → ks[i]? = some z → (ndT T q).kind ≠ z) ∧ wr = w1) (fun v _ => n - (intOf v).toNat)
  case atStart => exact ⟨0, rfl, Nat.zero_le _, Lib.hid (fun i z hi _ => by omega), rfl⟩
  case round =>
    obtain ⟨j, rfl, hj, HNO, rfl⟩ := hrel
    have hbw := HS.out.trans (HB1.out.mono HS.out.size)
    obtain ⟨k0, k1, k2, k3, k4⟩ := HNV.out.cells hbw
    by_cases hlt : (j : Int) < (n : Int)
    · have hjz : j < ks.length := by have := HN.out; omega
      obtain ⟨z, hz⟩ : ∃ z, ks[j]? = some z := ⟨_, List.getElem?_eq_getElem hjz⟩
      have r0 := (HB1.out.cell (p := ⟨b9, o9 + j, none⟩) hb9).trans (HC9.out j z hz)
      have HZ := Lib.hid hz
      clear hz hbw
      by_cases hkz : (ndT T q).kind = z
      · have kb : ((ndT T q).kind == z) = true := by simpa using hkz
        have HV := Lib.hid (show sL (brL (decide ((ndT T q).kind ∈ ks)) (prN T q d)) = (⟨#[40]⟩ : ByteArray) ++ x ++ (⟨#[41]⟩ : ByteArray) by
          rw [decide_eq_true (show (ndT T q).kind ∈ ks by rw [hkz]; exact List.mem_of_getElem? HZ.out), HXX.out, sL_mk, sL_mk, sL_app, sL_app]
          rfl)
        clear hkz
        go_wp2_with fail
        go_ret
        exact ⟨by rw [HV.out]; rfl, HB1.out⟩
      · have kb : ((ndT T q).kind == z) = false := by simpa using hkz
        have HK := Lib.hid hkz
        clear hkz
        go_wp2_with fail
        go_roundw
        case rel =>
          refine ⟨j + 1, by simp, by omega, Lib.hid (fun i z' hi hz' => ?_), trivial⟩
          by_cases hij : i = j
          · subst hij
            have := HZ.out
            rw [this] at hz'
            injection hz' with hz'
            rw [← hz']
            exact HK.out
          · exact HNO.out i z' (by omega) hz'
        case measure => simp [intOf]; omega
    · have HV := Lib.hid (show sL (brL (decide ((ndT T q).kind ∈ ks)) (prN T q d)) = x by
        rw [decide_eq_false (fun hm => by
          obtain ⟨i, hi, e⟩ := List.mem_iff_getElem.1 hm
          exact HNO.out i _ (by have := HN.out; omega) (List.getElem?_eq_getElem hi) e.symm), HXX.out]
        rfl)
      clear hbw
      go_wp2_with fail
      go_ret
      exact ⟨by rw [HV.out]; rfl, HB1.out⟩
end Go.Proofs.YtkpejdkffkhekaaGreatDoor
end
section
/- The document's printer: expressions. Conditions: the nodes ahead are printed right. -/
set_option maxRecDepth 100000
namespace Go.Proofs.YtkpejdkffkhekaaGreatDoor
open Go.ChangeShapes Go.WideShapes Go.ChangeAt Go.RowKit
section
variable (w0 : World) (b off c : Nat) (T : List ND)
/-- 'headText' at the function q. -/
def DhC (q : Nat) : Prop := ∀ A4 c4, NodeV w0 b off T q A4 c4 → ((ndT T q).kind = 2 ∨ (ndT T q).kind = 33) → ∀ (d : Nat) (w : World), Below w0.heap.size w0 w → d + q ≤ 9000 →
  Calls Tryz.prog 20 #[trV b off c T, ndW (ndT T q) A4 c4, .int .i64 (d : Int)] w fun e w' => e = .returned (.string (sL (hdS T (prT T q) (ndT T q) d))) ∧ Below w.heap.size w w'
def DxN (q : Nat) (A4 : Option Addr) (c4 d : Nat) (w : World) : Prop :=
  Calls Tryz.prog 71 #[trV b off c T, ndW (ndT T q) A4 c4, .int .i64 (d : Int)] w fun e w' => e = .returned (.string (sL (prN T q d))) ∧ Below w.heap.size w w'
end
section
variable {w0 w : World} {b off c k c4 d : Nat} {T : List ND} {m : Int} {A4 : Option Addr}
set_option maxHeartbeats 4000000 in
theorem dx_nil (e : (ndT T k).kind = 24) : DxN b off c T k A4 c4 d w := by
  have HTX := Lib.hid (show sL (prN T k d) = ⟨#[110, 105, 108]⟩ by unfold prN prS; simp only [e, Int.reduceEq, if_true, if_false]; rfl)
  unfold DxN ndW
  rw [e, HTX.out]
  clear e HTX
  go_enter Tryz.func71, Tryz.ntmps71
  go_wp2_with fail
  go_ret
  exact ⟨rfl, al _⟩
set_option maxHeartbeats 4000000 in
theorem dx_none (e : (ndT T k).kind = 31) : DxN b off c T k A4 c4 d w := by
  have HTX := Lib.hid (show sL (prN T k d) = ⟨#[]⟩ by unfold prN prS; simp only [e, Int.reduceEq, if_false]; rfl)
  unfold DxN ndW
  rw [e, HTX.out]
  clear e HTX
  go_enter Tryz.func71, Tryz.ntmps71
  go_wp2_with fail
  go_ret
  exact ⟨rfl, al _⟩
set_option maxHeartbeats 4000000 in
theorem dx_name (e : (ndT T k).kind = 25) : DxN b off c T k A4 c4 d w := by
  have HTX := Lib.hid (show sL (prN T k d) = (ndT T k).text by unfold prN prS; simp only [e, Int.reduceEq, if_true, if_false]; exact sL_tx _)
  unfold DxN ndW
  rw [e, HTX.out]
  clear e HTX
  go_enter Tryz.func71, Tryz.ntmps71
  go_wp2_with fail
  go_ret
  exact ⟨rfl, al _⟩
set_option maxHeartbeats 4000000 in
theorem dx_int (hnv : NodeV w0 b off T k A4 c4) (e : (ndT T k).kind = 21) : DxN b off c T k A4 c4 d w := by
  have HTX := Lib.hid (show sL (prN T k d) = decS (ndT T k).num by unfold prN prS; simp only [e, Int.reduceEq, if_true, if_false]; exact sL_tx _)
  have HD := Lib.hid (fun (W : World) => refDecimal_any (ndT T k).num hnv.nb W)
  unfold DxN ndW
  rw [e, HTX.out]
  clear e HTX hnv
  go_enter Tryz.func71, Tryz.ntmps71
  go_wp2_with fail
  refine Calls.mono (HD.out _) ?_
  rintro e w1 ⟨rfl, hb⟩
  have HB := Lib.hid (show Below w.heap.size w w1 from sq (al _) hb)
  clear hb
  go_wp2_with fail
  go_ret
  exact ⟨rfl, HB.out⟩
set_option maxHeartbeats 4000000 in
theorem dx_text (e : (ndT T k).kind = 22) (hq : quoB (ndT T k).text = true) : DxN b off c T k A4 c4 d w := by
  have hq2 : (ndT T k).text.size ≤ 200 ∧ ∃ a, quoL (txB (ndT T k).text) = some a := by
    unfold quoB at hq
    simp only [Bool.and_eq_true, decide_eq_true_eq] at hq
    exact ⟨hq.1, Option.isSome_iff_exists.1 hq.2⟩
  obtain ⟨hs2, qa, hqa⟩ := hq2
  have hqv : quoV (ndT T k).text = .tuple #[.string ⟨(34 :: qa ++ [34]).toArray⟩, .int .i64 0] := quoV_some (by omega) hqa
  have HTX := Lib.hid (show sL (prN T k d) = ⟨(34 :: qa ++ [34]).toArray⟩ by unfold prN prS; simp only [e, Int.reduceEq, if_true, if_false]; rw [hqa]; rfl)
  have HQ := Lib.hid (fun (W : World) => refQuote_any (ndT T k).text (by omega) W)
  rw [hqv] at HQ
  unfold DxN ndW
  rw [e, HTX.out]
  clear e hq hqa hqv hs2 HTX
  go_enter Tryz.func71, Tryz.ntmps71
  go_wp2_with fail
  refine Calls.mono (HQ.out _) ?_
  rintro e w1 ⟨rfl, nn, rfl⟩
  go_wp2_with fail
  go_ret
  exact ⟨rfl, dr (al _) _⟩
set_option maxHeartbeats 4000000 in
theorem dx_bool (hev : Ev w0 (some ⟨b, off, none⟩) c T m) (hnv : NodeV w0 b off T k A4 c4) (e : (ndT T k).kind = 23) : DxN b off c T k A4 c4 d w := by
  have hn : (ndT T k).num = 0 ∨ (ndT T k).num = 1 := by
    have hc := cnt_at hev.good hnv.lt
    unfold cntN at hc
    rw [e] at hc
    simp at hc
    exact hc.2
  unfold DxN ndW
  rcases hn with hn | hn
  · have HTX := Lib.hid (show sL (prN T k d) = ⟨#[102, 97, 108, 115, 101]⟩ by unfold prN prS; simp only [e, hn, Int.reduceEq, if_true, if_false]; rfl)
    rw [e, hn, HTX.out]
    clear e hn HTX hev hnv
    go_enter Tryz.func71, Tryz.ntmps71
    go_wp2_with fail
    go_ret
    exact ⟨rfl, al _⟩
  · have HTX := Lib.hid (show sL (prN T k d) = ⟨#[116, 114, 117, 101]⟩ by unfold prN prS; simp only [e, hn, Int.reduceEq, if_true, if_false]; rfl)
    rw [e, hn, HTX.out]
    clear e hn HTX hev hnv
    go_enter Tryz.func71, Tryz.ntmps71
    go_wp2_with fail
    go_ret
    exact ⟨rfl, al _⟩
set_option maxHeartbeats 4000000 in
theorem dx_lit (hev : Ev w0 (some ⟨b, off, none⟩) c T m) (hdh : DhC w0 b off c T k) (hnv : NodeV w0 b off T k A4 c4) (e : (ndT T k).kind = 33) (hw : Below w0.heap.size w0 w) (hd : d + k ≤ 9000) : DxN b off c T k A4 c4 d w := by
  have HTX := Lib.hid (show prN T k d = [102, 117, 110, 99] ++ hdS T (prT T k) (ndT T k) d by unfold prN prS; simp only [e, Int.reduceEq, if_true, if_false])
  obtain ⟨x, hx⟩ : ∃ x, x = sL (hdS T (prT T k) (ndT T k) d) := ⟨_, rfl⟩
  have hxs : x.size ≤ 100000000 := by
    have h1 := hev.bd hnv.lt hd
    rw [HTX.out, List.length_append] at h1
    rw [hx, sL_size]
    omega
  have HV := Lib.hid (show sL (prN T k d) = (⟨#[102, 117, 110, 99]⟩ : ByteArray) ++ x by rw [HTX.out, hx, sL_mk, sL_app])
  have HC := Lib.hid (fun (W : World) (hW : Below w0.heap.size w0 W) => hdh _ _ hnv (.inr e) d W hW hd)
  rw [← hx] at HC
  have HW := Lib.hid (hw.trans ((al (w := w) (.cells #[.int .i64 33, .string (ndT T k).text, .string (ndT T k).typ, .int .i64 (ndT T k).num, .slice A4 (ndT T k).kids.length c4] 31)).mono hw.size))
  unfold ndW at HC
  unfold DxN ndW
  rw [e] at HC ⊢
  rw [HV.out]
  clear e hdh hnv hw hx hev
  go_enter Tryz.func71, Tryz.ntmps71
  go_wp2_with fail
  refine Calls.mono (HC.out _ HW.out) ?_
  rintro e w1 ⟨rfl, hb⟩
  have HB := Lib.hid (show Below w.heap.size w w1 from sq (al _) hb)
  clear hb
  go_wp2_with fail
  go_ret
  exact ⟨rfl, HB.out⟩
set_option maxHeartbeats 4000000 in
theorem dx_list (hev : Ev w0 (some ⟨b, off, none⟩) c T m) (hex : ∀ q, q < k → DxC w0 b off c T q) (hnv : NodeV w0 b off T k A4 c4) (e : (ndT T k).kind = 32) (hw : Below w0.heap.size w0 w) (hd : d + k ≤ 9000) : DxN b off c T k A4 c4 d w := by
  obtain ⟨zs, hzs2⟩ : ∃ zs, zs = (ndT T k).kids.map Int.toNat := ⟨_, rfl⟩
  have hkT := hnv.lt
  have HZM : ∀ p ∈ zs, p < k ∧ p < T.length ∧ isE (ndT T p).kind = true := fun p hp => by
    rw [hzs2, kids_range] at hp
    obtain ⟨j, hj, rfl⟩ := List.mem_map.1 hp
    obtain ⟨p', _, h2, h3, h4⟩ := kid_at hev.good hkT (List.mem_range.1 hj)
    rw [h2]
    unfold kidN at h4
    rw [e] at h4
    exact ⟨h3, by omega, by simpa using h4⟩
  have hzl : zs.length = (ndT T k).kids.length := by rw [hzs2, List.length_map]
  have HTX := Lib.hid (show prN T k d = [91, 93, 105, 110, 116, 123] ++ comL (zs.map fun p => prN T p d) ++ [125] by
    have hpm : zs.map (fun p => prT T k p d) = zs.map (fun p => prN T p d) := List.map_congr_left fun p hp => prT_kid (HZM p hp).1
    rw [← hpm, hzs2]
    unfold prN prS
    simp only [e, Int.reduceEq, if_true, if_false])
  obtain ⟨x, hx⟩ : ∃ x, x = sL (comL (zs.map fun p => prN T p d)) := ⟨_, rfl⟩
  have hxs : x.size ≤ 100000000 := by
    have h1 := hev.bd hnv.lt hd
    rw [HTX.out, List.length_append, List.length_append] at h1
    rw [hx, sL_size]
    omega
  have HV := Lib.hid (show sL (prN T k d) = (⟨#[91, 93, 105, 110, 116, 123]⟩ : ByteArray) ++ x ++ (⟨#[125]⟩ : ByteArray) by rw [HTX.out, hx, sL_mk, sL_mk, sL_app, sL_app])
  obtain ⟨wb, hwb, hbx, hbl, hbs⟩ := box_new w 32 (ndT T k).num (ndT T k).text (ndT T k).typ (.slice A4 (ndT T k).kids.length c4)
  obtain ⟨b0, b1, b2, b3, b4⟩ := box_cells hbx
  have hkk := commas_any hev zs (fun p hp => ⟨(HZM p hp).2.1, (HZM p hp).2.2, hex p (HZM p hp).1⟩) A4 c4 d (fun p hp => by have := (HZM p hp).1; omega) (by rw [hzl, hzs2, ← ints_nat (kids_pos hev.good hkT)]; exact hnv.row) (by rw [hzl]; exact kids_few hev.good hkT) (hw.trans (hbl.mono hw.size))
  rw [hzl, ← hx] at hkk
  have HKK := Lib.hid hkk
  have HBL := Lib.hid hbl
  unfold DxN ndW
  rw [e, HV.out]
  clear e hw hbx hbl hkk hnv hex hev HZM hzl hzs2 hx
  go_enter Tryz.func71, Tryz.ntmps71
  go_wp2_with fail
  clear hwb
  refine Calls.mono HKK.out ?_
  rintro e w1 ⟨rfl, hb⟩
  have HB := Lib.hid (show Below w.heap.size w w1 from sq HBL.out hb)
  clear hb b0 b1 b2 b3 b4
  go_wp2_with fail
  go_ret
  exact ⟨rfl, HB.out⟩
end
end Go.Proofs.YtkpejdkffkhekaaGreatDoor
end
section
/- The document's printer: expressions with operands. Conditions: the nodes ahead are printed right. -/
set_option maxRecDepth 100000
namespace Go.Proofs.YtkpejdkffkhekaaGreatDoor
open Go.ChangeShapes Go.WideShapes Go.ChangeAt Go.RowKit
section
variable {w0 w : World} {b off c k c4 d : Nat} {T : List ND} {m : Int} {A4 : Option Addr}
set_option maxHeartbeats 4000000 in
theorem dx_unary (hev : Ev w0 (some ⟨b, off, none⟩) c T m) (hex : ∀ q, q < k → DxC w0 b off c T q) (hnv : NodeV w0 b off T k A4 c4) (e : (ndT T k).kind = 26) (hw : Below w0.heap.size w0 w) (hd : d + k ≤ 9000) : DxN b off c T k A4 c4 d w := by
  have hkT := hnv.lt
  have hkn : (ndT T k).kids.length = 1 := by
    have hc := cnt_at hev.good hkT
    unfold cntN at hc
    rw [e] at hc
    simp at hc
    omega
  obtain ⟨q, hq, hq2, hqk, hqf⟩ := kid_at hev.good hkT (j := 0) (by omega)
  have hqE : isE (ndT T q).kind = true := by
    unfold kidN at hqf
    rw [e] at hqf
    simpa using hqf
  have HTX := Lib.hid (show prN T k d = txB (ndT T k).text ++ brL (decide ((ndT T q).kind ∈ [27])) (prN T q d) by
    rw [← prT_kid hqk, ← hq2]
    unfold prN prS
    simp [e])
  obtain ⟨x, hx⟩ : ∃ x, x = sL (brL (decide ((ndT T q).kind ∈ [27])) (prN T q d)) := ⟨_, rfl⟩
  have hxs : x.size ≤ 100000002 := by
    rw [hx, sL_size]
    have h1 := hev.bd (show q < T.length by omega) (show d + q ≤ 9000 by omega)
    have h2 := br_len (decide ((ndT T q).kind ∈ [27])) (prN T q d)
    omega
  have HV := Lib.hid (show sL (prN T k d) = (ndT T k).text ++ x by rw [HTX.out, hx, ← sL_app, sL_tx])
  have htx := (rg_size (good_at hev.good hkT)).1
  obtain ⟨b5, o5, rfl, _, hb5, _⟩ := hnv.kid hw hq
  obtain ⟨wb, hwb, hbx, hbel, hbs⟩ := box_new w 26 (ndT T k).num (ndT T k).text (ndT T k).typ (.slice (some ⟨b5, o5, none⟩) 1 c4)
  obtain ⟨b0, b1, b2, b3, b4⟩ := box_cells hbx
  have HW0 := Lib.hid (hw.trans (hbel.mono hw.size))
  obtain ⟨_, _, e1, _, _, z0⟩ := hnv.kid HW0.out hq
  injection e1 with e1
  injection e1 with e1 e2
  subst e1 e2
  rw [Nat.add_zero] at z0
  have HBR := Lib.hid (fun (W : World) (hW : Below wb.heap.size wb W) (b9 : Nat) (h9 : b9 < W.heap.size) (hc : W.cell? ⟨b9, 0, none⟩ = some (.int .i64 27)) => bracketed_any hev (show q < T.length by omega) hqE (hex q hqk) [27] (by simp) b9 0 1 d (by omega) h9 (fun j z hz => by
    cases j with
    | zero => simp at hz; subst hz; exact hc
    | succ j => simp at hz) (HW0.out.trans (hW.mono HW0.out.size)))
  rw [← hx] at HBR
  have H9 := Lib.hid (HBR.out (wb.alloc (.cells #[.int .i64 27] 3)).drew (dr (al _) 1) wb.heap.size (by simp) (by rw [Lib.cell_of_heap (show (wb.alloc (.cells #[.int .i64 27] 3)).drew.heap[wb.heap.size]? = some (.cells #[.int .i64 27] 3 (0, 0)) from heap_alloc_new wb _)]; rfl))
  simp only [List.length_cons, List.length_nil, Nat.zero_add] at H9
  rw [hbs] at H9
  have hsw : b5 < wb.heap.size := Nat.lt_of_lt_of_le hb5 HW0.out.size
  have HF := Lib.hid (fun (w1 : World) (h : Below (wb.alloc (.cells #[.int .i64 27] 3)).drew.heap.size (wb.alloc (.cells #[.int .i64 27] 3)).drew w1) => show (w1.cell? ⟨w.heap.size, 1, none⟩ = some (.string (ndT T k).text) ∧ w1.cell? ⟨w.heap.size, 4, none⟩ = some (.slice (some ⟨b5, o5, none⟩) 1 c4) ∧ w1.cell? ⟨b5, o5, none⟩ = some (.int .i64 (q : Int))) ∧ Below w.heap.size w w1 from by
    have hb : Below wb.heap.size wb w1 := (dr (al (w := wb) (.cells #[.int .i64 27] 3)) 1).trans (h.mono (by simp))
    exact ⟨⟨(hb.cell (p := ⟨w.heap.size, 1, none⟩) (by show w.heap.size < _; omega)).trans b1, (hb.cell (p := ⟨w.heap.size, 4, none⟩) (by show w.heap.size < _; omega)).trans b4, (hb.cell (p := ⟨b5, o5, none⟩) hsw).trans z0⟩, hbel.trans (hb.mono hbel.size)⟩)
  have HBL := Lib.hid hbel
  have hne1 : w.heap.size ≠ wb.heap.size := by omega
  have hne2 : wb.heap.size ≠ w.heap.size := by omega
  have hne3 : b5 ≠ wb.heap.size := by omega
  have hne4 : wb.heap.size ≠ b5 := by omega
  have n1 : ¬ 9223372036854775807 < (ndT T k).text.size + x.size := by omega
  unfold DxN ndW
  rw [e, hkn, HV.out]
  clear e hex hnv hw hx hev hbx hbel hq hq2 hqk hqf hqE hkn
  go_enter Tryz.func71, Tryz.ntmps71
  go_wp2_with fail
  clear hwb
  go_region_held3 (fun W => W.cell? ⟨w.heap.size, 1, none⟩ = some (.string (ndT T k).text) ∧ W.cell? ⟨w.heap.size, 4, none⟩ = some (.slice (some ⟨b5, o5, none⟩) 1 c4) ∧ W.cell? ⟨b5, o5, none⟩ = some (.int .i64 (q : Int))) (go_keep) ((go_at_call 90; refine Calls.mono H9.out ?_; rintro e w1 ⟨rfl, hb1⟩; obtain ⟨⟨s1, s2, s3⟩, hbf⟩ := HF.out w1 hb1))
  have HB9 := Lib.hid hbf
  clear hb1 hbf s1 s2 s3 b0 b1 b2 b3 b4 z0
  go_wp2_with fail
  go_ret
  exact ⟨rfl, HB9.out⟩
end
end Go.Proofs.YtkpejdkffkhekaaGreatDoor
end
section
/- The printer: all expressions, all statements. Conditions: the tree is a good one. -/
set_option maxRecDepth 100000
namespace Go.Proofs.YtkpejdkffkhekaaGreatDoor
open Go.ChangeShapes Go.WideShapes Go.ChangeAt Go.RowKit
theorem isE_cases {k : Int} (h : isE k = true) : k = 21 ∨ k = 22 ∨ k = 23 ∨ k = 24 ∨ k = 25 ∨ k = 26 ∨ k = 27 ∨ (k = 28 ∨ k = 29 ∨ k = 30) ∨ k = 32 ∨ k = 33 := by
  unfold isE at h
  simp only [decide_eq_true_eq] at h
  omega
theorem quo_at {T : List ND} (hg : GoodT T) {k : Nat} (hk : k < T.length) (e : (ndT T k).kind = 22) : quoB (ndT T k).text = true := by
  have h := good_at hg hk
  unfold rgP at h
  rw [e] at h
  simp at h
  exact h.1.1
section
variable {w0 w : World} {g b off c k c4 d : Nat} {T : List ND} {m : Int} {A4 : Option Addr} {L : List UInt8}
set_option maxHeartbeats 8000000 in
theorem st_6 (hev : Ev w0 (some ⟨b, off, none⟩) c T m) (hnv : NodeV w0 b off T k A4 c4) (e : (ndT T k).kind = 6) (h : Sx w0 g (trV b off c T) (d : Int) L w) (hl : L.length + (prN T k d).length ≤ 1099511627776) : StN w0 g b off c T k A4 c4 d L w := by
  have hkT := hnv.lt
  have HTX := Lib.hid (show prN T k d = [118, 97, 114, 32] ++ txB (ndT T k).text ++ [32] ++ wideL (txB (ndT T k).typ) by
    unfold prN prS
    simp [e])
  have hrg := rg_size (good_at hev.good hkT)
  obtain ⟨xw, hxw⟩ : ∃ x : ByteArray, x = ⟨(wideL (txB (ndT T k).typ)).toArray⟩ := ⟨_, rfl⟩
  have hxs : xw.size = (wideL (txB (ndT T k).typ)).length := by rw [hxw]; show (wideL (txB (ndT T k).typ)).toArray.size = _; simp
  have hwl := wideL_len (txB (ndT T k).typ)
  have htl : (txB (ndT T k).typ).length = (ndT T k).typ.size := rfl
  obtain ⟨wz, hwz, hbx, hbl0, hbs⟩ := box_new w 6 (ndT T k).num (ndT T k).text (ndT T k).typ (.slice A4 (ndT T k).kids.length c4)
  have HSPW := Lib.hid (fun (W : World) (hW : Below wz.heap.size wz W) => spaced_any (ndT T k).typ (by omega) ((((h.bel.trans ((hbl0.trans (hW.mono hbl0.size)).mono h.bel.size)).cell (p := ⟨0, 0, none⟩) hev.pos).trans hev.ml)))
  rw [← hxw] at HSPW
  have HPT := Lib.hid (show txB ((⟨#[118, 97, 114, 32]⟩ : ByteArray) ++ (ndT T k).text ++ ⟨#[32]⟩ ++ xw) = prN T k d by
    rw [HTX.out, hxw]
    unfold txB
    rw [ByteArray.data_append, ByteArray.data_append, ByteArray.data_append]
    simp)
  have HPL := Lib.hid (show ((⟨#[118, 97, 114, 32]⟩ : ByteArray) ++ (ndT T k).text ++ ⟨#[32]⟩ ++ xw).size = (prN T k d).length by rw [← HPT.out]; rfl)
  have HWR := Lib.hid (fun (W : World) (hW : Below wz.heap.size wz W) => wStr ((⟨#[118, 97, 114, 32]⟩ : ByteArray) ++ (ndT T k).text ++ ⟨#[32]⟩ ++ xw) (h.keep (hbl0.trans (hW.mono hbl0.size))) (by rw [HPL.out]; exact hl))
  have HBB := Lib.hid (fun (W : World) (hW : Below wz.heap.size wz W) => (hW.block w.heap.size (by omega)).trans hbx)
  have n1 : ¬ 9223372036854775807 < 4 + (ndT T k).text.size := by omega
  have n2 : ¬ 9223372036854775807 < 4 + (ndT T k).text.size + 1 := by omega
  have n3 : ¬ 9223372036854775807 < 4 + (ndT T k).text.size + 1 + xw.size := by omega
  have hgw := h.lt
  have HBL := Lib.hid hbl0
  obtain ⟨b0, b1, b2, b3, b4⟩ := box_cells hbx
  unfold StN ndW
  rw [e]
  clear h hev hnv e hl hrg hxw hxs hwl htl hbx hbl0
  go_enter Tryz.func46, Tryz.ntmps46
  go_wp2_with fail
  clear hwz
  go_region_held3 (fun W => W.cell? ⟨w.heap.size, 1, none⟩ = some (.string (ndT T k).text) ∧ W.cell? ⟨w.heap.size, 2, none⟩ = some (.string (ndT T k).typ)) (go_keep) (first | ((go_at_call 26); refine Calls.mono (HSPW.out _ (dr (Below.refl _ _) 1)) ?_; rintro e w3 ⟨rfl, hb3⟩; have hb9 : Below wz.heap.size wz w3 := ⟨hb3.os, hb3.tape, hb3.output, hb3.size, hb3.block⟩; have b19 := (box_cells (HBB.out w3 hb9)).2.1; have b29 := (box_cells (HBB.out w3 hb9)).2.2.1) | ((go_at_call 13); refine Calls.mono (HWR.out _ hb9) ?_; rintro e w4 ⟨rfl, h4, hk4, hs4⟩; have b18 := (box_cells (kptBox hk4 (HBB.out w3 hb9) (by omega) (by decide))).2.1; have b28 := (box_cells (kptBox hk4 (HBB.out w3 hb9) (by omega) (by decide))).2.2.1))
  have H4 := Lib.hid (h4.to (L' := L ++ prN T k d) (by rw [HPT.out]))
  have HK4 := Lib.hid ((kptBel (HBL.out.trans (hb9.mono HBL.out.size))).trans hk4)
  have hw4 : w.heap.size ≤ w4.heap.size := by have := hb9.size; omega
  clear h4 hk4 hs4 hb3 hb9 b0 b1 b2 b3 b4 b18 b28 b19 b29
  go_wp2_with fail
  go_end0
  exact ⟨rfl, H4.out, HK4.out, hw4⟩
end
section
variable {w0 : World} {g b off c k : Nat} {T : List ND} {m : Int}
theorem expr_any (hev : Ev w0 (some ⟨b, off, none⟩) c T m) (hex : ∀ q, q < k → ExC w0 g b off c T q) (hbh : BhC w0 g b off c T k) (hsg : SgC w0 g b off c T k) : ExC w0 g b off c T k := by
  intro A4 c4 hnv hk d L w h hd hl
  show ExN w0 g b off c T k A4 c4 d L w
  rcases isE_cases hk with e | e | e | e | e | e | e | e | e | e
  · exact expr_int hnv e h hl
  · exact expr_text e (quo_at hev.good hnv.lt e) h hl
  · exact expr_bool hev hnv e h hl
  · exact expr_nil e h hl
  · exact expr_name e h hl
  · exact expr_unary hev hex hnv e h hd hl
  · exact expr_binary hev hex hnv e h hd hl
  · exact expr_behind hbh hnv e h hd hl
  · exact expr_list hev hex hnv e h hd hl
  · exact expr_lit hsg hnv e h hd hl
theorem st_any (hev : Ev w0 (some ⟨b, off, none⟩) c T m) (hex : ∀ q, q < k → ExC w0 g b off c T q) (hbl : ∀ q, q < k → BlC w0 g b off c T q) (hst : ∀ q, q < k → StC w0 g b off c T q) (hbk : BlC w0 g b off c T k) : StC w0 g b off c T k := by
  intro A4 c4 hnv hk d L w h hd hl
  show StN w0 g b off c T k A4 c4 d L w
  have hc := cnt_at hev.good hnv.lt
  have hk2 : (ndT T k).kind = 5 ∨ (ndT T k).kind = 6 ∨ (ndT T k).kind = 7 ∨ (ndT T k).kind = 8 ∨ (ndT T k).kind = 9 ∨ (ndT T k).kind = 10 ∨ (ndT T k).kind = 11 ∨ (ndT T k).kind = 12 ∨ (ndT T k).kind = 13 ∨ (ndT T k).kind = 14 ∨ (ndT T k).kind = 15 := by omega
  unfold cntN at hc
  rcases hk2 with e | e | e | e | e | e | e | e | e | e | e
  · exact st_5 hbk hnv e h hd hl
  · exact st_6 hev hnv e h hl
  · exact st_7 hev hex hnv e h hd hl
  · exact st_8 hev hex hnv e h hd hl
  · exact st_9 hev hex hnv e h hd hl
  · rw [e] at hc
    simp at hc
    rcases hc with hc | hc
    · exact st_10_2 hev hex hbl hnv e hc h hd hl
    · exact st_10_3 hev hex hbl hst hnv e hc h hd hl
  · rw [e] at hc
    simp at hc
    rcases hc with hc | hc
    · exact st_11_1 hev hbl hnv e hc h hd hl
    · exact st_11_2 hev hex hbl hnv e hc h hd hl
  · exact st_12 hnv e h hl
  · exact st_13 hnv e h hl
  · rw [e] at hc
    simp at hc
    have hc2 : (ndT T k).kids.length = 0 ∨ (ndT T k).kids.length = 1 := by omega
    rcases hc2 with hc | hc
    · exact st_14_0 hnv e hc h hl
    · exact st_14 hev hex hnv e hc h hd hl
  · exact st_15 hev hex hnv e h hd hl
/-- All of the printer, at once. -/
theorem pr_all (hev : Ev w0 (some ⟨b, off, none⟩) c T m) : ∀ k, ExC w0 g b off c T k ∧ StC w0 g b off c T k ∧ BlC w0 g b off c T k ∧ SgC w0 g b off c T k := by
  intro k
  induction k using Nat.strongRecOn with
  | _ k ih =>
    have hex : ∀ q, q < k → ExC w0 g b off c T q := fun q hq => (ih q hq).1
    have hst : ∀ q, q < k → StC w0 g b off c T q := fun q hq => (ih q hq).2.1
    have hbl : ∀ q, q < k → BlC w0 g b off c T q := fun q hq => (ih q hq).2.2.1
    have hbk : BlC w0 g b off c T k := pblock_any hev hst
    have hsg : SgC w0 g b off c T k := sig_any hev hbl
    exact ⟨expr_any hev hex (behind_any hev hex) hsg, st_any hev hex hbl hst hbk, hbk, hsg⟩
end
end Go.Proofs.YtkpejdkffkhekaaGreatDoor
end
section
/- The document's printer: expressions with two operands. Conditions: the nodes ahead are printed right. -/
set_option maxRecDepth 100000
namespace Go.Proofs.YtkpejdkffkhekaaGreatDoor
open Go.ChangeShapes Go.WideShapes Go.ChangeAt Go.RowKit
theorem br_t (l : List UInt8) : sL (brL true l) = (⟨#[40]⟩ : ByteArray) ++ sL l ++ (⟨#[41]⟩ : ByteArray) := by
  show sL ([40] ++ l ++ [41]) = _
  rw [← sL_app, ← sL_app]
  rfl
theorem lv_small (s : List UInt8) : lvN s ≤ 5 := by
  unfold lvN
  (repeat' split) <;> omega
section
variable {w0 w : World} {b off c k c4 d : Nat} {T : List ND} {m : Int} {A4 : Option Addr}
set_option maxHeartbeats 8000000 in
theorem dx_binary (hev : Ev w0 (some ⟨b, off, none⟩) c T m) (hex : ∀ q, q < k → DxC w0 b off c T q) (hnv : NodeV w0 b off T k A4 c4) (e : (ndT T k).kind = 27) (hw : Below w0.heap.size w0 w) (hd : d + k ≤ 9000) : DxN b off c T k A4 c4 d w := by
  have hkT := hnv.lt
  have hk2 : (ndT T k).kids.length = 2 := by
    have hc := cnt_at hev.good hkT
    unfold cntN at hc
    rw [e] at hc
    simpa using hc
  obtain ⟨q, hq, hq2, hqk, hqf⟩ := kid_at hev.good hkT (j := 0) (by omega)
  obtain ⟨p, hp, hp2, hpk, hpf⟩ := kid_at hev.good hkT (j := 1) (by omega)
  obtain ⟨A6, c6, hnq⟩ := hev.node (show q < T.length by omega)
  obtain ⟨A7, c7, hnp⟩ := hev.node (show p < T.length by omega)
  have hqE : isE (ndT T q).kind = true := by
    unfold kidN at hqf
    rw [e] at hqf
    simpa using hqf
  have hpE : isE (ndT T p).kind = true := by
    unfold kidN at hpf
    rw [e] at hpf
    simpa using hpf
  obtain ⟨ba, hba⟩ : ∃ ba, ba = decide ((ndT T q).kind = 27 ∧ lvN (ndT T q).text.toList < lvN (ndT T k).text.toList) := ⟨_, rfl⟩
  obtain ⟨bb, hbb⟩ : ∃ bb, bb = decide ((ndT T p).kind = 27 ∧ lvN (ndT T p).text.toList ≤ lvN (ndT T k).text.toList) := ⟨_, rfl⟩
  have HTX := Lib.hid (show prN T k d = brL ba (prN T q d) ++ [32] ++ txB (ndT T k).text ++ [32] ++ brL bb (prN T p d) by
    rw [hba, hbb, ← prT_kid hqk, ← prT_kid hpk, ← hq2, ← hp2]
    unfold prN prS
    simp [e])
  obtain ⟨x, hx⟩ : ∃ x, x = sL (prN T q d) := ⟨_, rfl⟩
  have hxs : x.size ≤ 100000000 := by rw [hx, sL_size]; exact hev.bd (by omega) (by omega)
  obtain ⟨y, hy⟩ : ∃ y, y = sL (prN T p d) := ⟨_, rfl⟩
  have hys : y.size ≤ 100000000 := by rw [hy, sL_size]; exact hev.bd (by omega) (by omega)
  have HV := Lib.hid (show sL (prN T k d) = (if ba = true then (⟨#[40]⟩ : ByteArray) ++ x ++ (⟨#[41]⟩ : ByteArray) else x) ++ (⟨#[32]⟩ : ByteArray) ++ (ndT T k).text ++ (⟨#[32]⟩ : ByteArray) ++ (if bb = true then (⟨#[40]⟩ : ByteArray) ++ y ++ (⟨#[41]⟩ : ByteArray) else y) by
    have h1 : ∀ (b : Bool) (l : List UInt8), sL (brL b l) = if b = true then (⟨#[40]⟩ : ByteArray) ++ sL l ++ (⟨#[41]⟩ : ByteArray) else sL l := by
      intro b l
      cases b with
      | false => rfl
      | true => rw [br_t]; rfl
    rw [HTX.out, hx, hy, ← h1, ← h1, ← sL_app, ← sL_app, ← sL_app, ← sL_app, sL_tx]
    rfl)
  have HCQ := Lib.hid (fun (W : World) (hW : Below w0.heap.size w0 W) => hex q hqk _ _ hnq (.inl hqE) d W hW (by omega))
  have HCP := Lib.hid (fun (W : World) (hW : Below w0.heap.size w0 W) => hex p hpk _ _ hnp (.inl hpE) d W hW (by omega))
  rw [← hx] at HCQ
  rw [← hy] at HCP
  unfold ndW at HCQ HCP
  have HEX := Lib.hid (fun (v : Value) (s : ByteArray) (W : World) (hW : Below w0.heap.size w0 W) (h : (v = .agg #[.int .i64 (ndT T q).kind, .string (ndT T q).text, .string (ndT T q).typ, .int .i64 (ndT T q).num, .slice A6 (ndT T q).kids.length c6] ∧ s = x) ∨ (v = .agg #[.int .i64 (ndT T p).kind, .string (ndT T p).text, .string (ndT T p).typ, .int .i64 (ndT T p).num, .slice A7 (ndT T p).kids.length c7] ∧ s = y)) => show Calls Tryz.prog 71 #[trV b off c T, v, .int .i64 (d : Int)] W (fun e w' => e = .returned (.string s) ∧ Below W.heap.size W w') from by
    rcases h with ⟨rfl, rfl⟩ | ⟨rfl, rfl⟩
    · exact HCQ.out W hW
    · exact HCP.out W hW)
  have htx := (rg_size (good_at hev.good hkT)).1
  obtain ⟨b5, o5, rfl, _, hb5, _⟩ := hnv.kid hw hq
  obtain ⟨wb, hwb, hbx, hbel, hbs⟩ := box_new w 27 (ndT T k).num (ndT T k).text (ndT T k).typ (.slice (some ⟨b5, o5, none⟩) 2 c4)
  have HW0 := Lib.hid (hw.trans (hbel.mono hw.size))
  obtain ⟨_, _, e1, _, _, y0⟩ := hnv.kid HW0.out hq
  injection e1 with e1
  injection e1 with e1 e2
  subst e1 e2
  obtain ⟨_, _, e1, _, _, y1⟩ := hnv.kid HW0.out hp
  injection e1 with e1
  injection e1 with e1 e2
  subst e1 e2
  rw [Nat.add_zero] at y0
  obtain ⟨v0, v1, v2, v3, v4⟩ := hnq.cells HW0.out
  obtain ⟨u0, u1, u2, u3, u4⟩ := hnp.cells HW0.out
  have b0 := (box_cells hbx).1
  have b4 := (box_cells hbx).2.2.2.2
  have HBX := Lib.hid hbx
  have HBL := Lib.hid hbel
  have HBA := Lib.hid hba
  have HBB := Lib.hid hbb
  have hqT : (q : Int) < (T.length : Int) := by omega
  have hpT : (p : Int) < (T.length : Int) := by omega
  have hbw : b < wb.heap.size := Nat.lt_of_lt_of_le hnq.hb HW0.out.size
  have hb5w : b5 < wb.heap.size := Nat.lt_of_lt_of_le hb5 HW0.out.size
  unfold DxN ndW
  rw [e, hk2]
  clear e hex hnv hw hx hy hev hbx hbel hq hq2 hqf hqE hp hp2 hpf hpE hk2 hba hbb hnq hnp HCQ HCP
  have hn00 : b ≠ wb.heap.size := by omega
  have hm00 : wb.heap.size ≠ b := by omega
  have hn01 : b ≠ wb.heap.size + 1 := by omega
  have hm01 : wb.heap.size + 1 ≠ b := by omega
  have hn10 : b5 ≠ wb.heap.size := by omega
  have hm10 : wb.heap.size ≠ b5 := by omega
  have hn11 : b5 ≠ wb.heap.size + 1 := by omega
  have hm11 : wb.heap.size + 1 ≠ b5 := by omega
  have hn20 : w.heap.size ≠ wb.heap.size := by omega
  have hm20 : wb.heap.size ≠ w.heap.size := by omega
  have hn21 : w.heap.size ≠ wb.heap.size + 1 := by omega
  have hm21 : wb.heap.size + 1 ≠ w.heap.size := by omega
  go_enter Tryz.func71, Tryz.ntmps71
  go_upto_region 20 with (fail)
  go_cut [9, 10] (fun s9 s10 wx => ∃ n9 n10 : Nat, s9 = .pointer (some ⟨n9, 0, none⟩) ∧ s10 = .pointer (some ⟨n10, 0, none⟩) ∧ Hid (wx.heap[n9]? = some (.cells #[.int .i64 (ndT T q).kind, .string (ndT T q).text, .string (ndT T q).typ, .int .i64 (ndT T q).num, .slice A6 (ndT T q).kids.length c6] 31 (0, 0)) ∧ wx.heap[n10]? = some (.cells #[.int .i64 (ndT T p).kind, .string (ndT T p).text, .string (ndT T p).typ, .int .i64 (ndT T p).num, .slice A7 (ndT T p).kids.length c7] 31 (0, 0)) ∧ Below wb.heap.size wb wx))
  case first =>
    clear hwb
    go_region_held3 (fun W => W.cell? ⟨w.heap.size, 4, none⟩ = some (.slice (some ⟨b5, o5, none⟩) 2 c4) ∧ W.cell? ⟨b5, o5, none⟩ = some (.int .i64 (q : Int)) ∧ W.cell? ⟨b5, o5 + 1, none⟩ = some (.int .i64 (p : Int)) ∧ (W.cell? ⟨b, off + q * 5, none⟩ = some (.int .i64 (ndT T q).kind) ∧ W.cell? ⟨b, off + q * 5 + 1, none⟩ = some (.string (ndT T q).text) ∧ W.cell? ⟨b, off + q * 5 + 2, none⟩ = some (.string (ndT T q).typ) ∧ W.cell? ⟨b, off + q * 5 + 3, none⟩ = some (.int .i64 (ndT T q).num) ∧ W.cell? ⟨b, off + q * 5 + 4, none⟩ = some (.slice A6 (ndT T q).kids.length c6)) ∧ W.cell? ⟨b, off + p * 5, none⟩ = some (.int .i64 (ndT T p).kind) ∧ W.cell? ⟨b, off + p * 5 + 1, none⟩ = some (.string (ndT T p).text) ∧ W.cell? ⟨b, off + p * 5 + 2, none⟩ = some (.string (ndT T p).typ) ∧ W.cell? ⟨b, off + p * 5 + 3, none⟩ = some (.int .i64 (ndT T p).num) ∧ W.cell? ⟨b, off + p * 5 + 4, none⟩ = some (.slice A7 (ndT T p).kids.length c7)) (go_keep) (fail)
    all_goals (
      generalize hwz : ((wb.alloc _).alloc _).drew = wz
      obtain ⟨hzX, hzY, hzb, hzs⟩ := box_pair hbs hwz
      clear hwz v0 v1 v2 v3 v4 u0 u1 u2 u3 u4 b0 b4 y0 y1
      first
      | (have HREL := Lib.hid (show wz.heap[w.heap.size + 1]? = some (.cells #[.int .i64 (ndT T q).kind, .string (ndT T q).text, .string (ndT T q).typ, .int .i64 (ndT T q).num, .slice A6 (ndT T q).kids.length c6] 31 (0, 0)) ∧ wz.heap[w.heap.size + 1 + 1]? = some (.cells #[.int .i64 (ndT T p).kind, .string (ndT T p).text, .string (ndT T p).typ, .int .i64 (ndT T p).num, .slice A7 (ndT T p).kids.length c7] 31 (0, 0)) ∧ Below wb.heap.size wb wz from ⟨hzX, hzY, hzb⟩)
         clear hzX hzY hzb
         go_wp2_with fail
         go_meet
         exact ⟨w.heap.size + 1, w.heap.size + 1 + 1, rfl, rfl, HREL⟩)
      | (have HREL := Lib.hid (show wz.heap[w.heap.size + 1 + 1]? = some (.cells #[.int .i64 (ndT T q).kind, .string (ndT T q).text, .string (ndT T q).typ, .int .i64 (ndT T q).num, .slice A6 (ndT T q).kids.length c6] 31 (0, 0)) ∧ wz.heap[w.heap.size + 1]? = some (.cells #[.int .i64 (ndT T p).kind, .string (ndT T p).text, .string (ndT T p).typ, .int .i64 (ndT T p).num, .slice A7 (ndT T p).kids.length c7] 31 (0, 0)) ∧ Below wb.heap.size wb wz from ⟨hzY, hzX, hzb⟩)
         clear hzX hzY hzb
         go_wp2_with fail
         go_meet
         exact ⟨w.heap.size + 1 + 1, w.heap.size + 1, rfl, rfl, HREL⟩))
  case rest =>
    obtain ⟨n9, n10, rfl, rfl, HR⟩ := hcut
    clear hwb v0 v1 v2 v3 v4 u0 u1 u2 u3 u4 b0 b4 y0 y1 hn00 hm00 hn01 hm01 hn10 hm10 hn11 hm11 hn20 hm20 hn21 hm21
    rename_i wc0
    generalize wc = wx at *
    obtain ⟨z90, z91, z92, z93, z94⟩ := box_cells HR.out.1
    obtain ⟨z10, z11, z12, z13, z14⟩ := box_cells HR.out.2.1
    have hn9 : n9 < wx.heap.size := (Array.getElem?_eq_some_iff.1 HR.out.1).1
    have hn10 : n10 < wx.heap.size := (Array.getElem?_eq_some_iff.1 HR.out.2.1).1
    have zb1 := (box_cells ((HR.out.2.2.block w.heap.size (by omega)).trans HBX.out)).2.1
    have hnw : w.heap.size < wx.heap.size := Nat.lt_of_lt_of_le (show w.heap.size < wb.heap.size by omega) HR.out.2.2.size
    have HWX := Lib.hid (HW0.out.trans (HR.out.2.2.mono HW0.out.size))
    have f90 := fun Z : WB wx => (Z.bel.cell (p := ⟨n9, 0, none⟩) (by show n9 < _; exact hn9)).trans z90
    have f91 := fun Z : WB wx => (Z.bel.cell (p := ⟨n9, 1, none⟩) (by show n9 < _; exact hn9)).trans z91
    have f92 := fun Z : WB wx => (Z.bel.cell (p := ⟨n9, 2, none⟩) (by show n9 < _; exact hn9)).trans z92
    have f93 := fun Z : WB wx => (Z.bel.cell (p := ⟨n9, 3, none⟩) (by show n9 < _; exact hn9)).trans z93
    have f94 := fun Z : WB wx => (Z.bel.cell (p := ⟨n9, 4, none⟩) (by show n9 < _; exact hn9)).trans z94
    have f10 := fun Z : WB wx => (Z.bel.cell (p := ⟨n10, 0, none⟩) (by show n10 < _; exact hn10)).trans z10
    have f11 := fun Z : WB wx => (Z.bel.cell (p := ⟨n10, 1, none⟩) (by show n10 < _; exact hn10)).trans z11
    have f12 := fun Z : WB wx => (Z.bel.cell (p := ⟨n10, 2, none⟩) (by show n10 < _; exact hn10)).trans z12
    have f13 := fun Z : WB wx => (Z.bel.cell (p := ⟨n10, 3, none⟩) (by show n10 < _; exact hn10)).trans z13
    have f14 := fun Z : WB wx => (Z.bel.cell (p := ⟨n10, 4, none⟩) (by show n10 < _; exact hn10)).trans z14
    go_wp2_with fail
    (refine wp_region_wb (by kernel_rfl) (by kernel_rfl) ?_; (repeat (first | go_big_quiet_step ((go_at_call 71; exact quietB (HEX.out _ _ _ (HWX.out.trans ((WB.bel _).mono HWX.out.size)) (by first | exact .inl ⟨rfl, rfl⟩ | exact .inr ⟨rfl, rfl⟩)))) | quiet_step ((go_at_call 71; exact quietB (HEX.out _ _ _ (HWX.out.trans ((WB.bel _).mono HWX.out.size)) (by first | exact .inl ⟨rfl, rfl⟩ | exact .inr ⟨rfl, rfl⟩)))))); refine wpQuiet_nil ?_; intro _ hw'; obtain ⟨⟨wq, hbq⟩, hw''⟩ := hw'; subst hw''; (try simp only))
    rename_i wv
    have HB1 := Lib.hid hbq
    clear f90 f10 f91 f11 f92 f12 f93 f13 f94 f14
    have g0 := (hbq.cell (p := ⟨n9, 0, none⟩) hn9).trans z90
    have g1 := (hbq.cell (p := ⟨n9, 1, none⟩) hn9).trans z91
    have h0 := (hbq.cell (p := ⟨n10, 0, none⟩) hn10).trans z10
    have h1 := (hbq.cell (p := ⟨n10, 1, none⟩) hn10).trans z11
    have kb1 := (hbq.cell (p := ⟨w.heap.size, 1, none⟩) hnw).trans zb1
    clear hbq z90 z91 z92 z93 z94 z10 z11 z12 z13 z14 zb1
    have hn9v : n9 < wv.heap.size := Nat.lt_of_lt_of_le hn9 HB1.out.size
    have hn10v : n10 < wv.heap.size := Nat.lt_of_lt_of_le hn10 HB1.out.size
    have hnwv : w.heap.size < wv.heap.size := Nat.lt_of_lt_of_le hnw HB1.out.size
    go_upto_region 22 with (fail)
    go_cut [91] (fun s91 wx => s91 = .bool ba ∧ Hid (Below wv.heap.size wv wx))
    case first =>
      rcases (Decidable.em ((ndT T q).kind = 27)).symm with hno | hk27
      · have hbv : ba = false := by rw [HBA.out]; exact decide_eq_false (fun h => hno h.1)
        have kbf : ((ndT T q).kind == 27) = false := by simpa using hno
        have q0 := fun Z : WB wv => (Z.bel.cell (p := ⟨n9, 0, none⟩) hn9v).trans g0
        have HBV := Lib.hid hbv
        clear hbv hno
        go_wp2_with fail
        (refine wp_region_wb (by kernel_rfl) (by kernel_rfl) ?_; (repeat (first | go_big_quiet_step ((go_at_call 33; exact quietB (binds_any _ _))) | quiet_step ((go_at_call 33; exact quietB (binds_any _ _))))); refine wpQuiet_nil ?_; intro _ hw'; obtain ⟨⟨wq, hbq⟩, hw''⟩ := hw'; subst hw''; (try simp only))
        have HBR := Lib.hid hbq
        clear hbq q0
        go_wp2_with fail
        go_meet
        exact ⟨by rw [HBV.out], HBR⟩
      · have hbv : ba = decide (lvN (ndT T q).text.toList < lvN (ndT T k).text.toList) := by rw [HBA.out]; simp [hk27]
        have q0 := fun Z : WB wv => (Z.bel.cell (p := ⟨n9, 0, none⟩) hn9v).trans g0
        have q1 := fun Z : WB wv => (Z.bel.cell (p := ⟨n9, 1, none⟩) hn9v).trans g1
        have q2 := fun Z : WB wv => (Z.bel.cell (p := ⟨w.heap.size, 1, none⟩) hnwv).trans kb1
        rw [hk27] at q0
        have HBV := Lib.hid hbv
        skip
        clear hbv
        go_wp2_with fail
        (refine wp_region_wb (by kernel_rfl) (by kernel_rfl) ?_; (repeat (first | go_big_quiet_step ((go_at_call 33; exact quietB (binds_any _ _))) | quiet_step ((go_at_call 33; exact quietB (binds_any _ _))))); refine wpQuiet_nil ?_; intro _ hw'; obtain ⟨⟨wq, hbq⟩, hw''⟩ := hw'; subst hw''; (try simp only))
        have HBR := Lib.hid hbq
        clear hbq q0 q1 q2
        go_wp2_with fail
        go_meet
        exact ⟨by rw [HBV.out], HBR⟩
    case rest =>
      obtain ⟨rfl, HB2⟩ := hcut
      generalize wc = wu at *
      have i0 := (HB2.out.cell (p := ⟨n10, 0, none⟩) hn10v).trans h0
      have i1 := (HB2.out.cell (p := ⟨n10, 1, none⟩) hn10v).trans h1
      have ib1 := (HB2.out.cell (p := ⟨w.heap.size, 1, none⟩) hnwv).trans kb1
      clear g0 g1 h0 h1 kb1
      have hn9u : n9 < wu.heap.size := Nat.lt_of_lt_of_le hn9v HB2.out.size
      have hn10u : n10 < wu.heap.size := Nat.lt_of_lt_of_le hn10v HB2.out.size
      have hnwu : w.heap.size < wu.heap.size := Nat.lt_of_lt_of_le hnwv HB2.out.size
      have a1 : ¬ 9223372036854775807 < 1 + x.size := by omega
      have a2 : ¬ 9223372036854775807 < 1 + x.size + 1 := by omega
      have a3 : ¬ 9223372036854775807 < 1 + y.size := by omega
      have a4 : ¬ 9223372036854775807 < 1 + y.size + 1 := by omega
      cases ba with
      | false =>
        go_upto_region 24 with (fail)
        go_cut [107] (fun s107 wx => s107 = .bool bb ∧ Hid (Below wu.heap.size wu wx))
        case first =>
          rcases (Decidable.em ((ndT T p).kind = 27)).symm with hno | hk27
          · have hbv : bb = false := by rw [HBB.out]; exact decide_eq_false (fun h => hno h.1)
            have kbf : ((ndT T p).kind == 27) = false := by simpa using hno
            have q0 := fun Z : WB wu => (Z.bel.cell (p := ⟨n10, 0, none⟩) hn10u).trans i0
            have HBV := Lib.hid hbv
            clear hbv hno
            go_wp2_with fail
            (refine wp_region_wb (by kernel_rfl) (by kernel_rfl) ?_; (repeat (first | go_big_quiet_step ((go_at_call 33; exact quietB (binds_any _ _))) | quiet_step ((go_at_call 33; exact quietB (binds_any _ _))))); refine wpQuiet_nil ?_; intro _ hw'; obtain ⟨⟨wq, hbq⟩, hw''⟩ := hw'; subst hw''; (try simp only))
            have HBR := Lib.hid hbq
            clear hbq q0
            go_wp2_with fail
            go_meet
            exact ⟨by rw [HBV.out], HBR⟩
          · have hbv : bb = decide ((lvN (ndT T p).text.toList : Int) < (lvN (ndT T k).text.toList : Int) + 1) := by rw [HBB.out]; simp [hk27]; omega
            have q0 := fun Z : WB wu => (Z.bel.cell (p := ⟨n10, 0, none⟩) hn10u).trans i0
            have q1 := fun Z : WB wu => (Z.bel.cell (p := ⟨n10, 1, none⟩) hn10u).trans i1
            have q2 := fun Z : WB wu => (Z.bel.cell (p := ⟨w.heap.size, 1, none⟩) hnwu).trans ib1
            rw [hk27] at q0
            have HBV := Lib.hid hbv
            have hlk := lv_small (ndT T k).text.toList
            have hwl : IntKind.i64.wrap ((lvN (ndT T k).text.toList : Int) + 1) = (lvN (ndT T k).text.toList : Int) + 1 := IntWalk.i64_in _ (by omega)
            clear hbv
            go_wp2_with fail
            (refine wp_region_wb (by kernel_rfl) (by kernel_rfl) ?_; (repeat (first | go_big_quiet_step ((go_at_call 33; exact quietB (binds_any _ _))) | quiet_step ((go_at_call 33; exact quietB (binds_any _ _))))); refine wpQuiet_nil ?_; intro _ hw'; obtain ⟨⟨wq, hbq⟩, hw''⟩ := hw'; subst hw''; (try simp only))
            have HBR := Lib.hid hbq
            clear hbq q0 q1 q2
            go_wp2_with fail
            go_meet
            exact ⟨by rw [HBV.out], HBR⟩
        case rest =>
          obtain ⟨rfl, HB3⟩ := hcut
          generalize wc = wt at *
          have j1 := (HB3.out.cell (p := ⟨w.heap.size, 1, none⟩) hnwu).trans ib1
          have HBF := Lib.hid (HR.out.2.2.trans ((HB1.out.trans ((HB2.out.trans (HB3.out.mono HB2.out.size)).mono HB1.out.size)).mono HR.out.2.2.size))
          clear i0 i1 ib1
          cases bb with
          | false =>
            have c1 : ¬ 9223372036854775807 < x.size + 1 := by omega
            have c2 : ¬ 9223372036854775807 < x.size + 1 + (ndT T k).text.size := by omega
            have c3 : ¬ 9223372036854775807 < x.size + 1 + (ndT T k).text.size + 1 := by omega
            have c4 : ¬ 9223372036854775807 < x.size + 1 + (ndT T k).text.size + 1 + y.size := by omega
            go_wp2_with fail
            go_ret
            exact ⟨by rw [HV.out]; rfl, HBL.out.trans ((HBF.out).mono HBL.out.size)⟩
          | true =>
            have c1 : ¬ 9223372036854775807 < x.size + 1 := by omega
            have c2 : ¬ 9223372036854775807 < x.size + 1 + (ndT T k).text.size := by omega
            have c3 : ¬ 9223372036854775807 < x.size + 1 + (ndT T k).text.size + 1 := by omega
            have c4 : ¬ 9223372036854775807 < x.size + 1 + (ndT T k).text.size + 1 + (1 + y.size + 1) := by omega
            go_wp2_with fail
            go_ret
            exact ⟨by rw [HV.out]; rfl, HBL.out.trans ((HBF.out).mono HBL.out.size)⟩
      | true =>
        go_upto_region 24 with (fail)
        go_cut [107] (fun s107 wx => s107 = .bool bb ∧ Hid (Below wu.heap.size wu wx))
        case first =>
          rcases (Decidable.em ((ndT T p).kind = 27)).symm with hno | hk27
          · have hbv : bb = false := by rw [HBB.out]; exact decide_eq_false (fun h => hno h.1)
            have kbf : ((ndT T p).kind == 27) = false := by simpa using hno
            have q0 := fun Z : WB wu => (Z.bel.cell (p := ⟨n10, 0, none⟩) hn10u).trans i0
            have HBV := Lib.hid hbv
            clear hbv hno
            go_wp2_with fail
            (refine wp_region_wb (by kernel_rfl) (by kernel_rfl) ?_; (repeat (first | go_big_quiet_step ((go_at_call 33; exact quietB (binds_any _ _))) | quiet_step ((go_at_call 33; exact quietB (binds_any _ _))))); refine wpQuiet_nil ?_; intro _ hw'; obtain ⟨⟨wq, hbq⟩, hw''⟩ := hw'; subst hw''; (try simp only))
            have HBR := Lib.hid hbq
            clear hbq q0
            go_wp2_with fail
            go_meet
            exact ⟨by rw [HBV.out], HBR⟩
          · have hbv : bb = decide ((lvN (ndT T p).text.toList : Int) < (lvN (ndT T k).text.toList : Int) + 1) := by rw [HBB.out]; simp [hk27]; omega
            have q0 := fun Z : WB wu => (Z.bel.cell (p := ⟨n10, 0, none⟩) hn10u).trans i0
            have q1 := fun Z : WB wu => (Z.bel.cell (p := ⟨n10, 1, none⟩) hn10u).trans i1
            have q2 := fun Z : WB wu => (Z.bel.cell (p := ⟨w.heap.size, 1, none⟩) hnwu).trans ib1
            rw [hk27] at q0
            have HBV := Lib.hid hbv
            have hlk := lv_small (ndT T k).text.toList
            have hwl : IntKind.i64.wrap ((lvN (ndT T k).text.toList : Int) + 1) = (lvN (ndT T k).text.toList : Int) + 1 := IntWalk.i64_in _ (by omega)
            clear hbv
            go_wp2_with fail
            (refine wp_region_wb (by kernel_rfl) (by kernel_rfl) ?_; (repeat (first | go_big_quiet_step ((go_at_call 33; exact quietB (binds_any _ _))) | quiet_step ((go_at_call 33; exact quietB (binds_any _ _))))); refine wpQuiet_nil ?_; intro _ hw'; obtain ⟨⟨wq, hbq⟩, hw''⟩ := hw'; subst hw''; (try simp only))
            have HBR := Lib.hid hbq
            clear hbq q0 q1 q2
            go_wp2_with fail
            go_meet
            exact ⟨by rw [HBV.out], HBR⟩
        case rest =>
          obtain ⟨rfl, HB3⟩ := hcut
          generalize wc = wt at *
          have j1 := (HB3.out.cell (p := ⟨w.heap.size, 1, none⟩) hnwu).trans ib1
          have HBF := Lib.hid (HR.out.2.2.trans ((HB1.out.trans ((HB2.out.trans (HB3.out.mono HB2.out.size)).mono HB1.out.size)).mono HR.out.2.2.size))
          clear i0 i1 ib1
          cases bb with
          | false =>
            have c1 : ¬ 9223372036854775807 < 1 + x.size + 1 + 1 := by omega
            have c2 : ¬ 9223372036854775807 < 1 + x.size + 1 + 1 + (ndT T k).text.size := by omega
            have c3 : ¬ 9223372036854775807 < 1 + x.size + 1 + 1 + (ndT T k).text.size + 1 := by omega
            have c4 : ¬ 9223372036854775807 < 1 + x.size + 1 + 1 + (ndT T k).text.size + 1 + y.size := by omega
            go_wp2_with fail
            go_ret
            exact ⟨by rw [HV.out]; rfl, HBL.out.trans ((HBF.out).mono HBL.out.size)⟩
          | true =>
            have c1 : ¬ 9223372036854775807 < 1 + x.size + 1 + 1 := by omega
            have c2 : ¬ 9223372036854775807 < 1 + x.size + 1 + 1 + (ndT T k).text.size := by omega
            have c3 : ¬ 9223372036854775807 < 1 + x.size + 1 + 1 + (ndT T k).text.size + 1 := by omega
            have c4 : ¬ 9223372036854775807 < 1 + x.size + 1 + 1 + (ndT T k).text.size + 1 + (1 + y.size + 1) := by omega
            go_wp2_with fail
            go_ret
            exact ⟨by rw [HV.out]; rfl, HBL.out.trans ((HBF.out).mono HBL.out.size)⟩
end
end Go.Proofs.YtkpejdkffkhekaaGreatDoor
end
section
/- The document's printer: calls, indices, pieces; all expressions. Conditions: the nodes ahead are printed right. -/
set_option maxRecDepth 100000
namespace Go.Proofs.YtkpejdkffkhekaaGreatDoor
open Go.ChangeShapes Go.WideShapes Go.ChangeAt Go.RowKit
section
variable {w0 w : World} {b off c k c4 d : Nat} {T : List ND} {m : Int} {A4 : Option Addr}
theorem br_bd {w0 : World} {b off c : Nat} {T : List ND} {m : Int} (hev : Ev w0 (some ⟨b, off, none⟩) c T m) {q d : Nat} (br : Bool) (hq : q < T.length) (hd : d + q ≤ 9000) : (sL (brL br (prN T q d))).size ≤ 100000002 := by
  rw [sL_size]
  have h1 := hev.bd hq hd
  have h2 := br_len br (prN T q d)
  omega
/-- The row of two kinds that 'bracketed' is handed. -/
theorem row_two (wb : World) : ((wb.alloc (.cells #[.int .i64 27, .int .i64 26] 3))).cell? ⟨wb.heap.size, 0, none⟩ = some (.int .i64 27) ∧ ((wb.alloc (.cells #[.int .i64 27, .int .i64 26] 3))).cell? ⟨wb.heap.size, 1, none⟩ = some (.int .i64 26) := by
  have h : (wb.alloc (.cells #[.int .i64 27, .int .i64 26] 3)).heap[wb.heap.size]? = some (.cells #[.int .i64 27, .int .i64 26] 3 (0, 0)) := heap_alloc_new wb _
  exact ⟨by rw [Lib.cell_of_heap h]; rfl, by rw [Lib.cell_of_heap h]; rfl⟩
set_option maxHeartbeats 8000000 in
theorem dx_index (hev : Ev w0 (some ⟨b, off, none⟩) c T m) (hex : ∀ q, q < k → DxC w0 b off c T q) (hnv : NodeV w0 b off T k A4 c4) (e : (ndT T k).kind = 29) (hw : Below w0.heap.size w0 w) (hd : d + k ≤ 9000) : DxN b off c T k A4 c4 d w := by
  have hkT := hnv.lt
  have hkn : (ndT T k).kids.length = 2 := by
    have hc := cnt_at hev.good hkT
    unfold cntN at hc
    rw [e] at hc
    simp at hc
    omega
  obtain ⟨q, hq, hq2, hqk, hqf⟩ := kid_at hev.good hkT (j := 0) (by omega)
  have hqE : isE (ndT T q).kind = true := by
    unfold kidN at hqf
    rw [e] at hqf
    simpa using hqf
  obtain ⟨p, hp, hp2, hpk, hpf⟩ := kid_at hev.good hkT (j := 1) (by omega)
  obtain ⟨Ap, cp, hnp⟩ := hev.node (show p < T.length by omega)
  have hpE : isE (ndT T p).kind = true ∨ (ndT T p).kind = 31 := by
    unfold kidN at hpf
    rw [e] at hpf
    exact .inl (by simpa using hpf)
  have HTX := Lib.hid (show prN T k d = brL (decide ((ndT T q).kind ∈ [27, 26])) (prN T q d) ++ [91] ++ prN T p d ++ [93] by
    rw [← prT_kid hqk, ← hq2, ← prT_kid hpk, ← hp2]
    unfold prN prS
    simp [e, bsS])
  obtain ⟨x, hx⟩ : ∃ x, x = sL (brL (decide ((ndT T q).kind ∈ [27, 26])) (prN T q d)) := ⟨_, rfl⟩
  have hxs : x.size ≤ 100000002 := by rw [hx]; exact br_bd hev _ (by omega) (by omega)
  obtain ⟨y, hy⟩ : ∃ y, y = sL (prN T p d) := ⟨_, rfl⟩
  have hys : y.size ≤ 100000000 := by rw [hy, sL_size]; exact hev.bd (by omega) (by omega)
  have HV := Lib.hid (show sL (prN T k d) = x ++ (⟨#[91]⟩ : ByteArray) ++ y ++ (⟨#[93]⟩ : ByteArray) by
    rw [HTX.out, hx, hy, ← sL_app, ← sL_app, ← sL_app]
    rfl)
  obtain ⟨b5, o5, rfl, _, hb5, _⟩ := hnv.kid hw hq
  obtain ⟨wb, hwb, hbx, hbel, hbs⟩ := box_new w 29 (ndT T k).num (ndT T k).text (ndT T k).typ (.slice (some ⟨b5, o5, none⟩) 2 c4)
  have HW0 := Lib.hid (hw.trans (hbel.mono hw.size))
  obtain ⟨wd, hwd⟩ : ∃ wd, wd = wb.alloc (.cells #[.int .i64 27, .int .i64 26] 3) := ⟨_, rfl⟩
  have hrow := row_two wb
  have hdb : Below wb.heap.size wb wd := by rw [hwd]; exact al _
  have hds : wd.heap.size = wb.heap.size + 1 := by rw [hwd]; simp
  rw [← hwd] at hrow
  have HBR := Lib.hid (bracketed_any hev (show q < T.length by omega) hqE (hex q hqk) [27, 26] (by simp) wb.heap.size 0 2 d (by omega) (w := wd) (by omega) (fun j z hz => by
    cases j with
    | zero => simp at hz; subst hz; exact hrow.1
    | succ j => cases j with
      | zero => simp at hz; subst hz; exact hrow.2
      | succ j => simp at hz) (HW0.out.trans (hdb.mono HW0.out.size)))
  rw [← hx] at HBR
  simp only [List.length_cons, List.length_nil, Nat.zero_add, Nat.reduceAdd] at HBR
  rw [hbs] at HBR
  have HWD := Lib.hid hwd
  have HDB := Lib.hid hdb
  have HBL := Lib.hid hbel
  have HBX := Lib.hid hbx
  have HC := Lib.hid (fun (W : World) (hW : Below w0.heap.size w0 W) => hex p hpk _ _ hnp hpE d W hW (by omega))
  rw [← hy] at HC
  unfold ndW at HC
  have HNP := Lib.hid hnp
  have HP := Lib.hid hp
  have hpT : (p : Int) < (T.length : Int) := by omega
  have HNV := Lib.hid hnv
  obtain ⟨b0, b1, b2, b3, b4⟩ := box_cells hbx
  have z0 : wb.cell? ⟨b5, o5, none⟩ = some (.int .i64 (q : Int)) := by
    obtain ⟨_, _, e1, _, _, z0⟩ := hnv.kid HW0.out hq
    injection e1 with e1
    injection e1 with e1 e2
    subst e1 e2
    rw [Nat.add_zero] at z0
    exact z0
  unfold DxN ndW
  rw [e, hkn]
  clear e hex hnv hw hx hy hev hbx hbel hq hq2 hqk hqf hqE hkn hrow hwd hdb hp hp2 hpk hpf hpE hnp
  go_enter Tryz.func71, Tryz.ntmps71
  go_wp2_with fail
  rw [← HWD.out]
  refine Calls.mono HBR.out ?_
  rintro e w1 ⟨rfl, hb1⟩
  have HB1 := Lib.hid (show Below wb.heap.size wb w1 from HDB.out.trans (hb1.mono HDB.out.size))
  have HW1 := Lib.hid (HW0.out.trans (HB1.out.mono HW0.out.size))
  clear hwb hb1 b0 b1 b2 b3 b4 z0
  obtain ⟨b0, b1, b2, b3, b4⟩ := box_cells ((HB1.out.block w.heap.size (by omega)).trans HBX.out)
  obtain ⟨k0, k1, k2, k3, k4⟩ := HNP.out.cells HW1.out
  have z1 : w1.cell? ⟨b5, o5 + 1, none⟩ = some (.int .i64 (p : Int)) := by
    obtain ⟨_, _, e1, _, _, z0⟩ := HNV.out.kid HW1.out HP.out
    injection e1 with e1
    injection e1 with e1 e2
    subst e1 e2
    exact z0
  have n1 : ¬ 9223372036854775807 < x.size + 1 := by omega
  have n2 : ¬ 9223372036854775807 < x.size + 1 + y.size := by omega
  have n3 : ¬ 9223372036854775807 < x.size + 1 + y.size + 1 := by omega
  go_wp2_with fail
  refine Calls.mono (HC.out _ HW1.out) ?_
  rintro e w2 ⟨rfl, hb2⟩
  have HB9 := Lib.hid (HBL.out.trans ((HB1.out.trans (hb2.mono HB1.out.size)).mono HBL.out.size))
  clear hb2 b0 b1 b2 b3 b4 k0 k1 k2 k3 k4 z1
  go_wp2_with fail
  go_ret
  exact ⟨by rw [HV.out]; rfl, HB9.out⟩
set_option maxHeartbeats 8000000 in
theorem dx_slice (hev : Ev w0 (some ⟨b, off, none⟩) c T m) (hex : ∀ q, q < k → DxC w0 b off c T q) (hnv : NodeV w0 b off T k A4 c4) (e : (ndT T k).kind = 30) (hw : Below w0.heap.size w0 w) (hd : d + k ≤ 9000) : DxN b off c T k A4 c4 d w := by
  have hkT := hnv.lt
  have hkn : (ndT T k).kids.length = 3 := by
    have hc := cnt_at hev.good hkT
    unfold cntN at hc
    rw [e] at hc
    simp at hc
    omega
  obtain ⟨q, hq, hq2, hqk, hqf⟩ := kid_at hev.good hkT (j := 0) (by omega)
  have hqE : isE (ndT T q).kind = true := by
    unfold kidN at hqf
    rw [e] at hqf
    simpa using hqf
  obtain ⟨p, hp, hp2, hpk, hpf⟩ := kid_at hev.good hkT (j := 1) (by omega)
  obtain ⟨Ap, cp, hnp⟩ := hev.node (show p < T.length by omega)
  have hpE : isE (ndT T p).kind = true ∨ (ndT T p).kind = 31 := by
    unfold kidN at hpf
    rw [e] at hpf
    simpa using hpf
  obtain ⟨s, hs, hs2, hsk, hsf⟩ := kid_at hev.good hkT (j := 2) (by omega)
  obtain ⟨As, cs, hns⟩ := hev.node (show s < T.length by omega)
  have hsE : isE (ndT T s).kind = true ∨ (ndT T s).kind = 31 := by
    unfold kidN at hsf
    rw [e] at hsf
    simpa using hsf
  have HTX := Lib.hid (show prN T k d = brL (decide ((ndT T q).kind ∈ [27, 26])) (prN T q d) ++ [91] ++ prN T p d ++ [58] ++ prN T s d ++ [93] by
    rw [← prT_kid hqk, ← hq2, ← prT_kid hpk, ← hp2, ← prT_kid hsk, ← hs2]
    unfold prN prS
    simp [e, bsS])
  obtain ⟨x, hx⟩ : ∃ x, x = sL (brL (decide ((ndT T q).kind ∈ [27, 26])) (prN T q d)) := ⟨_, rfl⟩
  have hxs : x.size ≤ 100000002 := by rw [hx]; exact br_bd hev _ (by omega) (by omega)
  obtain ⟨y, hy⟩ : ∃ y, y = sL (prN T p d) := ⟨_, rfl⟩
  have hys : y.size ≤ 100000000 := by rw [hy, sL_size]; exact hev.bd (by omega) (by omega)
  obtain ⟨z, hz⟩ : ∃ z, z = sL (prN T s d) := ⟨_, rfl⟩
  have hzs : z.size ≤ 100000000 := by rw [hz, sL_size]; exact hev.bd (by omega) (by omega)
  have HV := Lib.hid (show sL (prN T k d) = x ++ (⟨#[91]⟩ : ByteArray) ++ y ++ (⟨#[58]⟩ : ByteArray) ++ z ++ (⟨#[93]⟩ : ByteArray) by
    rw [HTX.out, hx, hy, hz, ← sL_app, ← sL_app, ← sL_app, ← sL_app, ← sL_app]
    rfl)
  obtain ⟨b5, o5, rfl, _, hb5, _⟩ := hnv.kid hw hq
  obtain ⟨wb, hwb, hbx, hbel, hbs⟩ := box_new w 30 (ndT T k).num (ndT T k).text (ndT T k).typ (.slice (some ⟨b5, o5, none⟩) 3 c4)
  have HW0 := Lib.hid (hw.trans (hbel.mono hw.size))
  obtain ⟨wd, hwd⟩ : ∃ wd, wd = wb.alloc (.cells #[.int .i64 27, .int .i64 26] 3) := ⟨_, rfl⟩
  have hrow := row_two wb
  have hdb : Below wb.heap.size wb wd := by rw [hwd]; exact al _
  have hds : wd.heap.size = wb.heap.size + 1 := by rw [hwd]; simp
  rw [← hwd] at hrow
  have HBR := Lib.hid (bracketed_any hev (show q < T.length by omega) hqE (hex q hqk) [27, 26] (by simp) wb.heap.size 0 2 d (by omega) (w := wd) (by omega) (fun j z hz => by
    cases j with
    | zero => simp at hz; subst hz; exact hrow.1
    | succ j => cases j with
      | zero => simp at hz; subst hz; exact hrow.2
      | succ j => simp at hz) (HW0.out.trans (hdb.mono HW0.out.size)))
  rw [← hx] at HBR
  simp only [List.length_cons, List.length_nil, Nat.zero_add, Nat.reduceAdd] at HBR
  rw [hbs] at HBR
  have HWD := Lib.hid hwd
  have HDB := Lib.hid hdb
  have HBL := Lib.hid hbel
  have HBX := Lib.hid hbx
  have HCQ := Lib.hid (fun (W : World) (hW : Below w0.heap.size w0 W) => hex p hpk _ _ hnp hpE d W hW (by omega))
  have HCP := Lib.hid (fun (W : World) (hW : Below w0.heap.size w0 W) => hex s hsk _ _ hns hsE d W hW (by omega))
  rw [← hy] at HCQ
  rw [← hz] at HCP
  unfold ndW at HCQ HCP
  have HEX := Lib.hid (fun (v : Value) (u : ByteArray) (W : World) (hW : Below w0.heap.size w0 W) (h : (v = .agg #[.int .i64 (ndT T p).kind, .string (ndT T p).text, .string (ndT T p).typ, .int .i64 (ndT T p).num, .slice Ap (ndT T p).kids.length cp] ∧ u = y) ∨ (v = .agg #[.int .i64 (ndT T s).kind, .string (ndT T s).text, .string (ndT T s).typ, .int .i64 (ndT T s).num, .slice As (ndT T s).kids.length cs] ∧ u = z)) => show Calls Tryz.prog 71 #[trV b off c T, v, .int .i64 (d : Int)] W (fun e w' => e = .returned (.string u) ∧ Below W.heap.size W w') from by
    rcases h with ⟨rfl, rfl⟩ | ⟨rfl, rfl⟩
    · exact HCQ.out W hW
    · exact HCP.out W hW)
  have HNP := Lib.hid hnp
  have HP := Lib.hid hp
  have HNS := Lib.hid hns
  have HSS := Lib.hid hs
  have hpT : (p : Int) < (T.length : Int) := by omega
  have hsT : (s : Int) < (T.length : Int) := by omega
  have HNV := Lib.hid hnv
  obtain ⟨b0, b1, b2, b3, b4⟩ := box_cells hbx
  have z0 : wb.cell? ⟨b5, o5, none⟩ = some (.int .i64 (q : Int)) := by
    obtain ⟨_, _, e1, _, _, z0⟩ := hnv.kid HW0.out hq
    injection e1 with e1
    injection e1 with e1 e2
    subst e1 e2
    rw [Nat.add_zero] at z0
    exact z0
  unfold DxN ndW
  rw [e, hkn]
  clear e hex hnv hw hx hy hev hbx hbel hq hq2 hqk hqf hqE hkn hrow hwd hdb hp hp2 hpk hpf hpE hnp hs hs2 hsk hsf hsE hns hz HCQ HCP
  go_enter Tryz.func71, Tryz.ntmps71
  go_wp2_with fail
  rw [← HWD.out]
  refine Calls.mono HBR.out ?_
  rintro e w1 ⟨rfl, hb1⟩
  have HB1 := Lib.hid (show Below wb.heap.size wb w1 from HDB.out.trans (hb1.mono HDB.out.size))
  have HW1 := Lib.hid (HW0.out.trans (HB1.out.mono HW0.out.size))
  clear hwb hb1 b0 b1 b2 b3 b4 z0
  obtain ⟨b0, b1, b2, b3, b4⟩ := box_cells ((HB1.out.block w.heap.size (by omega)).trans HBX.out)
  obtain ⟨p0, p1, p2, p3, p4⟩ := HNP.out.cells HW1.out
  have z1 : w1.cell? ⟨b5, o5 + 1, none⟩ = some (.int .i64 (p : Int)) := by
    obtain ⟨_, _, e1, _, _, z0⟩ := HNV.out.kid HW1.out HP.out
    injection e1 with e1
    injection e1 with e1 e2
    subst e1 e2
    exact z0
  obtain ⟨s0, s1, s2, s3, s4⟩ := HNS.out.cells HW1.out
  have z2 : w1.cell? ⟨b5, o5 + 2, none⟩ = some (.int .i64 (s : Int)) := by
    obtain ⟨_, _, e1, _, _, z0⟩ := HNV.out.kid HW1.out HSS.out
    injection e1 with e1
    injection e1 with e1 e2
    subst e1 e2
    exact z0
  have hbw : b < w1.heap.size := Nat.lt_of_lt_of_le HNP.out.hb HW1.out.size
  have hb5w : b5 < w1.heap.size := Nat.lt_of_lt_of_le hb5 HW1.out.size
  have hww : w.heap.size < w1.heap.size := Nat.lt_of_lt_of_le (show w.heap.size < wb.heap.size by omega) HB1.out.size
  have f0 := fun Z : WB w1 => (Z.bel.cell (p := ⟨w.heap.size, 4, none⟩) hww).trans b4
  have f1 := fun Z : WB w1 => (Z.bel.cell (p := ⟨b5, o5 + 1, none⟩) hb5w).trans z1
  have f2 := fun Z : WB w1 => (Z.bel.cell (p := ⟨b5, o5 + 2, none⟩) hb5w).trans z2
  have gp0 := fun Z : WB w1 => (Z.bel.cell (p := ⟨b, off + p * 5, none⟩) hbw).trans p0
  have gp1 := fun Z : WB w1 => (Z.bel.cell (p := ⟨b, off + p * 5 + 1, none⟩) hbw).trans p1
  have gp2 := fun Z : WB w1 => (Z.bel.cell (p := ⟨b, off + p * 5 + 2, none⟩) hbw).trans p2
  have gp3 := fun Z : WB w1 => (Z.bel.cell (p := ⟨b, off + p * 5 + 3, none⟩) hbw).trans p3
  have gp4 := fun Z : WB w1 => (Z.bel.cell (p := ⟨b, off + p * 5 + 4, none⟩) hbw).trans p4
  have gs0 := fun Z : WB w1 => (Z.bel.cell (p := ⟨b, off + s * 5, none⟩) hbw).trans s0
  have gs1 := fun Z : WB w1 => (Z.bel.cell (p := ⟨b, off + s * 5 + 1, none⟩) hbw).trans s1
  have gs2 := fun Z : WB w1 => (Z.bel.cell (p := ⟨b, off + s * 5 + 2, none⟩) hbw).trans s2
  have gs3 := fun Z : WB w1 => (Z.bel.cell (p := ⟨b, off + s * 5 + 3, none⟩) hbw).trans s3
  have gs4 := fun Z : WB w1 => (Z.bel.cell (p := ⟨b, off + s * 5 + 4, none⟩) hbw).trans s4
  have n1 : ¬ 9223372036854775807 < x.size + 1 := by omega
  have n2 : ¬ 9223372036854775807 < x.size + 1 + y.size := by omega
  have n3 : ¬ 9223372036854775807 < x.size + 1 + y.size + 1 := by omega
  have n4 : ¬ 9223372036854775807 < x.size + 1 + y.size + 1 + z.size := by omega
  have n5 : ¬ 9223372036854775807 < x.size + 1 + y.size + 1 + z.size + 1 := by omega
  go_wp2_with fail
  (refine wp_region_wb (by kernel_rfl) (by kernel_rfl) ?_; (repeat (first | go_big_quiet_step ((go_at_call 71; exact quietB (HEX.out _ _ _ (HW1.out.trans ((WB.bel _).mono HW1.out.size)) (by first | exact .inl ⟨rfl, rfl⟩ | exact .inr ⟨rfl, rfl⟩)))) | quiet_step ((go_at_call 71; exact quietB (HEX.out _ _ _ (HW1.out.trans ((WB.bel _).mono HW1.out.size)) (by first | exact .inl ⟨rfl, rfl⟩ | exact .inr ⟨rfl, rfl⟩)))))); refine wpQuiet_nil ?_; intro _ hw'; obtain ⟨⟨wq, hbq⟩, hw''⟩ := hw'; subst hw''; (try simp only))
  have HB9 := Lib.hid (HBL.out.trans ((HB1.out.trans (hbq.mono HB1.out.size)).mono HBL.out.size))
  clear hbq f0 f1 f2 gp0 gp1 gp2 gp3 gp4 gs0 gs1 gs2 gs3 gs4 b0 b1 b2 b3 b4 z1 z2 p0 p1 p2 p3 p4 s0 s1 s2 s3 s4
  go_wp2_with fail
  go_ret
  exact ⟨by rw [HV.out]; rfl, HB9.out⟩
set_option maxHeartbeats 8000000 in
theorem dx_call (hev : Ev w0 (some ⟨b, off, none⟩) c T m) (hex : ∀ q, q < k → DxC w0 b off c T q) (hnv : NodeV w0 b off T k A4 c4) (e : (ndT T k).kind = 28) (hw : Below w0.heap.size w0 w) (hd : d + k ≤ 9000) : DxN b off c T k A4 c4 d w := by
  have hkT := hnv.lt
  have hkn : 0 < (ndT T k).kids.length := by
    have hc := cnt_at hev.good hkT
    unfold cntN at hc
    rw [e] at hc
    simp at hc
    omega
  obtain ⟨q, hq, hq2, hqk, hqf⟩ := kid_at hev.good hkT (j := 0) (by omega)
  have hqE : isE (ndT T q).kind = true := by
    unfold kidN at hqf
    rw [e] at hqf
    simpa using hqf
  obtain ⟨zs, hzs2⟩ : ∃ zs, zs = ((ndT T k).kids.map Int.toNat).tail := ⟨_, rfl⟩
  have HZM : ∀ p ∈ zs, p < k ∧ p < T.length ∧ isE (ndT T p).kind = true := fun p hp => by
    rw [hzs2, kids_tail] at hp
    obtain ⟨j, hj, rfl⟩ := List.mem_map.1 hp
    obtain ⟨p', _, h2, h3, h4⟩ := kid_at hev.good hkT (j := j + 1) (by have := List.mem_range.1 hj; omega)
    rw [h2]
    unfold kidN at h4
    rw [e] at h4
    exact ⟨h3, by omega, by simpa using h4⟩
  have HTX := Lib.hid (show prN T k d = brL (decide ((ndT T q).kind ∈ [27, 26])) (prN T q d) ++ [40] ++ comL (zs.map fun p => prN T p d) ++ [41] by
    have hpm : zs.map (fun p => prT T k p d) = zs.map (fun p => prN T p d) := List.map_congr_left fun p hp => prT_kid (HZM p hp).1
    rw [← hpm, hzs2, ← prT_kid hqk, ← hq2]
    unfold prN prS
    simp [e, bsS])
  obtain ⟨x, hx⟩ : ∃ x, x = sL (brL (decide ((ndT T q).kind ∈ [27, 26])) (prN T q d)) := ⟨_, rfl⟩
  have hxs : x.size ≤ 100000002 := by rw [hx]; exact br_bd hev _ (by omega) (by omega)
  obtain ⟨y, hy⟩ : ∃ y, y = sL (comL (zs.map fun p => prN T p d)) := ⟨_, rfl⟩
  have hys : y.size ≤ 100000000 := by
    have h1 := hev.bd hkT hd
    rw [HTX.out] at h1
    simp only [List.length_append] at h1
    rw [hy, sL_size]
    omega
  have HV := Lib.hid (show sL (prN T k d) = x ++ (⟨#[40]⟩ : ByteArray) ++ y ++ (⟨#[41]⟩ : ByteArray) by
    rw [HTX.out, hx, hy, ← sL_app, ← sL_app, ← sL_app]
    rfl)
  obtain ⟨b5, o5, rfl, _, hb5, _⟩ := hnv.kid hw hq
  obtain ⟨mm, hmm⟩ : ∃ mm, (ndT T k).kids.length = mm + 1 := ⟨_, (Nat.succ_pred (by omega)).symm⟩
  obtain ⟨wb, hwb, hbx, hbel, hbs⟩ := box_new w 28 (ndT T k).num (ndT T k).text (ndT T k).typ (.slice (some ⟨b5, o5, none⟩) (mm + 1) c4)
  have HW0 := Lib.hid (hw.trans (hbel.mono hw.size))
  obtain ⟨wd, hwd⟩ : ∃ wd, wd = wb.alloc (.cells #[.int .i64 27, .int .i64 26] 3) := ⟨_, rfl⟩
  have hrow := row_two wb
  have hdb : Below wb.heap.size wb wd := by rw [hwd]; exact al _
  have hds : wd.heap.size = wb.heap.size + 1 := by rw [hwd]; simp
  rw [← hwd] at hrow
  have HBR := Lib.hid (bracketed_any hev (show q < T.length by omega) hqE (hex q hqk) [27, 26] (by simp) wb.heap.size 0 2 d (by omega) (w := wd) (by omega) (fun j z hz => by
    cases j with
    | zero => simp at hz; subst hz; exact hrow.1
    | succ j => cases j with
      | zero => simp at hz; subst hz; exact hrow.2
      | succ j => simp at hz) (HW0.out.trans (hdb.mono HW0.out.size)))
  rw [← hx] at HBR
  simp only [List.length_cons, List.length_nil, Nat.zero_add, Nat.reduceAdd] at HBR
  rw [hbs] at HBR
  have HWD := Lib.hid hwd
  have HDB := Lib.hid hdb
  have HBL := Lib.hid hbel
  have HBX := Lib.hid hbx
  have hcl := hnv.cap
  have hcc : (mm = 0 ∧ c4 = 1) ∨ ∃ cc, c4 = cc + 2 := by
    by_cases h2 : 2 ≤ c4
    · exact .inr ⟨c4 - 2, by omega⟩
    · exact .inl (by omega)
  have HZL := Lib.hid (show zs.length = mm by rw [hzs2, List.length_tail, List.length_map, hmm]; rfl)
  have HRW := Lib.hid (show RdM w0 (· < w0.heap.size) 1 (some ⟨b5, o5 + 1, none⟩) zs.length (zs.map fun (q : Nat) => Value.int .i64 (q : Int)) by
    have h9 := tail_row (mm := mm) hnv.row hmm (kids_pos hev.good hkT)
    rw [HZL.out, hzs2]
    exact h9)
  have hmm4 : mm ≤ 4000 := by have := kids_few hev.good hkT; omega
  have HC := Lib.hid (fun (A : Option Addr) (cc : Nat) (hr : RdM w0 (· < w0.heap.size) 1 A zs.length (zs.map fun (q : Nat) => Value.int .i64 (q : Int))) (W : World) (hW : Below w0.heap.size w0 W) => commas_any hev zs (fun p hp => ⟨(HZM p hp).2.1, (HZM p hp).2.2, hex p (HZM p hp).1⟩) A cc d (fun p hp => by have := (HZM p hp).1; omega) hr (by rw [HZL.out]; exact hmm4) hW)
  rw [← hy, HZL.out] at HC
  have HNV := Lib.hid hnv
  obtain ⟨b0, b1, b2, b3, b4⟩ := box_cells hbx
  have z0 : wb.cell? ⟨b5, o5, none⟩ = some (.int .i64 (q : Int)) := by
    obtain ⟨_, _, e1, _, _, z0⟩ := hnv.kid HW0.out hq
    injection e1 with e1
    injection e1 with e1 e2
    subst e1 e2
    rw [Nat.add_zero] at z0
    exact z0
  unfold DxN ndW
  rw [e, hmm]
  clear e hex hnv hw hx hy hev hbx hbel hq hq2 hqk hqf hqE hkn hrow hwd hdb HZM hzs2 hmm hcl
  go_enter Tryz.func71, Tryz.ntmps71
  go_wp2_with fail
  rw [← HWD.out]
  refine Calls.mono HBR.out ?_
  rintro e w1 ⟨rfl, hb1⟩
  have HB1 := Lib.hid (show Below wb.heap.size wb w1 from HDB.out.trans (hb1.mono HDB.out.size))
  have HW1 := Lib.hid (HW0.out.trans (HB1.out.mono HW0.out.size))
  clear hwb hb1 b0 b1 b2 b3 b4 z0
  obtain ⟨b0, b1, b2, b3, b4⟩ := box_cells ((HB1.out.block w.heap.size (by omega)).trans HBX.out)
  have n1 : ¬ 9223372036854775807 < x.size + 1 := by omega
  have n2 : ¬ 9223372036854775807 < x.size + 1 + y.size := by omega
  have n3 : ¬ 9223372036854775807 < x.size + 1 + y.size + 1 := by omega
  rcases hcc with ⟨rfl, rfl⟩ | ⟨cc, rfl⟩
  · have HCC := Lib.hid (HC.out (some ⟨b5, o5, none⟩) 0 (by rw [List.length_eq_zero_iff.1 HZL.out]; exact RdM.nil) w1 HW1.out)
    go_wp2_with fail
    refine Calls.mono HCC.out ?_
    rintro e w2 ⟨rfl, hb2⟩
    have HB9 := Lib.hid (HBL.out.trans ((HB1.out.trans (hb2.mono HB1.out.size)).mono HBL.out.size))
    clear hb2 b0 b1 b2 b3 b4
    go_wp2_with fail
    go_ret
    exact ⟨by rw [HV.out]; rfl, HB9.out⟩
  · have HCC := Lib.hid (HC.out (some ⟨b5, o5 + 1, none⟩) (cc + 1) (by have := HRW.out; rw [HZL.out] at this; exact this) w1 HW1.out)
    go_wp2_with fail
    refine Calls.mono HCC.out ?_
    rintro e w2 ⟨rfl, hb2⟩
    have HB9 := Lib.hid (HBL.out.trans ((HB1.out.trans (hb2.mono HB1.out.size)).mono HBL.out.size))
    clear hb2 b0 b1 b2 b3 b4
    go_wp2_with fail
    go_ret
    exact ⟨by rw [HV.out]; rfl, HB9.out⟩
end
section
variable {w0 : World} {b off c k : Nat} {T : List ND} {m : Int}
theorem dx_any (hev : Ev w0 (some ⟨b, off, none⟩) c T m) (hex : ∀ q, q < k → DxC w0 b off c T q) (hdh : DhC w0 b off c T k) : DxC w0 b off c T k := by
  intro A4 c4 hnv hk d w hw hd
  show DxN b off c T k A4 c4 d w
  rcases hk with hk | e
  · rcases isE_cases hk with e | e | e | e | e | e | e | (e | e | e) | e | e
    · exact dx_int hnv e
    · exact dx_text e (quo_at hev.good hnv.lt e)
    · exact dx_bool hev hnv e
    · exact dx_nil e
    · exact dx_name e
    · exact dx_unary hev hex hnv e hw hd
    · exact dx_binary hev hex hnv e hw hd
    · exact dx_call hev hex hnv e hw hd
    · exact dx_index hev hex hnv e hw hd
    · exact dx_slice hev hex hnv e hw hd
    · exact dx_list hev hex hnv e hw hd
    · exact dx_lit hev hdh hnv e hw hd
  · exact dx_none e
end
end Go.Proofs.YtkpejdkffkhekaaGreatDoor
end
section
/- The document's printer: blocks, heads of functions. Conditions: the nodes ahead are printed right. -/
set_option maxRecDepth 100000
namespace Go.Proofs.YtkpejdkffkhekaaGreatDoor
open Go.ChangeShapes Go.WideShapes Go.ChangeAt Go.RowKit
section
variable (w0 : World) (b off c : Nat) (T : List ND)
/-- 'stateText' at the node q. -/
def DsC (q : Nat) : Prop := ∀ A4 c4, NodeV w0 b off T q A4 c4 → (5 ≤ (ndT T q).kind ∧ (ndT T q).kind ≤ 15) → ∀ (d : Nat) (w : World), Below w0.heap.size w0 w → d + q ≤ 9000 →
  Calls Tryz.prog 51 #[trV b off c T, ndW (ndT T q) A4 c4, .int .i64 (d : Int)] w fun e w' => e = .returned (.string (sL (prN T q d))) ∧ Below w.heap.size w w'
/-- 'blockText' at the node q. -/
def DbC (q : Nat) : Prop := ∀ A4 c4, NodeV w0 b off T q A4 c4 → (ndT T q).kind = 5 → ∀ (d : Nat) (w : World), Below w0.heap.size w0 w → d + q ≤ 9000 →
  Calls Tryz.prog 36 #[trV b off c T, ndW (ndT T q) A4 c4, .int .i64 (d : Int)] w fun e w' => e = .returned (.string (sL (prN T q d))) ∧ Below w.heap.size w w'
end
set_option maxHeartbeats 8000000 in
theorem block_doc {w0 : World} {b off c k : Nat} {T : List ND} {m : Int} (hev : Ev w0 (some ⟨b, off, none⟩) c T m) (hst : ∀ q, q < k → DsC w0 b off c T q) : DbC w0 b off c T k := by
  intro A4 c4 hnv h5 d w hw hd
  have hkT := hnv.lt
  have HTX := Lib.hid (block_txt hev.good hkT h5 d)
  have HBD := Lib.hid (hev.bd hkT hd)
  have HE := Lib.hid hev
  have HST := Lib.hid hst
  have HNV := Lib.hid hnv
  have HS := Lib.hid hw
  have HKF := Lib.hid (fun (j : Nat) (hj : j < (ndT T k).kids.length) => show ∃ q : Nat, (ndT T k).kids[j]? = some (q : Int) ∧ kidT (ndT T k) j = q ∧ q < k ∧ (5 ≤ (ndT T q).kind ∧ (ndT T q).kind ≤ 15) from by
    obtain ⟨q, h1, h2, h3, h4⟩ := kid_at hev.good hkT hj
    unfold kidN at h4
    rw [h5] at h4
    exact ⟨q, h1, h2, h3, by simpa using h4⟩)
  have hk4 := kids_few hev.good hkT
  obtain ⟨n, hn⟩ : ∃ n, n = (ndT T k).kids.length := ⟨_, rfl⟩
  rw [← hn] at HTX HKF hk4
  have HN := Lib.hid hn
  obtain ⟨wb, hwb, hbx, hbl, hbs⟩ := box_new w 5 (ndT T k).num (ndT T k).text (ndT T k).typ (.slice A4 n c4)
  have HBL := Lib.hid hbl
  have HBX := Lib.hid hbx
  have b4 := (box_cells hbx).2.2.2.2
  unfold ndW
  rw [h5, ← hn]
  clear hev hst hnv hw hn h5 hbx hbl
  by_cases hn0 : n = 0
  · subst hn0
    have HV := Lib.hid (show sL (prN T k d) = ⟨#[123, 125]⟩ by rw [HTX.out, if_pos rfl]; rfl)
    rw [HV.out]
    go_enter Tryz.func36, Tryz.ntmps36
    go_wp2_with fail
    clear hwb b4
    go_ret
    exact ⟨rfl, HBL.out⟩
  · have hnp : ¬ (n : Int) = 0 := by omega
    have hnb : ((n : Int) == 0) = false := by simpa using hn0
    have HTX2 := Lib.hid (show prN T k d = [123] ++ linL T k d n ++ tabL d ++ [125] by rw [HTX.out, if_neg hn0])
    have HLB := Lib.hid (show ∀ j, j ≤ n → ([123] ++ linL T k d j).length ≤ 100000000 from fun j hj => by
      have h1 := HBD.out
      have h2 := linL_le T k d hj
      rw [HTX2.out] at h1
      simp only [List.length_append, List.length_cons, List.length_nil] at h1 ⊢
      omega)
    go_enter Tryz.func36, Tryz.ntmps36
    go_wp2_with fail
    clear hwb b4
    go_loopw [7, 17] (fun s v wr => ∃ (j : Nat) (t : ByteArray), s = .string t ∧ v = .int .i64 (j : Int) ∧ j ≤ n ∧ t.size ≤ 100000000 ∧ Hid (t = sL ([123] ++ linL T k d j)) ∧ Hid (Below wb.heap.size wb wr)) (fun _ v _ => n - (intOf v).toNat)
    case atStart => exact ⟨0, _, rfl, rfl, Nat.zero_le _, by decide, Lib.hid rfl, Lib.hid (Below.refl _ _)⟩
    case round =>
      obtain ⟨j, t, rfl, rfl, hj, ht, HT, HX⟩ := hrel
      by_cases hlt : (j : Int) < (n : Int)
      · obtain ⟨q, hq, hq2, hqk, hq5⟩ := HKF.out j (by omega)
        obtain ⟨A6, c6, hnq⟩ := HE.out.node (show q < T.length by omega)
        have hbw := HS.out.trans ((HBL.out.trans (HX.out.mono HBL.out.size)).mono HS.out.size)
        obtain ⟨b5, o5, rfl, _, hb5, r0⟩ := HNV.out.kid hbw hq
        have hqT : (q : Int) < (T.length : Int) := by omega
        have hkc := hnq.cells hbw
        have hbwr : b < wr.heap.size := Nat.lt_of_lt_of_le hnq.hb hbw.size
        obtain ⟨x, hx⟩ : ∃ x, x = sL (prN T q (d + 1)) := ⟨_, rfl⟩
        have hxs : x.size ≤ 100000000 := by rw [hx, sL_size]; exact HE.out.bd (by omega) (by omega)
        obtain ⟨y, hy⟩ : ∃ y, y = sL (tabL (d + 1)) := ⟨_, rfl⟩
        have hys : y.size ≤ 100000 := by rw [hy, sL_size]; simp [tabL]; omega
        have HTN := Lib.hid (show t ++ (y ++ x) = sL ([123] ++ linL T k d (j + 1)) by
          rw [linL_succ, hq2, HT.out, hx, hy, sL_app, sL_app]
          simp only [List.append_assoc])
        have HTS := Lib.hid (show (t ++ (y ++ x)).size ≤ 100000000 by rw [HTN.out, sL_size]; exact HLB.out _ (by omega))
        have HC := Lib.hid (fun (W : World) (hW : Below w0.heap.size w0 W) => HST.out q hqk _ _ hnq hq5 (d + 1) W hW (by omega))
        rw [← hx] at HC
        have HCT := Lib.hid (fun (W : World) => tabs_any (d + 1) (by omega) W)
        rw [← hy] at HCT
        have HBW := Lib.hid hbw
        have ht0 := fun Z : WB wr => (Z.bel.cell (p := ⟨b, off + q * 5, none⟩) hbwr).trans hkc.1
        have ht1 := fun Z : WB wr => (Z.bel.cell (p := ⟨b, off + q * 5 + 1, none⟩) hbwr).trans hkc.2.1
        have ht2 := fun Z : WB wr => (Z.bel.cell (p := ⟨b, off + q * 5 + 2, none⟩) hbwr).trans hkc.2.2.1
        have ht3 := fun Z : WB wr => (Z.bel.cell (p := ⟨b, off + q * 5 + 3, none⟩) hbwr).trans hkc.2.2.2.1
        have ht4 := fun Z : WB wr => (Z.bel.cell (p := ⟨b, off + q * 5 + 4, none⟩) hbwr).trans hkc.2.2.2.2
        unfold ndW at HC
        have hwr : IntKind.i64.wrap ((d : Int) + 1) = (d : Int) + 1 := IntWalk.i64_in _ (by omega)
        have n1 : ¬ 9223372036854775807 < y.size + x.size := by omega
        have n2 : ¬ 9223372036854775807 < t.size + (y.size + x.size) := by omega
        clear hq hq2 hnq hx hy hkc hbw hnp hq5
        go_wp2_with fail
        (refine wp_region_wb (by kernel_rfl) (by kernel_rfl) ?_; (repeat (first | go_big_quiet_step ((first | (go_at_call 50; exact quietB_same (HCT.out _)) | (go_at_call 51; exact quietB (HC.out _ (HBW.out.trans ((WB.bel _).mono HBW.out.size)))))) | quiet_step ((first | (go_at_call 50; exact quietB_same (HCT.out _)) | (go_at_call 51; exact quietB (HC.out _ (HBW.out.trans ((WB.bel _).mono HBW.out.size)))))))); refine wpQuiet_nil ?_; intro _ hw'; obtain ⟨⟨wq, hbq⟩, hw''⟩ := hw'; subst hw''; (try simp only))
        have HX3 := Lib.hid (HX.out.trans (hbq.mono HX.out.size))
        clear hbq r0 ht0 ht1 ht2 ht3 ht4
        go_wp2_with fail
        go_roundw
        case rel => exact ⟨j + 1, _, rfl, by simp, by omega, HTS.out, HTN, HX3⟩
        case measure => simp [intOf]; omega
      · have hjn : j = n := by omega
        subst hjn
        obtain ⟨y, hy⟩ : ∃ y, y = sL (tabL d) := ⟨_, rfl⟩
        have hys : y.size ≤ 100000 := by rw [hy, sL_size]; simp [tabL]; omega
        have HCT := Lib.hid (fun (W : World) => tabs_any d (by omega) W)
        rw [← hy] at HCT
        have HV := Lib.hid (show sL (prN T k d) = t ++ y ++ (⟨#[125]⟩ : ByteArray) by rw [HTX2.out, HT.out, hy, sL_mk, sL_app, sL_app])
        clear hy
        go_wp2_with fail
        refine Calls.mono (HCT.out _) ?_
        rintro e w3 ⟨rfl, rfl⟩
        go_wp2_with fail
        go_ret
        exact ⟨by rw [HV.out]; rfl, HBL.out.trans (HX.out.mono HBL.out.size)⟩
end Go.Proofs.YtkpejdkffkhekaaGreatDoor
end
section
/- The document's printer: statements. Conditions: the nodes ahead are printed right. -/
set_option maxRecDepth 100000
namespace Go.Proofs.YtkpejdkffkhekaaGreatDoor
open Go.ChangeShapes Go.WideShapes Go.ChangeAt Go.RowKit
/-- Three boxes, just made: the tree, a node, a number. -/
theorem box_three (w : World) (tr : Value) (x0 x3 y : Int) (x1 x2 : ByteArray) (v : Value) : ∃ wb, ((w.alloc (.cells #[tr] 22)).alloc (.cells #[.int .i64 x0, .string x1, .string x2, .int .i64 x3, v] 31)).alloc (.cells #[.int .i64 y] 3) = wb ∧ wb.cell? ⟨w.heap.size, 0, none⟩ = some tr ∧ (wb.cell? ⟨w.heap.size + 1, 0, none⟩ = some (.int .i64 x0) ∧ wb.cell? ⟨w.heap.size + 1, 1, none⟩ = some (.string x1) ∧ wb.cell? ⟨w.heap.size + 1, 2, none⟩ = some (.string x2) ∧ wb.cell? ⟨w.heap.size + 1, 3, none⟩ = some (.int .i64 x3) ∧ wb.cell? ⟨w.heap.size + 1, 4, none⟩ = some v) ∧ wb.cell? ⟨w.heap.size + 1 + 1, 0, none⟩ = some (.int .i64 y) ∧ Below w.heap.size w wb ∧ wb.heap.size = w.heap.size + 3 := by
  obtain ⟨w1, hw1⟩ : ∃ w1, w1 = w.alloc (.cells #[tr] 22) := ⟨_, rfl⟩
  have s1 : w1.heap.size = w.heap.size + 1 := by rw [hw1]; simp
  have a1 : w1.heap[w.heap.size]? = some (.cells #[tr] 22 (0, 0)) := by rw [hw1]; exact heap_alloc_new w _
  have l1 : Below w.heap.size w w1 := by rw [hw1]; exact al _
  rw [← hw1]
  clear hw1
  obtain ⟨w2, hw2, a2, l2, s2⟩ := box_new w1 x0 x3 x1 x2 v
  rw [hw2]
  rw [s1] at a2
  have b2 := box_cells a2
  have a1' : w2.heap[w.heap.size]? = some (.cells #[tr] 22 (0, 0)) := (l2.block _ (by omega)).trans a1
  obtain ⟨w3, hw3⟩ : ∃ w3, w3 = w2.alloc (.cells #[.int .i64 y] 3) := ⟨_, rfl⟩
  have a3 : w3.heap[w2.heap.size]? = some (.cells #[.int .i64 y] 3 (0, 0)) := by rw [hw3]; exact heap_alloc_new w2 _
  have l3 : Below w2.heap.size w2 w3 := by rw [hw3]; exact al _
  have s3 : w3.heap.size = w2.heap.size + 1 := by rw [hw3]; simp
  rw [← hw3]
  clear hw3 hw2
  rw [s2, s1] at a3
  refine ⟨w3, rfl, ?_, ⟨(l3.cell (p := ⟨w.heap.size + 1, 0, none⟩) (by show w.heap.size + 1 < _; omega)).trans b2.1, (l3.cell (p := ⟨w.heap.size + 1, 1, none⟩) (by show w.heap.size + 1 < _; omega)).trans b2.2.1, (l3.cell (p := ⟨w.heap.size + 1, 2, none⟩) (by show w.heap.size + 1 < _; omega)).trans b2.2.2.1, (l3.cell (p := ⟨w.heap.size + 1, 3, none⟩) (by show w.heap.size + 1 < _; omega)).trans b2.2.2.2.1, (l3.cell (p := ⟨w.heap.size + 1, 4, none⟩) (by show w.heap.size + 1 < _; omega)).trans b2.2.2.2.2⟩, ?_, l1.trans ((l2.trans (l3.mono l2.size)).mono l1.size), by omega⟩
  · rw [Lib.cell_of_heap ((l3.block _ (by omega)).trans a1')]; rfl
  · rw [Lib.cell_of_heap a3]; rfl
section
variable (w0 : World) (b off c : Nat) (T : List ND)
def DsN (q : Nat) (A4 : Option Addr) (c4 d : Nat) (w : World) : Prop :=
  Calls Tryz.prog 51 #[trV b off c T, ndW (ndT T q) A4 c4, .int .i64 (d : Int)] w fun e w' => e = .returned (.string (sL (prN T q d))) ∧ Below w.heap.size w w'
end
section
variable {w0 w : World} {b off c k c4 d : Nat} {T : List ND} {m : Int} {A4 : Option Addr}
set_option maxHeartbeats 4000000 in
/-- The closure: the expression of the kid j. -/
theorem stx_any {q j n b5 o5 c6 : Nat} {ji : Int} {A6 : Option Addr} (hnv : NodeV w0 b off T k (some ⟨b5, o5, none⟩) c4) (hq : (ndT T k).kids[j]? = some (q : Int)) (hnq : NodeV w0 b off T q A6 c6) (hdx : DxC w0 b off c T q) (hqF : isE (ndT T q).kind = true) (hji : ji = (j : Int)) (hjn : j < n) {B : Nat} {W : World} (hW : Below w0.heap.size w0 W) (hB : B + 2 < W.heap.size) (c0 : W.cell? ⟨B, 0, none⟩ = some (trV b off c T)) (c1 : W.cell? ⟨B + 1, 4, none⟩ = some (.slice (some ⟨b5, o5, none⟩) n c4)) (c2 : W.cell? ⟨B + 1 + 1, 0, none⟩ = some (.int .i64 (d : Int))) (hd : d + q ≤ 9000) :
    Calls Tryz.prog 70 #[.int .i64 ji, .pointer (some ⟨B, 0, none⟩), .pointer (some ⟨B + 1, 0, none⟩), .pointer (some ⟨B + 1 + 1, 0, none⟩)] W fun e w' => e = .returned (.string (sL (prN T q d))) ∧ Below W.heap.size W w' := by
  subst hji
  obtain ⟨b', o', e1, _, hb5, z0⟩ := hnv.kid hW hq
  injection e1 with e1
  injection e1 with e1 e2
  subst e1 e2
  have hkc := hnq.cells hW
  have hbW : b < W.heap.size := Nat.lt_of_lt_of_le hnq.hb hW.size
  have hb5W : b5 < W.heap.size := Nat.lt_of_lt_of_le hb5 hW.size
  have HC := Lib.hid (fun (V : World) (hV : Below w0.heap.size w0 V) => hdx _ _ hnq (.inl hqF) d V hV hd)
  have HW := Lib.hid hW
  unfold ndW at HC
  have hqT : (q : Int) < (T.length : Int) := by have := hnq.lt; omega
  have hjni : (j : Int) < (n : Int) := by omega
  have t0 := fun Z : WB W => (Z.bel.cell (p := ⟨B, 0, none⟩) (by show B < _; omega)).trans c0
  have t1 := fun Z : WB W => (Z.bel.cell (p := ⟨B + 1, 4, none⟩) (by show B + 1 < _; omega)).trans c1
  have t2 := fun Z : WB W => (Z.bel.cell (p := ⟨B + 1 + 1, 0, none⟩) (by show B + 1 + 1 < _; omega)).trans c2
  have t3 := fun Z : WB W => (Z.bel.cell (p := ⟨b5, o5 + j, none⟩) hb5W).trans z0
  have ht0 := fun Z : WB W => (Z.bel.cell (p := ⟨b, off + q * 5, none⟩) hbW).trans hkc.1
  have ht1 := fun Z : WB W => (Z.bel.cell (p := ⟨b, off + q * 5 + 1, none⟩) hbW).trans hkc.2.1
  have ht2 := fun Z : WB W => (Z.bel.cell (p := ⟨b, off + q * 5 + 2, none⟩) hbW).trans hkc.2.2.1
  have ht3 := fun Z : WB W => (Z.bel.cell (p := ⟨b, off + q * 5 + 3, none⟩) hbW).trans hkc.2.2.2.1
  have ht4 := fun Z : WB W => (Z.bel.cell (p := ⟨b, off + q * 5 + 4, none⟩) hbW).trans hkc.2.2.2.2
  clear hnv hq hnq hdx hqF hW hkc z0 c0 c1 c2
  generalize sL (prN T q d) = x at *
  go_enter Tryz.func70, Tryz.ntmps70
  go_wp2_with fail
  (refine wp_region_wb (by kernel_rfl) (by kernel_rfl) ?_; (repeat (first | go_big_quiet_step ((go_at_call 71; exact quietB (HC.out _ (HW.out.trans ((WB.bel _).mono HW.out.size))))) | quiet_step ((go_at_call 71; exact quietB (HC.out _ (HW.out.trans ((WB.bel _).mono HW.out.size))))))); refine wpQuiet_nil ?_; intro _ hw'; obtain ⟨⟨wq, hbq⟩, hw''⟩ := hw'; subst hw''; (try simp only))
  have HB := Lib.hid hbq
  clear hbq t0 t1 t2 t3 ht0 ht1 ht2 ht3 ht4
  go_wp2_with fail
  go_ret
  exact ⟨rfl, HB.out⟩

theorem sL_txs (l : List UInt8) (s : ByteArray) : sL (l ++ txB s) = sL l ++ s := by rw [← sL_app, sL_tx]
set_option maxHeartbeats 8000000 in
theorem ds_12  (hnv : NodeV w0 b off T k A4 c4) (e : (ndT T k).kind = 12) (hw : Below w0.heap.size w0 w) : DsN b off c T k A4 c4 d w := by
  have hkT := hnv.lt
  have HTX := Lib.hid (show prN T k d = [98, 114, 101, 97, 107] by
    unfold prN prS
    simp [e])
  have HV := Lib.hid (show sL (prN T k d) = (⟨#[98, 114, 101, 97, 107]⟩ : ByteArray) by
    rw [HTX.out]
    (repeat rw [← sL_app])
    (try rw [sL_tx])
    (try rfl))
  obtain ⟨wb, hwb, hc0, ⟨b0, b1, b2, b3, b4⟩, hc2, hbel, hbs⟩ := box_three w (trV b off c T) 12 (ndT T k).num (d : Int) (ndT T k).text (ndT T k).typ (.slice A4 (ndT T k).kids.length c4)
  have HBW := Lib.hid (hw.trans (hbel.mono hw.size))
  have HBL := Lib.hid hbel
  have HNV := Lib.hid hnv
  unfold DsN ndW
  rw [e, HV.out]
  clear hnv e hw hbel
  go_enter Tryz.func51, Tryz.ntmps51
  go_wp2_with fail
  clear hwb hc0 b0 b1 b2 b3 b4 hc2
  go_ret
  exact ⟨rfl, HBL.out⟩
set_option maxHeartbeats 8000000 in
theorem ds_13  (hnv : NodeV w0 b off T k A4 c4) (e : (ndT T k).kind = 13) (hw : Below w0.heap.size w0 w) : DsN b off c T k A4 c4 d w := by
  have hkT := hnv.lt
  have HTX := Lib.hid (show prN T k d = [99, 111, 110, 116, 105, 110, 117, 101] by
    unfold prN prS
    simp [e])
  have HV := Lib.hid (show sL (prN T k d) = (⟨#[99, 111, 110, 116, 105, 110, 117, 101]⟩ : ByteArray) by
    rw [HTX.out]
    (repeat rw [← sL_app])
    (try rw [sL_tx])
    (try rfl))
  obtain ⟨wb, hwb, hc0, ⟨b0, b1, b2, b3, b4⟩, hc2, hbel, hbs⟩ := box_three w (trV b off c T) 13 (ndT T k).num (d : Int) (ndT T k).text (ndT T k).typ (.slice A4 (ndT T k).kids.length c4)
  have HBW := Lib.hid (hw.trans (hbel.mono hw.size))
  have HBL := Lib.hid hbel
  have HNV := Lib.hid hnv
  unfold DsN ndW
  rw [e, HV.out]
  clear hnv e hw hbel
  go_enter Tryz.func51, Tryz.ntmps51
  go_wp2_with fail
  clear hwb hc0 b0 b1 b2 b3 b4 hc2
  go_ret
  exact ⟨rfl, HBL.out⟩
set_option maxHeartbeats 8000000 in
theorem ds_9 (hev : Ev w0 (some ⟨b, off, none⟩) c T m) (hex : ∀ q, q < k → DxC w0 b off c T q) (hnv : NodeV w0 b off T k A4 c4) (e : (ndT T k).kind = 9) (hw : Below w0.heap.size w0 w) (hd : d + k ≤ 9000) : DsN b off c T k A4 c4 d w := by
  have hkT := hnv.lt
  have hkn : (ndT T k).kids.length = 1 := by
    have hc := cnt_at hev.good hkT
    unfold cntN at hc
    rw [e] at hc
    simp at hc
    omega
  obtain ⟨q, hq, hq2, hqk, hqf⟩ := kid_at hev.good hkT (j := 0) (by omega)
  obtain ⟨Aq, cq, hnq⟩ := hev.node (show q < T.length by omega)
  have hqF : isE (ndT T q).kind = true := by
    unfold kidN at hqf
    rw [e] at hqf
    (try rw [hkn] at hqf)
    simp at hqf
    first | exact hqf | (rw [hqf]; rfl) | omega
  obtain ⟨xq, hxq⟩ : ∃ x, x = sL (prN T q d) := ⟨_, rfl⟩
  have hxqs : xq.size ≤ 100000000 := by rw [hxq, sL_size]; exact hev.bd (by omega) (by omega)
  obtain ⟨b5, o5, rfl, _, hb5, _⟩ := hnv.kid hw hq
  have HTX := Lib.hid (show prN T k d = prN T q d by
    rw [← prT_kid hqk, ← hq2]
    unfold prN prS
    simp [e])
  have HV := Lib.hid (show sL (prN T k d) = xq by
    rw [HTX.out]
    (repeat rw [← sL_app])
    (try rw [sL_tx])
    rw [hxq]
    (try rfl))
  obtain ⟨wb, hwb, hc0, ⟨b0, b1, b2, b3, b4⟩, hc2, hbel, hbs⟩ := box_three w (trV b off c T) 9 (ndT T k).num (d : Int) (ndT T k).text (ndT T k).typ (.slice (some ⟨b5, o5, none⟩) 1 c4)
  have HBW := Lib.hid (hw.trans (hbel.mono hw.size))
  have HBL := Lib.hid hbel
  have HXq := Lib.hid (fun (W : World) (hW : Below wb.heap.size wb W) => stx_any (c := c) (ji := 0) (B := w.heap.size) (n := 1) hnv hq hnq (hex q hqk) hqF rfl (by omega) (HBW.out.trans (hW.mono HBW.out.size)) (by have := hW.size; omega) ((hW.cell (p := ⟨w.heap.size, 0, none⟩) (by show w.heap.size < _; omega)).trans hc0) ((hW.cell (p := ⟨w.heap.size + 1, 4, none⟩) (by show w.heap.size + 1 < _; omega)).trans b4) ((hW.cell (p := ⟨w.heap.size + 1 + 1, 0, none⟩) (by show w.heap.size + 1 + 1 < _; omega)).trans hc2) (show d + q ≤ 9000 by omega))
  rw [← hxq] at HXq
  have HNV := Lib.hid hnv
  unfold DsN ndW
  rw [e, hkn, HV.out]
  clear hev hnv e hw hbel hq hq2 hqf hqF hnq hxq hkn hex
  go_enter Tryz.func51, Tryz.ntmps51
  go_wp2_with fail
  clear hwb b0 b1 b2 b3 b4 hc0 hc2
  refine Calls.mono (HXq.out wb (Below.refl _ _)) ?_
  rintro e w1 ⟨rfl, hb1⟩
  have HB1 := Lib.hid (HBL.out.trans (hb1.mono HBL.out.size))
  clear hb1
  go_wp2_with fail
  go_ret
  exact ⟨rfl, HB1.out⟩
set_option maxHeartbeats 8000000 in
theorem ds_15 (hev : Ev w0 (some ⟨b, off, none⟩) c T m) (hex : ∀ q, q < k → DxC w0 b off c T q) (hnv : NodeV w0 b off T k A4 c4) (e : (ndT T k).kind = 15) (hw : Below w0.heap.size w0 w) (hd : d + k ≤ 9000) : DsN b off c T k A4 c4 d w := by
  have hkT := hnv.lt
  have hkn : (ndT T k).kids.length = 1 := by
    have hc := cnt_at hev.good hkT
    unfold cntN at hc
    rw [e] at hc
    simp at hc
    omega
  obtain ⟨q, hq, hq2, hqk, hqf⟩ := kid_at hev.good hkT (j := 0) (by omega)
  obtain ⟨Aq, cq, hnq⟩ := hev.node (show q < T.length by omega)
  have hqF : isE (ndT T q).kind = true := by
    unfold kidN at hqf
    rw [e] at hqf
    (try rw [hkn] at hqf)
    simp at hqf
    first | exact hqf | (rw [hqf]; rfl) | omega
  obtain ⟨xq, hxq⟩ : ∃ x, x = sL (prN T q d) := ⟨_, rfl⟩
  have hxqs : xq.size ≤ 100000000 := by rw [hxq, sL_size]; exact hev.bd (by omega) (by omega)
  obtain ⟨b5, o5, rfl, _, hb5, _⟩ := hnv.kid hw hq
  have HTX := Lib.hid (show prN T k d = [100, 101, 102, 101, 114, 32] ++ prN T q d by
    rw [← prT_kid hqk, ← hq2]
    unfold prN prS
    simp [e])
  have HV := Lib.hid (show sL (prN T k d) = (⟨#[100, 101, 102, 101, 114, 32]⟩ : ByteArray) ++ xq by
    rw [HTX.out]
    (repeat rw [← sL_app])
    (try rw [sL_tx])
    rw [hxq]
    (try rfl))
  obtain ⟨wb, hwb, hc0, ⟨b0, b1, b2, b3, b4⟩, hc2, hbel, hbs⟩ := box_three w (trV b off c T) 15 (ndT T k).num (d : Int) (ndT T k).text (ndT T k).typ (.slice (some ⟨b5, o5, none⟩) 1 c4)
  have HBW := Lib.hid (hw.trans (hbel.mono hw.size))
  have HBL := Lib.hid hbel
  have HXq := Lib.hid (fun (W : World) (hW : Below wb.heap.size wb W) => stx_any (c := c) (ji := 0) (B := w.heap.size) (n := 1) hnv hq hnq (hex q hqk) hqF rfl (by omega) (HBW.out.trans (hW.mono HBW.out.size)) (by have := hW.size; omega) ((hW.cell (p := ⟨w.heap.size, 0, none⟩) (by show w.heap.size < _; omega)).trans hc0) ((hW.cell (p := ⟨w.heap.size + 1, 4, none⟩) (by show w.heap.size + 1 < _; omega)).trans b4) ((hW.cell (p := ⟨w.heap.size + 1 + 1, 0, none⟩) (by show w.heap.size + 1 + 1 < _; omega)).trans hc2) (show d + q ≤ 9000 by omega))
  rw [← hxq] at HXq
  have HNV := Lib.hid hnv
  unfold DsN ndW
  rw [e, hkn, HV.out]
  clear hev hnv e hw hbel hq hq2 hqf hqF hnq hxq hkn hex
  go_enter Tryz.func51, Tryz.ntmps51
  go_wp2_with fail
  clear hwb b0 b1 b2 b3 b4 hc0 hc2
  refine Calls.mono (HXq.out wb (Below.refl _ _)) ?_
  rintro e w1 ⟨rfl, hb1⟩
  have HB1 := Lib.hid (HBL.out.trans (hb1.mono HBL.out.size))
  clear hb1
  go_wp2_with fail
  go_ret
  exact ⟨rfl, HB1.out⟩
set_option maxHeartbeats 8000000 in
theorem ds_14_1 (hev : Ev w0 (some ⟨b, off, none⟩) c T m) (hex : ∀ q, q < k → DxC w0 b off c T q) (hnv : NodeV w0 b off T k A4 c4) (e : (ndT T k).kind = 14) (hk1 : (ndT T k).kids.length = 1) (hw : Below w0.heap.size w0 w) (hd : d + k ≤ 9000) : DsN b off c T k A4 c4 d w := by
  have hkT := hnv.lt
  have hkn : (ndT T k).kids.length = 1 := by
    have hc := cnt_at hev.good hkT
    unfold cntN at hc
    rw [e] at hc
    simp at hc
    omega
  obtain ⟨q, hq, hq2, hqk, hqf⟩ := kid_at hev.good hkT (j := 0) (by omega)
  obtain ⟨Aq, cq, hnq⟩ := hev.node (show q < T.length by omega)
  have hqF : isE (ndT T q).kind = true := by
    unfold kidN at hqf
    rw [e] at hqf
    (try rw [hkn] at hqf)
    simp at hqf
    first | exact hqf | (rw [hqf]; rfl) | omega
  obtain ⟨xq, hxq⟩ : ∃ x, x = sL (prN T q d) := ⟨_, rfl⟩
  have hxqs : xq.size ≤ 100000000 := by rw [hxq, sL_size]; exact hev.bd (by omega) (by omega)
  obtain ⟨b5, o5, rfl, _, hb5, _⟩ := hnv.kid hw hq
  have HTX := Lib.hid (show prN T k d = [114, 101, 116, 117, 114, 110, 32] ++ prN T q d by
    rw [← prT_kid hqk, ← hq2]
    unfold prN prS
    simp [e, hkn])
  have HV := Lib.hid (show sL (prN T k d) = (⟨#[114, 101, 116, 117, 114, 110, 32]⟩ : ByteArray) ++ xq by
    rw [HTX.out]
    (repeat rw [← sL_app])
    (try rw [sL_tx])
    rw [hxq]
    (try rfl))
  obtain ⟨wb, hwb, hc0, ⟨b0, b1, b2, b3, b4⟩, hc2, hbel, hbs⟩ := box_three w (trV b off c T) 14 (ndT T k).num (d : Int) (ndT T k).text (ndT T k).typ (.slice (some ⟨b5, o5, none⟩) 1 c4)
  have HBW := Lib.hid (hw.trans (hbel.mono hw.size))
  have HBL := Lib.hid hbel
  have HXq := Lib.hid (fun (W : World) (hW : Below wb.heap.size wb W) => stx_any (c := c) (ji := 0) (B := w.heap.size) (n := 1) hnv hq hnq (hex q hqk) hqF rfl (by omega) (HBW.out.trans (hW.mono HBW.out.size)) (by have := hW.size; omega) ((hW.cell (p := ⟨w.heap.size, 0, none⟩) (by show w.heap.size < _; omega)).trans hc0) ((hW.cell (p := ⟨w.heap.size + 1, 4, none⟩) (by show w.heap.size + 1 < _; omega)).trans b4) ((hW.cell (p := ⟨w.heap.size + 1 + 1, 0, none⟩) (by show w.heap.size + 1 + 1 < _; omega)).trans hc2) (show d + q ≤ 9000 by omega))
  rw [← hxq] at HXq
  have HNV := Lib.hid hnv
  unfold DsN ndW
  rw [e, hkn, HV.out]
  clear hev hnv e hw hbel hq hq2 hqf hqF hnq hxq hkn hex hk1
  go_enter Tryz.func51, Tryz.ntmps51
  go_wp2_with fail
  clear hwb b0 b1 b2 b3 b4 hc0 hc2
  refine Calls.mono (HXq.out wb (Below.refl _ _)) ?_
  rintro e w1 ⟨rfl, hb1⟩
  have HB1 := Lib.hid (HBL.out.trans (hb1.mono HBL.out.size))
  clear hb1
  go_wp2_with fail
  go_ret
  exact ⟨rfl, HB1.out⟩
set_option maxHeartbeats 8000000 in
theorem ds_8 (hev : Ev w0 (some ⟨b, off, none⟩) c T m) (hex : ∀ q, q < k → DxC w0 b off c T q) (hnv : NodeV w0 b off T k A4 c4) (e : (ndT T k).kind = 8) (hw : Below w0.heap.size w0 w) (hd : d + k ≤ 9000) : DsN b off c T k A4 c4 d w := by
  have hkT := hnv.lt
  have hkn : (ndT T k).kids.length = 2 := by
    have hc := cnt_at hev.good hkT
    unfold cntN at hc
    rw [e] at hc
    simp at hc
    omega
  obtain ⟨q, hq, hq2, hqk, hqf⟩ := kid_at hev.good hkT (j := 0) (by omega)
  obtain ⟨Aq, cq, hnq⟩ := hev.node (show q < T.length by omega)
  have hqF : isE (ndT T q).kind = true := by
    unfold kidN at hqf
    rw [e] at hqf
    (try rw [hkn] at hqf)
    simp at hqf
    first | exact hqf | (rw [hqf]; rfl) | omega
  obtain ⟨xq, hxq⟩ : ∃ x, x = sL (prN T q d) := ⟨_, rfl⟩
  have hxqs : xq.size ≤ 100000000 := by rw [hxq, sL_size]; exact hev.bd (by omega) (by omega)
  obtain ⟨p, hp, hp2, hpk, hpf⟩ := kid_at hev.good hkT (j := 1) (by omega)
  obtain ⟨Ap, cp, hnp⟩ := hev.node (show p < T.length by omega)
  have hpF : isE (ndT T p).kind = true := by
    unfold kidN at hpf
    rw [e] at hpf
    (try rw [hkn] at hpf)
    simp at hpf
    first | exact hpf | (rw [hpf]; rfl) | omega
  obtain ⟨xp, hxp⟩ : ∃ x, x = sL (prN T p d) := ⟨_, rfl⟩
  have hxps : xp.size ≤ 100000000 := by rw [hxp, sL_size]; exact hev.bd (by omega) (by omega)
  obtain ⟨b5, o5, rfl, _, hb5, _⟩ := hnv.kid hw hq
  have HTX := Lib.hid (show prN T k d = prN T q d ++ [32, 61, 32] ++ prN T p d by
    rw [← prT_kid hqk, ← hq2, ← prT_kid hpk, ← hp2]
    unfold prN prS
    simp [e])
  have HV := Lib.hid (show sL (prN T k d) = xq ++ (⟨#[32, 61, 32]⟩ : ByteArray) ++ xp by
    rw [HTX.out]
    (repeat rw [← sL_app])
    (try rw [sL_tx])
    rw [hxq, hxp]
    (try rfl))
  obtain ⟨wb, hwb, hc0, ⟨b0, b1, b2, b3, b4⟩, hc2, hbel, hbs⟩ := box_three w (trV b off c T) 8 (ndT T k).num (d : Int) (ndT T k).text (ndT T k).typ (.slice (some ⟨b5, o5, none⟩) 2 c4)
  have HBW := Lib.hid (hw.trans (hbel.mono hw.size))
  have HBL := Lib.hid hbel
  have HXq := Lib.hid (fun (W : World) (hW : Below wb.heap.size wb W) => stx_any (c := c) (ji := 0) (B := w.heap.size) (n := 2) hnv hq hnq (hex q hqk) hqF rfl (by omega) (HBW.out.trans (hW.mono HBW.out.size)) (by have := hW.size; omega) ((hW.cell (p := ⟨w.heap.size, 0, none⟩) (by show w.heap.size < _; omega)).trans hc0) ((hW.cell (p := ⟨w.heap.size + 1, 4, none⟩) (by show w.heap.size + 1 < _; omega)).trans b4) ((hW.cell (p := ⟨w.heap.size + 1 + 1, 0, none⟩) (by show w.heap.size + 1 + 1 < _; omega)).trans hc2) (show d + q ≤ 9000 by omega))
  rw [← hxq] at HXq
  have HXp := Lib.hid (fun (W : World) (hW : Below wb.heap.size wb W) => stx_any (c := c) (ji := 1) (B := w.heap.size) (n := 2) hnv hp hnp (hex p hpk) hpF rfl (by omega) (HBW.out.trans (hW.mono HBW.out.size)) (by have := hW.size; omega) ((hW.cell (p := ⟨w.heap.size, 0, none⟩) (by show w.heap.size < _; omega)).trans hc0) ((hW.cell (p := ⟨w.heap.size + 1, 4, none⟩) (by show w.heap.size + 1 < _; omega)).trans b4) ((hW.cell (p := ⟨w.heap.size + 1 + 1, 0, none⟩) (by show w.heap.size + 1 + 1 < _; omega)).trans hc2) (show d + p ≤ 9000 by omega))
  rw [← hxp] at HXp
  have HNV := Lib.hid hnv
  unfold DsN ndW
  rw [e, hkn, HV.out]
  clear hev hnv e hw hbel hq hq2 hqf hqF hnq hxq hp hp2 hpf hpF hnp hxp hkn hex
  go_enter Tryz.func51, Tryz.ntmps51
  go_wp2_with fail
  clear hwb b0 b1 b2 b3 b4 hc0 hc2
  refine Calls.mono (HXq.out wb (Below.refl _ _)) ?_
  rintro e w1 ⟨rfl, hb1⟩
  have HB1 := Lib.hid hb1
  clear hb1
  go_wp2_with fail
  refine Calls.mono (HXp.out w1 HB1.out) ?_
  rintro e w2 ⟨rfl, hb2⟩
  have HB2 := Lib.hid (HBL.out.trans ((HB1.out.trans (hb2.mono HB1.out.size)).mono HBL.out.size))
  clear hb2
  go_wp2_with fail
  go_ret
  exact ⟨rfl, HB2.out⟩
set_option maxHeartbeats 8000000 in
theorem ds_7 (hev : Ev w0 (some ⟨b, off, none⟩) c T m) (hex : ∀ q, q < k → DxC w0 b off c T q) (hnv : NodeV w0 b off T k A4 c4) (e : (ndT T k).kind = 7) (hw : Below w0.heap.size w0 w) (hd : d + k ≤ 9000) : DsN b off c T k A4 c4 d w := by
  have hkT := hnv.lt
  have hkn : (ndT T k).kids.length = 1 := by
    have hc := cnt_at hev.good hkT
    unfold cntN at hc
    rw [e] at hc
    simp at hc
    omega
  obtain ⟨q, hq, hq2, hqk, hqf⟩ := kid_at hev.good hkT (j := 0) (by omega)
  obtain ⟨Aq, cq, hnq⟩ := hev.node (show q < T.length by omega)
  have hqF : isE (ndT T q).kind = true := by
    unfold kidN at hqf
    rw [e] at hqf
    (try rw [hkn] at hqf)
    simp at hqf
    first | exact hqf | (rw [hqf]; rfl) | omega
  obtain ⟨xq, hxq⟩ : ∃ x, x = sL (prN T q d) := ⟨_, rfl⟩
  have hxqs : xq.size ≤ 100000000 := by rw [hxq, sL_size]; exact hev.bd (by omega) (by omega)
  obtain ⟨b5, o5, rfl, _, hb5, _⟩ := hnv.kid hw hq
  have HTX := Lib.hid (show prN T k d = txB (ndT T k).text ++ [32, 58, 61, 32] ++ prN T q d by
    rw [← prT_kid hqk, ← hq2]
    unfold prN prS
    simp [e])
  have HV := Lib.hid (show sL (prN T k d) = (ndT T k).text ++ (⟨#[32, 58, 61, 32]⟩ : ByteArray) ++ xq by
    rw [HTX.out]
    (repeat rw [← sL_app])
    (try rw [sL_tx])
    rw [hxq]
    (try rfl))
  obtain ⟨wb, hwb, hc0, ⟨b0, b1, b2, b3, b4⟩, hc2, hbel, hbs⟩ := box_three w (trV b off c T) 7 (ndT T k).num (d : Int) (ndT T k).text (ndT T k).typ (.slice (some ⟨b5, o5, none⟩) 1 c4)
  have HBW := Lib.hid (hw.trans (hbel.mono hw.size))
  have HBL := Lib.hid hbel
  have HXq := Lib.hid (fun (W : World) (hW : Below wb.heap.size wb W) => stx_any (c := c) (ji := 0) (B := w.heap.size) (n := 1) hnv hq hnq (hex q hqk) hqF rfl (by omega) (HBW.out.trans (hW.mono HBW.out.size)) (by have := hW.size; omega) ((hW.cell (p := ⟨w.heap.size, 0, none⟩) (by show w.heap.size < _; omega)).trans hc0) ((hW.cell (p := ⟨w.heap.size + 1, 4, none⟩) (by show w.heap.size + 1 < _; omega)).trans b4) ((hW.cell (p := ⟨w.heap.size + 1 + 1, 0, none⟩) (by show w.heap.size + 1 + 1 < _; omega)).trans hc2) (show d + q ≤ 9000 by omega))
  rw [← hxq] at HXq
  have HNV := Lib.hid hnv
  unfold DsN ndW
  rw [e, hkn, HV.out]
  have htx : (ndT T k).text.size ≤ 200 := (rg_size (good_at hev.good hkT)).1
  have n1 : ¬ 9223372036854775807 < (ndT T k).text.size + 4 := by omega
  have n2 : ¬ 9223372036854775807 < (ndT T k).text.size + 4 + xq.size := by omega
  have t0 := fun Z : WB wb => (((Below.refl wb.heap.size wb).trans (Z.bel.mono (Below.refl wb.heap.size wb).size)).cell (p := ⟨w.heap.size, 0, none⟩) (by show w.heap.size < _; omega)).trans hc0
  have t1 := fun Z : WB wb => (((Below.refl wb.heap.size wb).trans (Z.bel.mono (Below.refl wb.heap.size wb).size)).cell (p := ⟨w.heap.size + 1, 1, none⟩) (by show w.heap.size + 1 < _; omega)).trans b1
  have t2 := fun Z : WB wb => (((Below.refl wb.heap.size wb).trans (Z.bel.mono (Below.refl wb.heap.size wb).size)).cell (p := ⟨w.heap.size + 1, 2, none⟩) (by show w.heap.size + 1 < _; omega)).trans b2
  have t4 := fun Z : WB wb => (((Below.refl wb.heap.size wb).trans (Z.bel.mono (Below.refl wb.heap.size wb).size)).cell (p := ⟨w.heap.size + 1, 4, none⟩) (by show w.heap.size + 1 < _; omega)).trans b4
  have t5 := fun Z : WB wb => (((Below.refl wb.heap.size wb).trans (Z.bel.mono (Below.refl wb.heap.size wb).size)).cell (p := ⟨w.heap.size + 1 + 1, 0, none⟩) (by show w.heap.size + 1 + 1 < _; omega)).trans hc2
  clear hev hnv e hw hbel hq hq2 hqf hqF hnq hxq hkn hex
  go_enter Tryz.func51, Tryz.ntmps51
  go_wp2_with fail
  clear hwb b0 b1 b2 b3 b4 hc0 hc2
  (refine wp_region_wb (by kernel_rfl) (by kernel_rfl) ?_; (repeat (first | go_big_quiet_step ((go_at_call 70; exact quietB (HXq.out _ (WB.bel _)))) | quiet_step ((go_at_call 70; exact quietB (HXq.out _ (WB.bel _)))))); refine wpQuiet_nil ?_; intro _ hw'; obtain ⟨⟨wq, hbq⟩, hw''⟩ := hw'; subst hw''; (try simp only))
  have HB1 := Lib.hid (HBL.out.trans (hbq.mono HBL.out.size))
  clear hbq t0 t1 t2 t4 t5
  go_wp2_with fail
  go_ret
  exact ⟨rfl, HB1.out⟩
set_option maxHeartbeats 8000000 in
theorem ds_6 (hev : Ev w0 (some ⟨b, off, none⟩) c T m) (hnv : NodeV w0 b off T k A4 c4) (e : (ndT T k).kind = 6) (hw : Below w0.heap.size w0 w) : DsN b off c T k A4 c4 d w := by
  have hkT := hnv.lt
  have HTX := Lib.hid (show prN T k d = [118, 97, 114, 32] ++ txB (ndT T k).text ++ [32] ++ wideL (txB (ndT T k).typ) by
    unfold prN prS
    simp [e])
  have hts := rg_size (good_at hev.good hkT)
  have htx := hts.1
  obtain ⟨xw, hxw⟩ : ∃ x, x = sL (wideL (txB (ndT T k).typ)) := ⟨_, rfl⟩
  have hxws : xw.size ≤ 100000000 := by
    rw [hxw, sL_size]
    have h1 := wideL_len (txB (ndT T k).typ)
    have h2 : (txB (ndT T k).typ).length = (ndT T k).typ.size := rfl
    have := hts.2
    omega
  have HWD := Lib.hid (fun (W : World) => wide_any (ndT T k).typ (by have := hts.2; omega) W)
  rw [← hxw] at HWD
  have HV := Lib.hid (show sL (prN T k d) = (⟨#[118, 97, 114, 32]⟩ : ByteArray) ++ (ndT T k).text ++ (⟨#[32]⟩ : ByteArray) ++ xw by
    rw [HTX.out, hxw, ← sL_app, ← sL_app, ← sL_app, sL_tx]
    rfl)
  obtain ⟨wb, hwb, hc0, ⟨b0, b1, b2, b3, b4⟩, hc2, hbel, hbs⟩ := box_three w (trV b off c T) 6 (ndT T k).num (d : Int) (ndT T k).text (ndT T k).typ (.slice A4 (ndT T k).kids.length c4)
  have HBW := Lib.hid (hw.trans (hbel.mono hw.size))
  have HBL := Lib.hid hbel
  have HNV := Lib.hid hnv
  unfold DsN ndW
  rw [e, HV.out]
  have t0 := fun Z : WB wb => (((Below.refl wb.heap.size wb).trans (Z.bel.mono (Below.refl wb.heap.size wb).size)).cell (p := ⟨w.heap.size, 0, none⟩) (by show w.heap.size < _; omega)).trans hc0
  have t1 := fun Z : WB wb => (((Below.refl wb.heap.size wb).trans (Z.bel.mono (Below.refl wb.heap.size wb).size)).cell (p := ⟨w.heap.size + 1, 1, none⟩) (by show w.heap.size + 1 < _; omega)).trans b1
  have t2 := fun Z : WB wb => (((Below.refl wb.heap.size wb).trans (Z.bel.mono (Below.refl wb.heap.size wb).size)).cell (p := ⟨w.heap.size + 1, 2, none⟩) (by show w.heap.size + 1 < _; omega)).trans b2
  have t4 := fun Z : WB wb => (((Below.refl wb.heap.size wb).trans (Z.bel.mono (Below.refl wb.heap.size wb).size)).cell (p := ⟨w.heap.size + 1, 4, none⟩) (by show w.heap.size + 1 < _; omega)).trans b4
  have t5 := fun Z : WB wb => (((Below.refl wb.heap.size wb).trans (Z.bel.mono (Below.refl wb.heap.size wb).size)).cell (p := ⟨w.heap.size + 1 + 1, 0, none⟩) (by show w.heap.size + 1 + 1 < _; omega)).trans hc2
  have n1 : ¬ 9223372036854775807 < 4 + (ndT T k).text.size := by omega
  have n2 : ¬ 9223372036854775807 < 4 + (ndT T k).text.size + 1 := by omega
  have n3 : ¬ 9223372036854775807 < 4 + (ndT T k).text.size + 1 + xw.size := by omega
  clear hev hnv e hw hbel hxw hts
  go_enter Tryz.func51, Tryz.ntmps51
  go_wp2_with fail
  clear hwb b0 b1 b2 b3 b4 hc0 hc2
  (refine wp_region_wb (by kernel_rfl) (by kernel_rfl) ?_; (repeat (first | go_big_quiet_step ((go_at_call 35; exact quietB_same (HWD.out _))) | quiet_step ((go_at_call 35; exact quietB_same (HWD.out _))))); refine wpQuiet_nil ?_; intro _ hw'; obtain ⟨⟨wq, hbq⟩, hw''⟩ := hw'; subst hw''; (try simp only))
  have HB1 := Lib.hid (HBL.out.trans (hbq.mono HBL.out.size))
  clear hbq t0 t1 t2 t4 t5
  go_wp2_with fail
  go_ret
  exact ⟨rfl, HB1.out⟩
set_option maxHeartbeats 4000000 in
theorem ds_5 (hbl : DbC w0 b off c T k) (hnv : NodeV w0 b off T k A4 c4) (e : (ndT T k).kind = 5) (hw : Below w0.heap.size w0 w) (hd : d + k ≤ 9000) : DsN b off c T k A4 c4 d w := by
  obtain ⟨wb, hwb, hc0, ⟨b0, b1, b2, b3, b4⟩, hc2, hbel, hbs⟩ := box_three w (trV b off c T) 5 (ndT T k).num (d : Int) (ndT T k).text (ndT T k).typ (.slice A4 (ndT T k).kids.length c4)
  have HBL := Lib.hid hbel
  have HC := Lib.hid (hbl _ _ hnv e d wb (hw.trans (hbel.mono hw.size)) hd)
  unfold ndW at HC
  unfold DsN ndW
  rw [e] at HC ⊢
  generalize sL (prN T k d) = x at *
  clear hbl hnv e hw hbel
  go_enter Tryz.func51, Tryz.ntmps51
  go_wp2_with fail
  clear hwb b0 b1 b2 b3 b4 hc0 hc2
  refine Calls.mono HC.out ?_
  rintro e w1 ⟨rfl, hb1⟩
  have HB1 := Lib.hid (HBL.out.trans (hb1.mono HBL.out.size))
  clear hb1
  go_wp2_with fail
  go_ret
  exact ⟨rfl, HB1.out⟩
set_option maxHeartbeats 8000000 in
theorem ds_10_2 (hev : Ev w0 (some ⟨b, off, none⟩) c T m) (hex : ∀ q, q < k → DxC w0 b off c T q) (hbl : ∀ q, q < k → DbC w0 b off c T q) (hnv : NodeV w0 b off T k A4 c4) (e : (ndT T k).kind = 10) (hk2 : (ndT T k).kids.length = 2) (hw : Below w0.heap.size w0 w) (hd : d + k ≤ 9000) : DsN b off c T k A4 c4 d w := by
  have hkT := hnv.lt
  have hkn : (ndT T k).kids.length = 2 := by
    have hc := cnt_at hev.good hkT
    unfold cntN at hc
    rw [e] at hc
    simp at hc
    omega
  obtain ⟨q, hq, hq2, hqk, hqf⟩ := kid_at hev.good hkT (j := 0) (by omega)
  obtain ⟨Aq, cq, hnq⟩ := hev.node (show q < T.length by omega)
  have hqF : isE (ndT T q).kind = true := by
    unfold kidN at hqf
    rw [e] at hqf
    (try rw [hkn] at hqf)
    simp at hqf
    first | exact hqf | (rw [hqf]; rfl) | omega
  obtain ⟨xq, hxq⟩ : ∃ x, x = sL (prN T q d) := ⟨_, rfl⟩
  have hxqs : xq.size ≤ 100000000 := by rw [hxq, sL_size]; exact hev.bd (by omega) (by omega)
  obtain ⟨p, hp, hp2, hpk, hpf⟩ := kid_at hev.good hkT (j := 1) (by omega)
  obtain ⟨Ap, cp, hnp⟩ := hev.node (show p < T.length by omega)
  have hpF : (ndT T p).kind = 5 := by
    unfold kidN at hpf
    rw [e] at hpf
    (try rw [hkn] at hpf)
    simp at hpf
    first | exact hpf | (rw [hpf]; rfl) | omega
  obtain ⟨xp, hxp⟩ : ∃ x, x = sL (prN T p d) := ⟨_, rfl⟩
  have hxps : xp.size ≤ 100000000 := by rw [hxp, sL_size]; exact hev.bd (by omega) (by omega)
  obtain ⟨b5, o5, rfl, _, hb5, _⟩ := hnv.kid hw hq
  have HTX := Lib.hid (show prN T k d = [105, 102, 32] ++ prN T q d ++ [32] ++ prN T p d by
    rw [← prT_kid hqk, ← hq2, ← prT_kid hpk, ← hp2]
    unfold prN prS
    simp [e, hkn])
  have HV := Lib.hid (show sL (prN T k d) = (⟨#[105, 102, 32]⟩ : ByteArray) ++ xq ++ (⟨#[32]⟩ : ByteArray) ++ xp by
    rw [HTX.out]
    (repeat rw [← sL_app])
    (try rw [sL_tx])
    rw [hxq, hxp]
    (try rfl))
  obtain ⟨wb, hwb, hc0, ⟨b0, b1, b2, b3, b4⟩, hc2, hbel, hbs⟩ := box_three w (trV b off c T) 10 (ndT T k).num (d : Int) (ndT T k).text (ndT T k).typ (.slice (some ⟨b5, o5, none⟩) 2 c4)
  have HBW := Lib.hid (hw.trans (hbel.mono hw.size))
  have HBL := Lib.hid hbel
  have HXq := Lib.hid (fun (W : World) (hW : Below wb.heap.size wb W) => stx_any (c := c) (ji := 0) (B := w.heap.size) (n := 2) hnv hq hnq (hex q hqk) hqF rfl (by omega) (HBW.out.trans (hW.mono HBW.out.size)) (by have := hW.size; omega) ((hW.cell (p := ⟨w.heap.size, 0, none⟩) (by show w.heap.size < _; omega)).trans hc0) ((hW.cell (p := ⟨w.heap.size + 1, 4, none⟩) (by show w.heap.size + 1 < _; omega)).trans b4) ((hW.cell (p := ⟨w.heap.size + 1 + 1, 0, none⟩) (by show w.heap.size + 1 + 1 < _; omega)).trans hc2) (show d + q ≤ 9000 by omega))
  rw [← hxq] at HXq
  have HXp := Lib.hid (fun (W : World) (hW : Below wb.heap.size wb W) => hbl p hpk _ _ hnp hpF d W (HBW.out.trans (hW.mono HBW.out.size)) (by omega))
  unfold ndW at HXp
  rw [← hxp] at HXp
  rw [hpF] at HXp
  have HNp := Lib.hid hnp
  have HKp := Lib.hid hp
  have HpT : (p : Int) < (T.length : Int) := by omega
  have HpF := Lib.hid hpF
  have HNV := Lib.hid hnv
  unfold DsN ndW
  rw [e, hkn, HV.out]
  have t0 := fun Z : WB wb => (((Below.refl wb.heap.size wb).trans (Z.bel.mono (Below.refl wb.heap.size wb).size)).cell (p := ⟨w.heap.size, 0, none⟩) (by show w.heap.size < _; omega)).trans hc0
  have t1 := fun Z : WB wb => (((Below.refl wb.heap.size wb).trans (Z.bel.mono (Below.refl wb.heap.size wb).size)).cell (p := ⟨w.heap.size + 1, 1, none⟩) (by show w.heap.size + 1 < _; omega)).trans b1
  have t2 := fun Z : WB wb => (((Below.refl wb.heap.size wb).trans (Z.bel.mono (Below.refl wb.heap.size wb).size)).cell (p := ⟨w.heap.size + 1, 2, none⟩) (by show w.heap.size + 1 < _; omega)).trans b2
  have t4 := fun Z : WB wb => (((Below.refl wb.heap.size wb).trans (Z.bel.mono (Below.refl wb.heap.size wb).size)).cell (p := ⟨w.heap.size + 1, 4, none⟩) (by show w.heap.size + 1 < _; omega)).trans b4
  have t5 := fun Z : WB wb => (((Below.refl wb.heap.size wb).trans (Z.bel.mono (Below.refl wb.heap.size wb).size)).cell (p := ⟨w.heap.size + 1 + 1, 0, none⟩) (by show w.heap.size + 1 + 1 < _; omega)).trans hc2
  have hkcp := HNp.out.cells HBW.out
  obtain ⟨b', o', e1, _, hb5p, zp⟩ := HNV.out.kid HBW.out HKp.out
  injection e1 with e1
  injection e1 with e1 e2
  subst e1 e2
  have hbp : b < wb.heap.size := Nat.lt_of_lt_of_le HNp.out.hb (Below.size HBW.out)
  have hb5p : b5 < wb.heap.size := Nat.lt_of_lt_of_le hb5 (Below.size HBW.out)
  have rp := fun Z : WB wb => (Z.bel.cell (p := ⟨b5, o5 + 1, none⟩) hb5p).trans zp
  have kp0 := fun Z : WB wb => (Z.bel.cell (p := ⟨b, off + p * 5, none⟩) hbp).trans hkcp.1
  have kp1 := fun Z : WB wb => (Z.bel.cell (p := ⟨b, off + p * 5 + 1, none⟩) hbp).trans hkcp.2.1
  have kp2 := fun Z : WB wb => (Z.bel.cell (p := ⟨b, off + p * 5 + 2, none⟩) hbp).trans hkcp.2.2.1
  have kp3 := fun Z : WB wb => (Z.bel.cell (p := ⟨b, off + p * 5 + 3, none⟩) hbp).trans hkcp.2.2.2.1
  have kp4 := fun Z : WB wb => (Z.bel.cell (p := ⟨b, off + p * 5 + 4, none⟩) hbp).trans hkcp.2.2.2.2
  clear hkcp zp
  rw [HpF.out] at kp0
  have n1 : ¬ 9223372036854775807 < 3 + xq.size := by omega
  have n2 : ¬ 9223372036854775807 < 3 + xq.size + 1 := by omega
  have n3 : ¬ 9223372036854775807 < 3 + xq.size + 1 + xp.size := by omega
  clear hev hnv e hw hbel hq hq2 hqf hqF hnq hxq hp hp2 hpf hpF hnp hxp hkn hex hbl hk2
  go_enter Tryz.func51, Tryz.ntmps51
  go_wp2_with fail
  clear hwb
  (refine wp_region_wb (by kernel_rfl) (by kernel_rfl) ?_; (repeat (first | go_big_quiet_step ((first | (go_at_call 70; exact quietB (HXq.out _ (WB.bel _))) | (go_at_call 36; exact quietB (HXp.out _ (WB.bel _))))) | quiet_step ((first | (go_at_call 70; exact quietB (HXq.out _ (WB.bel _))) | (go_at_call 36; exact quietB (HXp.out _ (WB.bel _))))))); refine wpQuiet_nil ?_; intro _ hw'; obtain ⟨⟨wq, hbq⟩, hw''⟩ := hw'; subst hw''; (try simp only))
  rename_i wq
  have HBQ := Lib.hid hbq
  clear t0 t1 t2 t4 t5 rp kp0 kp1 kp2 kp3 kp4
  have b4x := (hbq.cell (p := ⟨w.heap.size + 1, 4, none⟩) (by show w.heap.size + 1 < _; omega)).trans b4
  clear hbq
  clear hc0 b0 b1 b2 b3 b4 hc2
  go_wp2_with fail
  clear b4x
  go_ret
  exact ⟨rfl, HBL.out.trans (HBQ.out.mono HBL.out.size)⟩
set_option maxHeartbeats 8000000 in
theorem ds_10_3 (hev : Ev w0 (some ⟨b, off, none⟩) c T m) (hex : ∀ q, q < k → DxC w0 b off c T q) (hbl : ∀ q, q < k → DbC w0 b off c T q) (hst : ∀ q, q < k → DsC w0 b off c T q) (hnv : NodeV w0 b off T k A4 c4) (e : (ndT T k).kind = 10) (hk3 : (ndT T k).kids.length = 3) (hw : Below w0.heap.size w0 w) (hd : d + k ≤ 9000) : DsN b off c T k A4 c4 d w := by
  have hkT := hnv.lt
  have hkn : (ndT T k).kids.length = 3 := by
    have hc := cnt_at hev.good hkT
    unfold cntN at hc
    rw [e] at hc
    simp at hc
    omega
  obtain ⟨q, hq, hq2, hqk, hqf⟩ := kid_at hev.good hkT (j := 0) (by omega)
  obtain ⟨Aq, cq, hnq⟩ := hev.node (show q < T.length by omega)
  have hqF : isE (ndT T q).kind = true := by
    unfold kidN at hqf
    rw [e] at hqf
    (try rw [hkn] at hqf)
    simp at hqf
    first | exact hqf | (rw [hqf]; rfl) | omega
  obtain ⟨xq, hxq⟩ : ∃ x, x = sL (prN T q d) := ⟨_, rfl⟩
  have hxqs : xq.size ≤ 100000000 := by rw [hxq, sL_size]; exact hev.bd (by omega) (by omega)
  obtain ⟨p, hp, hp2, hpk, hpf⟩ := kid_at hev.good hkT (j := 1) (by omega)
  obtain ⟨Ap, cp, hnp⟩ := hev.node (show p < T.length by omega)
  have hpF : (ndT T p).kind = 5 := by
    unfold kidN at hpf
    rw [e] at hpf
    (try rw [hkn] at hpf)
    simp at hpf
    first | exact hpf | (rw [hpf]; rfl) | omega
  obtain ⟨xp, hxp⟩ : ∃ x, x = sL (prN T p d) := ⟨_, rfl⟩
  have hxps : xp.size ≤ 100000000 := by rw [hxp, sL_size]; exact hev.bd (by omega) (by omega)
  obtain ⟨s, hs, hs2, hsk, hsf⟩ := kid_at hev.good hkT (j := 2) (by omega)
  obtain ⟨As, cs, hns⟩ := hev.node (show s < T.length by omega)
  have hsF : 5 ≤ (ndT T s).kind ∧ (ndT T s).kind ≤ 15 := by
    unfold kidN at hsf
    rw [e] at hsf
    (try rw [hkn] at hsf)
    simp at hsf
    first | exact hsf | (rw [hsf]; rfl) | omega
  obtain ⟨xs, hxs⟩ : ∃ x, x = sL (prN T s d) := ⟨_, rfl⟩
  have hxss : xs.size ≤ 100000000 := by rw [hxs, sL_size]; exact hev.bd (by omega) (by omega)
  obtain ⟨b5, o5, rfl, _, hb5, _⟩ := hnv.kid hw hq
  have HTX := Lib.hid (show prN T k d = [105, 102, 32] ++ prN T q d ++ [32] ++ prN T p d ++ ([32, 101, 108, 115, 101, 32] ++ prN T s d) by
    rw [← prT_kid hqk, ← hq2, ← prT_kid hpk, ← hp2, ← prT_kid hsk, ← hs2]
    unfold prN prS
    simp [e, hkn])
  have HV := Lib.hid (show sL (prN T k d) = (⟨#[105, 102, 32]⟩ : ByteArray) ++ xq ++ (⟨#[32]⟩ : ByteArray) ++ xp ++ ((⟨#[32, 101, 108, 115, 101, 32]⟩ : ByteArray) ++ xs) by
    rw [HTX.out]
    (repeat rw [← sL_app])
    (try rw [sL_tx])
    rw [hxq, hxp, hxs]
    (try rfl))
  obtain ⟨wb, hwb, hc0, ⟨b0, b1, b2, b3, b4⟩, hc2, hbel, hbs⟩ := box_three w (trV b off c T) 10 (ndT T k).num (d : Int) (ndT T k).text (ndT T k).typ (.slice (some ⟨b5, o5, none⟩) 3 c4)
  have HBW := Lib.hid (hw.trans (hbel.mono hw.size))
  have HBL := Lib.hid hbel
  have HXq := Lib.hid (fun (W : World) (hW : Below wb.heap.size wb W) => stx_any (c := c) (ji := 0) (B := w.heap.size) (n := 3) hnv hq hnq (hex q hqk) hqF rfl (by omega) (HBW.out.trans (hW.mono HBW.out.size)) (by have := hW.size; omega) ((hW.cell (p := ⟨w.heap.size, 0, none⟩) (by show w.heap.size < _; omega)).trans hc0) ((hW.cell (p := ⟨w.heap.size + 1, 4, none⟩) (by show w.heap.size + 1 < _; omega)).trans b4) ((hW.cell (p := ⟨w.heap.size + 1 + 1, 0, none⟩) (by show w.heap.size + 1 + 1 < _; omega)).trans hc2) (show d + q ≤ 9000 by omega))
  rw [← hxq] at HXq
  have HXp := Lib.hid (fun (W : World) (hW : Below wb.heap.size wb W) => hbl p hpk _ _ hnp hpF d W (HBW.out.trans (hW.mono HBW.out.size)) (by omega))
  unfold ndW at HXp
  rw [← hxp] at HXp
  rw [hpF] at HXp
  have HNp := Lib.hid hnp
  have HKp := Lib.hid hp
  have HpT : (p : Int) < (T.length : Int) := by omega
  have HpF := Lib.hid hpF
  have HXs := Lib.hid (fun (W : World) (hW : Below wb.heap.size wb W) => hst s hsk _ _ hns hsF d W (HBW.out.trans (hW.mono HBW.out.size)) (by omega))
  unfold ndW at HXs
  rw [← hxs] at HXs
  have HNs := Lib.hid hns
  have HKs := Lib.hid hs
  have HsT : (s : Int) < (T.length : Int) := by omega
  have HsF := Lib.hid hsF
  have HNV := Lib.hid hnv
  unfold DsN ndW
  rw [e, hkn, HV.out]
  have t0 := fun Z : WB wb => (((Below.refl wb.heap.size wb).trans (Z.bel.mono (Below.refl wb.heap.size wb).size)).cell (p := ⟨w.heap.size, 0, none⟩) (by show w.heap.size < _; omega)).trans hc0
  have t1 := fun Z : WB wb => (((Below.refl wb.heap.size wb).trans (Z.bel.mono (Below.refl wb.heap.size wb).size)).cell (p := ⟨w.heap.size + 1, 1, none⟩) (by show w.heap.size + 1 < _; omega)).trans b1
  have t2 := fun Z : WB wb => (((Below.refl wb.heap.size wb).trans (Z.bel.mono (Below.refl wb.heap.size wb).size)).cell (p := ⟨w.heap.size + 1, 2, none⟩) (by show w.heap.size + 1 < _; omega)).trans b2
  have t4 := fun Z : WB wb => (((Below.refl wb.heap.size wb).trans (Z.bel.mono (Below.refl wb.heap.size wb).size)).cell (p := ⟨w.heap.size + 1, 4, none⟩) (by show w.heap.size + 1 < _; omega)).trans b4
  have t5 := fun Z : WB wb => (((Below.refl wb.heap.size wb).trans (Z.bel.mono (Below.refl wb.heap.size wb).size)).cell (p := ⟨w.heap.size + 1 + 1, 0, none⟩) (by show w.heap.size + 1 + 1 < _; omega)).trans hc2
  have hkcp := HNp.out.cells HBW.out
  obtain ⟨b', o', e1, _, hb5p, zp⟩ := HNV.out.kid HBW.out HKp.out
  injection e1 with e1
  injection e1 with e1 e2
  subst e1 e2
  have hbp : b < wb.heap.size := Nat.lt_of_lt_of_le HNp.out.hb (Below.size HBW.out)
  have hb5p : b5 < wb.heap.size := Nat.lt_of_lt_of_le hb5 (Below.size HBW.out)
  have rp := fun Z : WB wb => (Z.bel.cell (p := ⟨b5, o5 + 1, none⟩) hb5p).trans zp
  have kp0 := fun Z : WB wb => (Z.bel.cell (p := ⟨b, off + p * 5, none⟩) hbp).trans hkcp.1
  have kp1 := fun Z : WB wb => (Z.bel.cell (p := ⟨b, off + p * 5 + 1, none⟩) hbp).trans hkcp.2.1
  have kp2 := fun Z : WB wb => (Z.bel.cell (p := ⟨b, off + p * 5 + 2, none⟩) hbp).trans hkcp.2.2.1
  have kp3 := fun Z : WB wb => (Z.bel.cell (p := ⟨b, off + p * 5 + 3, none⟩) hbp).trans hkcp.2.2.2.1
  have kp4 := fun Z : WB wb => (Z.bel.cell (p := ⟨b, off + p * 5 + 4, none⟩) hbp).trans hkcp.2.2.2.2
  clear hkcp zp
  rw [HpF.out] at kp0
  have n1 : ¬ 9223372036854775807 < 3 + xq.size := by omega
  have n2 : ¬ 9223372036854775807 < 3 + xq.size + 1 := by omega
  have n3 : ¬ 9223372036854775807 < 3 + xq.size + 1 + xp.size := by omega
  have n4 : ¬ 9223372036854775807 < 6 + xs.size := by omega
  have n5 : ¬ 9223372036854775807 < 3 + xq.size + 1 + xp.size + (6 + xs.size) := by omega
  clear hev hnv e hw hbel hq hq2 hqf hqF hnq hxq hp hp2 hpf hpF hnp hxp hs hs2 hsf hsF hns hxs hkn hex hbl hst hk3
  go_enter Tryz.func51, Tryz.ntmps51
  go_wp2_with fail
  clear hwb
  (refine wp_region_wb (by kernel_rfl) (by kernel_rfl) ?_; (repeat (first | go_big_quiet_step ((first | (go_at_call 70; exact quietB (HXq.out _ (WB.bel _))) | (go_at_call 36; exact quietB (HXp.out _ (WB.bel _))))) | quiet_step ((first | (go_at_call 70; exact quietB (HXq.out _ (WB.bel _))) | (go_at_call 36; exact quietB (HXp.out _ (WB.bel _))))))); refine wpQuiet_nil ?_; intro _ hw'; obtain ⟨⟨wq, hbq⟩, hw''⟩ := hw'; subst hw''; (try simp only))
  rename_i wq
  have HBQ := Lib.hid hbq
  clear t0 t1 t2 t4 t5 rp kp0 kp1 kp2 kp3 kp4
  have b4x := (hbq.cell (p := ⟨w.heap.size + 1, 4, none⟩) (by show w.heap.size + 1 < _; omega)).trans b4
  clear hbq
  have t0 := fun Z : WB wq => ((HBQ.out.trans (Z.bel.mono HBQ.out.size)).cell (p := ⟨w.heap.size, 0, none⟩) (by show w.heap.size < _; omega)).trans hc0
  have t1 := fun Z : WB wq => ((HBQ.out.trans (Z.bel.mono HBQ.out.size)).cell (p := ⟨w.heap.size + 1, 1, none⟩) (by show w.heap.size + 1 < _; omega)).trans b1
  have t2 := fun Z : WB wq => ((HBQ.out.trans (Z.bel.mono HBQ.out.size)).cell (p := ⟨w.heap.size + 1, 2, none⟩) (by show w.heap.size + 1 < _; omega)).trans b2
  have t4 := fun Z : WB wq => ((HBQ.out.trans (Z.bel.mono HBQ.out.size)).cell (p := ⟨w.heap.size + 1, 4, none⟩) (by show w.heap.size + 1 < _; omega)).trans b4
  have t5 := fun Z : WB wq => ((HBQ.out.trans (Z.bel.mono HBQ.out.size)).cell (p := ⟨w.heap.size + 1 + 1, 0, none⟩) (by show w.heap.size + 1 + 1 < _; omega)).trans hc2
  have HBW2 := Lib.hid (HBW.out.trans (HBQ.out.mono HBW.out.size))
  have hkcs := HNs.out.cells HBW2.out
  obtain ⟨b', o', e1, _, hb5s, zs⟩ := HNV.out.kid HBW2.out HKs.out
  injection e1 with e1
  injection e1 with e1 e2
  subst e1 e2
  have hbs : b < wq.heap.size := Nat.lt_of_lt_of_le HNs.out.hb (Below.size HBW2.out)
  have hb5s : b5 < wq.heap.size := Nat.lt_of_lt_of_le hb5 (Below.size HBW2.out)
  have rs := fun Z : WB wq => (Z.bel.cell (p := ⟨b5, o5 + 2, none⟩) hb5s).trans zs
  have ks0 := fun Z : WB wq => (Z.bel.cell (p := ⟨b, off + s * 5, none⟩) hbs).trans hkcs.1
  have ks1 := fun Z : WB wq => (Z.bel.cell (p := ⟨b, off + s * 5 + 1, none⟩) hbs).trans hkcs.2.1
  have ks2 := fun Z : WB wq => (Z.bel.cell (p := ⟨b, off + s * 5 + 2, none⟩) hbs).trans hkcs.2.2.1
  have ks3 := fun Z : WB wq => (Z.bel.cell (p := ⟨b, off + s * 5 + 3, none⟩) hbs).trans hkcs.2.2.2.1
  have ks4 := fun Z : WB wq => (Z.bel.cell (p := ⟨b, off + s * 5 + 4, none⟩) hbs).trans hkcs.2.2.2.2
  clear hkcs zs
  clear hc0 b0 b1 b2 b3 b4 hc2
  go_wp2_with fail
  (refine wp_region_wb (by kernel_rfl) (by kernel_rfl) ?_; (repeat (first | go_big_quiet_step ((go_at_call 51; exact quietB (HXs.out _ (HBQ.out.trans ((WB.bel _).mono HBQ.out.size))))) | quiet_step ((go_at_call 51; exact quietB (HXs.out _ (HBQ.out.trans ((WB.bel _).mono HBQ.out.size))))))); refine wpQuiet_nil ?_; intro _ hw'; obtain ⟨⟨wq, hbq⟩, hw''⟩ := hw'; subst hw''; (try simp only))
  have HB9 := Lib.hid (HBL.out.trans ((HBQ.out.trans (hbq.mono HBQ.out.size)).mono HBL.out.size))
  clear hbq t0 t1 t2 t4 t5 rs ks0 ks1 ks2 ks3 ks4 b4x
  go_wp2_with fail
  go_ret
  exact ⟨rfl, HB9.out⟩
set_option maxHeartbeats 8000000 in
theorem ds_11_1 (hev : Ev w0 (some ⟨b, off, none⟩) c T m) (hbl : ∀ q, q < k → DbC w0 b off c T q) (hnv : NodeV w0 b off T k A4 c4) (e : (ndT T k).kind = 11) (hk1 : (ndT T k).kids.length = 1) (hw : Below w0.heap.size w0 w) (hd : d + k ≤ 9000) : DsN b off c T k A4 c4 d w := by
  have hkT := hnv.lt
  have hkn : (ndT T k).kids.length = 1 := by
    have hc := cnt_at hev.good hkT
    unfold cntN at hc
    rw [e] at hc
    simp at hc
    omega
  obtain ⟨q, hq, hq2, hqk, hqf⟩ := kid_at hev.good hkT (j := 0) (by omega)
  obtain ⟨Aq, cq, hnq⟩ := hev.node (show q < T.length by omega)
  have hqF : (ndT T q).kind = 5 := by
    unfold kidN at hqf
    rw [e] at hqf
    (try rw [hkn] at hqf)
    simp at hqf
    first | exact hqf | (rw [hqf]; rfl) | omega
  obtain ⟨xq, hxq⟩ : ∃ x, x = sL (prN T q d) := ⟨_, rfl⟩
  have hxqs : xq.size ≤ 100000000 := by rw [hxq, sL_size]; exact hev.bd (by omega) (by omega)
  obtain ⟨b5, o5, rfl, _, hb5, _⟩ := hnv.kid hw hq
  have HTX := Lib.hid (show prN T k d = [102, 111, 114, 32] ++ prN T q d by
    rw [← prT_kid hqk, ← hq2]
    unfold prN prS
    simp [e, hkn])
  have HV := Lib.hid (show sL (prN T k d) = (⟨#[102, 111, 114, 32]⟩ : ByteArray) ++ xq by
    rw [HTX.out]
    (repeat rw [← sL_app])
    (try rw [sL_tx])
    rw [hxq]
    (try rfl))
  obtain ⟨wb, hwb, hc0, ⟨b0, b1, b2, b3, b4⟩, hc2, hbel, hbs⟩ := box_three w (trV b off c T) 11 (ndT T k).num (d : Int) (ndT T k).text (ndT T k).typ (.slice (some ⟨b5, o5, none⟩) 1 c4)
  have HBW := Lib.hid (hw.trans (hbel.mono hw.size))
  have HBL := Lib.hid hbel
  have HXq := Lib.hid (fun (W : World) (hW : Below wb.heap.size wb W) => hbl q hqk _ _ hnq hqF d W (HBW.out.trans (hW.mono HBW.out.size)) (by omega))
  unfold ndW at HXq
  rw [← hxq] at HXq
  rw [hqF] at HXq
  have HNq := Lib.hid hnq
  have HKq := Lib.hid hq
  have HqT : (q : Int) < (T.length : Int) := by omega
  have HqF := Lib.hid hqF
  have HNV := Lib.hid hnv
  unfold DsN ndW
  rw [e, hkn, HV.out]
  have hw0 : IntKind.i64.wrap 0 = 0 := by kernel_rfl
  have hw1 : IntKind.i64.wrap 1 = 1 := by kernel_rfl
  have t0 := fun Z : WB wb => (((Below.refl wb.heap.size wb).trans (Z.bel.mono (Below.refl wb.heap.size wb).size)).cell (p := ⟨w.heap.size, 0, none⟩) (by show w.heap.size < _; omega)).trans hc0
  have t1 := fun Z : WB wb => (((Below.refl wb.heap.size wb).trans (Z.bel.mono (Below.refl wb.heap.size wb).size)).cell (p := ⟨w.heap.size + 1, 1, none⟩) (by show w.heap.size + 1 < _; omega)).trans b1
  have t2 := fun Z : WB wb => (((Below.refl wb.heap.size wb).trans (Z.bel.mono (Below.refl wb.heap.size wb).size)).cell (p := ⟨w.heap.size + 1, 2, none⟩) (by show w.heap.size + 1 < _; omega)).trans b2
  have t4 := fun Z : WB wb => (((Below.refl wb.heap.size wb).trans (Z.bel.mono (Below.refl wb.heap.size wb).size)).cell (p := ⟨w.heap.size + 1, 4, none⟩) (by show w.heap.size + 1 < _; omega)).trans b4
  have t5 := fun Z : WB wb => (((Below.refl wb.heap.size wb).trans (Z.bel.mono (Below.refl wb.heap.size wb).size)).cell (p := ⟨w.heap.size + 1 + 1, 0, none⟩) (by show w.heap.size + 1 + 1 < _; omega)).trans hc2
  have hkcq := HNq.out.cells HBW.out
  obtain ⟨b', o', e1, _, hb5q, zq⟩ := HNV.out.kid HBW.out HKq.out
  injection e1 with e1
  injection e1 with e1 e2
  subst e1 e2
  have hbq : b < wb.heap.size := Nat.lt_of_lt_of_le HNq.out.hb (Below.size HBW.out)
  have hb5q : b5 < wb.heap.size := Nat.lt_of_lt_of_le hb5 (Below.size HBW.out)
  have rq := fun Z : WB wb => (Z.bel.cell (p := ⟨b5, o5 + 0, none⟩) hb5q).trans zq
  have kq0 := fun Z : WB wb => (Z.bel.cell (p := ⟨b, off + q * 5, none⟩) hbq).trans hkcq.1
  have kq1 := fun Z : WB wb => (Z.bel.cell (p := ⟨b, off + q * 5 + 1, none⟩) hbq).trans hkcq.2.1
  have kq2 := fun Z : WB wb => (Z.bel.cell (p := ⟨b, off + q * 5 + 2, none⟩) hbq).trans hkcq.2.2.1
  have kq3 := fun Z : WB wb => (Z.bel.cell (p := ⟨b, off + q * 5 + 3, none⟩) hbq).trans hkcq.2.2.2.1
  have kq4 := fun Z : WB wb => (Z.bel.cell (p := ⟨b, off + q * 5 + 4, none⟩) hbq).trans hkcq.2.2.2.2
  clear hkcq zq
  rw [HqF.out] at kq0
  simp only [Nat.add_zero] at rq
  have n1 : ¬ 9223372036854775807 < 4 + xq.size := by omega
  clear hev hnv e hw hbel hq hq2 hqf hqF hnq hxq hkn hbl hk1
  go_enter Tryz.func51, Tryz.ntmps51
  go_wp2_with fail
  clear hwb hc0 b0 b1 b2 b3 b4 hc2
  (refine wp_region_wb (by kernel_rfl) (by kernel_rfl) ?_; (repeat (first | go_big_quiet_step ((go_at_call 36; exact quietB (HXq.out _ (WB.bel _)))) | quiet_step ((go_at_call 36; exact quietB (HXq.out _ (WB.bel _)))))); refine wpQuiet_nil ?_; intro _ hw'; obtain ⟨⟨wq, hbq⟩, hw''⟩ := hw'; subst hw''; (try simp only))
  have HB9 := Lib.hid (HBL.out.trans (hbq.mono HBL.out.size))
  clear hbq t0 t1 t2 t4 t5 rq kq0 kq1 kq2 kq3 kq4
  go_wp2_with fail
  go_ret
  exact ⟨rfl, HB9.out⟩
set_option maxHeartbeats 8000000 in
theorem ds_11_2 (hev : Ev w0 (some ⟨b, off, none⟩) c T m) (hex : ∀ q, q < k → DxC w0 b off c T q) (hbl : ∀ q, q < k → DbC w0 b off c T q) (hnv : NodeV w0 b off T k A4 c4) (e : (ndT T k).kind = 11) (hk2 : (ndT T k).kids.length = 2) (hw : Below w0.heap.size w0 w) (hd : d + k ≤ 9000) : DsN b off c T k A4 c4 d w := by
  have hkT := hnv.lt
  have hkn : (ndT T k).kids.length = 2 := by
    have hc := cnt_at hev.good hkT
    unfold cntN at hc
    rw [e] at hc
    simp at hc
    omega
  obtain ⟨q, hq, hq2, hqk, hqf⟩ := kid_at hev.good hkT (j := 0) (by omega)
  obtain ⟨Aq, cq, hnq⟩ := hev.node (show q < T.length by omega)
  have hqF : isE (ndT T q).kind = true := by
    unfold kidN at hqf
    rw [e] at hqf
    (try rw [hkn] at hqf)
    simp at hqf
    first | exact hqf | (rw [hqf]; rfl) | omega
  obtain ⟨xq, hxq⟩ : ∃ x, x = sL (prN T q d) := ⟨_, rfl⟩
  have hxqs : xq.size ≤ 100000000 := by rw [hxq, sL_size]; exact hev.bd (by omega) (by omega)
  obtain ⟨p, hp, hp2, hpk, hpf⟩ := kid_at hev.good hkT (j := 1) (by omega)
  obtain ⟨Ap, cp, hnp⟩ := hev.node (show p < T.length by omega)
  have hpF : (ndT T p).kind = 5 := by
    unfold kidN at hpf
    rw [e] at hpf
    (try rw [hkn] at hpf)
    simp at hpf
    first | exact hpf | (rw [hpf]; rfl) | omega
  obtain ⟨xp, hxp⟩ : ∃ x, x = sL (prN T p d) := ⟨_, rfl⟩
  have hxps : xp.size ≤ 100000000 := by rw [hxp, sL_size]; exact hev.bd (by omega) (by omega)
  obtain ⟨b5, o5, rfl, _, hb5, _⟩ := hnv.kid hw hq
  have HTX := Lib.hid (show prN T k d = [102, 111, 114, 32] ++ (prN T q d ++ [32]) ++ prN T p d by
    rw [← prT_kid hqk, ← hq2, ← prT_kid hpk, ← hp2]
    unfold prN prS
    simp [e, hkn])
  have HV := Lib.hid (show sL (prN T k d) = (⟨#[102, 111, 114, 32]⟩ : ByteArray) ++ (xq ++ (⟨#[32]⟩ : ByteArray)) ++ xp by
    rw [HTX.out]
    (repeat rw [← sL_app])
    (try rw [sL_tx])
    rw [hxq, hxp]
    (try rfl))
  obtain ⟨wb, hwb, hc0, ⟨b0, b1, b2, b3, b4⟩, hc2, hbel, hbs⟩ := box_three w (trV b off c T) 11 (ndT T k).num (d : Int) (ndT T k).text (ndT T k).typ (.slice (some ⟨b5, o5, none⟩) 2 c4)
  have HBW := Lib.hid (hw.trans (hbel.mono hw.size))
  have HBL := Lib.hid hbel
  have HXq := Lib.hid (fun (W : World) (hW : Below wb.heap.size wb W) => stx_any (c := c) (ji := 0) (B := w.heap.size) (n := 2) hnv hq hnq (hex q hqk) hqF rfl (by omega) (HBW.out.trans (hW.mono HBW.out.size)) (by have := hW.size; omega) ((hW.cell (p := ⟨w.heap.size, 0, none⟩) (by show w.heap.size < _; omega)).trans hc0) ((hW.cell (p := ⟨w.heap.size + 1, 4, none⟩) (by show w.heap.size + 1 < _; omega)).trans b4) ((hW.cell (p := ⟨w.heap.size + 1 + 1, 0, none⟩) (by show w.heap.size + 1 + 1 < _; omega)).trans hc2) (show d + q ≤ 9000 by omega))
  rw [← hxq] at HXq
  have HXp := Lib.hid (fun (W : World) (hW : Below wb.heap.size wb W) => hbl p hpk _ _ hnp hpF d W (HBW.out.trans (hW.mono HBW.out.size)) (by omega))
  unfold ndW at HXp
  rw [← hxp] at HXp
  rw [hpF] at HXp
  have HNp := Lib.hid hnp
  have HKp := Lib.hid hp
  have HpT : (p : Int) < (T.length : Int) := by omega
  have HpF := Lib.hid hpF
  have HNV := Lib.hid hnv
  unfold DsN ndW
  rw [e, hkn, HV.out]
  have hw0 : IntKind.i64.wrap 0 = 0 := by kernel_rfl
  have hw1 : IntKind.i64.wrap 1 = 1 := by kernel_rfl
  have n1 : ¬ 9223372036854775807 < xq.size + 1 := by omega
  have n2 : ¬ 9223372036854775807 < 4 + (xq.size + 1) := by omega
  have n3 : ¬ 9223372036854775807 < 4 + (xq.size + 1) + xp.size := by omega
  clear hev hnv e hw hbel hq hq2 hqf hqF hnq hxq hp hp2 hpf hpF hnp hxp hkn hex hbl hk2
  go_enter Tryz.func51, Tryz.ntmps51
  go_wp2_with fail
  clear hwb
  refine Calls.mono (HXq.out wb (Below.refl _ _)) ?_
  rintro e w1 ⟨rfl, hb1⟩
  have HB1 := Lib.hid hb1
  have HBW2 := Lib.hid (HBW.out.trans (hb1.mono HBW.out.size))
  clear hb1
  have t0 := fun Z : WB w1 => ((HB1.out.trans (Z.bel.mono HB1.out.size)).cell (p := ⟨w.heap.size, 0, none⟩) (by show w.heap.size < _; omega)).trans hc0
  have t1 := fun Z : WB w1 => ((HB1.out.trans (Z.bel.mono HB1.out.size)).cell (p := ⟨w.heap.size + 1, 1, none⟩) (by show w.heap.size + 1 < _; omega)).trans b1
  have t2 := fun Z : WB w1 => ((HB1.out.trans (Z.bel.mono HB1.out.size)).cell (p := ⟨w.heap.size + 1, 2, none⟩) (by show w.heap.size + 1 < _; omega)).trans b2
  have t4 := fun Z : WB w1 => ((HB1.out.trans (Z.bel.mono HB1.out.size)).cell (p := ⟨w.heap.size + 1, 4, none⟩) (by show w.heap.size + 1 < _; omega)).trans b4
  have t5 := fun Z : WB w1 => ((HB1.out.trans (Z.bel.mono HB1.out.size)).cell (p := ⟨w.heap.size + 1 + 1, 0, none⟩) (by show w.heap.size + 1 + 1 < _; omega)).trans hc2
  have hkcp := HNp.out.cells HBW2.out
  obtain ⟨b', o', e1, _, hb5p, zp⟩ := HNV.out.kid HBW2.out HKp.out
  injection e1 with e1
  injection e1 with e1 e2
  subst e1 e2
  have hbp : b < w1.heap.size := Nat.lt_of_lt_of_le HNp.out.hb (Below.size HBW2.out)
  have hb5p : b5 < w1.heap.size := Nat.lt_of_lt_of_le hb5 (Below.size HBW2.out)
  have rp := fun Z : WB w1 => (Z.bel.cell (p := ⟨b5, o5 + 1, none⟩) hb5p).trans zp
  have kp0 := fun Z : WB w1 => (Z.bel.cell (p := ⟨b, off + p * 5, none⟩) hbp).trans hkcp.1
  have kp1 := fun Z : WB w1 => (Z.bel.cell (p := ⟨b, off + p * 5 + 1, none⟩) hbp).trans hkcp.2.1
  have kp2 := fun Z : WB w1 => (Z.bel.cell (p := ⟨b, off + p * 5 + 2, none⟩) hbp).trans hkcp.2.2.1
  have kp3 := fun Z : WB w1 => (Z.bel.cell (p := ⟨b, off + p * 5 + 3, none⟩) hbp).trans hkcp.2.2.2.1
  have kp4 := fun Z : WB w1 => (Z.bel.cell (p := ⟨b, off + p * 5 + 4, none⟩) hbp).trans hkcp.2.2.2.2
  clear hkcp zp
  rw [HpF.out] at kp0
  clear hc0 b0 b1 b2 b3 b4 hc2
  go_wp2_with fail
  (refine wp_region_wb (by kernel_rfl) (by kernel_rfl) ?_; (repeat (first | go_big_quiet_step ((go_at_call 36; exact quietB (HXp.out _ (HB1.out.trans ((WB.bel _).mono HB1.out.size))))) | quiet_step ((go_at_call 36; exact quietB (HXp.out _ (HB1.out.trans ((WB.bel _).mono HB1.out.size))))))); refine wpQuiet_nil ?_; intro _ hw'; obtain ⟨⟨wq, hbq⟩, hw''⟩ := hw'; subst hw''; (try simp only))
  have HB9 := Lib.hid (HBL.out.trans ((HB1.out.trans (hbq.mono HB1.out.size)).mono HBL.out.size))
  clear hbq t0 t1 t2 t4 t5 rp kp0 kp1 kp2 kp3 kp4
  go_wp2_with fail
  go_ret
  exact ⟨rfl, HB9.out⟩
set_option maxHeartbeats 4000000 in
theorem ds_14_0 (e : (ndT T k).kind = 14) (hk0 : (ndT T k).kids.length = 0) : DsN b off c T k A4 c4 d w := by
  have HV := Lib.hid (show sL (prN T k d) = ⟨#[114, 101, 116, 117, 114, 110]⟩ by unfold prN prS; simp [e, hk0]; rfl)
  obtain ⟨wb, hwb, hc0, ⟨b0, b1, b2, b3, b4⟩, hc2, hbel, hbs⟩ := box_three w (trV b off c T) 14 (ndT T k).num (d : Int) (ndT T k).text (ndT T k).typ (.slice A4 0 c4)
  have HBL := Lib.hid hbel
  unfold DsN ndW
  rw [e, hk0, HV.out]
  clear e hk0 hbel
  go_enter Tryz.func51, Tryz.ntmps51
  go_wp2_with fail
  clear hwb hc0 b0 b1 b2 b3 b4 hc2
  go_ret
  exact ⟨rfl, HBL.out⟩
end
end Go.Proofs.YtkpejdkffkhekaaGreatDoor
end
section
/- The document's printer: heads of functions. Conditions: the nodes ahead are printed right. -/
set_option maxRecDepth 100000
namespace Go.Proofs.YtkpejdkffkhekaaGreatDoor
open Go.ChangeShapes Go.WideShapes Go.ChangeAt Go.RowKit
theorem par_sL (n : ND) : sL (parL n) = n.text ++ (⟨#[32]⟩ : ByteArray) ++ sL (wideL (txB n.typ)) := by
  unfold parL
  rw [← sL_app, ← sL_app, sL_tx]
  rfl
theorem wide_sz (s : ByteArray) (h : s.size ≤ 100) : (sL (wideL (txB s))).size ≤ 200 := by
  rw [sL_size]
  have h1 := wideL_len (txB s)
  have h2 : (txB s).length = s.size := rfl
  omega
set_option maxHeartbeats 8000000 in
theorem head_doc {w0 : World} {b off c k : Nat} {T : List ND} {m : Int} (hev : Ev w0 (some ⟨b, off, none⟩) c T m) (hbl : ∀ q, q < k → DbC w0 b off c T q) : DhC w0 b off c T k := by
  intro A4 c4 hnv hkd d w hw hd
  have hkT := hnv.lt
  obtain ⟨mN, hm4, hmn, hml⟩ : ∃ mN : Nat, mN ≤ 4 ∧ (ndT T k).num = mN ∧ (ndT T k).kids.length = mN + 2 := by
    have hc := cnt_at hev.good hkT
    unfold cntN at hc
    refine ⟨(ndT T k).num.toNat, ?_⟩
    rcases hkd with e | e <;> (rw [e] at hc; simp at hc; omega)
  have HTX := Lib.hid (hd_txt hev.good hkT hmn hml d)
  obtain ⟨r, hr1, hr2, hr3, hr4⟩ := kid_at hev.good hkT (j := mN) (by omega)
  obtain ⟨p, hp1, hp2, hp3, hp4⟩ := kid_at hev.good hkT (j := mN + 1) (by omega)
  rw [hr2, hp2] at HTX
  have hp4 : (ndT T p).kind = 5 := by
    unfold kidN at hp4
    rw [hmn] at hp4
    have h9 : ¬ ((mN : Int) + 1 = (mN : Int)) := by omega
    rcases hkd with e | e <;> (rw [e] at hp4; simpa [h9] using hp4)
  have HKJ := Lib.hid (fun (j : Nat) (hj : j < mN) => show ∃ q : Nat, (ndT T k).kids[j]? = some (q : Int) ∧ kidT (ndT T k) j = q ∧ q < T.length from by
    obtain ⟨q, h1, h2, h3, _⟩ := kid_at hev.good hkT (j := j) (by omega)
    exact ⟨q, h1, h2, by omega⟩)
  have HE := Lib.hid hev
  have HNV := Lib.hid hnv
  have HS := Lib.hid hw
  obtain ⟨A6, c6, hnr⟩ := hev.node (show r < T.length by omega)
  obtain ⟨A7, c7, hnp⟩ := hev.node (show p < T.length by omega)
  have HNR := Lib.hid hnr
  have HNP := Lib.hid hnp
  have HP4 := Lib.hid hp4
  obtain ⟨xp, hxp⟩ : ∃ x, x = sL (prN T p d) := ⟨_, rfl⟩
  have hxps : xp.size ≤ 100000000 := by rw [hxp, sL_size]; exact hev.bd (by omega) (by omega)
  have HC := Lib.hid (fun (W : World) (hW : Below w0.heap.size w0 W) => hbl p hp3 _ _ hnp hp4 d W hW (by omega))
  rw [← hxp] at HC
  have HXP := Lib.hid hxp
  unfold ndW at HC
  rw [hp4] at HC
  obtain ⟨b5, o5, rfl, _, hb5, _⟩ := hnv.kid hw hr1
  have hrT : (r : Int) < (T.length : Int) := by omega
  have hpT : (p : Int) < (T.length : Int) := by omega
  have HRG := Lib.hid (fun q (hq : q < T.length) => rg_size (good_at hev.good hq))
  have HR1 := Lib.hid hr1
  have HPP := Lib.hid hp1
  have HPB := Lib.hid (show ∀ j, j ≤ mN → (comL (psL T k j)).length ≤ 100000 from by
    intro j hj
    refine Nat.le_trans (comL_len _) ?_
    have : ∀ i, i ≤ mN → ((psL T k i).map fun a => a.length + 2).sum ≤ i * 403 := by
      intro i hi
      induction i with
      | zero => simp [psL]
      | succ i ih =>
        obtain ⟨q, _, h2, h3, _⟩ := kid_at hev.good hkT (j := i) (by omega)
        have h4 := (par_len hev.good (show q < T.length by omega)).1
        have h5 := ih (by omega)
        rw [psL_succ, h2]
        simp only [List.map_append, List.sum_append, List.map_cons, List.map_nil, List.sum_cons, List.sum_nil]
        omega
    have := this j hj
    omega)
  obtain ⟨nl, hnl⟩ : ∃ nl, nl = mN + 2 := ⟨_, rfl⟩
  obtain ⟨wb, hwb, hbx, hbel, hbs⟩ := box_new w (ndT T k).kind (mN : Int) (ndT T k).text (ndT T k).typ (.slice (some ⟨b5, o5, none⟩) nl c4)
  have HBL := Lib.hid hbel
  have HBX := Lib.hid hbx
  unfold ndW
  rw [hmn, hml, ← hnl]
  have hnl2 : mN + 2 ≤ nl := by omega
  clear hev hnv hw hbl hnr hnp hkd hr1 hr2 hr4 hp1 hp2 hp4 hmn hml hr3 hnl hbx hbel hxp
  go_enter Tryz.func20, Tryz.ntmps20
  go_wp2_with fail
  clear hwb
  go_loopw [7, 8] (fun s v wr => ∃ (j : Nat) (t : ByteArray), s = .string t ∧ v = .int .i64 (j : Int) ∧ j ≤ mN ∧ t.size ≤ 100001 ∧ Hid (t = sL ([40] ++ comL (psL T k j))) ∧ Hid (Below wb.heap.size wb wr)) (fun _ v _ => mN - (intOf v).toNat)
  case atStart => exact ⟨0, _, rfl, rfl, Nat.zero_le _, by decide, Lib.hid rfl, Lib.hid (Below.refl _ _)⟩
  case round =>
    obtain ⟨j, t, rfl, rfl, hj, ht, HT, HX⟩ := hrel
    obtain ⟨b0, b1, b2, b3, b4⟩ := box_cells ((HX.out.block w.heap.size (by omega)).trans HBX.out)
    have HW0 := Lib.hid (HS.out.trans ((HBL.out.trans (HX.out.mono HBL.out.size)).mono HS.out.size))
    by_cases hlt : (j : Int) < (mN : Int)
    · obtain ⟨q, hq1, hq2, hqT0⟩ := HKJ.out j (by omega)
      obtain ⟨A8, c8, hnq⟩ := HE.out.node hqT0
      have hqT : (q : Int) < (T.length : Int) := by omega
      have HNX := Lib.hid (psL_next T k j)
      rw [hq2] at HNX
      have HLE := Lib.hid (HPB.out (j + 1) (by omega))
      obtain ⟨k0, k1, k2, k3, k4⟩ := hnq.cells HW0.out
      have y0 : wr.cell? ⟨b5, o5 + j, none⟩ = some (.int .i64 (q : Int)) := by
        obtain ⟨b', o', e1, _, _, z0⟩ := HNV.out.kid HW0.out hq1
        injection e1 with e1
        injection e1 with e1 e2
        subst e1 e2
        exact z0
      have hts := HRG.out q hqT0
      obtain ⟨xw, hxw⟩ : ∃ x, x = sL (wideL (txB (ndT T q).typ)) := ⟨_, rfl⟩
      have hxws : xw.size ≤ 200 := by rw [hxw]; exact wide_sz _ hts.2
      have HWD := Lib.hid (fun (W : World) => wide_any (ndT T q).typ (by omega) W)
      rw [← hxw] at HWD
      have HPL := Lib.hid (par_sL (ndT T q))
      rw [← hxw] at HPL
      obtain ⟨wz, hwz, hz1, hzb, hzs⟩ := box_new wr (ndT T q).kind (ndT T q).num (ndT T q).text (ndT T q).typ (.slice A8 (ndT T q).kids.length c8)
      have zc := box_cells hz1
      have t1 := fun Z : WB wz => (Z.bel.cell (p := ⟨wr.heap.size, 1, none⟩) (by show wr.heap.size < _; omega)).trans zc.2.1
      have t2 := fun Z : WB wz => (Z.bel.cell (p := ⟨wr.heap.size, 2, none⟩) (by show wr.heap.size < _; omega)).trans zc.2.2.1
      have HZB := Lib.hid hzb
      have hji : (j : Int) < (nl : Int) := by omega
      clear hnq hq1 hq2 hxw zc hz1 hzb
      by_cases hj0 : 0 < (j : Int)
      · have hjp : 0 < j := by omega
        rw [if_pos hjp] at HNX
        have HTN := Lib.hid (show t ++ (⟨#[44, 32]⟩ : ByteArray) ++ ((ndT T q).text ++ (⟨#[32]⟩ : ByteArray) ++ xw) = sL ([40] ++ comL (psL T k (j + 1))) by
          rw [HNX.out, HT.out, ← HPL.out, sL_mk, sL_app, sL_app]
          simp only [List.append_assoc])
        have HTS := Lib.hid (show (t ++ (⟨#[44, 32]⟩ : ByteArray) ++ ((ndT T q).text ++ (⟨#[32]⟩ : ByteArray) ++ xw)).size ≤ 100001 by rw [HTN.out, sL_size, List.length_append]; have := HLE.out; show 1 + _ ≤ _; omega)
        have n1 : ¬ 9223372036854775807 < (ndT T q).text.size + 1 := by omega
        have n2 : ¬ 9223372036854775807 < (ndT T q).text.size + 1 + xw.size := by omega
        have n3 : ¬ 9223372036854775807 < t.size + 2 := by omega
        have n4 : ¬ 9223372036854775807 < t.size + 2 + ((ndT T q).text.size + 1 + xw.size) := by omega
        go_wp2_with fail
        clear hwz
        (refine wp_region_wb (by kernel_rfl) (by kernel_rfl) ?_; (repeat (first | go_big_quiet_step ((go_at_call 35; exact quietB_same (HWD.out _))) | quiet_step ((go_at_call 35; exact quietB_same (HWD.out _))))); refine wpQuiet_nil ?_; intro _ hw'; obtain ⟨⟨wq, hbq⟩, hw''⟩ := hw'; subst hw''; (try simp only))
        have HX3 := Lib.hid (HX.out.trans ((HZB.out.trans (hbq.mono HZB.out.size)).mono HX.out.size))
        clear hbq t1 t2 k0 k1 k2 k3 k4 b0 b1 b2 b3 b4 y0
        go_wp2_with fail
        go_roundw
        case rel => exact ⟨j + 1, _, rfl, by simp, by omega, HTS.out, HTN, HX3⟩
        case measure => simp [intOf]; omega
      · have hjp : ¬ 0 < j := by omega
        obtain rfl : j = 0 := by omega
        rw [if_neg hjp] at HNX
        rw [Nat.add_zero] at y0
        have HTN := Lib.hid (show t ++ ((ndT T q).text ++ (⟨#[32]⟩ : ByteArray) ++ xw) = sL ([40] ++ comL (psL T k (0 + 1))) by
          rw [HNX.out, HT.out, ← HPL.out, sL_app]
          simp only [List.append_assoc, List.nil_append])
        have HTS := Lib.hid (show (t ++ ((ndT T q).text ++ (⟨#[32]⟩ : ByteArray) ++ xw)).size ≤ 100001 by rw [HTN.out, sL_size, List.length_append]; have := HLE.out; show 1 + _ ≤ _; omega)
        have n1 : ¬ 9223372036854775807 < (ndT T q).text.size + 1 := by omega
        have n2 : ¬ 9223372036854775807 < (ndT T q).text.size + 1 + xw.size := by omega
        have n3 : ¬ 9223372036854775807 < t.size + ((ndT T q).text.size + 1 + xw.size) := by omega
        clear hj0
        go_wp2_with fail
        clear hwz
        (refine wp_region_wb (by kernel_rfl) (by kernel_rfl) ?_; (repeat (first | go_big_quiet_step ((go_at_call 35; exact quietB_same (HWD.out _))) | quiet_step ((go_at_call 35; exact quietB_same (HWD.out _))))); refine wpQuiet_nil ?_; intro _ hw'; obtain ⟨⟨wq, hbq⟩, hw''⟩ := hw'; subst hw''; (try simp only))
        have HX3 := Lib.hid (HX.out.trans ((HZB.out.trans (hbq.mono HZB.out.size)).mono HX.out.size))
        clear hbq t1 t2 k0 k1 k2 k3 k4 b0 b1 b2 b3 b4 y0
        go_wp2_with fail
        go_roundw
        case rel => exact ⟨0 + 1, _, rfl, by simp, by omega, HTS.out, HTN, HX3⟩
        case measure => simp [intOf]; omega
    · have hjn : j = mN := by omega
      subst hjn
      obtain ⟨k0, k1, k2, k3, k4⟩ := HNR.out.cells HW0.out
      have y0 : wr.cell? ⟨b5, o5 + j, none⟩ = some (.int .i64 (r : Int)) := by
        obtain ⟨b', o', e1, _, _, z0⟩ := HNV.out.kid HW0.out HR1.out
        injection e1 with e1
        injection e1 with e1 e2
        subst e1 e2
        exact z0
      have hts := HRG.out r (by omega)
      obtain ⟨xw, hxw⟩ : ∃ x, x = sL (wideL (txB (ndT T r).typ)) := ⟨_, rfl⟩
      have hxws : xw.size ≤ 200 := by rw [hxw]; exact wide_sz _ hts.2
      have HWD := Lib.hid (fun (W : World) => wide_any (ndT T r).typ (by omega) W)
      rw [← hxw] at HWD
      have HXW := Lib.hid hxw
      obtain ⟨wz, hwz, hz1, hzb, hzs⟩ := box_new wr (ndT T r).kind (ndT T r).num (ndT T r).text (ndT T r).typ (.slice A6 (ndT T r).kids.length c6)
      obtain ⟨z0, z1, z2, z3, z4⟩ := box_cells hz1
      have t1 := fun Z : WB wz => (Z.bel.cell (p := ⟨wr.heap.size, 1, none⟩) (by show wr.heap.size < _; omega)).trans z1
      have t2 := fun Z : WB wz => (Z.bel.cell (p := ⟨wr.heap.size, 2, none⟩) (by show wr.heap.size < _; omega)).trans z2
      have HZB := Lib.hid hzb
      have hji : (j : Int) < (nl : Int) := by omega
      clear hxw hz1 hzb hlt
      cases he : emB (ndT T r).text with
      | false =>
        have hemp : (ndT T r).text.toList.isEmpty = false := he
        have HV := Lib.hid (show sL (hdS T (prT T k) (ndT T k) d) = t ++ (⟨#[41, 32]⟩ : ByteArray) ++ ((⟨#[40]⟩ : ByteArray) ++ (ndT T r).text ++ (⟨#[32]⟩ : ByteArray) ++ xw ++ (⟨#[41, 32]⟩ : ByteArray)) ++ xp by
          rw [HTX.out, HT.out, HXP.out, HXW.out]
          unfold resL
          rw [if_pos he]
          simp only [← sL_app, sL_tx, ByteArray.append_assoc]
          rfl)
        clear he
        have n1 : ¬ 9223372036854775807 < 1 + (ndT T r).text.size := by omega
        have n2 : ¬ 9223372036854775807 < 1 + (ndT T r).text.size + 1 := by omega
        have n3 : ¬ 9223372036854775807 < 1 + (ndT T r).text.size + 1 + xw.size := by omega
        have n4 : ¬ 9223372036854775807 < 1 + (ndT T r).text.size + 1 + xw.size + 2 := by omega
        have n5 : ¬ 9223372036854775807 < t.size + 2 := by omega
        have n6 : ¬ 9223372036854775807 < t.size + 2 + (1 + (ndT T r).text.size + 1 + xw.size + 2) := by omega
        have n7 : ¬ 9223372036854775807 < t.size + 2 + (1 + (ndT T r).text.size + 1 + xw.size + 2) + xp.size := by omega
        go_wp2_with fail
        clear hwz b0 b1 b2 b3 b4 k0 k1 k2 k3 k4 y0 z0 z1 z2 z3 z4
        (refine wp_region_wb (by kernel_rfl) (by kernel_rfl) ?_; (repeat (first | go_big_quiet_step ((go_at_call 35; exact quietB_same (HWD.out _))) | quiet_step ((go_at_call 35; exact quietB_same (HWD.out _))))); refine wpQuiet_nil ?_; intro _ hw'; obtain ⟨⟨wq, hbq⟩, hw''⟩ := hw'; subst hw''; (try simp only))
        rename_i wL
        have HL9 := Lib.hid (HX.out.trans ((HZB.out.trans (hbq.mono HZB.out.size)).mono HX.out.size))
        clear hbq t1 t2
        have HW9 := Lib.hid (HS.out.trans ((HBL.out.trans (HL9.out.mono HBL.out.size)).mono HS.out.size))
        obtain ⟨b0, b1, b2, b3, b4⟩ := box_cells ((HL9.out.block w.heap.size (by omega)).trans HBX.out)
        obtain ⟨k0, k1, k2, k3, k4⟩ := HNP.out.cells HW9.out
        rw [HP4.out] at k0
        have y0 : wL.cell? ⟨b5, o5 + (j + 1), none⟩ = some (.int .i64 (p : Int)) := by
          obtain ⟨b', o', e1, _, _, z0⟩ := HNV.out.kid HW9.out HPP.out
          injection e1 with e1
          injection e1 with e1 e2
          subst e1 e2
          exact z0
        have hwrp : IntKind.i64.wrap ((j : Int) + 1) = (j : Int) + 1 := IntWalk.i64_in _ (by omega)
        have htn : ((j : Int) + 1).toNat = j + 1 := by omega
        have hj01 : (0 : Int) ≤ (j : Int) + 1 := by omega
        have hj11 : (j : Int) + 1 < (nl : Int) := by omega
        have hj12 : j + 1 < nl := by omega
        go_wp2_with fail
        refine Calls.mono (HC.out _ HW9.out) ?_
        rintro e w6 ⟨rfl, hb6⟩
        have HB6 := Lib.hid (HBL.out.trans ((HL9.out.trans (hb6.mono HL9.out.size)).mono HBL.out.size))
        clear hb6 k0 k1 k2 k3 k4 b0 b1 b2 b3 b4 y0 hwrp htn
        go_wp2_with fail
        go_ret
        exact ⟨by rw [HV.out]; rfl, HB6.out⟩
      | true =>
        have hemp : (ndT T r).text.toList.isEmpty = true := he
        cases he2 : emB (ndT T r).typ with
        | false =>
          have hemp2 : (ndT T r).typ.toList.isEmpty = false := he2
          have HV := Lib.hid (show sL (hdS T (prT T k) (ndT T k) d) = t ++ (⟨#[41, 32]⟩ : ByteArray) ++ (xw ++ (⟨#[32]⟩ : ByteArray)) ++ xp by
            rw [HTX.out, HT.out, HXP.out, HXW.out]
            unfold resL
            rw [if_neg (by rw [he]; decide), if_pos he2]
            simp only [← sL_app, ByteArray.append_assoc]
            rfl)
          clear he he2
          have n1 : ¬ 9223372036854775807 < xw.size + 1 := by omega
          have n2 : ¬ 9223372036854775807 < t.size + 2 := by omega
          have n3 : ¬ 9223372036854775807 < t.size + 2 + (xw.size + 1) := by omega
          have n4 : ¬ 9223372036854775807 < t.size + 2 + (xw.size + 1) + xp.size := by omega
          go_wp2_with fail
          refine Calls.mono (HWD.out _) ?_
          rintro e w5 ⟨rfl, rfl⟩
          have HL9 := Lib.hid (HX.out.trans (HZB.out.mono HX.out.size))
          clear hwz b0 b1 b2 b3 b4 k0 k1 k2 k3 k4 y0 z0 z1 z2 z3 z4 t1 t2
          generalize w5 = wL at *
          have HW9 := Lib.hid (HS.out.trans ((HBL.out.trans (HL9.out.mono HBL.out.size)).mono HS.out.size))
          obtain ⟨b0, b1, b2, b3, b4⟩ := box_cells ((HL9.out.block w.heap.size (by omega)).trans HBX.out)
          obtain ⟨k0, k1, k2, k3, k4⟩ := HNP.out.cells HW9.out
          rw [HP4.out] at k0
          have y0 : wL.cell? ⟨b5, o5 + (j + 1), none⟩ = some (.int .i64 (p : Int)) := by
            obtain ⟨b', o', e1, _, _, z0⟩ := HNV.out.kid HW9.out HPP.out
            injection e1 with e1
            injection e1 with e1 e2
            subst e1 e2
            exact z0
          have hwrp : IntKind.i64.wrap ((j : Int) + 1) = (j : Int) + 1 := IntWalk.i64_in _ (by omega)
          have htn : ((j : Int) + 1).toNat = j + 1 := by omega
          have hj01 : (0 : Int) ≤ (j : Int) + 1 := by omega
          have hj11 : (j : Int) + 1 < (nl : Int) := by omega
          have hj12 : j + 1 < nl := by omega
          go_wp2_with fail
          refine Calls.mono (HC.out _ HW9.out) ?_
          rintro e w6 ⟨rfl, hb6⟩
          have HB6 := Lib.hid (HBL.out.trans ((HL9.out.trans (hb6.mono HL9.out.size)).mono HBL.out.size))
          clear hb6 k0 k1 k2 k3 k4 b0 b1 b2 b3 b4 y0 hwrp htn
          go_wp2_with fail
          go_ret
          exact ⟨by rw [HV.out]; rfl, HB6.out⟩
        | true =>
          have hemp2 : (ndT T r).typ.toList.isEmpty = true := he2
          have HV := Lib.hid (show sL (hdS T (prT T k) (ndT T k) d) = t ++ (⟨#[41, 32]⟩ : ByteArray) ++ xp by
            rw [HTX.out, HT.out, HXP.out]
            unfold resL
            rw [if_neg (by rw [he]; decide), if_neg (by rw [he2]; decide), List.append_nil]
            simp only [← sL_app, ByteArray.append_assoc]
            rfl)
          clear he he2
          have n1 : ¬ 9223372036854775807 < t.size + 2 := by omega
          have n2 : ¬ 9223372036854775807 < t.size + 2 + xp.size := by omega
          have HL9 := Lib.hid (HX.out.trans (HZB.out.mono HX.out.size))
          go_upto_region 15 with (fail)
          clear hwz b0 b1 b2 b3 b4 k0 k1 k2 k3 k4 y0 z0 z1 z2 z3 z4 t1 t2
          generalize wz = wL at *
          have HW9 := Lib.hid (HS.out.trans ((HBL.out.trans (HL9.out.mono HBL.out.size)).mono HS.out.size))
          obtain ⟨b0, b1, b2, b3, b4⟩ := box_cells ((HL9.out.block w.heap.size (by omega)).trans HBX.out)
          obtain ⟨k0, k1, k2, k3, k4⟩ := HNP.out.cells HW9.out
          rw [HP4.out] at k0
          have y0 : wL.cell? ⟨b5, o5 + (j + 1), none⟩ = some (.int .i64 (p : Int)) := by
            obtain ⟨b', o', e1, _, _, z0⟩ := HNV.out.kid HW9.out HPP.out
            injection e1 with e1
            injection e1 with e1 e2
            subst e1 e2
            exact z0
          have hwrp : IntKind.i64.wrap ((j : Int) + 1) = (j : Int) + 1 := IntWalk.i64_in _ (by omega)
          have htn : ((j : Int) + 1).toNat = j + 1 := by omega
          have hj01 : (0 : Int) ≤ (j : Int) + 1 := by omega
          have hj11 : (j : Int) + 1 < (nl : Int) := by omega
          have hj12 : j + 1 < nl := by omega
          go_wp2_with fail
          refine Calls.mono (HC.out _ HW9.out) ?_
          rintro e w6 ⟨rfl, hb6⟩
          have HB6 := Lib.hid (HBL.out.trans ((HL9.out.trans (hb6.mono HL9.out.size)).mono HBL.out.size))
          clear hb6 k0 k1 k2 k3 k4 b0 b1 b2 b3 b4 y0 hwrp htn
          go_wp2_with fail
          go_ret
          exact ⟨by rw [HV.out]; rfl, HB6.out⟩
end Go.Proofs.YtkpejdkffkhekaaGreatDoor
end
section
/- The document's printer, whole. Conditions: the tree is a good one. -/
set_option maxRecDepth 100000
namespace Go.Proofs.YtkpejdkffkhekaaGreatDoor
open Go.ChangeShapes Go.WideShapes Go.ChangeAt Go.RowKit
section
variable {w0 : World} {b off c k : Nat} {T : List ND} {m : Int}
theorem ds_any (hev : Ev w0 (some ⟨b, off, none⟩) c T m) (hex : ∀ q, q < k → DxC w0 b off c T q) (hbl : ∀ q, q < k → DbC w0 b off c T q) (hst : ∀ q, q < k → DsC w0 b off c T q) (hbk : DbC w0 b off c T k) : DsC w0 b off c T k := by
  intro A4 c4 hnv hk d w hw hd
  show DsN b off c T k A4 c4 d w
  have hc := cnt_at hev.good hnv.lt
  have hk2 : (ndT T k).kind = 5 ∨ (ndT T k).kind = 6 ∨ (ndT T k).kind = 7 ∨ (ndT T k).kind = 8 ∨ (ndT T k).kind = 9 ∨ (ndT T k).kind = 10 ∨ (ndT T k).kind = 11 ∨ (ndT T k).kind = 12 ∨ (ndT T k).kind = 13 ∨ (ndT T k).kind = 14 ∨ (ndT T k).kind = 15 := by omega
  unfold cntN at hc
  rcases hk2 with e | e | e | e | e | e | e | e | e | e | e
  · exact ds_5 hbk hnv e hw hd
  · exact ds_6 hev hnv e hw
  · exact ds_7 hev hex hnv e hw hd
  · exact ds_8 hev hex hnv e hw hd
  · exact ds_9 hev hex hnv e hw hd
  · rw [e] at hc
    simp at hc
    rcases hc with hc | hc
    · exact ds_10_2 hev hex hbl hnv e hc hw hd
    · exact ds_10_3 hev hex hbl hst hnv e hc hw hd
  · rw [e] at hc
    simp at hc
    rcases hc with hc | hc
    · exact ds_11_1 hev hbl hnv e hc hw hd
    · exact ds_11_2 hev hex hbl hnv e hc hw hd
  · exact ds_12 hnv e hw
  · exact ds_13 hnv e hw
  · rw [e] at hc
    simp at hc
    have hc2 : (ndT T k).kids.length = 0 ∨ (ndT T k).kids.length = 1 := by omega
    rcases hc2 with hc | hc
    · exact ds_14_0 e hc
    · exact ds_14_1 hev hex hnv e hc hw hd
  · exact ds_15 hev hex hnv e hw hd
/-- All of the document's printer, at once. -/
theorem dpr_all (hev : Ev w0 (some ⟨b, off, none⟩) c T m) : ∀ k, DxC w0 b off c T k ∧ DsC w0 b off c T k ∧ DbC w0 b off c T k ∧ DhC w0 b off c T k := by
  intro k
  induction k using Nat.strongRecOn with
  | _ k ih =>
    have hex : ∀ q, q < k → DxC w0 b off c T q := fun q hq => (ih q hq).1
    have hst : ∀ q, q < k → DsC w0 b off c T q := fun q hq => (ih q hq).2.1
    have hbl : ∀ q, q < k → DbC w0 b off c T q := fun q hq => (ih q hq).2.2.1
    have hbk : DbC w0 b off c T k := block_doc hev hst
    have hdh : DhC w0 b off c T k := head_doc hev hbl
    exact ⟨dx_any hev hex hdh, ds_any hev hex hbl hst hbk, hbk, hdh⟩
end
/-- The texts of the first functions. -/
def srL (T : List ND) (r n : Nat) : List UInt8 := ((List.range n).map fun j => fnL T (kidT (ndT T r) j)).flatten
theorem srL_succ (T : List ND) (r n : Nat) : srL T r (n + 1) = srL T r n ++ fnL T (kidT (ndT T r) n) := by
  unfold srL
  rw [List.range_succ]
  simp
theorem srL_le (T : List ND) (r : Nat) {j n : Nat} (h : j ≤ n) : (srL T r j).length ≤ (srL T r n).length := by
  induction n with
  | zero => obtain rfl : j = 0 := by omega
            exact Nat.le_refl _
  | succ n ih =>
    by_cases hj : j = n + 1
    · subst hj; exact Nat.le_refl _
    · have := ih (by omega)
      rw [srL_succ, List.length_append]
      omega
theorem src_srL (T : List ND) : srcL T = srL T (T.length - 1) (ndT T (T.length - 1)).kids.length := by
  unfold srcL srL
  rw [kids_range, List.map_map]
  rfl
/-- The root of a good tree. -/
theorem root_at {T : List ND} (hg : GoodT T) : 0 < T.length ∧ (ndT T (T.length - 1)).kind = 1 := by
  obtain ⟨h1, ⟨n, h2, h3⟩, _⟩ := hg.2.1
  refine ⟨h1, ?_⟩
  unfold ndT
  rw [h2]
  exact h3
set_option maxHeartbeats 4000000 in
theorem source_doc {w0 : World} {b off c : Nat} {T : List ND} {m : Int} (hev : Ev w0 (some ⟨b, off, none⟩) c T m) {w : World} (hw : Below w0.heap.size w0 w) : Calls Tryz.prog 10 #[trV b off c T] w fun e w' => e = .returned (.string (sL (srcL T))) ∧ Below w.heap.size w w' := by
  obtain ⟨hT0, hr1⟩ := root_at hev.good
  obtain ⟨r, hr⟩ : ∃ r, T.length = r + 1 := ⟨T.length - 1, by omega⟩
  have hrr : T.length - 1 = r := by omega
  rw [hrr] at hr1
  obtain ⟨A4, c4, hnv⟩ := hev.node (show r < T.length by omega)
  have HSR := Lib.hid (src_srL T)
  rw [hrr] at HSR
  have HSL := Lib.hid (src_len hev.good hev.nums)
  obtain ⟨n, hn⟩ : ∃ n, n = (ndT T r).kids.length := ⟨_, rfl⟩
  have HKF := Lib.hid (fun (j : Nat) (hj : j < n) => show ∃ q : Nat, (ndT T r).kids[j]? = some (q : Int) ∧ kidT (ndT T r) j = q ∧ q < T.length ∧ (ndT T q).kind = 2 ∧ q ≤ 9000 from by
    obtain ⟨q, h1, h2, h3, h4⟩ := kid_at hev.good (show r < T.length by omega) (by rw [← hn]; exact hj)
    unfold kidN at h4
    rw [hr1] at h4
    have := hev.good.1
    exact ⟨q, h1, h2, by omega, by simpa using h4, by omega⟩)
  have hn4 : n ≤ 4000 := by rw [hn]; exact kids_few hev.good (show r < T.length by omega)
  rw [← hn] at HSR
  obtain ⟨k0, k1, k2, k3, k4⟩ := hnv.cells hw
  rw [← hn] at k4
  have HE := Lib.hid hev
  have HNV := Lib.hid hnv
  have HS := Lib.hid hw
  have HRG := Lib.hid (fun q (hq : q < T.length) => rg_size (good_at hev.good hq))
  have hri : (r : Int) < (T.length : Int) := by omega
  have hr0 : IntKind.i64.wrap ((T.length : Int) - 1) = (r : Int) := by rw [show (T.length : Int) - 1 = (r : Int) by omega]; exact IntWalk.i64_in _ (by have := hev.good.1; omega)
  have hll : T.length ≤ 4000 := hev.good.1
  have HR := Lib.hid hr
  clear hev hnv hw hn hrr hr hr1
  go_enter Tryz.func10, Tryz.ntmps10
  go_wp2_with fail
  clear k0 k1 k2 k3 k4 hr0
  go_loopw [3, 14] (fun s v wr => ∃ (j : Nat) (t : ByteArray), s = .string t ∧ v = .int .i64 (j : Int) ∧ j ≤ n ∧ t.size ≤ 60000000 ∧ Hid (t = sL (srL T r j)) ∧ Hid (Below w.heap.size w wr)) (fun _ v _ => n - (intOf v).toNat)
  case atStart => exact ⟨0, _, rfl, rfl, Nat.zero_le _, by decide, Lib.hid rfl, Lib.hid (Below.refl _ _)⟩
  case round =>
    obtain ⟨j, t, rfl, rfl, hj, ht, HT, HX⟩ := hrel
    by_cases hlt : (j : Int) < (n : Int)
    · obtain ⟨q, hq, hq2, hqT0, hqk, hq9⟩ := HKF.out j (by omega)
      obtain ⟨A6, c6, hnq⟩ := HE.out.node hqT0
      have hbw := HS.out.trans (HX.out.mono HS.out.size)
      obtain ⟨b5, o5, rfl, _, hb5, r0⟩ := HNV.out.kid hbw hq
      have hqT : (q : Int) < (T.length : Int) := by omega
      have hkc := hnq.cells hbw
      have hbwr : b < wr.heap.size := Nat.lt_of_lt_of_le hnq.hb hbw.size
      have htx := (HRG.out q hqT0).1
      obtain ⟨x, hx⟩ : ∃ x, x = sL (hdS T (prT T q) (ndT T q) 0) := ⟨_, rfl⟩
      have HSN := Lib.hid (srL_succ T r j)
      rw [hq2] at HSN
      have HSE := Lib.hid (srL_le T r (show j + 1 ≤ n by omega))
      have hxs : x.size ≤ 60000000 := by
        have h1 := HSE.out
        have h2 := HSL.out
        rw [HSR.out] at h2
        rw [HSN.out] at h1
        unfold fnL at h1
        simp only [List.length_append] at h1
        rw [hx, sL_size]
        omega
      have HTN := Lib.hid (show t ++ ((⟨#[102, 117, 110, 99, 32]⟩ : ByteArray) ++ (ndT T q).text ++ x ++ (⟨#[10]⟩ : ByteArray)) = sL (srL T r (j + 1)) by
        rw [HSN.out, HT.out, hx]
        unfold fnL
        simp only [← sL_app, sL_tx]
        rfl)
      have HTS := Lib.hid (show (t ++ ((⟨#[102, 117, 110, 99, 32]⟩ : ByteArray) ++ (ndT T q).text ++ x ++ (⟨#[10]⟩ : ByteArray))).size ≤ 60000000 by
        rw [HTN.out, sL_size]
        have h1 := HSE.out
        have h2 := HSL.out
        rw [HSR.out] at h2
        omega)
      have HC := Lib.hid (fun (W : World) (hW : Below w0.heap.size w0 W) => (dpr_all HE.out q).2.2.2 _ _ hnq (.inl hqk) 0 W hW (by omega))
      rw [← hx] at HC
      unfold ndW at HC
      have HBW := Lib.hid hbw
      have ht0 := fun Z : WB wr => (Z.bel.cell (p := ⟨b, off + q * 5, none⟩) hbwr).trans hkc.1
      have ht1 := fun Z : WB wr => (Z.bel.cell (p := ⟨b, off + q * 5 + 1, none⟩) hbwr).trans hkc.2.1
      have ht2 := fun Z : WB wr => (Z.bel.cell (p := ⟨b, off + q * 5 + 2, none⟩) hbwr).trans hkc.2.2.1
      have ht3 := fun Z : WB wr => (Z.bel.cell (p := ⟨b, off + q * 5 + 3, none⟩) hbwr).trans hkc.2.2.2.1
      have ht4 := fun Z : WB wr => (Z.bel.cell (p := ⟨b, off + q * 5 + 4, none⟩) hbwr).trans hkc.2.2.2.2
      have n1 : ¬ 9223372036854775807 < 5 + (ndT T q).text.size := by omega
      have n2 : ¬ 9223372036854775807 < 5 + (ndT T q).text.size + x.size := by omega
      have n3 : ¬ 9223372036854775807 < 5 + (ndT T q).text.size + x.size + 1 := by omega
      have n4 : ¬ 9223372036854775807 < t.size + (5 + (ndT T q).text.size + x.size + 1) := by omega
      clear hq hq2 hnq hx hkc hbw hqk
      simp only [Int.natCast_zero] at HC
      go_wp2_with fail
      (refine wp_region_wb (by kernel_rfl) (by kernel_rfl) ?_; (repeat (first | go_big_quiet_step ((go_at_call 20; exact quietB (HC.out _ (HBW.out.trans ((WB.bel _).mono HBW.out.size))))) | quiet_step ((go_at_call 20; exact quietB (HC.out _ (HBW.out.trans ((WB.bel _).mono HBW.out.size))))))); refine wpQuiet_nil ?_; intro _ hw'; obtain ⟨⟨wq, hbq⟩, hw''⟩ := hw'; subst hw''; (try simp only))
      have HX3 := Lib.hid (HX.out.trans (hbq.mono HX.out.size))
      clear hbq r0 ht0 ht1 ht2 ht3 ht4
      go_wp2_with fail
      go_roundw
      case rel => exact ⟨j + 1, _, rfl, by simp, by omega, HTS.out, HTN, HX3⟩
      case measure => simp [intOf]; omega
    · have hjn : j = n := by omega
      subst hjn
      have HV := Lib.hid (show sL (srcL T) = t by rw [HSR.out, HT.out])
      go_wp2_with fail
      go_ret
      exact ⟨by rw [HV.out]; rfl, HX.out⟩
end Go.Proofs.YtkpejdkffkhekaaGreatDoor
end
section
/- The printer, whole. Conditions: the tree is a good one. -/
set_option maxRecDepth 100000
namespace Go.Proofs.YtkpejdkffkhekaaGreatDoor
open Go.ChangeShapes Go.WideShapes Go.ChangeAt Go.RowKit
set_option maxHeartbeats 2000000 in
theorem stringW {B g : Nat} {tr : Value} {d : Int} {l : List UInt8} {w : World} (h : Wr B g tr d l w) (h0 : l ≠ []) :
    Calls Tryz.prog 16 #[.pointer (some ⟨g, 0, none⟩)] w fun e w' => e = .returned (.string (sL l)) ∧ Below B w w' := by
  obtain ⟨hB, p, v, hbk, _, hown, _⟩ := h
  have hl0 : l.length ≠ 0 := by simpa using h0
  obtain ⟨q, cap, cur, rfl, hbg, hg, hnc, hcm, hcs, htake⟩ : ∃ q cap cur, v = .slice (some ⟨q, 0, none⟩) l.length cap ∧ B ≤ q ∧ w.heap[q]? = some (.cells cur 5 (0, 0)) ∧ l.length ≤ cap ∧ cap ≤ maxLen ∧ cur.size = cap * 1 ∧ cur.toList.take (l.length * 1) = Lib.byteCells l := by
    rcases hown.2 with ⟨_, hz⟩ | ⟨q, cap, cur, hv, r⟩
    · exact absurd hz hl0
    · exact ⟨q, cap, cur, hv, r⟩
  have c1 : w.drew.cell? ⟨g, 1, none⟩ = some (.slice (some ⟨q, 0, none⟩) l.length cap) := by
    have : w.drew.heap[g]? = some (.cells #[p, .slice (some ⟨q, 0, none⟩) l.length cap, tr, .int .i64 d] 38 (0, 0)) := hbk
    rw [Lib.cell_of_heap this]; rfl
  have hSD : (Builtin.unsafeSliceData_ #[34] 55 #[.slice (some ⟨q, 0, none⟩) l.length cap]).run Tryz.prog w.drew = .ok (.pointer (some ⟨q, 0, none⟩)) w.drew :=
    Lib.run_unsafeSliceData_row _ _ _ _ _ _ (by omega)
  have hUS : (Builtin.unsafeString_ #[55, 3] 9 #[.pointer (some ⟨q, 0, none⟩), .int .i64 l.length]).run Tryz.prog w.drew = .ok (.string (sL l)) (w.drew.freeze ⟨q, 0, none⟩ l.length) := by
    refine Lib.run_unsafeString_row w.drew 55 3 9 5 Tryz.lays169.t127 Tryz.Builder_Extra_169.cellsByte q cur.size (by have hg' : w.drew.heap[q]? = some (.cells cur 5 (0, 0)) := hg; simp [World.shape?, hg']) l h0 (by omega) (by unfold maxLen at hcm; omega) ?_
    intro j x hx
    have := hown.cells (g := q) rfl j (.int .u8 x.toNat) (by simp [Lib.byteCells, hx])
    exact this
  generalize sL l = s at *
  clear hbk hown htake
  go_enter Tryz.func16, Tryz.ntmps16
  go_wp2
  go_still_tail 10, (by kernel_rfl)
  change wpList _ _ _ _ _ w.drew
  go_wp2
  all_goals (go_ret; exact ⟨rfl, Lib.below_freeze (Below.drew (Below.refl B w)) (p := ⟨q, 0, none⟩) hbg _⟩)
set_option maxHeartbeats 2000000 in
theorem stringW0 {g : Nat} {p tr : Value} {d : Int} {w : World} (hbk : w.heap[g]? = some (.cells #[p, .slice none 0 0, tr, .int .i64 d] 38 (0, 0))) :
    Calls Tryz.prog 16 #[.pointer (some ⟨g, 0, none⟩)] w fun e w' => e = .returned (.string (sL [])) ∧ Below w.heap.size w w' := by
  have hUS : ∀ (W : World) (q : Option Addr), (Builtin.unsafeString_ #[55, 3] 9 #[.pointer q, .int .i64 0]).run Tryz.prog W = .ok (.string .empty) W := fun W q => Lib.run_unsafeString_none W _ _ _ q
  have c1 : w.drew.cell? ⟨g, 1, none⟩ = some (.slice none 0 0) := by
    have : w.drew.heap[g]? = some (.cells #[p, .slice none 0 0, tr, .int .i64 d] 38 (0, 0)) := hbk
    rw [Lib.cell_of_heap this]; rfl
  have hSD : (Builtin.unsafeSliceData_ #[34] 55 #[.slice none 0 0]).run Tryz.prog w.drew = .ok (.pointer none) w.drew := rfl
  clear hbk
  go_enter Tryz.func16, Tryz.ntmps16
  go_wp2
  go_still_tail 10, (by kernel_rfl)
  change wpList _ _ _ _ _ w.drew
  go_wp2
  all_goals (go_ret; exact ⟨rfl, Below.drew (Below.refl _ w)⟩)
theorem fn_ne (T : List ND) (k : Nat) : fnL T k ≠ [] := by
  unfold fnL
  simp
/-- The builder is still as it was made. -/
def Fresh (g : Nat) (tr : Value) (w : World) : Prop := w.heap[g]? = some (.cells #[.pointer none, .slice none 0 0, tr, .int .i64 0] 38 (0, 0))
set_option maxHeartbeats 8000000 in
theorem ptext_any {w : World} {b off c : Nat} {T : List ND} {m : Int} (hev : Ev w (some ⟨b, off, none⟩) c T m) : Calls Tryz.prog 8 #[trV b off c T] w fun e w' => e = .returned (.string (sL (srcL T))) ∧ Below w.heap.size w w' := by
  obtain ⟨hT0, hr1⟩ := root_at hev.good
  obtain ⟨r, hr⟩ : ∃ r, T.length = r + 1 := ⟨T.length - 1, by omega⟩
  have hrr : T.length - 1 = r := by omega
  rw [hrr] at hr1
  obtain ⟨A4, c4, hnv⟩ := hev.node (show r < T.length by omega)
  have HSR := Lib.hid (src_srL T)
  rw [hrr] at HSR
  have HSL := Lib.hid (src_len hev.good hev.nums)
  obtain ⟨n, hn⟩ : ∃ n, n = (ndT T r).kids.length := ⟨_, rfl⟩
  have HKF := Lib.hid (fun (j : Nat) (hj : j < n) => show ∃ q : Nat, (ndT T r).kids[j]? = some (q : Int) ∧ kidT (ndT T r) j = q ∧ q < T.length ∧ (ndT T q).kind = 2 ∧ q ≤ 9000 from by
    obtain ⟨q, h1, h2, h3, h4⟩ := kid_at hev.good (show r < T.length by omega) (by rw [← hn]; exact hj)
    unfold kidN at h4
    rw [hr1] at h4
    have := hev.good.1
    exact ⟨q, h1, h2, by omega, by simpa using h4, by omega⟩)
  have hn4 : n ≤ 4000 := by rw [hn]; exact kids_few hev.good (show r < T.length by omega)
  rw [← hn] at HSR
  obtain ⟨wa, hwa⟩ : ∃ wa, wa = w.alloc (.cells #[.pointer none, .slice none 0 0, trV b off c T, .int .i64 0] 38) := ⟨_, rfl⟩
  have hfa : Fresh w.heap.size (trV b off c T) wa := by rw [hwa]; exact heap_alloc_new w _
  have hba : Below w.heap.size w wa := by rw [hwa]; exact al _
  have hsa : wa.heap.size = w.heap.size + 1 := by rw [hwa]; simp
  obtain ⟨wb, hwb, hbx, hbel, hbs⟩ := box_new wa (ndT T r).kind (ndT T r).num (ndT T r).text (ndT T r).typ (.slice A4 n c4)
  rw [hwa] at hwb
  have hfb : Fresh w.heap.size (trV b off c T) wb := (hbel.block _ (by omega)).trans hfa
  have HBL := Lib.hid (hba.trans (hbel.mono hba.size))
  have hsx : Sx w w.heap.size (trV b off c T) ((0 : Nat) : Int) [] wb := by
    refine ⟨⟨Nat.le_refl _, _, _, hfb, .inl rfl, ⟨by rfl, .inl ⟨rfl, rfl⟩⟩, by intro h; cases h⟩, HBL.out⟩
  have b4 := (box_cells hbx).2.2.2.2
  rw [hsa] at b4
  obtain ⟨k0, k1, k2, k3, k4⟩ := hnv.cells hba
  rw [← hn] at k4
  have HE := Lib.hid hev
  have HNV := Lib.hid hnv
  have HRG := Lib.hid (fun q (hq : q < T.length) => rg_size (good_at hev.good hq))
  have hri : (r : Int) < (T.length : Int) := by omega
  have hr0 : IntKind.i64.wrap ((T.length : Int) - 1) = (r : Int) := by rw [show (T.length : Int) - 1 = (r : Int) by omega]; exact IntWalk.i64_in _ (by have := hev.good.1; omega)
  have hll : T.length ≤ 4000 := hev.good.1
  have HSX := Lib.hid hsx
  have HFB := Lib.hid hfb
  have hwsz : w.heap.size < wb.heap.size := by omega
  rw [hwa] at k0 k1 k2 k3 k4
  clear hev hnv hn hrr hr hr1 hfa hba hsa hwa hbx hbel hfb hsx hbs
  go_enter Tryz.func8, Tryz.ntmps8
  go_wp2_with fail
  clear hwb b4 k0 k1 k2 k3 k4 hr0
  go_loopw [20] (fun v wr => ∃ j : Nat, v = .int .i64 (j : Int) ∧ j ≤ n ∧ Hid (Sx w w.heap.size (trV b off c T) ((0 : Nat) : Int) (srL T r j) wr) ∧ Hid (j = 0 → Fresh w.heap.size (trV b off c T) wr)) (fun v _ => n - (intOf v).toNat)
  case atStart => exact ⟨0, rfl, Nat.zero_le _, Lib.hid (by simpa [srL] using HSX.out), Lib.hid (fun _ => HFB.out)⟩
  case round =>
    obtain ⟨j, rfl, hj, HX, HFR⟩ := hrel
    have hgr := HX.out.lt
    by_cases hlt : (j : Int) < (n : Int)
    · obtain ⟨q, hq, hq2, hqT0, hqk, hq9⟩ := HKF.out j (by omega)
      obtain ⟨A6, c6, hnq⟩ := HE.out.node hqT0
      obtain ⟨b5, o5, rfl, _, hb5, r0⟩ := HNV.out.kid HX.out.bel hq
      have hqT : (q : Int) < (T.length : Int) := by omega
      obtain ⟨k0, k1, k2, k3, k4⟩ := hnq.cells HX.out.bel
      have htx := (HRG.out q hqT0).1
      have HSN := Lib.hid (srL_succ T r j)
      rw [hq2] at HSN
      have HLN := Lib.hid (show (srL T r j).length + (5 + (ndT T q).text.size + (hdS T (prT T q) (ndT T q) 0).length + 1) ≤ 60000000 by
        have h1 := srL_le T r (show j + 1 ≤ n by omega)
        have h2 := HSL.out
        rw [HSR.out] at h2
        rw [HSN.out] at h1
        unfold fnL at h1
        simp only [List.length_append, List.length_cons, List.length_nil] at h1
        have h3 : (txB (ndT T q).text).length = (ndT T q).text.size := rfl
        omega)
      obtain ⟨wz, hwz, hz1, hzb, hzs⟩ := box_new wr (ndT T q).kind (ndT T q).num (ndT T q).text (ndT T q).typ (.slice A6 (ndT T q).kids.length c6)
      obtain ⟨z0, z1, z2, z3, z4⟩ := box_cells hz1
      have HZ1 := Lib.hid hz1
      have HTF := Lib.hid (show txB ((⟨#[102, 117, 110, 99, 32]⟩ : ByteArray) ++ (ndT T q).text) = [102, 117, 110, 99, 32] ++ txB (ndT T q).text by
        unfold txB
        rw [ByteArray.data_append]
        simp)
      have HTL := Lib.hid (show ((⟨#[102, 117, 110, 99, 32]⟩ : ByteArray) ++ (ndT T q).text).size = 5 + (ndT T q).text.size by rw [ByteArray.size_append]; rfl)
      have HWS := Lib.hid (wStr ((⟨#[102, 117, 110, 99, 32]⟩ : ByteArray) ++ (ndT T q).text) (HX.out.keep (dr hzb 1)) (by rw [HTL.out]; have := HLN.out; omega))
      have HSG := Lib.hid (fun (L : List UInt8) (W : World) (hW : Sx w w.heap.size (trV b off c T) ((0 : Nat) : Int) L W) (hl : L.length + (hdS T (prT T q) (ndT T q) 0).length ≤ 1099511627776) => (pr_all (g := w.heap.size) HE.out q).2.2.2 _ _ hnq (.inl hqk) 0 L W hW (by omega) hl)
      unfold ndW at HSG
      have n1 : ¬ 9223372036854775807 < 5 + (ndT T q).text.size := by omega
      have hne : wr.heap.size ≠ w.heap.size := by omega
      clear hq hq2 hnq hqk hz1 hzb HFR
      go_wp2_with fail
      clear hwz r0 k0 k1 k2 k3 k4
      go_still_tail 6, (by kernel_rfl)
      change wpList _ _ _ _ _ wz.drew
      go_wp2_with fail
      refine Calls.mono HWS.out ?_
      rintro e w3 ⟨rfl, h3, hk3, hs3⟩
      obtain ⟨y0, y1, y2, y3, y4⟩ := box_cells (kptBox hk3 HZ1.out hne (by decide))
      have H3 := Lib.hid (HSG.out _ _ h3 (by rw [HTF.out]; simp only [List.length_append, List.length_cons, List.length_nil]; have h9 := HLN.out; have h8 : (txB (ndT T q).text).length = (ndT T q).text.size := rfl; omega))
      clear h3 hk3 hs3 z0 z1 z2 z3 z4 HWS
      go_wp2_with fail
      refine Calls.mono H3.out ?_
      rintro e w4 ⟨rfl, h4, hk4, hs4⟩
      have H4 := Lib.hid (line_any h4 (by omega) (by rw [HTF.out]; simp only [List.length_append, List.length_cons, List.length_nil]; have h9 := HLN.out; have h8 : (txB (ndT T q).text).length = (ndT T q).text.size := rfl; omega))
      clear h4 hk4 hs4 y0 y1 y2 y3 y4
      go_wp2_with fail
      refine Calls.mono H4.out ?_
      rintro e w5 ⟨rfl, h5, hk5, hs5⟩
      have HX5 := Lib.hid (h5.to (L' := srL T r (j + 1)) (by
        rw [HSN.out, HTF.out]
        unfold fnL
        simp only [List.append_assoc]
        rfl))
      clear h5 hk5 hs5
      go_wp2_with fail
      go_roundw
      case rel => exact ⟨j + 1, by simp, by omega, HX5, Lib.hid (fun h => by omega)⟩
      case measure => simp [intOf]; omega
    · have hjn : j = n := by omega
      subst hjn
      by_cases hj0 : j = 0
      · have HS0 := Lib.hid (stringW0 (HFR.out hj0))
        have HV := Lib.hid (show sL (srcL T) = sL [] by rw [HSR.out, hj0]; rfl)
        have HBX := Lib.hid HX.out.bel
        clear hj0
        go_wp2_with fail
        refine Calls.mono HS0.out ?_
        rintro e w9 ⟨rfl, hb9⟩
        have HB9 := Lib.hid (HBX.out.trans (hb9.mono HBX.out.size))
        clear hb9
        go_wp2_with fail
        go_ret
        exact ⟨by rw [HV.out]; rfl, HB9.out⟩
      · have HS0 := Lib.hid (stringW HX.out.wr (by
          obtain ⟨i, rfl⟩ : ∃ i, j = i + 1 := ⟨j - 1, by omega⟩
          rw [srL_succ]
          intro h
          exact fn_ne _ _ (List.append_eq_nil_iff.1 h).2))
        have HV := Lib.hid (show sL (srcL T) = sL (srL T r j) by rw [HSR.out])
        have HBX := Lib.hid HX.out.bel
        generalize sL (srL T r j) = s at *
        go_wp2_with fail
        refine Calls.mono HS0.out ?_
        rintro e w9 ⟨rfl, hb9⟩
        have HB9 := Lib.hid (HBX.out.trans hb9)
        clear hb9
        go_wp2_with fail
        go_ret
        exact ⟨by rw [HV.out]; rfl, HB9.out⟩
end Go.Proofs.YtkpejdkffkhekaaGreatDoor
end
section
/- 'Print', the program's and the document's; the law. Conditions: none. -/
set_option maxRecDepth 100000
namespace Go.Proofs.YtkpejdkffkhekaaGreatDoor
open Go.ChangeShapes Go.WideShapes Go.ChangeAt Go.RowKit
/-- What 'Print' answers. -/
def Pans (T : List ND) (s : ByteArray) (n : Int) : Prop := (GoodT T ∧ 8000 < (srcL T).length ∧ s = ⟨#[]⟩ ∧ n = 1) ∨ (GoodT T ∧ ¬ 8000 < (srcL T).length ∧ s = sL (srcL T) ∧ n = 0) ∨ (¬ GoodT T ∧ s = ⟨#[]⟩ ∧ n = 6)
theorem Pans.one {T : List ND} {s s' : ByteArray} {n n' : Int} (h : Pans T s n) (h' : Pans T s' n') : s' = s ∧ n' = n := by
  rcases h with ⟨a, b, rfl, rfl⟩ | ⟨a, b, rfl, rfl⟩ | ⟨a, rfl, rfl⟩ <;> rcases h' with ⟨a', b', rfl, rfl⟩ | ⟨a', b', rfl, rfl⟩ | ⟨a', rfl, rfl⟩ <;> first | exact ⟨rfl, rfl⟩ | exact absurd b b' | exact absurd b' b | exact absurd a a' | exact absurd a' a
def PrintR (T : List ND) (w : World) (e : Ending) (w' : World) : Prop := ∃ s n, e = .returned (.tuple #[.string s, .int .i64 n]) ∧ Pans T s n ∧ Below w.heap.size w w'
theorem cell0_pos {w : World} {v : Value} (h : w.cell? ⟨0, 0, none⟩ = some v) : 0 < w.heap.size := by
  rcases Nat.eq_zero_or_pos w.heap.size with h0 | h0
  · have : w.heap[0]? = none := Array.getElem?_eq_none (by omega)
    simp [World.cell?, this] at h
  · exact h0
theorem ev_of {T : List ND} {A : Option Addr} {c : Nat} {w w1 : World} {m : Int} (h : (Shp.slice ND.sh).rd w (· < w.heap.size) [.slice A T.length c] T) (hf : ∀ x ∈ T, ND.fits x) (hg : GoodT T) (hm : w.cell? ⟨0, 0, none⟩ = some (.int .i64 m)) (hb : Below w.heap.size w w1) : Ev w1 A c T m :=
  ⟨(Shp.slice ND.sh).into h hb hb.size, hf, hg, (hb.cell (p := ⟨0, 0, none⟩) (cell0_pos hm)).trans hm, Nat.lt_of_lt_of_le (cell0_pos hm) hb.size⟩
set_option maxHeartbeats 4000000 in
theorem pprint_any {T : List ND} {A : Option Addr} {c : Nat} {w : World} {m : Int} (h : (Shp.slice ND.sh).rd w (· < w.heap.size) [.slice A T.length c] T) (hf : ∀ x ∈ T, ND.fits x) (hm : w.cell? ⟨0, 0, none⟩ = some (.int .i64 m)) :
    Calls Tryz.prog 4 #[.slice A T.length c] w (PrintR T w) := by
  have HG := Lib.hid (good_any h hf)
  have HEV := Lib.hid (fun (w1 : World) (hg : GoodT T) (hb : Below w.heap.size w w1) => ev_of h hf hg hm hb)
  clear h hf hm
  go_enter Tryz.func4, Tryz.ntmps4
  go_wp2_with fail
  refine Calls.mono HG.out ?_
  rintro e w1 ⟨b1, rfl, hb, hb1⟩
  have HB := Lib.hid hb1
  cases b1 with
  | false =>
    have HN := Lib.hid (show ¬ GoodT T from fun g => by have := hb.2 g; cases this)
    clear hb hb1
    go_wp2_with fail
    go_ret2
    exact ⟨_, _, rfl, .inr (.inr ⟨HN.out, rfl, rfl⟩), HB.out⟩
  | true =>
    have HGT := Lib.hid (hb.1 rfl)
    have hev := HEV.out w1 HGT.out hb1
    obtain ⟨bb, off, rfl, _⟩ := hev.form
    have HT := Lib.hid (ptext_any hev)
    obtain ⟨s, hs⟩ : ∃ s, s = sL (srcL T) := ⟨_, rfl⟩
    have hsz : s.size = (srcL T).length := by rw [hs, sL_size]
    rw [← hs] at HT
    have HSS := Lib.hid hs
    have HSZ := Lib.hid hsz
    clear hb hb1 hev hs
    by_cases h8 : 8000 < s.size
    · have h8i : (8000 : Int) < (s.size : Int) := by omega
      clear hsz
      go_wp2_with fail
      refine Calls.mono HT.out ?_
      rintro e w2 ⟨rfl, hb2⟩
      have HB2 := Lib.hid (HB.out.trans (hb2.mono HB.out.size))
      clear hb2
      go_wp2_with fail
      go_ret2
      exact ⟨_, _, rfl, .inl ⟨HGT.out, by rw [← HSZ.out]; exact h8, rfl, rfl⟩, HB2.out⟩
    · have h8i : ¬ (8000 : Int) < (s.size : Int) := by omega
      clear hsz
      go_wp2_with fail
      refine Calls.mono HT.out ?_
      rintro e w2 ⟨rfl, hb2⟩
      have HB2 := Lib.hid (HB.out.trans (hb2.mono HB.out.size))
      clear hb2
      go_wp2_with fail
      go_ret2
      exact ⟨_, _, rfl, .inr (.inl ⟨HGT.out, by rw [← HSZ.out]; exact h8, HSS.out, rfl⟩), HB2.out⟩
set_option maxHeartbeats 4000000 in
theorem rprint_any {T : List ND} {A : Option Addr} {c : Nat} {w : World} {m : Int} (h : (Shp.slice ND.sh).rd w (· < w.heap.size) [.slice A T.length c] T) (hf : ∀ x ∈ T, ND.fits x) (hm : w.cell? ⟨0, 0, none⟩ = some (.int .i64 m)) :
    Calls Tryz.prog 6 #[.slice A T.length c] w (PrintR T w) := by
  have HG := Lib.hid (refGood_any h hf)
  have HEV := Lib.hid (fun (w1 : World) (hg : GoodT T) (hb : Below w.heap.size w w1) => ev_of h hf hg hm hb)
  clear h hf hm
  go_enter Tryz.func6, Tryz.ntmps6
  go_wp2_with fail
  refine Calls.mono HG.out ?_
  rintro e w1 ⟨b1, rfl, hb, hb1⟩
  have HB := Lib.hid hb1
  cases b1 with
  | false =>
    have HN := Lib.hid (show ¬ GoodT T from fun g => by have := hb.2 g; cases this)
    clear hb hb1
    go_wp2_with fail
    go_ret2
    exact ⟨_, _, rfl, .inr (.inr ⟨HN.out, rfl, rfl⟩), HB.out⟩
  | true =>
    have HGT := Lib.hid (hb.1 rfl)
    have hev := HEV.out w1 HGT.out hb1
    obtain ⟨bb, off, rfl, _⟩ := hev.form
    have HT := Lib.hid (source_doc hev (Below.refl _ w1))
    obtain ⟨s, hs⟩ : ∃ s, s = sL (srcL T) := ⟨_, rfl⟩
    have hsz : s.size = (srcL T).length := by rw [hs, sL_size]
    rw [← hs] at HT
    have HSS := Lib.hid hs
    have HSZ := Lib.hid hsz
    clear hb hb1 hev hs
    by_cases h8 : 8000 < s.size
    · have h8i : (8000 : Int) < (s.size : Int) := by omega
      clear hsz
      go_wp2_with fail
      refine Calls.mono HT.out ?_
      rintro e w2 ⟨rfl, hb2⟩
      have HB2 := Lib.hid (HB.out.trans (hb2.mono HB.out.size))
      clear hb2
      go_wp2_with fail
      go_ret2
      exact ⟨_, _, rfl, .inl ⟨HGT.out, by rw [← HSZ.out]; exact h8, rfl, rfl⟩, HB2.out⟩
    · have h8i : ¬ (8000 : Int) < (s.size : Int) := by omega
      clear hsz
      go_wp2_with fail
      refine Calls.mono HT.out ?_
      rintro e w2 ⟨rfl, hb2⟩
      have HB2 := Lib.hid (HB.out.trans (hb2.mono HB.out.size))
      clear hb2
      go_wp2_with fail
      go_ret2
      exact ⟨_, _, rfl, .inr (.inl ⟨HGT.out, by rw [← HSZ.out]; exact h8, HSS.out, rfl⟩), HB2.out⟩
set_option maxHeartbeats 4000000 in
theorem walkParsePrints (v0 : Value) (m : Int) (w : World) (hm : w.cell? ⟨0, 0, none⟩ = some (.int .i64 m)) (w0 : IsNodes w v0) : Calls Tryz.prog 3 #[v0] w fun e w' => e = .returned (.bool true) ∧ Below w.heap.size w w' := by
  obtain ⟨l, hrd, hft, hsz⟩ := w0
  obtain ⟨A, c, ess, e, h9⟩ := id hrd
  simp only [List.cons.injEq, and_true] at e
  subst e
  have HRD := Lib.hid hrd
  have HFT := Lib.hid hft
  have HM := Lib.hid hm
  obtain ⟨n, hn⟩ : ∃ n, n = l.length := ⟨_, rfl⟩
  have HN := Lib.hid hn
  have htr := tree_any l A c w hrd hft hsz
  rw [← hn] at htr ⊢
  clear hrd h9 hft hn hm
  go_enter Tryz.func3, Tryz.ntmps3
  go_wp2_with fail
  refine Calls.mono htr ?_
  rintro e w1 ⟨v, rfl, hr1, hb1⟩
  obtain ⟨A1, c1, ess1, e1, _⟩ := id hr1
  simp only [List.cons.injEq, and_true] at e1
  subst e1
  have HR1 := Lib.hid ((Shp.slice ND.sh).more hr1 fun b hb => hb.2)
  have HB1 := Lib.hid hb1
  have HM1 := Lib.hid ((hb1.cell (p := ⟨0, 0, none⟩) (cell0_pos HM.out)).trans HM.out)
  clear htr hr1 hb1
  have hg1 := pprint_any HR1.out HFT.out HM1.out
  rw [← HN.out] at hg1 ⊢
  go_wp2_with fail
  refine Calls.mono hg1 ?_
  rintro e w2 ⟨s1, n1, rfl, h1, hb2⟩
  have H1 := Lib.hid h1
  have HB2 := Lib.hid (sq HB1.out hb2)
  clear hg1 h1 hb2
  have hg2 := rprint_any (w := w2) ((Shp.slice ND.sh).more ((Shp.slice ND.sh).keep HRD.out fun p hp => HB2.out.cell hp) fun q hq => Nat.lt_of_lt_of_le hq HB2.out.size) HFT.out ((HB2.out.cell (p := ⟨0, 0, none⟩) (cell0_pos HM.out)).trans HM.out)
  rw [← HN.out] at hg2
  go_wp2_with fail
  refine Calls.mono hg2 ?_
  rintro e w3 ⟨s2, n2, rfl, h2, hb3⟩
  obtain ⟨rfl, rfl⟩ := Pans.one H1.out h2
  have HB3 := Lib.hid (sq HB2.out hb3)
  clear hg2 h2 hb3
  go_wp2_with fail
  go_ret
  exact ⟨rfl, HB3.out⟩
end Go.Proofs.YtkpejdkffkhekaaGreatDoor
end
