/- The document's ReadCrash: what it answers. Conditions: the text's length. -/
import Derived.Test.YtdpgcojgnehnpaaRdW
import Derived.Test.YtdpgcojgnehnpaaRepCr
import Derived.Test.YtdpgcojgnehnpaaTextA
set_option maxRecDepth 20000
namespace Go.Proofs.Ytdpgcojgnehnpaa
open Go.ChangeShapes Go.WideShapes Go.ChangeAt Go.RowKit
theorem ext_drop (p : List UInt8) (h : Nat) : (⟨p.toArray⟩ : ByteArray).extract h (⟨p.toArray⟩ : ByteArray).size = ⟨(p.drop h).toArray⟩ := by
  rw [size_mk, extract_list, List.take_of_length_le (by simp)]
theorem glue_len (Q : List (List UInt8)) (x : List UInt8) : Q.length ≤ (glue (Q ++ [x])).length := by
  induction Q with
  | nil => exact Nat.zero_le _
  | cons p r ih =>
    rw [List.cons_append, glue_cons]
    simp
    omega
theorem lineR_short {i : Nat} {p : List UInt8} {h : Nat} (hh : (headB i).length = h) (hp : p.length < h) : lineR i p = none := by
  unfold lineR
  rw [hh, if_pos hp]
theorem lineR_long {i : Nat} {p : List UInt8} {h : Nat} (hh : (headB i).length = h) (hp : ¬ p.length < h) : lineR i p = if (readPV (cutS ⟨(p.drop h).toArray⟩ ⟨recB.toArray⟩)).2 = true then some ⟨i, (readPV (cutS ⟨(p.drop h).toArray⟩ ⟨recB.toArray⟩)).1, sfxB ⟨(p.drop h).toArray⟩ ⟨recB.toArray⟩, false⟩ else none := by
  unfold lineR
  rw [hh, if_neg hp, tail_cut]
theorem cutS_same {T : ByteArray} (h : sfxB T ⟨recB.toArray⟩ = false) : cutS T ⟨recB.toArray⟩ = T := by
  unfold cutS
  rw [h]; rfl
theorem sfx_short {T : ByteArray} (h : T.size < 12) : sfxB T ⟨recB.toArray⟩ = false := by
  unfold sfxB
  rw [show (⟨recB.toArray⟩ : ByteArray).size = 12 from rfl, decide_eq_false (by omega), Bool.false_and]
theorem sfx_at {T : ByteArray} {d : Nat} (hd : d + 12 = T.size) : sfxB T ⟨recB.toArray⟩ = ((T.extract d T.size).toList == [32, 91, 114, 101, 99, 111, 118, 101, 114, 101, 100, 93]) := by
  have h := ba_eq (T.extract d T.size) ⟨recB.toArray⟩
  rw [ByteArray.toList_eq (bs := ⟨recB.toArray⟩)] at h
  unfold sfxB
  rw [show (⟨recB.toArray⟩ : ByteArray).size = 12 from rfl, decide_eq_true (by omega), Bool.true_and, show T.size - 12 = d by omega, ← h]
  rfl
theorem cutS_at {T : ByteArray} {d : Nat} (hd : d + 12 = T.size) (h : sfxB T ⟨recB.toArray⟩ = true) : cutS T ⟨recB.toArray⟩ = T.extract 0 d := by
  unfold cutS
  rw [if_pos h, show (⟨recB.toArray⟩ : ByteArray).size = 12 from rfl, show T.size - 12 = d by omega]
theorem pfx_rte {B : ByteArray} (h : 15 ≤ B.size) : pfxB B rteS = ((B.extract 0 15).toList == [114, 117, 110, 116, 105, 109, 101, 32, 101, 114, 114, 111, 114, 58, 32]) := by
  have h1 := ba_eq (B.extract 0 15) rteS
  rw [ByteArray.toList_eq (bs := rteS)] at h1
  unfold pfxB
  rw [show rteS.size = 15 from rfl, decide_eq_true h, Bool.true_and, ← h1]
  rfl
theorem pfx_rte_no {B : ByteArray} (h : ¬ 15 ≤ B.size) : pfxB B rteS = false := by
  unfold pfxB
  rw [show rteS.size = 15 from rfl, decide_eq_false h, Bool.false_and]
theorem unqV_form (s : ByteArray) : ∃ u e, unqV s = .tuple #[.string u, .int .i64 e] := by
  unfold unqV
  split
  · exact ⟨_, _, rfl⟩
  · exact ⟨_, _, rfl⟩
set_option maxHeartbeats 8000000 in
theorem refReadCrash_any (s : ByteArray) (L last : List UInt8) (Q : List (List UInt8)) (hL : s.data.toList = L) (hQ : cutG 10 L [] = Q ++ [last]) (hs : s.size ≤ 1048576) (w : World) : Calls Try.prog 31 #[.string s] w (RcP (endV L last (goL lineR 0 Q)) w) := by
  obtain ⟨j0, hj, jz0, jz1, jz2⟩ := info_parts info_panic
  have hgl := glue_cut L []
  rw [hQ] at hgl
  have hgl2 : (glue (Q ++ [last])).length = s.size := by
    rw [hgl, ← hL]; simp
  have HGl := Lib.hid hgl2
  have HLs := Lib.hid hL
  have hcut := cutAt_any s 10 10 rfl (by omega) w
  rw [hL, hQ] at hcut
  have hK : Q.length ≤ 1048576 := by
    have := glue_len Q last
    omega
  clear hgl hgl2 hL
  go_enter Try.func31, Try.ntmps31
  go_wp2_with fail
  refine hcut.mono ?_
  rintro e w1 ⟨A, c, rfl, hown, hb⟩
  have hcap := own_cap hown
  obtain ⟨g, cap, hv, hwg, _⟩ := hown.form (by simp)
  injection hv with hA _ hc
  subst hA hc
  have hrd := Rd.of_own hown
  clear hown hcut
  have hlen : (Q ++ [last]).length = Q.length + 1 := by simp
  rw [hlen] at hrd hcap
  rw [hlen]
  have hcap2 : Q.length ≤ c := by omega
  have HRd := Lib.hid hrd
  obtain ⟨b, off, u, hA, hbl, hu, hcl⟩ := hrd.at1 (k := Q.length) (by omega)
  injection hA with hA
  injection hA with hA1 hA2
  subst hA1 hA2
  rw [Nat.zero_add] at hcl
  have hu2 : u = .string ⟨last.toArray⟩ := by
    simp [strs] at hu
    exact hu.symm
  subst hu2
  clear hu hlen hrd hcap hwg
  have HB1 := Lib.hid hb
  clear hb
  by_cases hl : last = []
  · have he : last.isEmpty = true := by rw [hl]; rfl
    have HEnd := Lib.hid (fun o : Option (List PP) => show endV L last o = chkL L o by unfold endV; rw [if_pos hl])
    clear hl
    go_wp2_with fail
    go_loopw [5, 30] (fun lv iv wr => ∃ (acc : List PP) (k : Nat), iv = .int .i64 (k : Int) ∧ k ≤ Q.length ∧ Hid (acc.length = k) ∧ Hid (goL lineR 0 Q = (goL lineR k (Q.drop k)).map (acc ++ ·)) ∧ Hid ((acc.map PP.bulk).sum + (glue (Q.drop k ++ [last])).length ≤ s.size) ∧ Own PP.sh 132 wr w1.heap.size (fun _ => False) lv acc ∧ Below w1.heap.size w1 wr) (fun _ iv _ => Q.length - (intOf iv).toNat)
    case atStart => exact ⟨[], 0, rfl, Nat.zero_le _, Lib.hid rfl, Lib.hid (by simp), Lib.hid (by rw [List.drop_zero, HGl.out]; simp), Own.nil, Below.refl _ _⟩
    case round =>
      obtain ⟨acc, k, rfl, hkQ, HAk, HG, HS, hown, hbel⟩ := hrel
      by_cases hlt : k < Q.length
      · obtain ⟨b, off, u, hA, hbl2, hu, hc2⟩ := HRd.out.at1 (k := k) (by omega)
        injection hA with hA
        injection hA with hA1 hA2
        subst hA1 hA2
        rw [Nat.zero_add, ← hbel.cell (p := ⟨g, k, none⟩) hbl] at hc2
        obtain ⟨p, hp⟩ : ∃ p, Q[k]? = some p := ⟨Q[k], List.getElem?_eq_getElem hlt⟩
        have hu2 : u = .string ⟨p.toArray⟩ := by
          rw [strs, List.getElem?_map, List.getElem?_append_left hlt, hp] at hu
          simpa using hu.symm
        subst hu2
        have hdr : Q.drop k = p :: Q.drop (k + 1) := by
          have h1 := List.drop_eq_getElem_cons hlt
          rw [List.getElem?_eq_getElem hlt] at hp
          injection hp with hp
          rw [h1, hp]
        obtain ⟨r, hr⟩ : ∃ r, Q.drop (k + 1) = r := ⟨_, rfl⟩
        rw [hr] at hdr
        have HR1 := Lib.hid hr
        have HBad := Lib.hid (show lineR k p = none → endV L last (goL lineR 0 Q) = none from fun h => by
          unfold endV
          split
          · rw [HG.out, hdr]; simp only [goL, h]; rfl
          · rfl)
        have HGo := Lib.hid (show ∀ x, lineR k p = some x → goL lineR 0 Q = (goL lineR (k + 1) (Q.drop (k + 1))).map ((acc ++ [x]) ++ ·) from fun x h => by
          rw [HG.out, hdr, hr]
          simp only [goL, h, Option.bind_some, Option.map_map]
          congr 1
          funext z
          simp)
        have hsum := HS.out
        rw [hdr, List.cons_append, glue_cons] at hsum
        have hsum2 : (acc.map PP.bulk).sum + (p.length + 1 + (glue (r ++ [last])).length) ≤ s.size := by
          have : (p ++ 10 :: glue (r ++ [last])).length = p.length + 1 + (glue (r ++ [last])).length := by simp; omega
          omega
        have HTs := Lib.hid hsum2
        have hpl : p.length ≤ 1048576 := by omega
        have HO := Lib.hid hown
        have hacc := len_le_sum acc
        have hal : acc.length ≤ 1048576 := by omega
        have HP := Lib.hid (size_mk p)
        obtain ⟨P, hP⟩ : ∃ P : ByteArray, (⟨p.toArray⟩ : ByteArray) = P := ⟨_, rfl⟩
        have HPp := Lib.hid hP.symm
        have hPs : P.size = p.length := by rw [← hP, size_mk]
        rw [hP] at hc2
        have hPm : P.size ≤ 1048576 := by omega
        have HPs := Lib.hid hPs
        obtain ⟨A1, c1, hlv⟩ := hown.form
        subst hlv
        have hwz := hbel.size
        clear hPs hP hr hsum hsum2 hown hacc hu hdr hp HP
        by_cases h0 : k = 0
        · have HHl := Lib.hid (show (headB k).length = 7 by unfold headB; rw [if_neg (by omega)]; rfl)
          have h0p : ¬ 0 < k := by omega
          clear h0
          by_cases hsh : P.size < 7
          · have HF := Lib.hid (HBad.out (lineR_short HHl.out (by have := HPs.out; omega)))
            go_wp2_with fail
            go_returns
            exact .inr ⟨HF.out, rfl, sq HB1.out hbel⟩
          · have HLg := Lib.hid (show ¬ p.length < 7 by have := HPs.out; omega)
            obtain ⟨T, hT⟩ : ∃ T, P.extract 7 P.size = T := ⟨_, rfl⟩
            have HTp := Lib.hid (show T = ⟨(p.drop 7).toArray⟩ by rw [← hT, HPp.out, ext_drop])
            have hTz : T.size + 7 = P.size := by have := HPs.out; rw [HTp.out, size_mk, List.length_drop]; omega
            have HLong := Lib.hid (lineR_long HHl.out HLg.out)
            by_cases h12 : T.size < 12
            · have hn1 : decide (12 ≤ (T.size : Int)) = false := decide_eq_false (by omega)
              have hn2 : decide (0 ≤ (T.size : Int) - 12) = false := decide_eq_false (by omega)
              have HSf := Lib.hid (sfx_short h12)
              have HCt := Lib.hid (cutS_same HSf.out)
              have HLine := Lib.hid (show lineR k p = if (readPV T).2 = true then some ⟨k, (readPV T).1, false, false⟩ else none by rw [HLong.out, ← HTp.out, HSf.out, HCt.out])
              have HBz := Lib.hid (show T.size ≤ p.length by have := HPs.out; omega)
              have hbl := readPV_bulk T
              have HBl := Lib.hid hbl
              have hBs : T.size ≤ 1048576 := by have := HBz.out; omega
              clear hbl
              cases hz : rd (byt T) with
              | some z =>
                have HPV := Lib.hid (show readPV T = (⟨1, z, ⟨#[]⟩, []⟩, true) by unfold readPV; rw [hz])
                have HRn := Lib.hid (readV_some hz)
                have hzr := rd_in hz
                clear hz
                have HSome := Lib.hid (HGo.out ⟨k, ⟨1, z, ⟨#[]⟩, []⟩, false, false⟩ (by have h := HLine.out; rw [HPV.out] at h; exact h))
                have HXB := Lib.hid (show (⟨1, z, ⟨#[]⟩, []⟩ : VV).bulk ≤ T.size + 1 by have := HBl.out.1; rw [HPV.out] at this; exact this)
                have HNew := Lib.hid (fun (w' : World) (M : Nat → Prop) => show PP.sh.rd w' M [.int .i64 (k : Int), .int .i64 1, .int .i64 z, .string ⟨#[]⟩, .slice none 0 0, .bool false, .bool false] ⟨k, ⟨1, z, ⟨#[]⟩, []⟩, false, false⟩ from PP.intro (p := ⟨k, ⟨1, z, ⟨#[]⟩, []⟩, false, false⟩) (by dsimp only; omega) (VV.intro (v := ⟨1, z, ⟨#[]⟩, []⟩) (A := none) (c := 0) RdM.nil (Nat.le_refl 0) (by unfold maxLen; omega) (.inl rfl) (by dsimp only; omega) (by dsimp only; omega) (by intro z hz; cases hz)))
                go_wp2_with fail
                refine (readNumber_any T _).mono ?_
                rintro e w2 ⟨rfl, hb2⟩
                rw [HRn.out]
                go_wp2_with fail
                refine (refUnquote_any T (by omega) _).mono ?_
                rintro e w3 ⟨rfl, nq, hw3⟩
                have hb3 := sq hb2 (show Below w2.heap.size w2 w3 by rw [hw3]; exact dr (Below.refl _ _) nq)
                clear hw3 hb2
                have cc0 := hb3.cell (p := ⟨wr.heap.size, 0, none⟩) (by go_size); have cc1 := hb3.cell (p := ⟨wr.heap.size, 1, none⟩) (by go_size); have cc2 := hb3.cell (p := ⟨wr.heap.size, 2, none⟩) (by go_size); have cc3 := hb3.cell (p := ⟨wr.heap.size, 3, none⟩) (by go_size); have cc4 := hb3.cell (p := ⟨wr.heap.size, 4, none⟩) (by go_size); have cc5 := hb3.cell (p := ⟨wr.heap.size, 5, none⟩) (by go_size); have cc6 := hb3.cell (p := ⟨wr.heap.size, 6, none⟩) (by go_size); (try simp at cc0 cc1 cc2 cc3 cc4 cc5 cc6)
                have ff0 := hb3.frozen (p := ⟨wr.heap.size, 0, none⟩) (by go_size); have ff1 := hb3.frozen (p := ⟨wr.heap.size, 1, none⟩) (by go_size); have ff2 := hb3.frozen (p := ⟨wr.heap.size, 2, none⟩) (by go_size); have ff3 := hb3.frozen (p := ⟨wr.heap.size, 3, none⟩) (by go_size); have ff4 := hb3.frozen (p := ⟨wr.heap.size, 4, none⟩) (by go_size); have ff5 := hb3.frozen (p := ⟨wr.heap.size, 5, none⟩) (by go_size); have ff6 := hb3.frozen (p := ⟨wr.heap.size, 6, none⟩) (by go_size); (try simp at ff0 ff1 ff2 ff3 ff4 ff5 ff6)
                have hl2 := hb3.size
                simp at hl2
                have hbR : Below wr.heap.size wr w3 := sq (al (w := wr) _) hb3
                clear hb3
                obtain ⟨uq, eq, hU⟩ := unqV_form T
                rw [hU]
                clear hU
                have HB2 := Lib.hid (fun v1 v2 v3 v4 o => set4_below hbR (Nat.le_refl _) hbR.size v1 v2 v3 v4 o)
                have HF2 := Lib.hid (fun v1 v2 v3 v4 o => HO.out.fresh (HB2.out v1 v2 v3 v4 o) (HNew.out ((((((w3.setCell ⟨wr.heap.size, 1, none⟩ v1).setCell ⟨wr.heap.size, 2, none⟩ v2).setCell ⟨wr.heap.size, 3, none⟩ v3).setCell ⟨wr.heap.size, 4, none⟩ v4).alloc o)) _) (fun _ h => h.elim))
                go_wp2_with (at_builtin; refine wpList_append_Own (S := PP.sh) rfl _ _ 57 rfl w1.heap.size 132 j0 _ 72 Try.underlying57 hj jz0 jz1 jz2 rfl (by show 0 < 7; omega) (fun _ => False) _ _ rfl (HF2.out _ _ _ _ _).1 _ _ 1 1 _ _ [⟨k, ⟨1, z, ⟨#[]⟩, []⟩, false, false⟩] rfl (Rd.one _ _ _ 7 rfl _ (by simp)) (by simp) rfl (HF2.out _ _ _ _ _).2 (by unfold maxLen; omega) (by omega) (by simp; omega) ?_; intro A4 c4 w5 hown4 hgrow4 _)
                refine ⟨⟨acc ++ [⟨k, ⟨1, z, ⟨#[]⟩, []⟩, false, false⟩], k + 1, by go_num, by omega, Lib.hid (by simp [HAk.out]), HSome, ?_, hown4, hbel.grown2 HO.out (HB2.out _ _ _ _ _) hgrow4⟩, by simp [intOf]; omega⟩
                apply Lib.hid
                rw [HR1.out, List.map_append, List.sum_append]
                have h1 := HTs.out
                have h3 := HXB.out
                have h4 := HBz.out
                show _ + ((⟨1, z, ⟨#[]⟩, []⟩ : VV).bulk + 0) + _ ≤ _
                omega
              | none =>
                have HRn := Lib.hid (readV_none hz)
                cases hq : unq T.data.toList with
                | some q =>
                  have HPV := Lib.hid (show readPV T = (⟨3, 0, ⟨q.toArray⟩, []⟩, true) by unfold readPV; rw [hz, hq])
                  have HUq := Lib.hid (unqV_some hq)
                  clear hz hq
                  have HSome := Lib.hid (HGo.out ⟨k, ⟨3, 0, ⟨q.toArray⟩, []⟩, false, false⟩ (by have h := HLine.out; rw [HPV.out] at h; exact h))
                  have HXB := Lib.hid (show (⟨3, 0, ⟨q.toArray⟩, []⟩ : VV).bulk ≤ T.size + 1 by have := HBl.out.1; rw [HPV.out] at this; exact this)
                  have HNew := Lib.hid (fun (w' : World) (M : Nat → Prop) => show PP.sh.rd w' M [.int .i64 (k : Int), .int .i64 3, .int .i64 0, .string ⟨q.toArray⟩, .slice none 0 0, .bool false, .bool false] ⟨k, ⟨3, 0, ⟨q.toArray⟩, []⟩, false, false⟩ from PP.intro (p := ⟨k, ⟨3, 0, ⟨q.toArray⟩, []⟩, false, false⟩) (by dsimp only; omega) (VV.intro (v := ⟨3, 0, ⟨q.toArray⟩, []⟩) (A := none) (c := 0) RdM.nil (Nat.le_refl 0) (by unfold maxLen; omega) (.inl rfl) (by dsimp only; omega) (by dsimp only; omega) (by intro z hz; cases hz)))
                  go_wp2_with fail
                  refine (readNumber_any T _).mono ?_
                  rintro e w2 ⟨rfl, hb2⟩
                  rw [HRn.out]
                  go_wp2_with fail
                  refine (refUnquote_any T (by omega) _).mono ?_
                  rintro e w3 ⟨rfl, nq, hw3⟩
                  have hb3 := sq hb2 (show Below w2.heap.size w2 w3 by rw [hw3]; exact dr (Below.refl _ _) nq)
                  clear hw3 hb2
                  have cc0 := hb3.cell (p := ⟨wr.heap.size, 0, none⟩) (by go_size); have cc1 := hb3.cell (p := ⟨wr.heap.size, 1, none⟩) (by go_size); have cc2 := hb3.cell (p := ⟨wr.heap.size, 2, none⟩) (by go_size); have cc3 := hb3.cell (p := ⟨wr.heap.size, 3, none⟩) (by go_size); have cc4 := hb3.cell (p := ⟨wr.heap.size, 4, none⟩) (by go_size); have cc5 := hb3.cell (p := ⟨wr.heap.size, 5, none⟩) (by go_size); have cc6 := hb3.cell (p := ⟨wr.heap.size, 6, none⟩) (by go_size); (try simp at cc0 cc1 cc2 cc3 cc4 cc5 cc6)
                  have ff0 := hb3.frozen (p := ⟨wr.heap.size, 0, none⟩) (by go_size); have ff1 := hb3.frozen (p := ⟨wr.heap.size, 1, none⟩) (by go_size); have ff2 := hb3.frozen (p := ⟨wr.heap.size, 2, none⟩) (by go_size); have ff3 := hb3.frozen (p := ⟨wr.heap.size, 3, none⟩) (by go_size); have ff4 := hb3.frozen (p := ⟨wr.heap.size, 4, none⟩) (by go_size); have ff5 := hb3.frozen (p := ⟨wr.heap.size, 5, none⟩) (by go_size); have ff6 := hb3.frozen (p := ⟨wr.heap.size, 6, none⟩) (by go_size); (try simp at ff0 ff1 ff2 ff3 ff4 ff5 ff6)
                  have hl2 := hb3.size
                  simp at hl2
                  have hbR : Below wr.heap.size wr w3 := sq (al (w := wr) _) hb3
                  clear hb3
                  rw [HUq.out]
                  have HB2 := Lib.hid (fun v1 v2 v3 v4 o => set4_below hbR (Nat.le_refl _) hbR.size v1 v2 v3 v4 o)
                  have HF2 := Lib.hid (fun v1 v2 v3 v4 o => HO.out.fresh (HB2.out v1 v2 v3 v4 o) (HNew.out ((((((w3.setCell ⟨wr.heap.size, 1, none⟩ v1).setCell ⟨wr.heap.size, 2, none⟩ v2).setCell ⟨wr.heap.size, 3, none⟩ v3).setCell ⟨wr.heap.size, 4, none⟩ v4).alloc o)) _) (fun _ h => h.elim))
                  go_wp2_with (at_builtin; refine wpList_append_Own (S := PP.sh) rfl _ _ 57 rfl w1.heap.size 132 j0 _ 72 Try.underlying57 hj jz0 jz1 jz2 rfl (by show 0 < 7; omega) (fun _ => False) _ _ rfl (HF2.out _ _ _ _ _).1 _ _ 1 1 _ _ [⟨k, ⟨3, 0, ⟨q.toArray⟩, []⟩, false, false⟩] rfl (Rd.one _ _ _ 7 rfl _ (by simp)) (by simp) rfl (HF2.out _ _ _ _ _).2 (by unfold maxLen; omega) (by omega) (by simp; omega) ?_; intro A4 c4 w5 hown4 hgrow4 _)
                  refine ⟨⟨acc ++ [⟨k, ⟨3, 0, ⟨q.toArray⟩, []⟩, false, false⟩], k + 1, by go_num, by omega, Lib.hid (by simp [HAk.out]), HSome, ?_, hown4, hbel.grown2 HO.out (HB2.out _ _ _ _ _) hgrow4⟩, by simp [intOf]; omega⟩
                  apply Lib.hid
                  rw [HR1.out, List.map_append, List.sum_append]
                  have h1 := HTs.out
                  have h3 := HXB.out
                  have h4 := HBz.out
                  show _ + ((⟨3, 0, ⟨q.toArray⟩, []⟩ : VV).bulk + 0) + _ ≤ _
                  omega
                | none =>
                  have HUq := Lib.hid (unqV_none hq)
                  have HPW := Lib.hid (show readPV T = (⟨5, 0, T, []⟩, pfxB T rteS) by unfold readPV; rw [hz, hq])
                  clear hz hq
                  by_cases h15 : 15 ≤ T.size
                  · exact absurd h15 (by omega)
                  · have HF := Lib.hid (HBad.out (by rw [HLine.out, HPW.out, pfx_rte_no h15]; rfl))
                    have h15a : decide (15 ≤ (T.size : Int)) = false := decide_eq_false (by omega)
                    go_wp2_with fail
                    refine (readNumber_any T _).mono ?_
                    rintro e w2 ⟨rfl, hb2⟩
                    rw [HRn.out]
                    go_wp2_with fail
                    refine (refUnquote_any T (by omega) _).mono ?_
                    rintro e w3 ⟨rfl, nq, hw3⟩
                    have hb3 := sq hb2 (show Below w2.heap.size w2 w3 by rw [hw3]; exact dr (Below.refl _ _) nq)
                    clear hw3 hb2
                    have hbR : Below wr.heap.size wr w3 := sq (al (w := wr) _) hb3
                    clear hb3
                    rw [HUq.out]
                    go_wp2_with fail
                    go_returns
                    exact .inr ⟨HF.out, rfl, sq (sq HB1.out hbel) hbR⟩
            · obtain ⟨d, hd⟩ : ∃ d : Nat, d + 12 = T.size := ⟨T.size - 12, by omega⟩
              have hdi : (T.size : Int) - 12 = (d : Int) := by omega
              have HSx := Lib.hid (sfx_at hd)
              cases hsx : ((T.extract d T.size).toList == [32, 91, 114, 101, 99, 111, 118, 101, 114, 101, 100, 93])
              · have HSf := Lib.hid (show sfxB T ⟨recB.toArray⟩ = false by rw [HSx.out, hsx])
                have HCt := Lib.hid (cutS_same HSf.out)
                have HLine := Lib.hid (show lineR k p = if (readPV T).2 = true then some ⟨k, (readPV T).1, false, false⟩ else none by rw [HLong.out, ← HTp.out, HSf.out, HCt.out])
                have HBz := Lib.hid (show T.size ≤ p.length by have := HPs.out; omega)
                have hbl := readPV_bulk T
                have HBl := Lib.hid hbl
                have hBs : T.size ≤ 1048576 := by have := HBz.out; omega
                clear hbl
                cases hz : rd (byt T) with
                | some z =>
                  have HPV := Lib.hid (show readPV T = (⟨1, z, ⟨#[]⟩, []⟩, true) by unfold readPV; rw [hz])
                  have HRn := Lib.hid (readV_some hz)
                  have hzr := rd_in hz
                  clear hz
                  have HSome := Lib.hid (HGo.out ⟨k, ⟨1, z, ⟨#[]⟩, []⟩, false, false⟩ (by have h := HLine.out; rw [HPV.out] at h; exact h))
                  have HXB := Lib.hid (show (⟨1, z, ⟨#[]⟩, []⟩ : VV).bulk ≤ T.size + 1 by have := HBl.out.1; rw [HPV.out] at this; exact this)
                  have HNew := Lib.hid (fun (w' : World) (M : Nat → Prop) => show PP.sh.rd w' M [.int .i64 (k : Int), .int .i64 1, .int .i64 z, .string ⟨#[]⟩, .slice none 0 0, .bool false, .bool false] ⟨k, ⟨1, z, ⟨#[]⟩, []⟩, false, false⟩ from PP.intro (p := ⟨k, ⟨1, z, ⟨#[]⟩, []⟩, false, false⟩) (by dsimp only; omega) (VV.intro (v := ⟨1, z, ⟨#[]⟩, []⟩) (A := none) (c := 0) RdM.nil (Nat.le_refl 0) (by unfold maxLen; omega) (.inl rfl) (by dsimp only; omega) (by dsimp only; omega) (by intro z hz; cases hz)))
                  go_wp2_with fail
                  refine (readNumber_any T _).mono ?_
                  rintro e w2 ⟨rfl, hb2⟩
                  rw [HRn.out]
                  go_wp2_with fail
                  refine (refUnquote_any T (by omega) _).mono ?_
                  rintro e w3 ⟨rfl, nq, hw3⟩
                  have hb3 := sq hb2 (show Below w2.heap.size w2 w3 by rw [hw3]; exact dr (Below.refl _ _) nq)
                  clear hw3 hb2
                  have cc0 := hb3.cell (p := ⟨wr.heap.size, 0, none⟩) (by go_size); have cc1 := hb3.cell (p := ⟨wr.heap.size, 1, none⟩) (by go_size); have cc2 := hb3.cell (p := ⟨wr.heap.size, 2, none⟩) (by go_size); have cc3 := hb3.cell (p := ⟨wr.heap.size, 3, none⟩) (by go_size); have cc4 := hb3.cell (p := ⟨wr.heap.size, 4, none⟩) (by go_size); have cc5 := hb3.cell (p := ⟨wr.heap.size, 5, none⟩) (by go_size); have cc6 := hb3.cell (p := ⟨wr.heap.size, 6, none⟩) (by go_size); (try simp at cc0 cc1 cc2 cc3 cc4 cc5 cc6)
                  have ff0 := hb3.frozen (p := ⟨wr.heap.size, 0, none⟩) (by go_size); have ff1 := hb3.frozen (p := ⟨wr.heap.size, 1, none⟩) (by go_size); have ff2 := hb3.frozen (p := ⟨wr.heap.size, 2, none⟩) (by go_size); have ff3 := hb3.frozen (p := ⟨wr.heap.size, 3, none⟩) (by go_size); have ff4 := hb3.frozen (p := ⟨wr.heap.size, 4, none⟩) (by go_size); have ff5 := hb3.frozen (p := ⟨wr.heap.size, 5, none⟩) (by go_size); have ff6 := hb3.frozen (p := ⟨wr.heap.size, 6, none⟩) (by go_size); (try simp at ff0 ff1 ff2 ff3 ff4 ff5 ff6)
                  have hl2 := hb3.size
                  simp at hl2
                  have hbR : Below wr.heap.size wr w3 := sq (al (w := wr) _) hb3
                  clear hb3
                  obtain ⟨uq, eq, hU⟩ := unqV_form T
                  rw [hU]
                  clear hU
                  have HB2 := Lib.hid (fun v1 v2 v3 v4 o => set4_below hbR (Nat.le_refl _) hbR.size v1 v2 v3 v4 o)
                  have HF2 := Lib.hid (fun v1 v2 v3 v4 o => HO.out.fresh (HB2.out v1 v2 v3 v4 o) (HNew.out ((((((w3.setCell ⟨wr.heap.size, 1, none⟩ v1).setCell ⟨wr.heap.size, 2, none⟩ v2).setCell ⟨wr.heap.size, 3, none⟩ v3).setCell ⟨wr.heap.size, 4, none⟩ v4).alloc o)) _) (fun _ h => h.elim))
                  go_wp2_with (at_builtin; refine wpList_append_Own (S := PP.sh) rfl _ _ 57 rfl w1.heap.size 132 j0 _ 72 Try.underlying57 hj jz0 jz1 jz2 rfl (by show 0 < 7; omega) (fun _ => False) _ _ rfl (HF2.out _ _ _ _ _).1 _ _ 1 1 _ _ [⟨k, ⟨1, z, ⟨#[]⟩, []⟩, false, false⟩] rfl (Rd.one _ _ _ 7 rfl _ (by simp)) (by simp) rfl (HF2.out _ _ _ _ _).2 (by unfold maxLen; omega) (by omega) (by simp; omega) ?_; intro A4 c4 w5 hown4 hgrow4 _)
                  refine ⟨⟨acc ++ [⟨k, ⟨1, z, ⟨#[]⟩, []⟩, false, false⟩], k + 1, by go_num, by omega, Lib.hid (by simp [HAk.out]), HSome, ?_, hown4, hbel.grown2 HO.out (HB2.out _ _ _ _ _) hgrow4⟩, by simp [intOf]; omega⟩
                  apply Lib.hid
                  rw [HR1.out, List.map_append, List.sum_append]
                  have h1 := HTs.out
                  have h3 := HXB.out
                  have h4 := HBz.out
                  show _ + ((⟨1, z, ⟨#[]⟩, []⟩ : VV).bulk + 0) + _ ≤ _
                  omega
                | none =>
                  have HRn := Lib.hid (readV_none hz)
                  cases hq : unq T.data.toList with
                  | some q =>
                    have HPV := Lib.hid (show readPV T = (⟨3, 0, ⟨q.toArray⟩, []⟩, true) by unfold readPV; rw [hz, hq])
                    have HUq := Lib.hid (unqV_some hq)
                    clear hz hq
                    have HSome := Lib.hid (HGo.out ⟨k, ⟨3, 0, ⟨q.toArray⟩, []⟩, false, false⟩ (by have h := HLine.out; rw [HPV.out] at h; exact h))
                    have HXB := Lib.hid (show (⟨3, 0, ⟨q.toArray⟩, []⟩ : VV).bulk ≤ T.size + 1 by have := HBl.out.1; rw [HPV.out] at this; exact this)
                    have HNew := Lib.hid (fun (w' : World) (M : Nat → Prop) => show PP.sh.rd w' M [.int .i64 (k : Int), .int .i64 3, .int .i64 0, .string ⟨q.toArray⟩, .slice none 0 0, .bool false, .bool false] ⟨k, ⟨3, 0, ⟨q.toArray⟩, []⟩, false, false⟩ from PP.intro (p := ⟨k, ⟨3, 0, ⟨q.toArray⟩, []⟩, false, false⟩) (by dsimp only; omega) (VV.intro (v := ⟨3, 0, ⟨q.toArray⟩, []⟩) (A := none) (c := 0) RdM.nil (Nat.le_refl 0) (by unfold maxLen; omega) (.inl rfl) (by dsimp only; omega) (by dsimp only; omega) (by intro z hz; cases hz)))
                    go_wp2_with fail
                    refine (readNumber_any T _).mono ?_
                    rintro e w2 ⟨rfl, hb2⟩
                    rw [HRn.out]
                    go_wp2_with fail
                    refine (refUnquote_any T (by omega) _).mono ?_
                    rintro e w3 ⟨rfl, nq, hw3⟩
                    have hb3 := sq hb2 (show Below w2.heap.size w2 w3 by rw [hw3]; exact dr (Below.refl _ _) nq)
                    clear hw3 hb2
                    have cc0 := hb3.cell (p := ⟨wr.heap.size, 0, none⟩) (by go_size); have cc1 := hb3.cell (p := ⟨wr.heap.size, 1, none⟩) (by go_size); have cc2 := hb3.cell (p := ⟨wr.heap.size, 2, none⟩) (by go_size); have cc3 := hb3.cell (p := ⟨wr.heap.size, 3, none⟩) (by go_size); have cc4 := hb3.cell (p := ⟨wr.heap.size, 4, none⟩) (by go_size); have cc5 := hb3.cell (p := ⟨wr.heap.size, 5, none⟩) (by go_size); have cc6 := hb3.cell (p := ⟨wr.heap.size, 6, none⟩) (by go_size); (try simp at cc0 cc1 cc2 cc3 cc4 cc5 cc6)
                    have ff0 := hb3.frozen (p := ⟨wr.heap.size, 0, none⟩) (by go_size); have ff1 := hb3.frozen (p := ⟨wr.heap.size, 1, none⟩) (by go_size); have ff2 := hb3.frozen (p := ⟨wr.heap.size, 2, none⟩) (by go_size); have ff3 := hb3.frozen (p := ⟨wr.heap.size, 3, none⟩) (by go_size); have ff4 := hb3.frozen (p := ⟨wr.heap.size, 4, none⟩) (by go_size); have ff5 := hb3.frozen (p := ⟨wr.heap.size, 5, none⟩) (by go_size); have ff6 := hb3.frozen (p := ⟨wr.heap.size, 6, none⟩) (by go_size); (try simp at ff0 ff1 ff2 ff3 ff4 ff5 ff6)
                    have hl2 := hb3.size
                    simp at hl2
                    have hbR : Below wr.heap.size wr w3 := sq (al (w := wr) _) hb3
                    clear hb3
                    rw [HUq.out]
                    have HB2 := Lib.hid (fun v1 v2 v3 v4 o => set4_below hbR (Nat.le_refl _) hbR.size v1 v2 v3 v4 o)
                    have HF2 := Lib.hid (fun v1 v2 v3 v4 o => HO.out.fresh (HB2.out v1 v2 v3 v4 o) (HNew.out ((((((w3.setCell ⟨wr.heap.size, 1, none⟩ v1).setCell ⟨wr.heap.size, 2, none⟩ v2).setCell ⟨wr.heap.size, 3, none⟩ v3).setCell ⟨wr.heap.size, 4, none⟩ v4).alloc o)) _) (fun _ h => h.elim))
                    go_wp2_with (at_builtin; refine wpList_append_Own (S := PP.sh) rfl _ _ 57 rfl w1.heap.size 132 j0 _ 72 Try.underlying57 hj jz0 jz1 jz2 rfl (by show 0 < 7; omega) (fun _ => False) _ _ rfl (HF2.out _ _ _ _ _).1 _ _ 1 1 _ _ [⟨k, ⟨3, 0, ⟨q.toArray⟩, []⟩, false, false⟩] rfl (Rd.one _ _ _ 7 rfl _ (by simp)) (by simp) rfl (HF2.out _ _ _ _ _).2 (by unfold maxLen; omega) (by omega) (by simp; omega) ?_; intro A4 c4 w5 hown4 hgrow4 _)
                    refine ⟨⟨acc ++ [⟨k, ⟨3, 0, ⟨q.toArray⟩, []⟩, false, false⟩], k + 1, by go_num, by omega, Lib.hid (by simp [HAk.out]), HSome, ?_, hown4, hbel.grown2 HO.out (HB2.out _ _ _ _ _) hgrow4⟩, by simp [intOf]; omega⟩
                    apply Lib.hid
                    rw [HR1.out, List.map_append, List.sum_append]
                    have h1 := HTs.out
                    have h3 := HXB.out
                    have h4 := HBz.out
                    show _ + ((⟨3, 0, ⟨q.toArray⟩, []⟩ : VV).bulk + 0) + _ ≤ _
                    omega
                  | none =>
                    have HUq := Lib.hid (unqV_none hq)
                    have HPW := Lib.hid (show readPV T = (⟨5, 0, T, []⟩, pfxB T rteS) by unfold readPV; rw [hz, hq])
                    clear hz hq
                    by_cases h15 : 15 ≤ T.size
                    · have HPf := Lib.hid (pfx_rte h15)
                      have h15a : decide (15 ≤ (T.size : Int)) = true := decide_eq_true (by omega)
                      cases hpf : ((T.extract 0 15).toList == [114, 117, 110, 116, 105, 109, 101, 32, 101, 114, 114, 111, 114, 58, 32])
                      · have HF := Lib.hid (HBad.out (by have h := HLine.out; rw [HPW.out, HPf.out, hpf] at h; exact h))
                        go_wp2_with fail
                        refine (readNumber_any T _).mono ?_
                        rintro e w2 ⟨rfl, hb2⟩
                        rw [HRn.out]
                        go_wp2_with fail
                        refine (refUnquote_any T (by omega) _).mono ?_
                        rintro e w3 ⟨rfl, nq, hw3⟩
                        have hb3 := sq hb2 (show Below w2.heap.size w2 w3 by rw [hw3]; exact dr (Below.refl _ _) nq)
                        clear hw3 hb2
                        have hbR : Below wr.heap.size wr w3 := sq (al (w := wr) _) hb3
                        clear hb3
                        rw [HUq.out]
                        go_wp2_with fail
                        go_returns
                        exact .inr ⟨HF.out, rfl, sq (sq HB1.out hbel) hbR⟩
                      · have HPV := Lib.hid (show readPV T = (⟨5, 0, T, []⟩, true) by rw [HPW.out, HPf.out, hpf])
                        have HSome := Lib.hid (HGo.out ⟨k, ⟨5, 0, T, []⟩, false, false⟩ (by have h := HLine.out; rw [HPV.out] at h; exact h))
                        have HXB := Lib.hid (show (⟨5, 0, T, []⟩ : VV).bulk ≤ T.size + 1 by have := HBl.out.1; rw [HPV.out] at this; exact this)
                        have HNew := Lib.hid (fun (w' : World) (M : Nat → Prop) => show PP.sh.rd w' M [.int .i64 (k : Int), .int .i64 5, .int .i64 0, .string T, .slice none 0 0, .bool false, .bool false] ⟨k, ⟨5, 0, T, []⟩, false, false⟩ from PP.intro (p := ⟨k, ⟨5, 0, T, []⟩, false, false⟩) (by dsimp only; omega) (VV.intro (v := ⟨5, 0, T, []⟩) (A := none) (c := 0) RdM.nil (Nat.le_refl 0) (by unfold maxLen; omega) (.inl rfl) (by dsimp only; omega) (by dsimp only; omega) (by intro z hz; cases hz)))
                        go_wp2_with fail
                        refine (readNumber_any T _).mono ?_
                        rintro e w2 ⟨rfl, hb2⟩
                        rw [HRn.out]
                        go_wp2_with fail
                        refine (refUnquote_any T (by omega) _).mono ?_
                        rintro e w3 ⟨rfl, nq, hw3⟩
                        have hb3 := sq hb2 (show Below w2.heap.size w2 w3 by rw [hw3]; exact dr (Below.refl _ _) nq)
                        clear hw3 hb2
                        have cc0 := hb3.cell (p := ⟨wr.heap.size, 0, none⟩) (by go_size); have cc1 := hb3.cell (p := ⟨wr.heap.size, 1, none⟩) (by go_size); have cc2 := hb3.cell (p := ⟨wr.heap.size, 2, none⟩) (by go_size); have cc3 := hb3.cell (p := ⟨wr.heap.size, 3, none⟩) (by go_size); have cc4 := hb3.cell (p := ⟨wr.heap.size, 4, none⟩) (by go_size); have cc5 := hb3.cell (p := ⟨wr.heap.size, 5, none⟩) (by go_size); have cc6 := hb3.cell (p := ⟨wr.heap.size, 6, none⟩) (by go_size); (try simp at cc0 cc1 cc2 cc3 cc4 cc5 cc6)
                        have ff0 := hb3.frozen (p := ⟨wr.heap.size, 0, none⟩) (by go_size); have ff1 := hb3.frozen (p := ⟨wr.heap.size, 1, none⟩) (by go_size); have ff2 := hb3.frozen (p := ⟨wr.heap.size, 2, none⟩) (by go_size); have ff3 := hb3.frozen (p := ⟨wr.heap.size, 3, none⟩) (by go_size); have ff4 := hb3.frozen (p := ⟨wr.heap.size, 4, none⟩) (by go_size); have ff5 := hb3.frozen (p := ⟨wr.heap.size, 5, none⟩) (by go_size); have ff6 := hb3.frozen (p := ⟨wr.heap.size, 6, none⟩) (by go_size); (try simp at ff0 ff1 ff2 ff3 ff4 ff5 ff6)
                        have hl2 := hb3.size
                        simp at hl2
                        have hbR : Below wr.heap.size wr w3 := sq (al (w := wr) _) hb3
                        clear hb3
                        rw [HUq.out]
                        have HB2 := Lib.hid (fun v1 v2 v3 v4 o => set4_below hbR (Nat.le_refl _) hbR.size v1 v2 v3 v4 o)
                        have HF2 := Lib.hid (fun v1 v2 v3 v4 o => HO.out.fresh (HB2.out v1 v2 v3 v4 o) (HNew.out ((((((w3.setCell ⟨wr.heap.size, 1, none⟩ v1).setCell ⟨wr.heap.size, 2, none⟩ v2).setCell ⟨wr.heap.size, 3, none⟩ v3).setCell ⟨wr.heap.size, 4, none⟩ v4).alloc o)) _) (fun _ h => h.elim))
                        go_wp2_with (at_builtin; refine wpList_append_Own (S := PP.sh) rfl _ _ 57 rfl w1.heap.size 132 j0 _ 72 Try.underlying57 hj jz0 jz1 jz2 rfl (by show 0 < 7; omega) (fun _ => False) _ _ rfl (HF2.out _ _ _ _ _).1 _ _ 1 1 _ _ [⟨k, ⟨5, 0, T, []⟩, false, false⟩] rfl (Rd.one _ _ _ 7 rfl _ (by simp)) (by simp) rfl (HF2.out _ _ _ _ _).2 (by unfold maxLen; omega) (by omega) (by simp; omega) ?_; intro A4 c4 w5 hown4 hgrow4 _)
                        refine ⟨⟨acc ++ [⟨k, ⟨5, 0, T, []⟩, false, false⟩], k + 1, by go_num, by omega, Lib.hid (by simp [HAk.out]), HSome, ?_, hown4, hbel.grown2 HO.out (HB2.out _ _ _ _ _) hgrow4⟩, by simp [intOf]; omega⟩
                        apply Lib.hid
                        rw [HR1.out, List.map_append, List.sum_append]
                        have h1 := HTs.out
                        have h3 := HXB.out
                        have h4 := HBz.out
                        show _ + ((⟨5, 0, T, []⟩ : VV).bulk + 0) + _ ≤ _
                        omega
                    · have HF := Lib.hid (HBad.out (by rw [HLine.out, HPW.out, pfx_rte_no h15]; rfl))
                      have h15a : decide (15 ≤ (T.size : Int)) = false := decide_eq_false (by omega)
                      go_wp2_with fail
                      refine (readNumber_any T _).mono ?_
                      rintro e w2 ⟨rfl, hb2⟩
                      rw [HRn.out]
                      go_wp2_with fail
                      refine (refUnquote_any T (by omega) _).mono ?_
                      rintro e w3 ⟨rfl, nq, hw3⟩
                      have hb3 := sq hb2 (show Below w2.heap.size w2 w3 by rw [hw3]; exact dr (Below.refl _ _) nq)
                      clear hw3 hb2
                      have hbR : Below wr.heap.size wr w3 := sq (al (w := wr) _) hb3
                      clear hb3
                      rw [HUq.out]
                      go_wp2_with fail
                      go_returns
                      exact .inr ⟨HF.out, rfl, sq (sq HB1.out hbel) hbR⟩
              · have HSf := Lib.hid (show sfxB T ⟨recB.toArray⟩ = true by rw [HSx.out, hsx])
                obtain ⟨B, hB⟩ : ∃ B, T.extract 0 d = B := ⟨_, rfl⟩
                have HCt := Lib.hid (show cutS T ⟨recB.toArray⟩ = B by rw [← hB]; exact cutS_at hd HSf.out)
                have HLine := Lib.hid (show lineR k p = if (readPV B).2 = true then some ⟨k, (readPV B).1, true, false⟩ else none by rw [HLong.out, ← HTp.out, HSf.out, HCt.out])
                have HBz := Lib.hid (show B.size ≤ p.length by have := HPs.out; rw [← hB, ByteArray.size_extract]; omega)
                have hbl := readPV_bulk B
                have HBl := Lib.hid hbl
                have hBs : B.size ≤ 1048576 := by have := HBz.out; omega
                clear hbl
                cases hz : rd (byt B) with
                | some z =>
                  have HPV := Lib.hid (show readPV B = (⟨1, z, ⟨#[]⟩, []⟩, true) by unfold readPV; rw [hz])
                  have HRn := Lib.hid (readV_some hz)
                  have hzr := rd_in hz
                  clear hz
                  have HSome := Lib.hid (HGo.out ⟨k, ⟨1, z, ⟨#[]⟩, []⟩, true, false⟩ (by have h := HLine.out; rw [HPV.out] at h; exact h))
                  have HXB := Lib.hid (show (⟨1, z, ⟨#[]⟩, []⟩ : VV).bulk ≤ B.size + 1 by have := HBl.out.1; rw [HPV.out] at this; exact this)
                  have HNew := Lib.hid (fun (w' : World) (M : Nat → Prop) => show PP.sh.rd w' M [.int .i64 (k : Int), .int .i64 1, .int .i64 z, .string ⟨#[]⟩, .slice none 0 0, .bool true, .bool false] ⟨k, ⟨1, z, ⟨#[]⟩, []⟩, true, false⟩ from PP.intro (p := ⟨k, ⟨1, z, ⟨#[]⟩, []⟩, true, false⟩) (by dsimp only; omega) (VV.intro (v := ⟨1, z, ⟨#[]⟩, []⟩) (A := none) (c := 0) RdM.nil (Nat.le_refl 0) (by unfold maxLen; omega) (.inl rfl) (by dsimp only; omega) (by dsimp only; omega) (by intro z hz; cases hz)))
                  go_wp2_with fail
                  refine (readNumber_any B _).mono ?_
                  rintro e w2 ⟨rfl, hb2⟩
                  rw [HRn.out]
                  go_wp2_with fail
                  refine (refUnquote_any B (by omega) _).mono ?_
                  rintro e w3 ⟨rfl, nq, hw3⟩
                  have hb3 := sq hb2 (show Below w2.heap.size w2 w3 by rw [hw3]; exact dr (Below.refl _ _) nq)
                  clear hw3 hb2
                  have cc0 := hb3.cell (p := ⟨wr.heap.size, 0, none⟩) (by go_size); have cc1 := hb3.cell (p := ⟨wr.heap.size, 1, none⟩) (by go_size); have cc2 := hb3.cell (p := ⟨wr.heap.size, 2, none⟩) (by go_size); have cc3 := hb3.cell (p := ⟨wr.heap.size, 3, none⟩) (by go_size); have cc4 := hb3.cell (p := ⟨wr.heap.size, 4, none⟩) (by go_size); have cc5 := hb3.cell (p := ⟨wr.heap.size, 5, none⟩) (by go_size); have cc6 := hb3.cell (p := ⟨wr.heap.size, 6, none⟩) (by go_size); (try simp at cc0 cc1 cc2 cc3 cc4 cc5 cc6)
                  have ff0 := hb3.frozen (p := ⟨wr.heap.size, 0, none⟩) (by go_size); have ff1 := hb3.frozen (p := ⟨wr.heap.size, 1, none⟩) (by go_size); have ff2 := hb3.frozen (p := ⟨wr.heap.size, 2, none⟩) (by go_size); have ff3 := hb3.frozen (p := ⟨wr.heap.size, 3, none⟩) (by go_size); have ff4 := hb3.frozen (p := ⟨wr.heap.size, 4, none⟩) (by go_size); have ff5 := hb3.frozen (p := ⟨wr.heap.size, 5, none⟩) (by go_size); have ff6 := hb3.frozen (p := ⟨wr.heap.size, 6, none⟩) (by go_size); (try simp at ff0 ff1 ff2 ff3 ff4 ff5 ff6)
                  have hl2 := hb3.size
                  simp at hl2
                  have hbR : Below wr.heap.size wr w3 := sq (al (w := wr) _) hb3
                  clear hb3
                  obtain ⟨uq, eq, hU⟩ := unqV_form B
                  rw [hU]
                  clear hU
                  have HB2 := Lib.hid (fun v1 v2 v3 v4 o => set4_below hbR (Nat.le_refl _) hbR.size v1 v2 v3 v4 o)
                  have HF2 := Lib.hid (fun v1 v2 v3 v4 o => HO.out.fresh (HB2.out v1 v2 v3 v4 o) (HNew.out ((((((w3.setCell ⟨wr.heap.size, 1, none⟩ v1).setCell ⟨wr.heap.size, 2, none⟩ v2).setCell ⟨wr.heap.size, 3, none⟩ v3).setCell ⟨wr.heap.size, 4, none⟩ v4).alloc o)) _) (fun _ h => h.elim))
                  go_wp2_with (at_builtin; refine wpList_append_Own (S := PP.sh) rfl _ _ 57 rfl w1.heap.size 132 j0 _ 72 Try.underlying57 hj jz0 jz1 jz2 rfl (by show 0 < 7; omega) (fun _ => False) _ _ rfl (HF2.out _ _ _ _ _).1 _ _ 1 1 _ _ [⟨k, ⟨1, z, ⟨#[]⟩, []⟩, true, false⟩] rfl (Rd.one _ _ _ 7 rfl _ (by simp)) (by simp) rfl (HF2.out _ _ _ _ _).2 (by unfold maxLen; omega) (by omega) (by simp; omega) ?_; intro A4 c4 w5 hown4 hgrow4 _)
                  refine ⟨⟨acc ++ [⟨k, ⟨1, z, ⟨#[]⟩, []⟩, true, false⟩], k + 1, by go_num, by omega, Lib.hid (by simp [HAk.out]), HSome, ?_, hown4, hbel.grown2 HO.out (HB2.out _ _ _ _ _) hgrow4⟩, by simp [intOf]; omega⟩
                  apply Lib.hid
                  rw [HR1.out, List.map_append, List.sum_append]
                  have h1 := HTs.out
                  have h3 := HXB.out
                  have h4 := HBz.out
                  show _ + ((⟨1, z, ⟨#[]⟩, []⟩ : VV).bulk + 0) + _ ≤ _
                  omega
                | none =>
                  have HRn := Lib.hid (readV_none hz)
                  cases hq : unq B.data.toList with
                  | some q =>
                    have HPV := Lib.hid (show readPV B = (⟨3, 0, ⟨q.toArray⟩, []⟩, true) by unfold readPV; rw [hz, hq])
                    have HUq := Lib.hid (unqV_some hq)
                    clear hz hq
                    have HSome := Lib.hid (HGo.out ⟨k, ⟨3, 0, ⟨q.toArray⟩, []⟩, true, false⟩ (by have h := HLine.out; rw [HPV.out] at h; exact h))
                    have HXB := Lib.hid (show (⟨3, 0, ⟨q.toArray⟩, []⟩ : VV).bulk ≤ B.size + 1 by have := HBl.out.1; rw [HPV.out] at this; exact this)
                    have HNew := Lib.hid (fun (w' : World) (M : Nat → Prop) => show PP.sh.rd w' M [.int .i64 (k : Int), .int .i64 3, .int .i64 0, .string ⟨q.toArray⟩, .slice none 0 0, .bool true, .bool false] ⟨k, ⟨3, 0, ⟨q.toArray⟩, []⟩, true, false⟩ from PP.intro (p := ⟨k, ⟨3, 0, ⟨q.toArray⟩, []⟩, true, false⟩) (by dsimp only; omega) (VV.intro (v := ⟨3, 0, ⟨q.toArray⟩, []⟩) (A := none) (c := 0) RdM.nil (Nat.le_refl 0) (by unfold maxLen; omega) (.inl rfl) (by dsimp only; omega) (by dsimp only; omega) (by intro z hz; cases hz)))
                    go_wp2_with fail
                    refine (readNumber_any B _).mono ?_
                    rintro e w2 ⟨rfl, hb2⟩
                    rw [HRn.out]
                    go_wp2_with fail
                    refine (refUnquote_any B (by omega) _).mono ?_
                    rintro e w3 ⟨rfl, nq, hw3⟩
                    have hb3 := sq hb2 (show Below w2.heap.size w2 w3 by rw [hw3]; exact dr (Below.refl _ _) nq)
                    clear hw3 hb2
                    have cc0 := hb3.cell (p := ⟨wr.heap.size, 0, none⟩) (by go_size); have cc1 := hb3.cell (p := ⟨wr.heap.size, 1, none⟩) (by go_size); have cc2 := hb3.cell (p := ⟨wr.heap.size, 2, none⟩) (by go_size); have cc3 := hb3.cell (p := ⟨wr.heap.size, 3, none⟩) (by go_size); have cc4 := hb3.cell (p := ⟨wr.heap.size, 4, none⟩) (by go_size); have cc5 := hb3.cell (p := ⟨wr.heap.size, 5, none⟩) (by go_size); have cc6 := hb3.cell (p := ⟨wr.heap.size, 6, none⟩) (by go_size); (try simp at cc0 cc1 cc2 cc3 cc4 cc5 cc6)
                    have ff0 := hb3.frozen (p := ⟨wr.heap.size, 0, none⟩) (by go_size); have ff1 := hb3.frozen (p := ⟨wr.heap.size, 1, none⟩) (by go_size); have ff2 := hb3.frozen (p := ⟨wr.heap.size, 2, none⟩) (by go_size); have ff3 := hb3.frozen (p := ⟨wr.heap.size, 3, none⟩) (by go_size); have ff4 := hb3.frozen (p := ⟨wr.heap.size, 4, none⟩) (by go_size); have ff5 := hb3.frozen (p := ⟨wr.heap.size, 5, none⟩) (by go_size); have ff6 := hb3.frozen (p := ⟨wr.heap.size, 6, none⟩) (by go_size); (try simp at ff0 ff1 ff2 ff3 ff4 ff5 ff6)
                    have hl2 := hb3.size
                    simp at hl2
                    have hbR : Below wr.heap.size wr w3 := sq (al (w := wr) _) hb3
                    clear hb3
                    rw [HUq.out]
                    have HB2 := Lib.hid (fun v1 v2 v3 v4 o => set4_below hbR (Nat.le_refl _) hbR.size v1 v2 v3 v4 o)
                    have HF2 := Lib.hid (fun v1 v2 v3 v4 o => HO.out.fresh (HB2.out v1 v2 v3 v4 o) (HNew.out ((((((w3.setCell ⟨wr.heap.size, 1, none⟩ v1).setCell ⟨wr.heap.size, 2, none⟩ v2).setCell ⟨wr.heap.size, 3, none⟩ v3).setCell ⟨wr.heap.size, 4, none⟩ v4).alloc o)) _) (fun _ h => h.elim))
                    go_wp2_with (at_builtin; refine wpList_append_Own (S := PP.sh) rfl _ _ 57 rfl w1.heap.size 132 j0 _ 72 Try.underlying57 hj jz0 jz1 jz2 rfl (by show 0 < 7; omega) (fun _ => False) _ _ rfl (HF2.out _ _ _ _ _).1 _ _ 1 1 _ _ [⟨k, ⟨3, 0, ⟨q.toArray⟩, []⟩, true, false⟩] rfl (Rd.one _ _ _ 7 rfl _ (by simp)) (by simp) rfl (HF2.out _ _ _ _ _).2 (by unfold maxLen; omega) (by omega) (by simp; omega) ?_; intro A4 c4 w5 hown4 hgrow4 _)
                    refine ⟨⟨acc ++ [⟨k, ⟨3, 0, ⟨q.toArray⟩, []⟩, true, false⟩], k + 1, by go_num, by omega, Lib.hid (by simp [HAk.out]), HSome, ?_, hown4, hbel.grown2 HO.out (HB2.out _ _ _ _ _) hgrow4⟩, by simp [intOf]; omega⟩
                    apply Lib.hid
                    rw [HR1.out, List.map_append, List.sum_append]
                    have h1 := HTs.out
                    have h3 := HXB.out
                    have h4 := HBz.out
                    show _ + ((⟨3, 0, ⟨q.toArray⟩, []⟩ : VV).bulk + 0) + _ ≤ _
                    omega
                  | none =>
                    have HUq := Lib.hid (unqV_none hq)
                    have HPW := Lib.hid (show readPV B = (⟨5, 0, B, []⟩, pfxB B rteS) by unfold readPV; rw [hz, hq])
                    clear hz hq
                    by_cases h15 : 15 ≤ B.size
                    · have HPf := Lib.hid (pfx_rte h15)
                      have h15a : decide (15 ≤ (B.size : Int)) = true := decide_eq_true (by omega)
                      cases hpf : ((B.extract 0 15).toList == [114, 117, 110, 116, 105, 109, 101, 32, 101, 114, 114, 111, 114, 58, 32])
                      · have HF := Lib.hid (HBad.out (by have h := HLine.out; rw [HPW.out, HPf.out, hpf] at h; exact h))
                        go_wp2_with fail
                        refine (readNumber_any B _).mono ?_
                        rintro e w2 ⟨rfl, hb2⟩
                        rw [HRn.out]
                        go_wp2_with fail
                        refine (refUnquote_any B (by omega) _).mono ?_
                        rintro e w3 ⟨rfl, nq, hw3⟩
                        have hb3 := sq hb2 (show Below w2.heap.size w2 w3 by rw [hw3]; exact dr (Below.refl _ _) nq)
                        clear hw3 hb2
                        have hbR : Below wr.heap.size wr w3 := sq (al (w := wr) _) hb3
                        clear hb3
                        rw [HUq.out]
                        go_wp2_with fail
                        go_returns
                        exact .inr ⟨HF.out, rfl, sq (sq HB1.out hbel) hbR⟩
                      · have HPV := Lib.hid (show readPV B = (⟨5, 0, B, []⟩, true) by rw [HPW.out, HPf.out, hpf])
                        have HSome := Lib.hid (HGo.out ⟨k, ⟨5, 0, B, []⟩, true, false⟩ (by have h := HLine.out; rw [HPV.out] at h; exact h))
                        have HXB := Lib.hid (show (⟨5, 0, B, []⟩ : VV).bulk ≤ B.size + 1 by have := HBl.out.1; rw [HPV.out] at this; exact this)
                        have HNew := Lib.hid (fun (w' : World) (M : Nat → Prop) => show PP.sh.rd w' M [.int .i64 (k : Int), .int .i64 5, .int .i64 0, .string B, .slice none 0 0, .bool true, .bool false] ⟨k, ⟨5, 0, B, []⟩, true, false⟩ from PP.intro (p := ⟨k, ⟨5, 0, B, []⟩, true, false⟩) (by dsimp only; omega) (VV.intro (v := ⟨5, 0, B, []⟩) (A := none) (c := 0) RdM.nil (Nat.le_refl 0) (by unfold maxLen; omega) (.inl rfl) (by dsimp only; omega) (by dsimp only; omega) (by intro z hz; cases hz)))
                        go_wp2_with fail
                        refine (readNumber_any B _).mono ?_
                        rintro e w2 ⟨rfl, hb2⟩
                        rw [HRn.out]
                        go_wp2_with fail
                        refine (refUnquote_any B (by omega) _).mono ?_
                        rintro e w3 ⟨rfl, nq, hw3⟩
                        have hb3 := sq hb2 (show Below w2.heap.size w2 w3 by rw [hw3]; exact dr (Below.refl _ _) nq)
                        clear hw3 hb2
                        have cc0 := hb3.cell (p := ⟨wr.heap.size, 0, none⟩) (by go_size); have cc1 := hb3.cell (p := ⟨wr.heap.size, 1, none⟩) (by go_size); have cc2 := hb3.cell (p := ⟨wr.heap.size, 2, none⟩) (by go_size); have cc3 := hb3.cell (p := ⟨wr.heap.size, 3, none⟩) (by go_size); have cc4 := hb3.cell (p := ⟨wr.heap.size, 4, none⟩) (by go_size); have cc5 := hb3.cell (p := ⟨wr.heap.size, 5, none⟩) (by go_size); have cc6 := hb3.cell (p := ⟨wr.heap.size, 6, none⟩) (by go_size); (try simp at cc0 cc1 cc2 cc3 cc4 cc5 cc6)
                        have ff0 := hb3.frozen (p := ⟨wr.heap.size, 0, none⟩) (by go_size); have ff1 := hb3.frozen (p := ⟨wr.heap.size, 1, none⟩) (by go_size); have ff2 := hb3.frozen (p := ⟨wr.heap.size, 2, none⟩) (by go_size); have ff3 := hb3.frozen (p := ⟨wr.heap.size, 3, none⟩) (by go_size); have ff4 := hb3.frozen (p := ⟨wr.heap.size, 4, none⟩) (by go_size); have ff5 := hb3.frozen (p := ⟨wr.heap.size, 5, none⟩) (by go_size); have ff6 := hb3.frozen (p := ⟨wr.heap.size, 6, none⟩) (by go_size); (try simp at ff0 ff1 ff2 ff3 ff4 ff5 ff6)
                        have hl2 := hb3.size
                        simp at hl2
                        have hbR : Below wr.heap.size wr w3 := sq (al (w := wr) _) hb3
                        clear hb3
                        rw [HUq.out]
                        have HB2 := Lib.hid (fun v1 v2 v3 v4 o => set4_below hbR (Nat.le_refl _) hbR.size v1 v2 v3 v4 o)
                        have HF2 := Lib.hid (fun v1 v2 v3 v4 o => HO.out.fresh (HB2.out v1 v2 v3 v4 o) (HNew.out ((((((w3.setCell ⟨wr.heap.size, 1, none⟩ v1).setCell ⟨wr.heap.size, 2, none⟩ v2).setCell ⟨wr.heap.size, 3, none⟩ v3).setCell ⟨wr.heap.size, 4, none⟩ v4).alloc o)) _) (fun _ h => h.elim))
                        go_wp2_with (at_builtin; refine wpList_append_Own (S := PP.sh) rfl _ _ 57 rfl w1.heap.size 132 j0 _ 72 Try.underlying57 hj jz0 jz1 jz2 rfl (by show 0 < 7; omega) (fun _ => False) _ _ rfl (HF2.out _ _ _ _ _).1 _ _ 1 1 _ _ [⟨k, ⟨5, 0, B, []⟩, true, false⟩] rfl (Rd.one _ _ _ 7 rfl _ (by simp)) (by simp) rfl (HF2.out _ _ _ _ _).2 (by unfold maxLen; omega) (by omega) (by simp; omega) ?_; intro A4 c4 w5 hown4 hgrow4 _)
                        refine ⟨⟨acc ++ [⟨k, ⟨5, 0, B, []⟩, true, false⟩], k + 1, by go_num, by omega, Lib.hid (by simp [HAk.out]), HSome, ?_, hown4, hbel.grown2 HO.out (HB2.out _ _ _ _ _) hgrow4⟩, by simp [intOf]; omega⟩
                        apply Lib.hid
                        rw [HR1.out, List.map_append, List.sum_append]
                        have h1 := HTs.out
                        have h3 := HXB.out
                        have h4 := HBz.out
                        show _ + ((⟨5, 0, B, []⟩ : VV).bulk + 0) + _ ≤ _
                        omega
                    · have HF := Lib.hid (HBad.out (by rw [HLine.out, HPW.out, pfx_rte_no h15]; rfl))
                      have h15a : decide (15 ≤ (B.size : Int)) = false := decide_eq_false (by omega)
                      go_wp2_with fail
                      refine (readNumber_any B _).mono ?_
                      rintro e w2 ⟨rfl, hb2⟩
                      rw [HRn.out]
                      go_wp2_with fail
                      refine (refUnquote_any B (by omega) _).mono ?_
                      rintro e w3 ⟨rfl, nq, hw3⟩
                      have hb3 := sq hb2 (show Below w2.heap.size w2 w3 by rw [hw3]; exact dr (Below.refl _ _) nq)
                      clear hw3 hb2
                      have hbR : Below wr.heap.size wr w3 := sq (al (w := wr) _) hb3
                      clear hb3
                      rw [HUq.out]
                      go_wp2_with fail
                      go_returns
                      exact .inr ⟨HF.out, rfl, sq (sq HB1.out hbel) hbR⟩
          
        · have HHl := Lib.hid (show (headB k).length = 8 by unfold headB; rw [if_pos (by omega)]; rfl)
          have h0p : 0 < k := by omega
          clear h0
          by_cases hsh : P.size < 8
          · have HF := Lib.hid (HBad.out (lineR_short HHl.out (by have := HPs.out; omega)))
            go_wp2_with fail
            go_returns
            exact .inr ⟨HF.out, rfl, sq HB1.out hbel⟩
          · have HLg := Lib.hid (show ¬ p.length < 8 by have := HPs.out; omega)
            obtain ⟨T, hT⟩ : ∃ T, P.extract 8 P.size = T := ⟨_, rfl⟩
            have HTp := Lib.hid (show T = ⟨(p.drop 8).toArray⟩ by rw [← hT, HPp.out, ext_drop])
            have hTz : T.size + 8 = P.size := by have := HPs.out; rw [HTp.out, size_mk, List.length_drop]; omega
            have HLong := Lib.hid (lineR_long HHl.out HLg.out)
            by_cases h12 : T.size < 12
            · have hn1 : decide (12 ≤ (T.size : Int)) = false := decide_eq_false (by omega)
              have hn2 : decide (0 ≤ (T.size : Int) - 12) = false := decide_eq_false (by omega)
              have HSf := Lib.hid (sfx_short h12)
              have HCt := Lib.hid (cutS_same HSf.out)
              have HLine := Lib.hid (show lineR k p = if (readPV T).2 = true then some ⟨k, (readPV T).1, false, false⟩ else none by rw [HLong.out, ← HTp.out, HSf.out, HCt.out])
              have HBz := Lib.hid (show T.size ≤ p.length by have := HPs.out; omega)
              have hbl := readPV_bulk T
              have HBl := Lib.hid hbl
              have hBs : T.size ≤ 1048576 := by have := HBz.out; omega
              clear hbl
              cases hz : rd (byt T) with
              | some z =>
                have HPV := Lib.hid (show readPV T = (⟨1, z, ⟨#[]⟩, []⟩, true) by unfold readPV; rw [hz])
                have HRn := Lib.hid (readV_some hz)
                have hzr := rd_in hz
                clear hz
                have HSome := Lib.hid (HGo.out ⟨k, ⟨1, z, ⟨#[]⟩, []⟩, false, false⟩ (by have h := HLine.out; rw [HPV.out] at h; exact h))
                have HXB := Lib.hid (show (⟨1, z, ⟨#[]⟩, []⟩ : VV).bulk ≤ T.size + 1 by have := HBl.out.1; rw [HPV.out] at this; exact this)
                have HNew := Lib.hid (fun (w' : World) (M : Nat → Prop) => show PP.sh.rd w' M [.int .i64 (k : Int), .int .i64 1, .int .i64 z, .string ⟨#[]⟩, .slice none 0 0, .bool false, .bool false] ⟨k, ⟨1, z, ⟨#[]⟩, []⟩, false, false⟩ from PP.intro (p := ⟨k, ⟨1, z, ⟨#[]⟩, []⟩, false, false⟩) (by dsimp only; omega) (VV.intro (v := ⟨1, z, ⟨#[]⟩, []⟩) (A := none) (c := 0) RdM.nil (Nat.le_refl 0) (by unfold maxLen; omega) (.inl rfl) (by dsimp only; omega) (by dsimp only; omega) (by intro z hz; cases hz)))
                go_wp2_with fail
                refine (readNumber_any T _).mono ?_
                rintro e w2 ⟨rfl, hb2⟩
                rw [HRn.out]
                go_wp2_with fail
                refine (refUnquote_any T (by omega) _).mono ?_
                rintro e w3 ⟨rfl, nq, hw3⟩
                have hb3 := sq hb2 (show Below w2.heap.size w2 w3 by rw [hw3]; exact dr (Below.refl _ _) nq)
                clear hw3 hb2
                have cc0 := hb3.cell (p := ⟨wr.heap.size, 0, none⟩) (by go_size); have cc1 := hb3.cell (p := ⟨wr.heap.size, 1, none⟩) (by go_size); have cc2 := hb3.cell (p := ⟨wr.heap.size, 2, none⟩) (by go_size); have cc3 := hb3.cell (p := ⟨wr.heap.size, 3, none⟩) (by go_size); have cc4 := hb3.cell (p := ⟨wr.heap.size, 4, none⟩) (by go_size); have cc5 := hb3.cell (p := ⟨wr.heap.size, 5, none⟩) (by go_size); have cc6 := hb3.cell (p := ⟨wr.heap.size, 6, none⟩) (by go_size); (try simp at cc0 cc1 cc2 cc3 cc4 cc5 cc6)
                have ff0 := hb3.frozen (p := ⟨wr.heap.size, 0, none⟩) (by go_size); have ff1 := hb3.frozen (p := ⟨wr.heap.size, 1, none⟩) (by go_size); have ff2 := hb3.frozen (p := ⟨wr.heap.size, 2, none⟩) (by go_size); have ff3 := hb3.frozen (p := ⟨wr.heap.size, 3, none⟩) (by go_size); have ff4 := hb3.frozen (p := ⟨wr.heap.size, 4, none⟩) (by go_size); have ff5 := hb3.frozen (p := ⟨wr.heap.size, 5, none⟩) (by go_size); have ff6 := hb3.frozen (p := ⟨wr.heap.size, 6, none⟩) (by go_size); (try simp at ff0 ff1 ff2 ff3 ff4 ff5 ff6)
                have hl2 := hb3.size
                simp at hl2
                have hbR : Below wr.heap.size wr w3 := sq (al (w := wr) _) hb3
                clear hb3
                obtain ⟨uq, eq, hU⟩ := unqV_form T
                rw [hU]
                clear hU
                have HB2 := Lib.hid (fun v1 v2 v3 v4 o => set4_below hbR (Nat.le_refl _) hbR.size v1 v2 v3 v4 o)
                have HF2 := Lib.hid (fun v1 v2 v3 v4 o => HO.out.fresh (HB2.out v1 v2 v3 v4 o) (HNew.out ((((((w3.setCell ⟨wr.heap.size, 1, none⟩ v1).setCell ⟨wr.heap.size, 2, none⟩ v2).setCell ⟨wr.heap.size, 3, none⟩ v3).setCell ⟨wr.heap.size, 4, none⟩ v4).alloc o)) _) (fun _ h => h.elim))
                go_wp2_with (at_builtin; refine wpList_append_Own (S := PP.sh) rfl _ _ 57 rfl w1.heap.size 132 j0 _ 72 Try.underlying57 hj jz0 jz1 jz2 rfl (by show 0 < 7; omega) (fun _ => False) _ _ rfl (HF2.out _ _ _ _ _).1 _ _ 1 1 _ _ [⟨k, ⟨1, z, ⟨#[]⟩, []⟩, false, false⟩] rfl (Rd.one _ _ _ 7 rfl _ (by simp)) (by simp) rfl (HF2.out _ _ _ _ _).2 (by unfold maxLen; omega) (by omega) (by simp; omega) ?_; intro A4 c4 w5 hown4 hgrow4 _)
                refine ⟨⟨acc ++ [⟨k, ⟨1, z, ⟨#[]⟩, []⟩, false, false⟩], k + 1, by go_num, by omega, Lib.hid (by simp [HAk.out]), HSome, ?_, hown4, hbel.grown2 HO.out (HB2.out _ _ _ _ _) hgrow4⟩, by simp [intOf]; omega⟩
                apply Lib.hid
                rw [HR1.out, List.map_append, List.sum_append]
                have h1 := HTs.out
                have h3 := HXB.out
                have h4 := HBz.out
                show _ + ((⟨1, z, ⟨#[]⟩, []⟩ : VV).bulk + 0) + _ ≤ _
                omega
              | none =>
                have HRn := Lib.hid (readV_none hz)
                cases hq : unq T.data.toList with
                | some q =>
                  have HPV := Lib.hid (show readPV T = (⟨3, 0, ⟨q.toArray⟩, []⟩, true) by unfold readPV; rw [hz, hq])
                  have HUq := Lib.hid (unqV_some hq)
                  clear hz hq
                  have HSome := Lib.hid (HGo.out ⟨k, ⟨3, 0, ⟨q.toArray⟩, []⟩, false, false⟩ (by have h := HLine.out; rw [HPV.out] at h; exact h))
                  have HXB := Lib.hid (show (⟨3, 0, ⟨q.toArray⟩, []⟩ : VV).bulk ≤ T.size + 1 by have := HBl.out.1; rw [HPV.out] at this; exact this)
                  have HNew := Lib.hid (fun (w' : World) (M : Nat → Prop) => show PP.sh.rd w' M [.int .i64 (k : Int), .int .i64 3, .int .i64 0, .string ⟨q.toArray⟩, .slice none 0 0, .bool false, .bool false] ⟨k, ⟨3, 0, ⟨q.toArray⟩, []⟩, false, false⟩ from PP.intro (p := ⟨k, ⟨3, 0, ⟨q.toArray⟩, []⟩, false, false⟩) (by dsimp only; omega) (VV.intro (v := ⟨3, 0, ⟨q.toArray⟩, []⟩) (A := none) (c := 0) RdM.nil (Nat.le_refl 0) (by unfold maxLen; omega) (.inl rfl) (by dsimp only; omega) (by dsimp only; omega) (by intro z hz; cases hz)))
                  go_wp2_with fail
                  refine (readNumber_any T _).mono ?_
                  rintro e w2 ⟨rfl, hb2⟩
                  rw [HRn.out]
                  go_wp2_with fail
                  refine (refUnquote_any T (by omega) _).mono ?_
                  rintro e w3 ⟨rfl, nq, hw3⟩
                  have hb3 := sq hb2 (show Below w2.heap.size w2 w3 by rw [hw3]; exact dr (Below.refl _ _) nq)
                  clear hw3 hb2
                  have cc0 := hb3.cell (p := ⟨wr.heap.size, 0, none⟩) (by go_size); have cc1 := hb3.cell (p := ⟨wr.heap.size, 1, none⟩) (by go_size); have cc2 := hb3.cell (p := ⟨wr.heap.size, 2, none⟩) (by go_size); have cc3 := hb3.cell (p := ⟨wr.heap.size, 3, none⟩) (by go_size); have cc4 := hb3.cell (p := ⟨wr.heap.size, 4, none⟩) (by go_size); have cc5 := hb3.cell (p := ⟨wr.heap.size, 5, none⟩) (by go_size); have cc6 := hb3.cell (p := ⟨wr.heap.size, 6, none⟩) (by go_size); (try simp at cc0 cc1 cc2 cc3 cc4 cc5 cc6)
                  have ff0 := hb3.frozen (p := ⟨wr.heap.size, 0, none⟩) (by go_size); have ff1 := hb3.frozen (p := ⟨wr.heap.size, 1, none⟩) (by go_size); have ff2 := hb3.frozen (p := ⟨wr.heap.size, 2, none⟩) (by go_size); have ff3 := hb3.frozen (p := ⟨wr.heap.size, 3, none⟩) (by go_size); have ff4 := hb3.frozen (p := ⟨wr.heap.size, 4, none⟩) (by go_size); have ff5 := hb3.frozen (p := ⟨wr.heap.size, 5, none⟩) (by go_size); have ff6 := hb3.frozen (p := ⟨wr.heap.size, 6, none⟩) (by go_size); (try simp at ff0 ff1 ff2 ff3 ff4 ff5 ff6)
                  have hl2 := hb3.size
                  simp at hl2
                  have hbR : Below wr.heap.size wr w3 := sq (al (w := wr) _) hb3
                  clear hb3
                  rw [HUq.out]
                  have HB2 := Lib.hid (fun v1 v2 v3 v4 o => set4_below hbR (Nat.le_refl _) hbR.size v1 v2 v3 v4 o)
                  have HF2 := Lib.hid (fun v1 v2 v3 v4 o => HO.out.fresh (HB2.out v1 v2 v3 v4 o) (HNew.out ((((((w3.setCell ⟨wr.heap.size, 1, none⟩ v1).setCell ⟨wr.heap.size, 2, none⟩ v2).setCell ⟨wr.heap.size, 3, none⟩ v3).setCell ⟨wr.heap.size, 4, none⟩ v4).alloc o)) _) (fun _ h => h.elim))
                  go_wp2_with (at_builtin; refine wpList_append_Own (S := PP.sh) rfl _ _ 57 rfl w1.heap.size 132 j0 _ 72 Try.underlying57 hj jz0 jz1 jz2 rfl (by show 0 < 7; omega) (fun _ => False) _ _ rfl (HF2.out _ _ _ _ _).1 _ _ 1 1 _ _ [⟨k, ⟨3, 0, ⟨q.toArray⟩, []⟩, false, false⟩] rfl (Rd.one _ _ _ 7 rfl _ (by simp)) (by simp) rfl (HF2.out _ _ _ _ _).2 (by unfold maxLen; omega) (by omega) (by simp; omega) ?_; intro A4 c4 w5 hown4 hgrow4 _)
                  refine ⟨⟨acc ++ [⟨k, ⟨3, 0, ⟨q.toArray⟩, []⟩, false, false⟩], k + 1, by go_num, by omega, Lib.hid (by simp [HAk.out]), HSome, ?_, hown4, hbel.grown2 HO.out (HB2.out _ _ _ _ _) hgrow4⟩, by simp [intOf]; omega⟩
                  apply Lib.hid
                  rw [HR1.out, List.map_append, List.sum_append]
                  have h1 := HTs.out
                  have h3 := HXB.out
                  have h4 := HBz.out
                  show _ + ((⟨3, 0, ⟨q.toArray⟩, []⟩ : VV).bulk + 0) + _ ≤ _
                  omega
                | none =>
                  have HUq := Lib.hid (unqV_none hq)
                  have HPW := Lib.hid (show readPV T = (⟨5, 0, T, []⟩, pfxB T rteS) by unfold readPV; rw [hz, hq])
                  clear hz hq
                  by_cases h15 : 15 ≤ T.size
                  · exact absurd h15 (by omega)
                  · have HF := Lib.hid (HBad.out (by rw [HLine.out, HPW.out, pfx_rte_no h15]; rfl))
                    have h15a : decide (15 ≤ (T.size : Int)) = false := decide_eq_false (by omega)
                    go_wp2_with fail
                    refine (readNumber_any T _).mono ?_
                    rintro e w2 ⟨rfl, hb2⟩
                    rw [HRn.out]
                    go_wp2_with fail
                    refine (refUnquote_any T (by omega) _).mono ?_
                    rintro e w3 ⟨rfl, nq, hw3⟩
                    have hb3 := sq hb2 (show Below w2.heap.size w2 w3 by rw [hw3]; exact dr (Below.refl _ _) nq)
                    clear hw3 hb2
                    have hbR : Below wr.heap.size wr w3 := sq (al (w := wr) _) hb3
                    clear hb3
                    rw [HUq.out]
                    go_wp2_with fail
                    go_returns
                    exact .inr ⟨HF.out, rfl, sq (sq HB1.out hbel) hbR⟩
            · obtain ⟨d, hd⟩ : ∃ d : Nat, d + 12 = T.size := ⟨T.size - 12, by omega⟩
              have hdi : (T.size : Int) - 12 = (d : Int) := by omega
              have HSx := Lib.hid (sfx_at hd)
              cases hsx : ((T.extract d T.size).toList == [32, 91, 114, 101, 99, 111, 118, 101, 114, 101, 100, 93])
              · have HSf := Lib.hid (show sfxB T ⟨recB.toArray⟩ = false by rw [HSx.out, hsx])
                have HCt := Lib.hid (cutS_same HSf.out)
                have HLine := Lib.hid (show lineR k p = if (readPV T).2 = true then some ⟨k, (readPV T).1, false, false⟩ else none by rw [HLong.out, ← HTp.out, HSf.out, HCt.out])
                have HBz := Lib.hid (show T.size ≤ p.length by have := HPs.out; omega)
                have hbl := readPV_bulk T
                have HBl := Lib.hid hbl
                have hBs : T.size ≤ 1048576 := by have := HBz.out; omega
                clear hbl
                cases hz : rd (byt T) with
                | some z =>
                  have HPV := Lib.hid (show readPV T = (⟨1, z, ⟨#[]⟩, []⟩, true) by unfold readPV; rw [hz])
                  have HRn := Lib.hid (readV_some hz)
                  have hzr := rd_in hz
                  clear hz
                  have HSome := Lib.hid (HGo.out ⟨k, ⟨1, z, ⟨#[]⟩, []⟩, false, false⟩ (by have h := HLine.out; rw [HPV.out] at h; exact h))
                  have HXB := Lib.hid (show (⟨1, z, ⟨#[]⟩, []⟩ : VV).bulk ≤ T.size + 1 by have := HBl.out.1; rw [HPV.out] at this; exact this)
                  have HNew := Lib.hid (fun (w' : World) (M : Nat → Prop) => show PP.sh.rd w' M [.int .i64 (k : Int), .int .i64 1, .int .i64 z, .string ⟨#[]⟩, .slice none 0 0, .bool false, .bool false] ⟨k, ⟨1, z, ⟨#[]⟩, []⟩, false, false⟩ from PP.intro (p := ⟨k, ⟨1, z, ⟨#[]⟩, []⟩, false, false⟩) (by dsimp only; omega) (VV.intro (v := ⟨1, z, ⟨#[]⟩, []⟩) (A := none) (c := 0) RdM.nil (Nat.le_refl 0) (by unfold maxLen; omega) (.inl rfl) (by dsimp only; omega) (by dsimp only; omega) (by intro z hz; cases hz)))
                  go_wp2_with fail
                  refine (readNumber_any T _).mono ?_
                  rintro e w2 ⟨rfl, hb2⟩
                  rw [HRn.out]
                  go_wp2_with fail
                  refine (refUnquote_any T (by omega) _).mono ?_
                  rintro e w3 ⟨rfl, nq, hw3⟩
                  have hb3 := sq hb2 (show Below w2.heap.size w2 w3 by rw [hw3]; exact dr (Below.refl _ _) nq)
                  clear hw3 hb2
                  have cc0 := hb3.cell (p := ⟨wr.heap.size, 0, none⟩) (by go_size); have cc1 := hb3.cell (p := ⟨wr.heap.size, 1, none⟩) (by go_size); have cc2 := hb3.cell (p := ⟨wr.heap.size, 2, none⟩) (by go_size); have cc3 := hb3.cell (p := ⟨wr.heap.size, 3, none⟩) (by go_size); have cc4 := hb3.cell (p := ⟨wr.heap.size, 4, none⟩) (by go_size); have cc5 := hb3.cell (p := ⟨wr.heap.size, 5, none⟩) (by go_size); have cc6 := hb3.cell (p := ⟨wr.heap.size, 6, none⟩) (by go_size); (try simp at cc0 cc1 cc2 cc3 cc4 cc5 cc6)
                  have ff0 := hb3.frozen (p := ⟨wr.heap.size, 0, none⟩) (by go_size); have ff1 := hb3.frozen (p := ⟨wr.heap.size, 1, none⟩) (by go_size); have ff2 := hb3.frozen (p := ⟨wr.heap.size, 2, none⟩) (by go_size); have ff3 := hb3.frozen (p := ⟨wr.heap.size, 3, none⟩) (by go_size); have ff4 := hb3.frozen (p := ⟨wr.heap.size, 4, none⟩) (by go_size); have ff5 := hb3.frozen (p := ⟨wr.heap.size, 5, none⟩) (by go_size); have ff6 := hb3.frozen (p := ⟨wr.heap.size, 6, none⟩) (by go_size); (try simp at ff0 ff1 ff2 ff3 ff4 ff5 ff6)
                  have hl2 := hb3.size
                  simp at hl2
                  have hbR : Below wr.heap.size wr w3 := sq (al (w := wr) _) hb3
                  clear hb3
                  obtain ⟨uq, eq, hU⟩ := unqV_form T
                  rw [hU]
                  clear hU
                  have HB2 := Lib.hid (fun v1 v2 v3 v4 o => set4_below hbR (Nat.le_refl _) hbR.size v1 v2 v3 v4 o)
                  have HF2 := Lib.hid (fun v1 v2 v3 v4 o => HO.out.fresh (HB2.out v1 v2 v3 v4 o) (HNew.out ((((((w3.setCell ⟨wr.heap.size, 1, none⟩ v1).setCell ⟨wr.heap.size, 2, none⟩ v2).setCell ⟨wr.heap.size, 3, none⟩ v3).setCell ⟨wr.heap.size, 4, none⟩ v4).alloc o)) _) (fun _ h => h.elim))
                  go_wp2_with (at_builtin; refine wpList_append_Own (S := PP.sh) rfl _ _ 57 rfl w1.heap.size 132 j0 _ 72 Try.underlying57 hj jz0 jz1 jz2 rfl (by show 0 < 7; omega) (fun _ => False) _ _ rfl (HF2.out _ _ _ _ _).1 _ _ 1 1 _ _ [⟨k, ⟨1, z, ⟨#[]⟩, []⟩, false, false⟩] rfl (Rd.one _ _ _ 7 rfl _ (by simp)) (by simp) rfl (HF2.out _ _ _ _ _).2 (by unfold maxLen; omega) (by omega) (by simp; omega) ?_; intro A4 c4 w5 hown4 hgrow4 _)
                  refine ⟨⟨acc ++ [⟨k, ⟨1, z, ⟨#[]⟩, []⟩, false, false⟩], k + 1, by go_num, by omega, Lib.hid (by simp [HAk.out]), HSome, ?_, hown4, hbel.grown2 HO.out (HB2.out _ _ _ _ _) hgrow4⟩, by simp [intOf]; omega⟩
                  apply Lib.hid
                  rw [HR1.out, List.map_append, List.sum_append]
                  have h1 := HTs.out
                  have h3 := HXB.out
                  have h4 := HBz.out
                  show _ + ((⟨1, z, ⟨#[]⟩, []⟩ : VV).bulk + 0) + _ ≤ _
                  omega
                | none =>
                  have HRn := Lib.hid (readV_none hz)
                  cases hq : unq T.data.toList with
                  | some q =>
                    have HPV := Lib.hid (show readPV T = (⟨3, 0, ⟨q.toArray⟩, []⟩, true) by unfold readPV; rw [hz, hq])
                    have HUq := Lib.hid (unqV_some hq)
                    clear hz hq
                    have HSome := Lib.hid (HGo.out ⟨k, ⟨3, 0, ⟨q.toArray⟩, []⟩, false, false⟩ (by have h := HLine.out; rw [HPV.out] at h; exact h))
                    have HXB := Lib.hid (show (⟨3, 0, ⟨q.toArray⟩, []⟩ : VV).bulk ≤ T.size + 1 by have := HBl.out.1; rw [HPV.out] at this; exact this)
                    have HNew := Lib.hid (fun (w' : World) (M : Nat → Prop) => show PP.sh.rd w' M [.int .i64 (k : Int), .int .i64 3, .int .i64 0, .string ⟨q.toArray⟩, .slice none 0 0, .bool false, .bool false] ⟨k, ⟨3, 0, ⟨q.toArray⟩, []⟩, false, false⟩ from PP.intro (p := ⟨k, ⟨3, 0, ⟨q.toArray⟩, []⟩, false, false⟩) (by dsimp only; omega) (VV.intro (v := ⟨3, 0, ⟨q.toArray⟩, []⟩) (A := none) (c := 0) RdM.nil (Nat.le_refl 0) (by unfold maxLen; omega) (.inl rfl) (by dsimp only; omega) (by dsimp only; omega) (by intro z hz; cases hz)))
                    go_wp2_with fail
                    refine (readNumber_any T _).mono ?_
                    rintro e w2 ⟨rfl, hb2⟩
                    rw [HRn.out]
                    go_wp2_with fail
                    refine (refUnquote_any T (by omega) _).mono ?_
                    rintro e w3 ⟨rfl, nq, hw3⟩
                    have hb3 := sq hb2 (show Below w2.heap.size w2 w3 by rw [hw3]; exact dr (Below.refl _ _) nq)
                    clear hw3 hb2
                    have cc0 := hb3.cell (p := ⟨wr.heap.size, 0, none⟩) (by go_size); have cc1 := hb3.cell (p := ⟨wr.heap.size, 1, none⟩) (by go_size); have cc2 := hb3.cell (p := ⟨wr.heap.size, 2, none⟩) (by go_size); have cc3 := hb3.cell (p := ⟨wr.heap.size, 3, none⟩) (by go_size); have cc4 := hb3.cell (p := ⟨wr.heap.size, 4, none⟩) (by go_size); have cc5 := hb3.cell (p := ⟨wr.heap.size, 5, none⟩) (by go_size); have cc6 := hb3.cell (p := ⟨wr.heap.size, 6, none⟩) (by go_size); (try simp at cc0 cc1 cc2 cc3 cc4 cc5 cc6)
                    have ff0 := hb3.frozen (p := ⟨wr.heap.size, 0, none⟩) (by go_size); have ff1 := hb3.frozen (p := ⟨wr.heap.size, 1, none⟩) (by go_size); have ff2 := hb3.frozen (p := ⟨wr.heap.size, 2, none⟩) (by go_size); have ff3 := hb3.frozen (p := ⟨wr.heap.size, 3, none⟩) (by go_size); have ff4 := hb3.frozen (p := ⟨wr.heap.size, 4, none⟩) (by go_size); have ff5 := hb3.frozen (p := ⟨wr.heap.size, 5, none⟩) (by go_size); have ff6 := hb3.frozen (p := ⟨wr.heap.size, 6, none⟩) (by go_size); (try simp at ff0 ff1 ff2 ff3 ff4 ff5 ff6)
                    have hl2 := hb3.size
                    simp at hl2
                    have hbR : Below wr.heap.size wr w3 := sq (al (w := wr) _) hb3
                    clear hb3
                    rw [HUq.out]
                    have HB2 := Lib.hid (fun v1 v2 v3 v4 o => set4_below hbR (Nat.le_refl _) hbR.size v1 v2 v3 v4 o)
                    have HF2 := Lib.hid (fun v1 v2 v3 v4 o => HO.out.fresh (HB2.out v1 v2 v3 v4 o) (HNew.out ((((((w3.setCell ⟨wr.heap.size, 1, none⟩ v1).setCell ⟨wr.heap.size, 2, none⟩ v2).setCell ⟨wr.heap.size, 3, none⟩ v3).setCell ⟨wr.heap.size, 4, none⟩ v4).alloc o)) _) (fun _ h => h.elim))
                    go_wp2_with (at_builtin; refine wpList_append_Own (S := PP.sh) rfl _ _ 57 rfl w1.heap.size 132 j0 _ 72 Try.underlying57 hj jz0 jz1 jz2 rfl (by show 0 < 7; omega) (fun _ => False) _ _ rfl (HF2.out _ _ _ _ _).1 _ _ 1 1 _ _ [⟨k, ⟨3, 0, ⟨q.toArray⟩, []⟩, false, false⟩] rfl (Rd.one _ _ _ 7 rfl _ (by simp)) (by simp) rfl (HF2.out _ _ _ _ _).2 (by unfold maxLen; omega) (by omega) (by simp; omega) ?_; intro A4 c4 w5 hown4 hgrow4 _)
                    refine ⟨⟨acc ++ [⟨k, ⟨3, 0, ⟨q.toArray⟩, []⟩, false, false⟩], k + 1, by go_num, by omega, Lib.hid (by simp [HAk.out]), HSome, ?_, hown4, hbel.grown2 HO.out (HB2.out _ _ _ _ _) hgrow4⟩, by simp [intOf]; omega⟩
                    apply Lib.hid
                    rw [HR1.out, List.map_append, List.sum_append]
                    have h1 := HTs.out
                    have h3 := HXB.out
                    have h4 := HBz.out
                    show _ + ((⟨3, 0, ⟨q.toArray⟩, []⟩ : VV).bulk + 0) + _ ≤ _
                    omega
                  | none =>
                    have HUq := Lib.hid (unqV_none hq)
                    have HPW := Lib.hid (show readPV T = (⟨5, 0, T, []⟩, pfxB T rteS) by unfold readPV; rw [hz, hq])
                    clear hz hq
                    by_cases h15 : 15 ≤ T.size
                    · have HPf := Lib.hid (pfx_rte h15)
                      have h15a : decide (15 ≤ (T.size : Int)) = true := decide_eq_true (by omega)
                      cases hpf : ((T.extract 0 15).toList == [114, 117, 110, 116, 105, 109, 101, 32, 101, 114, 114, 111, 114, 58, 32])
                      · have HF := Lib.hid (HBad.out (by have h := HLine.out; rw [HPW.out, HPf.out, hpf] at h; exact h))
                        go_wp2_with fail
                        refine (readNumber_any T _).mono ?_
                        rintro e w2 ⟨rfl, hb2⟩
                        rw [HRn.out]
                        go_wp2_with fail
                        refine (refUnquote_any T (by omega) _).mono ?_
                        rintro e w3 ⟨rfl, nq, hw3⟩
                        have hb3 := sq hb2 (show Below w2.heap.size w2 w3 by rw [hw3]; exact dr (Below.refl _ _) nq)
                        clear hw3 hb2
                        have hbR : Below wr.heap.size wr w3 := sq (al (w := wr) _) hb3
                        clear hb3
                        rw [HUq.out]
                        go_wp2_with fail
                        go_returns
                        exact .inr ⟨HF.out, rfl, sq (sq HB1.out hbel) hbR⟩
                      · have HPV := Lib.hid (show readPV T = (⟨5, 0, T, []⟩, true) by rw [HPW.out, HPf.out, hpf])
                        have HSome := Lib.hid (HGo.out ⟨k, ⟨5, 0, T, []⟩, false, false⟩ (by have h := HLine.out; rw [HPV.out] at h; exact h))
                        have HXB := Lib.hid (show (⟨5, 0, T, []⟩ : VV).bulk ≤ T.size + 1 by have := HBl.out.1; rw [HPV.out] at this; exact this)
                        have HNew := Lib.hid (fun (w' : World) (M : Nat → Prop) => show PP.sh.rd w' M [.int .i64 (k : Int), .int .i64 5, .int .i64 0, .string T, .slice none 0 0, .bool false, .bool false] ⟨k, ⟨5, 0, T, []⟩, false, false⟩ from PP.intro (p := ⟨k, ⟨5, 0, T, []⟩, false, false⟩) (by dsimp only; omega) (VV.intro (v := ⟨5, 0, T, []⟩) (A := none) (c := 0) RdM.nil (Nat.le_refl 0) (by unfold maxLen; omega) (.inl rfl) (by dsimp only; omega) (by dsimp only; omega) (by intro z hz; cases hz)))
                        go_wp2_with fail
                        refine (readNumber_any T _).mono ?_
                        rintro e w2 ⟨rfl, hb2⟩
                        rw [HRn.out]
                        go_wp2_with fail
                        refine (refUnquote_any T (by omega) _).mono ?_
                        rintro e w3 ⟨rfl, nq, hw3⟩
                        have hb3 := sq hb2 (show Below w2.heap.size w2 w3 by rw [hw3]; exact dr (Below.refl _ _) nq)
                        clear hw3 hb2
                        have cc0 := hb3.cell (p := ⟨wr.heap.size, 0, none⟩) (by go_size); have cc1 := hb3.cell (p := ⟨wr.heap.size, 1, none⟩) (by go_size); have cc2 := hb3.cell (p := ⟨wr.heap.size, 2, none⟩) (by go_size); have cc3 := hb3.cell (p := ⟨wr.heap.size, 3, none⟩) (by go_size); have cc4 := hb3.cell (p := ⟨wr.heap.size, 4, none⟩) (by go_size); have cc5 := hb3.cell (p := ⟨wr.heap.size, 5, none⟩) (by go_size); have cc6 := hb3.cell (p := ⟨wr.heap.size, 6, none⟩) (by go_size); (try simp at cc0 cc1 cc2 cc3 cc4 cc5 cc6)
                        have ff0 := hb3.frozen (p := ⟨wr.heap.size, 0, none⟩) (by go_size); have ff1 := hb3.frozen (p := ⟨wr.heap.size, 1, none⟩) (by go_size); have ff2 := hb3.frozen (p := ⟨wr.heap.size, 2, none⟩) (by go_size); have ff3 := hb3.frozen (p := ⟨wr.heap.size, 3, none⟩) (by go_size); have ff4 := hb3.frozen (p := ⟨wr.heap.size, 4, none⟩) (by go_size); have ff5 := hb3.frozen (p := ⟨wr.heap.size, 5, none⟩) (by go_size); have ff6 := hb3.frozen (p := ⟨wr.heap.size, 6, none⟩) (by go_size); (try simp at ff0 ff1 ff2 ff3 ff4 ff5 ff6)
                        have hl2 := hb3.size
                        simp at hl2
                        have hbR : Below wr.heap.size wr w3 := sq (al (w := wr) _) hb3
                        clear hb3
                        rw [HUq.out]
                        have HB2 := Lib.hid (fun v1 v2 v3 v4 o => set4_below hbR (Nat.le_refl _) hbR.size v1 v2 v3 v4 o)
                        have HF2 := Lib.hid (fun v1 v2 v3 v4 o => HO.out.fresh (HB2.out v1 v2 v3 v4 o) (HNew.out ((((((w3.setCell ⟨wr.heap.size, 1, none⟩ v1).setCell ⟨wr.heap.size, 2, none⟩ v2).setCell ⟨wr.heap.size, 3, none⟩ v3).setCell ⟨wr.heap.size, 4, none⟩ v4).alloc o)) _) (fun _ h => h.elim))
                        go_wp2_with (at_builtin; refine wpList_append_Own (S := PP.sh) rfl _ _ 57 rfl w1.heap.size 132 j0 _ 72 Try.underlying57 hj jz0 jz1 jz2 rfl (by show 0 < 7; omega) (fun _ => False) _ _ rfl (HF2.out _ _ _ _ _).1 _ _ 1 1 _ _ [⟨k, ⟨5, 0, T, []⟩, false, false⟩] rfl (Rd.one _ _ _ 7 rfl _ (by simp)) (by simp) rfl (HF2.out _ _ _ _ _).2 (by unfold maxLen; omega) (by omega) (by simp; omega) ?_; intro A4 c4 w5 hown4 hgrow4 _)
                        refine ⟨⟨acc ++ [⟨k, ⟨5, 0, T, []⟩, false, false⟩], k + 1, by go_num, by omega, Lib.hid (by simp [HAk.out]), HSome, ?_, hown4, hbel.grown2 HO.out (HB2.out _ _ _ _ _) hgrow4⟩, by simp [intOf]; omega⟩
                        apply Lib.hid
                        rw [HR1.out, List.map_append, List.sum_append]
                        have h1 := HTs.out
                        have h3 := HXB.out
                        have h4 := HBz.out
                        show _ + ((⟨5, 0, T, []⟩ : VV).bulk + 0) + _ ≤ _
                        omega
                    · have HF := Lib.hid (HBad.out (by rw [HLine.out, HPW.out, pfx_rte_no h15]; rfl))
                      have h15a : decide (15 ≤ (T.size : Int)) = false := decide_eq_false (by omega)
                      go_wp2_with fail
                      refine (readNumber_any T _).mono ?_
                      rintro e w2 ⟨rfl, hb2⟩
                      rw [HRn.out]
                      go_wp2_with fail
                      refine (refUnquote_any T (by omega) _).mono ?_
                      rintro e w3 ⟨rfl, nq, hw3⟩
                      have hb3 := sq hb2 (show Below w2.heap.size w2 w3 by rw [hw3]; exact dr (Below.refl _ _) nq)
                      clear hw3 hb2
                      have hbR : Below wr.heap.size wr w3 := sq (al (w := wr) _) hb3
                      clear hb3
                      rw [HUq.out]
                      go_wp2_with fail
                      go_returns
                      exact .inr ⟨HF.out, rfl, sq (sq HB1.out hbel) hbR⟩
              · have HSf := Lib.hid (show sfxB T ⟨recB.toArray⟩ = true by rw [HSx.out, hsx])
                obtain ⟨B, hB⟩ : ∃ B, T.extract 0 d = B := ⟨_, rfl⟩
                have HCt := Lib.hid (show cutS T ⟨recB.toArray⟩ = B by rw [← hB]; exact cutS_at hd HSf.out)
                have HLine := Lib.hid (show lineR k p = if (readPV B).2 = true then some ⟨k, (readPV B).1, true, false⟩ else none by rw [HLong.out, ← HTp.out, HSf.out, HCt.out])
                have HBz := Lib.hid (show B.size ≤ p.length by have := HPs.out; rw [← hB, ByteArray.size_extract]; omega)
                have hbl := readPV_bulk B
                have HBl := Lib.hid hbl
                have hBs : B.size ≤ 1048576 := by have := HBz.out; omega
                clear hbl
                cases hz : rd (byt B) with
                | some z =>
                  have HPV := Lib.hid (show readPV B = (⟨1, z, ⟨#[]⟩, []⟩, true) by unfold readPV; rw [hz])
                  have HRn := Lib.hid (readV_some hz)
                  have hzr := rd_in hz
                  clear hz
                  have HSome := Lib.hid (HGo.out ⟨k, ⟨1, z, ⟨#[]⟩, []⟩, true, false⟩ (by have h := HLine.out; rw [HPV.out] at h; exact h))
                  have HXB := Lib.hid (show (⟨1, z, ⟨#[]⟩, []⟩ : VV).bulk ≤ B.size + 1 by have := HBl.out.1; rw [HPV.out] at this; exact this)
                  have HNew := Lib.hid (fun (w' : World) (M : Nat → Prop) => show PP.sh.rd w' M [.int .i64 (k : Int), .int .i64 1, .int .i64 z, .string ⟨#[]⟩, .slice none 0 0, .bool true, .bool false] ⟨k, ⟨1, z, ⟨#[]⟩, []⟩, true, false⟩ from PP.intro (p := ⟨k, ⟨1, z, ⟨#[]⟩, []⟩, true, false⟩) (by dsimp only; omega) (VV.intro (v := ⟨1, z, ⟨#[]⟩, []⟩) (A := none) (c := 0) RdM.nil (Nat.le_refl 0) (by unfold maxLen; omega) (.inl rfl) (by dsimp only; omega) (by dsimp only; omega) (by intro z hz; cases hz)))
                  go_wp2_with fail
                  refine (readNumber_any B _).mono ?_
                  rintro e w2 ⟨rfl, hb2⟩
                  rw [HRn.out]
                  go_wp2_with fail
                  refine (refUnquote_any B (by omega) _).mono ?_
                  rintro e w3 ⟨rfl, nq, hw3⟩
                  have hb3 := sq hb2 (show Below w2.heap.size w2 w3 by rw [hw3]; exact dr (Below.refl _ _) nq)
                  clear hw3 hb2
                  have cc0 := hb3.cell (p := ⟨wr.heap.size, 0, none⟩) (by go_size); have cc1 := hb3.cell (p := ⟨wr.heap.size, 1, none⟩) (by go_size); have cc2 := hb3.cell (p := ⟨wr.heap.size, 2, none⟩) (by go_size); have cc3 := hb3.cell (p := ⟨wr.heap.size, 3, none⟩) (by go_size); have cc4 := hb3.cell (p := ⟨wr.heap.size, 4, none⟩) (by go_size); have cc5 := hb3.cell (p := ⟨wr.heap.size, 5, none⟩) (by go_size); have cc6 := hb3.cell (p := ⟨wr.heap.size, 6, none⟩) (by go_size); (try simp at cc0 cc1 cc2 cc3 cc4 cc5 cc6)
                  have ff0 := hb3.frozen (p := ⟨wr.heap.size, 0, none⟩) (by go_size); have ff1 := hb3.frozen (p := ⟨wr.heap.size, 1, none⟩) (by go_size); have ff2 := hb3.frozen (p := ⟨wr.heap.size, 2, none⟩) (by go_size); have ff3 := hb3.frozen (p := ⟨wr.heap.size, 3, none⟩) (by go_size); have ff4 := hb3.frozen (p := ⟨wr.heap.size, 4, none⟩) (by go_size); have ff5 := hb3.frozen (p := ⟨wr.heap.size, 5, none⟩) (by go_size); have ff6 := hb3.frozen (p := ⟨wr.heap.size, 6, none⟩) (by go_size); (try simp at ff0 ff1 ff2 ff3 ff4 ff5 ff6)
                  have hl2 := hb3.size
                  simp at hl2
                  have hbR : Below wr.heap.size wr w3 := sq (al (w := wr) _) hb3
                  clear hb3
                  obtain ⟨uq, eq, hU⟩ := unqV_form B
                  rw [hU]
                  clear hU
                  have HB2 := Lib.hid (fun v1 v2 v3 v4 o => set4_below hbR (Nat.le_refl _) hbR.size v1 v2 v3 v4 o)
                  have HF2 := Lib.hid (fun v1 v2 v3 v4 o => HO.out.fresh (HB2.out v1 v2 v3 v4 o) (HNew.out ((((((w3.setCell ⟨wr.heap.size, 1, none⟩ v1).setCell ⟨wr.heap.size, 2, none⟩ v2).setCell ⟨wr.heap.size, 3, none⟩ v3).setCell ⟨wr.heap.size, 4, none⟩ v4).alloc o)) _) (fun _ h => h.elim))
                  go_wp2_with (at_builtin; refine wpList_append_Own (S := PP.sh) rfl _ _ 57 rfl w1.heap.size 132 j0 _ 72 Try.underlying57 hj jz0 jz1 jz2 rfl (by show 0 < 7; omega) (fun _ => False) _ _ rfl (HF2.out _ _ _ _ _).1 _ _ 1 1 _ _ [⟨k, ⟨1, z, ⟨#[]⟩, []⟩, true, false⟩] rfl (Rd.one _ _ _ 7 rfl _ (by simp)) (by simp) rfl (HF2.out _ _ _ _ _).2 (by unfold maxLen; omega) (by omega) (by simp; omega) ?_; intro A4 c4 w5 hown4 hgrow4 _)
                  refine ⟨⟨acc ++ [⟨k, ⟨1, z, ⟨#[]⟩, []⟩, true, false⟩], k + 1, by go_num, by omega, Lib.hid (by simp [HAk.out]), HSome, ?_, hown4, hbel.grown2 HO.out (HB2.out _ _ _ _ _) hgrow4⟩, by simp [intOf]; omega⟩
                  apply Lib.hid
                  rw [HR1.out, List.map_append, List.sum_append]
                  have h1 := HTs.out
                  have h3 := HXB.out
                  have h4 := HBz.out
                  show _ + ((⟨1, z, ⟨#[]⟩, []⟩ : VV).bulk + 0) + _ ≤ _
                  omega
                | none =>
                  have HRn := Lib.hid (readV_none hz)
                  cases hq : unq B.data.toList with
                  | some q =>
                    have HPV := Lib.hid (show readPV B = (⟨3, 0, ⟨q.toArray⟩, []⟩, true) by unfold readPV; rw [hz, hq])
                    have HUq := Lib.hid (unqV_some hq)
                    clear hz hq
                    have HSome := Lib.hid (HGo.out ⟨k, ⟨3, 0, ⟨q.toArray⟩, []⟩, true, false⟩ (by have h := HLine.out; rw [HPV.out] at h; exact h))
                    have HXB := Lib.hid (show (⟨3, 0, ⟨q.toArray⟩, []⟩ : VV).bulk ≤ B.size + 1 by have := HBl.out.1; rw [HPV.out] at this; exact this)
                    have HNew := Lib.hid (fun (w' : World) (M : Nat → Prop) => show PP.sh.rd w' M [.int .i64 (k : Int), .int .i64 3, .int .i64 0, .string ⟨q.toArray⟩, .slice none 0 0, .bool true, .bool false] ⟨k, ⟨3, 0, ⟨q.toArray⟩, []⟩, true, false⟩ from PP.intro (p := ⟨k, ⟨3, 0, ⟨q.toArray⟩, []⟩, true, false⟩) (by dsimp only; omega) (VV.intro (v := ⟨3, 0, ⟨q.toArray⟩, []⟩) (A := none) (c := 0) RdM.nil (Nat.le_refl 0) (by unfold maxLen; omega) (.inl rfl) (by dsimp only; omega) (by dsimp only; omega) (by intro z hz; cases hz)))
                    go_wp2_with fail
                    refine (readNumber_any B _).mono ?_
                    rintro e w2 ⟨rfl, hb2⟩
                    rw [HRn.out]
                    go_wp2_with fail
                    refine (refUnquote_any B (by omega) _).mono ?_
                    rintro e w3 ⟨rfl, nq, hw3⟩
                    have hb3 := sq hb2 (show Below w2.heap.size w2 w3 by rw [hw3]; exact dr (Below.refl _ _) nq)
                    clear hw3 hb2
                    have cc0 := hb3.cell (p := ⟨wr.heap.size, 0, none⟩) (by go_size); have cc1 := hb3.cell (p := ⟨wr.heap.size, 1, none⟩) (by go_size); have cc2 := hb3.cell (p := ⟨wr.heap.size, 2, none⟩) (by go_size); have cc3 := hb3.cell (p := ⟨wr.heap.size, 3, none⟩) (by go_size); have cc4 := hb3.cell (p := ⟨wr.heap.size, 4, none⟩) (by go_size); have cc5 := hb3.cell (p := ⟨wr.heap.size, 5, none⟩) (by go_size); have cc6 := hb3.cell (p := ⟨wr.heap.size, 6, none⟩) (by go_size); (try simp at cc0 cc1 cc2 cc3 cc4 cc5 cc6)
                    have ff0 := hb3.frozen (p := ⟨wr.heap.size, 0, none⟩) (by go_size); have ff1 := hb3.frozen (p := ⟨wr.heap.size, 1, none⟩) (by go_size); have ff2 := hb3.frozen (p := ⟨wr.heap.size, 2, none⟩) (by go_size); have ff3 := hb3.frozen (p := ⟨wr.heap.size, 3, none⟩) (by go_size); have ff4 := hb3.frozen (p := ⟨wr.heap.size, 4, none⟩) (by go_size); have ff5 := hb3.frozen (p := ⟨wr.heap.size, 5, none⟩) (by go_size); have ff6 := hb3.frozen (p := ⟨wr.heap.size, 6, none⟩) (by go_size); (try simp at ff0 ff1 ff2 ff3 ff4 ff5 ff6)
                    have hl2 := hb3.size
                    simp at hl2
                    have hbR : Below wr.heap.size wr w3 := sq (al (w := wr) _) hb3
                    clear hb3
                    rw [HUq.out]
                    have HB2 := Lib.hid (fun v1 v2 v3 v4 o => set4_below hbR (Nat.le_refl _) hbR.size v1 v2 v3 v4 o)
                    have HF2 := Lib.hid (fun v1 v2 v3 v4 o => HO.out.fresh (HB2.out v1 v2 v3 v4 o) (HNew.out ((((((w3.setCell ⟨wr.heap.size, 1, none⟩ v1).setCell ⟨wr.heap.size, 2, none⟩ v2).setCell ⟨wr.heap.size, 3, none⟩ v3).setCell ⟨wr.heap.size, 4, none⟩ v4).alloc o)) _) (fun _ h => h.elim))
                    go_wp2_with (at_builtin; refine wpList_append_Own (S := PP.sh) rfl _ _ 57 rfl w1.heap.size 132 j0 _ 72 Try.underlying57 hj jz0 jz1 jz2 rfl (by show 0 < 7; omega) (fun _ => False) _ _ rfl (HF2.out _ _ _ _ _).1 _ _ 1 1 _ _ [⟨k, ⟨3, 0, ⟨q.toArray⟩, []⟩, true, false⟩] rfl (Rd.one _ _ _ 7 rfl _ (by simp)) (by simp) rfl (HF2.out _ _ _ _ _).2 (by unfold maxLen; omega) (by omega) (by simp; omega) ?_; intro A4 c4 w5 hown4 hgrow4 _)
                    refine ⟨⟨acc ++ [⟨k, ⟨3, 0, ⟨q.toArray⟩, []⟩, true, false⟩], k + 1, by go_num, by omega, Lib.hid (by simp [HAk.out]), HSome, ?_, hown4, hbel.grown2 HO.out (HB2.out _ _ _ _ _) hgrow4⟩, by simp [intOf]; omega⟩
                    apply Lib.hid
                    rw [HR1.out, List.map_append, List.sum_append]
                    have h1 := HTs.out
                    have h3 := HXB.out
                    have h4 := HBz.out
                    show _ + ((⟨3, 0, ⟨q.toArray⟩, []⟩ : VV).bulk + 0) + _ ≤ _
                    omega
                  | none =>
                    have HUq := Lib.hid (unqV_none hq)
                    have HPW := Lib.hid (show readPV B = (⟨5, 0, B, []⟩, pfxB B rteS) by unfold readPV; rw [hz, hq])
                    clear hz hq
                    by_cases h15 : 15 ≤ B.size
                    · have HPf := Lib.hid (pfx_rte h15)
                      have h15a : decide (15 ≤ (B.size : Int)) = true := decide_eq_true (by omega)
                      cases hpf : ((B.extract 0 15).toList == [114, 117, 110, 116, 105, 109, 101, 32, 101, 114, 114, 111, 114, 58, 32])
                      · have HF := Lib.hid (HBad.out (by have h := HLine.out; rw [HPW.out, HPf.out, hpf] at h; exact h))
                        go_wp2_with fail
                        refine (readNumber_any B _).mono ?_
                        rintro e w2 ⟨rfl, hb2⟩
                        rw [HRn.out]
                        go_wp2_with fail
                        refine (refUnquote_any B (by omega) _).mono ?_
                        rintro e w3 ⟨rfl, nq, hw3⟩
                        have hb3 := sq hb2 (show Below w2.heap.size w2 w3 by rw [hw3]; exact dr (Below.refl _ _) nq)
                        clear hw3 hb2
                        have hbR : Below wr.heap.size wr w3 := sq (al (w := wr) _) hb3
                        clear hb3
                        rw [HUq.out]
                        go_wp2_with fail
                        go_returns
                        exact .inr ⟨HF.out, rfl, sq (sq HB1.out hbel) hbR⟩
                      · have HPV := Lib.hid (show readPV B = (⟨5, 0, B, []⟩, true) by rw [HPW.out, HPf.out, hpf])
                        have HSome := Lib.hid (HGo.out ⟨k, ⟨5, 0, B, []⟩, true, false⟩ (by have h := HLine.out; rw [HPV.out] at h; exact h))
                        have HXB := Lib.hid (show (⟨5, 0, B, []⟩ : VV).bulk ≤ B.size + 1 by have := HBl.out.1; rw [HPV.out] at this; exact this)
                        have HNew := Lib.hid (fun (w' : World) (M : Nat → Prop) => show PP.sh.rd w' M [.int .i64 (k : Int), .int .i64 5, .int .i64 0, .string B, .slice none 0 0, .bool true, .bool false] ⟨k, ⟨5, 0, B, []⟩, true, false⟩ from PP.intro (p := ⟨k, ⟨5, 0, B, []⟩, true, false⟩) (by dsimp only; omega) (VV.intro (v := ⟨5, 0, B, []⟩) (A := none) (c := 0) RdM.nil (Nat.le_refl 0) (by unfold maxLen; omega) (.inl rfl) (by dsimp only; omega) (by dsimp only; omega) (by intro z hz; cases hz)))
                        go_wp2_with fail
                        refine (readNumber_any B _).mono ?_
                        rintro e w2 ⟨rfl, hb2⟩
                        rw [HRn.out]
                        go_wp2_with fail
                        refine (refUnquote_any B (by omega) _).mono ?_
                        rintro e w3 ⟨rfl, nq, hw3⟩
                        have hb3 := sq hb2 (show Below w2.heap.size w2 w3 by rw [hw3]; exact dr (Below.refl _ _) nq)
                        clear hw3 hb2
                        have cc0 := hb3.cell (p := ⟨wr.heap.size, 0, none⟩) (by go_size); have cc1 := hb3.cell (p := ⟨wr.heap.size, 1, none⟩) (by go_size); have cc2 := hb3.cell (p := ⟨wr.heap.size, 2, none⟩) (by go_size); have cc3 := hb3.cell (p := ⟨wr.heap.size, 3, none⟩) (by go_size); have cc4 := hb3.cell (p := ⟨wr.heap.size, 4, none⟩) (by go_size); have cc5 := hb3.cell (p := ⟨wr.heap.size, 5, none⟩) (by go_size); have cc6 := hb3.cell (p := ⟨wr.heap.size, 6, none⟩) (by go_size); (try simp at cc0 cc1 cc2 cc3 cc4 cc5 cc6)
                        have ff0 := hb3.frozen (p := ⟨wr.heap.size, 0, none⟩) (by go_size); have ff1 := hb3.frozen (p := ⟨wr.heap.size, 1, none⟩) (by go_size); have ff2 := hb3.frozen (p := ⟨wr.heap.size, 2, none⟩) (by go_size); have ff3 := hb3.frozen (p := ⟨wr.heap.size, 3, none⟩) (by go_size); have ff4 := hb3.frozen (p := ⟨wr.heap.size, 4, none⟩) (by go_size); have ff5 := hb3.frozen (p := ⟨wr.heap.size, 5, none⟩) (by go_size); have ff6 := hb3.frozen (p := ⟨wr.heap.size, 6, none⟩) (by go_size); (try simp at ff0 ff1 ff2 ff3 ff4 ff5 ff6)
                        have hl2 := hb3.size
                        simp at hl2
                        have hbR : Below wr.heap.size wr w3 := sq (al (w := wr) _) hb3
                        clear hb3
                        rw [HUq.out]
                        have HB2 := Lib.hid (fun v1 v2 v3 v4 o => set4_below hbR (Nat.le_refl _) hbR.size v1 v2 v3 v4 o)
                        have HF2 := Lib.hid (fun v1 v2 v3 v4 o => HO.out.fresh (HB2.out v1 v2 v3 v4 o) (HNew.out ((((((w3.setCell ⟨wr.heap.size, 1, none⟩ v1).setCell ⟨wr.heap.size, 2, none⟩ v2).setCell ⟨wr.heap.size, 3, none⟩ v3).setCell ⟨wr.heap.size, 4, none⟩ v4).alloc o)) _) (fun _ h => h.elim))
                        go_wp2_with (at_builtin; refine wpList_append_Own (S := PP.sh) rfl _ _ 57 rfl w1.heap.size 132 j0 _ 72 Try.underlying57 hj jz0 jz1 jz2 rfl (by show 0 < 7; omega) (fun _ => False) _ _ rfl (HF2.out _ _ _ _ _).1 _ _ 1 1 _ _ [⟨k, ⟨5, 0, B, []⟩, true, false⟩] rfl (Rd.one _ _ _ 7 rfl _ (by simp)) (by simp) rfl (HF2.out _ _ _ _ _).2 (by unfold maxLen; omega) (by omega) (by simp; omega) ?_; intro A4 c4 w5 hown4 hgrow4 _)
                        refine ⟨⟨acc ++ [⟨k, ⟨5, 0, B, []⟩, true, false⟩], k + 1, by go_num, by omega, Lib.hid (by simp [HAk.out]), HSome, ?_, hown4, hbel.grown2 HO.out (HB2.out _ _ _ _ _) hgrow4⟩, by simp [intOf]; omega⟩
                        apply Lib.hid
                        rw [HR1.out, List.map_append, List.sum_append]
                        have h1 := HTs.out
                        have h3 := HXB.out
                        have h4 := HBz.out
                        show _ + ((⟨5, 0, B, []⟩ : VV).bulk + 0) + _ ≤ _
                        omega
                    · have HF := Lib.hid (HBad.out (by rw [HLine.out, HPW.out, pfx_rte_no h15]; rfl))
                      have h15a : decide (15 ≤ (B.size : Int)) = false := decide_eq_false (by omega)
                      go_wp2_with fail
                      refine (readNumber_any B _).mono ?_
                      rintro e w2 ⟨rfl, hb2⟩
                      rw [HRn.out]
                      go_wp2_with fail
                      refine (refUnquote_any B (by omega) _).mono ?_
                      rintro e w3 ⟨rfl, nq, hw3⟩
                      have hb3 := sq hb2 (show Below w2.heap.size w2 w3 by rw [hw3]; exact dr (Below.refl _ _) nq)
                      clear hw3 hb2
                      have hbR : Below wr.heap.size wr w3 := sq (al (w := wr) _) hb3
                      clear hb3
                      rw [HUq.out]
                      go_wp2_with fail
                      go_returns
                      exact .inr ⟨HF.out, rfl, sq (sq HB1.out hbel) hbR⟩
          
      · have hkq : k = Q.length := by omega
        have HV := Lib.hid (show endV L last (goL lineR 0 Q) = if crashB 0 acc = L then some acc else none by
          rw [HEnd.out, HG.out, hkq, List.drop_length]
          unfold chkL
          simp [goL])
        obtain ⟨A1, c1, hlv⟩ := hown.form
        subst hlv
        have hr1 := hown.read
        have hsum := HS.out
        have hb2 : (acc.map PP.bulk).sum ≤ 1048576 := by omega
        have HC := Lib.hid (cap_eq s L HLs.out acc)
        clear hkq hsum
        go_wp2_with fail
        refine (refCrash_any A1 _ c1 acc _ hr1 hb2).mono ?_
        rintro e w2 ⟨rfl, hb3⟩
        have hB := sq (sq HB1.out hbel) hb3
        by_cases hc : crashB 0 acc = L
        · have hcq : (crashB 0 acc == s.toList) = true := by rw [HC.out, decide_eq_true hc]
          have HV2 := Lib.hid (show endV L last (goL lineR 0 Q) = some acc by rw [HV.out, if_pos hc])
          clear hc
          go_wp2_with fail
          go_returns
          exact .inl ⟨acc, _, HV2.out, rfl, Shp.into (S := Shp.slice PP.sh) hr1 hb3 hb3.size, hB⟩
        · have hcq : (crashB 0 acc == s.toList) = false := by rw [HC.out, decide_eq_false hc]
          have HV2 := Lib.hid (show endV L last (goL lineR 0 Q) = none by rw [HV.out, if_neg hc])
          clear hc
          go_wp2_with fail
          go_returns
          exact .inr ⟨HV2.out, rfl, hB⟩
  · have he : last.isEmpty = false := by
      cases last with
      | nil => exact absurd rfl hl
      | cons a b => rfl
    have HV := Lib.hid (show endV L last (goL lineR 0 Q) = none by unfold endV; rw [if_neg hl])
    clear hl
    go_wp2_with fail
    go_returns
    exact .inr ⟨HV.out, rfl, HB1.out⟩
end Go.Proofs.Ytdpgcojgnehnpaa
