/- 'report.Read': what it answers. Conditions: the text's length. -/
import Derived.Test.YtdpgcojgnehnpaaRdQ
import Derived.Test.YtdpgcojgnehnpaaCrash
import Derived.Test.YtdpgcojgnehnpaaCutLf
set_option maxRecDepth 20000
namespace Go.Proofs.Ytdpgcojgnehnpaa
open Go.ChangeShapes Go.WideShapes Go.ChangeAt Go.RowKit
/-- What both answer. -/
def RcP (o : Option (List PP)) (w : World) (e : Ending) (w' : World) : Prop :=
  (∃ l v, o = some l ∧ e = .returned (.tuple #[v, .int .i64 0]) ∧ (Shp.slice PP.sh).rd w' (· < w'.heap.size) [v] l ∧ Below w.heap.size w w') ∨ (o = none ∧ e = .returned (.tuple #[.slice none 0 0, .int .i64 6]) ∧ Below w.heap.size w w')
/-- What is to be read: nothing where the text doesn't end with a line's end. -/
theorem take_len {i : Nat} {p : List UInt8} {h : Nat} (hp : p.take (headB i).length = headB i) (hl : (headB i).length = h) : h ≤ p.length := by
  have := congrArg List.length hp
  rw [List.length_take] at this
  omega
def endV (L last : List UInt8) (o : Option (List PP)) : Option (List PP) := if last = [] then chkL L o else none
theorem cap_eq (s : ByteArray) (L : List UInt8) (h : s.data.toList = L) (l : List PP) : (crashB 0 l == s.toList) = decide (crashB 0 l = L) := by
  rw [ByteArray.toList_eq, h]
  by_cases hc : crashB 0 l = L
  · rw [decide_eq_true hc, hc]; simp
  · rw [decide_eq_false hc]; simpa using hc
set_option maxHeartbeats 4000000 in
theorem reportRead_any (s : ByteArray) (L last : List UInt8) (Q : List (List UInt8)) (hL : s.data.toList = L) (hQ : cutG 10 L [] = Q ++ [last]) (hs : s.size ≤ 1048576) (w : World) : Calls Try.prog 30 #[.string s] w (RcP (endV L last (goL lineP 0 Q)) w) := by
  obtain ⟨j0, hj, jz0, jz1, jz2⟩ := info_parts info_panic
  have hgl := glue_cut L []
  have hnl := cut_nl L [] (by simp)
  rw [hQ] at hgl hnl
  have HGl := Lib.hid (show s = ⟨(glue (Q ++ [last])).toArray⟩ by apply ba_ext; rw [hgl, hL]; rfl)
  have HNl := Lib.hid hnl
  have HLs := Lib.hid hL
  clear hgl hnl hL
  go_enter Try.func30, Try.ntmps30
  go_wp2_with fail
  go_loopw [4, 5] (fun lv rv wr => ∃ (acc : List PP) (rem : List (List UInt8)) (T : ByteArray), rv = .string T ∧ Hid (T = ⟨(glue (rem ++ [last])).toArray⟩) ∧ Hid (goL lineP 0 Q = (goL lineP acc.length rem).map (acc ++ ·)) ∧ Hid (∀ p ∈ rem ++ [last], (10 : UInt8) ∉ p) ∧ (acc.map PP.bulk).sum + T.size ≤ s.size ∧ Own PP.sh 132 wr w.heap.size (fun _ => False) lv acc ∧ Below w.heap.size w wr) (fun _ rv _ => strLen rv)
  case atStart => exact ⟨[], Q, s, rfl, HGl, Lib.hid (by simp), HNl, by simp, Own.nil, Below.refl _ _⟩
  case round =>
    obtain ⟨acc, rem, T, rfl, HT, HG, HN, hsum, hown, hbel⟩ := hrel
    have hTs : T.size ≤ 1048576 := by omega
    have hacc := len_le_sum acc
    cases rem with
    | nil =>
      have HT2 := Lib.hid (show T = ⟨last.toArray⟩ from HT.out)
      by_cases hl : last = []
      · have he : T.toList.isEmpty = true := by
          rw [HT2.out, hl, ByteArray.toList_eq]; rfl
        obtain ⟨A1, c1, rfl⟩ := hown.form
        have hr1 := hown.read
        have HV := Lib.hid (show endV L last (goL lineP 0 Q) = if crashB 0 acc = L then some acc else none by
          unfold endV chkL
          rw [if_pos hl, HG.out]
          simp [goL])
        have HC := Lib.hid (cap_eq s L HLs.out acc)
        clear hl
        go_wp2_with fail
        refine (reportCrash_any A1 _ c1 acc _ hr1 (by omega)).mono ?_
        rintro e w1 ⟨rfl, hb1⟩
        by_cases hc : crashB 0 acc = L
        · have hcq : (crashB 0 acc == s.toList) = true := by rw [HC.out, decide_eq_true hc]
          have HV2 := Lib.hid (show endV L last (goL lineP 0 Q) = some acc by rw [HV.out, if_pos hc])
          clear hc
          go_wp2_with fail
          go_returns
          exact .inl ⟨acc, _, HV2.out, rfl, Shp.into (S := Shp.slice PP.sh) hr1 hb1 hb1.size, sq hbel hb1⟩
        · have hcq : (crashB 0 acc == s.toList) = false := by rw [HC.out, decide_eq_false hc]
          have HV2 := Lib.hid (show endV L last (goL lineP 0 Q) = none by rw [HV.out, if_neg hc])
          clear hc
          go_wp2_with fail
          go_returns
          exact .inr ⟨HV2.out, rfl, sq hbel hb1⟩
      · have HV := Lib.hid (show endV L last (goL lineP 0 Q) = none by unfold endV; rw [if_neg hl])
        have he : T.toList.isEmpty = false := by
          rw [HT2.out, ByteArray.toList_eq]
          cases last with
          | nil => exact absurd rfl hl
          | cons a b => rfl
        have hcut := cutLf_no T (by rw [HT2.out]; exact HN.out last (by simp))
        have HCut := Lib.hid hcut
        clear hcut hl
        go_wp2_with fail
        refine (HCut.out _).mono ?_
        rintro e w1 ⟨rfl, nq, rfl⟩
        go_wp2_with fail
        go_returns
        exact .inr ⟨HV.out, rfl, dr hbel nq⟩
    | cons p r =>
      have HT2 := Lib.hid (show T.data.toList = p ++ 10 :: glue (r ++ [last]) by rw [HT.out, List.cons_append, glue_cons])
      have hTl : T.size = p.length + 1 + (glue (r ++ [last])).length := by
        have h1 : T.data.toList.length = T.size := by simp
        rw [← h1, HT2.out]
        simp
        omega
      have he : T.toList.isEmpty = false := by
        rw [ByteArray.toList_eq, HT2.out]
        cases p <;> rfl
      have hcut := cutLf_yes T p (glue (r ++ [last])) HT2.out (HN.out p (by simp)) (by omega)
      have HCut := Lib.hid hcut
      have HN2 := Lib.hid (show ∀ q ∈ r ++ [last], (10 : UInt8) ∉ q from fun q hq => HN.out q (by simp at hq ⊢; exact .inr hq))
      have HTl := Lib.hid hTl
      have HTs := Lib.hid hsum
      have HBad := Lib.hid (show lineP acc.length p = none → endV L last (goL lineP 0 Q) = none from fun h => by
        unfold endV
        split
        · rw [HG.out]; simp only [goL, h]; rfl
        · rfl)
      have HGo := Lib.hid (show ∀ x, lineP acc.length p = some x → goL lineP 0 Q = (goL lineP (acc ++ [x]).length r).map ((acc ++ [x]) ++ ·) from fun x h => by
        rw [HG.out]
        simp only [goL, h, Option.bind_some, Option.map_map, List.length_append, List.length_cons, List.length_nil]
        congr 1
        funext z
        simp)
      have HO := Lib.hid hown
      obtain ⟨A1, c1, hlv⟩ := hown.form
      subst hlv
      have hpl : (⟨p.toArray⟩ : ByteArray).size ≤ 1048576 := by rw [size_mk]; omega
      clear hcut hTl hsum hown
      by_cases h0 : acc.length = 0
      · have hd0 : decide (0 < acc.length) = false := decide_eq_false (by omega)
        have HHd := Lib.hid (show headB acc.length = [112, 97, 110, 105, 99, 58, 32] by unfold headB; rw [if_neg (by omega)])
        have HHl := Lib.hid (show (headB acc.length).length = 7 by rw [HHd.out]; rfl)
        have hpf := pfx_mk p [112, 97, 110, 105, 99, 58, 32]
        have HA0 := Lib.hid h0
        by_cases hh : p.take 7 = [112, 97, 110, 105, 99, 58, 32]
        · have HLine := Lib.hid (show p.take (headB acc.length).length = headB acc.length by rw [HHl.out, HHd.out]; exact hh)
          have hcp := cutP_mk (p := p) (q := [112, 97, 110, 105, 99, 58, 32]) hh
          rw [show decide (p.take ([112, 97, 110, 105, 99, 58, 32] : List UInt8).length = [112, 97, 110, 105, 99, 58, 32]) = true from decide_eq_true hh] at hpf
          have HP := Lib.hid hpf
          have HC := Lib.hid hcp
          clear hpf hcp hh h0
          go_wp2_with fail
          refine (HCut.out _).mono ?_
          rintro e w1 ⟨rfl, nq, rfl⟩
          go_wp2_with fail
          refine (cutPrefix_any ⟨p.toArray⟩ ⟨#[112, 97, 110, 105, 99, 58, 32]⟩ _).mono ?_
          rintro e w2 ⟨rfl, rfl⟩
          rw [HP.out, HC.out]
          go_wp2_with fail
          have HTail := Lib.hid (show lineP acc.length p = tailP acc.length (p.drop 7) by unfold lineP; rw [if_pos HLine.out, HHl.out])
          have HTC := Lib.hid (tail_cut acc.length (p.drop 7))
          have htl : (⟨(p.drop 7).toArray⟩ : ByteArray).size ≤ 1048576 := by rw [size_mk] at hpl ⊢; rw [List.length_drop]; omega
          have hcs := cutSuffix_any ⟨(p.drop 7).toArray⟩ ⟨recB.toArray⟩ (by omega)
          have hcl := cutS_le (p.drop 7) recB
          rw [List.length_drop] at hcl
          have hpl2 : p.length ≤ 1048576 := by rw [size_mk] at hpl; exact hpl
          generalize cutS ⟨(p.drop 7).toArray⟩ ⟨recB.toArray⟩ = B at *
          generalize sfxB ⟨(p.drop 7).toArray⟩ ⟨recB.toArray⟩ = rc at *
          have HCS := Lib.hid hcs
          have HCL := Lib.hid hcl
          have hbl := readPV_bulk B
          have HBl := Lib.hid hbl
          have hBs : B.size ≤ 1048576 := by omega
          clear hcs hcl hbl
          refine (HCS.out _).mono ?_
          rintro e w4 ⟨rfl, rfl⟩
          go_wp2_with fail
          refine (reportRead1_any B (by omega) _).mono ?_
          rintro e w3 ⟨rfl, hb3⟩
          have hbW : Below wr.heap.size wr w3 := sq (dr (Below.refl _ _) nq) hb3
          have HBW := Lib.hid hbW
          clear hb3 hbW
          cases hf : (readPV B).2
          · have HV := Lib.hid (HBad.out (by rw [HTail.out, HTC.out, hf]; rfl))
            clear hf
            go_wp2_with fail
            go_returns
            exact .inr ⟨HV.out, rfl, sq (sq hbel HBW.out) (al _)⟩
          · have HSome := Lib.hid (HGo.out ⟨acc.length, (readPV B).1, rc, false⟩ (by rw [HTail.out, HTC.out, hf]; rfl))
            have hk1 := readPV_k B
            have hn1 := readPV_n B
            have hl1 := HBl.out.2
            generalize hxx : (readPV B).1 = xv at *
            have HXB := Lib.hid (show xv.bulk ≤ B.size + 1 from HBl.out.1)
            have hal : acc.length ≤ 1048576 := by
              have h1 := HTs.out
              omega
            have HNew := Lib.hid (fun (w' : World) (M : Nat → Prop) => (PP.intro (p := ⟨acc.length, xv, rc, false⟩) (by dsimp only; omega) (VV.intro (v := xv) (A := none) (c := 0) (by rw [hl1]; exact RdM.nil) (by rw [hl1]; exact Nat.le_refl 0) (by unfold maxLen; omega) (.inl rfl) hk1 hn1 (by rw [hl1]; intro z hz; cases hz)) : PP.sh.rd w' M [.int .i64 (acc.length : Int), .int .i64 xv.k, .int .i64 xv.n, .string xv.s, .slice none xv.l.length 0, .bool rc, .bool false] ⟨acc.length, xv, rc, false⟩))
            rw [hl1] at HNew
            have HAcc := Lib.hid hacc
            have HB2 := Lib.hid (fun o1 o2 => (al2 (sq HBW.out (al o1)) o2 : Below wr.heap.size wr ((w3.alloc o1).alloc o2)))
            have HF2 := Lib.hid (fun o1 o2 => HO.out.fresh (HB2.out o1 o2) (HNew.out ((w3.alloc o1).alloc o2) _) (fun _ h => h.elim))
            clear hf hk1 hn1 hl1 hxx hacc HBl
            have hwz := (sq hbel HBW.out).size
            go_wp2_with (at_builtin; refine wpList_append_Own (S := PP.sh) rfl _ _ 57 rfl w.heap.size 132 j0 _ 72 Try.underlying57 hj jz0 jz1 jz2 rfl (by show 0 < 7; omega) (fun _ => False) _ _ rfl (HF2.out _ _).1 _ _ 1 1 _ _ [⟨acc.length, xv, rc, false⟩] rfl (Rd.one _ _ _ 7 rfl _ (by simp)) (by simp) rfl (HF2.out _ _).2 (by unfold maxLen; omega) (by omega) (by simp; omega) ?_; intro A4 c4 w5 hown4 hgrow4 _)
            refine ⟨⟨acc ++ [⟨acc.length, xv, rc, false⟩], r, _, rfl, Lib.hid rfl, HSome, HN2, ?_, hown4, hbel.grown2 HO.out (HB2.out _ _) hgrow4⟩, ?_⟩
            · rw [size_mk, List.map_append, List.sum_append]
              have h1 := HTs.out
              have h2 := HTl.out
              have h3 := HXB.out
              have h4 := HCL.out
              have h5 := take_len HLine.out HHl.out
              show _ + (xv.bulk + 0) + _ ≤ _
              omega
            · show (⟨(glue (r ++ [last])).toArray⟩ : ByteArray).size < T.size
              rw [size_mk]
              have h2 := HTl.out
              omega
        · have HLine := Lib.hid (HBad.out (by unfold lineP; rw [if_neg (by rw [HHl.out, HHd.out]; exact hh)]))
          rw [show decide (p.take ([112, 97, 110, 105, 99, 58, 32] : List UInt8).length = [112, 97, 110, 105, 99, 58, 32]) = false from decide_eq_false hh] at hpf
          have HP := Lib.hid hpf
          clear hpf hh h0
          go_wp2_with fail
          refine (HCut.out _).mono ?_
          rintro e w1 ⟨rfl, nq, rfl⟩
          go_wp2_with fail
          refine (cutPrefix_any ⟨p.toArray⟩ ⟨#[112, 97, 110, 105, 99, 58, 32]⟩ _).mono ?_
          rintro e w2 ⟨rfl, rfl⟩
          rw [HP.out]
          go_wp2_with fail
          go_returns
          exact .inr ⟨HLine.out, rfl, dr hbel nq⟩
      · have hd0 : decide (0 < acc.length) = true := decide_eq_true (by omega)
        have HHd := Lib.hid (show headB acc.length = [9, 112, 97, 110, 105, 99, 58, 32] by unfold headB; rw [if_pos (by omega)])
        have HHl := Lib.hid (show (headB acc.length).length = 8 by rw [HHd.out]; rfl)
        have hpf := pfx_mk p [9]
        have HA0 := Lib.hid h0
        by_cases h9 : p.take 1 = [9]
        · obtain ⟨q1, hq1⟩ : ∃ q1, p.drop 1 = q1 := ⟨_, rfl⟩
          have hcp : cutP ⟨p.toArray⟩ ⟨#[9]⟩ = ⟨q1.toArray⟩ := by rw [← hq1]; exact cutP_mk (p := p) (q := [9]) h9
          rw [show decide (p.take ([9] : List UInt8).length = [9]) = true from decide_eq_true h9] at hpf
          have HP := Lib.hid hpf
          have HC := Lib.hid hcp
          clear hpf hcp
          have hpf2 := pfx_mk q1 [112, 97, 110, 105, 99, 58, 32]
          have hpl8 : p.take 8 = [9] ++ q1.take 7 := by rw [← h9, ← hq1, ← List.take_add]
          have h78 : q1.drop 7 = p.drop 8 := by rw [← hq1, List.drop_drop]
          by_cases hh : q1.take 7 = [112, 97, 110, 105, 99, 58, 32]
          · have HLine := Lib.hid (show p.take (headB acc.length).length = headB acc.length by rw [HHl.out, HHd.out, hpl8, hh]; rfl)
            have hcp2 : cutP ⟨q1.toArray⟩ ⟨#[112, 97, 110, 105, 99, 58, 32]⟩ = ⟨(p.drop 8).toArray⟩ := by rw [← h78]; exact cutP_mk hh
            rw [show decide (q1.take ([112, 97, 110, 105, 99, 58, 32] : List UInt8).length = [112, 97, 110, 105, 99, 58, 32]) = true from decide_eq_true hh] at hpf2
            have HP2 := Lib.hid hpf2
            have HC2 := Lib.hid hcp2
            clear hpf2 hcp2 hh h9 h0 hpl8 hq1 h78
            go_wp2_with fail
            refine (HCut.out _).mono ?_
            rintro e w1 ⟨rfl, nq, rfl⟩
            go_wp2_with fail
            refine (cutPrefix_any ⟨p.toArray⟩ ⟨#[9]⟩ _).mono ?_
            rintro e w2 ⟨rfl, rfl⟩
            rw [HP.out, HC.out]
            go_wp2_with fail
            refine (cutPrefix_any ⟨q1.toArray⟩ ⟨#[112, 97, 110, 105, 99, 58, 32]⟩ _).mono ?_
            rintro e w2 ⟨rfl, rfl⟩
            rw [HP2.out, HC2.out]
            go_wp2_with fail
            have HTail := Lib.hid (show lineP acc.length p = tailP acc.length (p.drop 8) by unfold lineP; rw [if_pos HLine.out, HHl.out])
            have HTC := Lib.hid (tail_cut acc.length (p.drop 8))
            have htl : (⟨(p.drop 8).toArray⟩ : ByteArray).size ≤ 1048576 := by rw [size_mk] at hpl ⊢; rw [List.length_drop]; omega
            have hcs := cutSuffix_any ⟨(p.drop 8).toArray⟩ ⟨recB.toArray⟩ (by omega)
            have hcl := cutS_le (p.drop 8) recB
            rw [List.length_drop] at hcl
            have hpl2 : p.length ≤ 1048576 := by rw [size_mk] at hpl; exact hpl
            generalize cutS ⟨(p.drop 8).toArray⟩ ⟨recB.toArray⟩ = B at *
            generalize sfxB ⟨(p.drop 8).toArray⟩ ⟨recB.toArray⟩ = rc at *
            have HCS := Lib.hid hcs
            have HCL := Lib.hid hcl
            have hbl := readPV_bulk B
            have HBl := Lib.hid hbl
            have hBs : B.size ≤ 1048576 := by omega
            clear hcs hcl hbl
            refine (HCS.out _).mono ?_
            rintro e w4 ⟨rfl, rfl⟩
            go_wp2_with fail
            refine (reportRead1_any B (by omega) _).mono ?_
            rintro e w3 ⟨rfl, hb3⟩
            have hbW : Below wr.heap.size wr w3 := sq (dr (Below.refl _ _) nq) hb3
            have HBW := Lib.hid hbW
            clear hb3 hbW
            cases hf : (readPV B).2
            · have HV := Lib.hid (HBad.out (by rw [HTail.out, HTC.out, hf]; rfl))
              clear hf
              go_wp2_with fail
              go_returns
              exact .inr ⟨HV.out, rfl, sq (sq hbel HBW.out) (al _)⟩
            · have HSome := Lib.hid (HGo.out ⟨acc.length, (readPV B).1, rc, false⟩ (by rw [HTail.out, HTC.out, hf]; rfl))
              have hk1 := readPV_k B
              have hn1 := readPV_n B
              have hl1 := HBl.out.2
              generalize hxx : (readPV B).1 = xv at *
              have HXB := Lib.hid (show xv.bulk ≤ B.size + 1 from HBl.out.1)
              have hal : acc.length ≤ 1048576 := by
                have h1 := HTs.out
                omega
              have HNew := Lib.hid (fun (w' : World) (M : Nat → Prop) => (PP.intro (p := ⟨acc.length, xv, rc, false⟩) (by dsimp only; omega) (VV.intro (v := xv) (A := none) (c := 0) (by rw [hl1]; exact RdM.nil) (by rw [hl1]; exact Nat.le_refl 0) (by unfold maxLen; omega) (.inl rfl) hk1 hn1 (by rw [hl1]; intro z hz; cases hz)) : PP.sh.rd w' M [.int .i64 (acc.length : Int), .int .i64 xv.k, .int .i64 xv.n, .string xv.s, .slice none xv.l.length 0, .bool rc, .bool false] ⟨acc.length, xv, rc, false⟩))
              rw [hl1] at HNew
              have HAcc := Lib.hid hacc
              have HB2 := Lib.hid (fun o1 o2 => (al2 (sq HBW.out (al o1)) o2 : Below wr.heap.size wr ((w3.alloc o1).alloc o2)))
              have HF2 := Lib.hid (fun o1 o2 => HO.out.fresh (HB2.out o1 o2) (HNew.out ((w3.alloc o1).alloc o2) _) (fun _ h => h.elim))
              clear hf hk1 hn1 hl1 hxx hacc HBl
              have hwz := (sq hbel HBW.out).size
              go_wp2_with (at_builtin; refine wpList_append_Own (S := PP.sh) rfl _ _ 57 rfl w.heap.size 132 j0 _ 72 Try.underlying57 hj jz0 jz1 jz2 rfl (by show 0 < 7; omega) (fun _ => False) _ _ rfl (HF2.out _ _).1 _ _ 1 1 _ _ [⟨acc.length, xv, rc, false⟩] rfl (Rd.one _ _ _ 7 rfl _ (by simp)) (by simp) rfl (HF2.out _ _).2 (by unfold maxLen; omega) (by omega) (by simp; omega) ?_; intro A4 c4 w5 hown4 hgrow4 _)
              refine ⟨⟨acc ++ [⟨acc.length, xv, rc, false⟩], r, _, rfl, Lib.hid rfl, HSome, HN2, ?_, hown4, hbel.grown2 HO.out (HB2.out _ _) hgrow4⟩, ?_⟩
              · rw [size_mk, List.map_append, List.sum_append]
                have h1 := HTs.out
                have h2 := HTl.out
                have h3 := HXB.out
                have h4 := HCL.out
                have h5 := take_len HLine.out HHl.out
                show _ + (xv.bulk + 0) + _ ≤ _
                omega
              · show (⟨(glue (r ++ [last])).toArray⟩ : ByteArray).size < T.size
                rw [size_mk]
                have h2 := HTl.out
                omega
          · have HLine := Lib.hid (HBad.out (by unfold lineP; rw [if_neg (by rw [HHl.out, HHd.out, hpl8]; intro e; exact hh (List.cons.inj e).2)]))
            rw [show decide (q1.take ([112, 97, 110, 105, 99, 58, 32] : List UInt8).length = [112, 97, 110, 105, 99, 58, 32]) = false from decide_eq_false hh] at hpf2
            have HP2 := Lib.hid hpf2
            clear hpf2 hh h9 h0 hpl8 hq1 h78
            go_wp2_with fail
            refine (HCut.out _).mono ?_
            rintro e w1 ⟨rfl, nq, rfl⟩
            go_wp2_with fail
            refine (cutPrefix_any ⟨p.toArray⟩ ⟨#[9]⟩ _).mono ?_
            rintro e w2 ⟨rfl, rfl⟩
            rw [HP.out, HC.out]
            go_wp2_with fail
            refine (cutPrefix_any ⟨q1.toArray⟩ ⟨#[112, 97, 110, 105, 99, 58, 32]⟩ _).mono ?_
            rintro e w2 ⟨rfl, rfl⟩
            rw [HP2.out]
            go_wp2_with fail
            go_returns
            exact .inr ⟨HLine.out, rfl, dr hbel nq⟩
        · have HLine := Lib.hid (HBad.out (by
            unfold lineP
            rw [if_neg (by rw [HHl.out, HHd.out]; intro e; apply h9; have h8 := congrArg (List.take 1) e; rw [List.take_take] at h8; exact h8)]))
          rw [show decide (p.take ([9] : List UInt8).length = [9]) = false from decide_eq_false h9] at hpf
          have HP := Lib.hid hpf
          clear hpf h9 h0
          go_wp2_with fail
          refine (HCut.out _).mono ?_
          rintro e w1 ⟨rfl, nq, rfl⟩
          go_wp2_with fail
          refine (cutPrefix_any ⟨p.toArray⟩ ⟨#[9]⟩ _).mono ?_
          rintro e w2 ⟨rfl, rfl⟩
          rw [HP.out]
          go_wp2_with fail
          refine (cutPrefix_any _ ⟨#[112, 97, 110, 105, 99, 58, 32]⟩ _).mono ?_
          rintro e w2 ⟨rfl, rfl⟩
          go_wp2_with fail
          go_returns
          exact .inr ⟨HLine.out, rfl, dr hbel nq⟩
end Go.Proofs.Ytdpgcojgnehnpaa
