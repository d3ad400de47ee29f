/- The law ReportReads is true of every text of at most 1048576 bytes. Conditions: the text's length. -/
import Derived.Test.YtdpgcojgnehnpaaRdR
import Derived.Test.YtdpgcojgnehnpaaSameP
import Derived.Test.YtdpgcojgnehnpaaOpShape
import Derived.ChangeMaps5
set_option maxRecDepth 20000
namespace Go.Proofs.Ytdpgcojgnehnpaa
open Go.ChangeShapes Go.WideShapes Go.ChangeAt Go.RowKit Go.Deep Go.ChangeMaps
/-- A text with a bound on its length. -/
def IsUStr (v : Value) : Prop := ∃ s : ByteArray, v = .string s ∧ s.size ≤ 1048576
theorem op_ustr {H : Type} {enc : TypeId × Value → H} {w : World} {base : Nat} {v : Value} {d : DataW H} {ps : List MemPlace} (hv : Value.okWide Try.prog w .any base 9 v) (h : DataW.Trod enc Try.prog w 0 (fun _ => true) true 9 v d ps) (hu : Rows.uptoBulk d ≤ 1048576) : IsUStr v := by
  obtain ⟨s, rfl, rfl, _, _⟩ := open_string Try.underlying9 hv h
  refine ⟨s, rfl, ?_⟩
  simp [Rows.uptoBulk] at hu
  omega
theorem upto_1 {H : Type} {d : DataW H} (hk : Rows.uptoSmall H ([d] ++ [] ++ []) = true) : Rows.uptoBulk d ≤ 1048576 := by
  have h : Rows.uptoBulkAll [d] ≤ 1048576 := of_decide_eq_true hk
  simp only [Rows.uptoBulkAll] at h
  omega
theorem line_bulk {i : Nat} {p : List UInt8} {x : PP} (h : lineP i p = some x) : x.bulk ≤ p.length + 1 := by
  unfold lineP at h
  split at h
  · rw [tail_cut] at h
    split at h
    · injection h with h
      subst h
      show (readPV (cutS _ _)).1.bulk ≤ _
      have h1 := (readPV_bulk (cutS ⟨(p.drop (headB i).length).toArray⟩ ⟨recB.toArray⟩)).1
      have h2 := cutS_le (p.drop (headB i).length) recB
      rw [List.length_drop] at h2
      omega
    · cases h
  · cases h
theorem go_bulk : ∀ (Q : List (List UInt8)) (i : Nat) (l : List PP) (x : List UInt8), goL lineP i Q = some l → (l.map PP.bulk).sum ≤ (glue (Q ++ [x])).length
  | [], _, l, _, h => by
    simp only [goL] at h
    injection h with h
    subst h
    simp
  | q :: r, i, l, x, h => by
    simp only [goL, Option.bind_eq_some_iff, Option.map_eq_some_iff] at h
    obtain ⟨y, hy, m, hm, rfl⟩ := h
    have h1 := line_bulk hy
    have h2 := go_bulk r (i + 1) m x hm
    rw [List.cons_append, glue_cons]
    simp
    omega
theorem end_some {L last : List UInt8} {o : Option (List PP)} {l : List PP} (h : endV L last o = some l) : o = some l := by
  unfold endV chkL at h
  split at h
  · rw [Option.bind_eq_some_iff] at h
    obtain ⟨m, rfl, h⟩ := h
    split at h
    · exact h
    · cases h
  · cases h
theorem end_same {L last : List UInt8} {Q : List (List UInt8)} (hQ : cutG 10 L [] = Q ++ [last]) : endV L last (goL lineP 0 Q) = endV L last (goL lineR 0 Q) := by
  unfold endV
  split
  · rename_i h
    subst h
    exact read_same hQ
  · rfl
theorem read_1 : readPV ⟨#[49]⟩ = (⟨1, 1, ⟨#[]⟩, []⟩, true) := by
  have h : rd (byt ⟨#[49]⟩) = some 1 := rd_some.2 ⟨by rw [decL, if_neg (by omega), show Int.natAbs 1 = 1 from rfl, dd_lt (by omega)]; rfl, by constructor <;> omega⟩
  unfold readPV
  rw [h]
theorem one_line : lineP 0 [112, 97, 110, 105, 99, 58, 32, 49] = some onePP := by
  have h1 : ([112, 97, 110, 105, 99, 58, 32, 49] : List UInt8).take (headB 0).length = headB 0 := by decide
  have h2 : ([112, 97, 110, 105, 99, 58, 32, 49] : List UInt8).drop (headB 0).length = [49] := by decide
  unfold lineP
  rw [if_pos h1, h2]
  unfold tailP
  rw [if_neg (by simp), if_pos (by rw [show (⟨[49].toArray⟩ : ByteArray) = ⟨#[49]⟩ from rfl, read_1])]
  rw [show (⟨[49].toArray⟩ : ByteArray) = ⟨#[49]⟩ from rfl, read_1]
  rfl
theorem one_end : endV [112, 97, 110, 105, 99, 58, 32, 49, 10] [] (goL lineP 0 [[112, 97, 110, 105, 99, 58, 32, 49]]) = some [onePP] := by
  have hc : crashB 0 [onePP] = [112, 97, 110, 105, 99, 58, 32, 49, 10] := by
    have := congrArg (fun b : ByteArray => b.data.toList) one_crash
    simpa using this
  unfold endV
  rw [if_pos rfl]
  unfold chkL goL
  rw [one_line]
  simp only [goL, Option.bind_some, Option.map_some]
  rw [if_pos hc]
theorem nil_rd {w : World} : (Shp.slice PP.sh).rd w (· < w.heap.size) [.slice none 0 0] [] :=
  ⟨none, 0, [], rfl, Nat.le_refl _, by unfold maxLen; omega, .inl rfl, RdM.nil, rfl, fun i _ _ h => by simp at h⟩
theorem walkReportReads (v0 : Value) (w : World) (w0 : IsUStr v0) : Calls Try.prog 7 #[v0] w fun e w' => e = .returned (.bool true) ∧ Below w.heap.size w w' := by
  obtain ⟨s, rfl, hs⟩ := w0
  obtain ⟨L, hL⟩ : ∃ L, s.data.toList = L := ⟨_, rfl⟩
  obtain ⟨Q, last, hQ⟩ : ∃ Q last, cutG 10 L [] = Q ++ [last] := ⟨_, _, (List.dropLast_concat_getLast (cutG_ne L [])).symm⟩
  have hgl := glue_cut L []
  rw [hQ] at hgl
  have hgl2 : (glue (Q ++ [last])).length = s.size := by
    rw [hgl, ← hL]; simp
  have h1 := fun w => reportRead_any s L last Q hL hQ hs w
  have h2 := fun w => refReadCrash_any s L last Q hL hQ hs w
  have h3 := fun w => reportRead_any ⟨#[112, 97, 110, 105, 99, 58, 32, 49, 10]⟩ [112, 97, 110, 105, 99, 58, 32, 49, 10] [] [[112, 97, 110, 105, 99, 58, 32, 49]] rfl (by decide) (by decide) w
  rw [one_end] at h3
  rw [← end_same hQ] at h2
  have hbk : ∀ l, endV L last (goL lineP 0 Q) = some l → (l.map PP.bulk).sum ≤ 1048576 := fun l hl => by
    have := go_bulk Q 0 l last (end_some hl)
    omega
  generalize endV L last (goL lineP 0 Q) = o at *
  have H1 := Lib.hid h1
  have H2 := Lib.hid h2
  have H3 := Lib.hid h3
  have HBk := Lib.hid hbk
  clear h1 h2 h3 hbk hgl hgl2 hQ hL
  go_enter Try.func7, Try.ntmps7
  go_wp2_with fail
  refine (H1.out _).mono ?_
  rintro e w1 (⟨l, v, ho, rfl, hr1, hb1⟩ | ⟨ho, rfl, hb1⟩)
  · obtain ⟨A1, c1, rfl⟩ := sl_pp hr1
    have HO := Lib.hid ho
    clear ho
    go_wp2_with fail
    refine (H2.out _).mono ?_
    rintro e w2 (⟨l2, v2, ho2, rfl, hr2, hb2⟩ | ⟨ho2, rfl, hb2⟩)
    · obtain rfl : l = l2 := by rw [HO.out] at ho2; injection ho2
      obtain ⟨A2, c2, rfl⟩ := sl_pp hr2
      have HB := Lib.hid (HBk.out l HO.out)
      clear ho2
      go_wp2_with fail
      refine (H3.out _).mono ?_
      rintro e w3 (⟨l3, v3, ho3, rfl, hr3, hb3⟩ | ⟨ho3, rfl, hb3⟩)
      · obtain rfl : [onePP] = l3 := by injection ho3
        obtain ⟨A3, c3, rfl⟩ := sl_pp hr3
        have HR1 := Lib.hid (Shp.into (S := Shp.slice PP.sh) hr1 (sq hb2 hb3) (sq hb2 hb3).size)
        have HR2 := Lib.hid (Shp.into (S := Shp.slice PP.sh) hr2 hb3 hb3.size)
        have HB3 := Lib.hid (sq (sq hb1 hb2) hb3)
        clear hr1 hr2 hr3 hb1 hb2 hb3 ho3
        go_wp2_with fail
        refine (samePanics_same A1 A2 _ _ c1 c2 l _ HR1.out HR2.out HB.out).mono ?_
        rintro e w4 ⟨rfl, hb4⟩
        go_wp2_with fail
        go_ret
        exact ⟨by simp, sq HB3.out hb4⟩
      · cases ho3
    · rw [HO.out] at ho2; cases ho2
  · have HO := Lib.hid ho
    clear ho
    go_wp2_with fail
    refine (H2.out _).mono ?_
    rintro e w2 (⟨l2, v2, ho2, rfl, hr2, hb2⟩ | ⟨ho2, rfl, hb2⟩)
    · rw [HO.out] at ho2; cases ho2
    · clear ho2
      go_wp2_with fail
      refine (H3.out _).mono ?_
      rintro e w3 (⟨l3, v3, ho3, rfl, hr3, hb3⟩ | ⟨ho3, rfl, hb3⟩)
      · obtain rfl : [onePP] = l3 := by injection ho3
        obtain ⟨A3, c3, rfl⟩ := sl_pp hr3
        have HB3 := Lib.hid (sq (sq hb1 hb2) hb3)
        clear hr3 hb1 hb2 hb3 ho3
        go_wp2_with fail
        refine (samePanics_same none none 0 0 0 0 [] _ nil_rd nil_rd (by decide)).mono ?_
        rintro e w4 ⟨rfl, hb4⟩
        go_wp2_with fail
        go_ret
        exact ⟨by simp, sq HB3.out hb4⟩
      · cases ho3
end Go.Proofs.Ytdpgcojgnehnpaa
