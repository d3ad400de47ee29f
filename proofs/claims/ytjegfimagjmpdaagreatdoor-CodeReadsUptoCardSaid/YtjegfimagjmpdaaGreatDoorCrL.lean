/- 'CodeReads', of texts of bulk at most the bound: the law returns true. Conditions: the library's own number stands in its cell. -/
import Derived.Test.YtjegfimagjmpdaaGreatDoorCrU
import Derived.Test.YtjegfimagjmpdaaGreatDoorSmC
set_option maxRecDepth 100000
namespace Go.Proofs.YtjegfimagjmpdaaGreatDoor
open Go.ChangeShapes Go.WideShapes Go.ChangeAt Go.RowKit
/-- The law's own text. -/
def lawT : ByteArray := ⟨#[102, 117, 110, 99, 32, 109, 97, 105, 110, 32, 48, 32, 48, 32, 48, 10, 32, 32, 108, 101, 97, 118, 101, 32, 48, 32, 48, 32, 48, 32, 48, 32, 48, 10]⟩
def KX : KK := ⟨[⟨⟨#[109, 97, 105, 110]⟩, 0, 0, 0, [⟨30, 0, 0, 0, 0, 0⟩]⟩], []⟩
theorem nm_mainX : nmB [109, 97, 105, 110] = true := by
  rw [nm_tok (by decide)]
  decide +kernel
theorem ins_KX : insE KX ⟨⟨#[109, 97, 105, 110]⟩, 0, 0, 0, [⟨30, 0, 0, 0, 0, 0⟩]⟩ ⟨30, 0, 0, 0, 0, 0⟩ = 0 := by decide +kernel
theorem sound_KX : soundV KX = (0, 0, 0) := by
  have h1 : headV 0 ⟨⟨#[109, 97, 105, 110]⟩, 0, 0, 0, [⟨30, 0, 0, 0, 0, 0⟩]⟩ = 0 := by
    unfold headV headN
    show (if nmB [109, 97, 105, 110] = false then _ else _) = _
    rw [nm_mainX]
    decide +kernel
  refine sound_ok (by decide) (by decide) (fun j hj => by simp [KX] at hj) (fun j hj => ?_)
  obtain rfl : j = 0 := by simp [KX] at hj; omega
  rw [fns_last (K := KX) (k := 0) rfl h1 (fun j hj => ?_)]
  · decide +kernel
  · obtain rfl : j = 0 := by simp at hj; omega
    rw [insBad_of (x := ⟨30, 0, 0, 0, 0, 0⟩) rfl, if_pos ins_KX]
theorem dLX : dL 0 = [48] := by decide +kernel
theorem show_KX : showC KX = lawT.data.toList := by
  have h : showC KX = [102, 117, 110, 99, 32] ++ [109, 97, 105, 110] ++ (32 :: dL 0 ++ (32 :: dL 0 ++ (32 :: dL 0 ++ []))) ++ [10] ++ ([32, 32] ++ wordL 30 ++ (32 :: dL 0 ++ (32 :: dL 0 ++ (32 :: dL 0 ++ (32 :: dL 0 ++ (32 :: dL 0 ++ []))))) ++ [10] ++ []) ++ [] := rfl
  rw [h, dLX]
  decide +kernel
theorem rd48 : rd (byt ⟨#[48]⟩) = some 0 := by decide +kernel
theorem num1 (p : List UInt8) (l : List (List UInt8)) (z : Int) (y : List Int) (h : rd (byt ⟨p.toArray⟩) = some z) (hl : numsL l = some y) : numsL (p :: l) = some (z :: y) := by
  unfold numsL
  rw [h, hl]
  rfl
theorem nums3 : numsL [[48], [48], [48]] = some [0, 0, 0] := num1 _ _ _ _ rd48 (num1 _ _ _ _ rd48 (num1 _ _ _ _ rd48 rfl))
theorem nums5 : numsL [[48], [48], [48], [48], [48]] = some [0, 0, 0, 0, 0] := num1 _ _ _ _ rd48 (num1 _ _ _ _ rd48 nums3)
theorem op_leave : opW [108, 101, 97, 118, 101] = some 30 := opW_some (by decide) (by decide) (by decide +kernel)
theorem cutX : cutG 10 lawT.data.toList [] = [[102, 117, 110, 99, 32, 109, 97, 105, 110, 32, 48, 32, 48, 32, 48], [32, 32, 108, 101, 97, 118, 101, 32, 48, 32, 48, 32, 48, 32, 48, 32, 48], []] := by decide +kernel
theorem lineX1 : lineC opW true ⟨[], []⟩ [102, 117, 110, 99, 32, 109, 97, 105, 110, 32, 48, 32, 48, 32, 48] = some ⟨[⟨⟨#[109, 97, 105, 110]⟩, 0, 0, 0, []⟩], []⟩ := by
  rw [line_o (by decide)]
  unfold lineO
  rw [show cutG 32 [102, 117, 110, 99, 32, 109, 97, 105, 110, 32, 48, 32, 48, 32, 48] [] = [[102, 117, 110, 99], [109, 97, 105, 110], [48], [48], [48]] by decide +kernel]
  simp only [if_true, nums3]
  rfl
theorem lineX2 : lineC opW true ⟨[⟨⟨#[109, 97, 105, 110]⟩, 0, 0, 0, []⟩], []⟩ [32, 32, 108, 101, 97, 118, 101, 32, 48, 32, 48, 32, 48, 32, 48, 32, 48] = some KX := by
  rw [line_o (by decide)]
  unfold lineO
  rw [show cutG 32 [32, 32, 108, 101, 97, 118, 101, 32, 48, 32, 48, 32, 48, 32, 48, 32, 48] [] = [[], [], [108, 101, 97, 118, 101], [48], [48], [48], [48], [48]] by decide +kernel]
  simp only [op_leave, nums5]
  rw [if_pos (by simp)]
  rfl
theorem read_law : readC lawT.data.toList = some KX := by
  unfold readC
  rw [cutX]
  have h : goT opW ⟨[], []⟩ [[102, 117, 110, 99, 32, 109, 97, 105, 110, 32, 48, 32, 48, 32, 48], [32, 32, 108, 101, 97, 118, 101, 32, 48, 32, 48, 32, 48, 32, 48, 32, 48], []] = some KX := by
    show (lineC opW true ⟨[], []⟩ [102, 117, 110, 99, 32, 109, 97, 105, 110, 32, 48, 32, 48, 32, 48]).bind (fun K' => goT opW K' [[32, 32, 108, 101, 97, 118, 101, 32, 48, 32, 48, 32, 48, 32, 48, 32, 48], []]) = _
    rw [lineX1]
    show (lineC opW true ⟨[⟨⟨#[109, 97, 105, 110]⟩, 0, 0, 0, []⟩], []⟩ [32, 32, 108, 101, 97, 118, 101, 32, 48, 32, 48, 32, 48, 32, 48, 32, 48]).bind (fun K' => goT opW K' [[]]) = _
    rw [lineX2]
    rfl
  rw [h]
  exact if_pos ⟨by rw [sound_KX], show_KX⟩
set_option maxHeartbeats 4000000 in
theorem walkCodeReads (s : ByteArray) (m : Int) (w : World) (hm : w.cell? ⟨0, 0, none⟩ = some (.int .i64 m)) (hs : s.size ≤ 1048576) : Calls Tryz.prog 3 #[.string s] w fun e w' => e = .returned (.bool true) ∧ Below w.heap.size w w' := by
  have HM := Lib.hid hm
  have HL := Lib.hid (fun (w4 : World) (h0 : 0 < w4.heap.size) (h : w4.cell? ⟨0, 0, none⟩ = some (.int .i64 m)) => codeRead_any lawT m w4 h (by decide +kernel) h0)
  have h0 : 0 < w.heap.size := World.block_lt_of_cell? w ⟨0, 0, none⟩ hm
  have HRL := Lib.hid read_law
  unfold lawT at HL
  clear hm
  go_enter Tryz.func3, Tryz.ntmps3
  go_wp2_with fail
  refine (codeRead_any s m w HM.out hs h0).mono ?_
  rintro e w1 ⟨FA, fc, TA, tc, K, r, rfl, hk, hc, hb1⟩
  have HB1 := Lib.hid hb1
  have HK := Lib.hid hk
  have HC := Lib.hid hc
  obtain ⟨nf, hnf⟩ : ∃ n, n = K.funcs.length := ⟨_, rfl⟩
  obtain ⟨nt, hnt⟩ : ∃ n, n = K.texts.length := ⟨_, rfl⟩
  rw [← hnf, ← hnt]
  have HNF := Lib.hid hnf
  have HNT := Lib.hid hnt
  clear hb1 hk hc hnf hnt
  go_wp2_with fail
  refine (refReadCode_any s _ hs).mono ?_
  rintro e w2 ⟨FB, fd, TB, td, J, q, rfl, hj, hc2, hb2⟩
  have hKJ : J = K ∧ q = r := by
    rcases HC.out with ⟨h1, h2⟩ | ⟨h1, h2, h3⟩ <;> rcases hc2 with ⟨h4, h5⟩ | ⟨h4, h5, h6⟩
    · rw [h1] at h4
      injection h4 with h4
      exact ⟨h4.symm, by rw [h2, h5]⟩
    · rw [h1] at h4; cases h4
    · rw [h1] at h4; cases h4
    · exact ⟨by rw [h2, h5], by rw [h3, h6]⟩
  obtain ⟨rfl, rfl⟩ := hKJ
  have hr := HC.out
  rw [← HNF.out, ← HNT.out]
  have HJ := Lib.hid hj
  have HB2 := Lib.hid (sq (sq HB1.out (al (.cells #[.slice FA nf fc, .slice TA nt tc] 25))) hb2)
  have HK2 := Lib.hid (((HK.out.into (al (.cells #[.slice FA nf fc, .slice TA nt tc] 25))).into (hb2.mono (by simp))).more (B' := w2.heap.size) (by have := hb2.size; simp at this; omega))
  have HX1 := Lib.hid ((hb2.block w1.heap.size (by simp)).trans (heap_alloc_new w1 (.cells #[.slice FA nf fc, .slice TA nt tc] 25)))
  clear hj hc2 hb2 HC
  have hl1 : w1.heap.size < w2.heap.size := lt_size HX1.out
  generalize hg1 : w1.heap.size = g1 at *
  clear hg1
  go_wp2_with fail
  have hl2 : 0 < (w2.alloc (.cells #[.slice FB nf fd, .slice TB nt td] 25)).heap.size := by simp
  refine (HL.out (w2.alloc (.cells #[.slice FB nf fd, .slice TB nt td] 25)) hl2 ((World.cell?_alloc_lt _ _ ⟨0, 0, none⟩ (by show 0 < _; omega)).trans ((HB2.out.cell (p := ⟨0, 0, none⟩) h0).trans HM.out))).mono ?_
  rintro e w3 ⟨FC, fe, TC, te, X, x, rfl, hx, hc3, hb3⟩
  have hX : X = KX := by
    rcases hc3 with ⟨h1, _⟩ | ⟨h1, _⟩
    · have h2 : readC lawT.data.toList = some X := h1
      rw [HRL.out] at h2
      injection h2 with h2
      exact h2.symm
    · have h2 : readC lawT.data.toList = none := h1
      rw [HRL.out] at h2
      cases h2
  subst hX
  rw [show KX.funcs.length = 1 from rfl, show KX.texts.length = 0 from rfl]
  have HB3 := Lib.hid (sq (sq HB2.out (al (.cells #[.slice FB nf fd, .slice TB nt td] 25))) hb3)
  have HX2 := Lib.hid ((hb3.block w2.heap.size (by simp)).trans (heap_alloc_new w2 (.cells #[.slice FB nf fd, .slice TB nt td] 25)))
  have HX3 := Lib.hid ((hb3.block g1 (by simp; omega)).trans ((Lib.alloc_old _ _ _ hl1).trans HX1.out))
  have HK3 := Lib.hid (((HK2.out.into (al (.cells #[.slice FB nf fd, .slice TB nt td] 25))).into (hb3.mono (by simp))).more (B' := w3.heap.size) (by have := hb3.size; simp at this; omega))
  have HJ3 := Lib.hid (((HJ.out.into (al (.cells #[.slice FB nf fd, .slice TB nt td] 25))).into (hb3.mono (by simp))).more (B' := w3.heap.size) (by have := hb3.size; simp at this; omega))
  have a0 : w3.cell? ⟨g1, 0, none⟩ = some (.slice FA nf fc) := by rw [Lib.cell_of_heap HX3.out]; rfl
  have a1 : w3.cell? ⟨g1, 1, none⟩ = some (.slice TA nt tc) := by rw [Lib.cell_of_heap HX3.out]; rfl
  have b0 : w3.cell? ⟨w2.heap.size, 0, none⟩ = some (.slice FB nf fd) := by rw [Lib.cell_of_heap HX2.out]; rfl
  have b1 : w3.cell? ⟨w2.heap.size, 1, none⟩ = some (.slice TB nt td) := by rw [Lib.cell_of_heap HX2.out]; rfl
  have hgl : g1 < w3.heap.size := lt_size HX3.out
  have hg2 : w2.heap.size < w3.heap.size := lt_size HX2.out
  have HSM := Lib.hid (fun W (h : Below w3.heap.size w3 W) => sameCode_any FA TA FB TB fc tc fd td J J nf nt nf nt W HNF.out HNT.out HNF.out HNT.out ((HK3.out.into h).more h.size) ((HJ3.out.into h).more h.size))
  clear hx hc3 hb3 HL HRL HJ HK2 HK
  have hr2 : q = 0 ∨ q = 6 := by
    rcases hr with ⟨_, h⟩ | ⟨_, _, h⟩
    · exact .inl h
    · exact .inr h
  clear hr
  generalize hgg : w2.heap.size = g2 at *
  clear hgg
  rcases hr2 with rfl | rfl
  all_goals
    go_wp2_with fail
    refine Calls.mono (HSM.out _ (al _)) ?_
    rintro e w4 ⟨⟨b, rfl, hbk⟩, hb4⟩
    obtain rfl : b = true := hbk.2 (by first | rfl | trivial)
    have HX4 := (hb4.block w3.heap.size (by simp)).trans (heap_alloc_new w3 (.cells #[.slice FC 1 fe, .slice TC 0 te] 25))
    have c0 : w4.cell? ⟨w3.heap.size, 0, none⟩ = some (.slice FC 1 fe) := by rw [Lib.cell_of_heap HX4]; rfl
    have HB4 := Lib.hid (sq (sq HB3.out (al _)) hb4)
    clear hb4 HX4
    go_wp2_with fail
    go_ret
    exact ⟨rfl, HB4.out⟩
end Go.Proofs.YtjegfimagjmpdaaGreatDoor
