/- The document's 'SameCode'. Conditions: the codes fit what comes in. -/
import Derived.Test.YtjegfimagjmpdaaGreatDoorCdV
import Derived.Test.YtjegfimagjmpdaaGreatDoorIpC
import Derived.BigQuiet
import Derived.Deep.CutRange
set_option maxRecDepth 100000
namespace Go.Proofs.YtjegfimagjmpdaaGreatDoor
open Go.ChangeShapes Go.WideShapes Go.ChangeAt Go.RowKit
@[reducible] def smI (o a b c d e : Int) : Value := .agg #[.int .i64 o, .int .i64 a, .int .i64 b, .int .i64 c, .int .i64 d, .int .i64 e]
theorem sm_neq (o a b c d e p q r s t u : Int) (w : World) : Sem.run Tryz.prog (binOp BinOp.neq 47 (.agg #[.int .i64 o, .int .i64 a, .int .i64 b, .int .i64 c, .int .i64 d, .int .i64 e]) (.agg #[.int .i64 p, .int .i64 q, .int .i64 r, .int .i64 s, .int .i64 t, .int .i64 u])) w = .ok (.bool (!decide (o = p ∧ a = q ∧ b = r ∧ c = s ∧ d = t ∧ e = u))) w := by
  simp [go_sem]
  by_cases h0 : o = p <;> by_cases h1 : a = q <;> by_cases h2 : b = r <;> by_cases h3 : c = s <;> by_cases h4 : d = t <;> by_cases h5 : e = u <;> simp [h0, h1, h2, h3, h4, h5]
theorem str_eq_iff (s t : ByteArray) : (s.toList == t.toList) = true ↔ s = t := by
  constructor
  · intro h
    have h1 := of_decide_eq_true (show decide (s.toList = t.toList) = true by simpa using h)
    apply ByteArray.ext
    apply Array.ext'
    rw [ByteArray.toList_eq, ByteArray.toList_eq] at h1
    exact h1
  · rintro rfl
    simp
theorem fn_cases (f g : FF) :
    ((!(f.name.toList == g.name.toList)) = true ∧ f ≠ g) ∨
    ((!(f.name.toList == g.name.toList)) = false ∧ (f.params != g.params) = true ∧ f ≠ g) ∨
    ((!(f.name.toList == g.name.toList)) = false ∧ (f.params != g.params) = false ∧ (f.slots != g.slots) = true ∧ f ≠ g) ∨
    ((!(f.name.toList == g.name.toList)) = false ∧ (f.params != g.params) = false ∧ (f.slots != g.slots) = false ∧ (f.caps != g.caps) = true ∧ f ≠ g) ∨
    ((!(f.name.toList == g.name.toList)) = false ∧ (f.params != g.params) = false ∧ (f.slots != g.slots) = false ∧ (f.caps != g.caps) = false ∧ ((f.ins.length : Int) != (g.ins.length : Int)) = true ∧ f ≠ g) ∨
    ((!(f.name.toList == g.name.toList)) = false ∧ (f.params != g.params) = false ∧ (f.slots != g.slots) = false ∧ (f.caps != g.caps) = false ∧ ((f.ins.length : Int) != (g.ins.length : Int)) = false ∧ f.ins.length = g.ins.length ∧ (f.ins = g.ins → f = g)) := by
  obtain ⟨n1, p1, s1, c1, i1⟩ := f
  obtain ⟨n2, p2, s2, c2, i2⟩ := g
  simp only
  by_cases h0 : n1 = n2
  · subst h0
    have e0 : (!(n1.toList == n1.toList)) = false := by simp
    by_cases h1 : p1 = p2
    · subst h1
      by_cases h2 : s1 = s2
      · subst h2
        by_cases h3 : c1 = c2
        · subst h3
          by_cases h4 : i1.length = i2.length
          · exact .inr (.inr (.inr (.inr (.inr ⟨e0, by simp, by simp, by simp, by simp [h4], h4, fun h => by subst h; rfl⟩))))
          · exact .inr (.inr (.inr (.inr (.inl ⟨e0, by simp, by simp, by simp, by simp; omega, fun e => h4 (by injection e with _ _ _ _ e; rw [e])⟩))))
        · exact .inr (.inr (.inr (.inl ⟨e0, by simp, by simp, by simpa using h3, fun e => h3 (by injection e)⟩)))
      · exact .inr (.inr (.inl ⟨e0, by simp, by simpa using h2, fun e => h2 (by injection e)⟩))
    · exact .inr (.inl ⟨e0, by simpa using h1, fun e => h1 (by injection e)⟩)
  · refine .inl ⟨?_, fun e => h0 (by injection e)⟩
    cases hb : (n1.toList == n2.toList) with
    | false => rfl
    | true => exact absurd ((str_eq_iff n1 n2).1 hb) h0
/-- One region: two functions are looked up and laid in two new blocks, in whatever order. -/
structure SmP (b10 b11 b12 b13 : Bool) (W : World) (g7 g8 : Nat) (cf cg : Array Value) (w : World) : Prop where
  bel : Below W.heap.size W w
  k7 : b10 = true → W.heap.size ≤ g7 ∧ w.heap[g7]? = some (.cells (bif b12 then cf else #[.string ⟨#[]⟩, .int .i64 0, .int .i64 0, .int .i64 0, .slice none 0 0]) 44 (0, 0))
  k8 : b11 = true → W.heap.size ≤ g8 ∧ w.heap[g8]? = some (.cells (bif b13 then cg else #[.string ⟨#[]⟩, .int .i64 0, .int .i64 0, .int .i64 0, .slice none 0 0]) 44 (0, 0))
  ne : b10 = true → b11 = true → g7 ≠ g8
section
variable {b10 b11 b12 b13 : Bool} {W w : World} {g7 g8 : Nat} {cf cg : Array Value}
theorem SmP.zero : SmP false false false false W 0 0 cf cg (W.drew) := ⟨(Below.refl _ _).drew, (fun h => by cases h), (fun h => by cases h), (fun h => by cases h)⟩
theorem SmP.al7 (h : SmP false b11 false b13 W g7 g8 cf cg w) : SmP true b11 false b13 W w.heap.size g8 cf cg (w.alloc (.cells #[.string ⟨#[]⟩, .int .i64 0, .int .i64 0, .int .i64 0, .slice none 0 0] 44)) :=
  ⟨h.bel.alloc h.bel.size _, fun _ => ⟨h.bel.size, heap_alloc_new w _⟩, fun hb => ⟨(h.k8 hb).1, (Lib.alloc_old _ _ _ (Array.getElem?_eq_some_iff.1 (h.k8 hb).2).1).trans (h.k8 hb).2⟩, fun _ hb => by have := (Array.getElem?_eq_some_iff.1 (h.k8 hb).2).1; omega⟩
theorem SmP.al8 (h : SmP b10 false b12 false W g7 g8 cf cg w) : SmP b10 true b12 false W g7 w.heap.size cf cg (w.alloc (.cells #[.string ⟨#[]⟩, .int .i64 0, .int .i64 0, .int .i64 0, .slice none 0 0] 44)) :=
  ⟨h.bel.alloc h.bel.size _, fun hb => ⟨(h.k7 hb).1, (Lib.alloc_old _ _ _ (Array.getElem?_eq_some_iff.1 (h.k7 hb).2).1).trans (h.k7 hb).2⟩, fun _ => ⟨h.bel.size, heap_alloc_new w _⟩, fun hb _ => by have := (Array.getElem?_eq_some_iff.1 (h.k7 hb).2).1; omega⟩
theorem below_row {B : Nat} {a w : World} (h : Below B a w) {g : Nat} (hg : B ≤ g) (cs : Array Value) : Below B a (w.setRow g cs) :=
  ⟨h.os, h.tape, h.output, by simpa using h.size, fun k hk => (setRow_other w g k cs (by omega)).trans (h.block k hk)⟩
theorem SmP.h7 (h : SmP true b11 false b13 W g7 g8 cf cg w) : w.heap[g7]? = some (.cells #[.string ⟨#[]⟩, .int .i64 0, .int .i64 0, .int .i64 0, .slice none 0 0] 44 (0, 0)) := (h.k7 rfl).2
theorem SmP.h8 (h : SmP b10 true b12 false W g7 g8 cf cg w) : w.heap[g8]? = some (.cells #[.string ⟨#[]⟩, .int .i64 0, .int .i64 0, .int .i64 0, .slice none 0 0] 44 (0, 0)) := (h.k8 rfl).2
theorem SmP.st7 (h : SmP true b11 false b13 W g7 g8 cf cg w) : SmP true b11 true b13 W g7 g8 cf cg (w.setRow g7 cf) :=
  ⟨below_row h.bel (h.k7 rfl).1 _, fun _ => ⟨(h.k7 rfl).1, setRow_heap w g7 _ cf _ _ (h.k7 rfl).2⟩, fun hb => ⟨(h.k8 hb).1, (setRow_other w g7 g8 cf (h.ne rfl hb).symm).trans (h.k8 hb).2⟩, h.ne⟩
theorem SmP.st8 (h : SmP b10 true b12 false W g7 g8 cf cg w) : SmP b10 true b12 true W g7 g8 cf cg (w.setRow g8 cg) :=
  ⟨below_row h.bel (h.k8 rfl).1 _, fun hb => ⟨(h.k7 hb).1, (setRow_other w g8 g7 cg (h.ne hb rfl)).trans (h.k7 hb).2⟩, fun _ => ⟨(h.k8 rfl).1, setRow_heap w g8 _ cg _ _ (h.k8 rfl).2⟩, h.ne⟩
end
theorem size_fn (w : World) : Sem.run Tryz.prog (sizeOf 44) w = .ok 5 w := by kernel_rfl
theorem store_fn (w : World) (g : Nat) (cur cs : Array Value) (hg : w.heap[g]? = some (.cells cur 44 (0, 0))) (hc : cur.size = 5) (hs : cs.size = 5) (h1 : ∀ u ∈ cs.toList, u.oneCell' = true) : (Instr.storeAt 44 (.pointer (some ⟨g, 0, none⟩)) (.agg cs)).run Tryz.prog w = .ok () (w.setRow g cs) := by
  have h := run_storeCells_at Tryz.prog g 0 44 cs.toList 0 cur w hg (by rw [hc, Nat.zero_add, Array.length_toList, hs]; decide) h1
  have e : (cur.toList.take (0 + 0) ++ cs.toList ++ cur.toList.drop (0 + 0 + cs.toList.length)).toArray = cs := by
    rw [List.drop_eq_nil_of_le (by rw [Array.length_toList, Array.length_toList, hs]; omega)]
    simp
  rw [e] at h
  simp only [Instr.storeAt, storeVar, Instr.sureAddr, Sem.run_bind, Sem.run_pure, Result.andThen_ok, Value.cells, size_fn, hs]
  exact h
theorem wp_storeAt {P : Program} {w w' : World} {o : Oper} {a : Act} {K : Act → World → Prop} {Q : Exit → Act → World → Prop} (t : TypeId) (x y : Operand) (ho : o.op = .store t x y) (hd : o.dst = none) (h : (Instr.storeAt t (a.eval x) (a.eval y)).run P w = .ok () w') (hK : K a w') : o.wp P a w K Q := by
  unfold Oper.wp execOp
  simp only [ho, Sem.run_bind, h, Result.andThen_ok, Sem.run_pure]
  show K (a.put o.dst undef) w'
  rw [hd]
  exact hK
def SmI (W : World) (p k fb foff gb goff nf fc fd ni ic nj jc : Nat) (IA IB : Option Addr) (nm nm2 : ByteArray) (pa sl ca pa2 sl2 ca2 : Int) (x0 x1 x4 x5 x7 x8 x9 x10 x11 x12 x13 x14 x15 x16 x17 x18 x19 x20 x21 x22 x23 x24 x25 x26 x27 x28 x29 x30 x31 x32 x33 x34 x35 x36 x37 x38 x39 x40 x41 x42 x43 x44 x45 x46 x47 x48 x49 x50 x51 x52 x53 x54 x55 x56 x57 x58 x59 x60 x61 x62 x63 x64 x65 x66 x67 x68 x69 x70 x71 x72 x73 x74 x75 x76 x77 x78 x79 x80 x81 x82 x83 x84 x85 x86 x87 x88 x89 x90 x91 x92 x93 x94 x95 x96 x97 x98 x99 x100 x101 x102 x103 x104 x105 x106 x107 x108 x109 x110 x111 x112 x113 : Value) (L : Array Bool) (a : Act) (w : World) : Prop :=
  ∃ (b0 b1 b2 b3 b4 b5 b6 b7 b8 b9 b10 b11 b12 b13 : Bool) (g7 g8 : Nat), L = #[b0, b1, b2, b3, b4, b5, b6, b7, b8, b9, b10, b11, b12, b13] ∧ a = { tmps := #[x0, x1, .pointer (some ⟨p, 0, none⟩), .pointer (some ⟨p + 1, 0, none⟩), x4, x5, .int .i64 (k : Int), pkd b10 (.pointer (some ⟨g7, 0, none⟩)) (x7), pkd b11 (.pointer (some ⟨g8, 0, none⟩)) (x8), x9, x10, x11, x12, x13, x14, x15, x16, x17, x18, x19, x20, x21, x22, x23, x24, x25, x26, x27, x28, x29, x30, x31, x32, x33, x34, x35, x36, x37, x38, x39, x40, x41, x42, x43, x44, x45, x46, x47, x48, x49, pkd b0 (.pointer (some ⟨p, 0, none⟩)) (x50), pkd b1 (.slice (some ⟨fb, foff, none⟩) nf fc) (x51), pkd b2 (.int .i64 (k : Int)) (x52), pkd b3 (.pointer (some ⟨fb, foff + k * 5, none⟩)) (x53), pkd b4 (.agg #[.string nm, .int .i64 pa, .int .i64 sl, .int .i64 ca, .slice IA ni ic]) (x54), pkd b5 (.pointer (some ⟨p + 1, 0, none⟩)) (x55), pkd b6 (.slice (some ⟨gb, goff, none⟩) nf fd) (x56), pkd b7 (.int .i64 (k : Int)) (x57), pkd b8 (.pointer (some ⟨gb, goff + k * 5, none⟩)) (x58), pkd b9 (.agg #[.string nm2, .int .i64 pa2, .int .i64 sl2, .int .i64 ca2, .slice IB nj jc]) (x59), x60, x61, x62, x63, x64, x65, x66, x67, x68, x69, x70, x71, x72, x73, x74, x75, x76, x77, x78, x79, x80, x81, x82, x83, x84, x85, x86, x87, x88, x89, x90, x91, x92, x93, x94, x95, x96, x97, x98, x99, x100, x101, x102, x103, x104, x105, x106, x107, x108, x109, x110, x111, x112, x113], defers := [] } ∧ (SmP b10 b11 b12 b13 W g7 g8 #[.string nm, .int .i64 pa, .int .i64 sl, .int .i64 ca, .slice IA ni ic] #[.string nm2, .int .i64 pa2, .int .i64 sl2, .int .i64 ca2, .slice IB nj jc] w)
section
variable (FA TA FB TB : Option Addr) (fc tc fd td : Nat) (K J : KK)
set_option maxHeartbeats 8000000 in
theorem sameCode_any (nf nt mf mt : Nat) (w : World) (hnf : nf = K.funcs.length) (hnt : nt = K.texts.length) (hmf : mf = J.funcs.length) (hmt : mt = J.texts.length) (hk : KR w w.heap.size FA TA K) (hj : KR w w.heap.size FB TB J) :
    Calls Tryz.prog 6 #[.agg #[.slice FA nf fc, .slice TA nt tc], .agg #[.slice FB mf fd, .slice TB mt td]] w fun e w' => (∃ b, e = .returned (.bool b) ∧ (b = true ↔ K = J)) ∧ Below w.heap.size w w' := by
  have HNF := Lib.hid hnf
  have HNT := Lib.hid hnt
  have HMF := Lib.hid hmf
  have HMT := Lib.hid hmt
  have HK := Lib.hid hk
  have HJ := Lib.hid hj
  have hfl : nf ≤ 140737488351232 := by rw [hnf]; exact hk.fl
  have htl : nt ≤ 140737488351232 := by rw [hnt]; exact hk.tl
  clear hnf hnt hmf hmt hk hj
  by_cases h1 : nt = mt
  · by_cases h2 : nf = mf
    · subst h1 h2
      have b1 : ((nt : Int) != (nt : Int)) = false := by simp
      have b2 : ((nf : Int) != (nf : Int)) = false := by simp
      go_enter Tryz.func6, Tryz.ntmps6
      go_wp2_with fail
      generalize hW : (w.alloc (.cells #[.slice FA nf fc, .slice TA nt tc] 25)).alloc (.cells #[.slice FB nf fd, .slice TB nt td] 25) = W
      have HA := Lib.hid (show W.heap[w.heap.size]? = some (.cells #[.slice FA nf fc, .slice TA nt tc] 25 (0, 0)) by subst hW; rw [Lib.alloc_old _ _ _ (by simp)]; exact heap_alloc_new w _)
      have HB := Lib.hid (show W.heap[w.heap.size + 1]? = some (.cells #[.slice FB nf fd, .slice TB nt td] 25 (0, 0)) by subst hW; exact heap_at _ (by simp))
      have HW := Lib.hid (show Below w.heap.size w W by subst hW; exact sq (al _) (al _))
      have hwl : w.heap.size + 1 < W.heap.size := (Array.getElem?_eq_some_iff.1 HB.out).1
      clear hW
      go_loopw [29] (fun v wr => ∃ i : Nat, v = .int .i64 (i : Int) ∧ i ≤ nt ∧ Hid (∀ j, j < i → K.texts[j]? = J.texts[j]?) ∧ Below W.heap.size W wr) (fun v _ => nt - (intOf v).toNat)
      case atStart => exact ⟨0, rfl, by omega, Lib.hid (fun j hj => by omega), Below.refl _ _⟩
      case round =>
        obtain ⟨i, rfl, hin, HOK, hbel⟩ := hrel
        have HBE := Lib.hid hbel
        have HBW := Lib.hid (HW.out.trans (hbel.mono HW.out.size))
        have HAR := Lib.hid ((hbel.block w.heap.size (by omega)).trans HA.out)
        have HBR := Lib.hid ((hbel.block (w.heap.size + 1) hwl).trans HB.out)
        clear hbel
        have p1 : wr.cell? ⟨w.heap.size, 1, none⟩ = some (.slice TA nt tc) := by rw [Lib.cell_of_heap HAR.out]; rfl
        have q1 : wr.cell? ⟨w.heap.size + 1, 1, none⟩ = some (.slice TB nt td) := by rw [Lib.cell_of_heap HBR.out]; rfl
        have p0 : wr.cell? ⟨w.heap.size, 0, none⟩ = some (.slice FA nf fc) := by rw [Lib.cell_of_heap HAR.out]; rfl
        have q0 : wr.cell? ⟨w.heap.size + 1, 0, none⟩ = some (.slice FB nf fd) := by rw [Lib.cell_of_heap HBR.out]; rfl
        by_cases hlt : i < nt
        · have hit : i < K.texts.length := by have := HNT.out; omega
          have hjt : i < J.texts.length := by have := HMT.out; omega
          have hti := List.getElem?_eq_getElem hit
          have htj := List.getElem?_eq_getElem hjt
          obtain ⟨tb, toff, rfl, htb, htc⟩ := text_at (HK.out.into HBW.out).tx hit hti
          obtain ⟨ub, uoff, rfl, hub, huc⟩ := text_at (B := w.heap.size) (A := TB) (T := J.texts) (n := J.texts.length) (HJ.out.into HBW.out).tx hjt htj
          have hlti : (i : Int) < (nt : Int) := by omega
          have HTI := Lib.hid hti
          have HTJ := Lib.hid htj
          generalize K.texts[i] = s at *
          generalize J.texts[i] = t at *
          clear hti htj hit hjt
          by_cases hst : s = t
          · subst hst
            have be : (!(s.toList == s.toList)) = false := by simp
            have HOK2 := Lib.hid (show ∀ j, j < i + 1 → K.texts[j]? = J.texts[j]? from fun j hj => by
              rcases Nat.lt_or_ge j i with h3 | h3
              · exact HOK.out j h3
              · obtain rfl : j = i := by omega
                exact HTI.out.trans HTJ.out.symm)
            go_wp2_with fail
            go_quiet (fail)
            go_wp2_with fail
            go_roundw
            case rel => exact ⟨i + 1, by go_num, by omega, HOK2, dr HBE.out _⟩
            case measure => simp [intOf]; omega
          · have be : (!(s.toList == t.toList)) = true := by
              cases hb : (s.toList == t.toList) with
              | false => rfl
              | true => exact absurd ((str_eq_iff s t).1 hb) hst
            have HNE := Lib.hid (show K ≠ J from fun e => by
              have := HTI.out
              rw [e, HTJ.out] at this
              injection this with this
              exact hst this.symm)
            clear hst
            go_wp2_with fail
            go_quiet (fail)
            go_wp2_with fail
            go_ret
            exact ⟨⟨false, rfl, by simp [HNE.out]⟩, HW.out.trans ((dr HBE.out _).mono HW.out.size)⟩
        · obtain rfl : i = nt := by omega
          have HTX := Lib.hid (show K.texts = J.texts from List.ext_getElem? fun j => by
            rcases Nat.lt_or_ge j i with h3 | h3
            · exact HOK.out j h3
            · rw [List.getElem?_eq_none (by have := HNT.out; omega), List.getElem?_eq_none (by have := HMT.out; omega)])
          go_wp2_with fail
          clear p0 p1 q0 q1 HOK hlt hin HBE
          have HBE := HBW
          obtain ⟨wt, rfl⟩ : ∃ wt : World, wt = wr := ⟨_, rfl⟩
          have HAT := Lib.hid (show wt.heap[w.heap.size]? = some (.cells #[.slice FA nf fc, .slice TA i tc] 25 (0, 0)) from HAR.out)
          have HBT := Lib.hid (show wt.heap[w.heap.size + 1]? = some (.cells #[.slice FB nf fd, .slice TB i td] 25 (0, 0)) from HBR.out)
          have hwt : w.heap.size + 1 < wt.heap.size := (Array.getElem?_eq_some_iff.1 HBT.out).1
          go_loopw [47] (fun v wr => ∃ k : Nat, v = .int .i64 (k : Int) ∧ k ≤ nf ∧ Hid (∀ j, j < k → K.funcs[j]? = J.funcs[j]?) ∧ Below wt.heap.size wt wr) (fun v _ => nf - (intOf v).toNat)
          case atStart => exact ⟨0, rfl, by omega, Lib.hid (fun j hj => by omega), Below.refl _ _⟩
          case round =>
            obtain ⟨k, rfl, hkn, HOK, hbel⟩ := hrel
            have HBQ := Lib.hid hbel
            have HBW := Lib.hid (HBE.out.trans (hbel.mono HBE.out.size))
            have HAR := Lib.hid ((hbel.block w.heap.size (by omega)).trans HAT.out)
            have HBR := Lib.hid ((hbel.block (w.heap.size + 1) hwt).trans HBT.out)
            clear hbel
            have p0 : wr.cell? ⟨w.heap.size, 0, none⟩ = some (.slice FA nf fc) := by rw [Lib.cell_of_heap HAR.out]; rfl
            have q0 : wr.cell? ⟨w.heap.size + 1, 0, none⟩ = some (.slice FB nf fd) := by rw [Lib.cell_of_heap HBR.out]; rfl
            have hwr : w.heap.size + 1 < wr.heap.size := (Array.getElem?_eq_some_iff.1 HBR.out).1
            by_cases hlt : k < nf
            · have hkt : k < K.funcs.length := by have := HNF.out; omega
              have hjt : k < J.funcs.length := by have := HMF.out; omega
              have HFK := Lib.hid (List.getElem?_eq_getElem hkt)
              have HFJ := Lib.hid (List.getElem?_eq_getElem hjt)
              obtain ⟨⟨fb, foff, IA, ic, hFA, hfb, f0, f1, f2, f3, f4, hic, hicm, ess, hri, hai⟩, hbd⟩ := (HK.out.into HBW.out).fn k _ HFK.out
              obtain ⟨⟨gb, goff, IB, jc, hGA, hgb, g0, g1, g2, g3, g4, hjc, hjcm, fss, grj, gaj⟩, gbd⟩ := (HJ.out.into HBW.out).fn k _ HFJ.out
              subst hFA hGA
              have hlti : (k : Int) < (nf : Int) := by omega
              have hfbl : fb < wr.heap.size := Nat.lt_of_lt_of_le hfb HBW.out.size
              have hgbl : gb < wr.heap.size := Nat.lt_of_lt_of_le hgb HBW.out.size
              generalize K.funcs[k] = f at *
              generalize J.funcs[k] = g at *
              have hp : w.heap.size < wr.heap.size := by omega
              have hp1 : w.heap.size + 1 < wr.heap.size := hwr
              have hfb := hfbl
              have hgb := hgbl
              have hpt := pkd_t
              go_wp2_with fail
              refine wp_region_any (by kernel_rfl) ?_
              refine wpAny_inv2 (SmI wr w.heap.size k fb foff gb goff nf fc fd f.ins.length ic g.ins.length jc IA IB f.name g.name f.params f.slots f.caps g.params g.slots g.caps (Value.agg #[Value.slice (some { block := fb, off := foff }) nf fc, Value.slice TA i tc]) (Value.agg #[Value.slice (some { block := gb, off := goff }) nf fd, Value.slice TB i td]) u4 u5 u7 u8 u9 (Value.pointer (some { block := w.heap.size, off := 1 })) (Value.slice TA i tc) (Value.int IntKind.i64 ↑i) (Value.pointer (some { block := w.heap.size + 1, off := 1 })) (Value.slice TB i td) (Value.int IntKind.i64 ↑i) (Value.bool false) (Value.bool false) (Value.pointer (some { block := w.heap.size, off := 0 })) (Value.slice (some { block := fb, off := foff }) nf fc) (Value.int IntKind.i64 ↑nf) (Value.pointer (some { block := w.heap.size + 1, off := 0 })) (Value.slice (some { block := gb, off := goff }) nf fd) (Value.int IntKind.i64 ↑nf) (Value.bool false) (Value.bool false) (Value.pointer (some { block := w.heap.size, off := 1 })) (Value.slice TA i tc) (Value.int IntKind.i64 ↑i) (Value.int IntKind.i64 ↑i) (Value.bool false) u31 u32 u33 u34 u35 u36 u37 u38 u39 u40 u41 u42 u43 (Value.pointer (some { block := w.heap.size, off := 0 })) (Value.slice (some { block := fb, off := foff }) nf fc) (Value.int IntKind.i64 ↑nf) (Value.int IntKind.i64 ↑k) (Value.bool true) (Value.int IntKind.i64 ↑k) u50 u51 u52 u53 u54 u55 u56 u57 u58 u59 u60 u61 u62 u63 u64 u65 u66 u67 u68 u69 u70 u71 u72 u73 u74 u75 u76 u77 u78 u79 u80 u81 u82 u83 u84 u85 u86 u87 u88 u89 u90 u91 u92 u93 u94 u95 u96 u97 u98 u99 u100 u101 u102 u103 u104 u105 u106 u107 u108 u109 u110 u111 u112 u113) ?done ?step _ _ _ _ (by simp) (by simp [left]) ?init (shut_start _ _ _)
              case init => exact ⟨false, false, false, false, false, false, false, false, false, false, false, false, false, false, 0, 0, rfl, rfl, SmP.zero⟩
              case done =>
                rintro L a w' ⟨b0, b1, b2, b3, b4, b5, b6, b7, b8, b9, b10, b11, b12, b13, g7, g8, rfl, rfl, hI⟩ hsh hs hr
                have hno : ∀ i, i ∉ Region.ready Region.Mode.any _ _ := fun i hi => by rw [hr] at hi; cases hi
                have hall : b0 = true ∧ b1 = true ∧ b2 = true ∧ b3 = true ∧ b4 = true ∧ b5 = true ∧ b6 = true ∧ b7 = true ∧ b8 = true ∧ b9 = true ∧ b10 = true ∧ b11 = true ∧ b12 = true ∧ b13 = true := by
                  have q0 := hno 0
                  have q1 := hno 1
                  have q2 := hno 2
                  have q3 := hno 3
                  have q4 := hno 4
                  have q5 := hno 5
                  have q6 := hno 6
                  have q7 := hno 7
                  have q8 := hno 8
                  have q9 := hno 9
                  have q10 := hno 10
                  have q11 := hno 11
                  have q12 := hno 12
                  have q13 := hno 13
                  clear hno hr hs hsh hI
                  simp [Region.ready, List.mem_filter, Region.binds] at q0 q1 q2 q3 q4 q5 q6 q7 q8 q9 q10 q11 q12 q13
                  simp_all
                obtain ⟨rfl, rfl, rfl, rfl, rfl, rfl, rfl, rfl, rfl, rfl, rfl, rfl, rfl, rfl⟩ := hall
                clear hr hs hsh hno
                simp only [pkd_t]
                have HB9 := Lib.hid hI.bel
                have HF7 := Lib.hid (hI.k7 rfl).2
                have HF8 := Lib.hid (hI.k8 rfl).2
                have hg7 : g7 < w'.heap.size := (Array.getElem?_eq_some_iff.1 (hI.k7 rfl).2).1
                have hg8 : g8 < w'.heap.size := (Array.getElem?_eq_some_iff.1 (hI.k8 rfl).2).1
                have HRI := Lib.hid hri
                have HAI := Lib.hid hai
                have HRJ := Lib.hid grj
                have HAJ := Lib.hid gaj
                clear hI hpt f0 f1 f2 f3 f4 g0 g1 g2 g3 g4 p0 q0 hp hp1 hfb hgb hri hai grj gaj hic hicm hjc hjcm hbd gbd
                obtain ⟨wm, rfl⟩ : ∃ wm : World, wm = w' := ⟨_, rfl⟩
                have t0 : wm.cell? ⟨g7, 0, none⟩ = some (.string f.name) := by rw [Lib.cell_of_heap HF7.out]; rfl
                have t1 : wm.cell? ⟨g7, 1, none⟩ = some (.int .i64 f.params) := by rw [Lib.cell_of_heap HF7.out]; rfl
                have t2 : wm.cell? ⟨g7, 2, none⟩ = some (.int .i64 f.slots) := by rw [Lib.cell_of_heap HF7.out]; rfl
                have t3 : wm.cell? ⟨g7, 3, none⟩ = some (.int .i64 f.caps) := by rw [Lib.cell_of_heap HF7.out]; rfl
                have t4 : wm.cell? ⟨g7, 4, none⟩ = some (.slice IA f.ins.length ic) := by rw [Lib.cell_of_heap HF7.out]; rfl
                have s0 : wm.cell? ⟨g8, 0, none⟩ = some (.string g.name) := by rw [Lib.cell_of_heap HF8.out]; rfl
                have s1 : wm.cell? ⟨g8, 1, none⟩ = some (.int .i64 g.params) := by rw [Lib.cell_of_heap HF8.out]; rfl
                have s2 : wm.cell? ⟨g8, 2, none⟩ = some (.int .i64 g.slots) := by rw [Lib.cell_of_heap HF8.out]; rfl
                have s3 : wm.cell? ⟨g8, 3, none⟩ = some (.int .i64 g.caps) := by rw [Lib.cell_of_heap HF8.out]; rfl
                have s4 : wm.cell? ⟨g8, 4, none⟩ = some (.slice IB g.ins.length jc) := by rw [Lib.cell_of_heap HF8.out]; rfl
                have HNE := Lib.hid (show f ≠ g → K ≠ J from fun h e => h (by
                  have := HFK.out
                  rw [e, HFJ.out] at this
                  injection this with this
                  exact this.symm))
                have HBW9 := Lib.hid (HBW.out.trans (HB9.out.mono HBW.out.size))
                rcases fn_cases f g with ⟨c0, hne⟩ | ⟨c0, c1, hne⟩ | ⟨c0, c1, c2, hne⟩ | ⟨c0, c1, c2, c3, hne⟩ | ⟨c0, c1, c2, c3, c4, hne⟩ | ⟨c0, c1, c2, c3, c4, hlen, heq⟩
                case inr.inr.inr.inr.inr =>
                  have HEQ := Lib.hid heq
                  have HLEN := Lib.hid hlen
                  clear heq
                  have HIL := Lib.hid (HK.out.il f (List.mem_of_getElem? HFK.out))
                  obtain ⟨ni, hni⟩ : ∃ ni, ni = f.ins.length := ⟨_, rfl⟩
                  rw [← hni] at t4 HRI HLEN HIL
                  rw [← hlen, ← hni] at s4 HRJ c4
                  rw [← hlen, ← hni]
                  have hniB := HIL.out
                  have HNI := Lib.hid hni
                  clear hni hlen
                  go_wp2_with fail
                  clear t0 t1 t2 t3 s0 s1 s2 s3 c0 c1 c2 c3 c4
                  go_loopw [98] (fun v wq => ∃ m : Nat, v = .int .i64 (m : Int) ∧ m ≤ ni ∧ Hid (∀ j, j < m → f.ins[j]? = g.ins[j]?) ∧ Below wm.heap.size wm wq) (fun v _ => ni - (intOf v).toNat)
                  case atStart => exact ⟨0, rfl, by omega, Lib.hid (fun j hj => by omega), Below.refl _ _⟩
                  case round =>
                    obtain ⟨m, rfl, hmn, HOKI, hbq⟩ := hrel
                    have HBM := Lib.hid hbq
                    have r4 := (hbq.cell (p := ⟨g7, 4, none⟩) hg7).trans t4
                    have v4 := (hbq.cell (p := ⟨g8, 4, none⟩) hg8).trans s4
                    clear hbq
                    by_cases hlt5 : m < ni
                    · have hki : (m : Int) < (ni : Int) := by omega
                      have hk1 : m < f.ins.length := by have := HNI.out; omega
                      have hk2 : m < g.ins.length := by have := HLEN.out; omega
                      have HX := Lib.hid (List.getElem?_eq_getElem hk1)
                      have HY := Lib.hid (List.getElem?_eq_getElem hk2)
                      have HKE := Lib.hid (fun (p : Addr) (hp : p.block < w.heap.size) => show wr.cell? p = _ from ((HBM.out.cell (Nat.lt_of_lt_of_le hp HBW9.out.size)).trans (HB9.out.cell (Nat.lt_of_lt_of_le hp HBW.out.size))))
                      obtain ⟨ib, ioff, rfl, hib, e0, e1, e2, e3, e4, e5⟩ := ins_at (HRI.out.keep (w' := wr) HKE.out) (HAI.out.keep (w' := wr) HKE.out) HNI.out HX.out
                      obtain ⟨jb, joff, rfl, hjb, d0, d1, d2, d3, d4, d5⟩ := ins_at (HRJ.out.keep (w' := wr) HKE.out) (HAJ.out.keep (w' := wr) HKE.out) HLEN.out HY.out
                      generalize f.ins[m] = x at *
                      generalize g.ins[m] = y at *
                      obtain ⟨x0, x1, x2, x3, x4, x5⟩ := x
                      obtain ⟨y0, y1, y2, y3, y4, y5⟩ := y
                      simp only at e0 e1 e2 e3 e4 e5 d0 d1 d2 d3 d4 d5
                      have hnq := fun w => sm_neq x0 x1 x2 x3 x4 x5 y0 y1 y2 y3 y4 y5 w
                      by_cases hxy : x0 = y0 ∧ x1 = y1 ∧ x2 = y2 ∧ x3 = y3 ∧ x4 = y4 ∧ x5 = y5
                      · rw [decide_eq_true hxy] at hnq
                        simp only [Bool.not_true] at hnq
                        have HOK2 := Lib.hid (show ∀ j, j < m + 1 → f.ins[j]? = g.ins[j]? from fun j hj => by
                          rcases Nat.lt_or_ge j m with h3 | h3
                          · exact HOKI.out j h3
                          · obtain rfl : j = m := by omega
                            rw [HX.out, HY.out]
                            obtain ⟨rfl, rfl, rfl, rfl, rfl, rfl⟩ := hxy
                            rfl)
                        clear hxy
                        go_wp2_with fail
                        go_quiet (fail)
                        go_wp2_with fail
                        go_roundw
                        case rel => exact ⟨m + 1, by go_num, by omega, HOK2, dr HBM.out _⟩
                        case measure => simp [intOf]; omega
                      · rw [decide_eq_false hxy] at hnq
                        simp only [Bool.not_false] at hnq
                        have HN := Lib.hid (HNE.out (fun e => hxy (by
                          have := HX.out
                          rw [e, HY.out] at this
                          injection this with this
                          injection this with a0 a1 a2 a3 a4 a5
                          exact ⟨a0.symm, a1.symm, a2.symm, a3.symm, a4.symm, a5.symm⟩)))
                        clear hxy
                        go_wp2_with fail
                        go_quiet (fail)
                        go_wp2_with fail
                        go_ret
                        exact ⟨⟨false, rfl, by simp [HN.out]⟩, HBW9.out.trans ((dr HBM.out _).mono HBW9.out.size)⟩
                    · obtain rfl : m = ni := by omega
                      have HFE := Lib.hid (HEQ.out (List.ext_getElem? fun j => by
                        rcases Nat.lt_or_ge j m with h3 | h3
                        · exact HOKI.out j h3
                        · rw [List.getElem?_eq_none (by have := HNI.out; omega), List.getElem?_eq_none (by have := HLEN.out; omega)]))
                      have HOK2 := Lib.hid (show ∀ j, j < k + 1 → K.funcs[j]? = J.funcs[j]? from fun j hj => by
                        rcases Nat.lt_or_ge j k with h3 | h3
                        · exact HOK.out j h3
                        · obtain rfl : j = k := by omega
                          rw [HFK.out, HFJ.out, HFE.out])
                      go_wp2_with fail
                      go_roundw
                      case rel => exact ⟨k + 1, by go_num, by omega, HOK2, HBQ.out.trans ((HB9.out.trans (HBM.out.mono HB9.out.size)).mono HBQ.out.size)⟩
                      case measure => simp [intOf]; omega
                all_goals
                  have HN := Lib.hid (HNE.out hne)
                  clear hne
                  go_wp2_with fail
                  go_ret
                  exact ⟨⟨false, rfl, by simp [HN.out]⟩, HBW9.out⟩
              case step =>
                rintro L a w' i ⟨b0, b1, b2, b3, b4, b5, b6, b7, b8, b9, b10, b11, b12, b13, g7, g8, rfl, rfl, hI⟩ hsh hs hi
                have hi16 := (ready_mem hi).1
                simp only [List.size_toArray, List.length_cons, List.length_nil] at hi16
                obtain rfl | rfl | rfl | rfl | rfl | rfl | rfl | rfl | rfl | rfl | rfl | rfl | rfl | rfl : i = 0 ∨ i = 1 ∨ i = 2 ∨ i = 3 ∨ i = 4 ∨ i = 5 ∨ i = 6 ∨ i = 7 ∨ i = 8 ∨ i = 9 ∨ i = 10 ∨ i = 11 ∨ i = 12 ∨ i = 13 := by omega
                · simp [Region.ready, List.mem_filter, Region.binds] at hi
                  have hall : b0 = false := by simp [hi]
                  clear hi
                  subst hall
                  clear hs hi16 hsh
                  refine wpOp_run rfl rfl ?_
                  go_simp
                  exact ⟨true, b1, b2, b3, b4, b5, b6, b7, b8, b9, b10, b11, b12, b13, g7, g8, rfl, rfl, hI⟩
                · simp [Region.ready, List.mem_filter, Region.binds] at hi
                  have hall : b1 = false ∧ b0 = true := by simp [hi]
                  clear hi
                  obtain ⟨rfl, rfl⟩ := hall
                  clear hs hi16 hsh
                  have r0 := (hI.bel.cell (p := ⟨w.heap.size, 0, none⟩) hp).trans p0
                  refine wpOp_run rfl rfl ?_
                  go_simp
                  exact ⟨true, true, b2, b3, b4, b5, b6, b7, b8, b9, b10, b11, b12, b13, g7, g8, rfl, rfl, hI⟩
                · simp [Region.ready, List.mem_filter, Region.binds] at hi
                  have hall : b2 = false := by simp [hi]
                  clear hi
                  subst hall
                  clear hs hi16 hsh
                  refine wpOp_run rfl rfl ?_
                  go_simp
                  exact ⟨b0, b1, true, b3, b4, b5, b6, b7, b8, b9, b10, b11, b12, b13, g7, g8, rfl, rfl, hI⟩
                · simp [Region.ready, List.mem_filter, Region.binds] at hi
                  have hall : b3 = false ∧ b1 = true ∧ b2 = true := by simp [hi]
                  clear hi
                  obtain ⟨rfl, rfl, rfl⟩ := hall
                  clear hs hi16 hsh
                  refine wpOp_run rfl rfl ?_
                  go_simp
                  exact ⟨b0, true, true, true, b4, b5, b6, b7, b8, b9, b10, b11, b12, b13, g7, g8, rfl, rfl, hI⟩
                · simp [Region.ready, List.mem_filter, Region.binds] at hi
                  have hall : b4 = false ∧ b3 = true := by simp [hi]
                  clear hi
                  obtain ⟨rfl, rfl⟩ := hall
                  clear hs hi16 hsh
                  have r0 := (hI.bel.cell (p := ⟨fb, foff + k * 5, none⟩) hfb).trans f0
                  have r1 := (hI.bel.cell (p := ⟨fb, foff + k * 5 + 1, none⟩) hfb).trans f1
                  have r2 := (hI.bel.cell (p := ⟨fb, foff + k * 5 + 2, none⟩) hfb).trans f2
                  have r3 := (hI.bel.cell (p := ⟨fb, foff + k * 5 + 3, none⟩) hfb).trans f3
                  have r4 := (hI.bel.cell (p := ⟨fb, foff + k * 5 + 4, none⟩) hfb).trans f4
                  refine wpOp_run rfl rfl ?_
                  go_simp
                  exact ⟨b0, b1, b2, true, true, b5, b6, b7, b8, b9, b10, b11, b12, b13, g7, g8, rfl, rfl, hI⟩
                · simp [Region.ready, List.mem_filter, Region.binds] at hi
                  have hall : b5 = false := by simp [hi]
                  clear hi
                  subst hall
                  clear hs hi16 hsh
                  refine wpOp_run rfl rfl ?_
                  go_simp
                  exact ⟨b0, b1, b2, b3, b4, true, b6, b7, b8, b9, b10, b11, b12, b13, g7, g8, rfl, rfl, hI⟩
                · simp [Region.ready, List.mem_filter, Region.binds] at hi
                  have hall : b6 = false ∧ b5 = true := by simp [hi]
                  clear hi
                  obtain ⟨rfl, rfl⟩ := hall
                  clear hs hi16 hsh
                  have r0 := (hI.bel.cell (p := ⟨w.heap.size + 1, 0, none⟩) hp1).trans q0
                  refine wpOp_run rfl rfl ?_
                  go_simp
                  exact ⟨b0, b1, b2, b3, b4, true, true, b7, b8, b9, b10, b11, b12, b13, g7, g8, rfl, rfl, hI⟩
                · simp [Region.ready, List.mem_filter, Region.binds] at hi
                  have hall : b7 = false := by simp [hi]
                  clear hi
                  subst hall
                  clear hs hi16 hsh
                  refine wpOp_run rfl rfl ?_
                  go_simp
                  exact ⟨b0, b1, b2, b3, b4, b5, b6, true, b8, b9, b10, b11, b12, b13, g7, g8, rfl, rfl, hI⟩
                · simp [Region.ready, List.mem_filter, Region.binds] at hi
                  have hall : b8 = false ∧ b6 = true ∧ b7 = true := by simp [hi]
                  clear hi
                  obtain ⟨rfl, rfl, rfl⟩ := hall
                  clear hs hi16 hsh
                  refine wpOp_run rfl rfl ?_
                  go_simp
                  exact ⟨b0, b1, b2, b3, b4, b5, true, true, true, b9, b10, b11, b12, b13, g7, g8, rfl, rfl, hI⟩
                · simp [Region.ready, List.mem_filter, Region.binds] at hi
                  have hall : b9 = false ∧ b8 = true := by simp [hi]
                  clear hi
                  obtain ⟨rfl, rfl⟩ := hall
                  clear hs hi16 hsh
                  have r0 := (hI.bel.cell (p := ⟨gb, goff + k * 5, none⟩) hgb).trans g0
                  have r1 := (hI.bel.cell (p := ⟨gb, goff + k * 5 + 1, none⟩) hgb).trans g1
                  have r2 := (hI.bel.cell (p := ⟨gb, goff + k * 5 + 2, none⟩) hgb).trans g2
                  have r3 := (hI.bel.cell (p := ⟨gb, goff + k * 5 + 3, none⟩) hgb).trans g3
                  have r4 := (hI.bel.cell (p := ⟨gb, goff + k * 5 + 4, none⟩) hgb).trans g4
                  refine wpOp_run rfl rfl ?_
                  go_simp
                  exact ⟨b0, b1, b2, b3, b4, b5, b6, b7, true, true, b10, b11, b12, b13, g7, g8, rfl, rfl, hI⟩
                · simp [Region.ready, List.mem_filter, Region.binds] at hi
                  have hall : b10 = false := by simp [hi]
                  clear hi
                  subst hall
                  have z12 : b12 = false := by
                    have q := hsh 12 _ rfl
                    simp [Region.binds] at q
                    cases b12
                    · rfl
                    · simp at q
                  subst z12
                  clear hs hi16 hsh
                  refine wpOp_run rfl rfl ?_
                  go_simp
                  exact ⟨b0, b1, b2, b3, b4, b5, b6, b7, b8, b9, true, b11, false, b13, w'.heap.size, g8, rfl, rfl, hI.al7⟩
                · simp [Region.ready, List.mem_filter, Region.binds] at hi
                  have hall : b11 = false := by simp [hi]
                  clear hi
                  subst hall
                  have z13 : b13 = false := by
                    have q := hsh 13 _ rfl
                    simp [Region.binds] at q
                    cases b13
                    · rfl
                    · simp at q
                  subst z13
                  clear hs hi16 hsh
                  refine wpOp_run rfl rfl ?_
                  go_simp
                  exact ⟨b0, b1, b2, b3, b4, b5, b6, b7, b8, b9, b10, true, b12, false, g7, w'.heap.size, rfl, rfl, hI.al8⟩
                · simp [Region.ready, List.mem_filter, Region.binds] at hi
                  have hall : b12 = false ∧ b10 = true ∧ b4 = true := by simp [hi]
                  clear hi
                  obtain ⟨rfl, rfl, rfl⟩ := hall
                  clear hs hi16 hsh
                  refine wpOp_run rfl rfl (wp_storeAt 44 (.tmp 7) (.tmp 54) rfl rfl (store_fn _ g7 _ #[.string f.name, .int .i64 f.params, .int .i64 f.slots, .int .i64 f.caps, .slice IA f.ins.length ic] hI.h7 rfl rfl (by simp [Value.oneCell'])) ?_)
                  exact ⟨b0, b1, b2, b3, true, b5, b6, b7, b8, b9, true, b11, true, b13, g7, g8, rfl, rfl, hI.st7⟩
                · simp [Region.ready, List.mem_filter, Region.binds] at hi
                  have hall : b13 = false ∧ b11 = true ∧ b9 = true ∧ b12 = true := by simp [hi]
                  clear hi
                  obtain ⟨rfl, rfl, rfl, rfl⟩ := hall
                  clear hs hi16 hsh
                  refine wpOp_run rfl rfl (wp_storeAt 44 (.tmp 8) (.tmp 59) rfl rfl (store_fn _ g8 _ #[.string g.name, .int .i64 g.params, .int .i64 g.slots, .int .i64 g.caps, .slice IB g.ins.length jc] hI.h8 rfl rfl (by simp [Value.oneCell'])) ?_)
                  exact ⟨b0, b1, b2, b3, b4, b5, b6, b7, b8, true, b10, true, true, true, g7, g8, rfl, rfl, hI.st8⟩
            · obtain rfl : k = nf := by omega
              have HFX := Lib.hid (show K.funcs = J.funcs from List.ext_getElem? fun j => by
                rcases Nat.lt_or_ge j k with h3 | h3
                · exact HOK.out j h3
                · rw [List.getElem?_eq_none (by have := HNF.out; omega), List.getElem?_eq_none (by have := HMF.out; omega)])
              have HE := Lib.hid (show K = J by cases K; cases J; simp only at HTX HFX; rw [KK.mk.injEq]; exact ⟨HFX.out, HTX.out⟩)
              go_wp2_with fail
              go_ret
              exact ⟨⟨true, rfl, by simp [HE.out]⟩, HBW.out⟩
    · have b1 : ((nt : Int) != (mt : Int)) = false := by simp [h1]
      have b2 : ((nf : Int) != (mf : Int)) = true := by simp; omega
      have HNE := Lib.hid (show K ≠ J from fun e => h2 (by rw [HNF.out, HMF.out, e]))
      clear h1 h2
      go_enter Tryz.func6, Tryz.ntmps6
      go_wp2_with fail
      go_ret
      exact ⟨⟨false, rfl, by simp [HNE.out]⟩, sq (al _) (al _)⟩
  · have b1 : ((nt : Int) != (mt : Int)) = true := by simp; omega
    have HNE := Lib.hid (show K ≠ J from fun e => h1 (by rw [HNT.out, HMT.out, e]))
    clear h1
    go_enter Tryz.func6, Tryz.ntmps6
    go_wp2_with fail
    go_ret
    exact ⟨⟨false, rfl, by simp [HNE.out]⟩, sq (al _) (al _)⟩
end
end Go.Proofs.YtjegfimagjmpdaaGreatDoor
