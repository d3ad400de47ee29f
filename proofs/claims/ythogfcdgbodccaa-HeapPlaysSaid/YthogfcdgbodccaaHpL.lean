/- The heap's 'mark': the blocks that cells lead to. Conditions: none. -/
import Derived.Test.YthogfcdgbodccaaHpK
import Derived.WalkSmall
set_option maxRecDepth 100000
namespace Go.Proofs.Ythogfcdgbodccaa
open Go.ChangeShapes Go.WideShapes Go.ChangeAt Go.RowKit
def unV : Value := .agg #[]
/-- What the map tells of the blocks that were met. -/
structure SeenM (w : World) (m : Nat) (l : List (Int × Value)) : Prop where
  map : MapIs w m l
  unit : ∀ k v, getM l k = some v → v = .agg #[]
def seenA (l : List (Int × Value)) (a : Nat) : Prop := (getM l (a : Int)).isSome = true
def lenV : Value → Nat
  | .slice _ n _ => n
  | _ => 0
/-- The search's state at the loop's head. -/
structure MkI (w wr : World) (bs : List BK) (roots : List (Int × Int)) (A : Option Addr) (n c : Nat) (l : List (Int × Value)) (work : List (Int × Int)) : Prop where
  seen : SeenM wr w.heap.size l
  row : wr.ownsRow w.heap.size 36 2 (.slice A n c) n (ceL work)
  wk : Wk 6 bs roots (seenA l) work
  len : work.length = n
  bound : n + muB (fun a => (getM l (a : Int)).isSome) bs ≤ roots.length + muB (fun _ => false) bs
  bel : Below w.heap.size w wr
def muW (w : World) (m : Nat) (bs : List BK) : Nat := muB (fun a => mapHas w m (a : Int)) bs
theorem muW_of {w : World} {m : Nat} {l : List (Int × Value)} {bs : List BK} (h : MapIs w m l) : muW w m bs = muB (fun a => (getM l (a : Int)).isSome) bs := by
  unfold muW
  congr 1
  funext a
  exact mapHas_of h a
theorem ceL_app (a b : List (Int × Int)) : ceL (a ++ b) = ceL a ++ ceL b := by simp [ceL]
/-- The last cell of the work that is left. -/
theorem MkI.last {w wr : World} {bs : List BK} {roots : List (Int × Int)} {A : Option Addr} {n c : Nat} {l : List (Int × Value)} {work : List (Int × Int)} (h : MkI w wr bs roots A (n + 1) c l work) : ∃ g x rest, A = some ⟨g, 0, none⟩ ∧ work = rest ++ [x] ∧ rest.length = n ∧ wr.cell? ⟨g, n * 2, none⟩ = some (.int .i64 x.1) ∧ wr.cell? ⟨g, n * 2 + 1, none⟩ = some (.int .i64 x.2) ∧ w.heap.size ≤ g ∧ g < wr.heap.size ∧ wr.ownsRow w.heap.size 36 2 (.slice A n c) n (ceL rest) := by
  obtain ⟨g, c', e, _⟩ := h.row.form (by omega)
  injection e with e1 e2 e3
  subst e1 e3
  obtain ⟨rest, x, hx, hl⟩ : ∃ rest x, work = rest ++ [x] ∧ rest.length = n := by
    have hne : work ≠ [] := fun e => by have := h.len; rw [e] at this; simp at this
    refine ⟨work.dropLast, work.getLast hne, (List.dropLast_concat_getLast hne).symm, by rw [List.length_dropLast, h.len]; omega⟩
  have hr := h.row
  have hq : work[n]? = some x := by rw [hx, List.getElem?_append_right (by omega), hl, Nat.sub_self]; rfl
  have q0 := own_cellC hr (k := n * 2 + 0) (u := .int .i64 x.1) (by rw [ceL_get hq (by omega)]; rfl)
  have q1 := own_cellC hr (k := n * 2 + 1) (u := .int .i64 x.2) (by rw [ceL_get hq (by omega)]; rfl)
  refine ⟨g, x, rest, rfl, hx, hl, q0.1, q1.1, q0.2.2.1, q0.2.2.2, ?_⟩
  rw [hx, ceL_app] at hr
  exact ownsRow_pop (by rw [ceL_len, hl]) hr
/-- Plain: what the search knows when nothing is left. -/
theorem MkI.stop {w wr : World} {bs : List BK} {roots : List (Int × Int)} {A : Option Addr} {c : Nat} {l : List (Int × Value)} {work : List (Int × Int)} (h : MkI w wr bs roots A 0 c l work) (a : Nat) : seenA l a ↔ Led 6 bs roots a := by
  have e := List.eq_nil_of_length_eq_zero h.len
  have hw := h.wk
  rw [e] at hw
  exact hw.stop a
theorem MkI.mv {w wr w' : World} {bs : List BK} {roots : List (Int × Int)} {A : Option Addr} {n c : Nat} {l : List (Int × Value)} {work : List (Int × Int)} (h : MkI w wr bs roots A n c l work) (hb : Below wr.heap.size wr w') : MkI w w' bs roots A n c l work :=
  ⟨⟨h.seen.map.keepM (hb.block _ h.seen.map.lt), h.seen.unit⟩, own_below h.row hb, h.wk, h.len, h.bound, h.bel.trans (hb.mono h.bel.size)⟩
theorem MkI.skip {w wr : World} {bs : List BK} {roots : List (Int × Int)} {A : Option Addr} {q c : Nat} {l : List (Int × Value)} {work rest : List (Int × Int)} {x : Int × Int} (h : MkI w wr bs roots A (q + 1) c l work) (he : work = rest ++ [x]) (hl : rest.length = q) (hrow : wr.ownsRow w.heap.size 36 2 (.slice A q c) q (ceL rest)) (hx : ∀ a : Nat, x = (6, (a : Int)) → (blkAt bs a).isSome → seenA l a) : MkI w wr bs roots A q c l rest := by
  subst he
  have hb := h.bound
  exact ⟨h.seen, hrow, h.wk.skip hx, hl, by omega, h.bel⟩
theorem seen_set {l : List (Int × Value)} {a : Nat} {v : Value} (c : Nat) : (getM (setM l (a : Int) v) (c : Int)).isSome = (c == a || (getM l (c : Int)).isSome) := by
  rw [getM_setM]
  by_cases h : c = a
  · subst h
    simp
  · have h1 : ¬ ((a : Int) = (c : Int)) := by omega
    have h2 : (c == a) = false := by simpa using h
    rw [if_neg h1, h2, Bool.false_or]
theorem MkI.take {w wr w' : World} {lo : Nat} {bs : List BK} {room : Nat} {roots : List (Int × Int)} {A A' : Option Addr} {q c c' a : Nat} {l : List (Int × Value)} {work rest : List (Int × Int)} {b : BK} (h : MkI w wr bs roots A (q + 1) c l work) (hf : FitB lo bs room) (he : work = rest ++ [(6, (a : Int))]) (hl : rest.length = q) (hb : blkAt bs a = some b) (hs : getM l (a : Int) = none)
    (hm : MapIs w' w.heap.size (setM l (a : Int) (.agg #[]))) (hrow : w'.ownsRow w.heap.size 36 2 (.slice A' (q + b.cells.length) c') (q + b.cells.length) (ceL rest ++ ceL b.cells)) (hbl : Below w.heap.size w w') : MkI w w' bs roots A' (q + b.cells.length) c' (setM l (a : Int) (.agg #[])) (rest ++ b.cells) := by
  subst he
  have hbd := h.bound
  have e1 : (fun c : Nat => (getM (setM l (a : Int) (.agg #[])) (c : Int)).isSome) = fun c => c == a || (fun c : Nat => (getM l (c : Int)).isSome) c := by
    funext c
    exact seen_set c
  have hmu : muB (fun c => c == a || (getM l (c : Int)).isSome) bs + (b.cells.length + 1) = muB (fun c : Nat => (getM l (c : Int)).isSome) bs := muB_take hf (s := fun c : Nat => (getM l (c : Int)).isSome) hb (by simp only [hs]; rfl)
  refine ⟨⟨hm, fun k v hv => ?_⟩, by rw [ceL_app]; exact hrow, ?_, by rw [List.length_append, hl], ?_, hbl⟩
  · rw [getM_setM] at hv
    split at hv
    · injection hv with hv; exact hv.symm
    · exact h.seen.unit k v hv
  · have e2 : seenA (setM l (a : Int) (.agg #[])) = fun c => c = a ∨ seenA l c := by
      funext c
      apply propext
      unfold seenA
      rw [seen_set]
      simp
    rw [e2]
    exact h.wk.take hb
  · rw [e1]
    simp only
    omega
theorem MkI.mu {w wr : World} {bs : List BK} {roots : List (Int × Int)} {A : Option Addr} {n c : Nat} {l : List (Int × Value)} {work : List (Int × Int)} (h : MkI w wr bs roots A n c l work) : muW wr w.heap.size bs = muB (fun a => (getM l (a : Int)).isSome) bs := muW_of h.seen.map
theorem MkI.less {w wr w' : World} {bs : List BK} {roots : List (Int × Int)} {A A' : Option Addr} {n c n' c' : Nat} {l l' : List (Int × Value)} {work work' : List (Int × Int)} (h : MkI w wr bs roots A n c l work) (h' : MkI w w' bs roots A' n' c' l' work') (hlt : n' + muB (fun a => (getM l' (a : Int)).isSome) bs < n + muB (fun a => (getM l (a : Int)).isSome) bs) : lenV (.slice A' n' c') + muW w' w.heap.size bs < lenV (.slice A n c) + muW wr w.heap.size bs := by
  rw [h.mu, h'.mu]
  exact hlt
theorem MkI.takeLess {w wr w' : World} {lo : Nat} {bs : List BK} {room : Nat} {roots : List (Int × Int)} {A A' : Option Addr} {q c c' a : Nat} {l : List (Int × Value)} {work rest : List (Int × Int)} {b : BK} (h : MkI w wr bs roots A (q + 1) c l work) (hf : FitB lo bs room) (hb : blkAt bs a = some b) (hs : getM l (a : Int) = none) (h' : MkI w w' bs roots A' (q + b.cells.length) c' (setM l (a : Int) (.agg #[])) (rest ++ b.cells)) : lenV (.slice A' (q + b.cells.length) c') + muW w' w.heap.size bs < lenV (.slice A (q + 1) c) + muW wr w.heap.size bs := by
  refine MkI.less h h' ?_
  have hmu : muB (fun c => c == a || (getM l (c : Int)).isSome) bs + (b.cells.length + 1) = muB (fun c : Nat => (getM l (c : Int)).isSome) bs := muB_take hf (s := fun c : Nat => (getM l (c : Int)).isSome) hb (by simp only [hs]; rfl)
  have e1 : (fun c : Nat => (getM (setM l (a : Int) (.agg #[])) (c : Int)).isSome) = fun c => c == a || (getM l (c : Int)).isSome := by
    funext c
    exact seen_set c
  rw [e1]
  omega
theorem map_ne_own {w : World} {m g n c size base : Nat} {e : TypeId} {l : List (Int × Value)} {xs : List Value} (h : MapIs w m l) (ho : w.ownsRow base e size (.slice (some ⟨g, 0, none⟩) n c) n xs) : m ≠ g := by
  intro e'
  obtain ⟨es, cl, hb, _⟩ := h
  obtain ⟨cur, hc⟩ := own_ty (b := g) ho rfl
  rw [e', hc] at hb
  cases hb
/-- The cells of a block, as a part of the heap's row. -/
theorem HPc.rdB {w : World} {base P room : Nat} {bs : List BK} {cells : List (Int × Int)} {shapes : List Int} {zv sv : Value} {C n0 a : Nat} {b : BK} (h : HPc w base P room bs cells shapes (.slice (some ⟨C, 0, none⟩) room n0) zv sv) (hb : blkAt bs a = some b) (AX : Option Addr) (hA : AX = some ⟨C, (a + 1) * 2, none⟩ ∨ b.cells.length = 0) : Rd w w.heap.size 2 AX b.cells.length (ceL b.cells) := by
  obtain ⟨hm, he⟩ := blkAt_mem hb
  refine ⟨ceL_len _, fun h0 => ?_⟩
  rcases hA with rfl | hA
  · refine ⟨C, (a + 1) * 2, rfl, (h.cel.lt C rfl).2, fun j u hu => ?_⟩
    have hj : j < b.cells.length * 2 := by have := (List.getElem?_eq_some_iff.1 hu).1; rwa [ceL_len] at this
    have hjq : j = j / 2 * 2 + j % 2 := by omega
    obtain ⟨c, hc⟩ : ∃ c, b.cells[j / 2]? = some c := ⟨_, List.getElem?_eq_getElem (by omega)⟩
    have hcc : cells[a + 1 + j / 2]? = some c := by rw [← he, h.row.cel b hm (j / 2) (by omega)]; exact hc
    rw [hjq, ceL_get hc (by omega)] at hu
    have := own_cellC h.cel (k := (a + 1 + j / 2) * 2 + j % 2) (u := u) (by rw [ceL_get hcc (by omega)]; exact hu)
    have e : (a + 1) * 2 + j = (a + 1 + j / 2) * 2 + j % 2 := by omega
    rw [e]
    exact this.1
  · omega
set_option maxHeartbeats 8000000 in
theorem mark_any {w : World} {P room : Nat} {bs : List BK} {cells : List (Int × Int)} {shapes : List Int} {cv zv sv : Value} (h : HPc w 0 P room bs cells shapes cv zv sv) (h63 : room ≤ 4000) (A : Option Addr) (n c : Nat) (roots : List (Int × Int)) (hr : Rd w w.heap.size 2 A n (ceL roots)) (hn : n = roots.length) (hn2 : n * 16 ≤ 140737488351232) :
    Calls Try.prog 38 #[.pointer (some ⟨P, 0, none⟩), .slice A n c] w fun e w' => ∃ l, e = .returned (.map (some w.heap.size)) ∧ SeenM w' w.heap.size l ∧ (∀ a, seenA l a ↔ Led 6 bs roots a) ∧ Below w.heap.size w w' := by
  have HC := Lib.hid h
  have HR := Lib.hid hr
  have HN := Lib.hid hn
  have HMU := Lib.hid (show muB (fun _ => false) bs ≤ 4000 by
    have h1 := usedB_le h.fit
    have h2 : ∀ bs : List BK, muB (fun _ => false) bs = usedB bs := fun bs => by
      induction bs with
      | nil => rfl
      | cons b bs ih => show (b.cells.length + 1) + muB (fun _ => false) bs = (b.cells.length + 1) + usedB bs; rw [ih]
    rw [h2]; omega)
  have hmm := @run_makeMap Try.prog
  clear h hr hn
  go_enter Try.func38, Try.ntmps38
  go_wp2_with fail
  refine Calls.mono (clone_any A n c roots _ (HR.out.into (Nat.le_refl _) (al _)) hn2) ?_
  rintro e w1 ⟨A1, c1, rfl, hown1, hb1⟩
  have HI0 := Lib.hid (show MkI w w1 bs roots A1 n c1 [] roots from ⟨⟨(MapIs.made w).keepM (hb1.block _ (by simp)), fun k v e => by cases e⟩, own_base hown1 (by simp), by
    have : seenA [] = fun _ => False := by funext a; simp [seenA, getM]
    rw [this]
    exact Wk.start, HN.out.symm, by rw [HN.out]; exact Nat.le_refl _, sq (al _) hb1⟩)
  clear hown1 hb1
  go_wp2_with fail
  go_loopw [6] (fun v wr => ∃ (A : Option Addr) (q cq : Nat) (l : List (Int × Value)) (work : List (Int × Int)), v = .slice A q cq ∧ Hid (MkI w wr bs roots A q cq l work)) (fun v wr => lenV v + muW wr w.heap.size bs)
  case atStart => exact ⟨A1, n, c1, [], roots, rfl, HI0⟩
  case round =>
    obtain ⟨A, q, cq, l, work, rfl, HI⟩ := hrel
    rcases q with _ | q
    · go_wp2_with fail
      go_ret
      exact ⟨l, rfl, HI.out.seen, HI.out.stop, HI.out.bel⟩
    · obtain ⟨g, x, rest, rfl, hwx, hrl, e0, e1, hg, hgl, hrow⟩ := HI.out.last
      obtain ⟨xt, xk⟩ := x
      simp only at e0 e1
      have HRL := Lib.hid hrl
      have HWX := Lib.hid hwx
      have HRW := Lib.hid hrow
      clear hrl hwx
      have hcq : q ≤ cq := (own_cap hrow).1
      have hcq0 : ¬ cq = 0 := by have := (own_cap HI.out.row).1; omega
      have h0q : (0 : Int) < (q : Int) + 1 := by omega
      have hqb : q ≤ 8800000000000 := by have h1 := HI.out.bound; have h2 := HMU.out; have h3 := HN.out; omega
      have hwq : wrap64 (q : Int) = (q : Int) := by unfold wrap64; omega
      clear hrow
      have HB1 := Lib.hid (al (w := wr) (.cells #[.int .i64 xt, .int .i64 xk] 36))
      by_cases ht : xt = 6
      · subst ht
        have HC1 := Lib.hid ((HC.out.below HI.out.bel).below HB1.out)
        cases hA : isB bs xk with
        | false =>
          go_wp2_with fail
          refine Calls.mono (is_any HC1.out xk) ?_
          rw [hA]
          rintro e w2 ⟨rfl, hb2⟩
          have HS := Lib.hid ((HI.out.skip HWX.out HRL.out HRW.out (fun a e hs => by
            injection e with _ e
            subst e
            unfold isB at hA
            rw [Int.toNat_natCast, hs] at hA
            simp at hA)).mv (sq HB1.out hb2))
          go_wp2_with fail
          go_roundw
          case rel => exact ⟨_, q, cq, l, rest, rfl, HS⟩
          case measure => exact MkI.less HI.out HS.out (by omega)
        | true =>
          obtain ⟨a, b, rfl, hb⟩ := isB_blk hA
          go_wp2_with fail
          refine Calls.mono (is_any HC1.out (a : Int)) ?_
          rw [hA]
          rintro e w2 ⟨rfl, hb2⟩
          have HB2 := Lib.hid (sq HB1.out hb2)
          have HI2 := Lib.hid (HI.out.mv HB2.out)
          have HC2 := Lib.hid (HC1.out.below hb2)
          obtain ⟨⟨c0, c1'⟩, f0, f1⟩ := loc2 hb2
          have HBK := Lib.hid hb
          have hb2s := hb2.size
          clear hb hb2 hA
          by_cases hseen : getM l (a : Int) = none
          · have hlk : (Instr.lookup 75 (.map (some w.heap.size)) (.int .i64 (a : Int)) true).run Try.prog w2 = .ok (.tuple #[.agg #[], .bool false]) w2 := HI2.out.seen.map.lookup_no Try.underlying75 Try.underlying3 (by kernel_rfl) hseen
            have HNS := Lib.hid hseen
            have HI3 := Lib.hid (HI2.out.mv (al (.cells #[] 77)))
            have HC3 := Lib.hid (HC2.out.below (al (.cells #[] 77)))
            have HB3 := Lib.hid (sq HB2.out (al (.cells #[] 77)))
            have hmlt : w.heap.size < wr.heap.size := HI.out.seen.map.lt
            have hw2 : wr.heap.size < w2.heap.size := by have := hb2s; simp at this; omega
            clear hseen
            go_wp2_with (at_mapUpdate; refine wpList_update_i rfl _ _ _ 75 rfl 3 77 .i64 Try.underlying75 Try.underlying3 w.heap.size _ rfl HI3.out.seen.map (a : Int) (.agg #[]) rfl rfl ?_; intro w5 hm5 hg5; have hq5 : w5.cell? ⟨wr.heap.size, 1, none⟩ = some (.int .i64 (a : Int)) := (World.cell?_of_block (hg5.block wr.heap.size (by simp; omega) (fun e => by injection e with e; omega))).trans ((World.cell?_of_block (Lib.alloc_old _ _ _ hw2)).trans c1'))
            have HB5 := Lib.hid (HI3.out.bel.grown hg5 HI3.out.bel.size (fun k e => by injection e with e; omega))
            have HM5 := Lib.hid hm5
            have HG5 := Lib.hid hg5
            have HC5 := Lib.hid (HC.out.below HB5.out)
            obtain ⟨hbm, hbe⟩ := blkAt_mem HBK.out
            have hbf := (HC5.out.fit.ge b hbm).2
            have hfin : b.fin = b.at_ + 1 + b.cells.length := rfl
            have har : a < room := by omega
            obtain ⟨C, n0, hcv, _⟩ := HC5.out.cel.form (by omega)
            obtain ⟨Z, n1, hzv, d2⟩ := HC5.out.size har
            obtain ⟨d0, d1, _⟩ := HC5.out.cell0
            have hcap := (own_cap (hcv ▸ HC5.out.cel)).1
            have HRD := Lib.hid (fun AX hA => (hcv ▸ HC5.out : HPc w5 0 P room bs cells shapes (.slice (some ⟨C, 0, none⟩) room n0) zv sv).rdB HBK.out AX hA)
            rw [hcv] at d0
            rw [hzv] at d1
            rw [HBK.out] at d2
            simp only at d2
            have HNE := Lib.hid (map_ne_own HI3.out.seen.map (own_below HRW.out HB3.out))
            have HR5 := Lib.hid ((own_below HRW.out HB3.out).kept hg5 (.inr (fun e => HNE.out (by injection e with e; exact e.symm))))
            have hPg : P < w.heap.size := (Array.getElem?_eq_some_iff.1 HC.out.box).1
            have hZlt : Z < w.heap.size := by have := HC.out.siz.lt Z (by rw [hzv]; rfl); omega
            have HK6 := Lib.hid (show ∀ w6 : World, w5.heap.size ≤ w6.heap.size → (∀ k, k < w5.heap.size → some k ≠ some g → w6.heap[k]? = w5.heap[k]?) → w6.cell? ⟨P, 0, none⟩ = some (.slice (some ⟨C, 0, none⟩) room n0) ∧ w6.cell? ⟨P, 1, none⟩ = some (.slice (some ⟨Z, 0, none⟩) room n1) ∧ w6.cell? ⟨Z, a, none⟩ = some (.int .i64 ((b.cells.length + 1 : Nat) : Int)) ∧ w6.cell? ⟨wr.heap.size, 1, none⟩ = some (.int .i64 (a : Int)) from fun w6 hs hk => by
              have hsz := HB5.out.size
              have h3 : wr.heap.size < w5.heap.size := by have h1 := hg5.size; simp at h1; omega
              have hgne : g ≠ wr.heap.size := by omega
              exact ⟨(World.cell?_of_block (hk P (by omega) (fun e => by injection e with e; omega))).trans d0, (World.cell?_of_block (hk P (by omega) (fun e => by injection e with e; omega))).trans d1, (World.cell?_of_block (hk Z (by omega) (fun e => by injection e with e; omega))).trans d2, (World.cell?_of_block (hk wr.heap.size h3 (fun e => by injection e with e; omega))).trans hq5⟩)
            have hwr1 : IntKind.i64.wrap ((a : Int) + 1) = (a : Int) + 1 := IntWalk.i64_in _ (by omega)
            have hwr2 : IntKind.i64.wrap ((a : Int) + ((b.cells.length + 1 : Nat) : Int)) = ((a + 1 + b.cells.length : Nat) : Int) := by rw [show (a : Int) + ((b.cells.length + 1 : Nat) : Int) = ((a + 1 + b.cells.length : Nat) : Int) by omega]; exact IntWalk.i64_in _ (by omega)
            have hE1 : a + 1 + b.cells.length ≤ n0 := by omega
            have hE2 : a + 1 ≤ a + 1 + b.cells.length := by omega
            have hE3 : a + 1 + b.cells.length - (a + 1) = b.cells.length := by omega
            have hal : (a : Int) < (room : Int) := by omega
            have hm300 : b.cells.length ≤ 4000 := by omega
            obtain ⟨i0, hi, hz0, hz1, hz2⟩ := info_parts info_cl
            have hzero : n0 = a + 1 → b.cells.length = 0 := fun e => by omega
            have HML := Lib.hid (show b.cells.length = b.cells.length from rfl)
            clear hg5 hm5 hbm hbe hbf hfin hcv hzv hcap hlk hb2s
            generalize hmm2 : b.cells.length = m at hwr2 hE1 hE2 hE3 HML hm300 hzero d2 HK6
            have HMQ := Lib.hid hmm2
            have HML := Lib.hid hmm2.symm
            rw [hmm2] at HRD
            clear hmm2
            generalize hv : ((m + 1 : Nat) : Int) = v at hwr2 d2 HK6
            clear hv
            generalize a + 1 + m = E at hwr2 hE1 hE2 hE3
            have hS1 : (0 : Int) ≤ (a : Int) + 1 := by omega
            have hS2 : (a : Int) + 1 ≤ (E : Int) := by omega
            have hS3 : ((a : Int) + 1).toNat = a + 1 := by omega
            have hS4 : (E : Int) ≤ (n0 : Int) := by omega
            have hS5 : (0 : Int) ≤ (E : Int) := by omega
            by_cases hz : n0 = a + 1
            · have hm0 := hzero hz
              have hEe : E = a + 1 := by omega
              subst hEe
              have HM0 := Lib.hid hm0
              clear hm0
              go_region_held3 (fun w' => w'.cell? ⟨P, 0, none⟩ = some (.slice (some ⟨C, 0, none⟩) room n0) ∧ w'.cell? ⟨P, 1, none⟩ = some (.slice (some ⟨Z, 0, none⟩) room n1) ∧ w'.cell? ⟨Z, a, none⟩ = some (.int .i64 v) ∧ w'.cell? ⟨wr.heap.size, 1, none⟩ = some (.int .i64 (a : Int))) (go_keep) (go_must (refine step_append_wide rfl (.tmp 49) (.tmp 68) 37 rfl w.heap.size 36 i0 _ 2 16 Try.underlying37 hi hz0 hz1 hz2 rfl (by omega) (.slice (some ⟨g, 0, none⟩) q cq) q (ceL rest) rfl HR5.out w5.heap.size (some ⟨C, 0, none⟩) 0 _ (ceL b.cells) rfl (by simp) (by rw [← HM0.out]; exact HRD.out _ (.inr HM0.out)) (ceL_one _) (by unfold maxLen; omega) (by omega) (by exact HB5.out.size) ?_; intro A6 c6 w6 hown6 hgrow6; have hs6 := HK6.out w6 hgrow6.size hgrow6.block; obtain ⟨hs60, hs61, hs62, hs63⟩ := hs6))
              have HG6 := Lib.hid (show w5.grownBy w6 (some g) from ⟨hgrow6.os, hgrow6.tape, hgrow6.output, hgrow6.size, hgrow6.block⟩)
              rw [show q + 0 = q + b.cells.length by rw [HMQ.out, HM0.out]] at hown6
              have HT := Lib.hid (HI.out.take (w' := w6) HC.out.fit HWX.out HRL.out HBK.out HNS.out (HM5.out.keepM (HG6.out.block _ HM5.out.lt (fun e => HNE.out (by injection e)))) hown6 (HB5.out.grown HG6.out HB5.out.size (fun k e => by injection e with e; omega)))
              have HL := Lib.hid (HI.out.takeLess HC.out.fit HBK.out HNS.out HT.out)
              clear hown6 hgrow6 hs60 hs61 hs62 hs63
              go_roundw
              case rel => exact ⟨_, _, _, _, _, _, _, _, _, _, _, _, _, _, _, _, _, _, _, _, _, _, _, _, _, _, _, _, _, _, _, _, _, _, _, _, _, _, _, _, _, _, _, _, _, _, _, _, _, _, _, _, _, _, _, _, _, _, _, _, _, ⟨A6, q + 0, c6, setM l (a : Int) (.agg #[]), rest ++ b.cells, rfl, by rw [show q + 0 = q + b.cells.length by rw [HMQ.out, HM0.out]]; exact HT⟩, rfl⟩
              case measure =>
                have hl := HL.out
                rw [show q + b.cells.length = q by rw [HMQ.out, HM0.out]; rfl] at hl
                exact hl
            · have hd := trivial
              go_region_held3 (fun w' => w'.cell? ⟨P, 0, none⟩ = some (.slice (some ⟨C, 0, none⟩) room n0) ∧ w'.cell? ⟨P, 1, none⟩ = some (.slice (some ⟨Z, 0, none⟩) room n1) ∧ w'.cell? ⟨Z, a, none⟩ = some (.int .i64 v) ∧ w'.cell? ⟨wr.heap.size, 1, none⟩ = some (.int .i64 (a : Int))) (go_keep) (go_must (refine step_append_wide rfl (.tmp 49) (.tmp 68) 37 rfl w.heap.size 36 i0 _ 2 16 Try.underlying37 hi hz0 hz1 hz2 rfl (by omega) (.slice (some ⟨g, 0, none⟩) q cq) q (ceL rest) rfl HR5.out w5.heap.size (some ⟨C, (a + 1) * 2, none⟩) m _ (ceL b.cells) rfl (by simp) (HRD.out _ (.inl rfl)) (ceL_one _) (by unfold maxLen; omega) (by omega) (by exact HB5.out.size) ?_; intro A6 c6 w6 hown6 hgrow6; have hs6 := HK6.out w6 hgrow6.size hgrow6.block; obtain ⟨hs60, hs61, hs62, hs63⟩ := hs6))
              have HG6 := Lib.hid (show w5.grownBy w6 (some g) from ⟨hgrow6.os, hgrow6.tape, hgrow6.output, hgrow6.size, hgrow6.block⟩)
              rw [HML.out] at hown6
              have HT := Lib.hid (HI.out.take (w' := w6) HC.out.fit HWX.out HRL.out HBK.out HNS.out (HM5.out.keepM (HG6.out.block _ HM5.out.lt (fun e => HNE.out (by injection e)))) hown6 (HB5.out.grown HG6.out HB5.out.size (fun k e => by injection e with e; omega)))
              have HL := Lib.hid (HI.out.takeLess HC.out.fit HBK.out HNS.out HT.out)
              clear hown6 hgrow6 hs60 hs61 hs62 hs63
              go_roundw
              case rel => exact ⟨_, _, _, _, _, _, _, _, _, _, _, _, _, _, _, _, _, _, _, _, _, _, _, _, _, _, _, _, _, _, _, _, _, _, _, _, _, _, _, _, _, _, _, _, _, _, _, _, _, _, _, _, _, _, _, _, _, _, _, _, _, ⟨A6, q + m, c6, setM l (a : Int) (.agg #[]), rest ++ b.cells, rfl, by rw [HML.out]; exact HT⟩, rfl⟩
              case measure => rw [HML.out]; exact HL.out
          · obtain ⟨v, hv⟩ := Option.ne_none_iff_exists'.1 hseen
            have hvu := HI.out.seen.unit _ _ hv
            subst hvu
            have hlk : (Instr.lookup 75 (.map (some w.heap.size)) (.int .i64 (a : Int)) true).run Try.prog w2 = .ok (.tuple #[.agg #[], .bool true]) w2 := HI2.out.seen.map.lookup_ok Try.underlying75 Try.underlying3 hv
            have HS := Lib.hid ((HI.out.skip HWX.out HRL.out HRW.out (fun a' e _ => by
              injection e with _ e
              have e' : a' = a := by omega
              subst e'
              unfold seenA
              rw [hv]
              rfl)).mv (sq HB2.out (al (.cells #[] 77))))
            clear hseen
            go_wp2_with fail
            go_roundw
            case rel => exact ⟨_, q, cq, l, rest, rfl, HS⟩
            case measure => exact MkI.less HI.out HS.out (by omega)
      · have bt : (xt != 6) = true := by simpa using ht
        clear ht
        go_wp2_with fail
        have HS := Lib.hid ((HI.out.skip HWX.out HRL.out HRW.out (fun a e => by have := bt; simp at this; injection e with e; exact absurd e this)).mv HB1.out)
        go_roundw
        case rel => exact ⟨_, q, cq, l, rest, rfl, HS⟩
        case measure => exact MkI.less HI.out HS.out (by omega)
end Go.Proofs.Ythogfcdgbodccaa
