/- The player's 'event': defer, a panic. Conditions: what holds of all states that are come to. -/
import Derived.Test.YtapofohbngkekaaPnE
import Derived.Test.YtapofohbngkekaaValue1
set_option maxRecDepth 100000
namespace Go.Proofs.Ytapofohbngkekaa
open Go.ChangeShapes Go.WideShapes Go.ChangeAt Go.RowKit
theorem step_append_flat3 {P : Program} {ops : Array Oper} {o : Oper} {a : Act} {w : World} {K : Act → World → Prop} {Q : Exit → Act → World → Prop} {EE : Prop} (hgd : o.guard = none) (s x : Operand) (t : TypeId)
    (ho : o.op = .call { callee := .builtin .append, args := #[s, x], argTypes := #[t, t] })
    (base : Nat) (e : TypeId) (i : TypeInfo) (z : Value) (size bytes : Nat) (ht : P.underlying t = some (.slice e)) (hi : P.info? e = some i) (hz : i.zero = some z)
    (hsize : i.size = size) (hby : i.bytes = bytes) (hzs : z.cells.size = size) (hsz : 0 < size)
    (v : Value) (n : Nat) (xs : List Value) (hs : a.eval s = v) (hown : w.ownsRow base e size v n xs)
    (B : Nat) (A : Option Addr) (m c : Nat) (news : List Value) (hx : a.eval x = .slice A m c) (hr : Rd w B size A m news) (h1 : ∀ u ∈ news, u.oneCell' = true)
    (h63 : n + m ≤ maxLen) (hbytes : (n + m) * bytes ≤ 140737488355328) (hbase : base ≤ w.heap.size)
    (h : ∀ A' c' w', w'.ownsRow base e size (.slice A' (n + m) c') (n + m) (xs ++ news) → w.grownBy w' v.ownBlock → ((Value.slice A' (n + m) c').ownBlock = v.ownBlock ∨ (Value.slice A' (n + m) c').ownBlock = some w.heap.size) → K (a.put o.dst (.slice A' (n + m) c')) w') : if Region.wanted o (yielded ops a.tmps) = true then Oper.wp P o a w K Q else EE := by
  have hw : Region.wanted o (yielded ops a.tmps) = true := by simp [Region.wanted, hgd]
  rw [if_pos hw]
  exact wp_append_rd w s x t ho base e i z size bytes ht hi hz hsize hby hzs hsz v n xs hs hown B A m c news hx hr h1 h63 hbytes hbase h
/-- A deferred call is laid by: its row may have moved. -/
theorem FrO.putD {w w' : World} {base F n c i : Nat} {l : List FR} {ds : List Value} {f : FR} {d v : Value} {x : List Int} (h : FrO w base (.slice (some ⟨F, 0, none⟩) n c) l ds) (hi : l[i]? = some f) (hd : ds[i]? = some d)
    (hk : ∀ (b : Nat) (cs : Array Value) (t : TypeId), w.heap[b]? = some (Obj.cells cs t (0, 0)) → t = 93 ∨ t = 3 → d.ownBlock ≠ some b → w'.heap[b]? = w.heap[b]?)
    (hv : w'.ownsRow base 3 1 v x.length (x.map (Value.int .i64)))
    (hb : ∀ b, v.ownBlock = some b → ∀ j d', j ≠ i → ds[j]? = some d' → d'.ownBlock ≠ some b) : FrO (w'.setCell ⟨F, i * 5 + 4, none⟩ v) base (.slice (some ⟨F, 0, none⟩) n c) (l.set i (dsF f x)) (ds.set i v) := by
  have hn : n = l.length := by
    obtain ⟨A, c', e⟩ := own_form h.row
    injection e
  subst hn
  have hdo := h.dr i f d hi hd
  have hrow : w'.ownsRow base 93 5 (.slice (some ⟨F, 0, none⟩) l.length c) l.length (frL l ds) := own_stay h.row fun b hb' => by
    obtain ⟨cur, e⟩ := own_ty h.row hb'
    exact hk b cur _ e (.inl rfl) (fun e' => own_ne h.row hdo (by decide) b hb' e')
  obtain ⟨cur, hF⟩ := own_ty (b := F) hrow rfl
  have hil := (List.getElem?_eq_some_iff.1 hi).1
  have hst := (hrow.stored (i * 5 + 4) v).1
  rw [frL_set4 (x := x) hi h.len] at hst
  refine ⟨by rw [List.length_set]; exact hst, by simp [h.len], fun j g e hj he => ?_, fun j k e e' b hj hk' he he' => ?_⟩
  · rw [List.getElem?_set] at hj he
    by_cases hij : i = j
    · subst hij
      rw [if_pos rfl, if_pos hil] at hj
      rw [if_pos rfl, if_pos (by rw [h.len]; exact hil)] at he
      injection hj with hj
      injection he with he
      subst hj he
      exact own_setP hv hF (by decide)
    · rw [if_neg hij] at hj he
      refine own_setP (own_stay (h.dr j g e hj he) fun b hb' => ?_) hF (by decide)
      obtain ⟨cur', e1⟩ := own_ty (h.dr j g e hj he) hb'
      exact hk b cur' _ e1 (.inr rfl) (fun e2 => hij (h.dis i j d e b hd he e2 hb'))
  · rw [List.getElem?_set] at hj hk'
    by_cases hij : i = j
    · subst hij
      rw [if_pos rfl, if_pos (by rw [h.len]; exact hil)] at hj
      injection hj with hj
      subst hj
      by_cases hik : i = k
      · exact hik
      · rw [if_neg hik] at hk'
        exact absurd he' (hb b he k e' (fun e => hik e.symm) hk')
    · rw [if_neg hij] at hj
      by_cases hik : i = k
      · subst hik
        rw [if_pos rfl, if_pos (by rw [h.len]; exact hil)] at hk'
        injection hk' with hk'
        subst hk'
        exact absurd he (hb b he' j e (fun e => hij e.symm) hj)
      · rw [if_neg hik] at hk'
        exact h.dis j k e e' b hj hk' he he'
theorem PLc.turned2 {w w' : World} {base P : Nat} {s : ST} {tl : List TL} {fv pv tv : Value} {ds ds' : List Value} {l : List FR} (h : PLc w base P s tl fv pv tv ds) (hk : ∀ (b : Nat) (cs : Array Value) (t : TypeId), w.heap[b]? = some (Obj.cells cs t (0, 0)) → t ≠ 93 → t ≠ 3 → w'.heap[b]? = w.heap[b]?) (hfr : FrO w' base fv l ds') : PLc w' base P (stFr s l) tl fv pv tv ds' :=
  ⟨h.hP, (hk P _ _ h.box (by decide) (by decide)).trans h.box, hfr, own_stayT h.pn fun b cs t hb ht => hk b cs t hb (by subst ht; decide) (by subst ht; decide), own_stayT h.tl fun b cs t hb ht => hk b cs t hb (by subst ht; decide) (by subst ht; decide)⟩
/-- The player behind 'f.Defers = append(f.Defers, x)'. -/
theorem PLc.defer {w W w' : World} {base P F n c m c' : Nat} {s : ST} {tl : List TL} {pv tv d : Value} {es : List Value} {fs : List FR} {f : FR} {A' : Option Addr} {x : Int} (h : PLc w base P s tl (.slice (some ⟨F, 0, none⟩) n c) pv tv (es ++ [d])) (hf : s.fr = fs ++ [f]) (hel : es.length = fs.length) (hW : Below w.heap.size w W)
    (hown : w'.ownsRow base 3 1 (.slice A' (m + 1) c') (m + 1) (f.ds.map (Value.int .i64) ++ [.int .i64 x])) (hm : f.ds.length = m) (hg : W.grownBy w' d.ownBlock) (hob : (Value.slice A' (m + 1) c').ownBlock = d.ownBlock ∨ (Value.slice A' (m + 1) c').ownBlock = some W.heap.size) :
    PL base P (stFr s (fs ++ [dsF f (f.ds ++ [x])])) tl (w'.setCell ⟨F, fs.length * 5 + 4, none⟩ (.slice A' (m + 1) c')) ∧ Below base w (w'.setCell ⟨F, fs.length * 5 + 4, none⟩ (.slice A' (m + 1) c')) := by
  have hfr := h.fr
  rw [hf] at hfr
  have hi : (fs ++ [f])[fs.length]? = some f := by simp
  have hd : (es ++ [d])[fs.length]? = some d := by rw [← hel]; simp
  have hdo := hfr.dr _ _ _ hi hd
  have hkk : ∀ (b : Nat), b < w.heap.size → d.ownBlock ≠ some b → w'.heap[b]? = w.heap[b]? := fun b hb h1 => (hg.block b (Nat.lt_of_lt_of_le hb hW.size) (fun e => h1 e.symm)).trans (hW.block b hb)
  have hnew := hfr.putD (w' := w') (v := .slice A' (m + 1) c') (x := f.ds ++ [x]) hi hd (fun b cs t hb _ h1 => hkk b (Array.getElem?_eq_some_iff.1 hb).1 h1) (by
    have hl : (f.ds ++ [x]).length = m + 1 := by simp [hm]
    rw [hl, List.map_append]
    exact hown) (fun b hv j d' hj hd' hb' => by
      have hlt := (hfr.dr j _ d' (List.getElem?_eq_getElem (by
        have h1 := (List.getElem?_eq_some_iff.1 hd').1
        simp at h1 ⊢
        omega)) hd').lt b hb'
      rcases hob with h1 | h1
      · rw [h1] at hv
        exact hj (hfr.dis j fs.length d' d b hd' hd hb' hv)
      · rw [h1] at hv
        injection hv with hv
        have := hW.size
        omega)
  rw [set_mid, ← hel, set_mid, hel] at hnew
  have hrow := h.fr.row
  obtain ⟨cur, hF⟩ := own_ty (b := F) hrow rfl
  have hFb : d.ownBlock ≠ some F := fun e => own_ne hrow hdo (by decide) F rfl e
  have hF' := (hkk F (Array.getElem?_eq_some_iff.1 hF).1 hFb).trans hF
  refine ⟨⟨_, _, _, _, h.turned2 (fun b cs t hb h1 h2 => ?_) hnew⟩, ?_⟩
  · have hbF : b ≠ F := fun e => h1 (by rw [e, hF] at hb; injection hb with hb; injection hb with _ hb; exact hb.symm)
    refine (Below.heap_setCell _ _ _ _ hbF).trans (hkk b (Array.getElem?_eq_some_iff.1 hb).1 fun e => ?_)
    obtain ⟨c1, e1⟩ := own_ty hdo e
    rw [hb] at e1
    injection e1 with e1
    injection e1 with _ e1
    exact h2 e1
  · exact (((hW.mono h.base_le).grown hg (Nat.le_trans h.base_le hW.size) (fun q hq => (hdo.lt q hq).1)).setCell (p := ⟨F, fs.length * 5 + 4, none⟩) (hrow.lt F rfl).1 _)
/-- The player behind 'p.Panics = append(p.Panics, x)'. -/
theorem PLc.pushP {w W w' : World} {base P c' : Nat} {s : ST} {tl : List TL} {fv pv tv : Value} {ds : List Value} {A' : Option Addr} {p : PN} {n : Nat} (h : PLc w base P s tl fv pv tv ds) (hn : s.pn.length = n) (hW : Below w.heap.size w W) (hown : w'.ownsRow base 99 7 (.slice A' (n + 1) c') (n + 1) (pnL s.pn ++ pnC p)) (hg : W.grownBy w' pv.ownBlock) :
    PLc (w'.setCell ⟨P, 1, none⟩ (.slice A' (n + 1) c')) base P (stPn s (s.pn ++ [p])) tl fv (.slice A' (n + 1) c') tv ds ∧ Below base w (w'.setCell ⟨P, 1, none⟩ (.slice A' (n + 1) c')) := by
  have hk := KT.grow h.pn hW hg
  have hx := h.boxK hk (by decide)
  refine ⟨⟨h.hP, heap_setN hx _, (h.fr.stay fun b cs t hb ht => hk b cs t hb (by rcases ht with rfl | rfl <;> decide)).setP hx (by decide) (by decide), own_setP ?_ hx (by decide), own_setP (own_stayT h.tl fun b cs t hb ht => hk b cs t hb (by subst ht; decide)) hx (by decide)⟩, (((hW.mono h.base_le).grown hg (Nat.le_trans h.base_le hW.size) (fun q hq => (h.pn.lt q hq).1)).setCell (p := ⟨P, 1, none⟩) h.hP _)⟩
  show World.ownsRow _ base 99 7 _ (s.pn ++ [p]).length (pnL (s.pn ++ [p]))
  rw [pnL_snoc, List.length_append, List.length_singleton, hn]
  exact hown
theorem may_iff {k : Int} : mayB k = true ↔ mayK k := by
  unfold mayB mayK
  simp [or_assoc]
section
variable (base P k : Nat) (s : ST) (tl : List TL) (v : EV) (A : Option Addr) (len cap : Nat) (w : World) (h : PL base P s tl w) (hi : Bd (k + 1) k s) (hlv : Lv s) (hk : k ≤ 50000) (hl : tl.length ≤ 800000)
include h hi hlv hk hl
set_option maxHeartbeats 4000000 in
theorem event_defer (h1 : v.kind = 3) : Calls Try.prog 41 #[.pointer (some ⟨P, 0, none⟩), evA v A len cap] w (EvP base P s tl v w) := by
  obtain ⟨j0, hj, jz0, jz1, jz2⟩ := info_parts info_int
  obtain ⟨fv, pv, tv, ds, hc⟩ := h
  obtain ⟨fs, f, hf, _⟩ := hlv.top
  have HEV := Lib.hid (show evV s fs f v = .fin (stFr s (fs ++ [dsF f (f.ds ++ [v.n])])) [] by unfold evV; rw [if_neg (by omega), if_neg (by omega), if_pos h1])
  have HF := Lib.hid hf
  have HL := Lib.hid hl
  have hfr := hc.fr
  rw [hf] at hfr
  obtain ⟨F, c, es, d, rfl, hel, rfl, hF, hFz, hcl, hcm, ht⟩ := hfr.top
  have hfl : fs.length ≤ 29 := by have := hi.fr; rw [hf] at this; simp at this; omega
  have hdr := hfr.dr fs.length f d (by simp) (by rw [← hel]; simp)
  obtain ⟨m, hm⟩ : ∃ m, f.ds.length = m := ⟨_, rfl⟩
  have hm2 : m ≤ 50000 := by have := (hi.ds f (by rw [hf]; simp)).1; omega
  rw [hm] at hdr
  obtain ⟨DA, dc, rfl⟩ := own_form hdr
  have HC := Lib.hid hc
  have HD := Lib.hid hdr
  have HM := Lib.hid hm
  have HEL := Lib.hid hel
  obtain ⟨ek, en, vk, vn, vs⟩ := v
  simp only at h1
  subst h1
  clear hc hi hl hlv hf hfr ht hdr hm hel
  go_enter Try.func41, Try.ntmps41
  go_wp2_with fail
  have HC0 := Lib.hid (HC.out.below (al (.cells #[.int .i64 3, .int .i64 en, .int .i64 vk, .int .i64 vn, .string vs, .slice A len cap] 51)))
  have HB0 := Lib.hid ((Below.refl base w).alloc HC.out.base_le (.cells #[.int .i64 3, .int .i64 en, .int .i64 vk, .int .i64 vn, .string vs, .slice A len cap] 51))
  have HX0 := Lib.hid (heap_alloc_new w (.cells #[.int .i64 3, .int .i64 en, .int .i64 vk, .int .i64 vn, .string vs, .slice A len cap] 51))
  have HSZ := Lib.hid (show w.heap.size < (w.alloc (.cells #[.int .i64 3, .int .i64 en, .int .i64 vk, .int .i64 vn, .string vs, .slice A len cap] 51)).heap.size by simp)
  refine Calls.mono (top_any P F fs.length c _ HC0.out.boxc.1 (by omega)) ?_
  rintro e w1 ⟨rfl, hb1⟩
  have HC1 := Lib.hid (HC0.out.below hb1)
  have HB1 := Lib.hid (HB0.out.trans (hb1.mono HC0.out.base_le))
  have HX1 := Lib.hid ((hb1.block _ HSZ.out).trans HX0.out)
  clear hb1 HC HC0 HB0 HX0 HSZ
  generalize w.heap.size = gb at *
  obtain ⟨F4, c4, es4, dg4, e5, hel4, e4, hF4, hFz4, _, _, ht4⟩ := FrO.top (show FrO w1 base _ (fs ++ [f]) _ by rw [← HF.out]; exact HC1.out.fr)
  injection e4 with e4 _ e4'
  injection e4 with e4
  injection e4 with e4
  subst e4 e4'
  obtain ⟨_, rfl⟩ := snoc_inj e5
  have g4 := ht4.c4
  have gz := ht4.z (fs.length * 5 + 4)
  have e1 : w1.cell? ⟨gb, 1, none⟩ = some (.int .i64 en) := by rw [Lib.cell_of_heap HX1.out]; rfl
  have HDR := Lib.hid (show w1.ownsRow base 3 1 (.slice DA m dc) m (f.ds.map (Value.int .i64)) by
    have := (show FrO w1 base _ (fs ++ [f]) _ by rw [← HF.out]; exact HC1.out.fr).dr fs.length f (.slice DA m dc) (by simp) (by rw [← HEL.out]; simp)
    rwa [HM.out] at this)
  clear ht4 e5
  go_wp2_with fail
  obtain ⟨cur, hFc⟩ := own_ty (b := F) HC1.out.fr.row rfl
  have hFn : ∀ W : World, W.heap[F]? = some (.cells cur 93 (0, 0)) → W.frozen? ⟨F, fs.length * 5 + 4, none⟩ = false := fun W hW => Lib.frozen_of_heap hW _
  have hFd : ∀ W w5 : World, Below w1.heap.size w1 W → W.grownBy w5 (Value.slice DA m dc).ownBlock → w5.heap[F]? = some (.cells cur 93 (0, 0)) := fun W w5 hW hg =>
    (hg.block F (Nat.lt_of_lt_of_le hFz4 hW.size) (fun e => own_ne HC1.out.fr.row HDR.out (by decide) F rfl e.symm)).trans ((hW.block F hFz4).trans hFc)
  have hFq : ∀ W : World, W.heap[F]? = some (.cells cur 93 (0, 0)) → W.cell? ⟨F, fs.length * 5 + 4, none⟩ = some (.slice DA m dc) := fun W hW => (World.cell?_of_block (hW.trans hFc.symm)).trans g4
  have HFN := Lib.hid hFn
  have HFD := Lib.hid hFd
  have HFQ := Lib.hid hFq
  clear hFn hFd hFq hFc
  go_region_law (first
    | (go_must (refine step_append_flat3 rfl (.tmp 36) (.tmp 39) 31 rfl base 3 j0 _ 1 8 Try.underlying31 hj jz0 jz1 jz2 rfl (by omega) (.slice DA m dc) m (f.ds.map (Value.int .i64)) rfl (own_below HDR.out (by first | exact ((Below.refl _ _).drew).alloc (by simp) _ | exact (al _) | exact ((Below.refl _ _).alloc (by simp) _).drew)) _ _ 1 1 [.int .i64 en] rfl (Rd.one _ _ _ 1 rfl _ (by simp)) (by intro u hu; simp at hu; subst hu; rfl) (by unfold maxLen; omega) (by omega) (by have := HC1.out.base_le; simp; omega) ?_; intro A5 c5 w5 hown5 hgrow5 hob5; have hx5 := HFD.out _ _ (by first | exact ((Below.refl _ _).drew).alloc (by simp) _ | exact (al _) | exact ((Below.refl _ _).alloc (by simp) _).drew) hgrow5; have z5 := HFN.out w5 hx5; have q5 := HFQ.out w5 hx5))
    | fail "no")
  all_goals (
    obtain ⟨hq1, hq2⟩ := HC1.out.defer (f := f) (x := en) (fs := fs) HF.out HEL.out (by first | exact ((Below.refl _ _).drew).alloc (by simp) _ | exact (al _) | exact ((Below.refl _ _).alloc (by simp) _).drew) hown5 HM.out hgrow5 hob5
    have HQ1 := Lib.hid hq1
    have HQ2 := Lib.hid (HB1.out.trans hq2)
    clear hq1 hq2 hown5 hgrow5 hob5 hx5 z5 q5
    go_wp2_with fail
    go_ret
    exact ⟨.inr ⟨rfl, _, _, .fin HF.out HEV.out, by rw [List.append_nil]; exact HQ1.out⟩, HQ2.out⟩)
set_option maxHeartbeats 8000000 in
theorem event_panic (h1 : v.kind = 4) : Calls Try.prog 41 #[.pointer (some ⟨P, 0, none⟩), evA v A len cap] w (EvP base P s tl v w) := by
  obtain ⟨j0, hj, jz0, jz1, jz2⟩ := info_parts info_pn
  obtain ⟨fv, pv, tv, ds, hc⟩ := h
  obtain ⟨fs, f, hf, _⟩ := hlv.top
  have HKP := Lib.hid (ev_keeps (e := v) hi hlv hf).2
  have HE0 := Lib.hid (fun (hm : ¬ mayK v.k) => show evV s fs f v = .bad by unfold evV; rw [if_neg (by omega), if_neg (by omega), if_neg (by omega), if_pos h1, if_neg hm])
  have HE1 := Lib.hid (fun (hm : mayK v.k) => show evV s fs f v = .go ⟨fs ++ [phF f 2], s.pn ++ [newP s v], s.next, s.ser + 1, s.en, s.st⟩ [] by unfold evV; rw [if_neg (by omega), if_neg (by omega), if_neg (by omega), if_pos h1, if_pos hm])
  have HBD := Lib.hid hi
  have HF := Lib.hid hf
  have HL := Lib.hid hl
  have hfr := hc.fr
  rw [hf] at hfr
  obtain ⟨F, c, es, d, rfl, hel, rfl, hF, hFz, hcl, hcm, ht⟩ := hfr.top
  have hfl : fs.length ≤ 29 := by have := hi.fr; rw [hf] at this; simp at this; omega
  obtain ⟨PA, pc, rfl⟩ := own_form hc.pn
  obtain ⟨m, hm⟩ : ∃ m, s.pn.length = m := ⟨_, rfl⟩
  have hm2 : m ≤ 50000 := by have := hi.pn; omega
  have hser : s.ser ≤ 50000 := by have := hi.ser; omega
  rw [hm] at hc
  have HC := Lib.hid hc
  have HM := Lib.hid hm
  have HNP := Lib.hid (show newP s v = ⟨s.ser, v.k, plNv v.k v.vn, plSv v.k v.s, false, false⟩ from rfl)
  obtain ⟨ek, en, vk, vn, vs⟩ := v
  simp only at h1 HNP
  subst h1
  clear hc hi hl hlv hf hfr ht hm hel hcl hcm
  by_cases hmay : mayK vk
  · have b1 : mayB vk = true := may_iff.2 hmay
    have HMY := Lib.hid hmay
    clear hmay
    go_enter Try.func41, Try.ntmps41
    go_wp2_with fail
    have HC0 := Lib.hid (HC.out.below (al (.cells #[.int .i64 4, .int .i64 en, .int .i64 vk, .int .i64 vn, .string vs, .slice A len cap] 51)))
    have HB0 := Lib.hid ((Below.refl base w).alloc HC.out.base_le (.cells #[.int .i64 4, .int .i64 en, .int .i64 vk, .int .i64 vn, .string vs, .slice A len cap] 51))
    have HX0 := Lib.hid (heap_alloc_new w (.cells #[.int .i64 4, .int .i64 en, .int .i64 vk, .int .i64 vn, .string vs, .slice A len cap] 51))
    have HSZ := Lib.hid (show w.heap.size < (w.alloc (.cells #[.int .i64 4, .int .i64 en, .int .i64 vk, .int .i64 vn, .string vs, .slice A len cap] 51)).heap.size by simp)
    refine Calls.mono (valueMay_any vk vn vs A len cap _) ?_
    rintro e w1 ⟨rfl, hb1⟩
    have HC1 := Lib.hid (HC0.out.below hb1)
    have HB1 := Lib.hid (HB0.out.trans (hb1.mono HC0.out.base_le))
    have HX1 := Lib.hid ((hb1.block _ HSZ.out).trans HX0.out)
    clear hb1 HC HC0 HB0 HX0 HSZ
    generalize w.heap.size = gb at *
    have e2 : w1.cell? ⟨gb, 2, none⟩ = some (.int .i64 vk) := by rw [Lib.cell_of_heap HX1.out]; rfl
    have e3 : w1.cell? ⟨gb, 3, none⟩ = some (.int .i64 vn) := by rw [Lib.cell_of_heap HX1.out]; rfl
    have e4 : w1.cell? ⟨gb, 4, none⟩ = some (.string vs) := by rw [Lib.cell_of_heap HX1.out]; rfl
    have e5 : w1.cell? ⟨gb, 5, none⟩ = some (.slice A len cap) := by rw [Lib.cell_of_heap HX1.out]; rfl
    have p1 := HC1.out.boxc.2.1
    have p3 := HC1.out.boxc.2.2.2.1
    go_wp2_with fail
    go_region_law (first
      | ((go_simp; (go_at_call 70); refine (valuePlain_may vk vn vs A len cap _ HMY.out).mono ?_; rintro e w2 ⟨rfl, hb2⟩; have hb2' : Below w1.heap.size w1 w2 := ⟨hb2.os, hb2.tape, hb2.output, hb2.size, hb2.block⟩; have hPz2 : P < w2.heap.size := (Array.getElem?_eq_some_iff.1 (HC1.out.below hb2').box).1; have p1 := (HC1.out.below hb2').boxc.2.1; have p3 := (HC1.out.below hb2').boxc.2.2.2.1))
      | ((refine step_append_flat rfl (.tmp 54) (.tmp 64) 54 rfl base 99 j0 _ 7 72 Try.underlying54 hj jz0 jz1 jz2 rfl (by omega) (.slice PA m pc) m (pnL s.pn) rfl (own_below (by have := (HC1.out.below hb2').pn; rwa [HM.out] at this) (by first | exact (Below.refl _ _).alloc (Nat.le_refl _) _ | exact ((Below.refl _ _).drew).alloc (by simp) _ | exact ((Below.refl _ _).alloc (by simp) _).drew)) _ _ 1 1 (pnC ⟨s.ser, vk, plNv vk vn, plSv vk vs, false, false⟩) rfl (Rd.one _ _ _ 7 rfl _ (by simp)) (by intro u hu; simp [pnC] at hu; rcases hu with rfl | rfl | rfl | rfl | rfl | rfl | rfl <;> rfl) (by unfold maxLen; omega) (by omega) (by have := (HC1.out.below hb2').base_le; simp; omega) ?_; intro A5 c5 w5 hown5 hgrow5; have hx5 := (HC1.out.below hb2').boxK (KT.grow (HC1.out.below hb2').pn (by first | exact (Below.refl _ _).alloc (Nat.le_refl _) _ | exact ((Below.refl _ _).drew).alloc (by simp) _ | exact ((Below.refl _ _).alloc (by simp) _).drew) hgrow5) (by decide); have z1 : w5.frozen? ⟨P, 1, none⟩ = false := Lib.frozen_of_heap hx5 1; have z3 : w5.frozen? ⟨P, 3, none⟩ = false := Lib.frozen_of_heap hx5 3; have q1 : w5.cell? ⟨P, 1, none⟩ = some (.slice PA m pc) := (by rw [Lib.cell_of_heap hx5]; rfl); have q3 : w5.cell? ⟨P, 3, none⟩ = some (.int .i64 (s.ser : Int)) := (by rw [Lib.cell_of_heap hx5]; rfl)))
      | fail "no")
    all_goals (
      obtain ⟨hq1, hq2⟩ := (HC1.out.below hb2').pushP (p := ⟨s.ser, vk, plNv vk vn, plSv vk vs, false, false⟩) HM.out (by first | exact (Below.refl _ _).alloc (Nat.le_refl _) _ | exact ((Below.refl _ _).drew).alloc (by simp) _ | exact ((Below.refl _ _).alloc (by simp) _).drew) hown5 hgrow5
      have HQ1 := Lib.hid hq1
      have HQ2 := Lib.hid ((HB1.out.trans (hb2'.mono HC1.out.base_le)).trans hq2)
      clear hown5 hgrow5 hx5 hb2 hb2' p1 p3 e2 e3 e4 e5 z1 z3 q1 q3 hq2 hq1
      generalize w5.setCell ⟨P, 1, none⟩ (.slice A5 (m + 1) c5) = w6 at *
      have q3 : w6.cell? ⟨P, 3, none⟩ = some (.int .i64 (s.ser : Int)) := HQ1.out.boxc.2.2.2.1
      have z3 := HQ1.out.boxc.2.2.2.2.2.2.2 3
      have hq0 := HQ1.out.hP
      go_wp2_with fail
      have HQ3 := Lib.hid (HQ1.out.re (s' := ⟨s.fr, s.pn ++ [newP s ⟨4, en, vk, vn, vs⟩], s.next, s.ser + 1, s.en, s.st⟩) (KT.set HQ1.out.box 3 (.int .i64 ((s.ser : Int) + 1))) (heap_setN HQ1.out.box _) rfl rfl)
      have HQ4 := Lib.hid (HQ2.out.setCell (p := ⟨P, 3, none⟩) hq0 (.int .i64 ((s.ser : Int) + 1)))
      clear HQ1 HQ2 q3 z3 HC1 HB1 HX1
      generalize w6.setCell ⟨P, 3, none⟩ (.int .i64 ((s.ser : Int) + 1)) = w7 at *
      refine Calls.mono (top_any P F fs.length c _ HQ3.out.boxc.1 (by omega)) ?_
      rintro e w8 ⟨rfl, hb8⟩
      have HC8 := Lib.hid (HQ3.out.below hb8)
      have HB8 := Lib.hid (HQ4.out.trans (hb8.mono HQ3.out.base_le))
      clear hb8 HQ3 HQ4
      obtain ⟨F4, c4, es4, dg4, e5, _, e4, hF4, hFz4, _, _, ht4⟩ := FrO.top (show FrO w8 base _ (fs ++ [f]) _ by rw [← HF.out]; exact HC8.out.fr)
      injection e4 with e4 _ e4'
      injection e4 with e4
      injection e4 with e4
      subst e4 e4'
      have g3 := ht4.c3
      have gz := ht4.z (fs.length * 5 + 3)
      clear ht4 e5
      go_wp2_with fail
      have HC9 := Lib.hid (HC8.out.ph HF.out 2)
      rw [HF.out, setPh_snoc] at HC9
      have HB9 := Lib.hid (HB8.out.setCell (p := ⟨F, fs.length * 5 + 3, none⟩) hF (.int .i64 2))
      obtain ⟨k1, k2, _⟩ := HKP.out _ _ (HE1.out HMY.out)
      refine Calls.mono (settle_any base P (k + 1) (k + 1) _ tl _ ⟨_, _, _, _, HC9.out⟩ k2 k1 (by omega) (by omega) (by have := HL.out; omega)) ?_
      rintro e w10 ⟨rfl, ⟨r, l, hr, hp⟩, hb10⟩
      have HR := Lib.hid (EvR.go HF.out (HE1.out HMY.out) hr)
      have HP := Lib.hid hp
      have HB10 := Lib.hid (HB9.out.trans hb10)
      clear hr hp hb10 k1 k2
      go_wp2_with fail
      go_ret
      exact ⟨.inr ⟨rfl, _, _, HR.out, HP.out⟩, HB10.out⟩)
  · have b1 : mayB vk = false := by
      rcases hb : mayB vk with _ | _
      · rfl
      · exact absurd (may_iff.1 hb) hmay
    have HMY := Lib.hid hmay
    clear hmay
    go_enter Try.func41, Try.ntmps41
    go_wp2_with fail
    have HC0 := Lib.hid (HC.out.below (al (.cells #[.int .i64 4, .int .i64 en, .int .i64 vk, .int .i64 vn, .string vs, .slice A len cap] 51)))
    have HB0 := Lib.hid ((Below.refl base w).alloc HC.out.base_le (.cells #[.int .i64 4, .int .i64 en, .int .i64 vk, .int .i64 vn, .string vs, .slice A len cap] 51))
    refine Calls.mono (valueMay_any vk vn vs A len cap _) ?_
    rintro e w1 ⟨rfl, hb1⟩
    have HB1 := Lib.hid (HB0.out.trans (hb1.mono HC0.out.base_le))
    clear hb1
    go_wp2_with fail
    go_ret
    exact ⟨.inl ⟨rfl, .bad HF.out (HE0.out HMY.out)⟩, HB1.out⟩
end
end Go.Proofs.Ytapofohbngkekaa
