/- A code that is being read, in memory. Conditions: none. -/
import Derived.Test.YtjegfimagjmpdaaGreatDoorCrA
import Derived.Test.YtjegfimagjmpdaaGreatDoorCdK
import Derived.Deep.RegionLaw
set_option maxRecDepth 100000
namespace Go.Proofs.YtjegfimagjmpdaaGreatDoor
open Go.ChangeShapes Go.WideShapes Go.ChangeAt Go.RowKit
/-! ### Rows by their elements' types -/
theorem own_ty {w : World} {base n size b : Nat} {e : TypeId} {v : Value} {xs : List Value} (h : w.ownsRow base e size v n xs) (hb : v.ownBlock = some b) : ∃ cur, w.heap[b]? = some (.cells cur e (0, 0)) := by
  rcases h.2 with ⟨rfl, _⟩ | ⟨g, cap, cur, rfl, _, hh, _⟩
  · cases hb
  · injection hb with hb
    exact ⟨cur, by rw [← hb]; exact hh⟩
theorem own_stay {w w' : World} {base n size : Nat} {e : TypeId} {v : Value} {xs : List Value} (h : w.ownsRow base e size v n xs) (hk : ∀ b, v.ownBlock = some b → w'.heap[b]? = w.heap[b]?) : w'.ownsRow base e size v n xs := by
  refine ⟨h.1, ?_⟩
  rcases h.2 with h2 | ⟨g, cap, cur, rfl, hg, hh, r⟩
  · exact .inl h2
  · exact .inr ⟨g, cap, cur, rfl, hg, (hk g rfl).trans hh, r⟩
/-- Only blocks of the type t, and new ones, are turned. -/
def KT (t : TypeId) (w w' : World) : Prop := ∀ (b : Nat) (cs : Array Value) (t' : TypeId), w.heap[b]? = some (Obj.cells cs t' (0, 0)) → t' ≠ t → w'.heap[b]? = w.heap[b]?
theorem KT.row {w w' : World} {base n size : Nat} {e : TypeId} {v : Value} {xs : List Value} (h : w.ownsRow base e size v n xs) (hg : w.grownBy w' v.ownBlock) : KT e w w' := by
  intro b cs t' hb ht
  refine hg.block b (Array.getElem?_eq_some_iff.1 hb).1 fun hv => ?_
  obtain ⟨c, e1⟩ := own_ty h hv.symm
  rw [hb] at e1
  injection e1 with e1
  injection e1 with _ e1
  exact ht e1
theorem KT.set {w : World} {P : Nat} {cs : Array Value} {t : TypeId} {z : Nat × Nat} (hP : w.heap[P]? = some (.cells cs t z)) (j : Nat) (v : Value) : KT t w (w.setCell ⟨P, j, none⟩ v) := by
  intro b cs' t' hb ht
  refine Below.heap_setCell _ _ _ _ fun e => ht ?_
  have e' : b = P := e
  rw [e', hP] at hb
  injection hb with hb
  injection hb with _ hb
  exact hb.symm
theorem KT.alloc {w w' : World} {t : TypeId} {o : Obj} (h : KT t (w.alloc o) w') : KT t w w' := fun b cs t' hb ht =>
  (h b cs t' ((Lib.alloc_old _ _ _ (Array.getElem?_eq_some_iff.1 hb).1).trans hb) ht).trans (Lib.alloc_old _ _ _ (Array.getElem?_eq_some_iff.1 hb).1)
theorem KT.below {w w' : World} {t : TypeId} (h : Below w.heap.size w w') : KT t w w' := fun b _ _ hb _ => h.block b (Array.getElem?_eq_some_iff.1 hb).1
theorem row_kt {w w' : World} {base n size : Nat} {e t : TypeId} {v : Value} {xs : List Value} (h : w.ownsRow base e size v n xs) (hk : KT t w w') (he : e ≠ t) : w'.ownsRow base e size v n xs :=
  own_stay h fun b hb => by obtain ⟨c, e1⟩ := own_ty h hb; exact hk b c _ e1 he
theorem heap_setN {w : World} {g j : Nat} {cs : Array Value} {t : TypeId} (hg : w.heap[g]? = some (.cells cs t (0, 0))) (v : Value) : (w.setCell ⟨g, j, none⟩ v).heap[g]? = some (.cells (cs.setIfInBounds j v) t (0, 0)) := by
  simp [World.setCell, Array.getElem?_modify, hg]
theorem own_setC {w : World} {base g n c k size : Nat} {e : TypeId} {xs : List Value} (h : w.ownsRow base e size (.slice (some ⟨g, 0, none⟩) n c) n xs) (v : Value) : (w.setCell ⟨g, k, none⟩ v).ownsRow base e size (.slice (some ⟨g, 0, none⟩) n c) n (xs.set k v) := by
  obtain ⟨hl, h⟩ := h
  rcases h with ⟨h, _⟩ | ⟨g', cap, cur, h1, h2, h3, h4, h5, h6, h7⟩
  · cases h
  · injection h1 with h1 _ h1'
    injection h1 with h1
    injection h1 with h1
    subst h1 h1'
    refine ⟨by simpa using hl, .inr ⟨g, c, _, rfl, h2, heap_setN h3 v, h4, h5, by simpa using h6, ?_⟩⟩
    rw [Array.toList_setIfInBounds, List.take_set, h7]
theorem own_cellC {w : World} {base g n c k size : Nat} {e : TypeId} {xs : List Value} (h : w.ownsRow base e size (.slice (some ⟨g, 0, none⟩) n c) n xs) {u : Value} (hu : xs[k]? = some u) : w.cell? ⟨g, k, none⟩ = some u ∧ w.frozen? ⟨g, k, none⟩ = false ∧ base ≤ g ∧ g < w.heap.size := by
  obtain ⟨hl, h⟩ := h
  rcases h with ⟨h, _⟩ | ⟨g', cap, cur, h1, h2, h3, h4, h5, h6, h7⟩
  · cases h
  · injection h1 with h1 _ h1'
    injection h1 with h1
    injection h1 with h1
    subst h1 h1'
    refine ⟨?_, ?_, h2, (Array.getElem?_eq_some_iff.1 h3).1⟩
    · rw [Lib.cell_of_heap h3]
      show cur[k]? = some u
      rw [← Array.getElem?_toList]
      rw [← h7, List.getElem?_take] at hu
      split at hu
      · exact hu
      · cases hu
    · exact Lib.frozen_of_heap h3 k
/-! ### The rows -/
def inC (i : II) : List Value := [.int .i64 i.o, .int .i64 i.a, .int .i64 i.b, .int .i64 i.c, .int .i64 i.d, .int .i64 i.e]
def inL (l : List II) : List Value := (l.map inC).flatten
def fzC (f : FF) (d : Value) : List Value := [.string f.name, .int .i64 f.params, .int .i64 f.slots, .int .i64 f.caps, d]
def fzL (fs : List FF) (ds : List Value) : List Value := (List.zipWith fzC fs ds).flatten
theorem inL_snoc (l : List II) (x : II) : inL (l ++ [x]) = inL l ++ inC x := by unfold inL; simp
theorem fzL_snoc {fs : List FF} {ds : List Value} (h : ds.length = fs.length) (f : FF) (d : Value) : fzL (fs ++ [f]) (ds ++ [d]) = fzL fs ds ++ fzC f d := by
  unfold fzL
  rw [List.zipWith_append h.symm]
  simp
theorem fzL_len {fs : List FF} {ds : List Value} (h : ds.length = fs.length) : (fzL fs ds).length = fs.length * 5 := by
  unfold fzL
  rw [List.length_flatten, List.map_zipWith]
  induction fs generalizing ds with
  | nil => simp
  | cons f fs ih =>
    cases ds with
    | nil => simp at h
    | cons d ds =>
      rw [List.zipWith_cons_cons, List.sum_cons, ih (by simpa using h)]
      simp [fzC]
      omega
def I6 (z : Int) : Prop := -9223372036854775808 ≤ z ∧ z ≤ 9223372036854775807
def Ri (x : II) : Prop := I6 x.o ∧ I6 x.a ∧ I6 x.b ∧ I6 x.c ∧ I6 x.d ∧ I6 x.e
def Rf (f : FF) : Prop := I6 f.params ∧ I6 f.slots ∧ I6 f.caps ∧ f.name.size ≤ 1048576 ∧ ∀ x ∈ f.ins, Ri x
/-- A code in the box g, its rows in blocks from 'base' on. -/
structure CdC (base g : Nat) (K : KK) (fv tv : Value) (ds : List Value) (w : World) : Prop where
  box : w.heap[g]? = some (.cells #[fv, tv] 25 (0, 0))
  row : w.ownsRow base 44 5 fv K.funcs.length (fzL K.funcs ds)
  len : ds.length = K.funcs.length
  dr : ∀ (i : Nat) (f : FF) (d : Value), K.funcs[i]? = some f → ds[i]? = some d → w.ownsRow base 47 6 d f.ins.length (inL f.ins)
  dis : ∀ (i j : Nat) (d d' : Value) (b : Nat), ds[i]? = some d → ds[j]? = some d' → d.ownBlock = some b → d'.ownBlock = some b → i = j
  tx : w.ownsRow base 9 1 tv K.texts.length (K.texts.map Value.string)
  rf : ∀ f ∈ K.funcs, Rf f
  rt : ∀ s ∈ K.texts, s.size ≤ 1048576
def CdO (base g : Nat) (K : KK) (w : World) : Prop := ∃ fv tv ds, CdC base g K fv tv ds w
theorem tne1 : (9 : TypeId) ≠ 25 := by decide
theorem tne2 : (9 : TypeId) ≠ 44 := by decide
theorem tne3 : (9 : TypeId) ≠ 47 := by decide
theorem tne4 : (25 : TypeId) ≠ 44 := by decide
theorem tne5 : (25 : TypeId) ≠ 47 := by decide
theorem tne6 : (44 : TypeId) ≠ 47 := by decide
section
variable {base g : Nat} {K : KK} {fv tv : Value} {ds : List Value} {w w' : World}
theorem CdC.start (hg : w.heap[g]? = some (.cells #[.slice none 0 0, .slice none 0 0] 25 (0, 0))) : CdC base g ⟨[], []⟩ (.slice none 0 0) (.slice none 0 0) [] w :=
  ⟨hg, World.ownsRow_nil _ _ _ _, rfl, fun i f d h _ => by simp at h, fun i j d d' b h _ _ _ => by simp at h, World.ownsRow_nil _ _ _ _, fun f h => by simp at h, fun f h => by simp at h⟩
theorem CdC.below (h : CdC base g K fv tv ds w) (hb : Below w.heap.size w w') : CdC base g K fv tv ds w' :=
  ⟨(hb.block g (Array.getElem?_eq_some_iff.1 h.box).1).trans h.box, own_stay h.row (fun b hk => hb.block b (h.row.lt b hk).2), h.len, fun i f d hf hd => own_stay (h.dr i f d hf hd) (fun b hk => hb.block b ((h.dr i f d hf hd).lt b hk).2), h.dis, own_stay h.tx (fun b hk => hb.block b (h.tx.lt b hk).2), h.rf, h.rt⟩
/-- A store into another box. -/
theorem CdC.apart (h : CdC base g K fv tv ds w) {P : Nat} {cs : Array Value} (hP : w.heap[P]? = some (.cells cs 25 (0, 0))) (hne : P ≠ g) (j : Nat) (v : Value) : CdC base g K fv tv ds (w.setCell ⟨P, j, none⟩ v) :=
  have hk := KT.set hP j v
  ⟨(Below.heap_setCell _ _ _ _ (fun e => hne (by have e' : g = P := e; exact e'.symm))).trans h.box, row_kt h.row hk (Ne.symm tne4), h.len, fun i f d hf hd => row_kt (h.dr i f d hf hd) hk (Ne.symm tne5), h.dis, row_kt h.tx hk tne1, h.rf, h.rt⟩
theorem CdC.c0 (h : CdC base g K fv tv ds w) : w.cell? ⟨g, 0, none⟩ = some fv := by rw [Lib.cell_of_heap h.box]; rfl
theorem CdC.c1 (h : CdC base g K fv tv ds w) : w.cell? ⟨g, 1, none⟩ = some tv := by rw [Lib.cell_of_heap h.box]; rfl
theorem CdC.lt (h : CdC base g K fv tv ds w) : g < w.heap.size := (Array.getElem?_eq_some_iff.1 h.box).1
theorem CdC.fz (h : CdC base g K fv tv ds w) (j : Nat) : w.frozen? ⟨g, j, none⟩ = false := Lib.frozen_of_heap h.box j
/-- A text more. -/
theorem CdC.text (h : CdC base g K fv tv ds w) {o : Obj} {A' : Option Addr} {c' n : Nat} {t : ByteArray} (hn : n = K.texts.length) (hown : w'.ownsRow base 9 1 (.slice A' (n + 1) c') (n + 1) (K.texts.map Value.string ++ [.string t])) (hg : (w.alloc o).grownBy w' tv.ownBlock) (ht : t.size ≤ 1048576) :
    CdC base g { K with texts := K.texts ++ [t] } fv (.slice A' (n + 1) c') ds (w'.setCell ⟨g, 1, none⟩ (.slice A' (n + 1) c')) := by
  subst hn
  have k1 : KT 9 w w' := (KT.row (h.tx.alloc o) hg).alloc
  have b1 : w'.heap[g]? = some (.cells #[fv, tv] 25 (0, 0)) := (k1 g _ _ h.box (Ne.symm tne1)).trans h.box
  have k2 := KT.set b1 1 (.slice A' (K.texts.length + 1) c')
  refine ⟨heap_setN b1 _, row_kt (row_kt h.row k1 (Ne.symm tne2)) k2 (Ne.symm tne4), h.len, fun i f d hf hd => row_kt (row_kt (h.dr i f d hf hd) k1 (Ne.symm tne3)) k2 (Ne.symm tne5), h.dis, ?_, h.rf, ?_⟩
  · have e : (K.texts ++ [t]).length = K.texts.length + 1 := by simp
    show World.ownsRow _ _ _ _ _ (K.texts ++ [t]).length ((K.texts ++ [t]).map Value.string)
    rw [e, List.map_append]
    exact row_kt hown k2 tne1
  · intro s hs
    rcases List.mem_append.1 hs with hs | hs
    · exact h.rt s hs
    · rw [List.mem_singleton.1 hs]
      exact ht
/-- A function more. -/
theorem CdC.func (h : CdC base g K fv tv ds w) {o : Obj} {A' : Option Addr} {c' n : Nat} {f : FF} (hn : n = K.funcs.length) (hown : w'.ownsRow base 44 5 (.slice A' (n + 1) c') (n + 1) (fzL K.funcs ds ++ fzC f (.slice none 0 0))) (hg : (w.alloc o).grownBy w' fv.ownBlock) (hf : Rf f) (hi : f.ins = []) :
    CdC base g { K with funcs := K.funcs ++ [f] } (.slice A' (n + 1) c') tv (ds ++ [.slice none 0 0]) (w'.setCell ⟨g, 0, none⟩ (.slice A' (n + 1) c')) := by
  subst hn
  have k1 : KT 44 w w' := (KT.row (h.row.alloc o) hg).alloc
  have b1 : w'.heap[g]? = some (.cells #[fv, tv] 25 (0, 0)) := (k1 g _ _ h.box tne4).trans h.box
  have k2 := KT.set b1 0 (.slice A' (K.funcs.length + 1) c')
  refine ⟨heap_setN b1 _, ?_, by simp [h.len], ?_, ?_, row_kt (row_kt h.tx k1 tne2) k2 tne1, ?_, h.rt⟩
  · have e : (K.funcs ++ [f]).length = K.funcs.length + 1 := by simp
    show World.ownsRow _ _ _ _ _ (K.funcs ++ [f]).length (fzL (K.funcs ++ [f]) (ds ++ [.slice none 0 0]))
    rw [e, fzL_snoc h.len]
    exact row_kt hown k2 (Ne.symm tne4)
  · intro i f' d hf' hd
    have hf' : (K.funcs ++ [f])[i]? = some f' := hf'
    by_cases hlt : i < K.funcs.length
    · rw [List.getElem?_append_left hlt] at hf'
      rw [List.getElem?_append_left (by rw [h.len]; exact hlt)] at hd
      exact row_kt (row_kt (h.dr i f' d hf' hd) k1 (Ne.symm tne6)) k2 (Ne.symm tne5)
    · have hil := (List.getElem?_eq_some_iff.1 hf').1
      have hi0 : i = K.funcs.length := by simp at hil; omega
      subst hi0
      rw [List.getElem?_concat_length] at hf'
      rw [← h.len, List.getElem?_concat_length] at hd
      injection hf' with hf'
      injection hd with hd
      subst hf' hd
      rw [hi]
      exact World.ownsRow_nil _ _ _ _
  · intro i j d d' b hd hd' hb hb'
    have key : ∀ (i : Nat) (d : Value), (ds ++ [Value.slice none 0 0])[i]? = some d → d.ownBlock = some b → ds[i]? = some d := fun i d hd hb => by
      by_cases hlt : i < ds.length
      · rwa [List.getElem?_append_left hlt] at hd
      · have hil := (List.getElem?_eq_some_iff.1 hd).1
        have hi0 : i = ds.length := by simp at hil; omega
        subst hi0
        rw [List.getElem?_concat_length] at hd
        injection hd with hd
        subst hd
        cases hb
    exact h.dis i j d d' b (key i d hd hb) (key j d' hd' hb') hb hb'
  · intro f' hf'
    rcases List.mem_append.1 hf' with hf' | hf'
    · exact h.rf f' hf'
    · rw [List.mem_singleton.1 hf']
      exact hf
/-- The last function, and where its instructions stand. -/
structure LastC (base g : Nat) (K : KK) (b c : Nat) (F : List FF) (f : FF) (D : List Value) (d tv : Value) (w : World) : Prop where
  fs : K.funcs = F ++ [f]
  cd : CdC base g K (.slice (some ⟨b, 0, none⟩) (F.length + 1) c) tv (D ++ [d]) w
  len : D.length = F.length
theorem CdC.last (h : CdC base g K fv tv ds w) (hf : K.funcs ≠ []) : ∃ b c F f D d, fv = .slice (some ⟨b, 0, none⟩) (F.length + 1) c ∧ ds = D ++ [d] ∧ LastC base g K b c F f D d tv w := by
  have e := List.dropLast_concat_getLast hf
  have hl : K.funcs.length = K.funcs.dropLast.length + 1 := by rw [← e]; simp
  have hdn : ds ≠ [] := fun e => by
    have := h.len
    rw [e] at this
    exact hf (List.length_eq_zero_iff.1 this.symm)
  have e2 := List.dropLast_concat_getLast hdn
  have hr := h.row
  rcases hr.2 with ⟨_, h0⟩ | ⟨b, c, cur, hv, _⟩
  · exfalso
    have := hr.1
    rw [h0] at this
    simp at this
    omega
  · refine ⟨b, c, K.funcs.dropLast, K.funcs.getLast hf, ds.dropLast, ds.getLast hdn, by rw [hv, hl], e2.symm, e.symm, ?_, by simp [h.len]⟩
    rw [e2, ← hl, ← hv]
    exact h
end
section
variable {base g b c : Nat} {K : KK} {F : List FF} {f : FF} {D : List Value} {d tv : Value} {w w' : World}
theorem LastC.at4 (h : LastC base g K b c F f D d tv w) : w.cell? ⟨b, F.length * 5 + 4, none⟩ = some d ∧ w.frozen? ⟨b, F.length * 5 + 4, none⟩ = false ∧ base ≤ b ∧ b < w.heap.size := by
  have hr := h.cd.row
  rw [h.fs, List.length_append, List.length_singleton, fzL_snoc h.len] at hr
  refine own_cellC hr ?_
  rw [List.getElem?_append_right (by rw [fzL_len h.len]; omega), fzL_len h.len]
  simp [fzC]
theorem LastC.own (h : LastC base g K b c F f D d tv w) : w.ownsRow base 47 6 d f.ins.length (inL f.ins) :=
  h.cd.dr F.length f d (by rw [h.fs, List.getElem?_concat_length]) (by rw [← h.len, List.getElem?_concat_length])
/-- An instruction more. -/
theorem LastC.ins (h : LastC base g K b c F f D d tv w) {o : Obj} {d' : Value} {m : Nat} {x : II} (hm : m = f.ins.length) (hown : w'.ownsRow base 47 6 d' (m + 1) (inL f.ins ++ inC x)) (hg : (w.alloc o).grownBy w' d.ownBlock) (hob : d'.ownBlock = d.ownBlock ∨ d'.ownBlock = some (w.alloc o).heap.size) (hx : Ri x) :
    CdC base g { K with funcs := addIns K.funcs x } (.slice (some ⟨b, 0, none⟩) (F.length + 1) c) tv (D ++ [d']) (w'.setCell ⟨b, F.length * 5 + 4, none⟩ d') := by
  subst hm
  have ea : addIns K.funcs x = F ++ [{ f with ins := f.ins ++ [x] }] := by
    unfold addIns
    rw [h.fs, List.dropLast_concat, List.getLast?_concat]
    rfl
  rw [ea]
  have hgs : ∀ k, k < w.heap.size → d.ownBlock ≠ some k → w'.heap[k]? = w.heap[k]? := fun k hk hne => (hg.block k (by simp; omega) (fun e => hne e.symm)).trans (Lib.alloc_old _ _ _ hk)
  have k1 : KT 47 w w' := (KT.row (h.own.alloc o) hg).alloc
  have hr0 := h.cd.row
  have hr1 := row_kt hr0 k1 tne6
  obtain ⟨cur, hcb⟩ := own_ty hr1 rfl
  have k2 := KT.set hcb (F.length * 5 + 4) d'
  have hgl := h.cd.lt
  refine ⟨?_, ?_, by simp [h.len], ?_, ?_, row_kt (row_kt h.cd.tx k1 tne3) k2 tne2, ?_, h.cd.rt⟩
  · have b1 := (k1 g _ _ h.cd.box tne5).trans h.cd.box
    exact (k2 g _ _ b1 tne4).trans b1
  · have e : (F ++ [{ f with ins := f.ins ++ [x] }]).length = F.length + 1 := by simp
    rw [h.fs, List.length_append, List.length_singleton] at hr1
    have h2 := own_setC (k := F.length * 5 + 4) hr1 d'
    show World.ownsRow _ _ _ _ _ (F ++ [{ f with ins := f.ins ++ [x] }]).length (fzL (F ++ [{ f with ins := f.ins ++ [x] }]) (D ++ [d']))
    rw [e, fzL_snoc h.len]
    rw [fzL_snoc h.len, List.set_append_right _ _ (by rw [fzL_len h.len]; omega), fzL_len h.len] at h2
    have e5 : F.length * 5 + 4 - F.length * 5 = 4 := by omega
    rw [e5] at h2
    exact h2
  · intro i f' d0 hf' hd
    have hf' : (F ++ [{ f with ins := f.ins ++ [x] }])[i]? = some f' := hf'
    by_cases hlt : i < F.length
    · rw [List.getElem?_append_left hlt] at hf'
      rw [List.getElem?_append_left (by rw [h.len]; exact hlt)] at hd
      have hf2 : K.funcs[i]? = some f' := by rw [h.fs, List.getElem?_append_left hlt]; exact hf'
      have hd2 : (D ++ [d])[i]? = some d0 := by rw [List.getElem?_append_left (by rw [h.len]; exact hlt)]; exact hd
      have hro := h.cd.dr i f' d0 hf2 hd2
      refine row_kt (own_stay hro fun k hk => hgs k (hro.lt k hk).2 fun e => ?_) k2 (Ne.symm tne6)
      have := h.cd.dis i D.length d0 d k hd2 (by rw [List.getElem?_concat_length]) hk e
      have := h.len
      omega
    · have hil := (List.getElem?_eq_some_iff.1 hf').1
      have hi0 : i = F.length := by simp at hil; omega
      subst hi0
      rw [List.getElem?_concat_length] at hf'
      rw [← h.len, List.getElem?_concat_length] at hd
      injection hf' with hf'
      injection hd with hd
      subst hf' hd
      have e : (f.ins ++ [x]).length = f.ins.length + 1 := by simp
      show World.ownsRow _ _ _ _ _ (f.ins ++ [x]).length (inL (f.ins ++ [x]))
      rw [e, inL_snoc]
      exact row_kt hown k2 (Ne.symm tne6)
  · intro i j e1 e2 k h1 h2 hk1 hk2
    have key : ∀ (i : Nat) (e : Value), (D ++ [d'])[i]? = some e → e.ownBlock = some k → (i < D.length ∧ D[i]? = some e) ∨ (i = D.length ∧ e = d') := fun i e he _ => by
      by_cases hlt : i < D.length
      · rw [List.getElem?_append_left hlt] at he
        exact .inl ⟨hlt, he⟩
      · have hil := (List.getElem?_eq_some_iff.1 he).1
        have hi0 : i = D.length := by simp at hil; omega
        subst hi0
        rw [List.getElem?_concat_length] at he
        injection he with he
        exact .inr ⟨rfl, he.symm⟩
    have old : ∀ (i : Nat) (e : Value), i < D.length → D[i]? = some e → e.ownBlock = some k → d'.ownBlock = some k → False := fun i e hi he hk hk' => by
      have he2 : (D ++ [d])[i]? = some e := by rw [List.getElem?_append_left hi]; exact he
      rcases hob with ho | ho
      · rw [ho] at hk'
        have := h.cd.dis i D.length e d k he2 (by rw [List.getElem?_concat_length]) hk hk'
        omega
      · rw [ho] at hk'
        injection hk' with hk'
        have hfi : i < K.funcs.length := by rw [h.fs]; simp; have := h.len; omega
        have := ((h.cd.dr i K.funcs[i] e (List.getElem?_eq_getElem hfi) he2).lt k hk).2
        simp at hk'
        omega
    rcases key i e1 h1 hk1 with ⟨a1, a2⟩ | ⟨rfl, rfl⟩ <;> rcases key j e2 h2 hk2 with ⟨a3, a4⟩ | ⟨rfl, rfl⟩
    · exact h.cd.dis i j e1 e2 k (by rw [List.getElem?_append_left a1]; exact a2) (by rw [List.getElem?_append_left a3]; exact a4) hk1 hk2
    · exact (old i e1 a1 a2 hk1 hk2).elim
    · exact (old j e2 a3 a4 hk2 hk1).elim
    · rfl
  · intro f' hf'
    rcases List.mem_append.1 hf' with hf' | hf'
    · exact h.cd.rf f' (by rw [h.fs]; simp [hf'])
    · rw [List.mem_singleton.1 hf']
      obtain ⟨r1, r2, r3, r4, r5⟩ := h.cd.rf f (by rw [h.fs]; simp)
      refine ⟨r1, r2, r3, r4, fun y hy => ?_⟩
      rcases List.mem_append.1 hy with hy | hy
      · exact r5 y hy
      · rw [List.mem_singleton.1 hy]
        exact hx
end
/-! ### What is read at the end -/
theorem inL_rd {w : World} {base m : Nat} {d : Value} {l : List II} (hr : w.ownsRow base 47 6 d m (inL l)) (hm : m = l.length) (hx : ∀ x ∈ l, Ri x) : ∃ A c, d = .slice A l.length c ∧ RdM w (· < w.heap.size) II.sh.size A l.length (l.map inC).flatten ∧ II.sh.all w (· < w.heap.size) (l.map inC) l ∧ l.length ≤ c ∧ c ≤ maxLen ∧ (c = 0 ∨ A ≠ none) := by
  subst hm
  obtain ⟨A, c, rfl⟩ := own_form hr
  obtain ⟨q1, q2, q3⟩ := own_cap hr
  refine ⟨A, c, rfl, (RdM.of_own hr).more fun b hb => hb.2, ⟨by simp, fun i cs x hc hx' => ?_⟩, q1, q2, q3⟩
  rw [List.getElem?_map, hx'] at hc
  injection hc with hc
  subst hc
  obtain ⟨r0, r1, r2, r3, r4, r5⟩ := hx x (List.mem_of_getElem? hx')
  exact II.intro r0 r1 r2 r3 r4 r5
theorem CdC.kr {base g : Nat} {K : KK} {FA TA : Option Addr} {n m fc tc : Nat} {ds : List Value} {w : World} (h : CdC base g K (.slice FA n fc) (.slice TA m tc) ds w) (hc : cntK K ≤ 1048577) : KR w w.heap.size FA TA K := by
  have hcn : K.texts.length ≤ 1048577 ∧ (K.funcs.map fun f => 1 + f.ins.length).sum ≤ 1048577 := by unfold cntK at hc; omega
  have hfl : ∀ (l : List FF), l.length ≤ (l.map fun f => 1 + f.ins.length).sum ∧ ∀ f ∈ l, f.ins.length ≤ (l.map fun f => 1 + f.ins.length).sum := by
    intro l
    induction l with
    | nil => simp
    | cons a l ih =>
      simp only [List.length_cons, List.map_cons, List.sum_cons]
      refine ⟨by omega, fun f hf => ?_⟩
      rcases List.mem_cons.1 hf with rfl | hf
      · omega
      · have := ih.2 f hf
        omega
  obtain ⟨hf1, hf2⟩ := hfl K.funcs
  have ha : FF.sh.all w (· < w.heap.size) (List.zipWith fzC K.funcs ds) K.funcs := by
    refine ⟨by simp [h.len], fun i cs f hc hf => ?_⟩
    rw [List.getElem?_zipWith_eq_some] at hc
    obtain ⟨f', d, hf', hd, rfl⟩ := hc
    rw [hf] at hf'
    injection hf' with hf'
    subst hf'
    obtain ⟨r1, r2, r3, r4, r5⟩ := h.rf f (List.mem_of_getElem? hf)
    obtain ⟨A, c, rfl, q1, q2, q3⟩ := inL_rd (h.dr i f d hf hd) rfl r5
    exact FF.intro r1 r2 r3 q1 q2 q3
  have hn : n = K.funcs.length := by
    obtain ⟨A, c, e⟩ := own_form h.row
    injection e with _ e
  have hm : m = K.texts.length := by
    obtain ⟨A, c, e⟩ := own_form h.tx
    injection e with _ e
  subst hn hm
  refine ⟨fun k f hf => KK.fn ((RdM.of_own h.row).more fun b hb => hb.2) ha rfl hf, (RdM.of_own h.tx).rd (fun b hb => hb.2), fun s hs => by have := h.rt s hs; omega, fun f hf => by have := (h.rf f hf).2.2.2.1; omega, by omega, by omega, fun f hf => by have := hf2 f hf; omega⟩
theorem CdO.form {base g : Nat} {K : KK} {w : World} (h : CdO base g K w) : ∃ FA fc TA tc ds, CdC base g K (.slice FA K.funcs.length fc) (.slice TA K.texts.length tc) ds w := by
  obtain ⟨fv, tv, ds, h⟩ := h
  obtain ⟨FA, fc, rfl⟩ := own_form h.row
  obtain ⟨TA, tc, rfl⟩ := own_form h.tx
  exact ⟨FA, fc, TA, tc, ds, h⟩
end Go.Proofs.YtjegfimagjmpdaaGreatDoor
