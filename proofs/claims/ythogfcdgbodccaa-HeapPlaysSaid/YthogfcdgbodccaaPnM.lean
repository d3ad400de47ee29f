/- What memory holds of a player: activations, panics, what is told. Conditions: none. -/
import Derived.Test.YthogfcdgbodccaaPnP
import Derived.WalkSmall
import Derived.Handy
import Derived.Lib.Hide
import Derived.Deep.RegionLaw
import Derived.Deep.DeepMust
import Derived.Deep.QuietTactic
import Derived.BigQuiet
set_option maxRecDepth 100000
namespace Go.Proofs.Ythogfcdgbodccaa
open Go.ChangeShapes Go.WideShapes Go.ChangeAt Go.RowKit
def frC (f : FR) (d : Value) : List Value := [.int .i64 f.id, .int .i64 f.mark, .int .i64 f.pan, .int .i64 f.ph, d]
def frL (l : List FR) (ds : List Value) : List Value := (List.zipWith frC l ds).flatten
def pnC (p : PN) : List Value := [.int .i64 p.ser, .int .i64 p.k, .int .i64 p.n, .string p.s, .slice none 0 0, .bool p.rcv, .bool p.ab]
def pnL (l : List PN) : List Value := (l.map pnC).flatten
def tlC (t : TL) : List Value := [.int .i64 t.kind, .int .i64 t.n, .int .i64 t.to, .int .i64 t.k, .int .i64 t.vn, .string t.s, .slice none 0 0]
def tlL (l : List TL) : List Value := (l.map tlC).flatten
theorem tlL_snoc (l : List TL) (t : TL) : tlL (l ++ [t]) = tlL l ++ tlC t := by simp [tlL]
theorem pnL_snoc (l : List PN) (p : PN) : pnL (l ++ [p]) = pnL l ++ pnC p := by simp [pnL]
theorem frL_snoc {l : List FR} {ds : List Value} (h : ds.length = l.length) (f : FR) (d : Value) : frL (l ++ [f]) (ds ++ [d]) = frL l ds ++ frC f d := by
  unfold frL
  rw [List.zipWith_append h.symm]
  simp
theorem frL_len {l : List FR} {ds : List Value} (h : ds.length = l.length) : (frL l ds).length = l.length * 5 := by
  unfold frL
  rw [flatten_len (k := 5) fun c hc => ?_]
  · simp [h]
  · obtain ⟨i, hi, rfl⟩ := List.mem_iff_getElem.1 hc
    simp [frC]
theorem pnL_len (l : List PN) : (pnL l).length = l.length * 7 := by
  unfold pnL
  rw [flatten_len (k := 7) fun c hc => ?_]
  · simp
  · obtain ⟨p, _, rfl⟩ := List.mem_map.1 hc; rfl
theorem tlL_len (l : List TL) : (tlL l).length = l.length * 7 := by
  unfold tlL
  rw [flatten_len (k := 7) fun c hc => ?_]
  · simp
  · obtain ⟨p, _, rfl⟩ := List.mem_map.1 hc; rfl
/-- What lies in a row's block is of its element's type. -/
theorem own_ty {w : World} {base n size b : Nat} {e : TypeId} {v : Value} {xs : List Value} (h : w.ownsRow base e size v n xs) (hb : v.ownBlock = some b) : ∃ cur, w.heap[b]? = some (.cells cur e (0, 0)) := by
  rcases h.2 with ⟨rfl, _⟩ | ⟨g, cap, cur, rfl, _, hh, _⟩
  · cases hb
  · injection hb with hb
    exact ⟨cur, by rw [← hb]; exact hh⟩
/-- Rows of two types lie in two blocks. -/
theorem own_ne {w : World} {base base' n n' size size' : Nat} {e e' : TypeId} {v v' : Value} {xs xs' : List Value} (h : w.ownsRow base e size v n xs) (h' : w.ownsRow base' e' size' v' n' xs') (he : e ≠ e') : ∀ b, v.ownBlock = some b → v'.ownBlock ≠ some b := by
  intro b h1 h2
  obtain ⟨c, e1⟩ := own_ty h h1
  obtain ⟨c', e2⟩ := own_ty h' h2
  rw [e1] at e2
  injection e2 with e2
  injection e2 with _ e2
  exact he e2
theorem own_neP {w : World} {base n size P : Nat} {e t : TypeId} {v : Value} {xs : List Value} {cs : Array Value} (h : w.ownsRow base e size v n xs) (hp : w.heap[P]? = some (.cells cs t (0, 0))) (he : e ≠ t) : v.ownBlock ≠ some P := by
  intro h1
  obtain ⟨c, e1⟩ := own_ty h h1
  rw [e1] at hp
  injection hp with e2
  injection e2 with _ e2
  exact he e2
/-- A block of another type than the row's. -/
theorem own_stay {w w' : World} {base n size : Nat} {e : TypeId} {v : Value} {xs : List Value} (h : w.ownsRow base e size v n xs) (hk : ∀ b, v.ownBlock = some b → w'.heap[b]? = w.heap[b]?) : w'.ownsRow base e size v n xs := by
  refine ⟨h.1, ?_⟩
  rcases h.2 with h2 | ⟨g, cap, cur, rfl, hg, hh, r⟩
  · exact .inl h2
  · exact .inr ⟨g, cap, cur, rfl, hg, (hk g rfl).trans hh, r⟩
theorem own_stayT {w w' : World} {base n size : Nat} {e : TypeId} {v : Value} {xs : List Value} (h : w.ownsRow base e size v n xs) (hk : ∀ (b : Nat) (cs : Array Value) (t : TypeId), w.heap[b]? = some (Obj.cells cs t (0, 0)) → t = e → w'.heap[b]? = w.heap[b]?) : w'.ownsRow base e size v n xs :=
  own_stay h fun b hb => by obtain ⟨c, e'⟩ := own_ty h hb; exact hk b c _ e' rfl
/-- Only blocks of the type t, and new ones, are turned. -/
def KT (t : TypeId) (w w' : World) : Prop := ∀ (b : Nat) (cs : Array Value) (t' : TypeId), w.heap[b]? = some (Obj.cells cs t' (0, 0)) → t' ≠ t → w'.heap[b]? = w.heap[b]?
theorem KT.row {w w' : World} {base n size : Nat} {e : TypeId} {v : Value} {xs : List Value} (h : w.ownsRow base e size v n xs) (hg : w.grownBy w' v.ownBlock) : KT e w w' := by
  intro b cs t' hb ht
  refine hg.block b (Array.getElem?_eq_some_iff.1 hb).1 fun hv => ?_
  obtain ⟨c, e1⟩ := own_ty h hv.symm
  rw [hb] at e1
  injection e1 with e1
  injection e1 with _ e1
  exact ht e1
theorem KT.set {w : World} {P : Nat} {cs : Array Value} {t : TypeId} {z : Nat × Nat} (hP : w.heap[P]? = some (.cells cs t z)) (j : Nat) (v : Value) : KT t w (w.setCell ⟨P, j, none⟩ v) := by
  intro b cs' t' hb ht
  refine Below.heap_setCell _ _ _ _ fun e => ht ?_
  have e' : b = P := e
  rw [e', hP] at hb
  injection hb with hb
  injection hb with _ hb
  exact hb.symm
theorem KT.alloc {w w' : World} {t : TypeId} {o : Obj} (h : KT t (w.alloc o) w') : KT t w w' := fun b cs t' hb ht =>
  (h b cs t' ((Lib.alloc_old _ _ _ (Array.getElem?_eq_some_iff.1 hb).1).trans hb) ht).trans (Lib.alloc_old _ _ _ (Array.getElem?_eq_some_iff.1 hb).1)
theorem KT.al {w : World} {t : TypeId} (o : Obj) : KT t w (w.alloc o) := fun _ _ _ hb _ => Lib.alloc_old _ _ _ (Array.getElem?_eq_some_iff.1 hb).1
theorem heap_setN {w : World} {g j : Nat} {cs : Array Value} {t : TypeId} (hg : w.heap[g]? = some (.cells cs t (0, 0))) (v : Value) : (w.setCell ⟨g, j, none⟩ v).heap[g]? = some (.cells (cs.setIfInBounds j v) t (0, 0)) := by
  simp [World.setCell, Array.getElem?_modify, hg]
theorem step_append_flat {P : Program} {ops : Array Oper} {o : Oper} {a : Act} {w : World} {K : Act → World → Prop} {Q : Exit → Act → World → Prop} {EE : Prop} (hgd : o.guard = none) (s x : Operand) (t : TypeId)
    (ho : o.op = .call { callee := .builtin .append, args := #[s, x], argTypes := #[t, t] })
    (base : Nat) (e : TypeId) (i : TypeInfo) (z : Value) (size bytes : Nat) (ht : P.underlying t = some (.slice e)) (hi : P.info? e = some i) (hz : i.zero = some z)
    (hsize : i.size = size) (hby : i.bytes = bytes) (hzs : z.cells.size = size) (hsz : 0 < size)
    (v : Value) (n : Nat) (xs : List Value) (hs : a.eval s = v) (hown : w.ownsRow base e size v n xs)
    (B : Nat) (A : Option Addr) (m c : Nat) (news : List Value) (hx : a.eval x = .slice A m c) (hr : Rd w B size A m news) (h1 : ∀ u ∈ news, u.oneCell' = true)
    (h63 : n + m ≤ maxLen) (hbytes : (n + m) * bytes ≤ 140737488355328) (hbase : base ≤ w.heap.size)
    (h : ∀ A' c' w', w'.ownsRow base e size (.slice A' (n + m) c') (n + m) (xs ++ news) → w.grownBy w' v.ownBlock → K (a.put o.dst (.slice A' (n + m) c')) w') : if Region.wanted o (yielded ops a.tmps) = true then Oper.wp P o a w K Q else EE := by
  have hw : Region.wanted o (yielded ops a.tmps) = true := by simp [Region.wanted, hgd]
  rw [if_pos hw]
  exact wp_append_rd w s x t ho base e i z size bytes ht hi hz hsize hby hzs hsz v n xs hs hown B A m c news hx hr h1 h63 hbytes hbase fun A' c' w' h2 h3 _ => h A' c' w' h2 h3
end Go.Proofs.Ythogfcdgbodccaa
