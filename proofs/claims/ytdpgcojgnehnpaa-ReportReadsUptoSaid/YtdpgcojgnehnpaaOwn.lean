/- Slices of the call's own, of anything: append; an element of a slice. Conditions: none. -/
import Derived.Test.YtdpgcojgnehnpaaShape
import Derived.Test.YtdpgcojgnehnpaaRow
set_option maxRecDepth 20000
namespace Go.Proofs.Ytdpgcojgnehnpaa
open Go.ChangeShapes Go.WideShapes Go.ChangeAt Go.RowKit
section
variable {X : Type} {S : Shp X} {P : Program} {w : World}
theorem wp_append_Own {o : Oper} {a : Act} {K : Act → World → Prop} {Q : Exit → Act → World → Prop} (s x : Operand) (t : TypeId)
    (ho : o.op = .call { callee := .builtin .append, args := #[s, x], argTypes := #[t, t] })
    (base : Nat) (e : TypeId) (i : TypeInfo) (z : Value) (bytes : Nat) (ht : P.underlying t = some (.slice e)) (hi : P.info? e = some i) (hz : i.zero = some z)
    (hsize : i.size = S.size) (hby : i.bytes = bytes) (hzs : z.cells.size = S.size) (hsz : 0 < S.size) (E : Nat → Prop)
    (v : Value) (xs : List X) (hs : a.eval s = v) (hown : Own S e w base E v xs)
    (B : Nat) (A : Option Addr) (m c : Nat) (news : List Value) (ess' : List (List Value)) (ys : List X) (hx : a.eval x = .slice A m c) (hr : Rd w B S.size A m news) (hnews : news = ess'.flatten) (hm : m = ys.length) (hall : S.all w (fun b => b < w.heap.size ∧ some b ≠ v.ownBlock ∧ ¬ E b) ess' ys)
    (h63 : xs.length + m ≤ maxLen) (hbytes : (xs.length + m) * bytes ≤ 140737488355328) (hbase : base ≤ w.heap.size)
    (h : ∀ A' c' w', Own S e w' base E (.slice A' (xs.length + m) c') (xs ++ ys) → w.grownBy w' v.ownBlock → ((Value.slice A' (xs.length + m) c').ownBlock = v.ownBlock ∨ (Value.slice A' (xs.length + m) c').ownBlock = some w.heap.size) → K (a.put o.dst (.slice A' (xs.length + m) c')) w') : o.wp P a w K Q := by
  obtain ⟨A0, c0, ess, hv, ho0, hall0⟩ := hown
  refine wp_append_rd w s x t ho base e i z S.size bytes ht hi hz hsize hby hzs hsz v xs.length ess.flatten hs ho0 B A m c news hx hr ?_ h63 hbytes hbase fun A' c' w' h2 h3 h4 => h A' c' w' ?_ h3 h4
  · rw [hnews]; exact hall.oneCell
  · refine ⟨A', c', ess ++ ess', by rw [List.length_append, hm], by rw [List.flatten_append, List.length_append, ← hnews, ← hm]; exact h2, ?_⟩
    refine ((hall0.app hall).keep fun p hp => World.cell?_of_block (h3.block p.block hp.1 hp.2.1)).more fun b hb => ⟨Nat.lt_of_lt_of_le hb.1 h3.size, ?_, hb.2.2⟩
    rcases h4 with h4 | h4
    · rw [h4]; exact hb.2.1
    · rw [h4]; intro e; injection e with e; have := hb.1; omega
theorem wpList_append_Own {ops : Array Oper} {rest : List Oper} {o : Oper} {a : Act} {Q : Exit → Act → World → Prop} (hgd : o.guard = none) (s x : Operand) (t : TypeId)
    (ho : o.op = .call { callee := .builtin .append, args := #[s, x], argTypes := #[t, t] })
    (base : Nat) (e : TypeId) (i : TypeInfo) (z : Value) (bytes : Nat) (ht : P.underlying t = some (.slice e)) (hi : P.info? e = some i) (hz : i.zero = some z)
    (hsize : i.size = S.size) (hby : i.bytes = bytes) (hzs : z.cells.size = S.size) (hsz : 0 < S.size) (E : Nat → Prop)
    (v : Value) (xs : List X) (hs : a.eval s = v) (hown : Own S e w base E v xs)
    (B : Nat) (A : Option Addr) (m c : Nat) (news : List Value) (ess' : List (List Value)) (ys : List X) (hx : a.eval x = .slice A m c) (hr : Rd w B S.size A m news) (hnews : news = ess'.flatten) (hm : m = ys.length) (hall : S.all w (fun b => b < w.heap.size ∧ some b ≠ v.ownBlock ∧ ¬ E b) ess' ys)
    (h63 : xs.length + m ≤ maxLen) (hbytes : (xs.length + m) * bytes ≤ 140737488355328) (hbase : base ≤ w.heap.size)
    (h : ∀ A' c' w', Own S e w' base E (.slice A' (xs.length + m) c') (xs ++ ys) → w.grownBy w' v.ownBlock → ((Value.slice A' (xs.length + m) c').ownBlock = v.ownBlock ∨ (Value.slice A' (xs.length + m) c').ownBlock = some w.heap.size) → wpList P ops Q rest (a.put o.dst (.slice A' (xs.length + m) c')) w') : wpList P ops Q (o :: rest) a w :=
  wpList_plain hgd fun _ hK => wp_append_Own s x t ho base e i z bytes ht hi hz hsize hby hzs hsz E v xs hs hown B A m c news ess' ys hx hr hnews hm hall h63 hbytes hbase fun A' c' w' h2 h3 h4 => hK _ _ (h A' c' w' h2 h3 h4)
/-- At a step of a region that draws its order. -/
theorem step_append_Own {ops : Array Oper} {o : Oper} {a : Act} {K : Act → World → Prop} {Q : Exit → Act → World → Prop} {EE : Prop} (hgd : o.guard = none) (s x : Operand) (t : TypeId)
    (ho : o.op = .call { callee := .builtin .append, args := #[s, x], argTypes := #[t, t] })
    (base : Nat) (e : TypeId) (i : TypeInfo) (z : Value) (bytes : Nat) (ht : P.underlying t = some (.slice e)) (hi : P.info? e = some i) (hz : i.zero = some z)
    (hsize : i.size = S.size) (hby : i.bytes = bytes) (hzs : z.cells.size = S.size) (hsz : 0 < S.size) (E : Nat → Prop)
    (v : Value) (xs : List X) (hs : a.eval s = v) (hown : Own S e w base E v xs)
    (B : Nat) (A : Option Addr) (m c : Nat) (news : List Value) (ess' : List (List Value)) (ys : List X) (hx : a.eval x = .slice A m c) (hr : Rd w B S.size A m news) (hnews : news = ess'.flatten) (hm : m = ys.length) (hall : S.all w (fun b => b < w.heap.size ∧ some b ≠ v.ownBlock ∧ ¬ E b) ess' ys)
    (h63 : xs.length + m ≤ maxLen) (hbytes : (xs.length + m) * bytes ≤ 140737488355328) (hbase : base ≤ w.heap.size)
    (h : ∀ A' c' w', Own S e w' base E (.slice A' (xs.length + m) c') (xs ++ ys) → w.grownBy w' v.ownBlock → ((Value.slice A' (xs.length + m) c').ownBlock = v.ownBlock ∨ (Value.slice A' (xs.length + m) c').ownBlock = some w.heap.size) → K (a.put o.dst (.slice A' (xs.length + m) c')) w') : if Region.wanted o (yielded ops a.tmps) = true then Oper.wp P o a w K Q else EE := by
  have hw : Region.wanted o (yielded ops a.tmps) = true := by simp [Region.wanted, hgd]
  rw [if_pos hw]
  exact wp_append_Own s x t ho base e i z bytes ht hi hz hsize hby hzs hsz E v xs hs hown B A m c news ess' ys hx hr hnews hm hall h63 hbytes hbase h
/-- An element of a slice. -/
theorem Shp.elem {M : Nat → Prop} {A : Option Addr} {n : Nat} {ess : List (List Value)} {xs : List X} (hr : RdM w M S.size A n ess.flatten) (hall : S.all w M ess xs) {i : Nat} (hi : i < n) (hn : n = xs.length) :
    ∃ b off cs x, A = some ⟨b, off, none⟩ ∧ M b ∧ xs[i]? = some x ∧ S.rd w M cs x ∧ ∀ k u, cs[k]? = some u → w.cell? ⟨b, off + i * S.size + k, none⟩ = some u := by
  obtain ⟨b, off, rfl, hb, hc⟩ := hr.2 (by omega)
  have hl : i < ess.length := by rw [hall.1]; omega
  have hx : i < xs.length := by omega
  refine ⟨b, off, ess[i], xs[i], rfl, hb, List.getElem?_eq_getElem hx, hall.2 i _ _ (List.getElem?_eq_getElem hl) (List.getElem?_eq_getElem hx), fun k u hu => by rw [Nat.add_assoc]; exact hc _ u (by
    have hk : k < S.size := by
      have h1 := (List.getElem?_eq_some_iff.1 hu).1
      have h2 := hall.each ess[i] (List.getElem_mem hl)
      omega
    rw [flat_at hall.each _ _ hk, List.getElem?_eq_getElem hl]
    exact hu)⟩
/-- One element, laid in a block of its own for an append. -/
theorem Rd.one (w : World) (cs : Array Value) (t : TypeId) (size : Nat) (hs : cs.size = size) (g : Nat) (hg : g = w.heap.size) : Rd (w.alloc (.cells cs t)) (w.heap.size + 1) size (some ⟨g, 0, none⟩) 1 cs.toList := by
  subst hg
  exact Rd.lit w cs t 1 size (by simpa using hs)
theorem Shp.all1 {M : Nat → Prop} {cs : List Value} {x : X} (h : S.rd w M cs x) : S.all w M [cs] [x] := Shp.all.nil.snoc h
/-- What is owned, and a new element that lies in newer memory. -/
theorem Own.fresh {wr W : World} {base : Nat} {t : TypeId} {E : Nat → Prop} {v : Value} {xs : List X} {cs : List Value} {x : X} (h : Own S t wr base E v xs) (hb : Below wr.heap.size wr W) (hrd : S.rd W (fun b => wr.heap.size ≤ b ∧ b < W.heap.size) cs x) (hE : ∀ b, E b → b < wr.heap.size) :
    Own S t W base E v xs ∧ S.all W (fun b => b < W.heap.size ∧ some b ≠ v.ownBlock ∧ ¬ E b) [cs] [x] := by
  refine ⟨h.below hb, Shp.all1 (S.more hrd fun b hb' => ⟨hb'.2, ?_, fun he => ?_⟩)⟩
  · obtain ⟨_, _, _, _, ho, _⟩ := h
    intro e
    have := (ho.lt b e.symm).2
    omega
  · have := hE b he
    omega
/-- A row of the call's own, behind a store into an older block and a new one. -/
theorem RdM.put {w3 : World} {base g j size n : Nat} {u : Value} {o1 : Obj} {A : Option Addr} {ys : List Value} (h : RdM w3 (fun b => base ≤ b ∧ b < w3.heap.size) size A n ys) (hg : g < base) :
    RdM ((w3.setCell ⟨g, j, none⟩ u).alloc o1) (fun b => g ≤ b ∧ b < ((w3.setCell ⟨g, j, none⟩ u).alloc o1).heap.size) size A n ys := by
  refine (h.keep fun p hp => ?_).more fun b hb => ⟨by omega, by simp; omega⟩
  rw [World.cell?_alloc_lt _ _ _ (by simp; exact hp.2), World.cell?_setCell_other]
  intro e
  rw [← e] at hp
  have := hp.1
  simp at this
  omega
theorem RdM.al {w3 : World} {base size n : Nat} {o1 : Obj} {A : Option Addr} {ys : List Value} (h : RdM w3 (fun b => base ≤ b ∧ b < w3.heap.size) size A n ys) :
    RdM (w3.alloc o1) (fun b => base ≤ b ∧ b < (w3.alloc o1).heap.size) size A n ys :=
  (h.keep fun p hp => World.cell?_alloc_lt _ _ _ hp.2).more fun b hb => ⟨hb.1, by simp; omega⟩
theorem Own.base {wr : World} {base b : Nat} {t : TypeId} {E : Nat → Prop} {v : Value} {xs : List X} (h : Own S t wr base E v xs) (hb : b ≤ base) : Own S t wr b E v xs := by
  obtain ⟨A, c, ess, rfl, ho, ha⟩ := h
  exact ⟨A, c, ess, rfl, own_base ho hb, ha⟩
theorem Own.form {wr : World} {base : Nat} {t : TypeId} {E : Nat → Prop} {v : Value} {xs : List X} (h : Own S t wr base E v xs) : ∃ A c, v = .slice A xs.length c := by
  obtain ⟨A, c, _, e, _⟩ := h
  exact ⟨A, c, e⟩
/-- What is owned, and a new element that lies in elder memory. -/
theorem Own.elder {wr W : World} {base b0 : Nat} {t : TypeId} {v : Value} {xs : List X} {cs : List Value} {x : X} (h : Own S t wr base (fun _ => False) v xs) (hb : Below wr.heap.size wr W) (hrd : S.rd W (· < b0) cs x) (h0 : b0 ≤ base) (h1 : b0 ≤ W.heap.size) :
    Own S t W base (fun _ => False) v xs ∧ S.all W (fun b => b < W.heap.size ∧ some b ≠ v.ownBlock ∧ ¬ (fun _ => False) b) [cs] [x] := by
  refine ⟨h.below hb, Shp.all1 (S.more hrd fun b hb' => ⟨Nat.lt_of_lt_of_le hb' h1, ?_, fun he => he.elim⟩)⟩
  obtain ⟨_, _, _, _, ho, _⟩ := h
  intro e
  have := (ho.lt b e.symm).1
  omega
theorem Own.lenle {wr : World} {base : Nat} {t : TypeId} {E : Nat → Prop} {v : Value} {xs : List X} (h : Own S t wr base E v xs) : base ≤ wr.heap.size ∨ v = .slice none 0 0 := by
  obtain ⟨A, c, ess, rfl, ho, _⟩ := h
  rcases ho.2 with ⟨h1, _⟩ | ⟨g, _, _, _, hb, hg, _⟩
  · exact .inr h1
  · exact .inl (by have := (Array.getElem?_eq_some_iff.1 hg).1; omega)
/-- Behind an append onto what is owned. -/
theorem _root_.Go.RowKit.Below.grown2 {w wr W w4 : World} {t : TypeId} {E : Nat → Prop} {v : Value} {xs : List X} (h : Below w.heap.size w wr) (hown : Own S t wr w.heap.size E v xs) (hb : Below wr.heap.size wr W) (hg : W.grownBy w4 v.ownBlock) : Below w.heap.size w w4 := by
  obtain ⟨_, _, _, _, ho, _⟩ := hown
  exact (sq h hb).grown hg (Nat.le_trans h.size hb.size) fun k hk => (ho.lt k hk).1
theorem Shp.stay {w W : World} {B : Nat} {cs : List Value} {x : X} (h : S.rd w (· < B) cs x) (hb : Below B w W) : S.rd W (· < B) cs x := S.keep h fun _ hp => hb.cell hp
theorem Shp.into {w W : World} {B : Nat} {cs : List Value} {x : X} (h : S.rd w (· < B) cs x) (hb : Below B w W) (hB : B ≤ W.heap.size) : S.rd W (· < W.heap.size) cs x :=
  S.more (S.keep h fun _ hp => hb.cell hp) fun _ hb' => Nat.lt_of_lt_of_le hb' hB
end
theorem own_cap {w : World} {base n c size : Nat} {e : TypeId} {A : Option Addr} {xs : List Value} (h : w.ownsRow base e size (.slice A n c) n xs) : n ≤ c ∧ c ≤ maxLen ∧ (c = 0 ∨ A ≠ none) := by
  rcases h.2 with ⟨h1, h2⟩ | ⟨g, cap, cur, h1, _, _, hnc, hcm, _⟩
  · simp at h1; refine ⟨by omega, ?_, .inl h1.2.2⟩; unfold maxLen; omega
  · simp at h1
    obtain ⟨rfl, rfl⟩ := h1
    exact ⟨hnc, hcm, .inr (by simp)⟩
theorem RdM.of_own {w : World} {base n c size : Nat} {e : TypeId} {A : Option Addr} {xs : List Value} (h : w.ownsRow base e size (.slice A n c) n xs) : RdM w (fun b => base ≤ b ∧ b < w.heap.size) size A n xs := by
  refine ⟨h.1, fun hn => ?_⟩
  obtain ⟨b, off, rfl, hb, hc⟩ := (Rd.of_own h).2 hn
  exact ⟨b, off, rfl, ⟨(h.lt b rfl).1, hb⟩, hc⟩
theorem Own.ownlt {X : Type} {S : Shp X} {wr : World} {base : Nat} {t : TypeId} {E : Nat → Prop} {v : Value} {xs : List X} (h : Own S t wr base E v xs) {k : Nat} (hk : v.ownBlock = some k) : base ≤ k ∧ k < wr.heap.size := by
  obtain ⟨A, c, ess, rfl, ho, ha⟩ := h
  exact ho.lt k hk
theorem Own.lessE {X : Type} {S : Shp X} {wr : World} {base : Nat} {t : TypeId} {E E' : Nat → Prop} {v : Value} {xs : List X} (h : Own S t wr base E v xs) (hE : ∀ b, E' b → E b) : Own S t wr base E' v xs := by
  obtain ⟨A, c, ess, rfl, ho, ha⟩ := h
  exact ⟨A, c, ess, rfl, ho, ha.more fun b hb => ⟨hb.1, hb.2.1, fun h => hb.2.2 (hE b h)⟩⟩
/-- What is owned, and lies in new memory whole, reads so within it. -/
theorem Own.readN {X : Type} {S : Shp X} {wr : World} {base : Nat} {t : TypeId} {v : Value} {xs : List X} (h : Own S t wr base (· < base) v xs) : (Shp.slice S).rd wr (fun b => base ≤ b ∧ b < wr.heap.size) [v] xs := by
  obtain ⟨A, c, ess, rfl, hown, hall⟩ := h
  obtain ⟨q1, q2, q3⟩ := own_cap hown
  exact ⟨A, c, ess, rfl, q1, q2, q3, RdM.of_own hown, hall.more fun b hb => ⟨Nat.le_of_not_lt hb.2.2, hb.1⟩⟩
theorem held012 {W w1 w2 : World} {g : Nat} {x0 x1 x2 : Value} (hg : g < W.heap.size) (hb : Below w1.heap.size w1 w2) (h : w1.cell? ⟨g, 0, none⟩ = some x0 ∧ w1.cell? ⟨g, 1, none⟩ = some x1 ∧ w1.cell? ⟨g, 2, none⟩ = some x2 ∧ Below W.heap.size W w1) :
    w2.cell? ⟨g, 0, none⟩ = some x0 ∧ w2.cell? ⟨g, 1, none⟩ = some x1 ∧ w2.cell? ⟨g, 2, none⟩ = some x2 ∧ Below W.heap.size W w2 := by
  obtain ⟨k1, _⟩ := kept hb
  obtain ⟨b, c, d, e⟩ := h
  have hg1 : g < w1.heap.size := Nat.lt_of_lt_of_le hg e.size
  exact ⟨by rw [k1 _ _ hg1]; exact b, by rw [k1 _ _ hg1]; exact c, by rw [k1 _ _ hg1]; exact d, sq e hb⟩
theorem held012g {X : Type} {S : Shp X} {W w0 w1 w2 : World} {g : Nat} {x0 x1 x2 : Value} {t : TypeId} {E : Nat → Prop} {v : Value} {xs : List X} (hg : g < W.heap.size) (h : w1.cell? ⟨g, 0, none⟩ = some x0 ∧ w1.cell? ⟨g, 1, none⟩ = some x1 ∧ w1.cell? ⟨g, 2, none⟩ = some x2 ∧ Below W.heap.size W w1) (hown : Own S t w0 W.heap.size E v xs) (hb : w1.grownBy w2 v.ownBlock) :
    w2.cell? ⟨g, 0, none⟩ = some x0 ∧ w2.cell? ⟨g, 1, none⟩ = some x1 ∧ w2.cell? ⟨g, 2, none⟩ = some x2 ∧ Below W.heap.size W w2 := by
  obtain ⟨b, c, d, e⟩ := h
  obtain ⟨_, _, _, _, ho, _⟩ := hown
  have hg1 : g < w1.heap.size := Nat.lt_of_lt_of_le hg e.size
  have hk : w2.heap[g]? = w1.heap[g]? := hb.block g hg1 fun h => by have := (ho.lt g h.symm).1; omega
  exact ⟨(World.cell?_of_block (a := ⟨g, 0, none⟩) hk).trans b, (World.cell?_of_block (a := ⟨g, 1, none⟩) hk).trans c, (World.cell?_of_block (a := ⟨g, 2, none⟩) hk).trans d, e.grown hb e.size fun k hk => (ho.lt k hk).1⟩
theorem lst4 {a b c d : Prop} (h : a ∧ b ∧ c ∧ d) : d := h.2.2.2
end Go.Proofs.Ytdpgcojgnehnpaa
