/- A buffer of bytes that a cell holds: what image's writer does with it, and the document's closure. Conditions: the lengths. -/
import Derived.Test.YtjegfimagjmpdaaGreatDoorIpA
import Derived.Lib.OthersKept
import Derived.Lib.AppendStr
import Derived.Handy
set_option maxRecDepth 100000
namespace Go.Proofs.YtjegfimagjmpdaaGreatDoor
open Go.ChangeShapes Go.WideShapes Go.ChangeAt Go.RowKit
/-- The cell of block g holds the bytes; the row is the call's own. -/
structure Buf (T : TypeId) (B g : Nat) (L : List Int) (w : World) : Prop where
  le : B ≤ g
  ne : T ≠ 5
  ex : ∃ v, w.heap[g]? = some (.cells #[v] T (0, 0)) ∧ w.ownsRow B 5 1 v L.length (L.map (Value.int .u8))
/-- The bytes of a row of the call's own, or of a full row (a constant's, which is marked). -/
def OwR (w : World) (B : Nat) (v : Value) (n : Nat) (xs : List Value) : Prop :=
  w.ownsRow B 5 1 v n xs ∨ (∃ b cur fz, v = .slice (some ⟨b, 0, none⟩) n n ∧ B ≤ b ∧ w.heap[b]? = some (.cells cur 5 fz) ∧ cur.toList = xs ∧ xs.length = n)
section
variable {w w' : World} {B n : Nat} {v : Value} {xs : List Value}
theorem OwR.form (h : OwR w B v n xs) : ∃ A c, v = .slice A n c := by
  rcases h with h | ⟨b, cur, fz, rfl, _⟩
  · exact own_form h
  · exact ⟨_, _, rfl⟩
theorem OwR.keep (h : OwR w B v n xs) (hb : Below w.heap.size w w') : OwR w' B v n xs := by
  rcases h with h | ⟨b, cur, fz, rfl, hB, hh, r⟩
  · exact .inl (own_kept h hb)
  · exact .inr ⟨b, cur, fz, rfl, hB, (hb.block b (Array.getElem?_eq_some_iff.1 hh).1).trans hh, r⟩
theorem OwR.rd {A : Option Addr} {c : Nat} (h : OwR w B (.slice A n c) n xs) : Rd w w.heap.size 1 A n xs := by
  rcases h with h | ⟨b, cur, fz, e, hB, hh, hc, hl⟩
  · exact Rd.of_own h
  · injection e with e1 e2 e3
    subst e1
    refine ⟨by omega, fun _ => ⟨b, 0, rfl, (Array.getElem?_eq_some_iff.1 hh).1, fun j u hu => ?_⟩⟩
    rw [Nat.zero_add, cell_of_row w b j cur 5 fz hh, ← Array.getElem?_toList, hc]
    exact hu
theorem OwR.ownlt (h : OwR w B v n xs) {q : Nat} (hq : v.ownBlock = some q) : B ≤ q := by
  rcases h with h | ⟨b, cur, fz, rfl, hB, _⟩
  · exact (h.lt q hq).1
  · simp [Value.ownBlock] at hq
    omega
theorem OwR.kind (h : OwR w B v n xs) {q : Nat} (hq : v.ownBlock = some q) : ∃ c fz, w.heap[q]? = some (.cells c 5 fz) := by
  rcases h with ho | ⟨b, cur, fz, rfl, hB, hh, _⟩
  · rcases ho.2 with ⟨rfl, _⟩ | ⟨g', cap, cur, rfl, _, hgg, _⟩
    · simp [Value.ownBlock] at hq
    · simp [Value.ownBlock] at hq
      subst hq
      exact ⟨cur, _, hgg⟩
  · simp [Value.ownBlock] at hq
    subst hq
    exact ⟨cur, fz, hh⟩
/-- append of some bytes: then the row is the call's own. -/
theorem OwR.run (h : OwR w B v n xs) {P : Program} (t ty : TypeId) (i : TypeInfo) (ht : P.underlying t = some (.slice 5)) (hi : P.info? 5 = some i) (hz : i.zero = some (.int .u8 0)) (hsize : i.size = 1) (hby : i.bytes = 1)
    (A : Option Addr) (m c : Nat) (news : List Value) (hr : Rd w w.heap.size 1 A m news) (h1 : ∀ u ∈ news, u.oneCell' = true) (hm : 0 < m) (hl : n + m ≤ 1000000000) (hB : B ≤ w.heap.size) :
    ∃ v' w', (Builtin.append_ #[t, t] ty #[v, .slice A m c]).run P w = .ok v' w' ∧ w'.ownsRow B 5 1 v' (n + m) (xs ++ news) ∧ w.grownBy w' v.ownBlock := by
  rcases h with h | ⟨b, cur, fz, rfl, hb, hh, hc, hxl⟩
  · obtain ⟨v', w', r1, r2, r3, _⟩ := run_append_rd (P := P) w B t ty 5 i (.int .u8 0) 1 1 ht hi hz hsize hby rfl (by omega) v n xs h w.heap.size A m c news hr h1 (by unfold maxLen; omega) (by omega) hB
    exact ⟨v', w', r1, r2, r3⟩
  · obtain ⟨ab, aoff, rfl, hn⟩ := hr.news hm
    have hlo : ∀ j u, xs[j]? = some u → w.cell? ((⟨b, 0, none⟩ : Addr).add j) = some u := fun j u hu => by
      have hadd : (⟨b, 0, none⟩ : Addr).add j = ⟨b, j, none⟩ := by unfold Addr.add; split <;> simp_all
      rw [hadd, cell_of_row w b j cur 5 fz hh, ← Array.getElem?_toList, hc]
      exact hu
    have hrl : news.length = m := by have := hr.1; omega
    have hr := run_append_grow (P := P) w t ty 5 i (.int .u8 0) ht hi hz ⟨b, 0, none⟩ n n xs (by rw [hsize]; omega) hlo ⟨ab, aoff, none⟩ m c news (by rw [hsize]; omega) hn (by omega) (by omega) (growslice_fits (by omega) (by rw [hby]; omega))
    have hge := grownCap_ge w (n + m) n 5
    have hcm2 : grownCap w (n + m) n 5 ≤ maxLen := grownCap_le_maxLen w (n + m) n 5 (by unfold maxLen; omega)
    refine ⟨_, _, hr, ⟨by simp; omega, .inr ⟨w.heap.size, _, _, rfl, hB, heap_alloc_new w.drew _, hge, hcm2, ?_, ?_⟩⟩, ⟨rfl, rfl, rfl, by simp, fun k hk _ => Lib.alloc_old w.drew _ k hk⟩⟩
    · have hz2 : (Builtin.zeroCells (Value.int IntKind.u8 0).cells (grownCap w (n + m) n 5 - (n + m))).size = grownCap w (n + m) n 5 - (n + m) := by
        rw [size_zeroCells]
        simp [Value.cells]
      rw [Array.size_append, Array.size_append, hz2, List.size_toArray, List.size_toArray]
      omega
    · simp only [Array.toList_append, List.append_assoc]
      rw [← List.append_assoc, show (n + m) * 1 = (xs ++ news).length by simp; omega]
      exact List.take_left
end
theorem wpList_append_OwR {P : Program} {w : World} {ops : Array Oper} {rest : List Oper} {o : Oper} {a : Act} {Q : Exit → Act → World → Prop} (hgd : o.guard = none) (s x : Operand) (t : TypeId)
    (ho : o.op = .call { callee := .builtin .append, args := #[s, x], argTypes := #[t, t] }) (i : TypeInfo) (ht : P.underlying t = some (.slice 5)) (hi : P.info? 5 = some i) (hz : i.zero = some (.int .u8 0)) (hsize : i.size = 1) (hby : i.bytes = 1)
    (B : Nat) (v : Value) (n : Nat) (xs : List Value) (hs : a.eval s = v) (hown : OwR w B v n xs)
    (A : Option Addr) (m c : Nat) (news : List Value) (hx : a.eval x = .slice A m c) (hr : Rd w w.heap.size 1 A m news) (h1 : ∀ u ∈ news, u.oneCell' = true) (hm : 0 < m) (hl : n + m ≤ 1000000000) (hB : B ≤ w.heap.size)
    (h : ∀ A' c' w', w'.ownsRow B 5 1 (.slice A' (n + m) c') (n + m) (xs ++ news) → w.grownBy w' v.ownBlock → wpList P ops Q rest (a.put o.dst (.slice A' (n + m) c')) w') : wpList P ops Q (o :: rest) a w := by
  refine wpList_plain hgd fun K hK => ?_
  obtain ⟨v', w', hrun, h2, h3⟩ := hown.run (P := P) t o.type i ht hi hz hsize hby A m c news hr h1 hm hl hB
  obtain ⟨A', c', rfl⟩ := own_form h2
  unfold Oper.wp execOp
  simp only [ho, resolve, invoke, builtin, Sem.run_bind, Sem.run_pure, Result.andThen_ok, List.map_toArray, List.map_cons, List.map_nil, hs, hx, hrun]
  exact hK _ _ (h A' c' w' h2 h3)
/-- Likewise, the row perhaps a constant's. -/
structure BufR (T : TypeId) (B g : Nat) (L : List Int) (w : World) : Prop where
  le : B ≤ g
  ne : T ≠ 5
  ex : ∃ v, w.heap[g]? = some (.cells #[v] T (0, 0)) ∧ OwR w B v L.length (L.map (Value.int .u8))
/-- All blocks but g, and but rows of bytes, are as they were. -/
def Kb (g : Nat) (w w' : World) : Prop := Lib.OthersKept 5 (some g) w w'
section
variable {T : TypeId} {B g : Nat} {L : List Int} {w w' : World}
theorem Buf.lt (h : Buf T B g L w) : g < w.heap.size := by
  obtain ⟨v, hv, _⟩ := h.ex
  exact (Array.getElem?_eq_some_iff.1 hv).1
theorem Buf.opens (h : Buf T B g L w) : ∃ A c, w.heap[g]? = some (.cells #[.slice A L.length c] T (0, 0)) ∧ w.ownsRow B 5 1 (.slice A L.length c) L.length (L.map (Value.int .u8)) := by
  obtain ⟨v, hv, ho⟩ := h.ex
  obtain ⟨A, c, rfl⟩ := own_form ho
  exact ⟨A, c, hv, ho⟩
theorem Buf.keep (h : Buf T B g L w) (hb : Below w.heap.size w w') : Buf T B g L w' := by
  obtain ⟨v, hv, ho⟩ := h.ex
  exact ⟨h.le, h.ne, v, (hb.block g h.lt).trans hv, own_kept ho hb⟩
theorem Buf.weak (h : Buf T B g L w) : BufR T B g L w := by
  obtain ⟨v, hv, ho⟩ := h.ex
  exact ⟨h.le, h.ne, v, hv, .inl ho⟩
theorem BufR.lt (h : BufR T B g L w) : g < w.heap.size := by
  obtain ⟨v, hv, _⟩ := h.ex
  exact (Array.getElem?_eq_some_iff.1 hv).1
theorem BufR.opens (h : BufR T B g L w) : ∃ A c, w.heap[g]? = some (.cells #[.slice A L.length c] T (0, 0)) ∧ OwR w B (.slice A L.length c) L.length (L.map (Value.int .u8)) := by
  obtain ⟨v, hv, ho⟩ := h.ex
  obtain ⟨A, c, rfl⟩ := ho.form
  exact ⟨A, c, hv, ho⟩
theorem BufR.keep (h : BufR T B g L w) (hb : Below w.heap.size w w') : BufR T B g L w' := by
  obtain ⟨v, hv, ho⟩ := h.ex
  exact ⟨h.le, h.ne, v, (hb.block g h.lt).trans hv, ho.keep hb⟩
theorem Buf.put {v v' : Value} {L' : List Int} (hB : B ≤ g) (hne : T ≠ 5) (hg : w.heap[g]? = some (.cells #[v] T (0, 0))) (hown : w.ownsRow B 5 1 v' L'.length (L'.map (Value.int .u8))) : Buf T B g L' (w.setCell ⟨g, 0, none⟩ v') := by
  have h1 := Lib.ownBlock_ne hown hg hne
  refine ⟨hB, hne, v', ?_, ?_⟩
  · simp [World.setCell, Array.getElem?_modify, hg]
  · exact hown.kept (row := some g) ⟨rfl, rfl, rfl, by simp [World.setCell], fun k _ hk => Below.heap_setCell _ _ _ _ (fun e => hk (by simp [e]))⟩ (Or.inr h1)
theorem Kb.refl : Kb g w w := Lib.OthersKept.refl _ _ _
theorem Kb.trans {w2 : World} (h : Kb g w w') (k : Kb g w' w2) : Kb g w w2 := Lib.OthersKept.trans h k
theorem Kb.below (hb : Below w.heap.size w w') : Kb g w w' := fun k _ hk _ _ => (hb.block k (Array.getElem?_eq_some_iff.1 hk).1).trans hk
theorem Kb.set (v : Value) : Kb g w (w.setCell ⟨g, 0, none⟩ v) := Lib.OthersKept.setCell (Lib.OthersKept.refl _ _ _) ⟨g, 0, none⟩ rfl v
theorem Kb.row {v : Value} {n : Nat} {xs : List Value} (ho : w.ownsRow B 5 1 v n xs) (hg : w.grownBy w' v.ownBlock) : Kb g w w' :=
  Lib.OthersKept.grown (Lib.OthersKept.refl _ _ _) hg fun q hq => by
    rcases ho.2 with ⟨rfl, _⟩ | ⟨g', cap, cur, rfl, _, hgg, _⟩
    · simp [Value.ownBlock] at hq
    · simp [Value.ownBlock] at hq
      subst hq
      exact ⟨cur, _, hgg⟩
/-- A block of another kind, behind it. -/
theorem Kb.blk (h : Kb g w w') {k : Nat} {cs : Array Value} {t : TypeId} (hk : w.heap[k]? = some (.cells cs t (0, 0))) (hne : k ≠ g) (ht : t ≠ 5) : w'.heap[k]? = some (.cells cs t (0, 0)) :=
  h k _ hk (fun e => hne (Option.some.inj e)) fun c fz e => ht (by injection e)
end
theorem BufR.start {T : TypeId} (hT : T ≠ 5) {B g1 g2 : Nat} (w : World) (hB : B ≤ w.heap.size) (cs : Array Value) (fz : Nat × Nat) (L : List Int) (n : Nat) (hn : n = L.length) (hcs : cs.toList = L.map (Value.int .u8)) (h1 : g1 = w.heap.size) (h2 : g2 = w.heap.size + 1) :
    BufR T B g2 L ((w.alloc (.cells cs 5 fz)).alloc (.cells #[.slice (some ⟨g1, 0, none⟩) n n] T)) := by
  subst h1 h2
  refine ⟨by omega, hT, .slice (some ⟨w.heap.size, 0, none⟩) n n, ?_, .inr ⟨w.heap.size, cs, fz, by rw [hn], hB, ?_, hcs, by simp⟩⟩
  · have := heap_alloc_new (w.alloc (.cells cs 5 fz)) (.cells #[.slice (some ⟨w.heap.size, 0, none⟩) n n] T)
    simpa using this
  · have := heap_alloc_new w (.cells cs 5 fz)
    rw [Lib.alloc_old _ _ _ (by simp)]
    exact this
/-- The code's head at its block, the buffer in block g, all else as it was. -/
structure PS (w : World) (T : TypeId) (g : Nat) (cs : Array Value) (L : List Int) (wr : World) : Prop where
  buf : Buf T w.heap.size g L wr
  hd : wr.heap[w.heap.size]? = some (.cells cs 25 (0, 0))
  bel : Below w.heap.size w wr
  gp : w.heap.size < g
section
variable {w : World} {T : TypeId} {g : Nat} {cs : Array Value} {L L' : List Int} {wr w' : World}
theorem PS.into (h : PS w T g cs L wr) (hb : Buf T w.heap.size g L' w') (hbel : Below w.heap.size wr w') (hk : Kb g wr w') : PS w T g cs L' w' :=
  ⟨hb, hk.blk h.hd (by have := h.gp; omega) (by decide), h.bel.trans hbel, h.gp⟩
theorem PS.keep (h : PS w T g cs L wr) (hb : Below wr.heap.size wr w') : PS w T g cs L w' :=
  ⟨h.buf.keep hb, (hb.block _ (Nat.lt_trans h.gp h.buf.lt)).trans h.hd, h.bel.trans (hb.mono h.bel.size), h.gp⟩
theorem PS.to (h : PS w T g cs L wr) (e : L = L') : PS w T g cs L' wr := e ▸ h
end
end Go.Proofs.YtjegfimagjmpdaaGreatDoor
