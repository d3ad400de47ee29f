/- Base: Base Open Shape OpShape Bytes Row Dec Rd Wds Bl AnyInv AnyInv2 QB Own. Conditions: each text's own. -/
import Derived.Test.YtjegfimagjmpdaaGreatDoorRows
import Derived.WalkKit
import Derived.ProofKit
import Derived.OpenShut
import Derived.ShutString
import Derived.Outline
import Derived.WalkLawsBesides
import Derived.WalkSpells
import Derived.Lib.Hide
import Derived.Laws.StructEq
import Derived.Below
import Derived.Carry
import Derived.SizedLaws
import Derived.Deep.Draws
import Derived.Deep.AppendLies
import Derived.Maps.AppendAt
import Derived.Laws.OwnMore
import Derived.OwnWalk
import Derived.Deep.Slices
import Derived.Deep.Fields
import Derived.Laws.BytesArg
import Derived.Handy
import Derived.Laws.BitsAllLaws
import Derived.Laws.BitsLemmas
import Derived.Orders
import Derived.Deep.QuietTactic
import Derived.BigQuiet
section
/- Small lemmas that the walks of this seat share: what an argument looks like in memory, what stays as it was. Conditions: none. -/
namespace Go.Proofs.YtjegfimagjmpdaaGreatDoor
open Go.ChangeShapes Go.WideShapes Go.ChangeAt Go.RowKit
open Go.ChangeMaps (open_string)

theorem own : ownKnob Tryz.prog.godebug = none := by kernel_rfl
theorem laidOut : laidOutB Tryz.prog = true := by kernel_rfl

/-- One new block. -/
theorem al {w : World} (o : Obj) : Below w.heap.size w (w.alloc o) := (Below.refl _ _).alloc (Nat.le_refl _) _
/-- Two calls, one behind the other. -/
theorem sq {a b c : World} (h : Below a.heap.size a b) (k : Below b.heap.size b c) : Below a.heap.size a c := h.trans (k.mono h.size)
theorem dr {a b : World} {B : Nat} (h : Below B a b) (n : Nat) : Below B a (b.drewN n) := ⟨h.os, h.tape, h.output, h.size, h.block⟩
theorem al2 {a b : World} (h : Below a.heap.size a b) (o : Obj) : Below a.heap.size a (b.alloc o) := h.alloc h.size o

/-- Behind a call: the old cells and the old marks, as rules for the walk. -/
theorem kept {W w1 : World} (hb : Below W.heap.size W w1) : (∀ b o, b < W.heap.size → w1.cell? ⟨b, o, none⟩ = W.cell? ⟨b, o, none⟩) ∧ (∀ b o, b < W.heap.size → w1.frozen? ⟨b, o, none⟩ = W.frozen? ⟨b, o, none⟩) :=
  ⟨fun b o h => hb.cell (p := ⟨b, o, none⟩) h, fun b o h => hb.frozen (p := ⟨b, o, none⟩) h⟩

/-- The cells of the law's own copy of a Value stay through a call. -/
theorem held_stay {W w1 w2 : World} {g : Nat} {x0 x1 x2 x3 : Value} (hg : g < W.heap.size) (hb : Below w1.heap.size w1 w2) (h : w1.cell? ⟨g, 0, none⟩ = some x0 ∧ w1.cell? ⟨g, 1, none⟩ = some x1 ∧ w1.cell? ⟨g, 2, none⟩ = some x2 ∧ w1.cell? ⟨g, 3, none⟩ = some x3 ∧ Below W.heap.size W w1) :
    w2.cell? ⟨g, 0, none⟩ = some x0 ∧ w2.cell? ⟨g, 1, none⟩ = some x1 ∧ w2.cell? ⟨g, 2, none⟩ = some x2 ∧ w2.cell? ⟨g, 3, none⟩ = some x3 ∧ Below W.heap.size W w2 := by
  obtain ⟨k1, _⟩ := kept hb
  obtain ⟨a, b, c, d, e⟩ := h
  have hg1 : g < w1.heap.size := Nat.lt_of_lt_of_le hg e.size
  exact ⟨by rw [k1 _ _ hg1]; exact a, by rw [k1 _ _ hg1]; exact b, by rw [k1 _ _ hg1]; exact c, by rw [k1 _ _ hg1]; exact d, sq e hb⟩
theorem last5 {a b c d e : Prop} (h : a ∧ b ∧ c ∧ d ∧ e) : e := h.2.2.2.2

/-- The bounds of a number of 64 bits with a sign. -/
theorem bd64 {a : Int} (h : (Lit.int .i64 a).wf = true) : -9223372036854775808 ≤ a ∧ a ≤ 9223372036854775807 := by
  simpa [Lit.wf, IntKind.min, IntKind.max, IntKind.bits, IntKind.signed] using h

/-- The slice's elements, as cells: 'size' cells each, in a block below B. -/
def Rd (w : World) (B size : Nat) (A : Option Addr) (n : Nat) (xs : List Value) : Prop :=
  xs.length = n * size ∧ (0 < n → ∃ b off, A = some ⟨b, off, none⟩ ∧ b < B ∧ ∀ j u, xs[j]? = some u → w.cell? ⟨b, off + j, none⟩ = some u)

section
variable {w w' : World} {B B' size n : Nat} {A : Option Addr} {xs : List Value}
theorem Rd.nil : Rd w B size A 0 [] := ⟨by simp, fun h => absurd h (by omega)⟩
theorem Rd.keep (h : Rd w B size A n xs) (hk : ∀ p : Addr, p.block < B → w'.cell? p = w.cell? p) : Rd w' B size A n xs :=
  ⟨h.1, fun hn => by
    obtain ⟨b, off, e, hb, hc⟩ := h.2 hn
    exact ⟨b, off, e, hb, fun j u hu => (hk ⟨b, off + j, none⟩ hb).trans (hc j u hu)⟩⟩
theorem Rd.more (h : Rd w B size A n xs) (hB : B ≤ B') : Rd w B' size A n xs :=
  ⟨h.1, fun hn => by
    obtain ⟨b, off, e, hb, hc⟩ := h.2 hn
    exact ⟨b, off, e, by omega, hc⟩⟩
theorem Rd.below (h : Rd w B size A n xs) (hb : Below B w w') : Rd w' B size A n xs := h.keep fun _ hp => hb.cell hp
theorem Rd.drew (h : Rd w B size A n xs) : Rd w.drew B size A n xs := h
theorem Rd.drewN (h : Rd w B size A n xs) (k : Nat) : Rd (w.drewN k) B size A n xs := h
theorem Rd.alloc (h : Rd w B size A n xs) (hB : B ≤ w.heap.size) (o : Obj) : Rd (w.alloc o) B size A n xs := h.keep fun p hp => World.cell?_alloc_lt w o p (by omega)
theorem Rd.setCell (h : Rd w B size A n xs) {p : Addr} (hB : B ≤ p.block) (u : Value) : Rd (w.setCell p u) B size A n xs :=
  h.keep fun q hq => World.cell?_setCell_other w p q u (fun e => by subst e; omega)
theorem Rd.grown (h : Rd w B size A n xs) {row : Option Nat} (hg : w.grownBy w' row) (hB : B ≤ w.heap.size) (hr : ∀ g, row = some g → B ≤ g) : Rd w' B size A n xs :=
  h.keep fun p hp => World.cell?_of_block (hg.block p.block (by omega) (fun e => by have := hr _ e.symm; omega))
theorem Rd.into (h : Rd w B size A n xs) (hB : B ≤ w.heap.size) (hb : Below w.heap.size w w') : Rd w' w'.heap.size size A n xs := (h.below (hb.mono hB)).more (Nat.le_trans hB hb.size)
/-- What the call owns reads so. -/
theorem Rd.of_own {base : Nat} {e : TypeId} {c : Nat} (h : w.ownsRow base e size (.slice A n c) n xs) : Rd w w.heap.size size A n xs := by
  refine ⟨h.1, fun hn => ?_⟩
  obtain ⟨g, cap, hv, _, hlt⟩ := h.form hn
  have hA : A = some ⟨g, 0, none⟩ := by injection hv
  subst hA
  refine ⟨g, 0, rfl, hlt, fun j u hu => ?_⟩
  have := h.cells (g := g) rfl j u hu
  rcases Nat.eq_zero_or_pos j with rfl | hj
  · simpa [Addr.add] using this
  · simpa [Addr.add, Nat.ne_of_gt hj] using this
/-- One element of one cell. -/
theorem Rd.at1 {k : Nat} (h : Rd w B 1 A n xs) (hk : k < n) : ∃ b off u, A = some ⟨b, off, none⟩ ∧ b < B ∧ xs[k]? = some u ∧ w.cell? ⟨b, off + k, none⟩ = some u := by
  obtain ⟨b, off, e, hb, hc⟩ := h.2 (by omega)
  have hl : k < xs.length := by have := h.1; omega
  exact ⟨b, off, xs[k], e, hb, List.getElem?_eq_getElem hl, hc k _ (List.getElem?_eq_getElem hl)⟩
theorem Rd.lit (w : World) (cs : Array Value) (t : TypeId) (n size : Nat) (hs : cs.size = n * size) : Rd (w.alloc (.cells cs t)) (w.heap.size + 1) size (some ⟨w.heap.size, 0, none⟩) n cs.toList :=
  ⟨by simpa using hs, fun _ => ⟨w.heap.size, 0, rfl, by omega, fun j u hu => by
    rw [Nat.zero_add, cell_of_row (w.alloc (.cells cs t)) w.heap.size j cs t (0, 0) (heap_alloc_new w _)]
    simpa using hu⟩⟩
theorem Rd.lit1 (w : World) (u : Value) (t : TypeId) : Rd (w.alloc (.cells #[u] t)) (w.heap.size + 1) 1 (some ⟨w.heap.size, 0, none⟩) 1 [u] := Rd.lit w #[u] t 1 1 rfl
theorem one1 {u : Value} (h : u.oneCell' = true) : ∀ q ∈ [u], q.oneCell' = true := fun q hq => by simp at hq; subst hq; exact h
theorem Rd.news (h : Rd w B size A n xs) (hn : 0 < n) : ∃ b off, A = some ⟨b, off, none⟩ ∧ ∀ j u, xs[j]? = some u → w.cell? ((⟨b, off, none⟩ : Addr).add j) = some u := by
  obtain ⟨b, off, e, hb, hc⟩ := h.2 hn
  refine ⟨b, off, e, fun j u hu => ?_⟩
  have := hc j u hu
  rcases Nat.eq_zero_or_pos j with rfl | hj
  · simpa [Addr.add] using this
  · simpa [Addr.add, Nat.ne_of_gt hj] using this
end

section
variable {P : Program} (w : World)
/-- append onto a row of the call's own, whatever the other slice is: nil, empty or not. -/
theorem run_append_rd (base : Nat) (t ty e : TypeId) (i : TypeInfo) (z : Value) (size bytes : Nat) (ht : P.underlying t = some (.slice e)) (hi : P.info? e = some i) (hz : i.zero = some z)
    (hsize : i.size = size) (hby : i.bytes = bytes) (hzs : z.cells.size = size) (hsz : 0 < size)
    (v : Value) (n : Nat) (xs : List Value) (hown : w.ownsRow base e size v n xs)
    (B : Nat) (A : Option Addr) (m c : Nat) (news : List Value) (hr : Rd w B size A m news) (h1 : ∀ u ∈ news, u.oneCell' = true)
    (h63 : n + m ≤ maxLen) (hbytes : (n + m) * bytes ≤ 140737488355328) (hbase : base ≤ w.heap.size) :
    ∃ v' w', (Builtin.append_ #[t, t] ty #[v, .slice A m c]).run P w = .ok v' w' ∧ w'.ownsRow base e size v' (n + m) (xs ++ news) ∧ w.grownBy w' v.ownBlock ∧
      (v'.ownBlock = v.ownBlock ∨ v'.ownBlock = some w.heap.size) := by
  rcases Nat.eq_zero_or_pos m with h0 | h0
  · subst h0
    have hn : news = [] := List.eq_nil_of_length_eq_zero (by simpa using hr.1)
    subst hn
    rcases A with _ | ad
    · refine ⟨v, w, ?_, by simpa using hown, World.grownBy.refl w _, .inl rfl⟩
      rcases hown.2 with ⟨rfl, rfl⟩ | ⟨g, cap, cur, rfl, _, _, hnc, _⟩
      · simp [Builtin.append_, run_underlying ht, sizeOf, typeInfo, hi, Builtin.lenOf, Builtin.firstCells]
      · simp [Builtin.append_, run_underlying ht, sizeOf, typeInfo, hi, Builtin.lenOf, Builtin.firstCells, hnc, storeCells]
    · obtain ⟨v', w', hrun, h2, h3, _, h5⟩ := run_append_own_at (P := P) w base t ty e i z size bytes ht hi hz hsize hby hzs hsz v n xs hown ad 0 c [] (by simp) (by simp) h1 h63 hbytes hbase
      exact ⟨v', w', hrun, h2, h3, h5⟩
  · obtain ⟨b, off, rfl, hc⟩ := hr.news h0
    obtain ⟨v', w', hrun, h2, h3, _, h5⟩ := run_append_own_at (P := P) w base t ty e i z size bytes ht hi hz hsize hby hzs hsz v n xs hown ⟨b, off, none⟩ m c news hr.1 hc h1 h63 hbytes hbase
    exact ⟨v', w', hrun, h2, h3, h5⟩

/-- What a row of the call's own looks like. -/
theorem own_form {w : World} {base : Nat} {e : TypeId} {size : Nat} {v : Value} {n : Nat} {xs : List Value} (h : w.ownsRow base e size v n xs) : ∃ A c, v = .slice A n c := by
  rcases h.2 with ⟨rfl, rfl⟩ | ⟨g, cap, cur, rfl, _⟩
  · exact ⟨_, _, rfl⟩
  · exact ⟨_, _, rfl⟩

theorem own_base {w : World} {base b : Nat} {e : TypeId} {size : Nat} {v : Value} {n : Nat} {xs : List Value} (h : w.ownsRow base e size v n xs) (hb : b ≤ base) : w.ownsRow b e size v n xs := by
  obtain ⟨h1, h2⟩ := h
  refine ⟨h1, ?_⟩
  rcases h2 with h2 | ⟨g, cap, cur, e, hg, r⟩
  · exact .inl h2
  · exact .inr ⟨g, cap, cur, e, by omega, r⟩

theorem wp_append_rd {o : Oper} {a : Act} {K : Act → World → Prop} {Q : Exit → Act → World → Prop} (s x : Operand) (t : TypeId)
    (ho : o.op = .call { callee := .builtin .append, args := #[s, x], argTypes := #[t, t] })
    (base : Nat) (e : TypeId) (i : TypeInfo) (z : Value) (size bytes : Nat) (ht : P.underlying t = some (.slice e)) (hi : P.info? e = some i) (hz : i.zero = some z)
    (hsize : i.size = size) (hby : i.bytes = bytes) (hzs : z.cells.size = size) (hsz : 0 < size)
    (v : Value) (n : Nat) (xs : List Value) (hs : a.eval s = v) (hown : w.ownsRow base e size v n xs)
    (B : Nat) (A : Option Addr) (m c : Nat) (news : List Value) (hx : a.eval x = .slice A m c) (hr : Rd w B size A m news) (h1 : ∀ u ∈ news, u.oneCell' = true)
    (h63 : n + m ≤ maxLen) (hbytes : (n + m) * bytes ≤ 140737488355328) (hbase : base ≤ w.heap.size)
    (h : ∀ A' c' w', w'.ownsRow base e size (.slice A' (n + m) c') (n + m) (xs ++ news) → w.grownBy w' v.ownBlock → ((Value.slice A' (n + m) c').ownBlock = v.ownBlock ∨ (Value.slice A' (n + m) c').ownBlock = some w.heap.size) → K (a.put o.dst (.slice A' (n + m) c')) w') : o.wp P a w K Q := by
  obtain ⟨v', w', hrun, h2, h3, h4⟩ := run_append_rd (P := P) w base t o.type e i z size bytes ht hi hz hsize hby hzs hsz v n xs hown B A m c news hr h1 h63 hbytes hbase
  obtain ⟨A', c', rfl⟩ := own_form h2
  unfold Oper.wp execOp
  simp only [ho, resolve, invoke, builtin, Sem.run_bind, Sem.run_pure, Result.andThen_ok, List.map_toArray, List.map_cons, List.map_nil, hs, hx, hrun]
  exact h A' c' w' h2 h3 h4

theorem wpList_append_rd {ops : Array Oper} {rest : List Oper} {o : Oper} {a : Act} {Q : Exit → Act → World → Prop} (hgd : o.guard = none) (s x : Operand) (t : TypeId)
    (ho : o.op = .call { callee := .builtin .append, args := #[s, x], argTypes := #[t, t] })
    (base : Nat) (e : TypeId) (i : TypeInfo) (z : Value) (size bytes : Nat) (ht : P.underlying t = some (.slice e)) (hi : P.info? e = some i) (hz : i.zero = some z)
    (hsize : i.size = size) (hby : i.bytes = bytes) (hzs : z.cells.size = size) (hsz : 0 < size)
    (v : Value) (n : Nat) (xs : List Value) (hs : a.eval s = v) (hown : w.ownsRow base e size v n xs)
    (B : Nat) (A : Option Addr) (m c : Nat) (news : List Value) (hx : a.eval x = .slice A m c) (hr : Rd w B size A m news) (h1 : ∀ u ∈ news, u.oneCell' = true)
    (h63 : n + m ≤ maxLen) (hbytes : (n + m) * bytes ≤ 140737488355328) (hbase : base ≤ w.heap.size)
    (h : ∀ A' c' w', w'.ownsRow base e size (.slice A' (n + m) c') (n + m) (xs ++ news) → w.grownBy w' v.ownBlock → ((Value.slice A' (n + m) c').ownBlock = v.ownBlock ∨ (Value.slice A' (n + m) c').ownBlock = some w.heap.size) → wpList P ops Q rest (a.put o.dst (.slice A' (n + m) c')) w') : wpList P ops Q (o :: rest) a w :=
  wpList_plain hgd fun _ hK => wp_append_rd w s x t ho base e i z size bytes ht hi hz hsize hby hzs hsz v n xs hs hown B A m c news hx hr h1 h63 hbytes hbase fun A' c' w' h2 h3 h4 => hK _ _ (h A' c' w' h2 h3 h4)
/-- append onto nil: a copy in a new row. -/
theorem wpList_append_new {ops : Array Oper} {rest : List Oper} {o : Oper} {a : Act} {Q : Exit → Act → World → Prop} (hgd : o.guard = none) (s x : Operand) (t : TypeId)
    (ho : o.op = .call { callee := .builtin .append, args := #[s, x], argTypes := #[t, t] })
    (e : TypeId) (i : TypeInfo) (z : Value) (size bytes : Nat) (ht : P.underlying t = some (.slice e)) (hi : P.info? e = some i) (hz : i.zero = some z)
    (hsize : i.size = size) (hby : i.bytes = bytes) (hzs : z.cells.size = size) (hsz : 0 < size) (hs : a.eval s = .slice none 0 0)
    (B : Nat) (A : Option Addr) (m c : Nat) (news : List Value) (hx : a.eval x = .slice A m c) (hr : Rd w B size A m news) (h1 : ∀ u ∈ news, u.oneCell' = true)
    (hbytes : m * bytes ≤ 140737488355328) (h63 : m ≤ maxLen)
    (h : ∀ A' c' w', w'.ownsRow w.heap.size e size (.slice A' m c') m news → Below w.heap.size w w' → wpList P ops Q rest (a.put o.dst (.slice A' m c')) w') : wpList P ops Q (o :: rest) a w :=
  wpList_append_rd w hgd s x t ho w.heap.size e i z size bytes ht hi hz hsize hby hzs hsz (.slice none 0 0) 0 [] hs (World.ownsRow_nil _ _ _ _) B A m c news hx hr h1 (by omega) (by rw [Nat.zero_add]; exact hbytes) (Nat.le_refl _)
    fun A' c' w' h2 h3 h4 => by
      rw [Nat.zero_add, List.nil_append] at h2
      rw [Nat.zero_add]
      exact h A' c' w' h2 ((Below.refl _ _).grown h3 (Nat.le_refl _) (by simp [Value.ownBlock]))
end

/-! ### What an argument is -/
section
variable {H : Type} {enc : TypeId × Value → H} {P : Program} {w : World} {base : Nat} {spare : Nat → Bool} {held : Bool} {t : TypeId} {v : Value} {d : DataW H} {ps : List MemPlace}
def IsInt (v : Value) : Prop := ∃ a : Int, v = .int .i64 a ∧ -9223372036854775808 ≤ a ∧ a ≤ 9223372036854775807
def IsBool (v : Value) : Prop := ∃ a : Bool, v = .bool a
def IsStr (v : Value) : Prop := ∃ s : ByteArray, v = .string s ∧ s.size ≤ 140737488351232
/-- A slice of numbers: 'bytes' to each. -/
def IsNums (k : IntKind) (bytes : Nat) (w : World) (v : Value) : Prop :=
  ∃ (A : Option Addr) (len cap : Nat) (zs : List Int), v = .slice A len cap ∧ Rd w w.heap.size 1 A len (zs.map (Value.int k)) ∧ len ≤ cap ∧ cap * bytes ≤ 140737488351232 ∧ ∀ n ∈ zs, (Lit.int k n).wf = true

theorem op_int (U : P.underlying t = some (.int .i64)) (hv : Value.okWide P w .any base t v) (h : DataW.Trod enc P w 0 spare held t v d ps) : IsInt v := by
  obtain ⟨a, rfl, _, _, w0⟩ := open_int U hv h
  exact ⟨a, rfl, bd64 w0⟩
theorem op_bool (U : P.underlying t = some .bool) (hv : Value.okWide P w .any base t v) (h : DataW.Trod enc P w 0 spare held t v d ps) : IsBool v := by
  obtain ⟨a, rfl, _, _⟩ := open_bool U hv h
  exact ⟨a, rfl⟩
theorem op_str (U : P.underlying t = some .string) (hv : Value.okWide P w .any base t v) (h : DataW.Trod enc P w 0 spare held t v d ps) (hz : ∀ n ∈ d.weights P t, n ≤ reachBytes) : IsStr v := by
  obtain ⟨s, rfl, rfl, _, _⟩ := open_string U hv h
  refine ⟨s, rfl, ?_⟩
  have := hz s.data.toList.length (by simp [DataW.weights])
  simpa [reachBytes] using this
theorem op_nums {k : IntKind} {e : TypeId} {bytes : Nat} (U : P.underlying t = some (.slice e)) (E : P.underlying e = some (.int k)) (C : P.cellsOf e = 1) (Y : P.bytesOf e = bytes)
    (hv : Value.okWide P w .any base t v) (h : DataW.Trod enc P w 0 (fun _ => true) true t v d ps) (hlt : ∀ x ∈ ps, x.block < w.heap.size) (hz : ∀ n ∈ d.weights P t, n ≤ reachBytes) : IsNums k bytes w v := by
  obtain ⟨A, len, cap, rfl⟩ := okWide_slice U hv
  obtain ⟨fuel, hf⟩ := h
  rcases open_ints U E C hf with ⟨hcs, _⟩ | ⟨x, l, c, zs, hcs, _, hl, hm, hzl, hx, hcell, hwz⟩
  · simp [Value.cells] at hcs
    obtain ⟨rfl, rfl, rfl⟩ := hcs
    exact ⟨none, 0, 0, [], rfl, Rd.nil, Nat.le_refl _, by simp, by simp⟩
  · simp [Value.cells] at hcs
    obtain ⟨rfl, rfl, rfl⟩ := hcs
    simp only [if_true] at hzl
    simp only [Prod.mk.injEq] at hx
    obtain ⟨rfl, rfl⟩ := hx
    have hcb : cap * bytes ≤ 140737488351232 := by
      have := hz ((zs.take len).length * bytes + (zs.drop len).length * bytes) (by simp [DataW.weights, U, Y, lits, Nat.add_mul])
      simp only [List.length_take, List.length_drop, hzl, reachBytes, ← Nat.add_mul] at this
      have e : min len cap + (cap - len) = cap := by omega
      rwa [e] at this
    refine ⟨_, _, _, zs.take len, rfl, ⟨by simp [hzl]; omega, fun hn => ?_⟩, hl, hcb, fun n hn => hwz n (List.mem_of_mem_take hn)⟩
    have h0 := hcell 0 (by omega)
    have hsp : x.spot = none := by simpa [Addr.add] using World.cell?_spot h0
    obtain ⟨b, off, spot⟩ := x
    subst hsp
    refine ⟨b, off, rfl, World.block_lt_of_cell? w _ h0 |> fun h => by simpa [Addr.add] using h, fun j u hu => ?_⟩
    rw [List.getElem?_map, Option.map_eq_some_iff] at hu
    obtain ⟨q, hq, rfl⟩ := hu
    rw [List.getElem?_take] at hq
    split at hq
    · have hj : j < zs.length := (List.getElem?_eq_some_iff.1 hq).1
      have := hcell j hj
      have hg : zs.getD j 0 = q := by simp [List.getD, hq]
      rw [hg] at this
      rcases Nat.eq_zero_or_pos j with rfl | hj
      · simpa [Addr.add] using this
      · simpa [Addr.add, Nat.ne_of_gt hj] using this
    · cases hq
end
end Go.Proofs.YtjegfimagjmpdaaGreatDoor
end
section
/- What cells are that read as data: numbers, texts, slices of anything, structs field by field. Conditions: none. -/
namespace Go.Proofs.YtjegfimagjmpdaaGreatDoor
open Go.ChangeShapes Go.WideShapes Go.ChangeAt Go.RowKit Go.Deep

section
variable {H : Type} {enc : TypeId × Value → H} {P : Program} {w : World}

/-- 'These cells, of type t, read as the datum x.1 at the places x.2, all of which lie in the world; and nothing in it passes the form's reach.' -/
def Opens (enc : TypeId × Value → H) (P : Program) (w : World) (t : TypeId) (cs : List Value) (x : DataW H × List MemPlace) : Prop :=
  (∃ fuel, DataW.trod enc P w 0 (fun _ => true) true fuel t cs = some x) ∧ (∀ p ∈ x.2, p.block < w.heap.size) ∧ ∀ n ∈ x.1.weights P t, n ≤ reachBytes

variable {t e : TypeId} {cs : List Value} {x : DataW H × List MemPlace}

def CInt (cs : List Value) : Prop := ∃ a : Int, cs = [.int .i64 a] ∧ -9223372036854775808 ≤ a ∧ a ≤ 9223372036854775807
def CBool (cs : List Value) : Prop := ∃ a : Bool, cs = [.bool a]
def CStr (cs : List Value) : Prop := ∃ s : ByteArray, cs = [.string s] ∧ s.size ≤ 140737488351232
theorem op_cint (U : P.underlying t = some (.int .i64)) (h : Opens enc P w t cs x) : CInt cs := by
  obtain ⟨⟨f, hf⟩, _⟩ := h
  obtain ⟨n, rfl, _, hw⟩ := DataW.trod_int U hf
  exact ⟨n, rfl, bd64 hw⟩
theorem op_cbool (U : P.underlying t = some .bool) (h : Opens enc P w t cs x) : CBool cs := by
  obtain ⟨⟨f, hf⟩, _⟩ := h
  obtain ⟨n, rfl, _⟩ := DataW.trod_bool U hf
  exact ⟨n, rfl⟩
theorem op_cstr (U : P.underlying t = some .string) (h : Opens enc P w t cs x) : CStr cs := by
  obtain ⟨⟨f, hf⟩, _, hz⟩ := h
  obtain ⟨s, rfl, rfl, _⟩ := DataW.trod_string U hf
  refine ⟨s, rfl, ?_⟩
  have := hz s.data.toList.length (by simp [DataW.weights])
  simpa [reachBytes] using this

theorem weights_all_mem {ds : List (DataW H)} {d : DataW H} (hd : d ∈ ds) : ∀ n ∈ d.weights P e, n ∈ DataW.weightsAll P e ds := by
  induction ds with
  | nil => cases hd
  | cons a r ih =>
    intro n hn
    simp only [DataW.weightsAll, List.mem_append]
    rcases List.mem_cons.1 hd with rfl | h
    · exact .inl hn
    · exact .inr (ih h n hn)

/-- A slice whose elements' cells satisfy C. -/
def CSlice (C : List Value → Prop) (size bytes : Nat) (w : World) (cs : List Value) : Prop :=
  ∃ (A : Option Addr) (len cap : Nat) (ess : List (List Value)), cs = [.slice A len cap] ∧ ess.length = len ∧ (∀ c ∈ ess, c.length = size ∧ C c) ∧ Rd w w.heap.size size A len ess.flatten ∧ len ≤ cap ∧ cap * bytes ≤ 140737488351232

theorem flat_get {size : Nat} (ess : List (List Value)) (h : ∀ c ∈ ess, c.length = size) (i k : Nat) (hk : k < size) : ess.flatten[i * size + k]? = (ess[i]?).bind (·[k]?) := by
  induction ess generalizing i with
  | nil => simp
  | cons a r ih =>
    have ha : a.length = size := h a (by simp)
    rw [List.flatten_cons]
    cases i with
    | zero => simp only [Nat.zero_mul, Nat.zero_add, List.getElem?_cons_zero, Option.bind_some]; rw [List.getElem?_append_left (by omega)]
    | succ i =>
      rw [List.getElem?_append_right (by rw [ha, Nat.add_mul]; omega), List.getElem?_cons_succ, ← ih (fun c hc => h c (List.mem_cons_of_mem _ hc)), ha]
      congr 1
      rw [Nat.add_mul]; omega

theorem op_cslice {C : List Value → Prop} {size bytes : Nat} (U : P.underlying t = some (.slice e)) (hC : P.cellsOf e = size) (hY : P.bytesOf e = bytes) (hsz : 0 < size) (h : Opens enc P w t cs x)
    (op : ∀ cs' y, Opens enc P w e cs' y → C cs') : CSlice C size bytes w cs := by
  obtain ⟨⟨fuel, hf⟩, hlt, hz⟩ := h
  rcases open_slice U hf with ⟨rfl, _⟩ | ⟨a, len, cap, m, n, D, Pl, rfl, hb, hl, hm, hmm, rfl, hi⟩
  · exact ⟨none, 0, 0, [], rfl, rfl, by simp, Rd.nil, Nat.le_refl _, by simp⟩
  · simp only [if_true] at hmm
    subst hmm
    rw [hC] at hi hlt
    have hcb : m * bytes ≤ 140737488351232 := by
      have := hz ((((List.range len).map D).length + ((List.range (m - len)).map fun j => D (len + j)).length) * bytes) (by simp [DataW.weights, U, hY])
      simp only [List.length_map, List.length_range, reachBytes] at this
      have e' : len + (m - len) = m := by omega
      rwa [e'] at this
    -- the elements' cells
    have hel : ∀ i, i < len → ∃ cs', (∀ k, k < size → w.cell? (a.add (i * size + k)) = cs'[k]?) ∧ cs'.length = size ∧ C cs' := by
      intro i him
      obtain ⟨cs', hc, ht⟩ := hi i (by omega)
      obtain ⟨_, hcl, hat⟩ := World.cells?_some hc
      refine ⟨cs', fun k hk => by rw [← Go.Deep.add_add]; exact hat k hk, hcl, op cs' (D i, Pl i) ⟨⟨n, ht⟩, fun p hp => hlt p ?_, fun q hq => hz q ?_⟩⟩
      · simp only [List.mem_append, List.mem_flatMap, List.mem_range]
        exact .inr ⟨i, by omega, hp⟩
      · simp only [DataW.weights, U, List.mem_cons, List.mem_append]
        exact .inr (.inl (weights_all_mem (List.mem_map.2 ⟨i, List.mem_range.2 him, rfl⟩) q hq))
    obtain ⟨F, hF⟩ : ∃ F : Nat → List Value, ∀ i, i < len → (∀ k, k < size → w.cell? (a.add (i * size + k)) = (F i)[k]?) ∧ (F i).length = size ∧ C (F i) :=
      ⟨fun i => if h : i < len then (hel i h).choose else [], fun i h => by simp only [h, dif_pos]; exact (hel i h).choose_spec⟩
    refine ⟨some a, len, m, (List.range len).map F, rfl, by simp, fun c hc => ?_, ⟨?_, fun hn => ?_⟩, hl, hcb⟩
    · obtain ⟨i, hi', rfl⟩ := List.mem_map.1 hc
      exact ⟨(hF i (List.mem_range.1 hi')).2.1, (hF i (List.mem_range.1 hi')).2.2⟩
    · have : ∀ l : List Nat, (∀ i ∈ l, i < len) → (l.map F).flatten.length = l.length * size := by
        intro l
        induction l with
        | nil => simp
        | cons b r ih =>
          intro hl'
          have h1 := ih (fun i hi' => hl' i (List.mem_cons_of_mem _ hi'))
          have h2 := (hF b (hl' b (by simp))).2.1
          simp only [List.map_cons, List.flatten_cons, List.length_append, h1, h2, List.length_cons, Nat.add_mul]
          omega
      simpa using this (List.range len) (fun i hi' => List.mem_range.1 hi')
    · have h0 := (hF 0 hn).1 0 hsz
      have hne : (F 0)[0]? = some ((F 0)[0]'(by have := (hF 0 hn).2.1; omega)) := List.getElem?_eq_getElem _
      rw [hne] at h0
      have hsp : a.spot = none := by simpa [Addr.add] using World.cell?_spot h0
      have hblk : a.block < w.heap.size := by simpa [Addr.add] using World.block_lt_of_cell? w _ h0
      obtain ⟨b, off, spot⟩ := a
      subst hsp
      refine ⟨b, off, rfl, hblk, fun j u hu => ?_⟩
      have hj : j = (j / size) * size + j % size := by rw [Nat.mul_comm]; exact (Nat.div_add_mod j size).symm
      have hm' : j % size < size := Nat.mod_lt _ hsz
      rw [hj, flat_get _ (fun c hc => by obtain ⟨i, hi', rfl⟩ := List.mem_map.1 hc; exact (hF i (List.mem_range.1 hi')).2.1) _ _ hm'] at hu
      rw [List.getElem?_map] at hu
      by_cases hjl : j / size < len
      · rw [List.getElem?_range hjl] at hu
        simp only [Option.map_some, Option.bind_some] at hu
        have := (hF _ hjl).1 _ hm'
        rw [hu, ← hj] at this
        rcases Nat.eq_zero_or_pos j with rfl | hj0
        · simpa [Addr.add] using this
        · simpa [Addr.add, Nat.ne_of_gt hj0] using this
      · rw [List.getElem?_eq_none (by simp; omega)] at hu
        simp at hu

/-- A struct: each field's cells open. -/
theorem op_struct {fs : Array Field} (U : P.underlying t = some (.struct fs)) (h : Opens enc P w t cs x) :
    cs.length = P.cellsOf t ∧ ∀ (i : Nat) (f : Field), fs[i]? = some f → ∃ y, Opens enc P w f.type ((cs.drop f.offset).take (P.cellsOf f.type)) y := by
  obtain ⟨⟨fuel, hf⟩, hlt, hz⟩ := h
  obtain ⟨xs, n, _, rfl, hlen, hxl, hg⟩ := DataW.trod_struct U hf
  refine ⟨hlen, fun i f hfi => ?_⟩
  have hil : i < fs.size := (Array.getElem?_eq_some_iff.1 hfi).1
  have hx := hg i f hfi
  have hxi : xs[i]? = some (xs[i]'(by omega)) := List.getElem?_eq_getElem _
  rw [hxi] at hx
  refine ⟨_, ⟨n, hx⟩, fun p hp => hlt p ?_, fun q hq => hz q ?_⟩
  · simp only [List.mem_flatMap]
    exact ⟨_, List.getElem_mem _, hp⟩
  · simp only [DataW.weights, U]
    refine DataW.weights_mem_each (j := i) (t := f.type) (d := (xs[i]'(by omega)).1) ?_ ?_ q hq
    · rw [List.getElem?_map, Array.getElem?_toList, hfi]; rfl
    · rw [List.getElem?_map, hxi]; rfl

/-- An argument's cells open. -/
theorem Opens.of {v : Value} {d : DataW H} {ps : List MemPlace} (h : DataW.Trod enc P w 0 (fun _ => true) true t v d ps) (hlt : ∀ x ∈ ps, x.block < w.heap.size) (hz : ∀ n ∈ d.weights P t, n ≤ reachBytes) : Opens enc P w t v.cells.toList (d, ps) := ⟨h, hlt, hz⟩
/-- A struct whose fields are one cell each. -/
theorem op_fields {fs : Array Field} (U : P.underlying t = some (.struct fs)) (hone : oneCellFields P fs = true) (hC : P.cellsOf t = fs.size) (h : Opens enc P w t cs x) :
    cs.length = fs.size ∧ ∀ (i : Nat) (f : Field), fs[i]? = some f → ∃ c y, cs[i]? = some c ∧ Opens enc P w f.type [c] y := by
  obtain ⟨hlen, hf⟩ := op_struct U h
  refine ⟨hlen.trans hC, fun i f hfi => ?_⟩
  obtain ⟨ho, hk⟩ := hone_of hone i f hfi
  have hil : i < fs.size := (Array.getElem?_eq_some_iff.1 hfi).1
  obtain ⟨y, hy⟩ := hf i f hfi
  rw [ho, hk] at hy
  have hl : i < cs.length := by omega
  have hone' : (cs.drop i).take 1 = [cs[i]] := by rw [List.drop_eq_getElem_cons hl]; rfl
  rw [hone'] at hy
  exact ⟨_, y, List.getElem?_eq_getElem hl, hy⟩
theorem cint1 {c : Value} (h : CInt [c]) : ∃ a : Int, c = .int .i64 a ∧ -9223372036854775808 ≤ a ∧ a ≤ 9223372036854775807 := by
  obtain ⟨a, h, b⟩ := h
  exact ⟨a, by simpa using h, b⟩
theorem cbool1 {c : Value} (h : CBool [c]) : ∃ a : Bool, c = .bool a := by
  obtain ⟨a, h⟩ := h
  exact ⟨a, by simpa using h⟩
theorem cstr1 {c : Value} (h : CStr [c]) : ∃ s : ByteArray, c = .string s ∧ s.size ≤ 140737488351232 := by
  obtain ⟨a, h, b⟩ := h
  exact ⟨a, by simpa using h, b⟩
theorem cslice1 {C : List Value → Prop} {size bytes : Nat} {c : Value} (h : CSlice C size bytes w [c]) :
    ∃ (A : Option Addr) (len cap : Nat) (ess : List (List Value)), c = .slice A len cap ∧ ess.length = len ∧ (∀ c ∈ ess, c.length = size ∧ C c) ∧ Rd w w.heap.size size A len ess.flatten ∧ len ≤ cap ∧ cap * bytes ≤ 140737488351232 := by
  obtain ⟨A, len, cap, ess, h, b⟩ := h
  exact ⟨A, len, cap, ess, by simpa using h, b⟩
/-- A slice of numbers. -/
theorem nums_of {size : Nat} {ess : List (List Value)} (h : ∀ c ∈ ess, c.length = size ∧ CInt c) : ∃ zs : List Int, zs.length = ess.length ∧ ess.flatten = zs.map (Value.int .i64) ∧ ∀ z ∈ zs, -9223372036854775808 ≤ z ∧ z ≤ 9223372036854775807 := by
  induction ess with
  | nil => exact ⟨[], rfl, rfl, by simp⟩
  | cons a r ih =>
    obtain ⟨zs, h1, h2, h3⟩ := ih (fun c hc => h c (List.mem_cons_of_mem _ hc))
    obtain ⟨_, z, rfl, hz⟩ := h a (by simp)
    refine ⟨z :: zs, by simp [h1], by simp [h2], fun q hq => ?_⟩
    rcases List.mem_cons.1 hq with rfl | hq
    · exact hz
    · exact h3 q hq
end
end Go.Proofs.YtjegfimagjmpdaaGreatDoor
end
section
/- What memory holds, told as data: numbers, texts, structs, slices of anything, within a set M of blocks. Conditions: none. -/
set_option maxRecDepth 20000
namespace Go.Proofs.YtjegfimagjmpdaaGreatDoor
open Go.ChangeShapes Go.WideShapes Go.ChangeAt Go.RowKit

/-- The slice's elements, as cells: 'size' cells each, in a block of M. -/
def RdM (w : World) (M : Nat → Prop) (size : Nat) (A : Option Addr) (n : Nat) (xs : List Value) : Prop :=
  xs.length = n * size ∧ (0 < n → ∃ b off, A = some ⟨b, off, none⟩ ∧ M b ∧ ∀ j u, xs[j]? = some u → w.cell? ⟨b, off + j, none⟩ = some u)
section
variable {w w' : World} {M M' : Nat → Prop} {size n : Nat} {A : Option Addr} {xs : List Value}
theorem rdm_iff {B : Nat} : Rd w B size A n xs ↔ RdM w (· < B) size A n xs := Iff.rfl
theorem RdM.rd {B : Nat} (h : RdM w M size A n xs) (hM : ∀ b, M b → b < B) : Rd w B size A n xs :=
  ⟨h.1, fun hn => by
    obtain ⟨b, off, e, hb, hc⟩ := h.2 hn
    exact ⟨b, off, e, hM b hb, hc⟩⟩
theorem RdM.nil : RdM w M size A 0 [] := ⟨by simp, fun h => absurd h (by omega)⟩
theorem RdM.keep (h : RdM w M size A n xs) (hk : ∀ p : Addr, M p.block → w'.cell? p = w.cell? p) : RdM w' M size A n xs :=
  ⟨h.1, fun hn => by
    obtain ⟨b, off, e, hb, hc⟩ := h.2 hn
    exact ⟨b, off, e, hb, fun j u hu => (hk ⟨b, off + j, none⟩ hb).trans (hc j u hu)⟩⟩
theorem RdM.more (h : RdM w M size A n xs) (hM : ∀ b, M b → M' b) : RdM w M' size A n xs :=
  ⟨h.1, fun hn => by
    obtain ⟨b, off, e, hb, hc⟩ := h.2 hn
    exact ⟨b, off, e, hM b hb, hc⟩⟩
end

/-- A shape: how cells read as a datum. -/
structure Shp (X : Type) where
  size : Nat
  rd : World → (Nat → Prop) → List Value → X → Prop
  len : ∀ {w M cs x}, rd w M cs x → cs.length = size
  one : ∀ {w M cs x}, rd w M cs x → ∀ u ∈ cs, u.oneCell' = true
  keep : ∀ {w w' M cs x}, rd w M cs x → (∀ p : Addr, M p.block → w'.cell? p = w.cell? p) → rd w' M cs x
  more : ∀ {w M M' cs x}, rd w M cs x → (∀ b, M b → M' b) → rd w M' cs x

def Shp.int : Shp Int where
  size := 1
  rd _ _ cs x := cs = [.int .i64 x] ∧ -9223372036854775808 ≤ x ∧ x ≤ 9223372036854775807
  len h := by rw [h.1]; rfl
  one h := by rw [h.1]; intro u hu; simp at hu; subst hu; rfl
  keep h _ := h
  more h _ := h
def Shp.bool : Shp Bool where
  size := 1
  rd _ _ cs x := cs = [.bool x]
  len h := by rw [h]; rfl
  one h := by rw [h]; intro u hu; simp at hu; subst hu; rfl
  keep h _ := h
  more h _ := h
def Shp.str : Shp ByteArray where
  size := 1
  rd _ _ cs x := cs = [.string x]
  len h := by rw [h]; rfl
  one h := by rw [h]; intro u hu; simp at hu; subst hu; rfl
  keep h _ := h
  more h _ := h
/-- Two data, one behind the other. -/
def Shp.pair {X Y : Type} (S : Shp X) (T : Shp Y) : Shp (X × Y) where
  size := S.size + T.size
  rd w M cs x := ∃ c d, cs = c ++ d ∧ S.rd w M c x.1 ∧ T.rd w M d x.2
  len := by rintro w M cs x ⟨c, d, rfl, h1, h2⟩; rw [List.length_append, S.len h1, T.len h2]
  one := by
    rintro w M cs x ⟨c, d, rfl, h1, h2⟩ u hu
    rcases List.mem_append.1 hu with hu | hu
    · exact S.one h1 u hu
    · exact T.one h2 u hu
  keep := by rintro w w' M cs x ⟨c, d, rfl, h1, h2⟩ hk; exact ⟨c, d, rfl, S.keep h1 hk, T.keep h2 hk⟩
  more := by rintro w M M' cs x ⟨c, d, rfl, h1, h2⟩ hk; exact ⟨c, d, rfl, S.more h1 hk, T.more h2 hk⟩
/-- A datum of another type that is told by this one. -/
def Shp.as {X Y : Type} (S : Shp X) (f : Y → X) : Shp Y where
  size := S.size
  rd w M cs y := S.rd w M cs (f y)
  len h := S.len h
  one h := S.one h
  keep h hk := S.keep h hk
  more h hk := S.more h hk
/-- Elements' cells, element by element. -/
def Shp.all {X : Type} (S : Shp X) (w : World) (M : Nat → Prop) (ess : List (List Value)) (xs : List X) : Prop :=
  ess.length = xs.length ∧ ∀ (i : Nat) (c : List Value) (x : X), ess[i]? = some c → xs[i]? = some x → S.rd w M c x
section
variable {X : Type} {S : Shp X} {w w' : World} {M M' : Nat → Prop} {ess : List (List Value)} {xs : List X}
theorem Shp.all.keep (h : S.all w M ess xs) (hk : ∀ p : Addr, M p.block → w'.cell? p = w.cell? p) : S.all w' M ess xs := ⟨h.1, fun i c x h1 h2 => S.keep (h.2 i c x h1 h2) hk⟩
theorem Shp.all.more (h : S.all w M ess xs) (hM : ∀ b, M b → M' b) : S.all w M' ess xs := ⟨h.1, fun i c x h1 h2 => S.more (h.2 i c x h1 h2) hM⟩
theorem Shp.all.nil : S.all w M [] [] := ⟨rfl, by simp⟩
theorem Shp.all.snoc (h : S.all w M ess xs) {c : List Value} {x : X} (hc : S.rd w M c x) : S.all w M (ess ++ [c]) (xs ++ [x]) := by
  refine ⟨by simp [h.1], fun i d y hd hy => ?_⟩
  by_cases hi : i < ess.length
  · rw [List.getElem?_append_left hi] at hd
    rw [List.getElem?_append_left (by rw [← h.1]; exact hi)] at hy
    exact h.2 i d y hd hy
  · rw [List.getElem?_append_right (by omega)] at hd
    rw [List.getElem?_append_right (by rw [← h.1]; omega)] at hy
    rw [h.1] at hd
    rcases hk : i - xs.length with _ | k
    · rw [hk] at hd hy; simp at hd hy; subst hd hy; exact hc
    · rw [hk] at hd; simp at hd
theorem Shp.all.app {ess' : List (List Value)} {xs' : List X} (h : S.all w M ess xs) (h' : S.all w M ess' xs') : S.all w M (ess ++ ess') (xs ++ xs') := by
  refine ⟨by simp [h.1, h'.1], fun i d y hd hy => ?_⟩
  by_cases hi : i < ess.length
  · rw [List.getElem?_append_left hi] at hd
    rw [List.getElem?_append_left (by rw [← h.1]; exact hi)] at hy
    exact h.2 i d y hd hy
  · rw [List.getElem?_append_right (by omega)] at hd
    rw [List.getElem?_append_right (by rw [← h.1]; omega)] at hy
    rw [h.1] at hd
    exact h'.2 _ d y hd hy
theorem Shp.all.take (h : S.all w M ess xs) (n : Nat) : S.all w M (ess.take n) (xs.take n) := by
  refine ⟨by simp [h.1], fun i c x h1 h2 => ?_⟩
  rw [List.getElem?_take] at h1 h2
  split at h1
  · rw [if_pos (by assumption)] at h2; exact h.2 i c x h1 h2
  · cases h1
theorem Shp.all.drop (h : S.all w M ess xs) (n : Nat) : S.all w M (ess.drop n) (xs.drop n) := by
  refine ⟨by simp [h.1], fun i c x h1 h2 => ?_⟩
  rw [List.getElem?_drop] at h1 h2
  exact h.2 _ c x h1 h2
theorem Shp.all.each (h : S.all w M ess xs) : ∀ c ∈ ess, c.length = S.size := by
  intro c hc
  obtain ⟨i, hi, rfl⟩ := List.getElem_of_mem hc
  have hx : i < xs.length := by rw [← h.1]; exact hi
  exact S.len (h.2 i _ xs[i] (List.getElem?_eq_getElem hi) (List.getElem?_eq_getElem hx))
theorem flatten_len {k : Nat} : ∀ {ess : List (List Value)}, (∀ c ∈ ess, c.length = k) → ess.flatten.length = ess.length * k
  | [], _ => by simp
  | c :: r, h => by
    rw [List.flatten_cons, List.length_append, flatten_len fun d hd => h d (List.mem_cons_of_mem _ hd), h c (by simp), List.length_cons, Nat.add_mul]
    omega
theorem Shp.all.flat_len (h : S.all w M ess xs) : ess.flatten.length = xs.length * S.size := by rw [flatten_len h.each, h.1]
theorem Shp.all.oneCell (h : S.all w M ess xs) : ∀ u ∈ ess.flatten, u.oneCell' = true := by
  intro u hu
  obtain ⟨c, hc, hu⟩ := List.mem_flatten.1 hu
  obtain ⟨i, hi, rfl⟩ := List.getElem_of_mem hc
  have hx : i < xs.length := by rw [← h.1]; exact hi
  exact S.one (h.2 i _ xs[i] (List.getElem?_eq_getElem hi) (List.getElem?_eq_getElem hx)) u hu
theorem flat_at {k : Nat} : ∀ {ess : List (List Value)}, (∀ c ∈ ess, c.length = k) → ∀ (i j : Nat), j < k → ess.flatten[i * k + j]? = (ess[i]?).bind (·[j]?)
  | [], _, i, j, _ => by simp
  | a :: r, h, i, j, hj => by
    have ha : a.length = k := h a (by simp)
    rw [List.flatten_cons]
    cases i with
    | zero => simp only [Nat.zero_mul, Nat.zero_add, List.getElem?_cons_zero, Option.bind_some]; rw [List.getElem?_append_left (by omega)]
    | succ i =>
      rw [List.getElem?_append_right (by rw [ha, Nat.add_mul]; omega), List.getElem?_cons_succ, ← flat_at (ess := r) (fun c hc => h c (List.mem_cons_of_mem _ hc)) i j hj, ha]
      congr 1
      rw [Nat.add_mul]; omega
theorem flat_take {k : Nat} : ∀ {ess : List (List Value)}, (∀ c ∈ ess, c.length = k) → ∀ n, (ess.take n).flatten = ess.flatten.take (n * k)
  | [], _, n => by simp
  | a :: r, h, n => by
    have ha : a.length = k := h a (by simp)
    cases n with
    | zero => simp
    | succ n =>
      rw [List.take_succ_cons, List.flatten_cons, List.flatten_cons, flat_take (ess := r) (fun c hc => h c (List.mem_cons_of_mem _ hc)) n, List.take_append, ha, List.take_of_length_le (l := a) (by rw [ha, Nat.add_mul]; omega)]
      congr 2
      rw [Nat.add_mul]; omega
end
/-- A slice of what has a shape. -/
def Shp.slice {X : Type} (S : Shp X) : Shp (List X) where
  size := 1
  rd w M cs xs := ∃ (A : Option Addr) (c : Nat) (ess : List (List Value)), cs = [.slice A xs.length c] ∧ xs.length ≤ c ∧ c ≤ maxLen ∧ (c = 0 ∨ A ≠ none) ∧ RdM w M S.size A xs.length ess.flatten ∧ S.all w M ess xs
  len := by rintro w M cs xs ⟨A, c, ess, rfl, _⟩; rfl
  one := by rintro w M cs xs ⟨A, c, ess, rfl, _⟩ u hu; simp at hu; subst hu; rfl
  keep := by rintro w w' M cs xs ⟨A, c, ess, rfl, h1, h2, h3, h4, h5⟩ hk; exact ⟨A, c, ess, rfl, h1, h2, h3, h4.keep hk, h5.keep hk⟩
  more := by rintro w M M' cs xs ⟨A, c, ess, rfl, h1, h2, h3, h4, h5⟩ hk; exact ⟨A, c, ess, rfl, h1, h2, h3, h4.more hk, h5.more hk⟩

/-- A slice of the call's own: its row is owned from 'base' on; what its elements lead to lies elsewhere, and not among the blocks that E names. -/
def Own {X : Type} (S : Shp X) (e : TypeId) (w : World) (base : Nat) (E : Nat → Prop) (v : Value) (xs : List X) : Prop :=
  ∃ (A : Option Addr) (c : Nat) (ess : List (List Value)), v = .slice A xs.length c ∧ w.ownsRow base e S.size v xs.length ess.flatten ∧ S.all w (fun b => b < w.heap.size ∧ some b ≠ v.ownBlock ∧ ¬ E b) ess xs
section
variable {X : Type} {S : Shp X} {e : TypeId} {w w' : World} {base : Nat} {E : Nat → Prop} {v : Value} {xs : List X}
theorem Own.nil : Own S e w base E (.slice none 0 0) [] := ⟨none, 0, [], rfl, World.ownsRow_nil _ _ _ _, .nil⟩
theorem own_heap {n size : Nat} {ys : List Value} (h : w.ownsRow base e size v n ys) (_ : w.heap.size ≤ w'.heap.size) (hb : ∀ k, v.ownBlock = some k → w'.heap[k]? = w.heap[k]?) : w'.ownsRow base e size v n ys := by
  obtain ⟨h1, h2⟩ := h
  refine ⟨h1, ?_⟩
  rcases h2 with h2 | ⟨g, cap, cur, rfl, hg, hh, r⟩
  · exact .inl h2
  · exact .inr ⟨g, cap, cur, rfl, hg, (hb g rfl).trans hh, r⟩
/-- What was there stays, but for the blocks that E names. -/
theorem Own.keep (h : Own S e w base E v xs) (hs : w.heap.size ≤ w'.heap.size) (hb : ∀ k, k < w.heap.size → ¬ E k → w'.heap[k]? = w.heap[k]?) (hE : ∀ k, v.ownBlock = some k → ¬ E k) : Own S e w' base E v xs := by
  obtain ⟨A, c, ess, rfl, hown, hall⟩ := h
  refine ⟨A, c, ess, rfl, own_heap hown hs (fun k hk => hb k (hown.lt k hk).2 (hE k hk)), (hall.keep fun p hp => World.cell?_of_block (hb _ hp.1 hp.2.2)).more fun b hb => ⟨Nat.lt_of_lt_of_le hb.1 hs, hb.2⟩⟩
theorem Own.below (h : Own S e w base E v xs) (hb : Below w.heap.size w w') : Own S e w' base E v xs := by
  obtain ⟨A, c, ess, rfl, hown, hall⟩ := h
  exact ⟨A, c, ess, rfl, own_heap hown hb.size (fun k hk => hb.block k (hown.lt k hk).2), (hall.keep fun p hp => hb.cell hp.1).more fun b h => ⟨Nat.lt_of_lt_of_le h.1 hb.size, h.2⟩⟩
theorem Own.read (h : Own S e w base E v xs) : (Shp.slice S).rd w (· < w.heap.size) [v] xs := by
  obtain ⟨A, c, ess, rfl, hown, hall⟩ := h
  have hr := Rd.of_own hown
  refine ⟨A, c, ess, rfl, ?_, ?_, ?_, hr, hall.more fun b hb => hb.1⟩
  · rcases hown.2 with ⟨h1, _⟩ | ⟨g, cap, cur, h1, _, _, hnc, _⟩
    · simp at h1; omega
    · simp at h1; omega
  · rcases hown.2 with ⟨h1, _⟩ | ⟨g, cap, cur, h1, _, _, _, hcm, _⟩
    · simp at h1; omega
    · simp at h1; omega
  · rcases hown.2 with ⟨h1, _⟩ | ⟨g, cap, cur, h1, _, _, _, hcm, _⟩
    · simp at h1; omega
    · simp at h1; exact .inr (by rw [h1.1]; simp)
end
end Go.Proofs.YtjegfimagjmpdaaGreatDoor
end
section
/- What comes in, told as data by shapes, with its bulk. Conditions: none. -/
set_option maxRecDepth 20000
namespace Go.Proofs.YtjegfimagjmpdaaGreatDoor
open Go.ChangeShapes Go.WideShapes Go.ChangeAt Go.RowKit Go.Deep

/-- 'What opens at type t is a datum of shape S; it fits the form's reach; its bulk is at most the reading's.' -/
def Op {X : Type} (S : Shp X) (P : Program) (t : TypeId) (bulk : X → Nat) (fits : X → Prop) : Prop :=
  ∀ {H : Type} {enc : TypeId × Value → H} {w : World} {cs : List Value} {x : DataW H × List MemPlace}, Opens enc P w t cs x →
    ∃ y, S.rd w (· < w.heap.size) cs y ∧ fits y ∧ bulk y ≤ Rows.uptoBulk x.1
section
variable {P : Program} {t e : TypeId}
theorem bulk_one {H : Type} (d : DataW H) : 1 ≤ Rows.uptoBulk d := by
  cases d with
  | lit l => cases l <;> simp [Rows.uptoBulk]
  | nil => simp [Rows.uptoBulk]
  | ptr d => simp [Rows.uptoBulk]
  | slice elems spare => simp [Rows.uptoBulk]
  | agg parts => simp [Rows.uptoBulk]
  | iface t d => simp [Rows.uptoBulk]
  | map entries => simp [Rows.uptoBulk]
  | held h => simp [Rows.uptoBulk]
theorem op_int' (U : P.underlying t = some (.int .i64)) : Op Shp.int P t (fun _ => 1) (fun _ => True) := by
  intro H enc w cs x h
  obtain ⟨a, rfl, h1, h2⟩ := op_cint U h
  exact ⟨a, ⟨rfl, h1, h2⟩, trivial, bulk_one _⟩
theorem op_bool' (U : P.underlying t = some .bool) : Op Shp.bool P t (fun _ => 1) (fun _ => True) := by
  intro H enc w cs x h
  obtain ⟨a, rfl⟩ := op_cbool U h
  exact ⟨a, rfl, trivial, bulk_one _⟩
theorem op_str' (U : P.underlying t = some .string) : Op Shp.str P t (fun s => s.size + 1) (fun s => s.size ≤ 140737488351232) := by
  intro H enc w cs x h
  obtain ⟨⟨f, hf⟩, _, hz⟩ := h
  obtain ⟨s, rfl, rfl, _⟩ := DataW.trod_string U hf
  refine ⟨s, rfl, ?_, ?_⟩
  · have := hz s.data.toList.length (by simp [DataW.weights])
    simpa [reachBytes] using this
  · simp [Rows.uptoBulk]
theorem sum_le_bulk {H : Type} {X : Type} {bulk : X → Nat} : ∀ {ys : List X} {ds : List (DataW H)}, ys.length = ds.length → (∀ (i : Nat) (y : X) (d : DataW H), ys[i]? = some y → ds[i]? = some d → bulk y ≤ Rows.uptoBulk d) → (ys.map bulk).sum ≤ Rows.uptoBulkAll ds
  | [], [], _, _ => by simp [Rows.uptoBulkAll]
  | y :: ys, d :: ds, hl, h => by
    have h1 := h 0 y d rfl rfl
    have h2 := sum_le_bulk (bulk := bulk) (ys := ys) (ds := ds) (by simpa using hl) (fun i y d hy hd => h (i + 1) y d hy hd)
    simp only [List.map_cons, List.sum_cons, Rows.uptoBulkAll]
    omega
theorem op_slice' {X : Type} {S : Shp X} {bulk : X → Nat} {fits : X → Prop} {bytes : Nat} (U : P.underlying t = some (.slice e)) (hC : P.cellsOf e = S.size) (hY : P.bytesOf e = bytes) (hsz : 0 < S.size) (op : Op S P e bulk fits) :
    Op (Shp.slice S) P t (fun l => (l.map bulk).sum + 1) (fun l => l.length * bytes ≤ 140737488351232 ∧ ∀ y ∈ l, fits y) := by
  intro H enc w cs x h
  obtain ⟨⟨fuel, hf⟩, hlt, hz⟩ := h
  rcases open_slice U hf with ⟨rfl, hx⟩ | ⟨a, len, cap, m, n, D, Pl, rfl, hb, hl, hm, hmm, rfl, hi⟩
  · exact ⟨[], ⟨none, 0, [], rfl, by simp, by unfold maxLen; omega, .inl rfl, RdM.nil, .nil⟩, ⟨by simp, by simp⟩, by simpa using bulk_one _⟩
  · simp only [if_true] at hmm
    subst hmm
    rw [hC] at hi hlt
    have hcb : m * bytes ≤ 140737488351232 := by
      have := hz ((((List.range len).map D).length + ((List.range (m - len)).map fun j => D (len + j)).length) * bytes) (by simp [DataW.weights, U, hY])
      simp only [List.length_map, List.length_range, reachBytes] at this
      have e' : len + (m - len) = m := by omega
      rwa [e'] at this
    have hel : ∀ i, i < len → ∃ cs' y, (∀ k, k < S.size → w.cell? (a.add (i * S.size + k)) = cs'[k]?) ∧ S.rd w (· < w.heap.size) cs' y ∧ fits y ∧ bulk y ≤ Rows.uptoBulk (D i) := by
      intro i him
      obtain ⟨cs', hc, ht⟩ := hi i (by omega)
      obtain ⟨_, hcl, hat⟩ := World.cells?_some hc
      have ho : Opens enc P w e cs' (D i, Pl i) := ⟨⟨n, ht⟩, fun p hp => hlt p (by
          simp only [List.mem_append, List.mem_flatMap, List.mem_range]
          exact .inr ⟨i, by omega, hp⟩), fun q hq => hz q (by
          simp only [DataW.weights, U, List.mem_cons, List.mem_append]
          exact .inr (.inl (weights_all_mem (List.mem_map.2 ⟨i, List.mem_range.2 him, rfl⟩) q hq)))⟩
      obtain ⟨y, h1, h2, h3⟩ := op ho
      exact ⟨cs', y, fun k hk => by rw [← Go.Deep.add_add]; exact hat k hk, h1, h2, h3⟩
    obtain ⟨F, hF⟩ : ∃ F : Nat → List Value, ∀ i, i < len → ∃ y, (∀ k, k < S.size → w.cell? (a.add (i * S.size + k)) = (F i)[k]?) ∧ S.rd w (· < w.heap.size) (F i) y ∧ fits y ∧ bulk y ≤ Rows.uptoBulk (D i) :=
      ⟨fun i => if h : i < len then (hel i h).choose else [], fun i h => by simp only [h, dif_pos]; exact (hel i h).choose_spec⟩
    have hG : ∃ ys : List X, ys.length = len ∧ ∀ i y, ys[i]? = some y → (∀ k, k < S.size → w.cell? (a.add (i * S.size + k)) = (F i)[k]?) ∧ S.rd w (· < w.heap.size) (F i) y ∧ fits y ∧ bulk y ≤ Rows.uptoBulk (D i) := by
      clear hel hi hz hlt hf hm
      have key : ∀ l : Nat, l ≤ len → ∃ ys : List X, ys.length = l ∧ ∀ i y, ys[i]? = some y → (∀ k, k < S.size → w.cell? (a.add (i * S.size + k)) = (F i)[k]?) ∧ S.rd w (· < w.heap.size) (F i) y ∧ fits y ∧ bulk y ≤ Rows.uptoBulk (D i) := by
        intro l
        induction l with
        | zero => intro _; exact ⟨[], rfl, by simp⟩
        | succ l ih =>
          intro hll
          obtain ⟨ys, h1, h2⟩ := ih (by omega)
          obtain ⟨y, hy⟩ := hF l (by omega)
          refine ⟨ys ++ [y], by simp [h1], fun i z hz => ?_⟩
          by_cases hil : i < l
          · rw [List.getElem?_append_left (by omega)] at hz
            exact h2 i z hz
          · rw [List.getElem?_append_right (by omega), h1] at hz
            rcases hk : i - l with _ | k
            · rw [hk] at hz; simp at hz; subst hz
              obtain rfl : i = l := by omega
              exact hy
            · rw [hk] at hz; simp at hz
      exact key len (Nat.le_refl _)
    obtain ⟨ys, hyl, hys⟩ := hG
    have hall : S.all w (· < w.heap.size) ((List.range len).map F) ys := by
      refine ⟨by simp [hyl], fun i c x hc hx => ?_⟩
      rw [List.getElem?_map, Option.map_eq_some_iff] at hc
      obtain ⟨j, hj, rfl⟩ := hc
      have hjl : i < len := by have := (List.getElem?_eq_some_iff.1 hj).1; simpa using this
      rw [List.getElem?_range hjl] at hj
      injection hj with hj
      subst hj
      exact (hys i x hx).2.1
    refine ⟨ys, ⟨some a, m, (List.range len).map F, by rw [hyl], by omega, ?_, .inr (by simp), ⟨hall.flat_len, fun hn => ?_⟩, hall⟩, ⟨?_, ?_⟩, ?_⟩
    · exact Nat.le_of_lt_succ (by unfold maxLen at *; omega)
    · have hn' : 0 < len := by omega
      have hE : ∀ i k, i < len → k < S.size → w.cell? (a.add (i * S.size + k)) = (F i)[k]? := fun i k h1 h2 => by
        obtain ⟨y, hy⟩ := hF i h1
        exact hy.1 k h2
      have hL : ∀ c ∈ (List.range len).map F, c.length = S.size := hall.each
      have h0 := hE 0 0 hn' hsz
      have hF0 : (F 0).length = S.size := hL _ (List.mem_map.2 ⟨0, List.mem_range.2 hn', rfl⟩)
      rw [List.getElem?_eq_getElem (by omega)] at h0
      have hsp : a.spot = none := by simpa [Addr.add] using World.cell?_spot h0
      have hblk : a.block < w.heap.size := by simpa [Addr.add] using World.block_lt_of_cell? w _ h0
      obtain ⟨b, off, spot⟩ := a
      subst hsp
      refine ⟨b, off, rfl, hblk, fun j u hu => ?_⟩
      have hj : j = (j / S.size) * S.size + j % S.size := by rw [Nat.mul_comm]; exact (Nat.div_add_mod j S.size).symm
      have hm' : j % S.size < S.size := Nat.mod_lt _ hsz
      rw [hj, flat_at hL _ _ hm', List.getElem?_map] at hu
      by_cases hjl : j / S.size < len
      · rw [List.getElem?_range hjl] at hu
        simp only [Option.map_some, Option.bind_some] at hu
        have := hE _ _ hjl hm'
        rw [hu, ← hj] at this
        rcases Nat.eq_zero_or_pos j with rfl | hj0
        · simpa [Addr.add] using this
        · simpa [Addr.add, Nat.ne_of_gt hj0] using this
      · rw [List.getElem?_eq_none (by simp; omega)] at hu
        simp at hu
    · rw [hyl]
      exact Nat.le_trans (Nat.mul_le_mul_right _ hl) hcb
    · intro y hy
      obtain ⟨i, hil, rfl⟩ := List.getElem_of_mem hy
      exact (hys i _ (List.getElem?_eq_getElem hil)).2.2.1
    · have := sum_le_bulk (bulk := bulk) (ys := ys) (ds := (List.range len).map D) (by simp [hyl]) (fun i y d hy hd => by
        rw [List.getElem?_map, Option.map_eq_some_iff] at hd
        obtain ⟨j, hj, rfl⟩ := hd
        have hjl : i < len := by have := (List.getElem?_eq_some_iff.1 hj).1; simpa using this
        rw [List.getElem?_range hjl] at hj
        injection hj with hj
        subst hj
        exact (hys i y hy).2.2.2)
      simp only [Rows.uptoBulk]
      omega
/-- A struct: each field's cells open; its bulk is theirs. -/
theorem op_parts {H : Type} {enc : TypeId × Value → H} {w : World} {cs : List Value} {x : DataW H × List MemPlace} {fs : Array Field} (U : P.underlying t = some (.struct fs)) (h : Opens enc P w t cs x) :
    cs.length = P.cellsOf t ∧ ∃ ys : List (DataW H × List MemPlace), ys.length = fs.size ∧ Rows.uptoBulk x.1 = Rows.uptoBulkAll (ys.map Prod.fst) + 1 ∧
      ∀ (i : Nat) (f : Field), fs[i]? = some f → ∃ y, ys[i]? = some y ∧ Opens enc P w f.type ((cs.drop f.offset).take (P.cellsOf f.type)) y := by
  obtain ⟨⟨fuel, hf⟩, hlt, hz⟩ := h
  obtain ⟨xs, n, _, rfl, hlen, hxl, hg⟩ := DataW.trod_struct U hf
  refine ⟨hlen, xs, hxl, by simp [Rows.uptoBulk], fun i f hfi => ?_⟩
  have hil : i < fs.size := (Array.getElem?_eq_some_iff.1 hfi).1
  have hx := hg i f hfi
  have hxi : xs[i]? = some (xs[i]'(by omega)) := List.getElem?_eq_getElem _
  rw [hxi] at hx
  refine ⟨_, hxi, ⟨n, hx⟩, fun p hp => hlt p ?_, fun q hq => hz q ?_⟩
  · simp only [List.mem_flatMap]
    exact ⟨_, List.getElem_mem _, hp⟩
  · simp only [DataW.weights, U]
    refine DataW.weights_mem_each (j := i) (t := f.type) (d := (xs[i]'(by omega)).1) ?_ ?_ q hq
    · rw [List.getElem?_map, Array.getElem?_toList, hfi]; rfl
    · rw [List.getElem?_map, hxi]; rfl
theorem ints_flat {w : World} {M : Nat → Prop} : ∀ {ess : List (List Value)} {zs : List Int}, Shp.int.all w M ess zs → ess.flatten = zs.map (Value.int .i64) ∧ ∀ z ∈ zs, -9223372036854775808 ≤ z ∧ z ≤ 9223372036854775807
  | [], [], _ => ⟨rfl, by simp⟩
  | [], _ :: _, h => by have := h.1; simp at this
  | _ :: _, [], h => by have := h.1; simp at this
  | c :: ess, z :: zs, h => by
    obtain ⟨h1, h2, h3⟩ := h.2 0 c z rfl rfl
    obtain ⟨h4, h5⟩ := ints_flat (ess := ess) (zs := zs) ⟨by have := h.1; simpa using this, fun i c z hc hz => h.2 (i + 1) c z hc hz⟩
    refine ⟨by rw [List.flatten_cons, h4, h1]; rfl, fun q hq => ?_⟩
    rcases List.mem_cons.1 hq with rfl | hq
    · exact ⟨h2, h3⟩
    · exact h5 q hq
/-- A list of numbers, in memory. -/
theorem ints_elim {w : World} {M : Nat → Prop} {cs : List Value} {zs : List Int} (h : (Shp.slice Shp.int).rd w M cs zs) :
    ∃ A c, cs = [.slice A zs.length c] ∧ RdM w M 1 A zs.length (zs.map (Value.int .i64)) ∧ zs.length ≤ c ∧ c ≤ maxLen ∧ (c = 0 ∨ A ≠ none) ∧ ∀ z ∈ zs, -9223372036854775808 ≤ z ∧ z ≤ 9223372036854775807 := by
  obtain ⟨A, c, ess, rfl, h1, h2, h3, h4, h5⟩ := h
  obtain ⟨e1, e2⟩ := ints_flat h5
  rw [e1] at h4
  exact ⟨A, c, rfl, h4, h1, h2, h3, e2⟩
theorem ints_intro {w : World} {M : Nat → Prop} {A : Option Addr} {c : Nat} {zs : List Int} (hr : RdM w M 1 A zs.length (zs.map (Value.int .i64))) (h1 : zs.length ≤ c) (h2 : c ≤ maxLen) (h3 : c = 0 ∨ A ≠ none) (hb : ∀ z ∈ zs, -9223372036854775808 ≤ z ∧ z ≤ 9223372036854775807) :
    (Shp.slice Shp.int).rd w M [.slice A zs.length c] zs := by
  have e : (zs.map fun z => [Value.int .i64 z]).flatten = zs.map (Value.int .i64) := by
    clear hr h1 hb
    induction zs with
    | nil => rfl
    | cons z r ih => simp [ih]
  refine ⟨A, c, zs.map fun z => [Value.int .i64 z], rfl, h1, h2, h3, by rw [e]; exact hr, by simp, fun i d z hd hz => ?_⟩
  rw [List.getElem?_map, hz] at hd
  injection hd with hd
  subst hd
  exact ⟨rfl, hb z (List.mem_of_getElem? hz)⟩
end

theorem sum_one (l : List Int) : (l.map fun _ => 1).sum = l.length := by induction l with
  | nil => rfl
  | cons a r ih => simp [ih]; omega
end Go.Proofs.YtjegfimagjmpdaaGreatDoor
end
section
/- Plain: texts as lists of bytes. Conditions: none. -/
namespace Go.Proofs.YtjegfimagjmpdaaGreatDoor
open Go
/-- The bytes of a text, as numbers. -/
def byt (s : ByteArray) : List Nat := s.data.toList.map UInt8.toNat
/-- The text of these bytes. -/
def strOf (l : List Nat) : ByteArray := strOfNums (l.map Int.ofNat)
theorem strOf_eq (l : List Nat) : strOf l = ⟨(l.map UInt8.ofNat).toArray⟩ := by
  unfold strOf strOfNums
  rw [List.map_map]; rfl
theorem strOf_byt (s : ByteArray) : strOf (byt s) = s := by
  rw [strOf_eq]
  unfold byt
  rw [List.map_map]
  have : (UInt8.ofNat ∘ UInt8.toNat) = id := by funext c; simp
  rw [this, List.map_id]
theorem byt_strOf {l : List Nat} (h : ∀ d ∈ l, d < 256) : byt (strOf l) = l := by
  rw [strOf_eq]
  unfold byt
  simp only [List.map_map]
  conv => rhs; rw [← List.map_id l]
  apply List.map_congr_left
  intro d hd
  simp only [Function.comp, id]
  rw [UInt8.toNat_ofNat']
  exact Nat.mod_eq_of_lt (h d hd)
theorem byt_inj {s t : ByteArray} (h : byt s = byt t) : s = t := by rw [← strOf_byt s, h, strOf_byt]
theorem byt_len (s : ByteArray) : (byt s).length = s.size := by unfold byt; rw [List.length_map]; rfl
theorem byt_lt (s : ByteArray) : ∀ d ∈ byt s, d < 256 := by
  intro d hd
  obtain ⟨c, _, rfl⟩ := List.mem_map.1 hd
  exact c.toNat_lt
theorem byt_get (s : ByteArray) (k : Nat) (h : k < s.size) : (byt s)[k]? = some s[k].toNat := by
  have : k < s.data.toList.length := h
  unfold byt
  rw [List.getElem?_map, List.getElem?_eq_getElem this]
  rfl
theorem byt_getD (s : ByteArray) (k : Nat) (h : k < s.size) : (byt s).getD k 0 = s[k].toNat := by
  rw [List.getD, byt_get s k h]; rfl
theorem byt_toList (s : ByteArray) : byt s = s.toList.map UInt8.toNat := by rw [ByteArray.toList_eq]; rfl
theorem byt_extract (s : ByteArray) (a b : Nat) : byt (s.extract a b) = ((byt s).take b).drop a := by
  unfold byt
  rw [ByteArray.data_extract]
  simp [List.extract, List.map_drop, List.map_take]
  rw [List.drop_take]
theorem byt_append (s t : ByteArray) : byt (s ++ t) = byt s ++ byt t := by
  unfold byt
  simp
theorem strOf_app (a b : List Nat) : strOf (a ++ b) = strOf a ++ strOf b := by
  rw [strOf_eq, strOf_eq, strOf_eq]
  apply ByteArray.ext
  simp
theorem byt_drop (s : ByteArray) (k : Nat) (h : k < s.size) : (byt s).drop k = s[k].toNat :: (byt s).drop (k + 1) := by
  have hl : k < (byt s).length := by rw [byt_len]; exact h
  rw [List.drop_eq_getElem_cons hl]
  congr 1
  have := byt_get s k h
  rw [List.getElem?_eq_getElem hl] at this
  injection this
theorem beq_byt (s t : ByteArray) : (s.toList == t.toList) = (byt s == byt t) := by
  rw [Bool.eq_iff_iff, beq_iff_eq, beq_iff_eq]
  constructor
  · intro h; rw [byt_toList, byt_toList, h]
  · intro h; rw [byt_inj h]
theorem strOf_len (l : List Nat) : (strOf l).size = l.length := by rw [strOf_eq]; simp [ByteArray.size]
end Go.Proofs.YtjegfimagjmpdaaGreatDoor
end
section
/- Rows of the call's own, more: what stays; 'string(b)'. Conditions: none. -/
set_option maxRecDepth 20000
namespace Go.Proofs.YtjegfimagjmpdaaGreatDoor
open Go.ChangeShapes Go.WideShapes Go.ChangeAt Go.RowKit
theorem below_grown {B base size n : Nat} {e : TypeId} {W w w' : World} {v : Value} {xs : List Value} (hb : Below B W w) (hw : B ≤ w.heap.size) (hown : w.ownsRow base e size v n xs) (hB : B ≤ base) (hg : w.grownBy w' v.ownBlock) : Below B W w' :=
  hb.grown hg hw fun k hk => Nat.le_trans hB (hown.lt k hk).1
theorem info_u8 : (Tryz.prog.info? 5).map (fun i => (i.zero, i.size, i.bytes)) = some (some (.int .u8 0), 1, 1) := by kernel_rfl
theorem own_below {base size n : Nat} {e : TypeId} {w w' : World} {v : Value} {xs : List Value} (h : w.ownsRow base e size v n xs) (hb : Below w.heap.size w w') : w'.ownsRow base e size v n xs :=
  h.kept (row := none) ⟨hb.os, hb.tape, hb.output, hb.size, fun k hk _ => hb.block k hk⟩ (by cases hv : v.ownBlock <;> simp)
/-- 'string(b)' of a slice that reads as numbers. -/
theorem run_str_rd {P : Program} {w : World} {B n c : Nat} {A : Option Addr} {zs : List Int} (h : Rd w B 1 A n (zs.map (Value.int .u8))) (src e dst : TypeId) (hs : P.underlying src = some (.slice e)) (he : P.underlying e = some (.int .u8)) (hd : P.underlying dst = some .string) :
    (convert src dst (.slice A n c)).run P w = .ok (.string (strOfNums zs)) w := by
  have hl := h.1
  simp at hl
  rcases Nat.eq_zero_or_pos n with rfl | hn
  · have hz : zs = [] := List.eq_nil_of_length_eq_zero hl
    subst hz
    rcases A with _ | ad
    · rw [run_convert_bytes_nil w src e hs he 0 c dst hd]; rfl
    · rw [run_convert_bytes_string w src dst e _ 0 c hs he hd, run_bytesToString w ad 0 c [] (by simp [loadCells, loadCellsFrom])]; rfl
  · obtain ⟨b, off, rfl, _, hc⟩ := h.2 hn
    exact run_convert_bytes_arg w src e hs he b off n c zs hl (fun i hi => by
      refine hc i _ ?_
      rw [List.getElem?_map, List.getElem?_eq_getElem (by omega)]
      simp [List.getD, List.getElem?_eq_getElem (show i < zs.length by omega)]) dst hd
/-- Bytes, as values. -/
def u8s (l : List Nat) : List Value := (l.map Int.ofNat).map (Value.int .u8)
theorem u8s_one (l : List Nat) : ∀ u ∈ u8s l, u.oneCell' = true := by
  intro u hu
  obtain ⟨_, _, rfl⟩ := List.mem_map.1 hu
  rfl
@[simp] theorem u8s_len (l : List Nat) : (u8s l).length = l.length := by simp [u8s]
@[simp] theorem u8s_app (l m : List Nat) : u8s (l ++ m) = u8s l ++ u8s m := by simp [u8s]
@[simp] theorem u8s_cons (a : Nat) (m : List Nat) : u8s (a :: m) = .int .u8 (a : Int) :: u8s m := by simp [u8s]
theorem u8s_nil : u8s [] = [] := rfl
/-- 'string(b)' of bytes. -/
theorem run_str_u8s {P : Program} {w : World} {B n c : Nat} {A : Option Addr} {l : List Nat} (h : Rd w B 1 A n (u8s l)) (src e dst : TypeId) (hs : P.underlying src = some (.slice e)) (he : P.underlying e = some (.int .u8)) (hd : P.underlying dst = some .string) :
    (convert src dst (.slice A n c)).run P w = .ok (.string (strOf l)) w := run_str_rd h src e dst hs he hd
theorem Rd.lit1' (w : World) (u : Value) (t : TypeId) (g : Nat) (hg : g = w.heap.size) : Rd (w.alloc (.cells #[u] t)) (w.heap.size + 1) 1 (some ⟨g, 0, none⟩) 1 [u] := by subst hg; exact Rd.lit1 w u t
theorem quiet_of2 {P : Program} {f : FuncId} {args : Array Value} {w : World} {q n : Nat} {v : Value}
    (h : Calls P f args (w.drewN (q + n)) fun e w' => e = .returned v ∧ ∃ m, w' = (w.drewN (q + n)).drewN m) : Calls P f args (w.drewN (q + n)) fun e w'' => e = .returned v ∧ ∃ m, w'' = w.drewN (q + m) :=
  h.mono fun _ _ ⟨he, m, hm⟩ => ⟨he, n + m, by rw [hm, World.drewN_drewN, Nat.add_assoc]⟩
end Go.Proofs.YtjegfimagjmpdaaGreatDoor
end
section
/- Plain: the decimal digits of a number. Conditions: none. -/
namespace Go.Proofs.YtjegfimagjmpdaaGreatDoor
/-- The decimal digits of a number, the greatest first. -/
def dd (u : Nat) : List Nat := if h : u < 10 then [48 + u] else dd (u / 10) ++ [48 + u % 10]
decreasing_by omega
theorem dd_lt {u : Nat} (h : u < 10) : dd u = [48 + u] := by rw [dd]; simp [h]
theorem dd_ge {u : Nat} (h : ¬ u < 10) : dd u = dd (u / 10) ++ [48 + u % 10] := by rw [dd]; simp [h]
theorem dd_byte (u : Nat) : ∀ d ∈ dd u, 48 ≤ d ∧ d ≤ 57 := by
  induction u using Nat.strongRecOn with
  | _ u ih =>
    by_cases h : u < 10
    · rw [dd_lt h]; simp; omega
    · rw [dd_ge h]
      intro d hd
      rcases List.mem_append.1 hd with hd | hd
      · exact ih _ (by omega) d hd
      · simp at hd; omega
theorem dd_pos (u : Nat) : 0 < (dd u).length := by
  by_cases h : u < 10
  · rw [dd_lt h]; simp
  · rw [dd_ge h]; simp
theorem dd_len (k : Nat) : ∀ u, u < 10 ^ (k + 1) → (dd u).length ≤ k + 1 := by
  induction k with
  | zero => intro u h; rw [dd_lt (by omega)]; simp
  | succ k ih =>
    intro u h
    by_cases h1 : u < 10
    · rw [dd_lt h1]; simp
    · rw [dd_ge h1]
      have := ih (u / 10) (by rw [Nat.div_lt_iff_lt_mul (by omega)]; rw [Nat.pow_succ] at h; exact h)
      simp; omega
theorem dd_len19 {u : Nat} (h : u ≤ 9223372036854775808) : (dd u).length ≤ 19 := dd_len 18 u (Nat.lt_of_le_of_lt h (by decide))
/-- What a loop that makes the digits from the last on keeps: q is still to be told, l is told. -/
def Tells (U : Nat) (q : Nat) (l : List Nat) : Prop := dd q ++ l = dd U
theorem Tells.start (U : Nat) : Tells U U [] := by simp [Tells]
theorem Tells.step {U q : Nat} {l : List Nat} (h : Tells U q l) (hq : ¬ q < 10) : Tells U (q / 10) ((48 + q % 10) :: l) := by
  unfold Tells at *; rw [dd_ge hq] at h; simpa using h
theorem Tells.done {U q : Nat} {l : List Nat} (h : Tells U q l) (hq : q < 10) : (48 + q % 10) :: l = dd U := by
  unfold Tells at *; rw [dd_lt hq] at h; rw [Nat.mod_eq_of_lt hq]; simpa using h
theorem Tells.len {U q : Nat} {l : List Nat} (h : Tells U q l) : (dd q).length + l.length = (dd U).length := by rw [← h]; simp
/-- The decimal text of a whole number, as bytes. -/
def decL (n : Int) : List Nat := if n < 0 then 45 :: dd n.natAbs else dd n.natAbs
theorem decL_byte (n : Int) : ∀ d ∈ decL n, d = 45 ∨ (48 ≤ d ∧ d ≤ 57) := by
  intro d hd
  unfold decL at hd
  split at hd
  · rcases List.mem_cons.1 hd with h | h
    · exact .inl h
    · exact .inr (dd_byte _ d h)
  · exact .inr (dd_byte _ d hd)
theorem decL_len {n : Int} (h : -9223372036854775808 ≤ n ∧ n ≤ 9223372036854775807) : (decL n).length ≤ 20 := by
  have := dd_len19 (u := n.natAbs) (by omega)
  unfold decL
  split <;> simp <;> omega
/-- The number that digits tell. -/
def dval (l : List Nat) : Nat := l.foldl (fun a d => a * 10 + (d - 48)) 0
theorem dval_snoc (l : List Nat) (d : Nat) : dval (l ++ [d]) = dval l * 10 + (d - 48) := by simp [dval]
theorem dval_dd (u : Nat) : dval (dd u) = u := by
  induction u using Nat.strongRecOn with
  | _ u ih =>
    by_cases h : u < 10
    · rw [dd_lt h]; simp [dval]
    · rw [dd_ge h, dval_snoc, ih _ (by omega)]; omega
theorem dd_inj {a b : Nat} (h : dd a = dd b) : a = b := by rw [← dval_dd a, h, dval_dd]
theorem dd_head (u : Nat) : ∀ r, dd u ≠ 45 :: r := by
  intro r h
  have := dd_byte u 45 (by rw [h]; simp)
  omega
theorem decL_inj {a b : Int} (h : decL a = decL b) : a = b := by
  unfold decL at h
  split at h <;> split at h
  · have := dd_inj (List.cons.inj h).2; omega
  · exact absurd h.symm (dd_head _ _)
  · exact absurd h (dd_head _ _)
  · have := dd_inj h; omega
end Go.Proofs.YtjegfimagjmpdaaGreatDoor
end
section
/- Plain: numbers read. Conditions: none. -/
namespace Go.Proofs.YtjegfimagjmpdaaGreatDoor
/-- The digits' part of a number's text: is there a minus; what stands behind the sign. -/
def sgn (l : List Nat) : Bool × List Nat := match l with
  | [] => (false, [])
  | c :: r => if c = 45 then (true, r) else if c = 43 then (false, r) else (false, c :: r)
def digs (l : List Nat) : Bool := l.all fun d => decide (48 ≤ d) && decide (d ≤ 57)
/-- The number that a text tells. -/
def parse (l : List Nat) : Option Int := if (sgn l).2 ≠ [] ∧ digs (sgn l).2 = true then some (if (sgn l).1 = true then -(dval (sgn l).2 : Int) else (dval (sgn l).2 : Int)) else none
def inI (z : Int) : Prop := -9223372036854775808 ≤ z ∧ z ≤ 9223372036854775807
instance (z : Int) : Decidable (inI z) := by unfold inI; infer_instance
/-- The number whose text it is. -/
def rd (l : List Nat) : Option Int := match parse l with
  | some z => if decL z = l ∧ inI z then some z else none
  | none => none
theorem digs_dd (u : Nat) : digs (dd u) = true := by
  unfold digs
  rw [List.all_eq_true]
  intro d hd
  have := dd_byte u d hd
  simp; omega
theorem sgn_dd (u : Nat) : sgn (dd u) = (false, dd u) := by
  cases h : dd u with
  | nil => have := dd_pos u; rw [h] at this; simp at this
  | cons c r =>
    have := dd_byte u c (by rw [h]; simp)
    simp only [sgn]
    rw [if_neg (by omega), if_neg (by omega)]
theorem sgn_decL (n : Int) : sgn (decL n) = (decide (n < 0), dd n.natAbs) := by
  unfold decL
  split
  · rename_i h; simp [sgn, h]
  · rename_i h; rw [sgn_dd]; simp; omega
theorem parse_decL (n : Int) : parse (decL n) = some n := by
  unfold parse
  rw [sgn_decL]
  have hp := dd_pos n.natAbs
  rw [if_pos ⟨by intro e; simp only at e; rw [e] at hp; simp at hp, digs_dd _⟩]
  simp only [dval_dd]
  by_cases h : n < 0
  · rw [if_pos (by simp [h])]; congr 1; omega
  · rw [if_neg (by simp [h])]; congr 1; omega
theorem rd_some {l : List Nat} {z : Int} : rd l = some z ↔ decL z = l ∧ inI z := by
  unfold rd
  constructor
  · intro h
    cases hp : parse l with
    | none => rw [hp] at h; cases h
    | some y =>
      rw [hp] at h
      simp only at h
      split at h
      · injection h with h; subst h; assumption
      · cases h
  · rintro ⟨rfl, h⟩
    rw [parse_decL]
    simp [h]
theorem rd_none {l : List Nat} : rd l = none ↔ ∀ z, inI z → decL z ≠ l := by
  constructor
  · intro h z hz e
    rw [rd_some.2 ⟨e, hz⟩] at h; cases h
  · intro h
    cases hr : rd l with
    | none => rfl
    | some z => exact absurd (rd_some.1 hr).1 (h z (rd_some.1 hr).2)
/-- The program's own reading: the 64 bits of the digits' number. -/
def readN (neg : Bool) (t : List Nat) : Int :=
  if neg = true then (-((dval t : Nat) : Int) + 9223372036854775808) % 18446744073709551616 - 9223372036854775808 else (((dval t : Nat) : Int) + 9223372036854775808) % 18446744073709551616 - 9223372036854775808
theorem readN_in (neg : Bool) (t : List Nat) : inI (readN neg t) := by
  unfold readN inI
  split <;> omega
/-- A minus, and what stands behind it. -/
def mns (l : List Nat) : Bool × List Nat := match l with
  | [] => (false, [])
  | c :: r => if c = 45 then (true, r) else (false, c :: r)
theorem mns_decL (n : Int) : mns (decL n) = (decide (n < 0), dd n.natAbs) := by
  unfold decL
  split
  · rename_i h; simp [mns, h]
  · rename_i h
    cases he : dd n.natAbs with
    | nil => have := dd_pos n.natAbs; rw [he] at this; simp at this
    | cons c r =>
      have := dd_byte n.natAbs c (by rw [he]; simp)
      simp only [mns]
      rw [if_neg (by omega)]
      simp; omega
/-- What is read is the number, if it is a number's text. -/
theorem rd_readN {l : List Nat} {z : Int} (h : rd l = some z) : digs (mns l).2 = true ∧ readN (mns l).1 (mns l).2 = z := by
  obtain ⟨rfl, hz⟩ := rd_some.1 h
  rw [mns_decL]
  refine ⟨digs_dd _, ?_⟩
  unfold readN inI at *
  simp only [dval_dd]
  by_cases hn : z < 0
  · rw [if_pos (by simp [hn])]; omega
  · rw [if_neg (by simp [hn])]; omega
theorem digs_take {l : List Nat} {k : Nat} {d : Nat} (hk : l[k]? = some d) (h : digs l = true) : 48 ≤ d ∧ d ≤ 57 := by
  unfold digs at h
  rw [List.all_eq_true] at h
  have := h d (List.mem_of_getElem? hk)
  simpa using this
theorem digs_snoc {l : List Nat} {d : Nat} (h : digs l = true) (hd : 48 ≤ d ∧ d ≤ 57) : digs (l ++ [d]) = true := by
  unfold digs at *
  rw [List.all_append, h]
  simp [hd]
end Go.Proofs.YtjegfimagjmpdaaGreatDoor
end
section
/- Plain: the 32-bit words of a number; adding, multiplying, dividing by one word, shifting. Conditions: none. -/
namespace Go.Proofs.YtjegfimagjmpdaaGreatDoor
/-- The 32-bit words of a number, the least first, none of them a nought at the end. -/
def wds (n : Nat) : List Nat := if h : n = 0 then [] else n % 4294967296 :: wds (n / 4294967296)
decreasing_by omega
/-- The number that words tell. -/
def wv : List Nat → Nat
  | [] => 0
  | a :: r => a + 4294967296 * wv r
theorem wds_zero : wds 0 = [] := by rw [wds]; simp
theorem wds_pos {n : Nat} (h : n ≠ 0) : wds n = n % 4294967296 :: wds (n / 4294967296) := by rw [wds]; simp [h]
theorem wds_cons {a m : Nat} (ha : a < 4294967296) (h : a + 4294967296 * m ≠ 0) : wds (a + 4294967296 * m) = a :: wds m := by
  rw [wds_pos h, show (a + 4294967296 * m) % 4294967296 = a by omega, show (a + 4294967296 * m) / 4294967296 = m by omega]
theorem wds_one {a : Nat} (ha : a < 4294967296) (h : a ≠ 0) : wds a = [a] := by
  have := wds_cons (m := 0) ha (by omega)
  rw [wds_zero] at this
  simpa using this
theorem wv_wds (n : Nat) : wv (wds n) = n := by
  induction n using Nat.strongRecOn with
  | _ n ih =>
    by_cases h : n = 0
    · subst h; rw [wds_zero]; rfl
    · rw [wds_pos h, wv, ih _ (by omega)]; omega
theorem wds_lt (n : Nat) : ∀ d ∈ wds n, d < 4294967296 := by
  induction n using Nat.strongRecOn with
  | _ n ih =>
    by_cases h : n = 0
    · subst h; rw [wds_zero]; simp
    · rw [wds_pos h]
      intro d hd
      rcases List.mem_cons.1 hd with rfl | hd
      · omega
      · exact ih _ (by omega) d hd
theorem wds_nil {n : Nat} : wds n = [] ↔ n = 0 := by
  constructor
  · intro h
    rcases Nat.eq_zero_or_pos n with h0 | h0
    · exact h0
    · rw [wds_pos (by omega)] at h; cases h
  · rintro rfl; exact wds_zero
theorem wv_app (l m : List Nat) : wv (l ++ m) = wv l + 4294967296 ^ l.length * wv m := by
  induction l with
  | nil => simp [wv]
  | cons a r ih =>
    simp only [List.cons_append, wv, ih, List.length_cons, Nat.pow_succ, Nat.mul_add]
    rw [show 4294967296 ^ r.length * 4294967296 * wv m = 4294967296 * (4294967296 ^ r.length * wv m) by rw [Nat.mul_comm (4294967296 ^ r.length), Nat.mul_assoc]]
    omega
theorem wv_zeros {l : List Nat} (h : ∀ d ∈ l, d = 0) : wv l = 0 := by
  induction l with
  | nil => rfl
  | cons a r ih =>
    rw [wv, ih fun d hd => h d (List.mem_cons_of_mem _ hd), h a (by simp)]
theorem wv_rep (n : Nat) : wv (List.replicate n 0) = 0 := wv_zeros fun _ hd => (List.mem_replicate.1 hd).2
/-- What is left of words when the noughts at their end are cut off. -/
theorem wds_take {l : List Nat} : ∀ {n : Nat}, (∀ d ∈ l, d < 4294967296) → n ≤ l.length → (∀ d ∈ l.drop n, d = 0) → (∀ m, n = m + 1 → l.getD m 0 ≠ 0) → l.take n = wds (wv l) := by
  induction l with
  | nil => intro n _ _ _ _; simp [wv, wds_zero]
  | cons a r ih =>
    intro n hl hn hz hne
    have ha := hl a (by simp)
    cases n with
    | zero =>
      rw [wv_zeros (l := a :: r) (by simpa using hz), wds_zero]; rfl
    | succ m =>
      have h1 := ih (n := m) (fun d hd => hl d (List.mem_cons_of_mem _ hd)) (by simpa using hn) (by simpa using hz) (fun k hk => by subst hk; have := hne (k + 1) rfl; simpa using this)
      rw [List.take_succ_cons, h1, wv]
      by_cases h0 : a + 4294967296 * wv r = 0
      · exfalso
        have hr : wv r = 0 := by omega
        have ha0 : a = 0 := by omega
        rw [hr, wds_zero] at h1
        cases m with
        | zero => have := hne 0 rfl; simp [ha0] at this
        | succ k =>
          cases r with
          | nil => simp at hn
          | cons b s => simp at h1
      · rw [wds_cons ha h0]
theorem wv_lt {l : List Nat} (h : ∀ d ∈ l, d < 4294967296) : wv l < 4294967296 ^ l.length := by
  induction l with
  | nil => simp [wv]
  | cons a r ih =>
    have h1 := ih fun d hd => h d (List.mem_cons_of_mem _ hd)
    have h2 := h a (by simp)
    rw [wv, List.length_cons, Nat.pow_succ]
    have : wv r + 1 ≤ 4294967296 ^ r.length := h1
    have := Nat.mul_le_mul_left 4294967296 this
    rw [Nat.mul_comm (4294967296 ^ r.length)]
    omega
theorem wds_len {n k : Nat} (h : n < 4294967296 ^ k) : (wds n).length ≤ k := by
  induction k generalizing n with
  | zero => have : n = 0 := by simpa using h
            subst this; rw [wds_zero]; simp
  | succ k ih =>
    by_cases h0 : n = 0
    · subst h0; rw [wds_zero]; simp
    · rw [wds_pos h0, List.length_cons]
      have := ih (n := n / 4294967296) (by rw [Nat.div_lt_iff_lt_mul (by omega)]; rw [Nat.pow_succ] at h; exact h)
      omega
theorem wds_inj {a b : Nat} : wds a = wds b ↔ a = b := ⟨fun h => by rw [← wv_wds a, h, wv_wds], fun h => by rw [h]⟩
theorem wv_take_succ {l : List Nat} {i : Nat} (h : i < l.length) : wv (l.take (i + 1)) = wv (l.take i) + 4294967296 ^ i * l.getD i 0 := by
  rw [List.take_add_one, wv_app, List.length_take, Nat.min_eq_left (by omega), List.getElem?_eq_getElem h]
  simp [wv, List.getD, List.getElem?_eq_getElem h]
theorem wv_drop {l : List Nat} {i : Nat} (h : i < l.length) : wv (l.drop i) = l.getD i 0 + 4294967296 * wv (l.drop (i + 1)) := by
  rw [List.drop_eq_getElem_cons h, wv]
  simp [List.getD, List.getElem?_eq_getElem h]
theorem wv_split {l : List Nat} {i : Nat} (h : i ≤ l.length) : wv l = wv (l.take i) + 4294967296 ^ i * wv (l.drop i) := by
  have := wv_app (l.take i) (l.drop i)
  rwa [List.take_append_drop, List.length_take, Nat.min_eq_left h] at this
theorem getD_lt {l : List Nat} (h : ∀ d ∈ l, d < 4294967296) (i : Nat) : l.getD i 0 < 4294967296 := by
  by_cases hi : i < l.length
  · simp only [List.getD, List.getElem?_eq_getElem hi, Option.getD_some]; exact h _ (List.getElem_mem hi)
  · simp [List.getD, List.getElem?_eq_none (Nat.le_of_not_lt hi)]
theorem wv_cmp {a b : List Nat} {j : Nat} (ha : ∀ d ∈ a, d < 4294967296) (hj : j < a.length) (hj' : j < b.length) (hd : a.drop (j + 1) = b.drop (j + 1)) (h : a.getD j 0 < b.getD j 0) : wv a < wv b := by
  have e1 := wv_split (l := a) (i := j) (by omega)
  have e2 := wv_split (l := b) (i := j) (by omega)
  rw [wv_drop hj] at e1
  rw [wv_drop hj', ← hd] at e2
  have h1 : wv (a.take j) < 4294967296 ^ j := by
    have := wv_lt (l := a.take j) (fun d hd => ha d (List.mem_of_mem_take hd))
    rwa [List.length_take, Nat.min_eq_left (by omega)] at this
  generalize wv (a.drop (j + 1)) = X at e1 e2
  have h2 : 4294967296 ^ j * (a.getD j 0 + 1 + 4294967296 * X) ≤ 4294967296 ^ j * (b.getD j 0 + 4294967296 * X) := Nat.mul_le_mul_left _ (by omega)
  rw [show a.getD j 0 + 1 + 4294967296 * X = (a.getD j 0 + 4294967296 * X) + 1 by omega, Nat.mul_add, Nat.mul_one] at h2
  omega
theorem wds_ge {n : Nat} (h : n ≠ 0) : 4294967296 ^ ((wds n).length - 1) ≤ n := by
  induction n using Nat.strongRecOn with
  | _ n ih =>
    rw [wds_pos h, List.length_cons, Nat.add_sub_cancel]
    by_cases h0 : n / 4294967296 = 0
    · rw [h0, wds_zero]; simp; omega
    · have h1 := ih _ (by omega) h0
      have h2 : 0 < (wds (n / 4294967296)).length := by
        rw [List.length_pos_iff]; intro hh; exact h0 (wds_nil.1 hh)
      have h3 : (wds (n / 4294967296)).length = ((wds (n / 4294967296)).length - 1) + 1 := by omega
      rw [h3, Nat.pow_succ]
      have := Nat.mul_le_mul_right 4294967296 h1
      omega
theorem wds_len_lt {a b : Nat} (h : (wds a).length < (wds b).length) : a < b := by
  have h1 := wv_lt (wds_lt a)
  rw [wv_wds] at h1
  have hb : b ≠ 0 := by rintro rfl; rw [wds_zero] at h; simp at h
  have h2 := wds_ge hb
  exact Nat.lt_of_lt_of_le h1 (Nat.le_trans (Nat.pow_le_pow_right (by omega) (by omega)) h2)
/-- Division by one word: one step, from above. -/
theorem small_step {x X d : Nat} (hd : 0 < d) : (x + 4294967296 * X) / d = (X % d * 4294967296 + x) / d + 4294967296 * (X / d) ∧ (x + 4294967296 * X) % d = (X % d * 4294967296 + x) % d := by
  have e : x + 4294967296 * X = (X % d * 4294967296 + x) + d * (4294967296 * (X / d)) := by
    have h1 := Nat.div_add_mod X d
    have h2 : d * (4294967296 * (X / d)) = 4294967296 * (d * (X / d)) := by rw [← Nat.mul_assoc, ← Nat.mul_assoc, Nat.mul_comm d]
    rw [h2]; omega
  rw [e]
  exact ⟨by rw [Nat.add_mul_div_left _ _ hd], by rw [Nat.add_mul_mod_self_left]⟩
theorem small_lt {x r d : Nat} (hd : 0 < d) (hr : r < d) (hx : x < 4294967296) : (r * 4294967296 + x) / d < 4294967296 := by
  rw [Nat.div_lt_iff_lt_mul hd]
  have : (r + 1) * 4294967296 ≤ d * 4294967296 := Nat.mul_le_mul_right _ hr
  rw [Nat.add_mul] at this
  rw [Nat.mul_comm]
  omega
theorem wv_snoc (t : List Nat) (x : Nat) : wv (t ++ [x]) = wv t + 4294967296 ^ t.length * x := by rw [wv_app]; simp [wv]
theorem wv_take_getD {l : List Nat} (i : Nat) : wv (l.take (i + 1)) = wv (l.take i) + 4294967296 ^ i * l.getD i 0 := by
  by_cases h : i < l.length
  · exact wv_take_succ h
  · rw [List.take_of_length_le (by omega), List.take_of_length_le (by omega)]
    simp [List.getD, List.getElem?_eq_none (Nat.le_of_not_lt h)]
/-- One step of adding. -/
theorem add_step {t a b : List Nat} {c i : Nat} (ht : t.length = i) (h : wv t + 4294967296 ^ i * c = wv (a.take i) + wv (b.take i)) :
    wv (t ++ [(c + a.getD i 0 + b.getD i 0) % 4294967296]) + 4294967296 ^ (i + 1) * ((c + a.getD i 0 + b.getD i 0) / 4294967296) = wv (a.take (i + 1)) + wv (b.take (i + 1)) := by
  rw [wv_snoc, ht, wv_take_getD, wv_take_getD, Nat.pow_succ]
  generalize a.getD i 0 = x at *
  generalize b.getD i 0 = y at *
  generalize 4294967296 ^ i = p at *
  rw [Nat.mul_assoc, Nat.add_assoc (wv t), ← Nat.mul_add, Nat.mod_add_div, Nat.mul_add, Nat.mul_add]
  omega
theorem wv_set {l : List Nat} {k x : Nat} (h : k < l.length) : wv (l.set k x) + 4294967296 ^ k * l.getD k 0 = wv l + 4294967296 ^ k * x := by
  have e1 := wv_split (l := l) (i := k) (by omega)
  have e2 := wv_split (l := l.set k x) (i := k) (by simp; omega)
  rw [wv_drop h] at e1
  rw [wv_drop (by simpa using h)] at e2
  rw [List.take_set_of_le (Nat.le_refl _), List.drop_set_of_lt (by omega)] at e2
  have hx : (l.set k x).getD k 0 = x := by simp [List.getD, h]
  rw [hx] at e2
  rw [e1, e2, Nat.mul_add, Nat.mul_add]
  omega
/-- One step of a row of multiplying. -/
theorem mul_step {r b : List Nat} {c i j x V : Nat} (hk : i + j < r.length) (h : wv r + 4294967296 ^ (i + j) * c = V + x * 4294967296 ^ i * wv (b.take j)) :
    wv (r.set (i + j) ((c + x * b.getD j 0 + r.getD (i + j) 0) % 4294967296)) + 4294967296 ^ (i + (j + 1)) * ((c + x * b.getD j 0 + r.getD (i + j) 0) / 4294967296) = V + x * 4294967296 ^ i * wv (b.take (j + 1)) := by
  have hs := wv_set (l := r) (k := i + j) (x := (c + x * b.getD j 0 + r.getD (i + j) 0) % 4294967296) hk
  rw [wv_take_getD]
  generalize r.getD (i + j) 0 = y at *
  generalize b.getD j 0 = z at *
  generalize wv (r.set (i + j) ((c + x * z + y) % 4294967296)) = R' at *
  have e : 4294967296 ^ (i + (j + 1)) * ((c + x * z + y) / 4294967296) + 4294967296 ^ (i + j) * ((c + x * z + y) % 4294967296) = 4294967296 ^ (i + j) * (c + x * z + y) := by
    rw [← Nat.add_assoc, Nat.pow_succ, Nat.mul_assoc, ← Nat.mul_add, Nat.div_add_mod]
  have e2 : x * 4294967296 ^ i * (wv (b.take j) + 4294967296 ^ j * z) = x * 4294967296 ^ i * wv (b.take j) + 4294967296 ^ (i + j) * (x * z) := by
    rw [Nat.mul_add]
    congr 1
    rw [Nat.pow_add]
    ac_rfl
  rw [e2]
  rw [Nat.mul_add, Nat.mul_add] at e
  omega
theorem mul_row {r a b : List Nat} {c i : Nat} (hk : i + b.length < r.length) (h0 : r.getD (i + b.length) 0 = 0) (h : wv r + 4294967296 ^ (i + b.length) * c = wv (a.take i) * wv b + a.getD i 0 * 4294967296 ^ i * wv b) :
    wv (r.set (i + b.length) c) = wv (a.take (i + 1)) * wv b := by
  have hs := wv_set (l := r) (k := i + b.length) (x := c) hk
  rw [h0, Nat.mul_zero, Nat.add_zero] at hs
  rw [hs, h, wv_take_getD, Nat.add_mul, Nat.mul_comm (4294967296 ^ i)]
theorem mul_fit {c x y z : Nat} (hc : c < 4294967296) (hx : x < 4294967296) (hy : y < 4294967296) (hz : z < 4294967296) : c + x * y + z < 18446744073709551616 ∧ (c + x * y + z) / 4294967296 < 4294967296 := by
  have h1 : x * y ≤ 4294967295 * 4294967295 := Nat.mul_le_mul (by omega) (by omega)
  omega
theorem or_add {x c s : Nat} (hc : c < 2 ^ s) (hx : 2 ^ s ∣ x) : c ||| x = c + x := by
  obtain ⟨y, rfl⟩ := hx
  rw [Nat.add_comm, Nat.or_comm, Nat.two_pow_add_eq_or_of_lt hc]
/-- A shift to the left, word by word: one step. -/
theorem left_step {t : List Nat} {a : List Nat} {i s c : Nat} (hs : s < 32) (ht : t.length = i) (hc : c < 2 ^ s) (ha : a.getD i 0 < 4294967296) (h : wv (t ++ [c]) = wv (a.take i) * 2 ^ s) :
    wv ((t ++ [c ||| (a.getD i 0 * 2 ^ s % 4294967296)]) ++ [a.getD i 0 * 2 ^ s / 4294967296]) = wv (a.take (i + 1)) * 2 ^ s ∧ (c ||| (a.getD i 0 * 2 ^ s % 4294967296)) < 4294967296 ∧ a.getD i 0 * 2 ^ s / 4294967296 < 2 ^ s ∧ (c ||| (a.getD i 0 * 2 ^ s % 4294967296)) = c + a.getD i 0 * 2 ^ s % 4294967296 := by
  have hp : 4294967296 = 2 ^ s * 2 ^ (32 - s) := by rw [← Nat.pow_add, show s + (32 - s) = 32 by omega]
  have hd : 2 ^ s ∣ a.getD i 0 * 2 ^ s % 4294967296 := by
    rw [hp, Nat.mul_comm (a.getD i 0), Nat.mul_mod_mul_left]; exact ⟨_, rfl⟩
  have ho := or_add hc hd
  have hlt : c + a.getD i 0 * 2 ^ s % 4294967296 < 4294967296 := by
    obtain ⟨y, hy⟩ := hd
    rw [hy]
    have h1 : 2 ^ s * y < 2 ^ s * 2 ^ (32 - s) := by rw [← hp, ← hy]; exact Nat.mod_lt _ (by omega)
    have h2 : y + 1 ≤ 2 ^ (32 - s) := Nat.lt_of_mul_lt_mul_left h1
    have h3 := Nat.mul_le_mul_left (2 ^ s) h2
    rw [← hp, Nat.mul_add, Nat.mul_one] at h3
    omega
  refine ⟨?_, by rw [ho]; exact hlt, ?_, ho⟩
  · rw [ho, wv_snoc, wv_snoc, List.length_append, ht, wv_take_getD, Nat.add_mul, ← h, wv_snoc, ht]
    simp only [List.length_cons, List.length_nil, Nat.zero_add, Nat.pow_succ]
    have e := Nat.div_add_mod (a.getD i 0 * 2 ^ s) 4294967296
    generalize a.getD i 0 * 2 ^ s % 4294967296 = lo at *
    generalize a.getD i 0 * 2 ^ s / 4294967296 = hi at *
    rw [Nat.mul_assoc, Nat.mul_assoc (4294967296 ^ i) (a.getD i 0), ← e, Nat.mul_add, Nat.mul_add]
    omega
  · rw [Nat.div_lt_iff_lt_mul (by omega), Nat.mul_comm]
    exact Nat.mul_lt_mul_of_pos_left ha (Nat.two_pow_pos s)
/-- A shift to the right, word by word. -/
def rsh (s : Nat) : List Nat → List Nat
  | [] => []
  | x :: r => (x + 4294967296 * r.headD 0) / 2 ^ s % 4294967296 :: rsh s r
theorem rsh_len (s : Nat) (l : List Nat) : (rsh s l).length = l.length := by induction l with
  | nil => rfl
  | cons x r ih => simp [rsh, ih]
theorem rsh_lt (s : Nat) (l : List Nat) : ∀ d ∈ rsh s l, d < 4294967296 := by induction l with
  | nil => simp [rsh]
  | cons x r ih =>
    intro d hd
    rcases List.mem_cons.1 hd with rfl | hd
    · exact Nat.mod_lt _ (by omega)
    · exact ih d hd
theorem wv_head (l : List Nat) : ∃ q, wv l = l.headD 0 + 4294967296 * q := by
  cases l with
  | nil => exact ⟨0, rfl⟩
  | cons x r => exact ⟨wv r, rfl⟩
theorem rsh_val {s : Nat} (hs : s < 32) {l : List Nat} (hl : ∀ d ∈ l, d < 4294967296) : wv (rsh s l) = wv l / 2 ^ s := by
  induction l with
  | nil => simp [rsh, wv]
  | cons x r ih =>
    have hx := hl x (by simp)
    rw [rsh, wv, ih fun d hd => hl d (List.mem_cons_of_mem _ hd), wv]
    obtain ⟨q, hq⟩ := wv_head r
    have hp : 4294967296 = 2 ^ s * 2 ^ (32 - s) := by rw [← Nat.pow_add, show s + (32 - s) = 32 by omega]
    generalize wv r = X at *
    generalize r.headD 0 = y at *
    have hd1 : ∀ z, (x + 4294967296 * z) / 2 ^ s = x / 2 ^ s + 2 ^ (32 - s) * z := fun z => by
      rw [hp, Nat.mul_assoc, Nat.add_mul_div_left _ _ (Nat.two_pow_pos s)]
    rw [hd1, hd1]
    have hm : (x / 2 ^ s + 2 ^ (32 - s) * y) % 4294967296 = x / 2 ^ s + 2 ^ (32 - s) * (X % 2 ^ s) := by
      have hy : X % 2 ^ s = y % 2 ^ s := by rw [hq, hp, Nat.mul_assoc, Nat.add_mul_mod_self_left]
      have e1 := Nat.div_add_mod y (2 ^ s)
      rw [hy]
      have e2 : x / 2 ^ s + 2 ^ (32 - s) * y = (x / 2 ^ s + 2 ^ (32 - s) * (y % 2 ^ s)) + 4294967296 * (y / 2 ^ s) := by
        rw [hp]
        have : 2 ^ (32 - s) * y = 2 ^ (32 - s) * (2 ^ s * (y / 2 ^ s) + y % 2 ^ s) := by rw [e1]
        rw [this, Nat.mul_add, ← Nat.mul_assoc, Nat.mul_comm (2 ^ (32 - s)) (2 ^ s)]
        omega
      rw [e2, Nat.add_mul_mod_self_left]
      apply Nat.mod_eq_of_lt
      have h1 : x / 2 ^ s < 2 ^ (32 - s) := by rw [Nat.div_lt_iff_lt_mul (Nat.two_pow_pos s), Nat.mul_comm, ← hp]; exact hx
      have h2 : y % 2 ^ s + 1 ≤ 2 ^ s := Nat.mod_lt _ (Nat.two_pow_pos s)
      have h3 := Nat.mul_le_mul_left (2 ^ (32 - s)) h2
      rw [Nat.mul_add, Nat.mul_one, Nat.mul_comm (2 ^ (32 - s)) (2 ^ s), ← hp] at h3
      omega
    rw [hm]
    have e1 := Nat.div_add_mod X (2 ^ s)
    have : 2 ^ (32 - s) * X = 2 ^ (32 - s) * (2 ^ s * (X / 2 ^ s) + X % 2 ^ s) := by rw [e1]
    rw [this, Nat.mul_add, ← Nat.mul_assoc (2 ^ (32 - s)), Nat.mul_comm (2 ^ (32 - s)) (2 ^ s), ← hp]
    omega
theorem rsh_get {s : Nat} : ∀ {l : List Nat} {i : Nat}, i < l.length → (rsh s l).getD i 0 = (l.getD i 0 + 4294967296 * l.getD (i + 1) 0) / 2 ^ s % 4294967296
  | x :: r, 0, _ => by cases r <;> simp [rsh]
  | x :: r, i + 1, h => by
    have := rsh_get (s := s) (l := r) (i := i) (by simpa using h)
    simpa [rsh] using this
theorem wv_dropw {l : List Nat} (hl : ∀ d ∈ l, d < 4294967296) (w : Nat) : wv (l.drop w) = wv l / 4294967296 ^ w := by
  by_cases h : w ≤ l.length
  · have e := wv_split h
    have h1 := wv_lt (l := l.take w) (fun d hd => hl d (List.mem_of_mem_take hd))
    rw [List.length_take, Nat.min_eq_left h] at h1
    rw [e, Nat.add_mul_div_left _ _ (Nat.pow_pos (by omega)), Nat.div_eq_of_lt h1, Nat.zero_add]
  · rw [List.drop_eq_nil_of_le (by omega)]
    have h1 := wv_lt hl
    have h2 : 4294967296 ^ l.length ≤ 4294967296 ^ w := Nat.pow_le_pow_right (by omega) (by omega)
    rw [Nat.div_eq_of_lt (Nat.lt_of_lt_of_le h1 h2)]; rfl
end Go.Proofs.YtjegfimagjmpdaaGreatDoor
end
section
/- Plain: lengths in bits. Conditions: none. -/
namespace Go.Proofs.YtjegfimagjmpdaaGreatDoor
/-- The length in bits. -/
def bl (n : Nat) : Nat := if h : n = 0 then 0 else bl (n / 2) + 1
decreasing_by omega
theorem bl_zero : bl 0 = 0 := by rw [bl]; simp
theorem bl_pos {n : Nat} (h : n ≠ 0) : bl n = bl (n / 2) + 1 := by rw [bl]; simp [h]
theorem bl_lt : ∀ (n k : Nat), bl n ≤ k ↔ n < 2 ^ k := by
  intro n
  induction n using Nat.strongRecOn with
  | _ n ih =>
    intro k
    by_cases h : n = 0
    · subst h; rw [bl_zero]; simp [Nat.two_pow_pos]
    · rw [bl_pos h]
      cases k with
      | zero => simp; omega
      | succ k =>
        have := ih (n / 2) (by omega) k
        rw [Nat.add_le_add_iff_right, this, Nat.pow_succ]
        omega
theorem bl_le32 {n : Nat} (h : n < 4294967296) : bl n ≤ 32 := (bl_lt n 32).2 h
/-- The length in bits, by words. -/
def wl (N : Nat) : Nat := ((wds N).length - 1) * 32 + bl ((wds N).getD ((wds N).length - 1) 0)
theorem wl_zero : wl 0 = 0 := by unfold wl; rw [wds_zero]; simp [bl_zero]
theorem wl_one {N : Nat} (h0 : N ≠ 0) (h : N < 4294967296) : wl N = bl N := by
  unfold wl; rw [wds_one h h0]; simp
theorem wl_two {N : Nat} (h0 : 4294967296 ≤ N) (h : N < 18446744073709551616) : wl N = 32 + bl (N / 4294967296) := by
  unfold wl
  rw [wds_pos (by omega), wds_one (by omega) (by omega)]
  simp
theorem wl_more {N : Nat} (h : 18446744073709551616 ≤ N) : 64 < wl N := by
  have h3 : 3 ≤ (wds N).length := by
    rw [wds_pos (by omega), wds_pos (by omega)]
    have := List.length_pos_iff.2 (show wds (N / 4294967296 / 4294967296) ≠ [] by rw [ne_eq, wds_nil]; omega)
    simp; omega
  unfold wl
  have hp : 0 < bl ((wds N).getD ((wds N).length - 1) 0) := by
    rcases Nat.eq_zero_or_pos (bl ((wds N).getD ((wds N).length - 1) 0)) with h0 | h0
    · exfalso
      have hz : (wds N).getD ((wds N).length - 1) 0 < 2 ^ 0 := (bl_lt _ 0).1 (by omega)
      have hz' : (wds N).getD ((wds N).length - 1) 0 = 0 := by omega
      have h5 := wds_take (l := wds N) (n := (wds N).length - 1) (wds_lt N) (by omega)
      have hd : (wds N).drop ((wds N).length - 1) = [(wds N).getD ((wds N).length - 1) 0] := by
        rw [List.drop_eq_getElem_cons (show (wds N).length - 1 < (wds N).length by omega), List.drop_eq_nil_of_le (by omega)]
        simp [List.getD, List.getElem?_eq_getElem (show (wds N).length - 1 < (wds N).length by omega)]
      have e1 : wv (wds N) = wv ((wds N).take ((wds N).length - 1)) := by
        rw [wv_split (l := wds N) (i := (wds N).length - 1) (by omega), hd, hz']; simp [wv]
      have hall : ∀ d ∈ (wds N).take ((wds N).length - 1), d < 4294967296 := fun d hd => wds_lt N d (List.mem_of_mem_take hd)
      have h6 := wv_lt hall
      rw [← e1, wv_wds] at h6
      have h7 := wds_len h6
      rw [List.length_take] at h7
      omega
    · exact h0
  omega
theorem wl_iff (N : Nat) : (wl N < 64 ↔ N < 9223372036854775808) ∧ (wl N = 64 ↔ 9223372036854775808 ≤ N ∧ N < 18446744073709551616) := by
  rcases Nat.lt_or_ge N 4294967296 with h | h
  · by_cases h0 : N = 0
    · subst h0; rw [wl_zero]; omega
    · have := bl_le32 h
      rw [wl_one h0 h]; omega
  · rcases Nat.lt_or_ge N 18446744073709551616 with h2 | h2
    · have e := wl_two h h2
      have b1 := bl_lt (N / 4294967296) 31
      have b2 := bl_le32 (n := N / 4294967296) (by omega)
      have : (2 : Nat) ^ 31 = 2147483648 := by decide
      rw [this] at b1
      omega
    · have := wl_more h2
      omega
/-- Word i of a number. -/
theorem wds_get : ∀ (i N : Nat), (wds N).getD i 0 = N / 4294967296 ^ i % 4294967296 := by
  intro i
  induction i with
  | zero =>
    intro N
    by_cases h : N = 0
    · subst h; rw [wds_zero]; simp
    · rw [wds_pos h]; simp
  | succ i ih =>
    intro N
    by_cases h : N = 0
    · subst h; rw [wds_zero]; simp
    · rw [wds_pos h, List.getD_cons_succ, ih, Nat.div_div_eq_div_mul, Nat.pow_succ, Nat.mul_comm]
end Go.Proofs.YtjegfimagjmpdaaGreatDoor
end
section
/- A region that draws its order: an invariant over what is done serves every order. Conditions: none. -/
namespace Go.Proofs.YtjegfimagjmpdaaGreatDoor
open Go.ChangeShapes Go.WideShapes Go.ChangeAt Go.RowKit
theorem ready_mem {md : Region.Mode} {ops : Array Oper} {L : Array Bool} {i : Nat} (h : i ∈ Region.ready md ops L) : i < ops.size ∧ L.getD i true = false := by
  unfold Region.ready at h
  rw [List.mem_filter] at h
  obtain ⟨h1, h2⟩ := h
  rw [Bool.and_eq_true] at h2
  exact ⟨List.mem_range.1 h1, by simpa using h2.1⟩
/-- How many operations are still to be done. -/
def left (L : Array Bool) : Nat := L.toList.count false
theorem left_set : ∀ (l : List Bool) (i : Nat), l[i]? = some false → (l.set i true).count false + 1 = l.count false
  | [], i, h => by simp at h
  | b :: l, 0, h => by simp at h; subst h; simp
  | b :: l, i + 1, h => by
    have := left_set l i (by simpa using h)
    simp only [List.set_cons_succ, List.count_cons]
    omega
theorem wpAny_inv {P : Program} {md : Region.Mode} {ops : Array Oper} {Q : Exit → Act → World → Prop} (I : Array Bool → Act → World → Prop)
    (hdone : ∀ L a w, I L a w → L.size = ops.size → Region.ready md ops L = [] → Q .normal a w)
    (hstep : ∀ L a w i, I L a w → L.size = ops.size → i ∈ Region.ready md ops L → wpOp P ops Q i (I (L.setIfInBounds i true)) a w) :
    ∀ (fuel : Nat) (L : Array Bool) (a : Act) (w : World), L.size = ops.size → left L ≤ fuel → I L a w → wpAny P md ops Q fuel L a w := by
  intro fuel
  induction fuel with
  | zero =>
    intro L a w hs hl hI
    have hr : Region.ready md ops L = [] := by
      apply List.eq_nil_iff_forall_not_mem.2
      intro i hi
      obtain ⟨h1, h2⟩ := ready_mem hi
      have h3 : i < L.toList.length := by simpa [hs] using h1
      have h4 : false ∈ L.toList := by
        have : L.toList[i] = false := by
          have h5 : i < L.size := by simpa using h3
          simpa [Array.getD, h5] using h2
        rw [← this]
        exact List.getElem_mem _
      have := List.count_pos_iff.2 h4
      unfold left at hl
      omega
    exact ⟨hr, hdone L a w hI hs hr⟩
  | succ fuel ih =>
    intro L a w hs hl hI
    refine ⟨hdone L a w hI hs, fun i hi => wpOp_mono (fun a' w' h => ih _ a' w' (by simpa using hs) ?_ h) (hstep L a w i hI hs hi)⟩
    obtain ⟨h1, h2⟩ := ready_mem hi
    have h5 : i < L.size := by omega
    have h6 : L.toList[i]? = some false := by
      rw [List.getElem?_eq_getElem (by simpa using h5)]
      simpa [Array.getD, h5] using h2
    have := left_set L.toList i h6
    unfold left at *
    rw [Array.toList_setIfInBounds]
    omega
theorem wpOp_run {P : Program} {ops : Array Oper} {Q : Exit → Act → World → Prop} {i : Nat} {a : Act} {w : World} {K : Act → World → Prop} {o : Oper} (ho : ops[i]? = some o) (hg : o.guard = none) (h : o.wp P a w K Q) : wpOp P ops Q i K a w := by
  unfold wpOp
  rw [ho]
  have hw : Region.wanted o (yielded ops a.tmps) = true := by simp [Region.wanted, hg]
  simp only [hw, if_true]
  exact .inl h
end Go.Proofs.YtjegfimagjmpdaaGreatDoor
end
section
/- A region that draws its order: an invariant over what is done, what is done being closed under what it waits for. Conditions: none. -/
namespace Go.Proofs.YtjegfimagjmpdaaGreatDoor
open Go.ChangeShapes Go.WideShapes Go.ChangeAt Go.RowKit
/-- What is done has had all done that it waits for. -/
def Shut' (md : Region.Mode) (ops : Array Oper) (L : Array Bool) : Prop :=
  ∀ j oj, ops[j]? = some oj → L.getD j false = true → ∀ e ∈ oj.after, Region.binds md e = true → L.getD e.on false = true
theorem getD_t {L : Array Bool} {i j : Nat} (h : L.getD j false = true) : (L.setIfInBounds i true).getD j false = true := by
  rw [Array.getD_eq_getD_getElem?] at h ⊢
  rw [Array.getElem?_setIfInBounds]
  split
  · rename_i hij
    subst hij
    split
    · rfl
    · rename_i hlt
      rw [Array.getElem?_eq_none (by omega)] at h
      exact h
  · exact h
theorem wpAny_inv2 {P : Program} {md : Region.Mode} {ops : Array Oper} {Q : Exit → Act → World → Prop} (I : Array Bool → Act → World → Prop)
    (hdone : ∀ L a w, I L a w → Shut' md ops L → L.size = ops.size → Region.ready md ops L = [] → Q .normal a w)
    (hstep : ∀ L a w i, I L a w → Shut' md ops L → L.size = ops.size → i ∈ Region.ready md ops L → wpOp P ops Q i (I (L.setIfInBounds i true)) a w)
    (fuel : Nat) (L : Array Bool) (a : Act) (w : World) (hs : L.size = ops.size) (hl : left L ≤ fuel) (hI : I L a w) (hc : Shut' md ops L) : wpAny P md ops Q fuel L a w := by
  refine wpAny_inv (fun L a w => I L a w ∧ Shut' md ops L) (fun L a w h => hdone L a w h.1 h.2) (fun L a w i h hs hi => ?_) fuel L a w hs hl ⟨hI, hc⟩
  refine wpOp_mono (fun a' w' h' => ⟨h', ?_⟩) (hstep L a w i h.1 h.2 hs hi)
  intro j oj hj hl e he hb
  by_cases hij : i = j
  · subst hij
    obtain ⟨_, oi, hoi, hall⟩ := mem_ready.1 hi
    obtain rfl : oj = oi := Option.some.inj (hj.symm.trans hoi)
    exact getD_t (hall e he hb)
  · refine getD_t (h.2 j oj hj ?_ e he hb)
    rw [Array.getD_eq_getD_getElem?] at hl ⊢
    rwa [Array.getElem?_setIfInBounds_ne hij] at hl
theorem shut_start (md : Region.Mode) (ops : Array Oper) (n : Nat) : Shut' md ops (Array.replicate n false) := by
  intro j oj _ hl
  rw [Array.getD_eq_getD_getElem?, Array.getElem?_replicate] at hl
  split at hl <;> simp at hl
def pkd (b : Bool) (v d : Value) : Value := bif b then v else d
theorem pkd_t (v d : Value) : pkd true v d = v := rfl
end Go.Proofs.YtjegfimagjmpdaaGreatDoor
end
section
/- A region that draws its order, whose operations read and whose calls make memory but answer one plain value: ONE walk, in the text's order, the class of worlds being 'what lies below stays'. Conditions: none. -/
namespace Go.Proofs.YtjegfimagjmpdaaGreatDoor
open Go.ChangeShapes Go.WideShapes Go.ChangeAt Go.RowKit
/-- A world in which all that was there is as it was. -/
structure WB (w : World) where
  val : World
  bel : Below w.heap.size w val
instance (w : World) : Nonempty (WB w) := ⟨⟨w, Below.refl _ _⟩⟩
theorem wp_region_wb {P : Program} {id : Nat} {Q : Exit → Act → World → Prop} {a : Act} {w : World} {l : List Oper} (hm : P.follows .mixedOrders = true) (hB : Region.lexB .any l.toArray = true)
    (h : wpQuiet P l.toArray (fun w' => ∃ t : WB w, w' = t.val) (fun a' => ∀ w', (∃ t : WB w, w' = t.val) → Q .normal a' w') l a) : (Code.region id l.toArray true).wp P Q a w :=
  wp_region_quiet (C := fun w' => ∃ t : WB w, w' = t.val) hm hB ⟨⟨w.drewN 1, dr (Below.refl _ _) 1⟩, rfl⟩ (by simpa using h)
theorem quietB {P : Program} {f : FuncId} {args : Array Value} {w : World} {t : WB w} {v : Value} (h : Calls P f args t.val fun e w' => e = .returned v ∧ Below t.val.heap.size t.val w') :
    Calls P f args t.val fun e w'' => e = .returned v ∧ ∃ t' : WB w, w'' = t'.val :=
  h.mono fun _ w' ⟨he, hb⟩ => ⟨he, ⟨w', t.bel.trans (hb.mono t.bel.size)⟩, rfl⟩
theorem quietB_same {P : Program} {f : FuncId} {args : Array Value} {w : World} {t : WB w} {v : Value} (h : Calls P f args t.val fun e w' => e = .returned v ∧ w' = t.val) :
    Calls P f args t.val fun e w'' => e = .returned v ∧ ∃ t' : WB w, w'' = t'.val :=
  h.mono fun _ _ ⟨he, hb⟩ => ⟨he, t, hb⟩
end Go.Proofs.YtjegfimagjmpdaaGreatDoor
end
section
/- Slices of the call's own, of anything: append; an element of a slice. Conditions: none. -/
set_option maxRecDepth 20000
namespace Go.Proofs.YtjegfimagjmpdaaGreatDoor
open Go.ChangeShapes Go.WideShapes Go.ChangeAt Go.RowKit
section
variable {X : Type} {S : Shp X} {P : Program} {w : World}
theorem wp_append_Own {o : Oper} {a : Act} {K : Act → World → Prop} {Q : Exit → Act → World → Prop} (s x : Operand) (t : TypeId)
    (ho : o.op = .call { callee := .builtin .append, args := #[s, x], argTypes := #[t, t] })
    (base : Nat) (e : TypeId) (i : TypeInfo) (z : Value) (bytes : Nat) (ht : P.underlying t = some (.slice e)) (hi : P.info? e = some i) (hz : i.zero = some z)
    (hsize : i.size = S.size) (hby : i.bytes = bytes) (hzs : z.cells.size = S.size) (hsz : 0 < S.size) (E : Nat → Prop)
    (v : Value) (xs : List X) (hs : a.eval s = v) (hown : Own S e w base E v xs)
    (B : Nat) (A : Option Addr) (m c : Nat) (news : List Value) (ess' : List (List Value)) (ys : List X) (hx : a.eval x = .slice A m c) (hr : Rd w B S.size A m news) (hnews : news = ess'.flatten) (hm : m = ys.length) (hall : S.all w (fun b => b < w.heap.size ∧ some b ≠ v.ownBlock ∧ ¬ E b) ess' ys)
    (h63 : xs.length + m ≤ maxLen) (hbytes : (xs.length + m) * bytes ≤ 140737488355328) (hbase : base ≤ w.heap.size)
    (h : ∀ A' c' w', Own S e w' base E (.slice A' (xs.length + m) c') (xs ++ ys) → w.grownBy w' v.ownBlock → ((Value.slice A' (xs.length + m) c').ownBlock = v.ownBlock ∨ (Value.slice A' (xs.length + m) c').ownBlock = some w.heap.size) → K (a.put o.dst (.slice A' (xs.length + m) c')) w') : o.wp P a w K Q := by
  obtain ⟨A0, c0, ess, hv, ho0, hall0⟩ := hown
  refine wp_append_rd w s x t ho base e i z S.size bytes ht hi hz hsize hby hzs hsz v xs.length ess.flatten hs ho0 B A m c news hx hr ?_ h63 hbytes hbase fun A' c' w' h2 h3 h4 => h A' c' w' ?_ h3 h4
  · rw [hnews]; exact hall.oneCell
  · refine ⟨A', c', ess ++ ess', by rw [List.length_append, hm], by rw [List.flatten_append, List.length_append, ← hnews, ← hm]; exact h2, ?_⟩
    refine ((hall0.app hall).keep fun p hp => World.cell?_of_block (h3.block p.block hp.1 hp.2.1)).more fun b hb => ⟨Nat.lt_of_lt_of_le hb.1 h3.size, ?_, hb.2.2⟩
    rcases h4 with h4 | h4
    · rw [h4]; exact hb.2.1
    · rw [h4]; intro e; injection e with e; have := hb.1; omega
theorem wpList_append_Own {ops : Array Oper} {rest : List Oper} {o : Oper} {a : Act} {Q : Exit → Act → World → Prop} (hgd : o.guard = none) (s x : Operand) (t : TypeId)
    (ho : o.op = .call { callee := .builtin .append, args := #[s, x], argTypes := #[t, t] })
    (base : Nat) (e : TypeId) (i : TypeInfo) (z : Value) (bytes : Nat) (ht : P.underlying t = some (.slice e)) (hi : P.info? e = some i) (hz : i.zero = some z)
    (hsize : i.size = S.size) (hby : i.bytes = bytes) (hzs : z.cells.size = S.size) (hsz : 0 < S.size) (E : Nat → Prop)
    (v : Value) (xs : List X) (hs : a.eval s = v) (hown : Own S e w base E v xs)
    (B : Nat) (A : Option Addr) (m c : Nat) (news : List Value) (ess' : List (List Value)) (ys : List X) (hx : a.eval x = .slice A m c) (hr : Rd w B S.size A m news) (hnews : news = ess'.flatten) (hm : m = ys.length) (hall : S.all w (fun b => b < w.heap.size ∧ some b ≠ v.ownBlock ∧ ¬ E b) ess' ys)
    (h63 : xs.length + m ≤ maxLen) (hbytes : (xs.length + m) * bytes ≤ 140737488355328) (hbase : base ≤ w.heap.size)
    (h : ∀ A' c' w', Own S e w' base E (.slice A' (xs.length + m) c') (xs ++ ys) → w.grownBy w' v.ownBlock → ((Value.slice A' (xs.length + m) c').ownBlock = v.ownBlock ∨ (Value.slice A' (xs.length + m) c').ownBlock = some w.heap.size) → wpList P ops Q rest (a.put o.dst (.slice A' (xs.length + m) c')) w') : wpList P ops Q (o :: rest) a w :=
  wpList_plain hgd fun _ hK => wp_append_Own s x t ho base e i z bytes ht hi hz hsize hby hzs hsz E v xs hs hown B A m c news ess' ys hx hr hnews hm hall h63 hbytes hbase fun A' c' w' h2 h3 h4 => hK _ _ (h A' c' w' h2 h3 h4)
/-- At a step of a region that draws its order. -/
theorem step_append_Own {ops : Array Oper} {o : Oper} {a : Act} {K : Act → World → Prop} {Q : Exit → Act → World → Prop} {EE : Prop} (hgd : o.guard = none) (s x : Operand) (t : TypeId)
    (ho : o.op = .call { callee := .builtin .append, args := #[s, x], argTypes := #[t, t] })
    (base : Nat) (e : TypeId) (i : TypeInfo) (z : Value) (bytes : Nat) (ht : P.underlying t = some (.slice e)) (hi : P.info? e = some i) (hz : i.zero = some z)
    (hsize : i.size = S.size) (hby : i.bytes = bytes) (hzs : z.cells.size = S.size) (hsz : 0 < S.size) (E : Nat → Prop)
    (v : Value) (xs : List X) (hs : a.eval s = v) (hown : Own S e w base E v xs)
    (B : Nat) (A : Option Addr) (m c : Nat) (news : List Value) (ess' : List (List Value)) (ys : List X) (hx : a.eval x = .slice A m c) (hr : Rd w B S.size A m news) (hnews : news = ess'.flatten) (hm : m = ys.length) (hall : S.all w (fun b => b < w.heap.size ∧ some b ≠ v.ownBlock ∧ ¬ E b) ess' ys)
    (h63 : xs.length + m ≤ maxLen) (hbytes : (xs.length + m) * bytes ≤ 140737488355328) (hbase : base ≤ w.heap.size)
    (h : ∀ A' c' w', Own S e w' base E (.slice A' (xs.length + m) c') (xs ++ ys) → w.grownBy w' v.ownBlock → ((Value.slice A' (xs.length + m) c').ownBlock = v.ownBlock ∨ (Value.slice A' (xs.length + m) c').ownBlock = some w.heap.size) → K (a.put o.dst (.slice A' (xs.length + m) c')) w') : if Region.wanted o (yielded ops a.tmps) = true then Oper.wp P o a w K Q else EE := by
  have hw : Region.wanted o (yielded ops a.tmps) = true := by simp [Region.wanted, hgd]
  rw [if_pos hw]
  exact wp_append_Own s x t ho base e i z bytes ht hi hz hsize hby hzs hsz E v xs hs hown B A m c news ess' ys hx hr hnews hm hall h63 hbytes hbase h
/-- An element of a slice. -/
theorem Shp.elem {M : Nat → Prop} {A : Option Addr} {n : Nat} {ess : List (List Value)} {xs : List X} (hr : RdM w M S.size A n ess.flatten) (hall : S.all w M ess xs) {i : Nat} (hi : i < n) (hn : n = xs.length) :
    ∃ b off cs x, A = some ⟨b, off, none⟩ ∧ M b ∧ xs[i]? = some x ∧ S.rd w M cs x ∧ ∀ k u, cs[k]? = some u → w.cell? ⟨b, off + i * S.size + k, none⟩ = some u := by
  obtain ⟨b, off, rfl, hb, hc⟩ := hr.2 (by omega)
  have hl : i < ess.length := by rw [hall.1]; omega
  have hx : i < xs.length := by omega
  refine ⟨b, off, ess[i], xs[i], rfl, hb, List.getElem?_eq_getElem hx, hall.2 i _ _ (List.getElem?_eq_getElem hl) (List.getElem?_eq_getElem hx), fun k u hu => by rw [Nat.add_assoc]; exact hc _ u (by
    have hk : k < S.size := by
      have h1 := (List.getElem?_eq_some_iff.1 hu).1
      have h2 := hall.each ess[i] (List.getElem_mem hl)
      omega
    rw [flat_at hall.each _ _ hk, List.getElem?_eq_getElem hl]
    exact hu)⟩
/-- One element, laid in a block of its own for an append. -/
theorem Rd.one (w : World) (cs : Array Value) (t : TypeId) (size : Nat) (hs : cs.size = size) (g : Nat) (hg : g = w.heap.size) : Rd (w.alloc (.cells cs t)) (w.heap.size + 1) size (some ⟨g, 0, none⟩) 1 cs.toList := by
  subst hg
  exact Rd.lit w cs t 1 size (by simpa using hs)
theorem Shp.all1 {M : Nat → Prop} {cs : List Value} {x : X} (h : S.rd w M cs x) : S.all w M [cs] [x] := Shp.all.nil.snoc h
/-- What is owned, and a new element that lies in newer memory. -/
theorem Own.fresh {wr W : World} {base : Nat} {t : TypeId} {E : Nat → Prop} {v : Value} {xs : List X} {cs : List Value} {x : X} (h : Own S t wr base E v xs) (hb : Below wr.heap.size wr W) (hrd : S.rd W (fun b => wr.heap.size ≤ b ∧ b < W.heap.size) cs x) (hE : ∀ b, E b → b < wr.heap.size) :
    Own S t W base E v xs ∧ S.all W (fun b => b < W.heap.size ∧ some b ≠ v.ownBlock ∧ ¬ E b) [cs] [x] := by
  refine ⟨h.below hb, Shp.all1 (S.more hrd fun b hb' => ⟨hb'.2, ?_, fun he => ?_⟩)⟩
  · obtain ⟨_, _, _, _, ho, _⟩ := h
    intro e
    have := (ho.lt b e.symm).2
    omega
  · have := hE b he
    omega
/-- A row of the call's own, behind a store into an older block and a new one. -/
theorem RdM.put {w3 : World} {base g j size n : Nat} {u : Value} {o1 : Obj} {A : Option Addr} {ys : List Value} (h : RdM w3 (fun b => base ≤ b ∧ b < w3.heap.size) size A n ys) (hg : g < base) :
    RdM ((w3.setCell ⟨g, j, none⟩ u).alloc o1) (fun b => g ≤ b ∧ b < ((w3.setCell ⟨g, j, none⟩ u).alloc o1).heap.size) size A n ys := by
  refine (h.keep fun p hp => ?_).more fun b hb => ⟨by omega, by simp; omega⟩
  rw [World.cell?_alloc_lt _ _ _ (by simp; exact hp.2), World.cell?_setCell_other]
  intro e
  rw [← e] at hp
  have := hp.1
  simp at this
  omega
theorem RdM.al {w3 : World} {base size n : Nat} {o1 : Obj} {A : Option Addr} {ys : List Value} (h : RdM w3 (fun b => base ≤ b ∧ b < w3.heap.size) size A n ys) :
    RdM (w3.alloc o1) (fun b => base ≤ b ∧ b < (w3.alloc o1).heap.size) size A n ys :=
  (h.keep fun p hp => World.cell?_alloc_lt _ _ _ hp.2).more fun b hb => ⟨hb.1, by simp; omega⟩
theorem Own.base {wr : World} {base b : Nat} {t : TypeId} {E : Nat → Prop} {v : Value} {xs : List X} (h : Own S t wr base E v xs) (hb : b ≤ base) : Own S t wr b E v xs := by
  obtain ⟨A, c, ess, rfl, ho, ha⟩ := h
  exact ⟨A, c, ess, rfl, own_base ho hb, ha⟩
theorem Own.form {wr : World} {base : Nat} {t : TypeId} {E : Nat → Prop} {v : Value} {xs : List X} (h : Own S t wr base E v xs) : ∃ A c, v = .slice A xs.length c := by
  obtain ⟨A, c, _, e, _⟩ := h
  exact ⟨A, c, e⟩
/-- What is owned, and a new element that lies in elder memory. -/
theorem Own.elder {wr W : World} {base b0 : Nat} {t : TypeId} {v : Value} {xs : List X} {cs : List Value} {x : X} (h : Own S t wr base (fun _ => False) v xs) (hb : Below wr.heap.size wr W) (hrd : S.rd W (· < b0) cs x) (h0 : b0 ≤ base) (h1 : b0 ≤ W.heap.size) :
    Own S t W base (fun _ => False) v xs ∧ S.all W (fun b => b < W.heap.size ∧ some b ≠ v.ownBlock ∧ ¬ (fun _ => False) b) [cs] [x] := by
  refine ⟨h.below hb, Shp.all1 (S.more hrd fun b hb' => ⟨Nat.lt_of_lt_of_le hb' h1, ?_, fun he => he.elim⟩)⟩
  obtain ⟨_, _, _, _, ho, _⟩ := h
  intro e
  have := (ho.lt b e.symm).1
  omega
theorem Own.lenle {wr : World} {base : Nat} {t : TypeId} {E : Nat → Prop} {v : Value} {xs : List X} (h : Own S t wr base E v xs) : base ≤ wr.heap.size ∨ v = .slice none 0 0 := by
  obtain ⟨A, c, ess, rfl, ho, _⟩ := h
  rcases ho.2 with ⟨h1, _⟩ | ⟨g, _, _, _, hb, hg, _⟩
  · exact .inr h1
  · exact .inl (by have := (Array.getElem?_eq_some_iff.1 hg).1; omega)
/-- Behind an append onto what is owned. -/
theorem _root_.Go.RowKit.Below.grown2 {w wr W w4 : World} {t : TypeId} {E : Nat → Prop} {v : Value} {xs : List X} (h : Below w.heap.size w wr) (hown : Own S t wr w.heap.size E v xs) (hb : Below wr.heap.size wr W) (hg : W.grownBy w4 v.ownBlock) : Below w.heap.size w w4 := by
  obtain ⟨_, _, _, _, ho, _⟩ := hown
  exact (sq h hb).grown hg (Nat.le_trans h.size hb.size) fun k hk => (ho.lt k hk).1
theorem Shp.stay {w W : World} {B : Nat} {cs : List Value} {x : X} (h : S.rd w (· < B) cs x) (hb : Below B w W) : S.rd W (· < B) cs x := S.keep h fun _ hp => hb.cell hp
theorem Shp.into {w W : World} {B : Nat} {cs : List Value} {x : X} (h : S.rd w (· < B) cs x) (hb : Below B w W) (hB : B ≤ W.heap.size) : S.rd W (· < W.heap.size) cs x :=
  S.more (S.keep h fun _ hp => hb.cell hp) fun _ hb' => Nat.lt_of_lt_of_le hb' hB
end
theorem own_cap {w : World} {base n c size : Nat} {e : TypeId} {A : Option Addr} {xs : List Value} (h : w.ownsRow base e size (.slice A n c) n xs) : n ≤ c ∧ c ≤ maxLen ∧ (c = 0 ∨ A ≠ none) := by
  rcases h.2 with ⟨h1, h2⟩ | ⟨g, cap, cur, h1, _, _, hnc, hcm, _⟩
  · simp at h1; refine ⟨by omega, ?_, .inl h1.2.2⟩; unfold maxLen; omega
  · simp at h1
    obtain ⟨rfl, rfl⟩ := h1
    exact ⟨hnc, hcm, .inr (by simp)⟩
theorem RdM.of_own {w : World} {base n c size : Nat} {e : TypeId} {A : Option Addr} {xs : List Value} (h : w.ownsRow base e size (.slice A n c) n xs) : RdM w (fun b => base ≤ b ∧ b < w.heap.size) size A n xs := by
  refine ⟨h.1, fun hn => ?_⟩
  obtain ⟨b, off, rfl, hb, hc⟩ := (Rd.of_own h).2 hn
  exact ⟨b, off, rfl, ⟨(h.lt b rfl).1, hb⟩, hc⟩
theorem Own.ownlt {X : Type} {S : Shp X} {wr : World} {base : Nat} {t : TypeId} {E : Nat → Prop} {v : Value} {xs : List X} (h : Own S t wr base E v xs) {k : Nat} (hk : v.ownBlock = some k) : base ≤ k ∧ k < wr.heap.size := by
  obtain ⟨A, c, ess, rfl, ho, ha⟩ := h
  exact ho.lt k hk
theorem Own.lessE {X : Type} {S : Shp X} {wr : World} {base : Nat} {t : TypeId} {E E' : Nat → Prop} {v : Value} {xs : List X} (h : Own S t wr base E v xs) (hE : ∀ b, E' b → E b) : Own S t wr base E' v xs := by
  obtain ⟨A, c, ess, rfl, ho, ha⟩ := h
  exact ⟨A, c, ess, rfl, ho, ha.more fun b hb => ⟨hb.1, hb.2.1, fun h => hb.2.2 (hE b h)⟩⟩
/-- What is owned, and lies in new memory whole, reads so within it. -/
theorem Own.readN {X : Type} {S : Shp X} {wr : World} {base : Nat} {t : TypeId} {v : Value} {xs : List X} (h : Own S t wr base (· < base) v xs) : (Shp.slice S).rd wr (fun b => base ≤ b ∧ b < wr.heap.size) [v] xs := by
  obtain ⟨A, c, ess, rfl, hown, hall⟩ := h
  obtain ⟨q1, q2, q3⟩ := own_cap hown
  exact ⟨A, c, ess, rfl, q1, q2, q3, RdM.of_own hown, hall.more fun b hb => ⟨Nat.le_of_not_lt hb.2.2, hb.1⟩⟩
theorem held012 {W w1 w2 : World} {g : Nat} {x0 x1 x2 : Value} (hg : g < W.heap.size) (hb : Below w1.heap.size w1 w2) (h : w1.cell? ⟨g, 0, none⟩ = some x0 ∧ w1.cell? ⟨g, 1, none⟩ = some x1 ∧ w1.cell? ⟨g, 2, none⟩ = some x2 ∧ Below W.heap.size W w1) :
    w2.cell? ⟨g, 0, none⟩ = some x0 ∧ w2.cell? ⟨g, 1, none⟩ = some x1 ∧ w2.cell? ⟨g, 2, none⟩ = some x2 ∧ Below W.heap.size W w2 := by
  obtain ⟨k1, _⟩ := kept hb
  obtain ⟨b, c, d, e⟩ := h
  have hg1 : g < w1.heap.size := Nat.lt_of_lt_of_le hg e.size
  exact ⟨by rw [k1 _ _ hg1]; exact b, by rw [k1 _ _ hg1]; exact c, by rw [k1 _ _ hg1]; exact d, sq e hb⟩
theorem held012g {X : Type} {S : Shp X} {W w0 w1 w2 : World} {g : Nat} {x0 x1 x2 : Value} {t : TypeId} {E : Nat → Prop} {v : Value} {xs : List X} (hg : g < W.heap.size) (h : w1.cell? ⟨g, 0, none⟩ = some x0 ∧ w1.cell? ⟨g, 1, none⟩ = some x1 ∧ w1.cell? ⟨g, 2, none⟩ = some x2 ∧ Below W.heap.size W w1) (hown : Own S t w0 W.heap.size E v xs) (hb : w1.grownBy w2 v.ownBlock) :
    w2.cell? ⟨g, 0, none⟩ = some x0 ∧ w2.cell? ⟨g, 1, none⟩ = some x1 ∧ w2.cell? ⟨g, 2, none⟩ = some x2 ∧ Below W.heap.size W w2 := by
  obtain ⟨b, c, d, e⟩ := h
  obtain ⟨_, _, _, _, ho, _⟩ := hown
  have hg1 : g < w1.heap.size := Nat.lt_of_lt_of_le hg e.size
  have hk : w2.heap[g]? = w1.heap[g]? := hb.block g hg1 fun h => by have := (ho.lt g h.symm).1; omega
  exact ⟨(World.cell?_of_block (a := ⟨g, 0, none⟩) hk).trans b, (World.cell?_of_block (a := ⟨g, 1, none⟩) hk).trans c, (World.cell?_of_block (a := ⟨g, 2, none⟩) hk).trans d, e.grown hb e.size fun k hk => (ho.lt k hk).1⟩
theorem lst4 {a b c d : Prop} (h : a ∧ b ∧ c ∧ d) : d := h.2.2.2
end Go.Proofs.YtjegfimagjmpdaaGreatDoor
end
