/- The text of a code, in plain Lean; a builder that holds it. Conditions: none. -/
import Derived.Test.YtjegfimagjmpdaaGreatDoorCsA
import Derived.Test.YtjegfimagjmpdaaGreatDoorIpC
import Derived.Test.YtjegfimagjmpdaaGreatDoorBuild
set_option maxRecDepth 100000
namespace Go.Proofs.YtjegfimagjmpdaaGreatDoor
open Go.ChangeShapes Go.WideShapes Go.ChangeAt Go.RowKit
theorem insE_op {K : KK} {f : FF} {x : II} (h : insE K f x = 0) : 1 ≤ x.o ∧ x.o ≤ 41 := by
  unfold insE at h
  rw [insV_insR] at h
  unfold insR at h
  split at h
  · cases h
  · omega
theorem quoT_len {s : ByteArray} (h : quoE s = 0) : (quoT s).size ≤ 402 := by
  have h2 := quoE_len h
  unfold quoE at h
  unfold quoT
  rw [if_neg (by omega)] at h ⊢
  cases hq : quoL s.data.toList with
  | none => rw [hq] at h; cases h
  | some q =>
    have h1 := quoL_len hq
    have h3 : s.data.toList.length = s.size := rfl
    show (34 :: q ++ [34]).toArray.size ≤ 402
    rw [List.size_toArray]
    simp
    omega
def txS (s : ByteArray) : List UInt8 := [116, 101, 120, 116, 32] ++ (quoT s).data.toList ++ [10]
def fnH (f : FF) : List UInt8 := [102, 117, 110, 99, 32] ++ f.name.data.toList ++ blL [f.params, f.slots, f.caps] ++ [10]
def fnS (f : FF) : List UInt8 := fnH f ++ f.ins.flatMap lnL
def showT (K : KK) (k : Nat) : List UInt8 := (K.texts.take k).flatMap txS
def showF (K : KK) (k : Nat) : List UInt8 := showT K K.texts.length ++ (K.funcs.take k).flatMap fnS
def showC (K : KK) : List UInt8 := showF K K.funcs.length
theorem flat8_len {α : Type} (g : α → List UInt8) (m : Nat) (l : List α) (h : ∀ x ∈ l, (g x).length ≤ m) : (l.flatMap g).length ≤ m * l.length := by
  induction l with
  | nil => simp
  | cons a r ih =>
    have h1 := h a (by simp)
    have h2 := ih fun z hz => h z (by simp [hz])
    rw [List.flatMap_cons, List.length_append, List.length_cons, Nat.mul_add]
    omega
theorem flat8_snoc {α : Type} (g : α → List UInt8) (l : List α) (k : Nat) {x : α} (h : l[k]? = some x) : (l.take (k + 1)).flatMap g = (l.take k).flatMap g ++ g x := by
  rw [List.take_add_one, h, List.flatMap_append]
  simp
/-- How long the text is at most. -/
structure LenS (K : KK) : Prop where
  tx : ∀ s ∈ K.texts, (txS s).length ≤ 408
  fh : ∀ f ∈ K.funcs, (fnH f).length ≤ 8070
  fn : ∀ f ∈ K.funcs, (fnS f).length ≤ 2308070
  ins : ∀ f ∈ K.funcs, ∀ k, ((f.ins.take k).flatMap lnL).length ≤ 2300000
theorem LenS.of {K : KK} (h : Snd K) (hb : ∀ f ∈ K.funcs, (-9223372036854775808 ≤ f.params ∧ f.params ≤ 9223372036854775807) ∧ (-9223372036854775808 ≤ f.slots ∧ f.slots ≤ 9223372036854775807) ∧ (-9223372036854775808 ≤ f.caps ∧ f.caps ≤ 9223372036854775807))
    (hi : ∀ f ∈ K.funcs, ∀ x ∈ f.ins, (-9223372036854775808 ≤ x.o ∧ x.o ≤ 9223372036854775807) ∧ (-9223372036854775808 ≤ x.a ∧ x.a ≤ 9223372036854775807) ∧ (-9223372036854775808 ≤ x.b ∧ x.b ≤ 9223372036854775807) ∧ (-9223372036854775808 ≤ x.c ∧ x.c ≤ 9223372036854775807) ∧ (-9223372036854775808 ≤ x.d ∧ x.d ≤ 9223372036854775807) ∧ (-9223372036854775808 ≤ x.e ∧ x.e ≤ 9223372036854775807)) : LenS K := by
  have hH : ∀ f ∈ K.funcs, f.name.size ≤ 8000 ∧ f.ins.length ≤ 20000 := fun f hf => by
    obtain ⟨k, hk, he⟩ := List.mem_iff_getElem.1 hf
    have := head_ok (h.hd k f (by rw [List.getElem?_eq_getElem hk, he]))
    exact ⟨nm_len this.1, this.2.2.2.2.2.1⟩
  have hins : ∀ f ∈ K.funcs, ∀ k, ((f.ins.take k).flatMap lnL).length ≤ 2300000 := fun f hf k => by
    obtain ⟨k0, hk0, he⟩ := List.mem_iff_getElem.1 hf
    have h1 := flat8_len lnL 115 (f.ins.take k) (fun x hx => by
      obtain ⟨b0, b1, b2, b3, b4, b5⟩ := hi f hf x (List.mem_of_mem_take hx)
      obtain ⟨i, hi2, hx2⟩ := List.mem_iff_getElem.1 (List.mem_of_mem_take hx)
      have ho := insE_op (h.fn k0 f (by rw [List.getElem?_eq_getElem hk0, he]) i x (by rw [List.getElem?_eq_getElem hi2, hx2]))
      have hb := blL_len [x.a, x.b, x.c, x.d, x.e] (by intro z hz; simp at hz; rcases hz with rfl | rfl | rfl | rfl | rfl <;> assumption)
      have hw := word_len x.o.toNat (by omega)
      unfold lnL
      rw [List.length_append, List.length_append, List.length_append]
      simp at hb ⊢
      omega)
    have h2 := (hH f hf).2
    rw [List.length_take] at h1
    omega
  have hfh : ∀ f ∈ K.funcs, (fnH f).length ≤ 8070 := fun f hf => by
    obtain ⟨b0, b1, b2⟩ := hb f hf
    have h1 := blL_len [f.params, f.slots, f.caps] (by intro z hz; simp at hz; rcases hz with rfl | rfl | rfl <;> assumption)
    have h2 := (hH f hf).1
    have h3 : f.name.data.toList.length = f.name.size := rfl
    unfold fnH
    rw [List.length_append, List.length_append, List.length_append, h3]
    simp at h1 ⊢
    omega
  refine ⟨fun s hs => ?_, hfh, fun f hf => ?_, hins⟩
  · have h1 := quoT_len (h.tx s hs)
    have h3 : (quoT s).data.toList.length = (quoT s).size := rfl
    unfold txS
    rw [List.length_append, List.length_append, h3]
    simp
    omega
  · have h2 := hins f hf f.ins.length
    rw [List.take_length] at h2
    have h3 := hfh f hf
    unfold fnS
    rw [List.length_append]
    omega
theorem showT_len {K : KK} (h : LenS K) (hn : K.texts.length ≤ 2000) (k : Nat) : (showT K k).length ≤ 816000 := by
  have h2 := flat8_len txS 408 (K.texts.take k) (fun s hs => h.tx s (List.mem_of_mem_take hs))
  rw [List.length_take] at h2
  unfold showT
  omega
theorem showF_len {K : KK} (h : LenS K) (hn : K.funcs.length ≤ 400) (ht : K.texts.length ≤ 2000) (k : Nat) : (showF K k).length ≤ 924044000 := by
  have h2 := flat8_len fnS 2308070 (K.funcs.take k) (fun s hs => h.fn s (List.mem_of_mem_take hs))
  have h1 := showT_len h ht K.texts.length
  rw [List.length_take] at h2
  unfold showF
  rw [List.length_append]
  omega
theorem showT_step {K : KK} {k : Nat} {s : ByteArray} (h : K.texts[k]? = some s) : showT K (k + 1) = showT K k ++ txS s := by
  unfold showT
  rw [flat8_snoc _ _ _ h]
theorem showF_step {K : KK} {k : Nat} {f : FF} (h : K.funcs[k]? = some f) : showF K (k + 1) = showF K k ++ fnS f := by
  unfold showF
  rw [flat8_snoc _ _ _ h, List.append_assoc]
theorem showF_zero (K : KK) : showF K 0 = showT K K.texts.length := by unfold showF; simp
theorem KR.lenS {w : World} {B : Nat} {FA TA : Option Addr} {K : KK} (h : KR w B FA TA K) (hs : Snd K) : LenS K := by
  refine LenS.of hs (fun f hf => ?_) (fun f hf x hx => ?_)
  · obtain ⟨k, hk, he⟩ := List.mem_iff_getElem.1 hf
    exact (h.fn k f (by rw [List.getElem?_eq_getElem hk, he])).bd
  · obtain ⟨k, hk, he⟩ := List.mem_iff_getElem.1 hf
    obtain ⟨⟨b, off, A, c, _, _, _, _, _, _, _, _, _, ess, hr, ha⟩, _⟩ := h.fn k f (by rw [List.getElem?_eq_getElem hk, he])
    obtain ⟨i, hi, hxe⟩ := List.mem_iff_getElem.1 hx
    exact ins_bd hr ha rfl (by rw [List.getElem?_eq_getElem hi, hxe])
/-- The builder, the code's head. -/
structure PB (w : World) (g : Nat) (cs : Array Value) (L : List UInt8) (wr : World) : Prop where
  bld : Bld g g (Lib.byteCells L) wr
  hd : wr.heap[w.heap.size]? = some (.cells cs 25 (0, 0))
  bel : Below w.heap.size w wr
  gp : w.heap.size < g
  gs : g < wr.heap.size
theorem Bld.keep {B b : Nat} {bs : List Value} {w w' : World} (h : Bld B b bs w) (hb : Below w.heap.size w w') : Bld B b bs w' := by
  have key : ∀ p, Lib.BuilderAt 60 5 B b p bs w → Lib.BuilderAt 60 5 B b p bs w' := by
    rintro p ⟨h1, v, h2, h3, h4⟩
    exact ⟨h1, v, (hb.block b (Array.getElem?_eq_some_iff.1 h2).1).trans h2, own_kept h3 hb, h4⟩
  exact h.imp (key _) (key _)
theorem kpt_blk {g : Nat} {w w' : World} (h : Kpt g w w') {k : Nat} {cs : Array Value} {t : TypeId} (hk : w.heap[k]? = some (.cells cs t (0, 0))) (hne : k ≠ g) (ht : t ≠ 5) : w'.heap[k]? = some (.cells cs t (0, 0)) :=
  h k _ hk (fun e => hne (Option.some.inj e)) fun c fz e => ht (by injection e)
section
variable {w : World} {g : Nat} {cs : Array Value} {L L' : List UInt8} {wr w' : World}
theorem PB.into (h : PB w g cs L wr) {bs : List Value} (hb : Bld g g bs w') (hbs : bs = Lib.byteCells L') (hbel : Below g wr w') (hk : Kpt g wr w') : PB w g cs L' w' :=
  ⟨hbs ▸ hb, kpt_blk hk h.hd (by have := h.gp; omega) (by decide), h.bel.trans (hbel.mono (Nat.le_of_lt h.gp)), h.gp, Nat.lt_of_lt_of_le h.gs hbel.size⟩
theorem PB.keep (h : PB w g cs L wr) (hb : Below wr.heap.size wr w') : PB w g cs L w' :=
  ⟨h.bld.keep hb, (hb.block _ (Nat.lt_trans h.gp h.gs)).trans h.hd, h.bel.trans (hb.mono h.bel.size), h.gp, Nat.lt_of_lt_of_le h.gs hb.size⟩
theorem PB.to (h : PB w g cs L wr) (e : L = L') : PB w g cs L' wr := e ▸ h
end
theorem bc_app (l m : List UInt8) : Lib.byteCells l ++ Lib.byteCells m = Lib.byteCells (l ++ m) := by simp [Lib.byteCells]
theorem bc_len (l : List UInt8) : (Lib.byteCells l).length = l.length := by simp [Lib.byteCells]
theorem sc_bc (s : ByteArray) : Lib.strCells s = Lib.byteCells s.data.toList := rfl
end Go.Proofs.YtjegfimagjmpdaaGreatDoor
