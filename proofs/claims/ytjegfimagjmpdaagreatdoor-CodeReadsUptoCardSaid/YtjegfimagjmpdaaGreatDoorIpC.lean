/- 'image.Pack'. Conditions: the code fits what comes in. -/
import Derived.Test.YtjegfimagjmpdaaGreatDoorIpB
import Derived.Test.YtjegfimagjmpdaaGreatDoorImage1
import Derived.Lib.SmallJoins
set_option maxRecDepth 100000
namespace Go.Proofs.YtjegfimagjmpdaaGreatDoor
open Go.ChangeShapes Go.WideShapes Go.ChangeAt Go.RowKit
theorem heap_at {w : World} (o : Obj) {h : Nat} (hh : h = w.heap.size) : (w.alloc o).heap[h]? = some o := hh ▸ heap_alloc_new w o
/-- The sum of a code's bytes, and its four bytes. -/
def sumP (L : List Int) : Int := (yP (by_ L) L.length : Int) * 65536 + (xOf (by_ L) L.length : Int)
def tailL (s : Int) : List Int := [s / 16777216, s / 65536 % 256, s / 256 % 256, s % 256]
theorem sumP_bd (L : List Int) : 0 ≤ sumP L ∧ sumP L < 4294967296 := by
  have h1 := yP_lt (by_ L) L.length
  have h2 := xOf_lt (by_ L) L.length
  unfold sumP
  omega
/-- What 'Pack' answers. -/
def PackPost (K : KK) (w : World) (e : Ending) (w' : World) : Prop :=
  ((¬ (soundV K).1 = 0 ∧ e = .returned (.tuple #[.slice none 0 0, .int .i64 (soundV K).1])) ∨
   ((soundV K).1 = 0 ∧ ∃ A n c, e = .returned (.tuple #[.slice A n c, .int .i64 0]) ∧ Rd w' w'.heap.size 1 A n ((packB K ++ tailL (sumP (packB K))).map (Value.int .u8)) ∧ n ≤ 1000000000)) ∧ Below w.heap.size w w'
theorem PackPost.no {K : KK} {w w' : World} (h : ¬ (soundV K).1 = 0) (hb : Below w.heap.size w w') : PackPost K w (.returned (.tuple #[.slice none 0 0, .int .i64 (soundV K).1])) w' := ⟨.inl ⟨h, rfl⟩, hb⟩
theorem PackPost.yes {K : KK} {w : World} (h : (soundV K).1 = 0) {w' : World} {A : Option Addr} {n c : Nat} (hr : Rd w' w'.heap.size 1 A n ((packB K ++ tailL (sumP (packB K))).map (Value.int .u8))) (hn : n ≤ 1000000000) (hb : Below w.heap.size w w') : PackPost K w (.returned (.tuple #[.slice A n c, .int .i64 0])) w' := ⟨.inr ⟨h, A, n, c, rfl, hr, hn⟩, hb⟩
theorem ins_bd {w : World} {M : Nat → Prop} {n : Nat} {A : Option Addr} {ess : List (List Value)} {l : List II} (hr : RdM w M II.sh.size A n ess.flatten) (ha : II.sh.all w M ess l) (hn : n = l.length) {i : Nat} {x : II} (hx : l[i]? = some x) :
    (-9223372036854775808 ≤ x.o ∧ x.o ≤ 9223372036854775807) ∧ (-9223372036854775808 ≤ x.a ∧ x.a ≤ 9223372036854775807) ∧ (-9223372036854775808 ≤ x.b ∧ x.b ≤ 9223372036854775807) ∧ (-9223372036854775808 ≤ x.c ∧ x.c ≤ 9223372036854775807) ∧ (-9223372036854775808 ≤ x.d ∧ x.d ≤ 9223372036854775807) ∧ (-9223372036854775808 ≤ x.e ∧ x.e ≤ 9223372036854775807) := by
  obtain ⟨hi, _⟩ := List.getElem?_eq_some_iff.1 hx
  obtain ⟨_, _, _, y, _, _, hy, hrd, _⟩ := Shp.elem hr ha (i := i) (by omega) hn
  rw [hx] at hy
  injection hy with hy
  subst hy
  exact (II.elim hrd).2
theorem KR.lens {w : World} {B : Nat} {FA TA : Option Addr} {K : KK} (h : KR w B FA TA K) (hs : Snd K) : Lens K := by
  refine Lens.of hs (fun f hf => ?_) (fun f hf x hx => ?_)
  · obtain ⟨k, hk, he⟩ := List.mem_iff_getElem.1 hf
    exact (h.fn k f (by rw [List.getElem?_eq_getElem hk, he])).bd
  · obtain ⟨k, hk, he⟩ := List.mem_iff_getElem.1 hf
    obtain ⟨⟨b, off, A, c, _, _, _, _, _, _, _, _, _, ess, hr, ha⟩, _⟩ := h.fn k f (by rw [List.getElem?_eq_getElem hk, he])
    obtain ⟨i, hi, hxe⟩ := List.mem_iff_getElem.1 hx
    obtain ⟨_, _, _, y, _, _, hy, hrd, _⟩ := Shp.elem hr ha hi rfl
    have : y = x := by rw [List.getElem?_eq_getElem hi, hxe] at hy; injection hy with hy; exact hy.symm
    subst this
    exact (II.elim hrd).2
section
variable (FA TA : Option Addr) (fc tc : Nat) (K : KK)
end
end Go.Proofs.YtjegfimagjmpdaaGreatDoor
