/- The plain side of a heap: the blocks that roots lead to, and two ways of finding them. Conditions: none. -/
import Derived.Test.YthogfcdgbodccaaHpS
namespace Go.Proofs.Ythogfcdgbodccaa
/-- A cell of a list names a place ('t': the tag of a reference). -/
def Nam (t : Int) (l : List (Int × Int)) (a : Nat) : Prop := (t, (a : Int)) ∈ l
/-- Roots lead to a block. -/
inductive Led (t : Int) (bs : List BK) (roots : List (Int × Int)) : Nat → Prop
  | root {a : Nat} : Nam t roots a → (blkAt bs a).isSome → Led t bs roots a
  | step {a c : Nat} {b : BK} : Led t bs roots a → blkAt bs a = some b → Nam t b.cells c → (blkAt bs c).isSome → Led t bs roots c
theorem Led.some {t : Int} {bs : List BK} {roots : List (Int × Int)} {a : Nat} (h : Led t bs roots a) : (blkAt bs a).isSome := by
  cases h <;> assumption
/-- A set that holds what the roots name and is closed holds all that they lead to. -/
theorem led_in {t : Int} {bs : List BK} {roots : List (Int × Int)} {S : Nat → Prop} (h0 : ∀ a, Nam t roots a → (blkAt bs a).isSome → S a) (h1 : ∀ a b c, S a → blkAt bs a = some b → Nam t b.cells c → (blkAt bs c).isSome → S c) {a : Nat} (h : Led t bs roots a) : S a := by
  induction h with
  | root h hb => exact h0 _ h hb
  | step _ hb hn hc ih => exact h1 _ _ _ ih hb hn hc
/-- The work list's invariant: 'seen' are led to; what the work list names is led to; what the roots or a seen block name is seen or stands in the list. -/
structure Wk (t : Int) (bs : List BK) (roots : List (Int × Int)) (seen : Nat → Prop) (work : List (Int × Int)) : Prop where
  sound : ∀ a, seen a → Led t bs roots a
  todo : ∀ a, Nam t work a → (blkAt bs a).isSome → Led t bs roots a
  rts : ∀ a, Nam t roots a → (blkAt bs a).isSome → seen a ∨ Nam t work a
  clo : ∀ a b c, seen a → blkAt bs a = some b → Nam t b.cells c → (blkAt bs c).isSome → seen c ∨ Nam t work c
theorem Wk.start {t : Int} {bs : List BK} {roots : List (Int × Int)} : Wk t bs roots (fun _ => False) roots :=
  ⟨fun _ h => h.elim, fun _ h hb => .root h hb, fun _ h _ => .inr h, fun _ _ _ h => h.elim⟩
theorem nam_end {t : Int} {l : List (Int × Int)} {x : Int × Int} {a : Nat} : Nam t (l ++ [x]) a ↔ Nam t l a ∨ x = (t, (a : Int)) := by
  unfold Nam
  rw [List.mem_append, List.mem_singleton]
  exact ⟨fun h => h.imp id Eq.symm, fun h => h.imp id Eq.symm⟩
/-- The last cell names nothing new: it goes. -/
theorem Wk.skip {t : Int} {bs : List BK} {roots : List (Int × Int)} {seen : Nat → Prop} {l : List (Int × Int)} {x : Int × Int} (h : Wk t bs roots seen (l ++ [x])) (hx : ∀ a : Nat, x = (t, (a : Int)) → (blkAt bs a).isSome → seen a) : Wk t bs roots seen l := by
  refine ⟨h.sound, fun a ha hb => h.todo a (nam_end.2 (.inl ha)) hb, fun a ha hb => ?_, fun a b c ha hb hc hs => ?_⟩
  · rcases h.rts a ha hb with h1 | h1
    · exact .inl h1
    · rcases nam_end.1 h1 with h2 | h2
      · exact .inr h2
      · exact .inl (hx a h2 hb)
  · rcases h.clo a b c ha hb hc hs with h1 | h1
    · exact .inl h1
    · rcases nam_end.1 h1 with h2 | h2
      · exact .inr h2
      · exact .inl (hx c h2 hs)
/-- The last cell names a block: it is seen, and its cells stand in the list. -/
theorem Wk.take {t : Int} {bs : List BK} {roots : List (Int × Int)} {seen : Nat → Prop} {l : List (Int × Int)} {a : Nat} {b : BK} (h : Wk t bs roots seen (l ++ [(t, (a : Int))])) (hb : blkAt bs a = some b) : Wk t bs roots (fun c => c = a ∨ seen c) (l ++ b.cells) := by
  have hL : Led t bs roots a := h.todo a (nam_end.2 (.inr rfl)) (by rw [hb]; rfl)
  have hk : ∀ c, Nam t (l ++ b.cells) c ↔ Nam t l c ∨ Nam t b.cells c := fun c => List.mem_append
  have hm : ∀ c, seen c ∨ Nam t (l ++ [(t, (a : Int))]) c → (c = a ∨ seen c) ∨ Nam t (l ++ b.cells) c := by
    intro c hc
    rcases hc with h1 | h1
    · exact .inl (.inr h1)
    · rcases nam_end.1 h1 with h2 | h2
      · exact .inr ((hk c).2 (.inl h2))
      · have e : (a : Int) = (c : Int) := congrArg Prod.snd h2
        exact .inl (.inl (by omega))
  refine ⟨?_, ?_, fun c hc hs => hm c (h.rts c hc hs), ?_⟩
  · intro c hc
    rcases hc with rfl | hc
    · exact hL
    · exact h.sound c hc
  · intro c hc hs
    rcases (hk c).1 hc with h1 | h1
    · exact h.todo c (nam_end.2 (.inl h1)) hs
    · exact .step hL hb h1 hs
  · intro c d e hc hd he hs
    rcases hc with rfl | hc
    · rw [hb] at hd
      injection hd with hd
      subst hd
      exact .inr ((hk e).2 (.inr he))
    · exact hm e (h.clo c d e hc hd he hs)
/-- The list is empty: seen are just those that the roots lead to. -/
theorem Wk.stop {t : Int} {bs : List BK} {roots : List (Int × Int)} {seen : Nat → Prop} (h : Wk t bs roots seen []) (a : Nat) : seen a ↔ Led t bs roots a := by
  have hn : ∀ c, ¬ Nam t [] c := fun c hc => by cases hc
  refine ⟨h.sound a, led_in (S := seen) (fun c hc hs => (h.rts c hc hs).resolve_right (hn c)) (fun c b e hc hb he hs => (h.clo c b e hc hb he hs).resolve_right (hn e))⟩
end Go.Proofs.Ythogfcdgbodccaa
