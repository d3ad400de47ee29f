/- A clone of cells; append with the wide bound; a map's keys as a test. Conditions: bounds. -/
import Derived.Test.YthogfcdgbodccaaHpJ
import Derived.Test.YthogfcdgbodccaaMapI
import Derived.Deep.DeepAppendWide
import Derived.Lib.LazyBuf
set_option maxRecDepth 100000
namespace Go.Proofs.Ythogfcdgbodccaa
open Go.ChangeShapes Go.WideShapes Go.ChangeAt Go.RowKit
theorem ceL_one (l : List (Int × Int)) : ∀ u ∈ ceL l, u.oneCell' = true := by
  intro u hu
  obtain ⟨c, hc, hu⟩ := List.mem_flatten.1 hu
  obtain ⟨p, _, rfl⟩ := List.mem_map.1 hc
  simp at hu
  rcases hu with rfl | rfl <;> rfl
/-- append onto a row of the call's own under the wide bound, in a region. -/
theorem step_append_wide {P : Program} {ops : Array Oper} {o : Oper} {a : Act} {w : World} {K : Act → World → Prop} {Q : Exit → Act → World → Prop} {EE : Prop} (hgd : o.guard = none) (s x : Operand) (t : TypeId)
    (ho : o.op = .call { callee := .builtin .append, args := #[s, x], argTypes := #[t, t] })
    (base : Nat) (e : TypeId) (i : TypeInfo) (z : Value) (size bytes : Nat) (ht : P.underlying t = some (.slice e)) (hi : P.info? e = some i) (hz : i.zero = some z)
    (hsize : i.size = size) (hby : i.bytes = bytes) (hzs : z.cells.size = size) (hsz : 0 < size)
    (v : Value) (n : Nat) (xs : List Value) (hs : a.eval s = v) (hown : w.ownsRow base e size v n xs)
    (B : Nat) (A : Option Addr) (m c : Nat) (news : List Value) (hx : a.eval x = .slice A m c) (hA : A ≠ none) (hr : Rd w B size A m news) (h1 : ∀ u ∈ news, u.oneCell' = true)
    (h63 : n + m ≤ maxLen) (hbytes : ((n + m) + (n + m) / 4 + 192) * bytes ≤ 281474976710656) (hbase : base ≤ w.heap.size)
    (h : ∀ A' c' w', w'.ownsRow base e size (.slice A' (n + m) c') (n + m) (xs ++ news) → w.grownBy w' v.ownBlock → K (a.put o.dst (.slice A' (n + m) c')) w') : if Region.wanted o (yielded ops a.tmps) = true then Oper.wp P o a w K Q else EE := by
  have hw : Region.wanted o (yielded ops a.tmps) = true := by simp [Region.wanted, hgd]
  rw [if_pos hw]
  obtain ⟨ad, rfl⟩ : ∃ ad, A = some ad := by
    cases A with
    | none => exact absurd rfl hA
    | some ad => exact ⟨ad, rfl⟩
  have hn : ∀ j u, news[j]? = some u → w.cell? (ad.add j) = some u := by
    intro j u hu
    rcases Nat.eq_zero_or_pos m with h0 | h0
    · have hl := hr.1
      rw [h0, Nat.zero_mul] at hl
      rw [List.eq_nil_of_length_eq_zero hl] at hu
      cases hu
    · obtain ⟨b, off, e, hc⟩ := hr.news h0
      injection e with e
      subst e
      exact hc j u hu
  exact wp_append_own_wide w s x t ho base e i z size bytes ht hi hz hsize hby hzs hsz v n xs hs hown ad m c news hx hr.1 hn h1 h63 hbytes hbase fun v' w' h2 h3 _ => by
    obtain ⟨A', c', rfl⟩ := own_form h2
    exact h A' c' w' h2 h3
theorem clone_any (A : Option Addr) (n c : Nat) (l : List (Int × Int)) (w : World) (h : Rd w w.heap.size 2 A n (ceL l)) (hn : n * 16 ≤ 140737488351232) :
    Calls Try.prog 28 #[.slice A n c] w fun e w' => ∃ A' c', e = .returned (.slice A' n c') ∧ w'.ownsRow w.heap.size 36 2 (.slice A' n c') n (ceL l) ∧ Below w.heap.size w w' := by
  obtain ⟨i0, hi, hz0, hz1, hz2⟩ := info_parts info_cl
  rcases A with _ | ad
  · have h0 : n = 0 := by
      rcases Nat.eq_zero_or_pos n with h0 | h0
      · exact h0
      · obtain ⟨b, off, e, _⟩ := h.2 h0; cases e
    subst h0
    have hl : ceL l = [] := List.eq_nil_of_length_eq_zero (by rw [h.1])
    have HL := Lib.hid hl
    have heq : ∀ W, (binOp .eql 37 (.slice none 0 c) (.slice none 0 0)).run Try.prog W = .ok (.bool true) W := fun W => Lib.run_eql_slice_nil W _ _ _ _ _ _ _ Try.underlying37
    clear h hl hn
    go_enter Try.func28, Try.ntmps28
    go_wp2_with fail
    go_ret
    exact ⟨none, 0, rfl, by rw [HL.out]; exact World.ownsRow_nil _ _ _ _, Below.refl _ _⟩
  · have HR := Lib.hid h
    have HN := Lib.hid hn
    clear h hn
    have heq : ∀ W, (binOp .eql 37 (.slice (some ad) n c) (.slice none 0 0)).run Try.prog W = .ok (.bool false) W := fun W => Lib.run_eql_slice_nil W _ _ _ _ _ _ _ Try.underlying37
    go_enter Try.func28, Try.ntmps28
    have hown0 : (w.alloc (.cells #[] 36)).ownsRow w.heap.size 36 2 (.slice (some ⟨w.heap.size, 0, none⟩) 0 0) 0 [] := ⟨rfl, .inr ⟨w.heap.size, 0, #[], rfl, Nat.le_refl _, heap_alloc_new w _, Nat.le_refl _, by unfold maxLen; omega, rfl, rfl⟩⟩
    go_wp2_with (at_builtin; refine wpList_append_rd _ rfl _ _ 37 rfl w.heap.size 36 i0 _ 2 16 Try.underlying37 hi hz0 hz1 hz2 rfl (by omega) (.slice (some ⟨w.heap.size, 0, none⟩) 0 0) 0 [] rfl hown0 w.heap.size (some ad) n c (ceL l) rfl (HR.out.alloc (Nat.le_refl _) _) (ceL_one l) (by have := HN.out; unfold maxLen; omega) (by have := HN.out; omega) (by simp) ?_; intro A' c' w' hown hgrow _)
    go_ret
    rw [Nat.zero_add, List.nil_append] at hown
    exact ⟨A', c', rfl, hown, (al _).grown hgrow (by simp) fun q hq => by injection hq with hq; show w.heap.size ≤ q; rw [← hq]; exact Nat.le_refl _⟩
/-- Does the map in block m hold a key? -/
def keyIs (k : Int) : Value → Bool
  | .int _ q => q == k
  | _ => false
def mapHas (w : World) (m : Nat) (k : Int) : Bool := match w.heap[m]? with
  | some (.map es _) => (projE es.toList).any fun p => keyIs k p.1
  | _ => false
theorem mapHas_of {w : World} {m : Nat} {l : List (Int × Value)} (h : MapIs w m l) (k : Int) : mapHas w m k = (getM l k).isSome := by
  obtain ⟨es, cl, hb, he⟩ := h
  unfold mapHas
  rw [hb]
  simp only
  rw [he]
  clear hb he
  induction l with
  | nil => rfl
  | cons p l ih =>
    obtain ⟨a, x⟩ := p
    show (keyIs k (.int .i64 a) || (projL l).any _) = _
    rw [ih]
    by_cases hak : a = k
    · simp [keyIs, hak, getM]
    · have : (a == k) = false := by simpa using hak
      simp [keyIs, hak, getM, this]
theorem MapIs.keepM {w w' : World} {m : Nat} {l : List (Int × Value)} (h : MapIs w m l) (hk : w'.heap[m]? = w.heap[m]?) : MapIs w' m l := by
  obtain ⟨es, cl, hb, he⟩ := h
  exact ⟨es, cl, hk.trans hb, he⟩
theorem getM_setM (l : List (Int × Value)) (k q : Int) (v : Value) : getM (setM l k v) q = if k = q then some v else getM l q := by
  induction l with
  | nil => simp [setM, getM]
  | cons p l ih =>
    obtain ⟨a, x⟩ := p
    simp only [setM]
    by_cases hak : a = k
    · subst hak
      simp only [if_true, getM]
      split <;> rfl
    · rw [if_neg hak]
      simp only [getM, ih]
      by_cases haq : a = q
      · subst haq
        rw [if_pos rfl, if_neg (fun e => hak e.symm), if_pos rfl]
      · rw [if_neg haq, if_neg haq]
end Go.Proofs.Ythogfcdgbodccaa
