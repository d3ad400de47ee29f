/- A deferred call has started: the state that is told, in memory. Conditions: none. -/
import Derived.Test.YtapofohbngkekaaPnJ
set_option maxRecDepth 100000
namespace Go.Proofs.Ytapofohbngkekaa
open Go.ChangeShapes Go.WideShapes Go.ChangeAt Go.RowKit
theorem set_fs {α : Type} (fs : List α) (f v g : α) : (fs ++ [f] ++ [g]).set fs.length v = fs ++ [v] ++ [g] := by
  rw [List.append_assoc, List.set_append_right _ _ (Nat.le_refl _), Nat.sub_self, List.append_assoc]
  rfl
theorem STm.start {w w' : World} {M : Nat → Prop} {A D : Option Addr} {fv pv : Value} {s : ST} {fs : List FR} {f : FR} {xs : List Int} {x mk ser : Int} {dso es : List Value} {base F c2 dc k : Nat} (h : STm w M fv pv s) (hM : ∀ b, M b → b < w.heap.size) (hb : Below w.heap.size w w') (hf : s.fr = fs ++ [f]) (hx : f.ds = xs ++ [x]) (hk : xs.length = k)
    (hfm : FrM w M A s.fr dso) (hdso : dso = es ++ [.slice D (k + 1) dc]) (hbase : w.heap.size ≤ base)
    (hown : w'.ownsRow base 93 5 (.slice (some ⟨F, 0, none⟩) (s.fr.length + 1) c2) (s.fr.length + 1) ((frL (s.fr ++ [⟨s.next, mk, ser, 0, []⟩]) (dso ++ [.slice none 0 0])).set (fs.length * 5 + 4) (.slice D k dc))) :
    STm w' (fun b => M b ∨ (w.heap.size ≤ b ∧ b < w'.heap.size)) (.slice (some ⟨F, 0, none⟩) (s.fr.length + 1) c2) pv (pushS (stFr s (fs ++ [dsF f xs])) mk ser) := by
  subst hk
  have hel : es.length = fs.length := by have := hfm.len; rw [hdso, hf] at this; simpa using this
  have e : (frL (s.fr ++ [⟨s.next, mk, ser, 0, []⟩]) (dso ++ [.slice none 0 0])).set (fs.length * 5 + 4) (.slice D xs.length dc) = frL (fs ++ [dsF f xs] ++ [⟨s.next, mk, ser, 0, []⟩]) (es ++ [.slice D xs.length dc] ++ [.slice none 0 0]) := by
    rw [hf, hdso, frL_set4 (f := f) (x := xs) (by simp) (by simp [hel]), set_fs]
    rw [← hel, set_fs]
  rw [e] at hown
  obtain ⟨h1, h2, _⟩ := own_cap hown
  have hkp : ∀ p : Addr, M p.block → w'.cell? p = w.cell? p := fun p hp => hb.cell (hM _ hp)
  refine ⟨⟨some ⟨F, 0, none⟩, c2, es ++ [.slice D xs.length dc] ++ [.slice none 0 0], ?_, ?_, h2, ?_, by simp [pushS, stFr, hel], fun i g d hg hd => ?_⟩, ((h.keep hkp).more (M' := fun b => M b ∨ (w.heap.size ≤ b ∧ b < w'.heap.size)) (fun b hb => .inl hb)).pn⟩
  · simp [pushS, stFr, hf]
  · have e2 : (pushS (stFr s (fs ++ [dsF f xs])) mk ser).fr.length = s.fr.length + 1 := by simp [pushS, stFr, hf]
    rw [e2]
    exact h1
  · have := (RdM.of_own hown).more (M' := fun b => M b ∨ (w.heap.size ≤ b ∧ b < w'.heap.size)) fun b hb => .inr ⟨Nat.le_trans hbase hb.1, hb.2⟩
    have e2 : (pushS (stFr s (fs ++ [dsF f xs])) mk ser).fr.length = s.fr.length + 1 := by simp [pushS, stFr, hf]
    rw [e2]
    exact this
  · have hg : (fs ++ [dsF f xs] ++ [(⟨s.next, mk, ser, 0, []⟩ : FR)])[i]? = some g := hg
    rcases Nat.lt_trichotomy i fs.length with hi | hi | hi
    · rw [List.append_assoc, List.getElem?_append_left hi] at hg
      rw [List.append_assoc, List.getElem?_append_left (by omega)] at hd
      obtain ⟨D', c, rfl, q1, q2, q3⟩ := hfm.dr i g d (by rw [hf, List.getElem?_append_left hi]; exact hg) (by rw [hdso, List.getElem?_append_left (by omega)]; exact hd)
      exact ⟨D', c, rfl, q1, q2, (q3.keep hkp).more fun b hb => .inl hb⟩
    · subst hi
      simp at hg
      rw [← hel] at hd
      simp at hd
      subst hg hd
      obtain ⟨D', c, e3, q1, q2, q3⟩ := hfm.dr fs.length f (.slice D (xs.length + 1) dc) (by rw [hf]; simp) (by rw [hdso, ← hel]; simp)
      injection e3 with e3 _ e4
      subst e3 e4
      rw [hx] at q1
      simp at q1
      refine ⟨D, dc, rfl, by show xs.length ≤ dc; omega, q2, by show (xs.map _).length = _; simp [dsF], fun h0 => ?_⟩
      obtain ⟨b, off, rfl, hbM, hc⟩ := q3.2 (by rw [hx]; simp)
      refine ⟨b, off, rfl, .inl hbM, fun j u hu => ?_⟩
      have hu : (xs.map (Value.int .i64))[j]? = some u := hu
      rw [hkp _ hbM]
      exact hc j u (by
        rw [hx, List.map_append, List.getElem?_append_left (List.getElem?_eq_some_iff.1 hu).1]
        exact hu)
    · have hi2 := (List.getElem?_eq_some_iff.1 hg).1
      obtain rfl : i = fs.length + 1 := by simp at hi2; omega
      simp at hg
      rw [← hel] at hd
      simp at hd
      subst hg hd
      exact ⟨none, 0, rfl, Nat.le_refl _, by unfold maxLen; omega, RdM.nil⟩
end Go.Proofs.Ytapofohbngkekaa
