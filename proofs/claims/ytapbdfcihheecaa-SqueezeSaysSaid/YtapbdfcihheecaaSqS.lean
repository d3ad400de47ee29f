/- What squeeze answers, in plain Lean; what a sound code's functions have. Conditions: none. -/
import Derived.Test.YtapbdfcihheecaaSqQ
import Derived.Test.YtapbdfcihheecaaIpA
set_option maxRecDepth 20000
namespace Go.Proofs.Ytapbdfcihheecaa
open Go.ChangeShapes Go.WideShapes Go.ChangeAt Go.RowKit
theorem insV_ok {X : CX} {op a b c d e : Int} (h : insV X op a b c d e = 0) : ∀ j, j < 5 → okF X (formL op d) (numsF a b c d e) j = true := by
  unfold insV at h
  split at h
  · cases h
  · split at h
    · rename_i h1
      rw [List.all_eq_true] at h1
      exact fun j hj => h1 j (List.mem_range.2 hj)
    · cases h
theorem place_ok {X : CX} {F : List UInt8} {l : Nat → Int} {j : Nat} (h : okF X F l j = true) (hF : F.getD j 0 = 116) : 0 ≤ l j ∧ l j < (X.ni : Int) := by
  unfold okF at h
  rw [hF] at h
  have h1 : fieldB X 116 (l j) (l (j + 1)) = true := by simpa using h
  have h2 : fieldB X 116 (l j) (l (j + 1)) = withinB (l j) 0 ((X.ni : Int) - 1) := by simp [fieldB]
  rw [h2] at h1
  obtain ⟨p, q⟩ := within_ge h1
  omega
theorem form_pl {op d : Int} {j : Nat} (h : op ≠ 24) (hf : (fieldsL op).getD j 0 = 116) : (formL op d).getD j 0 = 116 := by
  unfold formL
  rw [if_neg h]
  exact hf
theorem ins_pl {K : KK} {f : FF} {x : II} (h : insE K f x = 0) {t : Int} (ht : tgV x = some t) : 0 ≤ t ∧ t < (f.ins.length : Int) := by
  have ok := insV_ok h
  obtain ⟨o, a, b, c, d, e⟩ := x
  rcases tg_cases ht with ⟨ho, hb⟩ | ⟨_, ho, ha⟩
  · simp only at ho hb ok
    subst hb
    have : (formL o d).getD 1 0 = 116 := by
      rcases ho with rfl | rfl <;> exact form_pl (by decide) (by decide +kernel)
    exact place_ok (X := cxOf K f) (j := 1) (ok 1 (by decide)) this
  · simp only at ho ha ok
    subst ha
    have : (formL o d).getD 0 0 = 116 := by
      rcases ho with rfl | rfl | rfl | rfl <;> exact form_pl (by decide) (by decide +kernel)
    exact place_ok (X := cxOf K f) (j := 0) (ok 0 (by decide)) this
theorem Snd.gd {K : KK} (h : Snd K) {k : Nat} {f : FF} (hf : K.funcs[k]? = some f) : Gd f.ins ∧ f.ins.length ≤ 20000 := by
  obtain ⟨_, _, _, _, h0, h1, _⟩ := head_ok (h.hd k f hf)
  refine ⟨⟨h0, fun x hx t ht => ?_, fun x hx => ?_⟩, h1⟩
  · obtain ⟨i, hi, he⟩ := List.mem_iff_getElem.1 hx
    exact ins_pl (h.fn k f hf i x (by rw [List.getElem?_eq_getElem hi, he])) ht
  · have := h.ls k f hf
    unfold lastOk at this
    rw [hx] at this
    simpa [stopI, or_assoc] using this
/-! ### All rounds -/
inductive Sqz : List II → List II → Prop where
  | done {l : List II} : onceV l = l → Sqz l l
  | step {l m : List II} : onceV l ≠ l → Sqz (onceV l) m → Sqz l m
theorem Sqz.uniq {l m m' : List II} (h : Sqz l m) (h' : Sqz l m') : m = m' := by
  induction h with
  | done he =>
    cases h' with
    | done _ => rfl
    | step hne _ => exact absurd he hne
  | step hne _ ih =>
    cases h' with
    | done he => exact absurd he hne
    | step _ h2 => exact ih h2
theorem Sqz.len {l m : List II} (h : Sqz l m) : m.length ≤ l.length := by
  induction h with
  | done _ => exact Nat.le_refl _
  | step _ _ ih => exact Nat.le_trans ih (once_len _)
def SqzF (f g : FF) : Prop := g.name = f.name ∧ g.params = f.params ∧ g.slots = f.slots ∧ g.caps = f.caps ∧ Sqz f.ins g.ins
theorem SqzF.uniq {f g g' : FF} (h : SqzF f g) (h' : SqzF f g') : g = g' := by
  obtain ⟨a0, a1, a2, a3, a4⟩ := h
  obtain ⟨b0, b1, b2, b3, b4⟩ := h'
  have := a4.uniq b4
  cases g
  cases g'
  simp only at *
  simp_all
/-- The first functions, squeezed. -/
def SqzL (l L : List FF) : Prop := L.length ≤ l.length ∧ ∀ (j : Nat) (f g : FF), l[j]? = some f → L[j]? = some g → SqzF f g
theorem SqzL.nil (l : List FF) : SqzL l [] := ⟨Nat.zero_le _, fun j f g _ h => by simp at h⟩
theorem SqzL.snoc {l L : List FF} {f g : FF} (h : SqzL l L) (hf : l[L.length]? = some f) (hg : SqzF f g) : SqzL l (L ++ [g]) := by
  obtain ⟨hlt, _⟩ := List.getElem?_eq_some_iff.1 hf
  refine ⟨by simp; omega, fun j f' g' h1 h2 => ?_⟩
  rcases Nat.lt_trichotomy j L.length with hj | hj | hj
  · rw [List.getElem?_append_left hj] at h2
    exact h.2 j f' g' h1 h2
  · subst hj
    rw [hf] at h1
    injection h1 with h1
    rw [List.getElem?_append_right (Nat.le_refl _)] at h2
    simp at h2
    subst h1 h2
    exact hg
  · rw [List.getElem?_append_right (by omega)] at h2
    rw [List.getElem?_eq_none (by simp; omega)] at h2
    cases h2
def SqzK (K J : KK) : Prop := J.texts = K.texts ∧ J.funcs.length = K.funcs.length ∧ SqzL K.funcs J.funcs
theorem SqzK.uniq {K J J' : KK} (h : SqzK K J) (h' : SqzK K J') : J = J' := by
  obtain ⟨a0, a1, a2⟩ := h
  obtain ⟨b0, b1, b2⟩ := h'
  have : J.funcs = J'.funcs := by
    apply List.ext_getElem?
    intro j
    by_cases hj : j < K.funcs.length
    · obtain ⟨f, hf⟩ : ∃ f, K.funcs[j]? = some f := ⟨_, List.getElem?_eq_getElem hj⟩
      obtain ⟨g, hg⟩ : ∃ f, J.funcs[j]? = some f := ⟨_, List.getElem?_eq_getElem (by omega)⟩
      obtain ⟨g', hg'⟩ : ∃ f, J'.funcs[j]? = some f := ⟨_, List.getElem?_eq_getElem (by omega)⟩
      rw [hg, hg', (a2.2 j f g hf hg).uniq (b2.2 j f g' hf hg')]
    · rw [List.getElem?_eq_none (by omega), List.getElem?_eq_none (by omega)]
  cases J
  cases J'
  simp only at *
  rw [this, a0, b0]
end Go.Proofs.Ytapbdfcihheecaa
