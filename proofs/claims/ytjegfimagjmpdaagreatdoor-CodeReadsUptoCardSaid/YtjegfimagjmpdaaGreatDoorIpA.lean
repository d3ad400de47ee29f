/- What a sound code's parts are, and the bytes of a code, in plain Lean. Conditions: none. -/
import Derived.Test.YtjegfimagjmpdaaGreatDoorCdS
import Derived.Test.YtjegfimagjmpdaaGreatDoorImage2
set_option maxRecDepth 100000
namespace Go.Proofs.YtjegfimagjmpdaaGreatDoor
open Go.ChangeShapes Go.WideShapes Go.ChangeAt Go.RowKit
theorem firstBad_no {α : Type} {n : Nat} {f : Nat → Option α} (h : firstBad n f = none) : ∀ j < n, f j = none := by
  unfold firstBad at h
  rw [List.findSome?_eq_none_iff] at h
  exact fun j hj => h j (List.mem_range.2 hj)
/-- Of a sound code: how much there is of each. -/
structure Snd (K : KK) : Prop where
  nf : K.funcs.length ≤ 400
  nt : K.texts.length ≤ 2000
  tx : ∀ s ∈ K.texts, quoE s = 0
  hd : ∀ (k : Nat) (f : FF), K.funcs[k]? = some f → headV k f = 0
  fn : ∀ (k : Nat) (f : FF), K.funcs[k]? = some f → ∀ (i : Nat) (x : II), f.ins[i]? = some x → insE K f x = 0
  ls : ∀ (k : Nat) (f : FF), K.funcs[k]? = some f → lastOk f = true
  n0 : 0 < K.funcs.length
theorem Snd.of {K : KK} (h : (soundV K).1 = 0) : Snd K := by
  unfold soundV at h
  split at h
  · cases h
  · rename_i h0
    split at h
    · cases h
    · rename_i h1
      have ht : ∀ j < K.texts.length, textBad K j = none := by
        intro j hj
        cases hb : firstBad K.texts.length (textBad K) with
        | none => exact firstBad_no hb j hj
        | some r =>
          rw [hb] at h
          simp only at h
          exfalso
          unfold firstBad at hb
          obtain ⟨a, ha, hb⟩ := List.exists_of_findSome?_eq_some hb
          unfold textBad at hb
          split at hb
          · split at hb
            · cases hb
            · injection hb with hb
              rw [← hb] at h
              cases h
          · cases hb
      rw [firstBad_none ht] at h
      simp only at h
      have hf : ∀ j < K.funcs.length, fnsBad K j = none := by
        intro j hj
        cases hb : firstBad K.funcs.length (fnsBad K) with
        | none => exact firstBad_no hb j hj
        | some r =>
          rw [hb] at h
          simp only at h
          exfalso
          unfold firstBad at hb
          obtain ⟨a, ha, hb⟩ := List.exists_of_findSome?_eq_some hb
          unfold fnsBad at hb
          split at hb
          · rename_i f hf
            unfold fnBad at hb
            split at hb
            · split at hb
              · rename_i r' hr'
                unfold firstBad at hr'
                obtain ⟨i, hi, hr'⟩ := List.exists_of_findSome?_eq_some hr'
                unfold insBad at hr'
                split at hr'
                · split at hr'
                  · cases hr'
                  · rename_i he
                    injection hr' with hr'
                    injection hb with hb
                    rw [← hb, ← hr'] at h
                    exact he h
                · cases hr'
              · split at hb
                · cases hb
                · injection hb with hb
                  rw [← hb] at h
                  cases h
            · rename_i he
              injection hb with hb
              rw [← hb] at h
              exact he h
          · cases hb
      have hF : ∀ (k : Nat) (f : FF), K.funcs[k]? = some f → fnBad K k f = none := fun k f hk => by
        obtain ⟨hlt, _⟩ := List.getElem?_eq_some_iff.1 hk
        have := hf k hlt
        unfold fnsBad at this
        rw [hk] at this
        exact this
      refine ⟨by omega, by omega, fun s hs => ?_, fun k f hk => ?_, fun k f hk i x hx => ?_, fun k f hk => ?_, by omega⟩
      · obtain ⟨i, hi, he⟩ := List.mem_iff_getElem.1 hs
        have := ht i hi
        rw [textBad_of (s := s) (by rw [List.getElem?_eq_getElem hi, he])] at this
        split at this
        · assumption
        · cases this
      all_goals
        have := hF k f hk
        unfold fnBad at this
        split at this
        · rename_i hh
          first
            | exact hh
            | (split at this
               · cases this
               · rename_i hb
                 first
                   | (split at this
                      · assumption
                      · cases this)
                   | (obtain ⟨hlt, _⟩ := List.getElem?_eq_some_iff.1 hx
                      have h2 := firstBad_no hb i hlt
                      rw [insBad_of hx] at h2
                      split at h2
                      · assumption
                      · cases h2))
        · cases this
theorem quoE_len {s : ByteArray} (h : quoE s = 0) : s.size ≤ 200 := by
  unfold quoE at h
  split at h
  · cases h
  · omega
theorem nm_len {L : List UInt8} (h : nmB L = true) : L.length ≤ 8000 := by
  unfold nmB at h
  rw [Bool.or_eq_true] at h
  rcases h with h | h
  · have := of_decide_eq_true h
    subst this
    simp
  · unfold oneB at h
    exact (of_decide_eq_true h).2.1
/-! ### The bytes of a code -/
def strL (s : ByteArray) : List Int := s.data.toList.map fun c => (c.toNat : Int)
def numL (l : List Int) : List Int := l.flatMap fun i => nbz (zig i)
def insL (i : II) : List Int := numL [i.o, i.a, i.b, i.c, i.d, i.e]
def txL (s : ByteArray) : List Int := numL [(s.size : Int)] ++ strL s
def fnL (f : FF) : List Int := txL f.name ++ numL [f.params, f.slots, f.caps, (f.ins.length : Int)] ++ f.ins.flatMap insL
def headL (K : KK) : List Int := [114, 111, 97, 100, 49] ++ numL [(K.texts.length : Int)]
def textsL (K : KK) (k : Nat) : List Int := headL K ++ (K.texts.take k).flatMap txL
def midL (K : KK) : List Int := textsL K K.texts.length ++ numL [(K.funcs.length : Int)]
def funcsL (K : KK) (k : Nat) : List Int := midL K ++ (K.funcs.take k).flatMap fnL
def packB (K : KK) : List Int := funcsL K K.funcs.length
theorem numL_app (a b : List Int) : numL (a ++ b) = numL a ++ numL b := by simp [numL]
theorem numL_cons (a : Int) (b : List Int) : numL (a :: b) = nbz (zig a) ++ numL b := rfl
theorem numL_one (a : Int) : numL [a] = nbz (zig a) := by simp [numL]
theorem numL_len (l : List Int) (h : ∀ z ∈ l, -9223372036854775808 ≤ z ∧ z ≤ 9223372036854775807) : (numL l).length ≤ 10 * l.length := by
  induction l with
  | nil => simp [numL]
  | cons a r ih =>
    have h1 := nb_len10 (zig_lt (h a (by simp)))
    have h2 := ih fun z hz => h z (by simp [hz])
    rw [numL_cons, List.length_append, List.length_cons]
    omega
theorem strL_len (s : ByteArray) : (strL s).length = s.size := by simp [strL]
theorem strL_cells (s : ByteArray) : (strL s).map (Value.int .u8) = Lib.strCells s := by simp [strL, Lib.strCells]
theorem flat_len {α : Type} (g : α → List Int) (m : Nat) (l : List α) (h : ∀ x ∈ l, (g x).length ≤ m) : (l.flatMap g).length ≤ m * l.length := by
  induction l with
  | nil => simp
  | cons a r ih =>
    have h1 := h a (by simp)
    have h2 := ih fun z hz => h z (by simp [hz])
    rw [List.flatMap_cons, List.length_append, List.length_cons, Nat.mul_add]
    omega
theorem flat_snoc {α : Type} (g : α → List Int) (l : List α) (k : Nat) {x : α} (h : l[k]? = some x) : (l.take (k + 1)).flatMap g = (l.take k).flatMap g ++ g x := by
  rw [List.take_add_one, h, List.flatMap_append]
  simp
theorem nb_wf {u : Nat} : ∀ z ∈ nbz u, (Lit.int .u8 z).wf = true := by
  refine (nbz.induct (motive := fun u => ∀ z ∈ nbz u, (Lit.int .u8 z).wf = true)) (fun u h => ?_) (fun u h ih => ?_) u
  · rw [nb_lt h]
    intro z hz
    rw [List.mem_singleton] at hz
    subst hz
    simp [Lit.wf, IntKind.min, IntKind.max, IntKind.bits, IntKind.signed]
    omega
  · rw [nb_ge h]
    intro z hz
    rw [List.mem_cons] at hz
    rcases hz with rfl | hz
    · simp [Lit.wf, IntKind.min, IntKind.max, IntKind.bits, IntKind.signed]
      omega
    · exact ih z hz
theorem numL_wf {l : List Int} : ∀ z ∈ numL l, (Lit.int .u8 z).wf = true := by
  intro z hz
  unfold numL at hz
  rw [List.mem_flatMap] at hz
  obtain ⟨a, _, h⟩ := hz
  exact nb_wf z h
theorem strL_wf {s : ByteArray} : ∀ z ∈ strL s, (Lit.int .u8 z).wf = true := by
  intro z hz
  unfold strL at hz
  obtain ⟨c, _, rfl⟩ := List.mem_map.1 hz
  have := c.toNat_lt
  simp [Lit.wf, IntKind.min, IntKind.max, IntKind.bits, IntKind.signed]
  omega
theorem app_wf {a b : List Int} (ha : ∀ z ∈ a, (Lit.int .u8 z).wf = true) (hb : ∀ z ∈ b, (Lit.int .u8 z).wf = true) : ∀ z ∈ a ++ b, (Lit.int .u8 z).wf = true := fun z hz => by
  rcases List.mem_append.1 hz with h | h
  · exact ha z h
  · exact hb z h
theorem flat_wf {α : Type} (g : α → List Int) (l : List α) (h : ∀ x, ∀ z ∈ g x, (Lit.int .u8 z).wf = true) : ∀ z ∈ l.flatMap g, (Lit.int .u8 z).wf = true := fun z hz => by
  obtain ⟨a, _, ha⟩ := List.mem_flatMap.1 hz
  exact h a z ha
theorem txL_wf (s : ByteArray) : ∀ z ∈ txL s, (Lit.int .u8 z).wf = true := app_wf numL_wf strL_wf
theorem fnL_wf (f : FF) : ∀ z ∈ fnL f, (Lit.int .u8 z).wf = true := app_wf (app_wf (txL_wf _) numL_wf) (flat_wf _ _ fun _ => numL_wf)
theorem packB_wf (K : KK) : ∀ z ∈ packB K, (Lit.int .u8 z).wf = true :=
  app_wf (app_wf (app_wf (app_wf (by decide) numL_wf) (flat_wf _ _ txL_wf)) numL_wf) (flat_wf _ _ fnL_wf)
/-- How long the bytes are at most. -/
structure Lens (K : KK) : Prop where
  tx : ∀ s ∈ K.texts, (txL s).length ≤ 210
  fh : ∀ f ∈ K.funcs, (txL f.name).length ≤ 8010
  fn : ∀ f ∈ K.funcs, (fnL f).length ≤ 1208050
  ins : ∀ f ∈ K.funcs, ∀ k, ((f.ins.take k).flatMap insL).length ≤ 1200000
  hl : (headL K).length ≤ 15
  ml : (midL K).length ≤ 420025
theorem Lens.of {K : KK} (h : Snd K) (hb : ∀ f ∈ K.funcs, (-9223372036854775808 ≤ f.params ∧ f.params ≤ 9223372036854775807) ∧ (-9223372036854775808 ≤ f.slots ∧ f.slots ≤ 9223372036854775807) ∧ (-9223372036854775808 ≤ f.caps ∧ f.caps ≤ 9223372036854775807))
    (hi : ∀ f ∈ K.funcs, ∀ x ∈ f.ins, (-9223372036854775808 ≤ x.o ∧ x.o ≤ 9223372036854775807) ∧ (-9223372036854775808 ≤ x.a ∧ x.a ≤ 9223372036854775807) ∧ (-9223372036854775808 ≤ x.b ∧ x.b ≤ 9223372036854775807) ∧ (-9223372036854775808 ≤ x.c ∧ x.c ≤ 9223372036854775807) ∧ (-9223372036854775808 ≤ x.d ∧ x.d ≤ 9223372036854775807) ∧ (-9223372036854775808 ≤ x.e ∧ x.e ≤ 9223372036854775807)) : Lens K := by
  have ht : ∀ (s : ByteArray) (n : Nat), s.size ≤ n → n < 9223372036854775808 → (txL s).length ≤ n + 10 := fun s n hn hm => by
    have h1 := numL_len [(s.size : Int)] (by intro z hz; simp at hz; omega)
    unfold txL
    rw [List.length_append, strL_len]
    simp at h1
    omega
  have htx : ∀ s ∈ K.texts, (txL s).length ≤ 210 := fun s hs => ht s 200 (quoE_len (h.tx s hs)) (by decide)
  have hH : ∀ f ∈ K.funcs, f.name.size ≤ 8000 ∧ f.ins.length ≤ 20000 := fun f hf => by
    obtain ⟨k, hk, he⟩ := List.mem_iff_getElem.1 hf
    have := head_ok (h.hd k f (by rw [List.getElem?_eq_getElem hk, he]))
    exact ⟨nm_len this.1, this.2.2.2.2.2.1⟩
  have hfh : ∀ f ∈ K.funcs, (txL f.name).length ≤ 8010 := fun f hf => ht _ 8000 (hH f hf).1 (by decide)
  have hins : ∀ f ∈ K.funcs, ∀ k, ((f.ins.take k).flatMap insL).length ≤ 1200000 := fun f hf k => by
    have h1 := flat_len insL 60 (f.ins.take k) (fun x hx => by
      obtain ⟨b0, b1, b2, b3, b4, b5⟩ := hi f hf x (List.mem_of_mem_take hx)
      exact numL_len _ (by intro z hz; simp at hz; rcases hz with rfl | rfl | rfl | rfl | rfl | rfl <;> assumption))
    have h2 := (hH f hf).2
    rw [List.length_take] at h1
    omega
  have hhl : (headL K).length ≤ 15 := by
    have h1 := numL_len [(K.texts.length : Int)] (by intro z hz; have := h.nt; simp at hz; omega)
    unfold headL
    rw [List.length_append]
    simp at h1 ⊢
    omega
  refine ⟨htx, hfh, fun f hf => ?_, hins, hhl, ?_⟩
  · obtain ⟨b0, b1, b2⟩ := hb f hf
    have h1 := numL_len [f.params, f.slots, f.caps, (f.ins.length : Int)] (by intro z hz; have := (hH f hf).2; simp at hz; omega)
    have h2 := hins f hf f.ins.length
    rw [List.take_length] at h2
    have h3 := hfh f hf
    unfold fnL
    rw [List.length_append, List.length_append]
    simp at h1
    omega
  · have h1 := numL_len [(K.funcs.length : Int)] (by intro z hz; have := h.nf; simp at hz; omega)
    have h2 := flat_len txL 210 (K.texts.take K.texts.length) (fun s hs => htx s (List.mem_of_mem_take hs))
    have h3 := h.nt
    rw [List.length_take] at h2
    unfold midL textsL
    rw [List.length_append, List.length_append]
    simp at h1
    omega
theorem texts_len {K : KK} (h : Lens K) (hn : K.texts.length ≤ 2000) (k : Nat) : (textsL K k).length ≤ 420015 := by
  have h2 := flat_len txL 210 (K.texts.take k) (fun s hs => h.tx s (List.mem_of_mem_take hs))
  have h1 := h.hl
  rw [List.length_take] at h2
  unfold textsL
  rw [List.length_append]
  omega
theorem funcs_len {K : KK} (h : Lens K) (hn : K.funcs.length ≤ 400) (k : Nat) : (funcsL K k).length ≤ 483640025 := by
  have h2 := flat_len fnL 1208050 (K.funcs.take k) (fun s hs => h.fn s (List.mem_of_mem_take hs))
  have h1 := h.ml
  rw [List.length_take] at h2
  unfold funcsL
  rw [List.length_append]
  omega
theorem texts_step {K : KK} {k : Nat} {s : ByteArray} (h : K.texts[k]? = some s) : textsL K (k + 1) = textsL K k ++ txL s := by
  unfold textsL
  rw [flat_snoc _ _ _ h, List.append_assoc]
theorem funcs_step {K : KK} {k : Nat} {f : FF} (h : K.funcs[k]? = some f) : funcsL K (k + 1) = funcsL K k ++ fnL f := by
  unfold funcsL
  rw [flat_snoc _ _ _ h, List.append_assoc]
theorem texts_zero (K : KK) : textsL K 0 = headL K := by unfold textsL; simp
theorem funcs_zero (K : KK) : funcsL K 0 = midL K := by unfold funcsL; simp
end Go.Proofs.YtjegfimagjmpdaaGreatDoor
