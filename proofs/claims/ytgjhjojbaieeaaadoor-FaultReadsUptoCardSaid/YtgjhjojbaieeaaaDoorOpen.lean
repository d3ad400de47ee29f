/- What cells are that read as data: numbers, texts, slices of anything, structs field by field. Conditions: none. -/
import Derived.Test.YtgjhjojbaieeaaaDoorBase
import Derived.Deep.Slices
import Derived.Deep.Fields
namespace Go.Proofs.YtgjhjojbaieeaaaDoor
open Go.ChangeShapes Go.WideShapes Go.ChangeAt Go.RowKit Go.Deep

section
variable {H : Type} {enc : TypeId × Value → H} {P : Program} {w : World}

/-- 'These cells, of type t, read as the datum x.1 at the places x.2, all of which lie in the world; and nothing in it passes the form's reach.' -/
def Opens (enc : TypeId × Value → H) (P : Program) (w : World) (t : TypeId) (cs : List Value) (x : DataW H × List MemPlace) : Prop :=
  (∃ fuel, DataW.trod enc P w 0 (fun _ => true) true fuel t cs = some x) ∧ (∀ p ∈ x.2, p.block < w.heap.size) ∧ ∀ n ∈ x.1.weights P t, n ≤ reachBytes

variable {t e : TypeId} {cs : List Value} {x : DataW H × List MemPlace}

def CInt (cs : List Value) : Prop := ∃ a : Int, cs = [.int .i64 a] ∧ -9223372036854775808 ≤ a ∧ a ≤ 9223372036854775807
def CBool (cs : List Value) : Prop := ∃ a : Bool, cs = [.bool a]
def CStr (cs : List Value) : Prop := ∃ s : ByteArray, cs = [.string s] ∧ s.size ≤ 140737488351232
theorem op_cint (U : P.underlying t = some (.int .i64)) (h : Opens enc P w t cs x) : CInt cs := by
  obtain ⟨⟨f, hf⟩, _⟩ := h
  obtain ⟨n, rfl, _, hw⟩ := DataW.trod_int U hf
  exact ⟨n, rfl, bd64 hw⟩
theorem op_cbool (U : P.underlying t = some .bool) (h : Opens enc P w t cs x) : CBool cs := by
  obtain ⟨⟨f, hf⟩, _⟩ := h
  obtain ⟨n, rfl, _⟩ := DataW.trod_bool U hf
  exact ⟨n, rfl⟩
theorem op_cstr (U : P.underlying t = some .string) (h : Opens enc P w t cs x) : CStr cs := by
  obtain ⟨⟨f, hf⟩, _, hz⟩ := h
  obtain ⟨s, rfl, rfl, _⟩ := DataW.trod_string U hf
  refine ⟨s, rfl, ?_⟩
  have := hz s.data.toList.length (by simp [DataW.weights])
  simpa [reachBytes] using this

theorem weights_all_mem {ds : List (DataW H)} {d : DataW H} (hd : d ∈ ds) : ∀ n ∈ d.weights P e, n ∈ DataW.weightsAll P e ds := by
  induction ds with
  | nil => cases hd
  | cons a r ih =>
    intro n hn
    simp only [DataW.weightsAll, List.mem_append]
    rcases List.mem_cons.1 hd with rfl | h
    · exact .inl hn
    · exact .inr (ih h n hn)

/-- A slice whose elements' cells satisfy C. -/
def CSlice (C : List Value → Prop) (size bytes : Nat) (w : World) (cs : List Value) : Prop :=
  ∃ (A : Option Addr) (len cap : Nat) (ess : List (List Value)), cs = [.slice A len cap] ∧ ess.length = len ∧ (∀ c ∈ ess, c.length = size ∧ C c) ∧ Rd w w.heap.size size A len ess.flatten ∧ len ≤ cap ∧ cap * bytes ≤ 140737488351232

theorem flat_get {size : Nat} (ess : List (List Value)) (h : ∀ c ∈ ess, c.length = size) (i k : Nat) (hk : k < size) : ess.flatten[i * size + k]? = (ess[i]?).bind (·[k]?) := by
  induction ess generalizing i with
  | nil => simp
  | cons a r ih =>
    have ha : a.length = size := h a (by simp)
    rw [List.flatten_cons]
    cases i with
    | zero => simp only [Nat.zero_mul, Nat.zero_add, List.getElem?_cons_zero, Option.bind_some]; rw [List.getElem?_append_left (by omega)]
    | succ i =>
      rw [List.getElem?_append_right (by rw [ha, Nat.add_mul]; omega), List.getElem?_cons_succ, ← ih (fun c hc => h c (List.mem_cons_of_mem _ hc)), ha]
      congr 1
      rw [Nat.add_mul]; omega

theorem op_cslice {C : List Value → Prop} {size bytes : Nat} (U : P.underlying t = some (.slice e)) (hC : P.cellsOf e = size) (hY : P.bytesOf e = bytes) (hsz : 0 < size) (h : Opens enc P w t cs x)
    (op : ∀ cs' y, Opens enc P w e cs' y → C cs') : CSlice C size bytes w cs := by
  obtain ⟨⟨fuel, hf⟩, hlt, hz⟩ := h
  rcases open_slice U hf with ⟨rfl, _⟩ | ⟨a, len, cap, m, n, D, Pl, rfl, hb, hl, hm, hmm, rfl, hi⟩
  · exact ⟨none, 0, 0, [], rfl, rfl, by simp, Rd.nil, Nat.le_refl _, by simp⟩
  · simp only [if_true] at hmm
    subst hmm
    rw [hC] at hi hlt
    have hcb : m * bytes ≤ 140737488351232 := by
      have := hz ((((List.range len).map D).length + ((List.range (m - len)).map fun j => D (len + j)).length) * bytes) (by simp [DataW.weights, U, hY])
      simp only [List.length_map, List.length_range, reachBytes] at this
      have e' : len + (m - len) = m := by omega
      rwa [e'] at this
    -- the elements' cells
    have hel : ∀ i, i < len → ∃ cs', (∀ k, k < size → w.cell? (a.add (i * size + k)) = cs'[k]?) ∧ cs'.length = size ∧ C cs' := by
      intro i him
      obtain ⟨cs', hc, ht⟩ := hi i (by omega)
      obtain ⟨_, hcl, hat⟩ := World.cells?_some hc
      refine ⟨cs', fun k hk => by rw [← Go.Deep.add_add]; exact hat k hk, hcl, op cs' (D i, Pl i) ⟨⟨n, ht⟩, fun p hp => hlt p ?_, fun q hq => hz q ?_⟩⟩
      · simp only [List.mem_append, List.mem_flatMap, List.mem_range]
        exact .inr ⟨i, by omega, hp⟩
      · simp only [DataW.weights, U, List.mem_cons, List.mem_append]
        exact .inr (.inl (weights_all_mem (List.mem_map.2 ⟨i, List.mem_range.2 him, rfl⟩) q hq))
    obtain ⟨F, hF⟩ : ∃ F : Nat → List Value, ∀ i, i < len → (∀ k, k < size → w.cell? (a.add (i * size + k)) = (F i)[k]?) ∧ (F i).length = size ∧ C (F i) :=
      ⟨fun i => if h : i < len then (hel i h).choose else [], fun i h => by simp only [h, dif_pos]; exact (hel i h).choose_spec⟩
    refine ⟨some a, len, m, (List.range len).map F, rfl, by simp, fun c hc => ?_, ⟨?_, fun hn => ?_⟩, hl, hcb⟩
    · obtain ⟨i, hi', rfl⟩ := List.mem_map.1 hc
      exact ⟨(hF i (List.mem_range.1 hi')).2.1, (hF i (List.mem_range.1 hi')).2.2⟩
    · have : ∀ l : List Nat, (∀ i ∈ l, i < len) → (l.map F).flatten.length = l.length * size := by
        intro l
        induction l with
        | nil => simp
        | cons b r ih =>
          intro hl'
          have h1 := ih (fun i hi' => hl' i (List.mem_cons_of_mem _ hi'))
          have h2 := (hF b (hl' b (by simp))).2.1
          simp only [List.map_cons, List.flatten_cons, List.length_append, h1, h2, List.length_cons, Nat.add_mul]
          omega
      simpa using this (List.range len) (fun i hi' => List.mem_range.1 hi')
    · have h0 := (hF 0 hn).1 0 hsz
      have hne : (F 0)[0]? = some ((F 0)[0]'(by have := (hF 0 hn).2.1; omega)) := List.getElem?_eq_getElem _
      rw [hne] at h0
      have hsp : a.spot = none := by simpa [Addr.add] using World.cell?_spot h0
      have hblk : a.block < w.heap.size := by simpa [Addr.add] using World.block_lt_of_cell? w _ h0
      obtain ⟨b, off, spot⟩ := a
      subst hsp
      refine ⟨b, off, rfl, hblk, fun j u hu => ?_⟩
      have hj : j = (j / size) * size + j % size := by rw [Nat.mul_comm]; exact (Nat.div_add_mod j size).symm
      have hm' : j % size < size := Nat.mod_lt _ hsz
      rw [hj, flat_get _ (fun c hc => by obtain ⟨i, hi', rfl⟩ := List.mem_map.1 hc; exact (hF i (List.mem_range.1 hi')).2.1) _ _ hm'] at hu
      rw [List.getElem?_map] at hu
      by_cases hjl : j / size < len
      · rw [List.getElem?_range hjl] at hu
        simp only [Option.map_some, Option.bind_some] at hu
        have := (hF _ hjl).1 _ hm'
        rw [hu, ← hj] at this
        rcases Nat.eq_zero_or_pos j with rfl | hj0
        · simpa [Addr.add] using this
        · simpa [Addr.add, Nat.ne_of_gt hj0] using this
      · rw [List.getElem?_eq_none (by simp; omega)] at hu
        simp at hu

/-- A struct: each field's cells open. -/
theorem op_struct {fs : Array Field} (U : P.underlying t = some (.struct fs)) (h : Opens enc P w t cs x) :
    cs.length = P.cellsOf t ∧ ∀ (i : Nat) (f : Field), fs[i]? = some f → ∃ y, Opens enc P w f.type ((cs.drop f.offset).take (P.cellsOf f.type)) y := by
  obtain ⟨⟨fuel, hf⟩, hlt, hz⟩ := h
  obtain ⟨xs, n, _, rfl, hlen, hxl, hg⟩ := DataW.trod_struct U hf
  refine ⟨hlen, fun i f hfi => ?_⟩
  have hil : i < fs.size := (Array.getElem?_eq_some_iff.1 hfi).1
  have hx := hg i f hfi
  have hxi : xs[i]? = some (xs[i]'(by omega)) := List.getElem?_eq_getElem _
  rw [hxi] at hx
  refine ⟨_, ⟨n, hx⟩, fun p hp => hlt p ?_, fun q hq => hz q ?_⟩
  · simp only [List.mem_flatMap]
    exact ⟨_, List.getElem_mem _, hp⟩
  · simp only [DataW.weights, U]
    refine DataW.weights_mem_each (j := i) (t := f.type) (d := (xs[i]'(by omega)).1) ?_ ?_ q hq
    · rw [List.getElem?_map, Array.getElem?_toList, hfi]; rfl
    · rw [List.getElem?_map, hxi]; rfl

/-- An argument's cells open. -/
theorem Opens.of {v : Value} {d : DataW H} {ps : List MemPlace} (h : DataW.Trod enc P w 0 (fun _ => true) true t v d ps) (hlt : ∀ x ∈ ps, x.block < w.heap.size) (hz : ∀ n ∈ d.weights P t, n ≤ reachBytes) : Opens enc P w t v.cells.toList (d, ps) := ⟨h, hlt, hz⟩
/-- A struct whose fields are one cell each. -/
theorem op_fields {fs : Array Field} (U : P.underlying t = some (.struct fs)) (hone : oneCellFields P fs = true) (hC : P.cellsOf t = fs.size) (h : Opens enc P w t cs x) :
    cs.length = fs.size ∧ ∀ (i : Nat) (f : Field), fs[i]? = some f → ∃ c y, cs[i]? = some c ∧ Opens enc P w f.type [c] y := by
  obtain ⟨hlen, hf⟩ := op_struct U h
  refine ⟨hlen.trans hC, fun i f hfi => ?_⟩
  obtain ⟨ho, hk⟩ := hone_of hone i f hfi
  have hil : i < fs.size := (Array.getElem?_eq_some_iff.1 hfi).1
  obtain ⟨y, hy⟩ := hf i f hfi
  rw [ho, hk] at hy
  have hl : i < cs.length := by omega
  have hone' : (cs.drop i).take 1 = [cs[i]] := by rw [List.drop_eq_getElem_cons hl]; rfl
  rw [hone'] at hy
  exact ⟨_, y, List.getElem?_eq_getElem hl, hy⟩
theorem cint1 {c : Value} (h : CInt [c]) : ∃ a : Int, c = .int .i64 a ∧ -9223372036854775808 ≤ a ∧ a ≤ 9223372036854775807 := by
  obtain ⟨a, h, b⟩ := h
  exact ⟨a, by simpa using h, b⟩
theorem cbool1 {c : Value} (h : CBool [c]) : ∃ a : Bool, c = .bool a := by
  obtain ⟨a, h⟩ := h
  exact ⟨a, by simpa using h⟩
theorem cstr1 {c : Value} (h : CStr [c]) : ∃ s : ByteArray, c = .string s ∧ s.size ≤ 140737488351232 := by
  obtain ⟨a, h, b⟩ := h
  exact ⟨a, by simpa using h, b⟩
theorem cslice1 {C : List Value → Prop} {size bytes : Nat} {c : Value} (h : CSlice C size bytes w [c]) :
    ∃ (A : Option Addr) (len cap : Nat) (ess : List (List Value)), c = .slice A len cap ∧ ess.length = len ∧ (∀ c ∈ ess, c.length = size ∧ C c) ∧ Rd w w.heap.size size A len ess.flatten ∧ len ≤ cap ∧ cap * bytes ≤ 140737488351232 := by
  obtain ⟨A, len, cap, ess, h, b⟩ := h
  exact ⟨A, len, cap, ess, by simpa using h, b⟩
/-- A slice of numbers. -/
theorem nums_of {size : Nat} {ess : List (List Value)} (h : ∀ c ∈ ess, c.length = size ∧ CInt c) : ∃ zs : List Int, zs.length = ess.length ∧ ess.flatten = zs.map (Value.int .i64) ∧ ∀ z ∈ zs, -9223372036854775808 ≤ z ∧ z ≤ 9223372036854775807 := by
  induction ess with
  | nil => exact ⟨[], rfl, rfl, by simp⟩
  | cons a r ih =>
    obtain ⟨zs, h1, h2, h3⟩ := ih (fun c hc => h c (List.mem_cons_of_mem _ hc))
    obtain ⟨_, z, rfl, hz⟩ := h a (by simp)
    refine ⟨z :: zs, by simp [h1], by simp [h2], fun q hq => ?_⟩
    rcases List.mem_cons.1 hq with rfl | hq
    · exact hz
    · exact h3 q hq
end
end Go.Proofs.YtgjhjojbaieeaaaDoor
