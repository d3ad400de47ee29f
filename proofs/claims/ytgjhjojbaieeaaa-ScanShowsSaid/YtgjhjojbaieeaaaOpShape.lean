/- What comes in, told as data by shapes, with its bulk. Conditions: none. -/
import Derived.Test.YtgjhjojbaieeaaaOpen
import Derived.Test.YtgjhjojbaieeaaaShape
set_option maxRecDepth 20000
namespace Go.Proofs.Ytgjhjojbaieeaaa
open Go.ChangeShapes Go.WideShapes Go.ChangeAt Go.RowKit Go.Deep

/-- 'What opens at type t is a datum of shape S; it fits the form's reach; its bulk is at most the reading's.' -/
def Op {X : Type} (S : Shp X) (P : Program) (t : TypeId) (bulk : X → Nat) (fits : X → Prop) : Prop :=
  ∀ {H : Type} {enc : TypeId × Value → H} {w : World} {cs : List Value} {x : DataW H × List MemPlace}, Opens enc P w t cs x →
    ∃ y, S.rd w (· < w.heap.size) cs y ∧ fits y ∧ bulk y ≤ Rows.uptoBulk x.1
section
variable {P : Program} {t e : TypeId}
theorem bulk_one {H : Type} (d : DataW H) : 1 ≤ Rows.uptoBulk d := by
  cases d with
  | lit l => cases l <;> simp [Rows.uptoBulk]
  | nil => simp [Rows.uptoBulk]
  | ptr d => simp [Rows.uptoBulk]
  | slice elems spare => simp [Rows.uptoBulk]
  | agg parts => simp [Rows.uptoBulk]
  | iface t d => simp [Rows.uptoBulk]
  | map entries => simp [Rows.uptoBulk]
  | held h => simp [Rows.uptoBulk]
theorem op_int' (U : P.underlying t = some (.int .i64)) : Op Shp.int P t (fun _ => 1) (fun _ => True) := by
  intro H enc w cs x h
  obtain ⟨a, rfl, h1, h2⟩ := op_cint U h
  exact ⟨a, ⟨rfl, h1, h2⟩, trivial, bulk_one _⟩
theorem op_bool' (U : P.underlying t = some .bool) : Op Shp.bool P t (fun _ => 1) (fun _ => True) := by
  intro H enc w cs x h
  obtain ⟨a, rfl⟩ := op_cbool U h
  exact ⟨a, rfl, trivial, bulk_one _⟩
theorem op_str' (U : P.underlying t = some .string) : Op Shp.str P t (fun s => s.size + 1) (fun s => s.size ≤ 140737488351232) := by
  intro H enc w cs x h
  obtain ⟨⟨f, hf⟩, _, hz⟩ := h
  obtain ⟨s, rfl, rfl, _⟩ := DataW.trod_string U hf
  refine ⟨s, rfl, ?_, ?_⟩
  · have := hz s.data.toList.length (by simp [DataW.weights])
    simpa [reachBytes] using this
  · simp [Rows.uptoBulk]
theorem sum_le_bulk {H : Type} {X : Type} {bulk : X → Nat} : ∀ {ys : List X} {ds : List (DataW H)}, ys.length = ds.length → (∀ (i : Nat) (y : X) (d : DataW H), ys[i]? = some y → ds[i]? = some d → bulk y ≤ Rows.uptoBulk d) → (ys.map bulk).sum ≤ Rows.uptoBulkAll ds
  | [], [], _, _ => by simp [Rows.uptoBulkAll]
  | y :: ys, d :: ds, hl, h => by
    have h1 := h 0 y d rfl rfl
    have h2 := sum_le_bulk (bulk := bulk) (ys := ys) (ds := ds) (by simpa using hl) (fun i y d hy hd => h (i + 1) y d hy hd)
    simp only [List.map_cons, List.sum_cons, Rows.uptoBulkAll]
    omega
theorem op_slice' {X : Type} {S : Shp X} {bulk : X → Nat} {fits : X → Prop} {bytes : Nat} (U : P.underlying t = some (.slice e)) (hC : P.cellsOf e = S.size) (hY : P.bytesOf e = bytes) (hsz : 0 < S.size) (op : Op S P e bulk fits) :
    Op (Shp.slice S) P t (fun l => (l.map bulk).sum + 1) (fun l => l.length * bytes ≤ 140737488351232 ∧ ∀ y ∈ l, fits y) := by
  intro H enc w cs x h
  obtain ⟨⟨fuel, hf⟩, hlt, hz⟩ := h
  rcases open_slice U hf with ⟨rfl, hx⟩ | ⟨a, len, cap, m, n, D, Pl, rfl, hb, hl, hm, hmm, rfl, hi⟩
  · exact ⟨[], ⟨none, 0, [], rfl, by simp, by unfold maxLen; omega, .inl rfl, RdM.nil, .nil⟩, ⟨by simp, by simp⟩, by simpa using bulk_one _⟩
  · simp only [if_true] at hmm
    subst hmm
    rw [hC] at hi hlt
    have hcb : m * bytes ≤ 140737488351232 := by
      have := hz ((((List.range len).map D).length + ((List.range (m - len)).map fun j => D (len + j)).length) * bytes) (by simp [DataW.weights, U, hY])
      simp only [List.length_map, List.length_range, reachBytes] at this
      have e' : len + (m - len) = m := by omega
      rwa [e'] at this
    have hel : ∀ i, i < len → ∃ cs' y, (∀ k, k < S.size → w.cell? (a.add (i * S.size + k)) = cs'[k]?) ∧ S.rd w (· < w.heap.size) cs' y ∧ fits y ∧ bulk y ≤ Rows.uptoBulk (D i) := by
      intro i him
      obtain ⟨cs', hc, ht⟩ := hi i (by omega)
      obtain ⟨_, hcl, hat⟩ := World.cells?_some hc
      have ho : Opens enc P w e cs' (D i, Pl i) := ⟨⟨n, ht⟩, fun p hp => hlt p (by
          simp only [List.mem_append, List.mem_flatMap, List.mem_range]
          exact .inr ⟨i, by omega, hp⟩), fun q hq => hz q (by
          simp only [DataW.weights, U, List.mem_cons, List.mem_append]
          exact .inr (.inl (weights_all_mem (List.mem_map.2 ⟨i, List.mem_range.2 him, rfl⟩) q hq)))⟩
      obtain ⟨y, h1, h2, h3⟩ := op ho
      exact ⟨cs', y, fun k hk => by rw [← Go.Deep.add_add]; exact hat k hk, h1, h2, h3⟩
    obtain ⟨F, hF⟩ : ∃ F : Nat → List Value, ∀ i, i < len → ∃ y, (∀ k, k < S.size → w.cell? (a.add (i * S.size + k)) = (F i)[k]?) ∧ S.rd w (· < w.heap.size) (F i) y ∧ fits y ∧ bulk y ≤ Rows.uptoBulk (D i) :=
      ⟨fun i => if h : i < len then (hel i h).choose else [], fun i h => by simp only [h, dif_pos]; exact (hel i h).choose_spec⟩
    have hG : ∃ ys : List X, ys.length = len ∧ ∀ i y, ys[i]? = some y → (∀ k, k < S.size → w.cell? (a.add (i * S.size + k)) = (F i)[k]?) ∧ S.rd w (· < w.heap.size) (F i) y ∧ fits y ∧ bulk y ≤ Rows.uptoBulk (D i) := by
      clear hel hi hz hlt hf hm
      have key : ∀ l : Nat, l ≤ len → ∃ ys : List X, ys.length = l ∧ ∀ i y, ys[i]? = some y → (∀ k, k < S.size → w.cell? (a.add (i * S.size + k)) = (F i)[k]?) ∧ S.rd w (· < w.heap.size) (F i) y ∧ fits y ∧ bulk y ≤ Rows.uptoBulk (D i) := by
        intro l
        induction l with
        | zero => intro _; exact ⟨[], rfl, by simp⟩
        | succ l ih =>
          intro hll
          obtain ⟨ys, h1, h2⟩ := ih (by omega)
          obtain ⟨y, hy⟩ := hF l (by omega)
          refine ⟨ys ++ [y], by simp [h1], fun i z hz => ?_⟩
          by_cases hil : i < l
          · rw [List.getElem?_append_left (by omega)] at hz
            exact h2 i z hz
          · rw [List.getElem?_append_right (by omega), h1] at hz
            rcases hk : i - l with _ | k
            · rw [hk] at hz; simp at hz; subst hz
              obtain rfl : i = l := by omega
              exact hy
            · rw [hk] at hz; simp at hz
      exact key len (Nat.le_refl _)
    obtain ⟨ys, hyl, hys⟩ := hG
    have hall : S.all w (· < w.heap.size) ((List.range len).map F) ys := by
      refine ⟨by simp [hyl], fun i c x hc hx => ?_⟩
      rw [List.getElem?_map, Option.map_eq_some_iff] at hc
      obtain ⟨j, hj, rfl⟩ := hc
      have hjl : i < len := by have := (List.getElem?_eq_some_iff.1 hj).1; simpa using this
      rw [List.getElem?_range hjl] at hj
      injection hj with hj
      subst hj
      exact (hys i x hx).2.1
    refine ⟨ys, ⟨some a, m, (List.range len).map F, by rw [hyl], by omega, ?_, .inr (by simp), ⟨hall.flat_len, fun hn => ?_⟩, hall⟩, ⟨?_, ?_⟩, ?_⟩
    · exact Nat.le_of_lt_succ (by unfold maxLen at *; omega)
    · have hn' : 0 < len := by omega
      have hE : ∀ i k, i < len → k < S.size → w.cell? (a.add (i * S.size + k)) = (F i)[k]? := fun i k h1 h2 => by
        obtain ⟨y, hy⟩ := hF i h1
        exact hy.1 k h2
      have hL : ∀ c ∈ (List.range len).map F, c.length = S.size := hall.each
      have h0 := hE 0 0 hn' hsz
      have hF0 : (F 0).length = S.size := hL _ (List.mem_map.2 ⟨0, List.mem_range.2 hn', rfl⟩)
      rw [List.getElem?_eq_getElem (by omega)] at h0
      have hsp : a.spot = none := by simpa [Addr.add] using World.cell?_spot h0
      have hblk : a.block < w.heap.size := by simpa [Addr.add] using World.block_lt_of_cell? w _ h0
      obtain ⟨b, off, spot⟩ := a
      subst hsp
      refine ⟨b, off, rfl, hblk, fun j u hu => ?_⟩
      have hj : j = (j / S.size) * S.size + j % S.size := by rw [Nat.mul_comm]; exact (Nat.div_add_mod j S.size).symm
      have hm' : j % S.size < S.size := Nat.mod_lt _ hsz
      rw [hj, flat_at hL _ _ hm', List.getElem?_map] at hu
      by_cases hjl : j / S.size < len
      · rw [List.getElem?_range hjl] at hu
        simp only [Option.map_some, Option.bind_some] at hu
        have := hE _ _ hjl hm'
        rw [hu, ← hj] at this
        rcases Nat.eq_zero_or_pos j with rfl | hj0
        · simpa [Addr.add] using this
        · simpa [Addr.add, Nat.ne_of_gt hj0] using this
      · rw [List.getElem?_eq_none (by simp; omega)] at hu
        simp at hu
    · rw [hyl]
      exact Nat.le_trans (Nat.mul_le_mul_right _ hl) hcb
    · intro y hy
      obtain ⟨i, hil, rfl⟩ := List.getElem_of_mem hy
      exact (hys i _ (List.getElem?_eq_getElem hil)).2.2.1
    · have := sum_le_bulk (bulk := bulk) (ys := ys) (ds := (List.range len).map D) (by simp [hyl]) (fun i y d hy hd => by
        rw [List.getElem?_map, Option.map_eq_some_iff] at hd
        obtain ⟨j, hj, rfl⟩ := hd
        have hjl : i < len := by have := (List.getElem?_eq_some_iff.1 hj).1; simpa using this
        rw [List.getElem?_range hjl] at hj
        injection hj with hj
        subst hj
        exact (hys i y hy).2.2.2)
      simp only [Rows.uptoBulk]
      omega
/-- A struct: each field's cells open; its bulk is theirs. -/
theorem op_parts {H : Type} {enc : TypeId × Value → H} {w : World} {cs : List Value} {x : DataW H × List MemPlace} {fs : Array Field} (U : P.underlying t = some (.struct fs)) (h : Opens enc P w t cs x) :
    cs.length = P.cellsOf t ∧ ∃ ys : List (DataW H × List MemPlace), ys.length = fs.size ∧ Rows.uptoBulk x.1 = Rows.uptoBulkAll (ys.map Prod.fst) + 1 ∧
      ∀ (i : Nat) (f : Field), fs[i]? = some f → ∃ y, ys[i]? = some y ∧ Opens enc P w f.type ((cs.drop f.offset).take (P.cellsOf f.type)) y := by
  obtain ⟨⟨fuel, hf⟩, hlt, hz⟩ := h
  obtain ⟨xs, n, _, rfl, hlen, hxl, hg⟩ := DataW.trod_struct U hf
  refine ⟨hlen, xs, hxl, by simp [Rows.uptoBulk], fun i f hfi => ?_⟩
  have hil : i < fs.size := (Array.getElem?_eq_some_iff.1 hfi).1
  have hx := hg i f hfi
  have hxi : xs[i]? = some (xs[i]'(by omega)) := List.getElem?_eq_getElem _
  rw [hxi] at hx
  refine ⟨_, hxi, ⟨n, hx⟩, fun p hp => hlt p ?_, fun q hq => hz q ?_⟩
  · simp only [List.mem_flatMap]
    exact ⟨_, List.getElem_mem _, hp⟩
  · simp only [DataW.weights, U]
    refine DataW.weights_mem_each (j := i) (t := f.type) (d := (xs[i]'(by omega)).1) ?_ ?_ q hq
    · rw [List.getElem?_map, Array.getElem?_toList, hfi]; rfl
    · rw [List.getElem?_map, hxi]; rfl
theorem ints_flat {w : World} {M : Nat → Prop} : ∀ {ess : List (List Value)} {zs : List Int}, Shp.int.all w M ess zs → ess.flatten = zs.map (Value.int .i64) ∧ ∀ z ∈ zs, -9223372036854775808 ≤ z ∧ z ≤ 9223372036854775807
  | [], [], _ => ⟨rfl, by simp⟩
  | [], _ :: _, h => by have := h.1; simp at this
  | _ :: _, [], h => by have := h.1; simp at this
  | c :: ess, z :: zs, h => by
    obtain ⟨h1, h2, h3⟩ := h.2 0 c z rfl rfl
    obtain ⟨h4, h5⟩ := ints_flat (ess := ess) (zs := zs) ⟨by have := h.1; simpa using this, fun i c z hc hz => h.2 (i + 1) c z hc hz⟩
    refine ⟨by rw [List.flatten_cons, h4, h1]; rfl, fun q hq => ?_⟩
    rcases List.mem_cons.1 hq with rfl | hq
    · exact ⟨h2, h3⟩
    · exact h5 q hq
/-- A list of numbers, in memory. -/
theorem ints_elim {w : World} {M : Nat → Prop} {cs : List Value} {zs : List Int} (h : (Shp.slice Shp.int).rd w M cs zs) :
    ∃ A c, cs = [.slice A zs.length c] ∧ RdM w M 1 A zs.length (zs.map (Value.int .i64)) ∧ zs.length ≤ c ∧ c ≤ maxLen ∧ (c = 0 ∨ A ≠ none) ∧ ∀ z ∈ zs, -9223372036854775808 ≤ z ∧ z ≤ 9223372036854775807 := by
  obtain ⟨A, c, ess, rfl, h1, h2, h3, h4, h5⟩ := h
  obtain ⟨e1, e2⟩ := ints_flat h5
  rw [e1] at h4
  exact ⟨A, c, rfl, h4, h1, h2, h3, e2⟩
theorem ints_intro {w : World} {M : Nat → Prop} {A : Option Addr} {c : Nat} {zs : List Int} (hr : RdM w M 1 A zs.length (zs.map (Value.int .i64))) (h1 : zs.length ≤ c) (h2 : c ≤ maxLen) (h3 : c = 0 ∨ A ≠ none) (hb : ∀ z ∈ zs, -9223372036854775808 ≤ z ∧ z ≤ 9223372036854775807) :
    (Shp.slice Shp.int).rd w M [.slice A zs.length c] zs := by
  have e : (zs.map fun z => [Value.int .i64 z]).flatten = zs.map (Value.int .i64) := by
    clear hr h1 hb
    induction zs with
    | nil => rfl
    | cons z r ih => simp [ih]
  refine ⟨A, c, zs.map fun z => [Value.int .i64 z], rfl, h1, h2, h3, by rw [e]; exact hr, by simp, fun i d z hd hz => ?_⟩
  rw [List.getElem?_map, hz] at hd
  injection hd with hd
  subst hd
  exact ⟨rfl, hb z (List.mem_of_getElem? hz)⟩
end

theorem sum_one (l : List Int) : (l.map fun _ => 1).sum = l.length := by induction l with
  | nil => rfl
  | cons a r ih => simp [ih]; omega
end Go.Proofs.Ytgjhjojbaieeaaa
