/- The document's 'Tokens': ahead of its walk. Conditions: none. -/
import Derived.Test.YtgjhjojbaieeaaaScRefC
import Derived.Test.YtgjhjojbaieeaaaScRun
import Derived.Deep.RegionLaw
import Derived.Test.YtgjhjojbaieeaaaScRefA
import Derived.Test.YtgjhjojbaieeaaaScPut
set_option maxRecDepth 20000
namespace Go.Proofs.Ytgjhjojbaieeaaa
open Go.ChangeShapes Go.WideShapes Go.ChangeAt Go.RowKit
/-- The document's cutter: the source at block g, the list at block g+2. -/
structure RT (w : World) (g : Nat) (src : ByteArray) (v : Value) (T : List Tk) : Prop where
  c0 : w.cell? ⟨g, 0, none⟩ = some (.string src)
  c4 : w.cell? ⟨g + 2, 0, none⟩ = some v
  f4 : w.frozen? ⟨g + 2, 0, none⟩ = false
  row : w.ownsRow (g + 3) 78 4 v T.length (tkC T)
theorem RT.grew {W w : World} {g n : Nat} {V : Value} {xs : List Value} {o : Obj} (hr : W.ownsRow (g + 3) 78 4 V n xs) (h : (W.alloc o).grownBy w V.ownBlock) (hg : g + 2 < W.heap.size) : Below (g + 3) W w := by
  refine (Below.alloc (Below.refl (g + 3) W) (by omega) o).grown h (by simp; omega) ?_
  intro q hq
  rcases hr.2 with ⟨rfl, _⟩ | ⟨g', cap, cur, rfl, hb, _⟩
  · cases hq
  · simp [Value.ownBlock] at hq; omega
set_option maxHeartbeats 4000000 in
theorem addRef_any (g : Nat) (src : ByteArray) (p : Nat) (k : Int) (s : ByteArray) (A : Option Addr) (N C : Nat) (T : List Tk) (w : World) (hrt : RT w g src (.slice A N C) T) (hN : N = T.length) (hT : T.length ≤ 2000) (hp : p ≤ src.size) (hs : src.size ≤ 8000) :
    Calls Try.prog 63 #[.int .i64 k, .int .i64 (p : Int), .string s, .pointer (some ⟨g, 0, none⟩), .pointer (some ⟨g + 2, 0, none⟩)] w fun e w' => e = .returned (.bool (decide (N < 2000))) ∧ (∃ v', RT w' g src v' (T ++ [⟨k, s, ((place (src.data.toList.take p)).1 : Int), ((place (src.data.toList.take p)).2 : Int)⟩])) ∧ Below (g + 2) w w' := by
  obtain ⟨j0, hj, jz0, jz1, jz2⟩ := info_parts info_tok
  have c0 := hrt.c0
  have hC := hrt.c4
  have hF := hrt.f4
  have HR := Lib.hid hrt.row
  have HRT := Lib.hid hrt
  have hgl : g + 2 < w.heap.size := World.block_lt_of_cell? w ⟨g + 2, 0, none⟩ hC
  clear hrt
  go_enter Try.func63, Try.ntmps63
  go_wp2_with fail
  refine (placeOf_any src p hp hs _).mono ?_
  rintro e w1 ⟨rfl, rfl⟩
  subst hN
  have hb0 : T.length ≤ 2000 := hT
  generalize hNN : T.length = N at *
  have HNN := Lib.hid hNN
  clear hNN
  have HCel := Lib.hid (And.intro hC hF)
  go_wp2_with (at_builtin; refine wpList_append_rd _ rfl (.tmp 17) (.tmp 23) 68 rfl (g + 3) 78 j0 _ 4 40 Try.underlying68 hj jz0 jz1 jz2 rfl (by omega) (.slice A N C) N (tkC T) rfl (HR.out.alloc _) (w1.heap.size + 1) (some ⟨w1.heap.size, 0, none⟩) 1 1 [.int .i64 k, .string s, .int .i64 ((place (src.data.toList.take p)).1 : Int), .int .i64 ((place (src.data.toList.take p)).2 : Int)] rfl (Rd.lit w1 #[.int .i64 k, .string s, .int .i64 ((place (src.data.toList.take p)).1 : Int), .int .i64 ((place (src.data.toList.take p)).2 : Int)] 78 1 4 rfl) (by simp [Value.oneCell']) (by unfold maxLen; omega) (by omega) (by simp; omega) ?_; intro A' c' w4 h2 h3 _; have hb4 := RT.grew HR.out h3 hgl; have d4 := (hb4.cell (p := ⟨g + 2, 0, none⟩) (show g + 2 < g + 3 by omega)).trans HCel.out.1; have e4 := (hb4.frozen (p := ⟨g + 2, 0, none⟩) (show g + 2 < g + 3 by omega)).trans HCel.out.2)
  go_ret
  refine ⟨?_, ⟨.slice A' (N + 1) c', ?_, World.cell?_setCell_same _ _ _ d4, by simpa using e4, ?_⟩, (hb4.mono (Nat.le_succ _)).setCell (Nat.le_refl _) _⟩
  · rw [HNN.out]
    show Ending.returned (Value.bool (decide ((N : Int) + 1 ≤ 2000))) = Ending.returned (Value.bool (decide (N < 2000)))
    have e : decide ((N : Int) + 1 ≤ 2000) = decide (N < 2000) := by apply decide_eq_decide.2; omega
    rw [e]
  · rw [World.cell?_setCell_other _ _ _ _ (by simp)]
    exact (hb4.cell (p := ⟨g, 0, none⟩) (show g < g + 3 by omega)).trans c0
  · rw [tkC_snoc, List.length_append, HNN.out]
    exact own_cell h2 (show g + 2 < g + 3 by omega) _
theorem refTokens_long (src : ByteArray) (w : World) (h : 8000 < src.size) : Calls Try.prog 27 #[.string src] w fun e w' => e = .returned (.tuple #[.slice none 0 0, .agg #[.int .i64 1, .int .i64 0, .int .i64 0]]) ∧ Below w.heap.size w w' := by
  go_enter Try.func27, Try.ntmps27
  go_wp2_with fail
  exact bodyPost_ret (v := .tuple #[.slice none 0 0, .agg #[.int .i64 1, .int .i64 0, .int .i64 0]]) (by simp [results, Try.results27, go_sem]) rfl ⟨rfl, sq (al _) (al _)⟩
/-- The result's cells, as they were at first. -/
structure SC (w : World) (g : Nat) : Prop where
  r1 : w.cell? ⟨g + 1, 0, none⟩ = some (.int .i64 0)
  r2 : w.cell? ⟨g + 1, 1, none⟩ = some (.int .i64 0)
  r3 : w.cell? ⟨g + 1, 2, none⟩ = some (.int .i64 0)
  z1 : w.frozen? ⟨g + 1, 0, none⟩ = false
  z2 : w.frozen? ⟨g + 1, 1, none⟩ = false
  z3 : w.frozen? ⟨g + 1, 2, none⟩ = false
theorem SC.below {w w' : World} {g : Nat} (h : SC w g) (hb : Below (g + 2) w w') : SC w' g :=
  ⟨(hb.cell (p := ⟨g + 1, 0, none⟩) (show g + 1 < g + 2 by omega)).trans h.r1, (hb.cell (p := ⟨g + 1, 1, none⟩) (show g + 1 < g + 2 by omega)).trans h.r2, (hb.cell (p := ⟨g + 1, 2, none⟩) (show g + 1 < g + 2 by omega)).trans h.r3,
    (hb.frozen (p := ⟨g + 1, 0, none⟩) (show g + 1 < g + 2 by omega)).trans h.z1, (hb.frozen (p := ⟨g + 1, 1, none⟩) (show g + 1 < g + 2 by omega)).trans h.z2, (hb.frozen (p := ⟨g + 1, 2, none⟩) (show g + 1 < g + 2 by omega)).trans h.z3⟩
/-- Where the loop stands. -/
def AtR (src : ByteArray) (p : Nat) (T : List Tk) : Prop :=
  (p ≤ src.size ∧ ∀ R, Runs src.data.toList p T R → Runs src.data.toList 0 [] R) ∨ (p = src.size + 1 ∧ Runs src.data.toList 0 [] (.ok T))
/-- The last token is one that the signs and words of the language allow. -/
def LastG (T : List Tk) : Prop := ∀ t, T.getLast? = some t → (t.k = 4 → t.s.data.toList ∈ sgW) ∧ (t.k = 5 → wordB t.s.data.toList = true)
theorem own_into {w w' : World} {base : Nat} {e : TypeId} {size : Nat} {v : Value} {n : Nat} {xs : List Value} (h : w.ownsRow base e size v n xs) (hb : Below w.heap.size w w') : w'.ownsRow base e size v n xs := by
  refine ⟨h.1, ?_⟩
  rcases h.2 with h2 | ⟨q, cap, cur, e, hq, hh, r⟩
  · exact .inl h2
  · refine .inr ⟨q, cap, cur, e, hq, ?_, r⟩
    rw [hb.block q ?_]
    · exact hh
    · rcases Nat.lt_or_ge q w.heap.size with h5 | h5
      · exact h5
      · rw [Array.getElem?_eq_none h5] at hh; cases hh
theorem RT.lt {w : World} {g : Nat} {src : ByteArray} {v : Value} {T : List Tk} (h : RT w g src v T) : g + 2 < w.heap.size := World.block_lt_of_cell? w ⟨g + 2, 0, none⟩ h.c4
theorem RT.into {w w' : World} {g : Nat} {src : ByteArray} {v : Value} {T : List Tk} (h : RT w g src v T) (hb : Below w.heap.size w w') : RT w' g src v T := by
  have hg := h.lt
  exact ⟨(hb.cell (p := ⟨g, 0, none⟩) (show g < w.heap.size by omega)).trans h.c0, (hb.cell (p := ⟨g + 2, 0, none⟩) hg).trans h.c4, (hb.frozen (p := ⟨g + 2, 0, none⟩) hg).trans h.f4, own_into h.row hb⟩
theorem RT.last {w : World} {g : Nat} {src : ByteArray} {A : Option Addr} {C : Nat} {T0 : List Tk} {t : Tk} (h : RT w g src (.slice A (T0.length + 1) C) (T0 ++ [t])) :
    ∃ b, A = some ⟨b, 0, none⟩ ∧ w.cell? ⟨b, T0.length * 4, none⟩ = some (.int .i64 t.k) ∧ w.cell? ⟨b, T0.length * 4 + 1, none⟩ = some (.string t.s) ∧ w.cell? ⟨b, T0.length * 4 + 2, none⟩ = some (.int .i64 t.l) ∧ w.cell? ⟨b, T0.length * 4 + 3, none⟩ = some (.int .i64 t.c) := by
  have hr := Rd.of_own (by simpa using h.row : w.ownsRow (g + 3) 78 4 (.slice A (T0.length + 1) C) (T0.length + 1) (tkC (T0 ++ [t])))
  obtain ⟨b, off, e, _, hc⟩ := hr.2 (by omega)
  have h0 : off = 0 := by
    rcases h.row.2 with ⟨h1, _⟩ | ⟨q, cap, cur, h1, _⟩
    · simp at h1
    · simp at h1
      rw [e] at h1
      simp at h1
      exact h1.1.2
  subst h0
  refine ⟨b, e, ?_, ?_, ?_, ?_⟩
  · have := hc (T0.length * 4) (.int .i64 t.k) (by rw [show T0 ++ [t] = T0 ++ [⟨t.k, t.s, t.l, t.c⟩] from rfl, tkC_snoc, List.getElem?_append_right (by rw [tkC_len]; omega), tkC_len]; simp)
    simpa using this
  · have := hc (T0.length * 4 + 1) (.string t.s) (by rw [show T0 ++ [t] = T0 ++ [⟨t.k, t.s, t.l, t.c⟩] from rfl, tkC_snoc, List.getElem?_append_right (by rw [tkC_len]; omega), tkC_len, Nat.add_sub_cancel_left]; rfl)
    simpa using this
  · have := hc (T0.length * 4 + 2) (.int .i64 t.l) (by rw [show T0 ++ [t] = T0 ++ [⟨t.k, t.s, t.l, t.c⟩] from rfl, tkC_snoc, List.getElem?_append_right (by rw [tkC_len]; omega), tkC_len, Nat.add_sub_cancel_left]; rfl)
    simpa using this
  · have := hc (T0.length * 4 + 3) (.int .i64 t.c) (by rw [show T0 ++ [t] = T0 ++ [⟨t.k, t.s, t.l, t.c⟩] from rfl, tkC_snoc, List.getElem?_append_right (by rw [tkC_len]; omega), tkC_len, Nat.add_sub_cancel_left]; rfl)
    simpa using this
theorem RT.slice {w : World} {g : Nat} {src : ByteArray} {v : Value} {T : List Tk} (h : RT w g src v T) : ∃ A C, v = .slice A T.length C := own_form h.row
/-! ### closes -/
theorem cl_sign : ∀ x ∈ sgW, clW.any (fun y => x == y) = endsT 4 x := by decide +kernel
theorem cl_word : ∀ x ∈ words, clW.any (fun y => x == y) = endsT 5 x := by decide +kernel
theorem word_mem {l : List UInt8} (h : wordB l = true) : l ∈ words := by
  unfold wordB at h
  rw [List.any_eq_true] at h
  obtain ⟨x, hx, he⟩ := h
  rw [beq_iff_eq.1 he]
  exact hx
theorem closes_any (k l c : Int) (s : ByteArray) (hg : (k = 4 → s.data.toList ∈ sgW) ∧ (k = 5 → wordB s.data.toList = true)) (w : World) : Calls Try.prog 65 #[.agg #[.int .i64 k, .string s, .int .i64 l, .int .i64 c]] w fun e w' => e = .returned (.bool (endsT k s.data.toList)) ∧ Below w.heap.size w w' := by
  by_cases hk : k = 4 ∨ k = 5
  · refine (closes_word k l c hk s w).mono ?_
    rintro e w' ⟨rfl, hb⟩
    refine ⟨?_, hb⟩
    have : clB s.toList = endsT k s.data.toList := by
      unfold clB
      rw [ByteArray.toList_eq]
      rcases hk with rfl | rfl
      · exact cl_sign _ (hg.1 rfl)
      · exact cl_word _ (word_mem (hg.2 rfl))
    rw [this]
  · refine (closes_plain k l c hk s w).mono ?_
    rintro e w' ⟨rfl, hb⟩
    refine ⟨?_, hb⟩
    have : endsT k s.data.toList = (decide (k = 1) || decide (k = 2) || decide (k = 3)) := by
      unfold endsT
      rw [decide_eq_false (show ¬ k = 4 from fun e => hk (.inl e)), decide_eq_false (show ¬ k = 5 from fun e => hk (.inr e))]
      simp
    rw [this]
/-! ### where the loop goes on -/
theorem stepS_nl {src : ByteArray} {p : Nat} (hp : p < src.size) (h : src[p] = 10) : stepS (src.data.toList.drop p) = .nl := by
  unfold stepS
  dsimp only
  rw [if_pos (by rw [head_get src p hp]; exact h)]
theorem AtR.semi {src : ByteArray} {p : Nat} {T T' : List Tk} (h : AtR src p T) (hp : p = src.size ∨ ∃ h : p < src.size, src[p] = 10) (hs : semiT src.data.toList p T = some T') : AtR src (p + 1) T' := by
  rcases h with ⟨_, h⟩ | ⟨h, _⟩
  · rcases hp with hp | ⟨hp, h10⟩
    · exact .inr ⟨by omega, h _ (.fin (by simp; omega) hs)⟩
    · refine .inl ⟨by omega, fun R hR => h _ (.step (by simpa using hp) ?_ hR)⟩
      rw [nx_nl (stepS_nl hp h10)]
      unfold semiR
      rw [hs]
  · rcases hp with hp | ⟨hp, _⟩ <;> omega
theorem AtR.full {src : ByteArray} {p : Nat} {T : List Tk} (h : AtR src p T) (hp : p = src.size ∨ ∃ h : p < src.size, src[p] = 10) (hs : semiT src.data.toList p T = none) : Runs src.data.toList 0 [] (.bad 15 (place (src.data.toList.take p))) := by
  rcases h with ⟨_, h⟩ | ⟨h, _⟩
  · rcases hp with hp | ⟨hp, h10⟩
    · exact h _ (.full (by simp; omega) hs)
    · refine h _ (.bad (by simpa using hp) ?_)
      rw [nx_nl (stepS_nl hp h10)]
      unfold semiR
      rw [hs]
  · rcases hp with hp | ⟨hp, _⟩ <;> omega
theorem AtR.ok {src : ByteArray} {p p' : Nat} {T T' : List Tk} (h : AtR src p T) (hp : p < src.size) (hT : T.length ≤ 2000) (hn : nx src.data.toList p T = .ok (p', T')) : AtR src p' T' := by
  rcases h with ⟨_, h⟩ | ⟨h, _⟩
  · exact .inl ⟨(nx_ok hp hT hn).2.1, fun R hR => h _ (.step (by simpa using hp) hn hR)⟩
  · omega
theorem AtR.err {src : ByteArray} {p : Nat} {T : List Tk} {c : Int} (h : AtR src p T) (hp : p < src.size) (hn : nx src.data.toList p T = .error c) : Runs src.data.toList 0 [] (.bad c (place (src.data.toList.take p))) := by
  rcases h with ⟨_, h⟩ | ⟨h, _⟩
  · exact h _ (.bad (by simpa using hp) hn)
  · omega
theorem LastG.semi (T : List Tk) (s : ByteArray) (l c : Int) : LastG (T ++ [⟨6, s, l, c⟩]) := by
  intro t ht
  rw [List.getLast?_concat] at ht
  injection ht with ht
  subst ht
  exact ⟨fun h => by have h' : (6 : Int) = 4 := h; exact absurd h' (by decide), fun h => by have h' : (6 : Int) = 5 := h; exact absurd h' (by decide)⟩
theorem step_good {L : List UInt8} {k : Int} {n : Nat} (h : stepS L = .tok k n) : (k = 4 → L.take n ∈ sgW) ∧ (k = 5 → wordB (L.take n) = true) := by
  have hs := signV_facts2 L
  unfold stepS at h
  dsimp only at h
  refine ⟨fun hk => ?_, fun hk => ?_⟩
  all_goals
    subst hk
    repeat' split at h
    all_goals first
      | cases h; done
      | (injection h with h1 h2
         first
           | (exfalso; revert h1; decide)
           | (subst h2; first | assumption | (rw [← List.prefix_iff_eq_take.1 hs.1]; exact hs.2.1.resolve_right (by assumption)))
           | (subst h2; simp_all))
end Go.Proofs.Ytgjhjojbaieeaaa
