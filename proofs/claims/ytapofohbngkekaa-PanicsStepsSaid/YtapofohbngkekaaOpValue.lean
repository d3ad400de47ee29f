/- What a Value is that comes in; a copy of it of its own memory (the law's 'own'). Conditions: none. -/
import Derived.Test.YtapofohbngkekaaBase
import Derived.Handy
set_option maxRecDepth 100000
namespace Go.Proofs.Ytapofohbngkekaa
open Go.ChangeShapes Go.WideShapes Go.ChangeAt Go.RowKit Go.Deep
theorem info_int : (Try.prog.info? 3).map (fun i => (i.zero, i.size, i.bytes)) = some (some (.int .i64 0), 1, 8) := by kernel_rfl

/-- A Value, as the walk writes it. -/
@[reducible] def val (k n : Int) (s : ByteArray) (A : Option Addr) (len cap : Nat) : Value := .agg #[.int .i64 k, .int .i64 n, .string s, .slice A len cap]
def CVal (w : World) (cs : List Value) : Prop :=
  ∃ (k n : Int) (s : ByteArray) (A : Option Addr) (len cap : Nat) (zs : List Int), cs = [.int .i64 k, .int .i64 n, .string s, .slice A len cap] ∧
    (-9223372036854775808 ≤ k ∧ k ≤ 9223372036854775807) ∧ (-9223372036854775808 ≤ n ∧ n ≤ 9223372036854775807) ∧ s.size ≤ 140737488351232 ∧ Rd w w.heap.size 1 A len (zs.map (Value.int .i64)) ∧ len ≤ cap ∧ cap * 8 ≤ 140737488351232 ∧
    ∀ z ∈ zs, -9223372036854775808 ≤ z ∧ z ≤ 9223372036854775807
def IsValue (w : World) (v : Value) : Prop :=
  ∃ (k n : Int) (s : ByteArray) (A : Option Addr) (len cap : Nat) (zs : List Int), v = val k n s A len cap ∧
    (-9223372036854775808 ≤ k ∧ k ≤ 9223372036854775807) ∧ (-9223372036854775808 ≤ n ∧ n ≤ 9223372036854775807) ∧ s.size ≤ 140737488351232 ∧ Rd w w.heap.size 1 A len (zs.map (Value.int .i64)) ∧ len ≤ cap ∧ cap * 8 ≤ 140737488351232 ∧
    ∀ z ∈ zs, -9223372036854775808 ≤ z ∧ z ≤ 9223372036854775807

section
variable {H : Type} {enc : TypeId × Value → H} {w : World}

theorem op_cval {cs : List Value} {x : DataW H × List MemPlace} (h : Opens enc Try.prog w 49 cs x) : CVal w cs := by
  obtain ⟨hl, hf⟩ := op_fields Try.underlying49 (by kernel_rfl) (by kernel_rfl) h
  match cs, hl with
  | [c0, c1, c2, c3], _ =>
    obtain ⟨_, _, e0, h0⟩ := hf 0 _ rfl
    obtain ⟨_, _, e1, h1⟩ := hf 1 _ rfl
    obtain ⟨_, _, e2, h2⟩ := hf 2 _ rfl
    obtain ⟨_, _, e3, h3⟩ := hf 3 _ rfl
    simp at e0 e1 e2 e3
    subst e0 e1 e2 e3
    obtain ⟨k, rfl, hk⟩ := cint1 (op_cint Try.underlying3 h0)
    obtain ⟨n, rfl, hn⟩ := cint1 (op_cint Try.underlying3 h1)
    obtain ⟨s, rfl, hs⟩ := cstr1 (op_cstr Try.underlying9 h2)
    obtain ⟨A, len, cap, ess, rfl, _, he, hr, hlc, hcb⟩ := cslice1 (op_cslice (C := CInt) (size := 1) (bytes := 8) Try.underlying31 (by kernel_rfl) (by kernel_rfl) (by omega) h3 (fun cs' y h => op_cint Try.underlying3 h))
    obtain ⟨zs, _, hz, hb⟩ := nums_of he
    rw [hz] at hr
    exact ⟨k, n, s, A, len, cap, zs, rfl, hk, hn, hs, hr, hlc, hcb, hb⟩
theorem op_value {base : Nat} {v : Value} {d : DataW H} {ps : List MemPlace} (hv : Value.okWide Try.prog w .any base 49 v) (h : DataW.Trod enc Try.prog w 0 (fun _ => true) true 49 v d ps) (hlt : ∀ x ∈ ps, x.block < w.heap.size) (hz : ∀ n ∈ d.weights Try.prog 49, n ≤ reachBytes) : IsValue w v := by
  obtain ⟨cs, rfl, _⟩ := okWide_struct Try.underlying49 hv
  obtain ⟨k, n, s, A, len, cap, zs, hc, r⟩ := op_cval (Opens.of h hlt hz)
  obtain ⟨l⟩ := cs
  simp only [Value.cells] at hc
  subst hc
  exact ⟨k, n, s, A, len, cap, zs, rfl, r⟩
end

theorem own_any (k n : Int) (s : ByteArray) (A : Option Addr) (len cap : Nat) (zs : List Int) (w : World) (h : Rd w w.heap.size 1 A len (zs.map (Value.int .i64))) (hl : len * 8 ≤ 140737488355328) :
    Calls Try.prog 14 #[val k n s A len cap] w fun e w' => ∃ A' c', e = .returned (val k n s A' len c') ∧ w'.ownsRow w.heap.size 3 1 (.slice A' len c') len (zs.map (Value.int .i64)) ∧ Below w.heap.size w w' := by
  obtain ⟨i0, hi, hz0, hz1, hz2⟩ := info_parts info_int
  go_enter Try.func14, Try.ntmps14
  go_wp2_with ((at_builtin; refine wpList_append_new _ rfl _ _ 31 rfl 3 i0 _ 1 8 Try.underlying31 hi hz0 hz1 hz2 rfl (by omega) rfl w.heap.size A len cap (zs.map (Value.int .i64)) rfl ((h.alloc (Nat.le_refl _) _).alloc (by simp) _) (ints_oneCell _ _) hl (by unfold maxLen; omega) ?_; intro A1 cp w1 hown hb; have c0 := hb.cell (p := ⟨w.heap.size, 0, none⟩) (by go_size); have c1 := hb.cell (p := ⟨w.heap.size, 1, none⟩) (by go_size); have c2 := hb.cell (p := ⟨w.heap.size, 2, none⟩) (by go_size); have c3 := hb.cell (p := ⟨w.heap.size, 3, none⟩) (by go_size); (try simp at c0 c1 c2 c3); have f0 := hb.frozen (p := ⟨w.heap.size, 0, none⟩) (by go_size); have f1 := hb.frozen (p := ⟨w.heap.size, 1, none⟩) (by go_size); have f2 := hb.frozen (p := ⟨w.heap.size, 2, none⟩) (by go_size); have f3 := hb.frozen (p := ⟨w.heap.size, 3, none⟩) (by go_size); (try simp at f0 f1 f2 f3); have g0 := hb.frozen (p := ⟨w.heap.size + 1, 0, none⟩) (by go_size); have g1 := hb.frozen (p := ⟨w.heap.size + 1, 1, none⟩) (by go_size); have g2 := hb.frozen (p := ⟨w.heap.size + 1, 2, none⟩) (by go_size); have g3 := hb.frozen (p := ⟨w.heap.size + 1, 3, none⟩) (by go_size); (try simp at g0 g1 g2 g3); have d0 := hb.cell (p := ⟨w.heap.size + 1, 0, none⟩) (by go_size); have d1 := hb.cell (p := ⟨w.heap.size + 1, 1, none⟩) (by go_size); have d2 := hb.cell (p := ⟨w.heap.size + 1, 2, none⟩) (by go_size); have d3 := hb.cell (p := ⟨w.heap.size + 1, 3, none⟩) (by go_size); (try simp at d0 d1 d2 d3); have hs := hb.size; simp at hs))
  have hB : Below w.heap.size w w1 := sq (al2 (al _) _) hb
  simp only [World.size_alloc] at hown
  have hp0 : w.heap.size < w.heap.size + 1 + 1 := by omega
  have hp1 : w.heap.size + 1 < w.heap.size + 1 + 1 := by omega
  have hq0 : w.heap.size ≤ w.heap.size := Nat.le_refl _
  have hq1 : w.heap.size ≤ w.heap.size + 1 := by omega
  exact bodyPost_ret (v := val k n s A1 len cp) (by simp [results, Try.results14, go_sem, d0, d1, d2, d3]) rfl ⟨A1, cp, rfl,
    own_base (ownsRow_setCell_below (ownsRow_setCell_below (ownsRow_setCell_below (ownsRow_setCell_below (ownsRow_setCell_below hown hp0 _) hp1 _) hp1 _) hp1 _) hp1 _) (show w.heap.size ≤ w.heap.size + 1 + 1 by omega),
    ((((hB.setCell hq0 _).setCell hq1 _).setCell hq1 _).setCell hq1 _).setCell hq1 _⟩
end Go.Proofs.Ytapofohbngkekaa
