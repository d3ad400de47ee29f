/- 'defers.Pop': what it answers. Conditions: what comes in fits. -/
import Derived.Test.YtkkehbfceabhmaaPush
set_option maxRecDepth 20000
namespace Go.Proofs.Ytkkehbfceabhmaa
open Go.ChangeShapes Go.WideShapes Go.ChangeAt Go.RowKit
theorem defersPop_nil (A : Option Addr) (c : Nat) (w : World) : Calls Try.prog 18 #[.slice A 0 c] w fun e w' => e = .returned (.tuple #[.slice none 0 0, .agg #[.int .i64 0, .int .i64 0, .slice none 0 0], .bool false]) ∧ Below w.heap.size w w' := by
  go_enter Try.func18, Try.ntmps18
  go_wp2_with fail
  exact bodyPost_ret (v := .tuple #[.slice none 0 0, .agg #[.int .i64 0, .int .i64 0, .slice none 0 0], .bool false]) (by simp [results, Try.results18, go_sem]) rfl ⟨rfl, al _⟩
/-- What is known of the values that are made, by what is done. -/
def PopF (w0 : World) (g : Nat) (l : List CC) (x : CC) (b3 b8 b10 : Bool) (v16 : Value) (A3 : Option Addr) (c3 : Nat) (w : World) : Prop :=
  Below w0.heap.size w0 w ∧ g < w.heap.size ∧ (b3 = true → ∃ lo, g < lo ∧ lo ≤ w.heap.size ∧ Own CC.sh 25 w lo (· < lo) v16 l) ∧
  (b8 = true → CC.sh.rd w (fun b => g < b ∧ b < w.heap.size) [.int .i64 x.site, .int .i64 x.fn, .slice A3 x.args.length c3] x) ∧
  (b10 = false → w.heap[g]? = some (.cells #[.int .i64 0, .int .i64 0, .slice none 0 0] 25 (0, 0))) ∧
  (b10 = true → w.heap[g]? = some (.cells #[.int .i64 x.site, .int .i64 x.fn, .slice A3 x.args.length c3] 25 (0, 0)))
theorem PopF.below {w0 : World} {g : Nat} {l : List CC} {x : CC} {b3 b8 b10 : Bool} {v16 : Value} {A3 : Option Addr} {c3 : Nat} {w w' : World} (h : PopF w0 g l x b3 b8 b10 v16 A3 c3 w) (hb : Below w.heap.size w w') : PopF w0 g l x b3 b8 b10 v16 A3 c3 w' := by
  obtain ⟨h1, h2, h3, h4, h5, h6⟩ := h
  refine ⟨sq h1 hb, Nat.lt_of_lt_of_le h2 hb.size, fun q => ?_, fun q => ?_, fun q => (hb.block g h2).trans (h5 q), fun q => (hb.block g h2).trans (h6 q)⟩
  · obtain ⟨lo, a, b, c⟩ := h3 q
    exact ⟨lo, a, Nat.le_trans b hb.size, c.below hb⟩
  · exact CC.sh.more (CC.sh.keep (h4 q) fun p hp => hb.cell hp.2) fun b hb' => ⟨hb'.1, Nat.lt_of_lt_of_le hb'.2 hb.size⟩
@[reducible] def popFr (L : Value) (g m N : Nat) (L' P C : Value) (v16 C' : Value) (b0 b1 b2 b3 b4 b5 b6 b7 b8 b9 b11 : Bool) : Array Value :=
  #[L, undef, pickd b9 v16 (.slice none 0 0), .pointer (some ⟨g, 0, none⟩), pickd b11 (.bool true) (.bool false), .int .i64 (m : Int), L, .int .i64 (N : Int), .bool false, undef, L, .int .i64 (N : Int), .int .i64 (m : Int), pickd b0 L undef, pickd b1 (.int .i64 (m : Int)) undef, pickd b2 L' undef, pickd b3 v16 undef, pickd b4 L undef, pickd b5 (.int .i64 (m : Int)) undef, pickd b6 P undef, pickd b7 C undef, pickd b8 C' undef]
def PopI (w0 : World) (L L' P C : Value) (g m N : Nat) (l : List CC) (x : CC) (Lb : Array Bool) (a : Act) (w : World) : Prop :=
  ∃ (b0 b1 b2 b3 b4 b5 b6 b7 b8 b9 b10 b11 : Bool) (v16 : Value) (A3 : Option Addr) (c3 : Nat), Lb = #[b0, b1, b2, b3, b4, b5, b6, b7, b8, b9, b10, b11] ∧ a = { tmps := popFr L g m N L' P C v16 (.agg #[.int .i64 x.site, .int .i64 x.fn, .slice A3 x.args.length c3]) b0 b1 b2 b3 b4 b5 b6 b7 b8 b9 b11, defers := [] } ∧ PopF w0 g l x b3 b8 b10 v16 A3 c3 w ∧ (b9 = true → b3 = true) ∧ (b10 = true → b8 = true)
theorem PopF.store {w0 w : World} {g : Nat} {l : List CC} {x : CC} {b3 b8 : Bool} {v16 : Value} {A3 : Option Addr} {c3 : Nat} (h1 : Below w0.heap.size w0 w) (h2 : g < w.heap.size) (h3 : b3 = true → ∃ lo, g < lo ∧ lo ≤ w.heap.size ∧ Own CC.sh 25 w lo (· < lo) v16 l) (h4 : b8 = true → CC.sh.rd w (fun b => g < b ∧ b < w.heap.size) [.int .i64 x.site, .int .i64 x.fn, .slice A3 x.args.length c3] x)
    (hh : w.heap[g]? = some (.cells #[.int .i64 0, .int .i64 0, .slice none 0 0] 25 (0, 0))) (hg0 : w0.heap.size ≤ g) :
    PopF w0 g l x b3 b8 true v16 A3 c3 (((w.setCell ⟨g, 0, none⟩ (.int .i64 x.site)).setCell ⟨g, 1, none⟩ (.int .i64 x.fn)).setCell ⟨g, 2, none⟩ (.slice A3 x.args.length c3)) := by
  have hk : ∀ k, k ≠ g → (((w.setCell ⟨g, 0, none⟩ (.int .i64 x.site)).setCell ⟨g, 1, none⟩ (.int .i64 x.fn)).setCell ⟨g, 2, none⟩ (.slice A3 x.args.length c3)).heap[k]? = w.heap[k]? := fun k hk => by
    rw [Below.heap_setCell _ _ _ _ hk, Below.heap_setCell _ _ _ _ hk, Below.heap_setCell _ _ _ _ hk]
  refine ⟨((h1.setCell hg0 _).setCell hg0 _).setCell hg0 _, by simpa using h2, fun q => ?_, fun q => ?_, (fun h => by cases h), fun _ => ?_⟩
  · obtain ⟨lo, a, b, c⟩ := h3 q
    exact ⟨lo, a, by simpa using b, c.keep (by simp) (fun k _ hE => hk k (by omega)) (fun k hk' hE => by have := (c.ownlt hk').1; omega)⟩
  · exact CC.sh.more (CC.sh.keep (h4 q) fun p hp => World.cell?_of_block (hk p.block (by have := hp.1; omega))) fun b hb' => ⟨hb'.1, by simpa using hb'.2⟩
  · simp [World.setCell, Array.getElem?_modify, hh]
/-- A slice without its last element. -/
theorem slice_init {w : World} {M : Nat → Prop} {A : Option Addr} {c m : Nat} {l : List CC} {x : CC} (hm : l.length = m) (h : (Shp.slice CC.sh).rd w M [.slice A (m + 1) c] (l ++ [x])) : (Shp.slice CC.sh).rd w M [.slice A m c] l := by
  obtain ⟨_, _, ess, he, hlc, hcm, hA, hr, hall⟩ := h
  simp at he
  obtain ⟨rfl, _, rfl⟩ := he
  have hl2 : (l ++ [x]).length = m + 1 := by simp [hm]
  rw [hl2] at hlc hr
  have ht : Shp.all CC.sh w M (ess.take m) l := by
    have e : (l ++ [x]).take m = l := by rw [List.take_append_of_le_length (by omega), List.take_of_length_le (by omega)]
    have := hall.take m
    rwa [e] at this
  refine ⟨A, c, ess.take m, by rw [hm], by omega, hcm, hA, ⟨?_, fun hn => ?_⟩, ht⟩
  · rw [ht.flat_len]
  · obtain ⟨b, off, e, hb, hc⟩ := hr.2 (by omega)
    refine ⟨b, off, e, hb, fun j u hu => hc j u ?_⟩
    rw [flat_take hall.each, List.getElem?_take] at hu
    split at hu
    · exact hu
    · cases hu
set_option maxHeartbeats 2000000 in
theorem defersPop_t (A : Option Addr) (c m N : Nat) (l : List CC) (x : CC) (w : World) (hm : l.length = m) (hN : N = m + 1) (h : (Shp.slice CC.sh).rd w (· < w.heap.size) [.slice A N c] (l ++ [x])) (hf : N * 40 ≤ 140737488351232 ∧ ∀ y ∈ l ++ [x], CC.fits y) :
    Calls Try.prog 18 #[.slice A N c] w fun e w' => ∃ v A3 c3, e = .returned (.tuple #[v, .agg #[.int .i64 x.site, .int .i64 x.fn, .slice A3 x.args.length c3], .bool true]) ∧ Own CC.sh 25 w' w.heap.size (· < w.heap.size) v l ∧ CC.sh.rd w' (fun b => w.heap.size ≤ b ∧ b < w'.heap.size) [.int .i64 x.site, .int .i64 x.fn, .slice A3 x.args.length c3] x ∧ Below w.heap.size w w' := by
  have hcm' : (N : Int) ≤ 9223372036854775807 := by omega
  have hpt := pickd_t
  have hz0 : ((N : Int) == 0) = false := by simp; omega
  have HNm := Lib.hid (show (N : Int) - 1 = (m : Int) by omega)
  have hN0 : (0 : Int) < (N : Int) := by omega
  have hmN : m < N := by omega
  have HRD := Lib.hid (show (Shp.slice CC.sh).rd w (· < w.heap.size) [.slice A (m + 1) c] (l ++ [x]) from hN ▸ h)
  have HNN := Lib.hid hN
  obtain ⟨_, _, ess, he, hlc, hcm, hA, hr, hall⟩ := h
  simp at he
  obtain ⟨rfl, hN9, rfl⟩ := he
  clear hN9
  have hlen : (l ++ [x]).length = N := by simp [hm, hN]
  rw [hlen] at hlc hr
  obtain ⟨b, off, cs, y, rfl, hb, hx, hrd, hcell⟩ := Shp.elem hr hall hmN hlen.symm
  obtain rfl : x = y := by
    rw [List.getElem?_append_right (by omega), hm, Nat.sub_self] at hx
    simpa using hx
  obtain ⟨A2, c2, rfl, _, _, hra, _⟩ := CC.elim hrd
  have e0 := hcell 0 _ rfl
  have e1 := hcell 1 _ rfl
  have e2 := hcell 2 _ rfl
  have hsz : CC.sh.size = 3 := rfl
  rw [hsz] at e0 e1 e2
  simp only [Nat.add_zero] at e0
  have HE := Lib.hid (show ∀ w', Below w.heap.size w w' → w'.cell? ⟨b, off + m * 3, none⟩ = some (.int .i64 x.site) ∧ w'.cell? ⟨b, off + m * 3 + 1, none⟩ = some (.int .i64 x.fn) ∧ w'.cell? ⟨b, off + m * 3 + 2, none⟩ = some (.slice A2 x.args.length c2) from fun w' hw => ⟨(hw.cell (p := ⟨b, _, none⟩) hb).trans e0, (hw.cell (p := ⟨b, _, none⟩) hb).trans e1, (hw.cell (p := ⟨b, _, none⟩) hb).trans e2⟩)
  have HR := Lib.hid (show Rd w w.heap.size 1 A2 x.args.length (x.args.map (Value.int .i64)) from hra)
  have HCC := Lib.hid hrd
  have hmb : m * 40 ≤ 140737488351232 ∧ ∀ y ∈ l, CC.fits y := ⟨by omega, fun y hy => hf.2 y (by simp [hy])⟩
  have HMl := Lib.hid (show l.length * 40 ≤ 140737488351232 ∧ ∀ y ∈ l, CC.fits y by rw [hm]; exact hmb)
  have hfx : x.args.length * 8 ≤ 140737488355328 := by have : x.args.length * 8 ≤ 140737488351232 := hf.2 x (by simp); omega
  have HL1 := Lib.hid (slice_init (l := l) (x := x) hm HRD.out)
  clear hra hrd hcell hx hsz hr hall hA e0 e1 e2 hlen hcm HRD hN hm hf hmb
  go_enter Try.func18, Try.ntmps18
  go_wp2_with fail
  have hmc : m ≤ c := by omega
  rw [HNm.out]
  have hg : w.heap.size < (w.alloc (.cells #[.int .i64 0, .int .i64 0, .slice none 0 0] 25)).heap.size := by simp
  have h0 : (w.alloc (.cells #[.int .i64 0, .int .i64 0, .slice none 0 0] 25)).heap[w.heap.size]? = some (.cells #[.int .i64 0, .int .i64 0, .slice none 0 0] 25 (0, 0)) := heap_alloc_new w _
  have hb0 : Below w.heap.size w (w.alloc (.cells #[.int .i64 0, .int .i64 0, .slice none 0 0] 25)) := al _
  generalize w.alloc (.cells #[.int .i64 0, .int .i64 0, .slice none 0 0] 25) = W at *
  have H0 := Lib.hid h0
  have HB0 := Lib.hid hb0
  clear h0 hb0
  refine wp_region_any (by kernel_rfl) ?_
  refine wpAny_inv (PopI w (.slice (some ⟨b, off, none⟩) N c) (.slice (some ⟨b, off, none⟩) m c) (.pointer (some ⟨b, off + m * 3, none⟩)) (.agg #[.int .i64 x.site, .int .i64 x.fn, .slice A2 x.args.length c2]) w.heap.size m N l x) ?done ?step _ _ _ _ (by simp) (by simp [left]) ?init
  case init => exact ⟨false, false, false, false, false, false, false, false, false, false, false, false, undef, none, 0, rfl, rfl, ⟨HB0.out.drew, hg, (fun h => by cases h), (fun h => by cases h), fun _ => H0.out, (fun h => by cases h)⟩, (fun h => by cases h), (fun h => by cases h)⟩
  case done =>
    rintro Lb a w' ⟨b0, b1, b2, b3, b4, b5, b6, b7, b8, b9, b10, b11, v16, A3, c3, rfl, rfl, hF, hc9, hc10⟩ hs hr
    have hall : b3 = true ∧ b8 = true ∧ b9 = true ∧ b10 = true ∧ b11 = true := by
      have hno : ∀ i, i ∉ Region.ready Region.Mode.any _ _ := fun i hi => by rw [hr] at hi; cases hi
      have q0 := hno 0
      have q1 := hno 1
      have q2 := hno 2
      have q3 := hno 3
      have q4 := hno 4
      have q5 := hno 5
      have q6 := hno 6
      have q7 := hno 7
      have q8 := hno 8
      have q9 := hno 9
      have q10 := hno 10
      have q11 := hno 11
      clear hno hr hs hF
      simp [Region.ready, List.mem_filter, Region.binds] at q0 q1 q2 q3 q4 q5 q6 q7 q8 q9 q10 q11
      simp_all
    obtain ⟨rfl, rfl, rfl, rfl, rfl⟩ := hall
    clear hr hs
    obtain ⟨f1, f2, f3, f4, f5, f6⟩ := hF
    obtain ⟨lo, p1, p2, hown⟩ := f3 rfl
    have hx := f4 rfl
    have hh := f6 rfl
    have d0 : w'.cell? ⟨w.heap.size, 0, none⟩ = some (.int .i64 x.site) := Lib.cell_of_heap hh 0
    have d1 : w'.cell? ⟨w.heap.size, 1, none⟩ = some (.int .i64 x.fn) := Lib.cell_of_heap hh 1
    have d2 : w'.cell? ⟨w.heap.size, 2, none⟩ = some (.slice A3 x.args.length c3) := Lib.cell_of_heap hh 2
    clear f3 f4 f5 f6
    simp only [popFr, pickd_t]
    go_wp2_with fail
    exact bodyPost_ret (v := .tuple #[v16, .agg #[.int .i64 x.site, .int .i64 x.fn, .slice A3 x.args.length c3], .bool true]) (by simp [results, Try.results18, go_sem, d0, d1, d2]) rfl ⟨v16, A3, c3, rfl, (hown.base (Nat.le_of_lt p1)).lessE (fun b hb => Nat.lt_trans hb p1), CC.sh.more hx fun b hb => ⟨Nat.le_of_lt hb.1, hb.2⟩, f1⟩
  case step =>
    rintro Lb a w' i ⟨b0, b1, b2, b3, b4, b5, b6, b7, b8, b9, b10, b11, v16, A3, c3, rfl, rfl, hF, hc9, hc10⟩ hs hi
    have hi16 := (ready_mem hi).1
    simp only [List.size_toArray, List.length_cons, List.length_nil] at hi16
    obtain rfl | rfl | rfl | rfl | rfl | rfl | rfl | rfl | rfl | rfl | rfl | rfl : i = 0 ∨ i = 1 ∨ i = 2 ∨ i = 3 ∨ i = 4 ∨ i = 5 ∨ i = 6 ∨ i = 7 ∨ i = 8 ∨ i = 9 ∨ i = 10 ∨ i = 11 := by omega
    · simp [Region.ready, List.mem_filter, Region.binds] at hi
      subst hi
      clear hs hi16
      refine wpOp_run rfl rfl ?_
      go_simp
      exact ⟨true, b1, b2, b3, b4, b5, b6, b7, b8, b9, b10, b11, v16, A3, c3, rfl, rfl, hF, hc9, hc10⟩
    · simp [Region.ready, List.mem_filter, Region.binds] at hi
      subst hi
      clear hs hi16
      refine wpOp_run rfl rfl ?_
      go_simp
      exact ⟨b0, true, b2, b3, b4, b5, b6, b7, b8, b9, b10, b11, v16, A3, c3, rfl, rfl, hF, hc9, hc10⟩
    · simp [Region.ready, List.mem_filter, Region.binds] at hi
      have hall : b2 = false ∧ b0 = true ∧ b1 = true := by simp [hi]
      clear hi
      obtain ⟨rfl, rfl, rfl⟩ := hall
      clear hs hi16
      refine wpOp_run rfl rfl ?_
      go_simp
      exact ⟨true, true, true, b3, b4, b5, b6, b7, b8, b9, b10, b11, v16, A3, c3, rfl, rfl, hF, hc9, hc10⟩
    · simp [Region.ready, List.mem_filter, Region.binds] at hi
      have hall : b3 = false ∧ b2 = true := by simp [hi]
      clear hi
      obtain ⟨rfl, rfl⟩ := hall
      clear hs hi16
      obtain rfl : b9 = false := by
        cases b9
        · rfl
        · have := hc9 rfl; cases this
      refine wpOp_run rfl rfl ?_
      go_simp
      have hlm : (Shp.slice CC.sh).rd w' (· < w'.heap.size) [.slice (some ⟨b, off, none⟩) m c] l := Shp.into (S := Shp.slice CC.sh) HL1.out hF.1 hF.1.size
      refine (defersAll_any _ m c l _ hlm (HMl.out)).mono ?_
      rintro e w2 ⟨v16', rfl, hown, hb2⟩
      go_simp
      obtain ⟨f1, f2, f3, f4, f5, f6⟩ := hF.below hb2
      exact ⟨b0, b1, true, true, b4, b5, b6, b7, b8, false, b10, b11, v16', A3, c3, rfl, rfl, ⟨f1, f2, fun _ => ⟨w'.heap.size, hF.2.1, hb2.size, hown⟩, f4, f5, f6⟩, fun _ => rfl, hc10⟩
    · simp [Region.ready, List.mem_filter, Region.binds] at hi
      subst hi
      clear hs hi16
      refine wpOp_run rfl rfl ?_
      go_simp
      exact ⟨b0, b1, b2, b3, true, b5, b6, b7, b8, b9, b10, b11, v16, A3, c3, rfl, rfl, hF, hc9, hc10⟩
    · simp [Region.ready, List.mem_filter, Region.binds] at hi
      subst hi
      clear hs hi16
      refine wpOp_run rfl rfl ?_
      go_simp
      exact ⟨b0, b1, b2, b3, b4, true, b6, b7, b8, b9, b10, b11, v16, A3, c3, rfl, rfl, hF, hc9, hc10⟩
    · simp [Region.ready, List.mem_filter, Region.binds] at hi
      have hall : b6 = false ∧ b4 = true ∧ b5 = true := by simp [hi]
      clear hi
      obtain ⟨rfl, rfl, rfl⟩ := hall
      clear hs hi16
      refine wpOp_run rfl rfl ?_
      go_simp
      exact ⟨b0, b1, b2, b3, true, true, true, b7, b8, b9, b10, b11, v16, A3, c3, rfl, rfl, hF, hc9, hc10⟩
    · simp [Region.ready, List.mem_filter, Region.binds] at hi
      have hall : b7 = false ∧ b6 = true := by simp [hi]
      clear hi
      obtain ⟨rfl, rfl⟩ := hall
      clear hs hi16
      obtain ⟨e0, e1, e2⟩ := HE.out w' hF.1
      refine wpOp_run rfl rfl ?_
      go_simp
      exact ⟨b0, b1, b2, b3, b4, b5, true, true, b8, b9, b10, b11, v16, A3, c3, rfl, rfl, hF, hc9, hc10⟩
    · simp [Region.ready, List.mem_filter, Region.binds] at hi
      have hall : b8 = false ∧ b7 = true ∧ b3 = true := by simp [hi]
      clear hi
      obtain ⟨rfl, rfl, rfl⟩ := hall
      clear hs hi16
      obtain rfl : b10 = false := by
        cases b10
        · rfl
        · have := hc10 rfl; cases this
      refine wpOp_run rfl rfl ?_
      go_simp
      refine (copied_any x.site x.fn A2 _ c2 x.args _ ((HR.out.below hF.1).more hF.1.size) hfx).mono ?_
      rintro e w2 ⟨A3', c3', rfl, hown, hb2⟩
      go_simp
      obtain ⟨f1, f2, f3, f4, f5, f6⟩ := hF.below hb2
      obtain ⟨_, _, _, hi1, hi2, _, _, _, _, hz⟩ := CC.elim HCC.out
      obtain ⟨q1, q2, q3⟩ := own_cap hown
      have hnew := CC.intro (v := x) hi1 hi2 (RdM.of_own hown) ⟨q1, q2, q3⟩ hz
      exact ⟨b0, b1, b2, true, b4, b5, b6, true, true, b9, false, b11, v16, A3', c3', rfl, rfl, ⟨f1, f2, f3, fun _ => CC.sh.more hnew fun b hb => ⟨Nat.lt_of_lt_of_le hF.2.1 hb.1, hb.2⟩, f5, (fun h => by cases h)⟩, hc9, (fun h => by cases h)⟩
    · simp [Region.ready, List.mem_filter, Region.binds] at hi
      have hall : b9 = false ∧ b3 = true ∧ b8 = true := by simp [hi]
      clear hi
      obtain ⟨rfl, rfl, rfl⟩ := hall
      clear hs hi16
      refine wpOp_run rfl rfl ?_
      go_simp
      exact ⟨b0, b1, b2, true, b4, b5, b6, b7, true, true, b10, b11, v16, A3, c3, rfl, rfl, hF, fun _ => rfl, hc10⟩
    · simp [Region.ready, List.mem_filter, Region.binds] at hi
      have hall : b10 = false ∧ b8 = true ∧ b9 = true := by simp [hi]
      clear hi
      obtain ⟨rfl, rfl, rfl⟩ := hall
      clear hs hi16
      obtain rfl : b3 = true := hc9 rfl
      obtain ⟨f1, f2, f3, f4, f5, f6⟩ := hF
      have hh := f5 rfl
      have d0 : w'.cell? ⟨w.heap.size, 0, none⟩ = some (.int .i64 0) := Lib.cell_of_heap hh 0
      have d1 : w'.cell? ⟨w.heap.size, 1, none⟩ = some (.int .i64 0) := Lib.cell_of_heap hh 1
      have d2 : w'.cell? ⟨w.heap.size, 2, none⟩ = some (.slice none 0 0) := Lib.cell_of_heap hh 2
      have z0 := Lib.frozen_of_heap hh 0
      have z1 := Lib.frozen_of_heap hh 1
      have z2 := Lib.frozen_of_heap hh 2
      have HH := Lib.hid hh
      clear hh
      refine wpOp_run rfl rfl ?_
      go_simp
      exact ⟨b0, b1, b2, true, b4, b5, b6, b7, true, true, true, b11, v16, A3, c3, rfl, rfl, PopF.store f1 f2 f3 f4 HH.out (Nat.le_refl _), hc9, fun _ => rfl⟩
    · simp [Region.ready, List.mem_filter, Region.binds] at hi
      have hall : b11 = false ∧ b10 = true := by simp [hi]
      clear hi
      obtain ⟨rfl, rfl⟩ := hall
      clear hs hi16
      obtain rfl : b8 = true := hc10 rfl
      refine wpOp_run rfl rfl ?_
      go_simp
      exact ⟨b0, b1, b2, b3, b4, b5, b6, b7, true, b9, true, true, v16, A3, c3, rfl, rfl, hF, hc9, hc10⟩
end Go.Proofs.Ytkkehbfceabhmaa
