/- 'value.Plain' and the document's PlainValue answer alike. Conditions: none. -/
import Derived.Test.YtniepfpjklccmacSame
set_option maxRecDepth 20000
namespace Go.Proofs.Ytniepfpjklccmac
open Go.ChangeShapes Go.WideShapes Go.ChangeAt Go.RowKit
theorem refEqual_any (k n : Int) (s : ByteArray) (A : Option Addr) (len cap : Nat) (zs : List Int) (k' n' : Int) (s' : ByteArray) (A' : Option Addr) (len' cap' : Nat) (zs' : List Int) (w : World) (hx : Rd w w.heap.size 1 A len (zs.map (Value.int .i64))) (hy : Rd w w.heap.size 1 A' len' (zs'.map (Value.int .i64))) (hn : len * 8 ≤ 140737488355328) (hn' : len' * 8 ≤ 140737488355328) :
    Calls Try.prog 21 #[val k n s A len cap, val k' n' s' A' len' cap'] w fun e w' => e = .returned (.bool (k == k' && n == n' && s.toList == s'.toList && zs == zs')) ∧ Below w.heap.size w w' := by
  go_enter Try.func21, Try.ntmps21
  go_wp2_with (go_at_call 57; refine (refSameInts_any _ _ _ _ _ _ zs zs' _ _ _ ((hx.alloc (Nat.le_refl _) _).alloc (by simp) _) ((hy.alloc (Nat.le_refl _) _).alloc (by simp) _) hn hn').mono ?_; rintro e w2 ⟨rfl, m, rfl⟩)
  all_goals
    go_ret
    refine ⟨by simp_all, ?_⟩
    first | exact al2 (al _) _ | exact dr (al2 (al _) _) _
def plK (k : Int) : Int := if k == 2 || k == 1 || k == 7 || k == 8 || k == 3 || k == 5 || k == 6 || k == 4 then k else 0
def plN (k n : Int) : Int := if k == 2 then (if n != 0 then 1 else 0) else if k == 1 || k == 7 || k == 8 then n else 0
def plS (k : Int) (s : ByteArray) : ByteArray := if k == 3 || k == 5 then s else ⟨#[]⟩
def plL (k : Int) (zs : List Int) : List Int := if k == 6 then zs else []
/-- What is behind a Plain: the value, its list in memory of the call's own. -/
def PlPost (k n : Int) (s : ByteArray) (zs : List Int) (w : World) (e : Ending) (w' : World) : Prop :=
  ∃ A' len' c', e = .returned (val (plK k) (plN k n) (plS k s) A' len' c') ∧ w'.ownsRow w.heap.size 3 1 (.slice A' len' c') len' ((plL k zs).map (Value.int .i64)) ∧ Below w.heap.size w w'
theorem PlPost.nil {k n : Int} {s : ByteArray} {zs : List Int} {w w' : World} {x y : Int} {t : ByteArray} (hx : x = plK k) (hy : y = plN k n) (ht : t = plS k s) (hl : (k == 6) = false) (hb : Below w.heap.size w w') : PlPost k n s zs w (.returned (val x y t none 0 0)) w' := by
  subst hx hy ht
  refine ⟨none, 0, 0, rfl, ?_, hb⟩
  have e : plL k zs = [] := by unfold plL; rw [hl]; rfl
  rw [e]
  exact World.ownsRow_nil _ _ _ _
set_option maxHeartbeats 2000000 in
theorem valuePlain_any (k n : Int) (s : ByteArray) (A : Option Addr) (len cap : Nat) (zs : List Int) (w : World) (hx : Rd w w.heap.size 1 A len (zs.map (Value.int .i64))) (hn : len * 8 ≤ 140737488355328) :
    Calls Try.prog 20 #[val k n s A len cap] w (PlPost k n s zs w) := by
  go_enter Try.func20, Try.ntmps20
  by_cases h6 : (k == 6) = true
  · have hk : k = 6 := by simpa using h6
    subst hk
    go_wp2_with fail
    refine (clone_any _ _ _ zs _ ((((hx.alloc (Nat.le_refl _) _).alloc (by simp) _).alloc (by simp; omega) _).more (by simp; omega)) hn).mono ?_
    rintro e w1 ⟨A1, cp, rfl, hown, hb⟩
    have d0 := hb.cell (p := ⟨w.heap.size + 1, 0, none⟩) (by go_size); have d1 := hb.cell (p := ⟨w.heap.size + 1, 1, none⟩) (by go_size); have d2 := hb.cell (p := ⟨w.heap.size + 1, 2, none⟩) (by go_size); have d3 := hb.cell (p := ⟨w.heap.size + 1, 3, none⟩) (by go_size); (try simp at d0 d1 d2 d3)
    have f0 := hb.frozen (p := ⟨w.heap.size + 1, 0, none⟩) (by go_size); have f1 := hb.frozen (p := ⟨w.heap.size + 1, 1, none⟩) (by go_size); have f2 := hb.frozen (p := ⟨w.heap.size + 1, 2, none⟩) (by go_size); have f3 := hb.frozen (p := ⟨w.heap.size + 1, 3, none⟩) (by go_size); (try simp at f0 f1 f2 f3)
    have c0 := hb.cell (p := ⟨w.heap.size + 1 + 1, 0, none⟩) (by go_size); have c1 := hb.cell (p := ⟨w.heap.size + 1 + 1, 1, none⟩) (by go_size); have c2 := hb.cell (p := ⟨w.heap.size + 1 + 1, 2, none⟩) (by go_size); have c3 := hb.cell (p := ⟨w.heap.size + 1 + 1, 3, none⟩) (by go_size); (try simp at c0 c1 c2 c3)
    have g0 := hb.frozen (p := ⟨w.heap.size + 1 + 1, 0, none⟩) (by go_size); have g1 := hb.frozen (p := ⟨w.heap.size + 1 + 1, 1, none⟩) (by go_size); have g2 := hb.frozen (p := ⟨w.heap.size + 1 + 1, 2, none⟩) (by go_size); have g3 := hb.frozen (p := ⟨w.heap.size + 1 + 1, 3, none⟩) (by go_size); (try simp at g0 g1 g2 g3)
    have hs := hb.size
    simp at hs
    go_wp2_with fail
    have hB : Below w.heap.size w w1 := sq (al2 (al2 (al _) _) _) hb
    simp only [World.size_alloc] at hown
    have hp1 : w.heap.size + 1 < w.heap.size + 1 + 1 + 1 := by omega
    have hp2 : w.heap.size + 1 + 1 < w.heap.size + 1 + 1 + 1 := by omega
    have hq1 : w.heap.size ≤ w.heap.size + 1 := by omega
    have hq2 : w.heap.size ≤ w.heap.size + 1 + 1 := by omega
    exact bodyPost_ret (v := val 6 0 ⟨#[]⟩ A1 len cp) (by simp [results, Try.results20, go_sem, d0, d1, d2, d3]) rfl ⟨A1, len, cp, rfl,
      own_base (ownsRow_setCell_below (ownsRow_setCell_below (ownsRow_setCell_below (ownsRow_setCell_below (ownsRow_setCell_below hown hp2 _) hp1 _) hp1 _) hp1 _) hp1 _) (show w.heap.size ≤ w.heap.size + 1 + 1 + 1 by omega),
      ((((hB.setCell hq2 _).setCell hq1 _).setCell hq1 _).setCell hq1 _).setCell hq1 _⟩
  · have h6' : (k == 6) = false := by simpa using h6
    go_wp2_with fail
    all_goals
      refine bodyPost_ret (v := val (plK k) (plN k n) (plS k s) none 0 0) ?_ rfl (PlPost.nil rfl rfl rfl h6' ?_)
      · simp_all [results, Try.results20, go_sem, plK, plN, plS]
      · exact ((al2 (al2 (al _) _) _))
set_option maxHeartbeats 2000000 in
theorem refPlain_any (k n : Int) (s : ByteArray) (A : Option Addr) (len cap : Nat) (zs : List Int) (w : World) (hx : Rd w w.heap.size 1 A len (zs.map (Value.int .i64))) (hn : len * 8 ≤ 140737488355328) :
    Calls Try.prog 22 #[val k n s A len cap] w (PlPost k n s zs w) := by
  obtain ⟨i0, hi0, hz0, hz1, hz2⟩ := info_parts info_int
  go_enter Try.func22, Try.ntmps22
  by_cases h6 : (k == 6) = true
  · have hk : k = 6 := by simpa using h6
    subst hk
    go_wp2_with (at_builtin; go_loud (refine wpList_append_new _ rfl _ _ 22 rfl 3 i0 _ 1 8 Try.underlying22 hi0 hz0 hz1 hz2 rfl (by omega) rfl w.heap.size A len cap (zs.map (Value.int .i64)) rfl (((hx.alloc (Nat.le_refl _) _).alloc (by simp) _).alloc (by simp; omega) _) (ints_oneCell _ _) hn (by unfold maxLen; omega) ?_; intro A1 cp w1 hown hb; have d0 := hb.cell (p := ⟨w.heap.size + 1, 0, none⟩) (by go_size); have d1 := hb.cell (p := ⟨w.heap.size + 1, 1, none⟩) (by go_size); have d2 := hb.cell (p := ⟨w.heap.size + 1, 2, none⟩) (by go_size); have d3 := hb.cell (p := ⟨w.heap.size + 1, 3, none⟩) (by go_size); (try simp at d0 d1 d2 d3); have f0 := hb.frozen (p := ⟨w.heap.size + 1, 0, none⟩) (by go_size); have f1 := hb.frozen (p := ⟨w.heap.size + 1, 1, none⟩) (by go_size); have f2 := hb.frozen (p := ⟨w.heap.size + 1, 2, none⟩) (by go_size); have f3 := hb.frozen (p := ⟨w.heap.size + 1, 3, none⟩) (by go_size); (try simp at f0 f1 f2 f3); have c0 := hb.cell (p := ⟨w.heap.size + 1 + 1, 0, none⟩) (by go_size); have c1 := hb.cell (p := ⟨w.heap.size + 1 + 1, 1, none⟩) (by go_size); have c2 := hb.cell (p := ⟨w.heap.size + 1 + 1, 2, none⟩) (by go_size); have c3 := hb.cell (p := ⟨w.heap.size + 1 + 1, 3, none⟩) (by go_size); (try simp at c0 c1 c2 c3); have g0 := hb.frozen (p := ⟨w.heap.size + 1 + 1, 0, none⟩) (by go_size); have g1 := hb.frozen (p := ⟨w.heap.size + 1 + 1, 1, none⟩) (by go_size); have g2 := hb.frozen (p := ⟨w.heap.size + 1 + 1, 2, none⟩) (by go_size); have g3 := hb.frozen (p := ⟨w.heap.size + 1 + 1, 3, none⟩) (by go_size); (try simp at g0 g1 g2 g3); have hs := hb.size; simp at hs))
    have hB : Below w.heap.size w w1 := sq (al2 (al2 (al _) _) _) hb
    simp only [World.size_alloc] at hown
    have hp1 : w.heap.size + 1 < w.heap.size + 1 + 1 + 1 := by omega
    have hp2 : w.heap.size + 1 + 1 < w.heap.size + 1 + 1 + 1 := by omega
    have hq1 : w.heap.size ≤ w.heap.size + 1 := by omega
    have hq2 : w.heap.size ≤ w.heap.size + 1 + 1 := by omega
    exact bodyPost_ret (v := val 6 0 ⟨#[]⟩ A1 len cp) (by simp [results, Try.results22, go_sem, d0, d1, d2, d3]) rfl ⟨A1, len, cp, rfl,
      own_base (ownsRow_setCell_below (ownsRow_setCell_below (ownsRow_setCell_below (ownsRow_setCell_below (ownsRow_setCell_below hown hp2 _) hp1 _) hp1 _) hp1 _) hp1 _) (show w.heap.size ≤ w.heap.size + 1 + 1 + 1 by omega),
      ((((hB.setCell hq2 _).setCell hq1 _).setCell hq1 _).setCell hq1 _).setCell hq1 _⟩
  · have h6' : (k == 6) = false := by simpa using h6
    go_wp2_with fail
    all_goals
      refine bodyPost_ret (v := val (plK k) (plN k n) (plS k s) none 0 0) ?_ rfl (PlPost.nil rfl rfl rfl h6' ?_)
      · simp_all [results, Try.results22, go_sem, plK, plN, plS]
        try first
          | (split <;> omega)
          | (refine ⟨fun h => by omega, ?_, fun h => by omega⟩; rw [if_neg (by omega), if_neg (by omega)])
      · exact ((al2 (al2 (al _) _) _))
end Go.Proofs.Ytniepfpjklccmac
