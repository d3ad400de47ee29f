/- The law DefersOrders is true. Conditions: none. -/
import Derived.Test.YtkkehbfceabhmaaOrdT
import Derived.Test.YtkkehbfceabhmaaOrdF
import Derived.Test.YtkkehbfceabhmaaPopLaw
set_option maxRecDepth 20000
namespace Go.Proofs.Ytkkehbfceabhmaa
open Go.ChangeShapes Go.WideShapes Go.ChangeAt Go.RowKit
theorem order_any (op : Bool) (A : Option Addr) (c : Nat) (l : List CC) (w : World) (h : (Shp.slice CC.sh).rd w (· < w.heap.size) [.slice A l.length c] l) (hf : l.length * 40 ≤ 140737488351232 ∧ ∀ y ∈ l, CC.fits y) :
    Calls Try.prog 27 #[.bool op, .slice A l.length c] w (OrdP op l w) := by
  cases op
  · exact order_f A c l w h hf
  · exact order_t A c l w h hf
theorem one_ok : ∀ k < [oneCC].length, okAt [oneCC] k := fun k hk => by
  have hk0 : k = 0 := by simp at hk; exact hk
  subst hk0
  exact ⟨by decide, by decide, .inl rfl⟩
theorem order_one (w : World) (g : Nat) (hg : g = w.heap.size) : Calls Try.prog 27 #[.bool true, .slice (some ⟨g, 0, none⟩) 1 1] (w.alloc (.cells oneCCs 25)) fun e w' => ∃ A c, e = .returned (.tuple #[.slice A 1 c, .int .i64 0]) ∧ Below (w.alloc (.cells oneCCs 25)).heap.size (w.alloc (.cells oneCCs 25)) w' := by
  refine (order_any true (some ⟨g, 0, none⟩) 1 [oneCC] _ (oneCC_rd w g hg) oneCC_fits).mono ?_
  rintro e w' (⟨_, v, rfl, hr, hb⟩ | ⟨⟨_, k, hk, hn⟩, _⟩)
  · obtain ⟨A, c, rfl⟩ := sl_form hr
    exact ⟨A, c, rfl, hb⟩
  · exact absurd (one_ok k hk) hn
theorem rd_nilcc (w : World) : (Shp.slice CC.sh).rd w (· < w.heap.size) [.slice none 0 0] [] :=
  ⟨none, 0, [], rfl, by simp, by unfold maxLen; simp, .inl rfl, RdM.nil, .nil⟩
set_option maxHeartbeats 4000000 in
theorem walkDefersOrders (v0 v1 : Value) (w : World) (w0 : IsBool v0) (w1 : IsCalls w v1) : Calls Try.prog 8 #[v0, v1] w fun e w' => e = .returned (.bool true) ∧ Below w.heap.size w w' := by
  obtain ⟨op, rfl⟩ := w0
  obtain ⟨l, hl, hf⟩ := w1
  obtain ⟨A, c, rfl⟩ := sl_form hl
  have HL := Lib.hid hl
  have HF := Lib.hid hf
  have HFr := Lib.hid (show l.reverse.length * 40 ≤ 140737488355328 ∧ ∀ y ∈ l.reverse, CC.fits y from ⟨by rw [List.length_reverse]; omega, fun y hy => hf.2 y (List.mem_reverse.1 hy)⟩)
  clear hl hf
  go_enter Try.func8, Try.ntmps8
  go_wp2_with fail
  refine (calls_any A _ c l _ HL.out HF.out).mono ?_
  rintro e wa ⟨va, rfl, howna, hba⟩
  have hra := howna.read
  obtain ⟨A1, c1, rfl⟩ := sl_form hra
  clear howna
  go_wp2_with fail
  refine (order_any op A1 c1 l _ hra HF.out).mono ?_
  intro e wb hP
  rcases hP with ⟨hok, vb, rfl, hrb, hbb⟩ | ⟨hbad, rfl, hbb⟩
  · obtain ⟨A2, c2, rfl⟩ := sl_form hrb
    rw [List.length_reverse] at hrb
    have hB := sq hba hbb
    have HOk := Lib.hid hok
    clear hok hra
    go_wp2_with fail
    refine (started_any op A c l _ (Shp.into (S := Shp.slice CC.sh) HL.out hB hB.size) HF.out.1).mono ?_
    intro e wc hP
    rcases hP with ⟨_, vc, rfl, hrc, hbc⟩ | ⟨hbad, _, _⟩
    · obtain ⟨A3, c3, rfl⟩ := sl_form hrc
      rw [List.length_reverse] at hrc
      have hB2 := sq hB hbc
      have HRB := Lib.hid (Shp.into (S := Shp.slice CC.sh) hrb hbc hbc.size)
      have HRC := Lib.hid hrc
      clear hrb hrc
      go_wp2_with fail
      refine (order_one wc _ rfl).mono ?_
      rintro e wd ⟨A4, c4, rfl, hbd⟩
      have hB3 := sq (al (w := wc) _) hbd
      go_wp2_with fail
      refine (sameCalls_v _ _ l.reverse _ (Shp.into (S := Shp.slice CC.sh) HRB.out hB3 hB3.size) (Shp.into (S := Shp.slice CC.sh) HRC.out hB3 hB3.size) HFr.out).mono ?_
      rintro e we ⟨rfl, hbe⟩
      go_wp2_with fail
      go_ret
      exact ⟨rfl, sq (sq hB2 hB3) hbe⟩
    · obtain ⟨h1, k, hk, hn⟩ := hbad
      exact absurd (HOk.out h1 k hk) hn
  · have hB := sq hba hbb
    have HBad := Lib.hid hbad
    clear hbad hra
    go_wp2_with fail
    refine (started_any op A c l _ (Shp.into (S := Shp.slice CC.sh) HL.out hB hB.size) HF.out.1).mono ?_
    intro e wc hP
    rcases hP with ⟨hok, _⟩ | ⟨_, rfl, hbc⟩
    · obtain ⟨h1, k, hk, hn⟩ := HBad.out
      exact absurd (hok h1 k hk) hn
    · have hB2 := sq hB hbc
      go_wp2_with fail
      refine (order_one wc _ rfl).mono ?_
      rintro e wd ⟨A4, c4, rfl, hbd⟩
      have hB3 := sq (al (w := wc) _) hbd
      go_wp2_with fail
      refine (sameCalls_v _ _ [] _ (rd_nilcc _) (rd_nilcc _) ⟨by simp, by simp⟩).mono ?_
      rintro e we ⟨rfl, hbe⟩
      go_wp2_with fail
      go_ret
      exact ⟨rfl, sq (sq hB2 hB3) hbe⟩
end Go.Proofs.Ytkkehbfceabhmaa
