/- The heap's Alloc. Conditions: none. -/
import Derived.Test.YthogfcdgbodccaaHpI
set_option maxRecDepth 100000
namespace Go.Proofs.Ythogfcdgbodccaa
open Go.ChangeShapes Go.WideShapes Go.ChangeAt Go.RowKit
def alR (bs : List BK) (room : Nat) (sh n : Int) : Int × Int × List BK :=
  if sh < 1 ∨ 4 < sh then (0, 13, bs) else if n < 0 ∨ 300 < n then (0, 14, bs) else match insB sh n.toNat 0 bs room with | none => (0, 15, bs) | some p => ((p.1 : Int), 0, p.2)
theorem own_frozen {w : World} {base g n c size : Nat} {e : TypeId} {xs : List Value} (h : w.ownsRow base e size (.slice (some ⟨g, 0, none⟩) n c) n xs) (k : Nat) : w.frozen? ⟨g, k, none⟩ = false := by
  obtain ⟨_, _, cur, e, _, e2, _⟩ := (h.2).resolve_left (fun e => by cases e.1)
  injection e with e
  injection e with e
  injection e with e
  subst e
  exact Lib.frozen_of_heap e2 _
/-- A block put in: what the three rows hold behind it. -/
theorem HPc.insC {w w1 : World} {base P room : Nat} {bs bs' : List BK} {cells : List (Int × Int)} {shapes : List Int} {C Z S n0 n1 n2 n a : Nat} {sh : Int} (h : HPc w base P room bs cells shapes (.slice (some ⟨C, 0, none⟩) room n0) (.slice (some ⟨Z, 0, none⟩) room n1) (.slice (some ⟨S, 0, none⟩) room n2)) (hi : insB sh n 0 bs room = some (a, bs'))
    (hown : w1.ownsRow base 36 2 (.slice (some ⟨C, 0, none⟩) room n0) room ((ceL cells).take (a * 2) ++ List.replicate ((n + 1) * 2) (Value.int .i64 0) ++ (ceL cells).drop (a * 2 + (n + 1) * 2))) (hg : w.grownBy w1 (some C)) :
    HPc ((w1.setCell ⟨Z, a, none⟩ (.int .i64 ((n : Int) + 1))).setCell ⟨S, a, none⟩ (.int .i64 sh)) base P room bs' (cells.take a ++ List.replicate (n + 1) (0, 0) ++ cells.drop (a + (n + 1))) (shapes.set a sh) (.slice (some ⟨C, 0, none⟩) room n0) (.slice (some ⟨Z, 0, none⟩) room n1) (.slice (some ⟨S, 0, none⟩) room n2) := by
  rw [show (n : Int) + 1 = ((n + 1 : Nat) : Int) by omega]
  obtain ⟨hfit, _, har⟩ := insB_fit h.fit hi
  have hsz := insB_sz h.fit hi
  rw [Nat.sub_zero] at hsz
  have hPC : P ≠ C := fun e => own_neP h.cel h.box (by decide) (by rw [e]; rfl)
  have hPZ : P ≠ Z := fun e => own_neP h.siz h.box (by decide) (by rw [e]; rfl)
  have hPS : P ≠ S := fun e => own_neP h.sha h.box (by decide) (by rw [e]; rfl)
  have hCZ : C ≠ Z := fun e => own_ne h.siz h.cel (by decide) Z rfl (by rw [e]; rfl)
  have hCS : C ≠ S := fun e => own_ne h.sha h.cel (by decide) S rfl (by rw [e]; rfl)
  have hZS : Z ≠ S := fun e => h.dis Z rfl (by rw [e]; rfl)
  have hlt := (Array.getElem?_eq_some_iff.1 h.box).1
  rw [ceL_clear] at hown
  have hz1 : w1.ownsRow base 3 1 (.slice (some ⟨Z, 0, none⟩) room n1) room ((szL 0 bs room).map (Value.int .i64)) := h.siz.kept hg (.inr (by simp [Value.ownBlock]; exact fun e => hCZ e.symm))
  have hs1 : w1.ownsRow base 3 1 (.slice (some ⟨S, 0, none⟩) room n2) room (shapes.map (Value.int .i64)) := h.sha.kept hg (.inr (by simp [Value.ownBlock]; exact fun e => hCS e.symm))
  refine ⟨h.hP, ?_, ?_, ?_, ?_, h.dis, ?_, by rw [List.length_set]; exact h.ls, hfit, ?_⟩
  · exact (Below.heap_setCell _ _ _ _ hPS).trans ((Below.heap_setCell _ _ _ _ hPZ).trans ((hg.block P hlt (fun e => by injection e with e; exact hPC e)).trans h.box))
  · exact own_stay (own_stay hown fun b hb => Below.heap_setCell _ _ _ _ (fun e => by injection hb with hb; exact hCZ (hb.trans e))) fun b hb => Below.heap_setCell _ _ _ _ (fun e => by injection hb with hb; exact hCS (hb.trans e))
  · have := own_setC hz1 (.int .i64 ((n + 1 : Nat) : Int)) (k := a)
    rw [← List.map_set, ← hsz] at this
    exact own_stay this fun b hb => Below.heap_setCell _ _ _ _ (fun e => by injection hb with hb; exact hZS (hb.trans e))
  · have := own_setC (own_stay hs1 fun b hb => Below.heap_setCell w1 ⟨Z, a, none⟩ (.int .i64 ((n + 1 : Nat) : Int)) _ (fun e => by injection hb with hb; exact hZS (e.symm.trans hb.symm))) (.int .i64 sh) (k := a)
    rw [← List.map_set] at this
    exact this
  · have := h.lc
    simp only [List.length_append, List.length_take, List.length_replicate, List.length_drop]
    omega
  · have hl := h.lc
    refine h.row.ins h.fit hi (by rw [h.ls]; omega) (fun j hj => ?_) fun k hk => ?_
    · rw [List.append_assoc, List.getElem?_append_right (by rw [List.length_take]; omega), List.getElem?_append_left (by rw [List.length_take, List.length_replicate]; omega), List.getElem?_replicate, if_pos (by rw [List.length_take]; omega)]
    · rcases hk with hk | hk
      · rw [List.append_assoc, List.getElem?_append_left (by rw [List.length_take]; omega), List.getElem?_take, if_pos hk]
      · rw [List.getElem?_append_right (by rw [List.length_append, List.length_take, List.length_replicate]; omega), List.getElem?_drop]
        congr 1
        rw [List.length_append, List.length_take, List.length_replicate]
        omega
set_option maxHeartbeats 4000000 in
theorem alloc_in {w : World} {M : Nat → Prop} {P room : Nat} {bs bs' : List BK} (h : HM w M P room bs) (sh : Int) (n a : Nat) (h63 : room ≤ 4000) (hs : 1 ≤ sh ∧ sh ≤ 4) (hn : n ≤ 300) (hi : insB sh n 0 bs room = some (a, bs')) :
    Calls Try.prog 18 #[.pointer (some ⟨P, 0, none⟩), .int .i64 sh, .int .i64 (n : Int)] w fun e w' => e = .returned (.tuple #[.int .i64 (a : Int), .int .i64 0]) ∧ HM w' M P room bs' ∧ Ke M w w' := by
  obtain ⟨cells, shapes, cv, zv, sv, h, hm⟩ := h
  obtain ⟨_, _, har⟩ := insB_fit h.fit hi
  have hfn := insB_fnd sh n 0 bs room
  rw [hi] at hfn
  obtain ⟨C, n0, rfl, _⟩ := h.cel.form (by omega)
  obtain ⟨Z, n1, rfl, _⟩ := h.siz.form (by omega)
  obtain ⟨S, n2, rfl, _⟩ := h.sha.form (by omega)
  obtain ⟨w1, hcl, hown, hgr⟩ := clear_row h.cel a (n + 1) (n0 - a) (by omega) (by omega)
  have HC := Lib.hid h
  have HFN := Lib.hid (show findV (fndB 0 bs room (n + 1)) = .tuple #[.int .i64 (a : Int), .bool true] by rw [← hfn]; rfl)
  have HQ := Lib.hid (h.insC hi hown hgr)
  have HMM := Lib.hid hm
  have hK : Ke M w ((w1.setCell ⟨Z, a, none⟩ (.int .i64 ((n : Int) + 1))).setCell ⟨S, a, none⟩ (.int .i64 sh)) :=
    (((Ke.refl.grown hgr (fun q e => by injection e with e; subst e; exact .inl (hm _ (.inr (.inl rfl))))).set a _ (.inl (hm Z (.inr (.inr (.inl rfl)))))).set a _ (.inl (hm S (.inr (.inr (.inr rfl))))))
  have HKE := Lib.hid hK
  obtain ⟨d0, d1, d2⟩ := h.cell0
  have hPC : P ≠ C := fun e => own_neP h.cel h.box (by decide) (by rw [e]; rfl)
  have hlt := (Array.getElem?_eq_some_iff.1 h.box).1
  have c1 : w1.cell? ⟨P, 1, none⟩ = some (.slice (some ⟨Z, 0, none⟩) room n1) := (World.cell?_of_block (hgr.block P hlt (fun e => by injection e with e; exact hPC e))).trans d1
  have c2 : w1.cell? ⟨P, 2, none⟩ = some (.slice (some ⟨S, 0, none⟩) room n2) := (World.cell?_of_block (hgr.block P hlt (fun e => by injection e with e; exact hPC e))).trans d2
  have hcap := (own_cap h.cel).1
  have hb1 : (0 : Int) ≤ (a : Int) + (n : Int) + 1 := by omega
  have hb2 : (a : Int) + (n : Int) + 1 ≤ (n0 : Int) := by omega
  have hb3 : ¬ n0 = a := by omega
  have hb4 : ((a : Int) + (n : Int) + 1).toNat = a + n + 1 := by omega
  have hb5 : a + n + 1 - a = n + 1 := by omega
  have hb6 : a ≤ a + n + 1 := by omega
  have hb7 : (a : Int) < (room : Int) := by omega
  have hb8 : a < room := by omega
  have hwr : IntKind.i64.wrap ((n : Int) + 1) = (n : Int) + 1 := IntWalk.i64_in _ (by omega)
  obtain ⟨u1, hu1⟩ : ∃ u, ((szL 0 bs room).map (Value.int .i64))[a]? = some u := ⟨_, List.getElem?_eq_getElem (by rw [List.length_map, szL_len h.fit]; omega)⟩
  obtain ⟨u2, hu2⟩ : ∃ u, (shapes.map (Value.int .i64))[a]? = some u := ⟨_, List.getElem?_eq_getElem (by rw [List.length_map, h.ls]; omega)⟩
  have hz1 := h.siz.kept hgr (.inr (by simp [Value.ownBlock]; exact fun e => own_ne h.siz h.cel (by decide) Z rfl (by rw [← e]; rfl)))
  have hs1 := h.sha.kept hgr (.inr (by simp [Value.ownBlock]; exact fun e => own_ne h.sha h.cel (by decide) S rfl (by rw [← e]; rfl)))
  have c3 := (own_cellC hz1 hu1).1
  have c4 := (own_cellC hs1 hu2).1
  have f3 := own_frozen hz1 a
  have f4 := own_frozen hs1 a
  have hZP : Z ≠ P := fun e => own_neP h.siz h.box (by decide) (by rw [e]; rfl)
  have hPZ : P ≠ Z := fun e => hZP e.symm
  have hSP : S ≠ P := fun e => own_neP h.sha h.box (by decide) (by rw [e]; rfl)
  have hPS : P ≠ S := fun e => hSP e.symm
  have hZS : Z ≠ S := fun e => h.dis Z rfl (by rw [e]; rfl)
  have hSZ : S ≠ Z := fun e => hZS e.symm
  clear hown hgr hz1 hs1 hu1 hu2 h hm hi hfn hK
  have hs0 : ¬ sh < 1 := by omega
  have hs4 : ¬ 4 < sh := by omega
  have hn0 : ¬ (n : Int) < 0 := by omega
  have hn3 : ¬ 300 < (n : Int) := by omega
  go_enter Try.func18, Try.ntmps18
  go_wp2_with fail
  refine Calls.mono (find_any HC.out (n + 1) (by omega) (by omega)) ?_
  rintro e w9 ⟨rfl, rfl⟩
  rw [HFN.out]
  go_wp2_with fail
  go_region_held3 (fun w' => w'.cell? ⟨P, 1, none⟩ = some (.slice (some ⟨Z, 0, none⟩) room n1) ∧ w'.cell? ⟨P, 2, none⟩ = some (.slice (some ⟨S, 0, none⟩) room n2)) (go_keep) (fail)
  have HQ2 := Lib.hid (HQ.out.below (Below.refl _ _).drew)
  have HK2 := Lib.hid HKE.out.drew
  clear HQ HKE
  generalize ((w1.setCell { block := Z, off := a } (Value.int IntKind.i64 (↑n + 1))).setCell { block := S, off := a } (Value.int IntKind.i64 sh)).drew = w2 at *
  go_wp2_with fail
  go_returns
  exact ⟨rfl, ⟨_, _, _, _, _, HQ2.out, HMM.out⟩, HK2.out⟩
theorem alloc_full {w : World} {M : Nat → Prop} {P room : Nat} {bs : List BK} (h : HM w M P room bs) (sh : Int) (n : Nat) (h63 : room ≤ 4000) (hs : 1 ≤ sh ∧ sh ≤ 4) (hn : n ≤ 300) (hi : insB sh n 0 bs room = none) :
    Calls Try.prog 18 #[.pointer (some ⟨P, 0, none⟩), .int .i64 sh, .int .i64 (n : Int)] w fun e w' => e = .returned (.tuple #[.int .i64 0, .int .i64 15]) ∧ w' = w := by
  obtain ⟨cells, shapes, cv, zv, sv, h, hm⟩ := h
  have hfn := insB_fnd sh n 0 bs room
  rw [hi] at hfn
  have HC := Lib.hid h
  have HFN := Lib.hid (show findV (fndB 0 bs room (n + 1)) = .tuple #[.int .i64 0, .bool false] by rw [← hfn]; rfl)
  clear h hm hi hfn
  have hs0 : ¬ sh < 1 := by omega
  have hs4 : ¬ 4 < sh := by omega
  have hn0 : ¬ (n : Int) < 0 := by omega
  have hn3 : ¬ 300 < (n : Int) := by omega
  go_enter Try.func18, Try.ntmps18
  go_wp2_with fail
  refine Calls.mono (find_any HC.out (n + 1) (by omega) (by omega)) ?_
  rintro e w9 ⟨rfl, rfl⟩
  rw [HFN.out]
  go_wp2_with fail
  go_returns
  exact ⟨rfl, rfl⟩
theorem alloc_bad {w : World} {P : Nat} (sh n : Int) (ne : Int) (hne : (sh < 1 ∨ 4 < sh) ∧ ne = 13 ∨ (1 ≤ sh ∧ sh ≤ 4) ∧ (n < 0 ∨ 300 < n) ∧ ne = 14) :
    Calls Try.prog 18 #[.pointer (some ⟨P, 0, none⟩), .int .i64 sh, .int .i64 n] w fun e w' => e = .returned (.tuple #[.int .i64 0, .int .i64 ne]) ∧ w' = w := by
  rcases hne with ⟨h | h, rfl⟩ | ⟨h, h2 | h2, rfl⟩
  · go_enter Try.func18, Try.ntmps18
    go_wp2_with fail
    go_returns
    exact ⟨rfl, rfl⟩
  · have h0 : ¬ sh < 1 := by omega
    go_enter Try.func18, Try.ntmps18
    go_wp2_with fail
    go_returns
    exact ⟨rfl, rfl⟩
  · have h0 : ¬ sh < 1 := by omega
    have h1 : ¬ 4 < sh := by omega
    go_enter Try.func18, Try.ntmps18
    go_wp2_with fail
    go_returns
    exact ⟨rfl, rfl⟩
  · have h0 : ¬ sh < 1 := by omega
    have h1 : ¬ 4 < sh := by omega
    have h3 : ¬ n < 0 := by omega
    go_enter Try.func18, Try.ntmps18
    go_wp2_with fail
    go_returns
    exact ⟨rfl, rfl⟩
theorem alloc_any {w : World} {M : Nat → Prop} {P room : Nat} {bs : List BK} (h : HM w M P room bs) (sh n : Int) (h63 : room ≤ 4000) :
    Calls Try.prog 18 #[.pointer (some ⟨P, 0, none⟩), .int .i64 sh, .int .i64 n] w fun e w' => e = .returned (.tuple #[.int .i64 (alR bs room sh n).1, .int .i64 (alR bs room sh n).2.1]) ∧ HM w' M P room (alR bs room sh n).2.2 ∧ Ke M w w' := by
  unfold alR
  split
  · rename_i h1
    refine Calls.mono (alloc_bad sh n 13 (.inl ⟨h1, rfl⟩)) ?_
    rintro e w' ⟨rfl, rfl⟩
    exact ⟨rfl, h, Ke.refl⟩
  · rename_i h1
    split
    · rename_i h2
      refine Calls.mono (alloc_bad sh n 14 (.inr ⟨by omega, h2, rfl⟩)) ?_
      rintro e w' ⟨rfl, rfl⟩
      exact ⟨rfl, h, Ke.refl⟩
    · rename_i h2
      obtain ⟨m, rfl⟩ : ∃ m : Nat, n = (m : Int) := ⟨n.toNat, by omega⟩
      rw [Int.toNat_natCast]
      split
      · rename_i hi
        refine Calls.mono (alloc_full h sh m h63 (by omega) (by omega) hi) ?_
        rintro e w' ⟨rfl, rfl⟩
        exact ⟨rfl, h, Ke.refl⟩
      · rename_i p hi
        exact alloc_in h sh m p.1 h63 (by omega) (by omega) hi
end Go.Proofs.Ythogfcdgbodccaa
