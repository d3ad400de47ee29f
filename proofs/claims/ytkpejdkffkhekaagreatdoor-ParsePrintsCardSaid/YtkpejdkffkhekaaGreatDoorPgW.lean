/- What a node's kids must be: the program's 'wants'. Conditions: none. -/
import Derived.Test.YtkpejdkffkhekaaGreatDoorPgK
import Derived.Deep.RegionLaw
import Derived.BigQuiet
set_option maxRecDepth 100000
namespace Go.Proofs.YtkpejdkffkhekaaGreatDoor
open Go.ChangeShapes Go.WideShapes Go.ChangeAt Go.RowKit
theorem Rd.lits (w : World) (cs : Array Value) (t : TypeId) (n size : Nat) (hs : cs.size = n * size) (g : Nat) (hg : g = w.heap.size) : Rd (w.alloc (.cells cs t)) (w.heap.size + 1) size (some ⟨g, 0, none⟩) n cs.toList := by subst hg; exact Rd.lit w cs t n size hs
section
variable {X : Type} {S : Shp X} {w : World} {M : Nat → Prop}
theorem Shp.all2 {c d : List Value} {x y : X} (h : S.rd w M c x) (k : S.rd w M d y) : S.all w M [c, d] [x, y] := (Shp.all1 h).snoc k
theorem Shp.all3 {c d e : List Value} {x y z : X} (h : S.rd w M c x) (k : S.rd w M d y) (l : S.rd w M e z) : S.all w M [c, d, e] [x, y, z] := ((Shp.all1 h).snoc k).snoc l
end
def ndV (x : ND) (A : Option Addr) (c : Nat) : Value := .agg #[.int .i64 x.kind, .string x.text, .string x.typ, .int .i64 x.num, .slice A x.kids.length c]
/-- What 'wants' answers. -/
def WantP (x : ND) (w : World) (e : Ending) (w' : World) : Prop :=
  ∃ v, e = .returned (.tuple #[v, .bool (okW x)]) ∧ (okW x = true → (Shp.slice FV.sh).rd w' (fun b => w.heap.size ≤ b ∧ b < w'.heap.size) [v] (wnL x)) ∧ Below w.heap.size w w'
theorem Wl.down {E0 base g : Nat} {v : Value} {T : List FV} {w : World} (h : Wl E0 base g v T w) : Wl E0 E0 g v T w := ⟨h.ce, h.ow.base h.el, h.fr, h.lt, Nat.le_refl _, Nat.le_trans h.el h.le⟩
theorem wl_end {w w0 : World} {g : Nat} {v : Value} {T : List FV} {x : ND} (h : Wl (w.heap.size + 2) (w.heap.size + 2) g v T w0) (hT : T = wnL x) : (Shp.slice FV.sh).rd w0 (fun b => w.heap.size ≤ b ∧ b < w0.heap.size) [v] (wnL x) :=
  hT ▸ (Shp.slice FV.sh).more h.ow.readN fun b hb => ⟨by omega, hb.2⟩
theorem kx_end {w w0 : World} {g : Nat} (h : Kx w.heap.size g w w0) (hg : w.heap.size ≤ g) : Below w.heap.size w w0 := ⟨h.os, h.tape, h.output, h.size, fun k hk => h.block k (by omega) (by omega)⟩
theorem wl_start (w : World) (o : Obj) : Wl (w.heap.size + 2) (w.heap.size + 2) (w.heap.size + 1) (.slice none 0 0) [] ((w.alloc o).alloc (.cells #[.slice none 0 0] 64)) :=
  ⟨by simp [go_sem], Own.nil, by simp [go_sem], by omega, Nat.le_refl _, by simp⟩
theorem kx_start (w : World) (o p : Obj) (g : Nat) : Kx w.heap.size g w ((w.alloc o).alloc p) := Kx.below (sq (al _) (al _))
theorem want_end {x : ND} {w w0 : World} {g nq : Nat} {v : Value} {T : List FV} {b : Bool} (h : Wl (w.heap.size + 2) (w.heap.size + 2) g v T w0) (hk : Kx w.heap.size g w w0) (hg : w.heap.size ≤ g) (hT : T = wnL x) (hn : known x.kind = true) (hb : b = decide ((T.length : Int) = (x.kids.length : Int))) : WantP x w (.returned (.tuple #[v, .bool b])) (w0.drewN nq) := by
  have hd : Below w0.heap.size w0 (w0.drewN nq) := dr (Below.refl _ _) nq
  have e : okW x = b := by
    rw [hb, hT]
    unfold okW
    rw [hn, Bool.true_and, Bool.eq_iff_iff]
    simp only [decide_eq_true_eq]
    constructor <;> intro h <;> omega
  rw [← e]
  exact ⟨v, rfl, fun _ => wl_end ⟨(hd.cell (p := ⟨g, 0, none⟩) (Nat.lt_of_lt_of_le h.lt h.le)).trans h.ce, h.ow.below hd, (hd.frozen (p := ⟨g, 0, none⟩) (Nat.lt_of_lt_of_le h.lt h.le)).trans h.fr, h.lt, h.el, h.le⟩ hT, (kx_end hk hg).trans (hd.mono hk.size)⟩
theorem want_end0 {x : ND} {w w0 : World} {g : Nat} {v : Value} {T : List FV} {b : Bool} (h : Wl (w.heap.size + 2) (w.heap.size + 2) g v T w0) (hk : Kx w.heap.size g w w0) (hg : w.heap.size ≤ g) (hT : T = wnL x) (hn : known x.kind = true) (hb : b = decide ((T.length : Int) = (x.kids.length : Int))) : WantP x w (.returned (.tuple #[v, .bool b])) w0 := want_end (nq := 0) h hk hg hT hn hb
theorem far_c {E0 base g n i : Nat} {v : Value} {T : List FV} {w0 wr W w5 : World} {u : Value} (h : Wl E0 base g v T wr) (_ : Kx n g w0 wr) (hg : W.grownBy w5 v.ownBlock) (hb : Below wr.heap.size wr W) (hc : wr.cell? ⟨n, i, none⟩ = some u) (hn : n < E0 := by omega) : w5.cell? ⟨n, i, none⟩ = some u := by
  have l2 := h.el
  have l3 := h.le
  exact (hg.cell_far ⟨n, i, none⟩ (by have := hb.size; show n < _; omega) (fun e => by have := (h.ow.ownlt e.symm).1; show False; have : base ≤ n := this; omega)).trans ((hb.cell (p := ⟨n, i, none⟩) (by show n < _; omega)).trans hc)
theorem Wl.nextC {E0 base g n i : Nat} {v v5 : Value} {T T5 : List FV} {w0 wr W w5 : World} {u : Value} (h : Wl E0 base g v T wr) (hx : Kx n g w0 wr) (hb : Below wr.heap.size wr W) (hg : W.grownBy w5 v.ownBlock) (ho : Own FV.sh 51 w5 base (· < E0) v5 T5) (hc : wr.cell? ⟨n, i, none⟩ = some u) (hn : n < E0 := by omega) (hng : n ≠ g := by omega) : Wl E0 base g v5 T5 (w5.setCell ⟨g, 0, none⟩ v5) ∧ Kx base g wr (w5.setCell ⟨g, 0, none⟩ v5) ∧ (w5.setCell ⟨g, 0, none⟩ v5).cell? ⟨n, i, none⟩ = some u := by
  obtain ⟨a1, a2⟩ := h.next hb hg ho
  exact ⟨a1, a2, (World.cell?_of_block (a := ⟨n, i, none⟩) (Below.heap_setCell _ _ _ _ (by show n ≠ g; exact hng))).trans (far_c h hx hg hb hc hn)⟩
set_option maxHeartbeats 4000000 in
theorem wants_none (x : ND) (A : Option Addr) (c : Nat) (w : World) (hk : x.kind = 3 ∨ x.kind = 4 ∨ x.kind = 6 ∨ x.kind = 12 ∨ x.kind = 13 ∨ x.kind = 21 ∨ x.kind = 22 ∨ x.kind = 23 ∨ x.kind = 24 ∨ x.kind = 25 ∨ x.kind = 31) : Calls Tryz.prog 37 #[ndV x A c] w (WantP x w) := by
  have hmf : ∀ (fn : Fn) (first cap : Array Value) (w : World), (Instr.makeFunc fn first cap).run Tryz.prog w = .ok (.func fn first cap) w := fun _ _ _ _ => rfl
  obtain ⟨kd, tx, ty, nm, ks⟩ := x
  unfold ndV
  simp only at hk ⊢
  have HW := Lib.hid (wl_start w (.cells #[.int .i64 kd, .string tx, .string ty, .int .i64 nm, .slice A ks.length c] 31))
  rcases hk with rfl | rfl | rfl | rfl | rfl | rfl | rfl | rfl | rfl | rfl | rfl
  all_goals (
    go_enter Tryz.func37, Tryz.ntmps37
    go_wp2_with fail)
  all_goals (
    go_quiet (fail)
    go_wp2_with fail
    go_returns
    exact want_end HW.out (kx_start _ _ _ _) (by omega) rfl rfl (by rw [Bool.eq_iff_iff]; simp))
set_option maxHeartbeats 4000000 in
theorem wants_expr (x : ND) (A : Option Addr) (c : Nat) (w : World) (hk : x.kind = 7 ∨ x.kind = 26) : Calls Tryz.prog 37 #[ndV x A c] w (WantP x w) := by
  have hmf : ∀ (fn : Fn) (first cap : Array Value) (w : World), (Instr.makeFunc fn first cap).run Tryz.prog w = .ok (.func fn first cap) w := fun _ _ _ _ => rfl
  obtain ⟨j0, hj, jz0, jz1, jz2⟩ := info_parts info_fv
  obtain ⟨kd, tx, ty, nm, ks⟩ := x
  unfold ndV
  simp only at hk ⊢
  have HW := Lib.hid (wl_start w (.cells #[.int .i64 kd, .string tx, .string ty, .int .i64 nm, .slice A ks.length c] 31))
  have HX := Lib.hid (kx_start w (.cells #[.int .i64 kd, .string tx, .string ty, .int .i64 nm, .slice A ks.length c] 31) (.cells #[.slice none 0 0] 64) (w.heap.size + 1))
  have HN := Lib.hid (show ((w.alloc (.cells #[.int .i64 kd, .string tx, .string ty, .int .i64 nm, .slice A ks.length c] 31)).alloc (.cells #[.slice none 0 0] 64)).cell? ⟨w.heap.size, 4, none⟩ = some (.slice A ks.length c) by simp [go_sem])
  rcases hk with rfl | rfl
  all_goals (
    go_enter Tryz.func37, Tryz.ntmps37
    go_wp2_with (first | (at_builtin; refine wpList_append_Own (S := FV.sh) rfl _ _ 64 rfl (w.heap.size + 2) 51 j0 _ 8 Tryz.underlying64 hj jz0 jz1 jz2 rfl (by show 0 < 1; omega) (· < w.heap.size + 2) _ _ rfl (HW.out.ow.below (al _)) _ _ 1 1 _ [[.func (.func 53) #[] #[]]] [.expr] rfl (Rd.lits _ #[.func (.func 53) #[] #[]] _ 1 1 rfl _ (by simp)) rfl rfl (Shp.all1 ⟨_, rfl, rfl⟩) (by simp <;> unfold maxLen <;> omega) (by simp <;> omega) (by simp <;> omega) ?_; intro A5 c5 w5 hown5 hgrow5 _; obtain ⟨g5, z5⟩ := HW.out.far (al _) hgrow5; have n5 := far_c (i := 4) HW.out HX.out hgrow5 (al _) HN.out; have ⟨a1, a2, a3⟩ := HW.out.nextC HX.out (al _) hgrow5 hown5 HN.out; have HW := Lib.hid a1; have HX := Lib.hid (HX.out.trans (a2.down (by omega))); have HN := Lib.hid a3; clear a1 a2 a3 hown5 hgrow5) | fail "no")
    go_quiet (fail)
    go_wp2_with fail
    go_returns
    exact want_end HW.out HX.out (by omega) rfl rfl (by rw [Bool.eq_iff_iff]; simp))
set_option maxHeartbeats 4000000 in
theorem wants_two (x : ND) (A : Option Addr) (c : Nat) (w : World) (hk : x.kind = 8 ∨ x.kind = 27 ∨ x.kind = 29) : Calls Tryz.prog 37 #[ndV x A c] w (WantP x w) := by
  have hmf : ∀ (fn : Fn) (first cap : Array Value) (w : World), (Instr.makeFunc fn first cap).run Tryz.prog w = .ok (.func fn first cap) w := fun _ _ _ _ => rfl
  obtain ⟨j0, hj, jz0, jz1, jz2⟩ := info_parts info_fv
  obtain ⟨kd, tx, ty, nm, ks⟩ := x
  unfold ndV
  simp only at hk ⊢
  have HW := Lib.hid (wl_start w (.cells #[.int .i64 kd, .string tx, .string ty, .int .i64 nm, .slice A ks.length c] 31))
  have HX := Lib.hid (kx_start w (.cells #[.int .i64 kd, .string tx, .string ty, .int .i64 nm, .slice A ks.length c] 31) (.cells #[.slice none 0 0] 64) (w.heap.size + 1))
  have HN := Lib.hid (show ((w.alloc (.cells #[.int .i64 kd, .string tx, .string ty, .int .i64 nm, .slice A ks.length c] 31)).alloc (.cells #[.slice none 0 0] 64)).cell? ⟨w.heap.size, 4, none⟩ = some (.slice A ks.length c) by simp [go_sem])
  rcases hk with rfl | rfl | rfl
  all_goals (
    go_enter Tryz.func37, Tryz.ntmps37
    go_wp2_with (first | (at_builtin; refine wpList_append_Own (S := FV.sh) rfl _ _ 64 rfl (w.heap.size + 2) 51 j0 _ 8 Tryz.underlying64 hj jz0 jz1 jz2 rfl (by show 0 < 1; omega) (· < w.heap.size + 2) _ _ rfl (HW.out.ow.below (al _)) _ _ 2 2 _ [[.func (.func 53) #[] #[]], [.func (.func 53) #[] #[]]] [.expr, .expr] rfl (Rd.lits _ #[.func (.func 53) #[] #[], .func (.func 53) #[] #[]] _ 2 1 rfl _ (by simp)) rfl rfl (Shp.all2 ⟨_, rfl, rfl⟩ ⟨_, rfl, rfl⟩) (by simp <;> unfold maxLen <;> omega) (by simp <;> omega) (by simp <;> omega) ?_; intro A5 c5 w5 hown5 hgrow5 _; obtain ⟨g5, z5⟩ := HW.out.far (al _) hgrow5; have n5 := far_c (i := 4) HW.out HX.out hgrow5 (al _) HN.out; have ⟨a1, a2, a3⟩ := HW.out.nextC HX.out (al _) hgrow5 hown5 HN.out; have HW := Lib.hid a1; have HX := Lib.hid (HX.out.trans (a2.down (by omega))); have HN := Lib.hid a3; clear a1 a2 a3 hown5 hgrow5) | fail "no")
    go_quiet (fail)
    go_wp2_with fail
    go_returns
    exact want_end HW.out HX.out (by omega) rfl rfl (by rw [Bool.eq_iff_iff]; simp))
set_option maxHeartbeats 4000000 in
theorem wants_slice (x : ND) (A : Option Addr) (c : Nat) (w : World) (hk : x.kind = 30) : Calls Tryz.prog 37 #[ndV x A c] w (WantP x w) := by
  have hmf : ∀ (fn : Fn) (first cap : Array Value) (w : World), (Instr.makeFunc fn first cap).run Tryz.prog w = .ok (.func fn first cap) w := fun _ _ _ _ => rfl
  obtain ⟨j0, hj, jz0, jz1, jz2⟩ := info_parts info_fv
  obtain ⟨kd, tx, ty, nm, ks⟩ := x
  unfold ndV
  simp only at hk ⊢
  have HW := Lib.hid (wl_start w (.cells #[.int .i64 kd, .string tx, .string ty, .int .i64 nm, .slice A ks.length c] 31))
  have HX := Lib.hid (kx_start w (.cells #[.int .i64 kd, .string tx, .string ty, .int .i64 nm, .slice A ks.length c] 31) (.cells #[.slice none 0 0] 64) (w.heap.size + 1))
  have HN := Lib.hid (show ((w.alloc (.cells #[.int .i64 kd, .string tx, .string ty, .int .i64 nm, .slice A ks.length c] 31)).alloc (.cells #[.slice none 0 0] 64)).cell? ⟨w.heap.size, 4, none⟩ = some (.slice A ks.length c) by simp [go_sem])
  rcases hk with rfl
  all_goals (
    go_enter Tryz.func37, Tryz.ntmps37
    go_wp2_with (first | (at_builtin; refine wpList_append_Own (S := FV.sh) rfl _ _ 64 rfl (w.heap.size + 2) 51 j0 _ 8 Tryz.underlying64 hj jz0 jz1 jz2 rfl (by show 0 < 1; omega) (· < w.heap.size + 2) _ _ rfl (HW.out.ow.below (al _)) _ _ 3 3 _ [[.func (.func 53) #[] #[]], [.func (.func 58) #[] #[]], [.func (.func 58) #[] #[]]] [.expr, .orNone, .orNone] rfl (Rd.lits _ #[.func (.func 53) #[] #[], .func (.func 58) #[] #[], .func (.func 58) #[] #[]] _ 3 1 rfl _ (by simp)) rfl rfl (Shp.all3 ⟨_, rfl, rfl⟩ ⟨_, rfl, rfl⟩ ⟨_, rfl, rfl⟩) (by simp <;> unfold maxLen <;> omega) (by simp <;> omega) (by simp <;> omega) ?_; intro A5 c5 w5 hown5 hgrow5 _; obtain ⟨g5, z5⟩ := HW.out.far (al _) hgrow5; have n5 := far_c (i := 4) HW.out HX.out hgrow5 (al _) HN.out; have ⟨a1, a2, a3⟩ := HW.out.nextC HX.out (al _) hgrow5 hown5 HN.out; have HW := Lib.hid a1; have HX := Lib.hid (HX.out.trans (a2.down (by omega))); have HN := Lib.hid a3; clear a1 a2 a3 hown5 hgrow5) | fail "no")
    go_quiet (fail)
    go_wp2_with fail
    go_returns
    exact want_end HW.out HX.out (by omega) rfl rfl (by rw [Bool.eq_iff_iff]; simp))
set_option maxHeartbeats 4000000 in
theorem wants_block (x : ND) (A : Option Addr) (c : Nat) (w : World) (hk : x.kind = 5) (hl : x.kids.length * 8 ≤ 140737488351232) : Calls Tryz.prog 37 #[ndV x A c] w (WantP x w) := by
  have hmf : ∀ (fn : Fn) (first cap : Array Value) (w : World), (Instr.makeFunc fn first cap).run Tryz.prog w = .ok (.func fn first cap) w := fun _ _ _ _ => rfl
  obtain ⟨j0, hj, jz0, jz1, jz2⟩ := info_parts info_fv
  obtain ⟨kd, tx, ty, nm, ks⟩ := x
  unfold ndV
  simp only at hk ⊢
  have HW := Lib.hid (wl_start w (.cells #[.int .i64 kd, .string tx, .string ty, .int .i64 nm, .slice A ks.length c] 31))
  have HX := Lib.hid (kx_start w (.cells #[.int .i64 kd, .string tx, .string ty, .int .i64 nm, .slice A ks.length c] 31) (.cells #[.slice none 0 0] 64) (w.heap.size + 1))
  have HN := Lib.hid (show ((w.alloc (.cells #[.int .i64 kd, .string tx, .string ty, .int .i64 nm, .slice A ks.length c] 31)).alloc (.cells #[.slice none 0 0] 64)).cell? ⟨w.heap.size, 4, none⟩ = some (.slice A ks.length c) by simp [go_sem])
  rcases hk with rfl
  all_goals (
    go_enter Tryz.func37, Tryz.ntmps37
    go_wp2_with fail
    refine Calls.mono (all_any (T := []) (fv := .stated) (n := ks.length) (c := c) (A := A) HW.out (by exact rfl) (by omega) (by omega) HN.out hl) ?_
    rintro e w5 ⟨rfl, ⟨v5, hw5⟩, hk5⟩
    have g5 := hw5.ce
    have z5 := hw5.fr
    have n5 := (World.cell?_of_block (a := ⟨w.heap.size, 4, none⟩) (hk5.block w.heap.size (by omega) (by omega))).trans HN.out
    have HX := Lib.hid (HX.out.trans (hk5.down (by omega)))
    obtain ⟨A9, c9, e9⟩ := hw5.ow.form
    rw [show (([] : List FV) ++ List.replicate (ks.length - ([] : List FV).length) FV.stated).length = ks.length from by simp <;> omega] at e9
    subst e9
    have HW := Lib.hid hw5.down
    clear hw5 hk5
    go_wp2_with fail
    go_quiet (fail)
    go_wp2_with fail
    go_returns
    refine want_end (T := ([] : List FV) ++ List.replicate (ks.length - ([] : List FV).length) FV.stated) HW.out HX.out (by omega) (by simp [wnL]) rfl (by simp <;> omega))
set_option maxHeartbeats 4000000 in
theorem wants_list (x : ND) (A : Option Addr) (c : Nat) (w : World) (hk : x.kind = 32) (hl : x.kids.length * 8 ≤ 140737488351232) : Calls Tryz.prog 37 #[ndV x A c] w (WantP x w) := by
  have hmf : ∀ (fn : Fn) (first cap : Array Value) (w : World), (Instr.makeFunc fn first cap).run Tryz.prog w = .ok (.func fn first cap) w := fun _ _ _ _ => rfl
  obtain ⟨j0, hj, jz0, jz1, jz2⟩ := info_parts info_fv
  obtain ⟨kd, tx, ty, nm, ks⟩ := x
  unfold ndV
  simp only at hk ⊢
  have HW := Lib.hid (wl_start w (.cells #[.int .i64 kd, .string tx, .string ty, .int .i64 nm, .slice A ks.length c] 31))
  have HX := Lib.hid (kx_start w (.cells #[.int .i64 kd, .string tx, .string ty, .int .i64 nm, .slice A ks.length c] 31) (.cells #[.slice none 0 0] 64) (w.heap.size + 1))
  have HN := Lib.hid (show ((w.alloc (.cells #[.int .i64 kd, .string tx, .string ty, .int .i64 nm, .slice A ks.length c] 31)).alloc (.cells #[.slice none 0 0] 64)).cell? ⟨w.heap.size, 4, none⟩ = some (.slice A ks.length c) by simp [go_sem])
  rcases hk with rfl
  all_goals (
    go_enter Tryz.func37, Tryz.ntmps37
    go_wp2_with fail
    refine Calls.mono (all_any (T := []) (fv := .expr) (n := ks.length) (c := c) (A := A) HW.out (by exact rfl) (by omega) (by omega) HN.out hl) ?_
    rintro e w5 ⟨rfl, ⟨v5, hw5⟩, hk5⟩
    have g5 := hw5.ce
    have z5 := hw5.fr
    have n5 := (World.cell?_of_block (a := ⟨w.heap.size, 4, none⟩) (hk5.block w.heap.size (by omega) (by omega))).trans HN.out
    have HX := Lib.hid (HX.out.trans (hk5.down (by omega)))
    obtain ⟨A9, c9, e9⟩ := hw5.ow.form
    rw [show (([] : List FV) ++ List.replicate (ks.length - ([] : List FV).length) FV.expr).length = ks.length from by simp <;> omega] at e9
    subst e9
    have HW := Lib.hid hw5.down
    clear hw5 hk5
    go_wp2_with fail
    go_quiet (fail)
    go_wp2_with fail
    go_returns
    refine want_end (T := ([] : List FV) ++ List.replicate (ks.length - ([] : List FV).length) FV.expr) HW.out HX.out (by omega) (by simp [wnL]) rfl (by simp <;> omega))
set_option maxHeartbeats 4000000 in
theorem wants_call (x : ND) (A : Option Addr) (c : Nat) (w : World) (hk : x.kind = 28) (hk0 : 0 < x.kids.length) (hl : x.kids.length * 8 ≤ 140737488351232) : Calls Tryz.prog 37 #[ndV x A c] w (WantP x w) := by
  have hmf : ∀ (fn : Fn) (first cap : Array Value) (w : World), (Instr.makeFunc fn first cap).run Tryz.prog w = .ok (.func fn first cap) w := fun _ _ _ _ => rfl
  obtain ⟨j0, hj, jz0, jz1, jz2⟩ := info_parts info_fv
  obtain ⟨kd, tx, ty, nm, ks⟩ := x
  unfold ndV
  simp only at hk ⊢
  have HW := Lib.hid (wl_start w (.cells #[.int .i64 kd, .string tx, .string ty, .int .i64 nm, .slice A ks.length c] 31))
  have HX := Lib.hid (kx_start w (.cells #[.int .i64 kd, .string tx, .string ty, .int .i64 nm, .slice A ks.length c] 31) (.cells #[.slice none 0 0] 64) (w.heap.size + 1))
  have HN := Lib.hid (show ((w.alloc (.cells #[.int .i64 kd, .string tx, .string ty, .int .i64 nm, .slice A ks.length c] 31)).alloc (.cells #[.slice none 0 0] 64)).cell? ⟨w.heap.size, 4, none⟩ = some (.slice A ks.length c) by simp [go_sem])
  rcases hk with rfl
  all_goals (
    go_enter Tryz.func37, Tryz.ntmps37
    go_wp2_with (first | (at_builtin; refine wpList_append_Own (S := FV.sh) rfl _ _ 64 rfl (w.heap.size + 2) 51 j0 _ 8 Tryz.underlying64 hj jz0 jz1 jz2 rfl (by show 0 < 1; omega) (· < w.heap.size + 2) _ _ rfl (HW.out.ow.below (al _)) _ _ 1 1 _ [[.func (.func 53) #[] #[]]] [.expr] rfl (Rd.lits _ #[.func (.func 53) #[] #[]] _ 1 1 rfl _ (by simp)) rfl rfl (Shp.all1 ⟨_, rfl, rfl⟩) (by simp <;> unfold maxLen <;> omega) (by simp <;> omega) (by simp <;> omega) ?_; intro A5 c5 w5 hown5 hgrow5 _; obtain ⟨g5, z5⟩ := HW.out.far (al _) hgrow5; have n5 := far_c (i := 4) HW.out HX.out hgrow5 (al _) HN.out; have ⟨a1, a2, a3⟩ := HW.out.nextC HX.out (al _) hgrow5 hown5 HN.out; have HW := Lib.hid a1; have HX := Lib.hid (HX.out.trans (a2.down (by omega))); have HN := Lib.hid a3; clear a1 a2 a3 hown5 hgrow5) | fail "no")
    go_wp2_with fail
    refine Calls.mono (all_any (T := [FV.expr]) (fv := .expr) (n := ks.length) (c := c) (A := A) HW.out (by exact rfl) (by omega) (by omega) HN.out hl) ?_
    rintro e w5 ⟨rfl, ⟨v5, hw5⟩, hk5⟩
    have g5 := hw5.ce
    have z5 := hw5.fr
    have n5 := (World.cell?_of_block (a := ⟨w.heap.size, 4, none⟩) (hk5.block w.heap.size (by omega) (by omega))).trans HN.out
    have HX := Lib.hid (HX.out.trans (hk5.down (by omega)))
    obtain ⟨A9, c9, e9⟩ := hw5.ow.form
    rw [show (([FV.expr] : List FV) ++ List.replicate (ks.length - ([FV.expr] : List FV).length) FV.expr).length = ks.length from by simp <;> omega] at e9
    subst e9
    have HW := Lib.hid hw5.down
    clear hw5 hk5
    go_wp2_with fail
    go_quiet (fail)
    go_wp2_with fail
    go_returns
    refine want_end (T := ([FV.expr] : List FV) ++ List.replicate (ks.length - ([FV.expr] : List FV).length) FV.expr) HW.out HX.out (by omega) (by simp [wnL]) rfl (by simp <;> omega))
end Go.Proofs.YtkpejdkffkhekaaGreatDoor
